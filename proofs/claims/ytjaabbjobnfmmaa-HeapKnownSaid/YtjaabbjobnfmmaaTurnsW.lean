/-
  The walk of HeapTurns.
-/
import Derived.Test.YtjaabbjobnfmmaaTurnsLaw
import Derived.Test.YtjaabbjobnfmmaaBools
import Derived.Deep.QuietTactic
import Derived.BigQuiet
import Derived.Test.YtjaabbjobnfmmaaOut
import Derived.Test.YtjaabbjobnfmmaaWorksB
namespace Go.Proofs.Ytjaabbjobnfmmaa
open Go.RowKit

theorem size32 (W : World) : (sizeOf 32).run Try.prog W = .ok 4 W := by go_simp
theorem DeedsIn.cut {w : World} {a : Option Addr} {b off : Nat} {l : List Dd} (h : DeedsIn w a b off l) (n cap : Nat) : DeedsIn w (cutA a cap 0 4) b off (l.take n) := by
  refine ⟨fun h0 => ?_, fun i hi => ?_, fun h0 => ?_, fun d hd => h.wf d (List.mem_of_mem_take hd), by have := h.small; simp; omega⟩
  · exact cutA_zero (h.addr (by simp at h0; omega))
  · have hi' : i < l.length := by simp at hi; omega
    have := h.cells i hi'
    simpa using this
  · exact h.lt (by simp at h0; omega)

/-- How the loop of HeapTurns stands. -/
structure TuRel (w wr : World) (g : Nat) (l : List Dd) (k : Nat) (S : List Ob) (log : List (Bool × Dd)) : Prop where
  heap : HeapIs wr (w.heap.size + 1) w.heap.size S
  len : S.length ≤ k
  ll : log.length = k
  same : ∀ j (h : j < l.length) (h' : j < log.length), log[j].2 = l[j]
  turns : Turns S log
  row : BRow wr g (log.map (·.1) ++ List.replicate (l.length - k) false)
  fr : Fr0 w wr
  glt : w.heap.size + 1 < g

theorem TuRel.start {w w1 : World} {l : List Dd} (hf : Fr0 w w1) (hh : HeapIs w1 (w.heap.size + 1) w.heap.size []) :
    TuRel w (w1.alloc (.cells (Array.replicate l.length (Value.bool false)) 4)) w1.heap.size l 0 [] [] := by
  refine ⟨hh.fr0 (fr0_alloc _ _), Nat.le_refl _, rfl, fun j h h' => absurd h' (Nat.not_lt_zero _), fun x => rfl, ?_, hf.trans0 (fr0_alloc _ _), lt_of_block hh.1⟩
  have := alloc_block w1 (.cells (Array.replicate l.length (Value.bool false)) 4)
  unfold BRow
  rw [this]
  simp

theorem TuRel.row_get {w wr : World} {g : Nat} {l : List Dd} {k : Nat} {S : List Ob} {log : List (Bool × Dd)} (h : TuRel w wr g l k S log) (hk : k < l.length) (c : Bool) :
    (log.map (·.1) ++ List.replicate (l.length - k) false).set k c = (log ++ [(c, l[k])]).map (·.1) ++ List.replicate (l.length - (k + 1)) false := by
  have hl : (log.map (·.1)).length = k := by simp [h.ll]
  rw [List.set_append_right _ _ (by omega), hl, Nat.sub_self]
  have e : l.length - k = (l.length - (k + 1)) + 1 := by omega
  rw [e, List.replicate_succ, List.set_cons_zero]
  simp

/-- Behind a deed and its mark. -/
theorem TuRel.step {w wr w' : World} {g : Nat} {l : List Dd} {k : Nat} {S : List Ob} {log : List (Bool × Dd)} (h : TuRel w wr g l k S log) (hk : k < l.length) (hnd : S.Nodup) (hf : Fr (· = w.heap.size) wr w') (hh : HeapIs w' (w.heap.size + 1) w.heap.size (hdo S l[k].k l[k].x).2) :
    TuRel w (w'.setCell ⟨g, k, none⟩ (.bool (decide ((hdo S l[k].k l[k].x).1 = 0)))) g l (k + 1) (hdo S l[k].k l[k].x).2 (log ++ [(decide ((hdo S l[k].k l[k].x).1 = 0), l[k])]) := by
  have hg := h.glt
  have hr := (h.row.fr hf (by omega)).set k (decide ((hdo S l[k].k l[k].x).1 = 0))
  rw [h.row_get hk] at hr
  refine ⟨hh.fr ((Fr.refl (· = g) w').setCell (p := ⟨g, k, none⟩) (fun _ => rfl) _) (by omega) (by omega), ?_, by simp [h.ll], fun j hj hj' => ?_, turns_step hnd h.turns l[k], hr, (h.fr.trans hf (fun i hi e => by omega)).setCell (p := ⟨g, k, none⟩) (fun hi => by simp at hi; omega) _, hg⟩
  · have h2 := List.length_erase_le (a := l[k].x) (l := S)
    have h1 : (ins S l[k].x).length ≤ S.length + 1 := by unfold ins; split <;> simp
    have := h.len
    unfold hdo
    split
    · simp; omega
    · split
      · simp; omega
      · split
        · simp; omega
        · split
          · simp; omega
          · simp; omega
  · by_cases e : j < log.length
    · rw [List.getElem_append_left e]; exact h.same j hj e
    · have : j = k := by simp [h.ll] at hj' e; omega
      subst this
      rw [List.getElem_append_right (by rw [h.ll]; exact Nat.le_refl _)]
      simp [h.ll]
theorem TuRel.fr0 {w wr w' : World} {g : Nat} {l : List Dd} {k : Nat} {S : List Ob} {log : List (Bool × Dd)} (h : TuRel w wr g l k S log) (hf : Fr0 wr w') : TuRel w w' g l k S log :=
  ⟨h.heap.fr0 hf, h.len, h.ll, h.same, h.turns, h.row.fr0 hf, h.fr.trans0 hf, h.glt⟩

set_option maxRecDepth 100000 in
set_option maxHeartbeats 4000000 in
theorem heapTurns_walk (a : Option Addr) (b off cap : Nat) (l0 : List Dd) (w : World) (h0 : DeedsIn w a b off l0) (hcap : l0.length ≤ cap) :
    Calls Try.prog 14 #[.slice a l0.length cap] w fun e w' => e = .returned (.bool true) ∧ Fr0 w w' := by
  have hsm := h0.small
  have HD0 := hid h0
  clear h0
  go_enter Try.func14, Try.ntmps14
  go_wp2_with (go_at_call 18; refine (works_any _).mono ?_; rintro e w5 ⟨rfl, hf5⟩)
  have H5 := hid hf5
  have HD1 := hid (HD0.out.fr hf5 (fun h => h))
  clear hf5 HD0
  refine (new_any _).mono ?_
  rintro e w1 ⟨rfl, hf1, hh1⟩
  have H1 := hid (And.intro hf1 hh1)
  clear hf1 hh1
  obtain ⟨n, hn, hn1, hn2, hmin⟩ : ∃ n : Nat, (l0.take n).length = n ∧ n ≤ 150 ∧ n ≤ cap ∧ min (l0.length : Int) 150 = (n : Int) := ⟨min l0.length 150, by simp [Nat.min_comm], by omega, by omega, by omega⟩
  have hsl := fun W => slice_upto (P := Try.prog) (a := a) (n := l0.length) (cap := cap) Try.underlying22 W (size32 W) n hn2
  have hmk := fun W => makeBools n (by omega) W
  have HD := hid (HD1.out.cut n cap)
  go_wp2_with fail
  generalize hl : l0.take n = l at hn HD
  generalize cutA a cap 0 4 = a' at HD
  clear hl hsl hmin
  obtain rfl : l.length = n := hn
  have HT := hid (TuRel.start (l := l) H1.out.1 H1.out.2)
  clear HD1 H1 hmk
  generalize w1.heap.size = g at HT ⊢
  go_loopw [5] (fun i wr => ∃ k : Nat, i = .int .i64 k ∧ k ≤ l.length ∧ Hid (∃ S log, TuRel w5 wr g l k S log)) (fun i _ => l.length - (intOf i).toNat)
  case atStart => exact ⟨0, rfl, Nat.zero_le _, hid ⟨_, _, HT.out⟩⟩
  case round =>
    obtain ⟨k, rfl, hk, hR⟩ := hrel
    obtain ⟨S, log, hR1⟩ := hR.out
    have HR := hid hR1
    clear hR hR1 HT
    have hSl := HR.out.len
    by_cases hlt : k < l.length
    · have HDx := hid (HD.out.fr HR.out.fr (fun h => h))
      have hix := HDx.out.index cap k hlt
      obtain ⟨c0, c1, c2, c3⟩ := HDx.out.cells k hlt
      have hxw := hid (HDx.out.wf _ (List.getElem_mem hlt)).2
      go_wp2_with fail
      refine (out_any (w5.heap.size + 1) w5.heap.size S (by omega) _ HR.out.heap).mono ?_
      rintro e w2 ⟨v, L, rfl, hp, ha, ho, hf2⟩
      obtain ⟨ad, g2, cap2, rfl, _⟩ := ho.form
      have hLS : L.length = S.length := hp.length_eq
      have HLS := hid hLS
      have hLl : L.length ≤ k := by omega
      have HR2 := hid (HR.out.fr0 hf2)
      have HDy := hid (HDx.out.fr hf2 (fun h => h))
      clear hp ha ho hf2 c0 c1 c2 c3 hLS HR HDx
      obtain ⟨c0, c1, c2, c3⟩ := HDy.out.cells k hlt
      go_wp2_with fail
      obtain ⟨was, hwas⟩ : ∃ was, was = decide (l[k].x ∈ S) := ⟨_, rfl⟩
      have hhas := has_any (w5.heap.size + 1) w5.heap.size S l[k].x hxw.out _ HR2.out.heap
      rw [← hwas] at hhas
      have Hwas := hid hwas
      clear hwas
      refine hhas.mono ?_
      rintro e w3 ⟨rfl, hf3⟩
      clear hhas
      have HR3 := hid (HR2.out.fr0 hf3)
      have HDz := hid (HDy.out.fr hf3 (fun h => h))
      clear hf3 c0 c1 c2 c3 HR2 HDy
      obtain ⟨c0, c1, c2, c3⟩ := HDz.out.cells k hlt
      go_wp2_with fail
      refine (do_any (w5.heap.size + 1) w5.heap.size S l[k].x hxw.out l[k].k _ HR3.out.heap).mono ?_
      rintro e w4 ⟨rfl, hf4, hh4⟩
      have hnd := HR3.out.heap.2.1.nodup
      have hst := HR3.out.step hlt hnd hf4 hh4
      have hr4 := HR3.out.row.fr hf4 (by have := HR3.out.glt; omega)
      have hgl := hid HR3.out.glt
      have HDd := hid (HDz.out.fr hf4 (fun e => by have := HD.out.lt (by omega); omega))
      have hkl : k < (log.map (·.1) ++ List.replicate (l.length - k) false).length := by simp [HR3.out.ll]; omega
      obtain ⟨vb, hbc⟩ : ∃ vb, w4.cell? ⟨g, k, none⟩ = some (.bool vb) := ⟨_, hr4.cell k hkl⟩
      have hbf := hr4.free k
      have hi60 := index60 g l.length l.length k hlt
      clear hh4 hf4 hr4 hkl c0 c1 c2 c3 HR3 HDz hnd
      have hcs : (hdo S l[k].k l[k].x).1 = 0 ∨ (hdo S l[k].k l[k].x).1 ≠ 0 := by omega
      rcases hcs with hc | hc
      · rw [decide_eq_true hc] at hst
        have b1 : ((hdo S l[k].k l[k].x).1 == 0) = true := by simp [hc]
        have b2 : ((hdo S l[k].k l[k].x).1 != 0) = false := by simp [hc]
        have HS0 := hid hst
        have HDs := hid (HDd.out.fr ((Fr.refl (· = g) w4).setCell (p := ⟨g, k, none⟩) (fun _ => rfl) (.bool true)) (fun e => by have := HD.out.lt (by omega); have := hgl.out; omega))
        obtain ⟨S2, log2, HS⟩ : ∃ S2 log2, Hid (TuRel w5 (w4.setCell ⟨g, k, none⟩ (.bool true)) g l (k + 1) S2 log2) := ⟨_, _, HS0⟩
        clear hst HS0
        generalize (hdo S l[k].k l[k].x).1 = code at b1 b2 ⊢
        clear hc HDd
        go_wp2_with fail
        clear hbc hbf hi60 b1 b2
        go_loopw [9, 10] (fun t9 i wr => ∃ j : Nat, i = .int .i64 j ∧ j ≤ k + 1 ∧ t9 = .int .i64 (cnt l[k].x (log2.take j)) ∧ Hid (TuRel w5 wr g l (k + 1) S2 log2 ∧ DeedsIn wr a' b off l)) (fun _ i _ => k + 1 - (intOf i).toNat)
        case atStart => exact ⟨0, rfl, Nat.zero_le _, rfl, hid ⟨HS.out, HDs.out⟩⟩
        case round =>
          obtain ⟨j, rfl, hj, rfl, hI⟩ := hrel
          have hbd := cnt_bd l[k].x (log2.take j)
          have hbl : (log2.take j).length ≤ 151 := by simp; omega
          by_cases hlt2 : j ≤ k
          · have hjl : j < l.length := by omega
            have hjg : j < log2.length := by rw [hI.out.1.ll]; omega
            have hs : cnt l[k].x (log2.take (j + 1)) = cnt l[k].x (log2.take j) + ctr l[k].x log2[j] := by
              rw [List.take_succ_eq_append_getElem hjg, cnt_snoc]
            have hsame := hI.out.1.same j hjl hjg
            have hi2 := index60 g l.length l.length j hjl
            have hcl := hI.out.1.row.cell j (by simp; omega)
            rw [List.getElem_append_left (by simpa using hjg), List.getElem_map] at hcl
            have hixj := hI.out.2.index cap j hjl
            obtain ⟨d0, d1, d2, d3⟩ := hI.out.2.cells j hjl
            obtain ⟨c0, c1, c2, c3⟩ := hI.out.2.cells k hlt
            have heq := fun W => eql30 l[j].x l[k].x W
            have hgd := guard30
            unfold ctr at hs
            rw [hsame] at hs
            generalize log2[j].1 = dd at hs hcl
            have hbd1 : -151 ≤ cnt l[k].x (log2.take j) := by omega
            have hbd2 : cnt l[k].x (log2.take j) ≤ 151 := by omega
            clear hsame hbd hbl
            generalize cnt l[k].x (log2.take j) = cc at hs hbd1 hbd2 ⊢
            cases dd with
            | false =>
              rw [if_neg (by simp)] at hs
              have HS2 := hid hs
              clear hs heq
              go_wp2
              go_quiet (fail)
              go_wp2
              go_quiet (fail)
              go_wp2
              go_roundw
              case rel => exact ⟨j + 1, by go_num, by omega, by (rw [HS2.out]) <;> (first | go_num | simp), hid ⟨hI.out.1.fr0 (by first | exact (((Fr.refl _ _).drewN _).drewN _) | exact ((Fr.refl _ _).drewN _)), hI.out.2.fr (by first | exact (((Fr.refl (fun _ => False) _).drewN _).drewN _) | exact ((Fr.refl (fun _ => False) _).drewN _)) (fun h => h)⟩⟩
              case measure => simp [intOf]; omega
            | true =>
              by_cases hxe : l[j].x = l[k].x
              · rw [decide_eq_true hxe] at heq
                simp only [Ob.val] at heq
                rw [if_pos ⟨rfl, hxe⟩] at hs
                clear hxe
                by_cases hk1 : l[j].k = 1
                · rw [if_pos hk1] at hs
                  have HS2 := hid hs
                  have t1 : (l[j].k == 1) = true := by simp [hk1]
                  have t3 : (l[j].k == 3) = false := by simp [hk1]
                  clear hs hk1
                  go_wp2
                  go_quiet (fail)
                  go_wp2
                  go_quiet (fail)
                  go_wp2
                  go_roundw
                  case rel => exact ⟨j + 1, by go_num, by omega, by (rw [HS2.out]) <;> (first | go_num | simp), hid ⟨hI.out.1.fr0 (by first | exact (((Fr.refl _ _).drewN _).drewN _) | exact ((Fr.refl _ _).drewN _)), hI.out.2.fr (by first | exact (((Fr.refl (fun _ => False) _).drewN _).drewN _) | exact ((Fr.refl (fun _ => False) _).drewN _)) (fun h => h)⟩⟩
                  case measure => simp [intOf]; omega
                · rw [if_neg hk1] at hs
                  have t1 : (l[j].k == 1) = false := by simp [hk1]
                  by_cases hk3 : l[j].k = 3
                  · rw [if_pos hk3] at hs
                    have HS2 := hid hs
                    have t3 : (l[j].k == 3) = true := by simp [hk3]
                    clear hs hk1 hk3
                    go_wp2
                    go_quiet (fail)
                    go_wp2
                    go_quiet (fail)
                    go_wp2
                    go_roundw
                    case rel => exact ⟨j + 1, by go_num, by omega, by (rw [HS2.out]) <;> (first | go_num | simp), hid ⟨hI.out.1.fr0 (by first | exact (((Fr.refl _ _).drewN _).drewN _) | exact ((Fr.refl _ _).drewN _)), hI.out.2.fr (by first | exact (((Fr.refl (fun _ => False) _).drewN _).drewN _) | exact ((Fr.refl (fun _ => False) _).drewN _)) (fun h => h)⟩⟩
                    case measure => simp [intOf]; omega
                  · rw [if_neg hk3] at hs
                    have HS2 := hid hs
                    have t3 : (l[j].k == 3) = false := by simp [hk3]
                    clear hs hk1 hk3
                    go_wp2
                    go_quiet (fail)
                    go_wp2
                    go_quiet (fail)
                    go_wp2
                    go_roundw
                    case rel => exact ⟨j + 1, by go_num, by omega, by (rw [HS2.out]) <;> (first | go_num | simp), hid ⟨hI.out.1.fr0 (by first | exact (((Fr.refl _ _).drewN _).drewN _) | exact ((Fr.refl _ _).drewN _)), hI.out.2.fr (by first | exact (((Fr.refl (fun _ => False) _).drewN _).drewN _) | exact ((Fr.refl (fun _ => False) _).drewN _)) (fun h => h)⟩⟩
                    case measure => simp [intOf]; omega
              · rw [decide_eq_false hxe] at heq
                simp only [Ob.val] at heq
                rw [if_neg (fun h => hxe h.2)] at hs
                have HS2 := hid hs
                clear hs hxe
                go_wp2
                go_quiet (fail)
                go_wp2
                go_quiet (fail)
                go_wp2
                go_roundw
                case rel => exact ⟨j + 1, by go_num, by omega, by (rw [HS2.out]) <;> (first | go_num | simp), hid ⟨hI.out.1.fr0 (by first | exact (((Fr.refl _ _).drewN _).drewN _) | exact ((Fr.refl _ _).drewN _)), hI.out.2.fr (by first | exact (((Fr.refl (fun _ => False) _).drewN _).drewN _) | exact ((Fr.refl (fun _ => False) _).drewN _)) (fun h => h)⟩⟩
                case measure => simp [intOf]; omega
          · have hall : log2.take j = log2 := List.take_of_length_le (by rw [hI.out.1.ll]; omega)
            rw [hall, hI.out.1.turns l[k].x]
            have hhas := fun W (hW : HeapIs W (w5.heap.size + 1) w5.heap.size S2) => has_any (w5.heap.size + 1) w5.heap.size S2 l[k].x hxw.out W hW
            obtain ⟨c0, c1, c2, c3⟩ := hI.out.2.cells k hlt
            clear hall hbd hbl
            by_cases hm : l[k].x ∈ S2
            · rw [if_pos hm]
              rw [decide_eq_true hm] at hhas
              have HH := hid hhas
              clear hhas hm
              go_wp2_with fail
              refine (HH.out _ hI.out.1.heap).mono ?_
              rintro e w8 ⟨rfl, hf8⟩
              have HE := hid (hI.out.1.fr0 hf8)
              clear hf8 c0 c1 c2 c3 HH
              go_wp2
              go_roundw
              case rel => exact ⟨k + 1, by go_num, by omega, hid ⟨_, _, HE.out⟩⟩
              case measure => simp [intOf]; omega
            · rw [if_neg hm]
              rw [decide_eq_false hm] at hhas
              have HH := hid hhas
              clear hhas hm
              go_wp2_with fail
              refine (HH.out _ hI.out.1.heap).mono ?_
              rintro e w8 ⟨rfl, hf8⟩
              have HE := hid (hI.out.1.fr0 hf8)
              clear hf8 c0 c1 c2 c3 HH
              go_wp2
              go_roundw
              case rel => exact ⟨k + 1, by go_num, by omega, hid ⟨_, _, HE.out⟩⟩
              case measure => simp [intOf]; omega
      · rw [decide_eq_false hc, hdo_err l[k] hc] at hst
        have b1 : ((hdo S l[k].k l[k].x).1 == 0) = false := by simpa using hc
        have b2 : ((hdo S l[k].k l[k].x).1 != 0) = true := by simpa using hc
        have HDs := hid (HDd.out.fr ((Fr.refl (· = g) w4).setCell (p := ⟨g, k, none⟩) (fun _ => rfl) (.bool false)) (fun e => by have := HD.out.lt (by omega); have := hgl.out; omega))
        have HS := hid hst
        clear hst
        generalize (hdo S l[k].k l[k].x).1 = code at b1 b2 ⊢
        clear hc HDd
        go_wp2_with fail
        refine (out_any (w5.heap.size + 1) w5.heap.size S (by omega) _ HS.out.heap).mono ?_
        rintro e w6 ⟨v6, L6, rfl, hp6, _, ho6, hf6⟩
        obtain ⟨ad6, g6, cap6, rfl, _⟩ := ho6.form
        have hl6 : ((L6.length : Int) != (L.length : Int)) = false := by
          have h1 := hp6.length_eq
          have h2 := HLS.out
          have : (L6.length : Int) = L.length := by omega
          simp [this]
        obtain ⟨log2, HS6⟩ : ∃ log2, Hid (TuRel w5 w6 g l (k + 1) S log2) := ⟨_, hid (HS.out.fr0 hf6)⟩
        have HDs6 := hid (HDs.out.fr hf6 (fun h => h))
        clear HS HDs hp6 ho6 hf6
        have hww : (was != was) = false := by simp
        obtain ⟨c0, c1, c2, c3⟩ := HDs6.out.cells k hlt
        have hhas := has_any (w5.heap.size + 1) w5.heap.size S l[k].x hxw.out _ HS6.out.heap
        rw [← Hwas.out] at hhas
        go_wp2_with fail
        refine hhas.mono ?_
        rintro e w7 ⟨rfl, hf7⟩
        clear hhas c0 c1 c2 c3
        obtain ⟨S2, log2, HS⟩ : ∃ S2 log2, Hid (TuRel w5 w7 g l (k + 1) S2 log2) := ⟨_, _, hid (HS6.out.fr0 hf7)⟩
        have HDs := hid (HDs6.out.fr hf7 (fun h => h))
        clear HS6 HDs6 hf7
        go_wp2_with fail
        clear hbc hbf hi60 b1 b2
        go_loopw [9, 10] (fun t9 i wr => ∃ j : Nat, i = .int .i64 j ∧ j ≤ k + 1 ∧ t9 = .int .i64 (cnt l[k].x (log2.take j)) ∧ Hid (TuRel w5 wr g l (k + 1) S2 log2 ∧ DeedsIn wr a' b off l)) (fun _ i _ => k + 1 - (intOf i).toNat)
        case atStart => exact ⟨0, rfl, Nat.zero_le _, rfl, hid ⟨HS.out, HDs.out⟩⟩
        case round =>
          obtain ⟨j, rfl, hj, rfl, hI⟩ := hrel
          have hbd := cnt_bd l[k].x (log2.take j)
          have hbl : (log2.take j).length ≤ 151 := by simp; omega
          by_cases hlt2 : j ≤ k
          · have hjl : j < l.length := by omega
            have hjg : j < log2.length := by rw [hI.out.1.ll]; omega
            have hs : cnt l[k].x (log2.take (j + 1)) = cnt l[k].x (log2.take j) + ctr l[k].x log2[j] := by
              rw [List.take_succ_eq_append_getElem hjg, cnt_snoc]
            have hsame := hI.out.1.same j hjl hjg
            have hi2 := index60 g l.length l.length j hjl
            have hcl := hI.out.1.row.cell j (by simp; omega)
            rw [List.getElem_append_left (by simpa using hjg), List.getElem_map] at hcl
            have hixj := hI.out.2.index cap j hjl
            obtain ⟨d0, d1, d2, d3⟩ := hI.out.2.cells j hjl
            obtain ⟨c0, c1, c2, c3⟩ := hI.out.2.cells k hlt
            have heq := fun W => eql30 l[j].x l[k].x W
            have hgd := guard30
            unfold ctr at hs
            rw [hsame] at hs
            generalize log2[j].1 = dd at hs hcl
            have hbd1 : -151 ≤ cnt l[k].x (log2.take j) := by omega
            have hbd2 : cnt l[k].x (log2.take j) ≤ 151 := by omega
            clear hsame hbd hbl
            generalize cnt l[k].x (log2.take j) = cc at hs hbd1 hbd2 ⊢
            cases dd with
            | false =>
              rw [if_neg (by simp)] at hs
              have HS2 := hid hs
              clear hs heq
              go_wp2
              go_quiet (fail)
              go_wp2
              go_quiet (fail)
              go_wp2
              go_roundw
              case rel => exact ⟨j + 1, by go_num, by omega, by (rw [HS2.out]) <;> (first | go_num | simp), hid ⟨hI.out.1.fr0 (by first | exact (((Fr.refl _ _).drewN _).drewN _) | exact ((Fr.refl _ _).drewN _)), hI.out.2.fr (by first | exact (((Fr.refl (fun _ => False) _).drewN _).drewN _) | exact ((Fr.refl (fun _ => False) _).drewN _)) (fun h => h)⟩⟩
              case measure => simp [intOf]; omega
            | true =>
              by_cases hxe : l[j].x = l[k].x
              · rw [decide_eq_true hxe] at heq
                simp only [Ob.val] at heq
                rw [if_pos ⟨rfl, hxe⟩] at hs
                clear hxe
                by_cases hk1 : l[j].k = 1
                · rw [if_pos hk1] at hs
                  have HS2 := hid hs
                  have t1 : (l[j].k == 1) = true := by simp [hk1]
                  have t3 : (l[j].k == 3) = false := by simp [hk1]
                  clear hs hk1
                  go_wp2
                  go_quiet (fail)
                  go_wp2
                  go_quiet (fail)
                  go_wp2
                  go_roundw
                  case rel => exact ⟨j + 1, by go_num, by omega, by (rw [HS2.out]) <;> (first | go_num | simp), hid ⟨hI.out.1.fr0 (by first | exact (((Fr.refl _ _).drewN _).drewN _) | exact ((Fr.refl _ _).drewN _)), hI.out.2.fr (by first | exact (((Fr.refl (fun _ => False) _).drewN _).drewN _) | exact ((Fr.refl (fun _ => False) _).drewN _)) (fun h => h)⟩⟩
                  case measure => simp [intOf]; omega
                · rw [if_neg hk1] at hs
                  have t1 : (l[j].k == 1) = false := by simp [hk1]
                  by_cases hk3 : l[j].k = 3
                  · rw [if_pos hk3] at hs
                    have HS2 := hid hs
                    have t3 : (l[j].k == 3) = true := by simp [hk3]
                    clear hs hk1 hk3
                    go_wp2
                    go_quiet (fail)
                    go_wp2
                    go_quiet (fail)
                    go_wp2
                    go_roundw
                    case rel => exact ⟨j + 1, by go_num, by omega, by (rw [HS2.out]) <;> (first | go_num | simp), hid ⟨hI.out.1.fr0 (by first | exact (((Fr.refl _ _).drewN _).drewN _) | exact ((Fr.refl _ _).drewN _)), hI.out.2.fr (by first | exact (((Fr.refl (fun _ => False) _).drewN _).drewN _) | exact ((Fr.refl (fun _ => False) _).drewN _)) (fun h => h)⟩⟩
                    case measure => simp [intOf]; omega
                  · rw [if_neg hk3] at hs
                    have HS2 := hid hs
                    have t3 : (l[j].k == 3) = false := by simp [hk3]
                    clear hs hk1 hk3
                    go_wp2
                    go_quiet (fail)
                    go_wp2
                    go_quiet (fail)
                    go_wp2
                    go_roundw
                    case rel => exact ⟨j + 1, by go_num, by omega, by (rw [HS2.out]) <;> (first | go_num | simp), hid ⟨hI.out.1.fr0 (by first | exact (((Fr.refl _ _).drewN _).drewN _) | exact ((Fr.refl _ _).drewN _)), hI.out.2.fr (by first | exact (((Fr.refl (fun _ => False) _).drewN _).drewN _) | exact ((Fr.refl (fun _ => False) _).drewN _)) (fun h => h)⟩⟩
                    case measure => simp [intOf]; omega
              · rw [decide_eq_false hxe] at heq
                simp only [Ob.val] at heq
                rw [if_neg (fun h => hxe h.2)] at hs
                have HS2 := hid hs
                clear hs hxe
                go_wp2
                go_quiet (fail)
                go_wp2
                go_quiet (fail)
                go_wp2
                go_roundw
                case rel => exact ⟨j + 1, by go_num, by omega, by (rw [HS2.out]) <;> (first | go_num | simp), hid ⟨hI.out.1.fr0 (by first | exact (((Fr.refl _ _).drewN _).drewN _) | exact ((Fr.refl _ _).drewN _)), hI.out.2.fr (by first | exact (((Fr.refl (fun _ => False) _).drewN _).drewN _) | exact ((Fr.refl (fun _ => False) _).drewN _)) (fun h => h)⟩⟩
                case measure => simp [intOf]; omega
          · have hall : log2.take j = log2 := List.take_of_length_le (by rw [hI.out.1.ll]; omega)
            rw [hall, hI.out.1.turns l[k].x]
            have hhas := fun W (hW : HeapIs W (w5.heap.size + 1) w5.heap.size S2) => has_any (w5.heap.size + 1) w5.heap.size S2 l[k].x hxw.out W hW
            obtain ⟨c0, c1, c2, c3⟩ := hI.out.2.cells k hlt
            clear hall hbd hbl
            by_cases hm : l[k].x ∈ S2
            · rw [if_pos hm]
              rw [decide_eq_true hm] at hhas
              have HH := hid hhas
              clear hhas hm
              go_wp2_with fail
              refine (HH.out _ hI.out.1.heap).mono ?_
              rintro e w8 ⟨rfl, hf8⟩
              have HE := hid (hI.out.1.fr0 hf8)
              clear hf8 c0 c1 c2 c3 HH
              go_wp2
              go_roundw
              case rel => exact ⟨k + 1, by go_num, by omega, hid ⟨_, _, HE.out⟩⟩
              case measure => simp [intOf]; omega
            · rw [if_neg hm]
              rw [decide_eq_false hm] at hhas
              have HH := hid hhas
              clear hhas hm
              go_wp2_with fail
              refine (HH.out _ hI.out.1.heap).mono ?_
              rintro e w8 ⟨rfl, hf8⟩
              have HE := hid (hI.out.1.fr0 hf8)
              clear hf8 c0 c1 c2 c3 HH
              go_wp2
              go_roundw
              case rel => exact ⟨k + 1, by go_num, by omega, hid ⟨_, _, HE.out⟩⟩
              case measure => simp [intOf]; omega
    · clear HD
      go_wp2
      go_ret
      exact ⟨by rfl, H5.out.trans0 HR.out.fr⟩
end Go.Proofs.Ytjaabbjobnfmmaa

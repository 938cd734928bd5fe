/-
  The walk of HeapOrder.
-/
import Derived.Test.YtjaabbjobnfmmaaOut
import Derived.Test.YtjaabbjobnfmmaaWorksB
namespace Go.Proofs.Ytjaabbjobnfmmaa
open Go.RowKit

theorem hdo_one (S : List Ob) (x : Ob) : hdo S 1 x = (if x ∈ S then 270 else 0, ins S x) := by
  unfold hdo; rw [if_neg (by omega), if_pos rfl]

/-- How the first loop of HeapOrder stands. -/
structure GaveRel (w wr : World) (l : List Dd) (k : Nat) (S : List Ob) : Prop where
  heap : HeapIs wr (w.heap.size + 1) w.heap.size S
  len : S.length ≤ k
  mem : ∀ j (h : j < l.length), j < k → l[j].x ∈ S
  fr : Fr0 w wr
theorem ins_length (S : List Ob) (x : Ob) : (ins S x).length ≤ S.length + 1 := by
  unfold ins; split <;> simp
theorem GaveRel.step {w wr w' : World} {l : List Dd} {k : Nat} {S : List Ob} (h : GaveRel w wr l k S) (hk : k < l.length) (hf : Fr (· = w.heap.size) wr w') (hh : HeapIs w' (w.heap.size + 1) w.heap.size (ins S l[k].x)) :
    GaveRel w w' l (k + 1) (ins S l[k].x) := by
  refine ⟨hh, Nat.le_trans (ins_length _ _) (by have := h.len; omega), fun j hj hjk => ?_, h.fr.trans hf (fun i hi e => by omega)⟩
  rw [mem_ins]
  by_cases e : j = k
  · subst e; exact .inl rfl
  · exact .inr (h.mem j hj (by omega))
theorem GaveRel.fr0 {w wr w' : World} {l : List Dd} {k : Nat} {S : List Ob} (h : GaveRel w wr l k S) (hf : Fr0 wr w') : GaveRel w w' l k S :=
  ⟨h.heap.fr0 hf, h.len, h.mem, h.fr.trans0 hf⟩

set_option maxRecDepth 100000 in
set_option maxHeartbeats 4000000 in
theorem heapOrder_walk (a : Option Addr) (b off cap : Nat) (l : List Dd) (c : Int) (w : World) (h : DeedsIn w a b off l) :
    Calls Try.prog 5 #[.slice a l.length cap, .int .i64 c] w fun e w' => e = .returned (.bool true) ∧ Fr0 w w' := by
  have hsm := h.small
  have HD := hid h
  clear h
  go_enter Try.func5, Try.ntmps5
  go_wp2_with fail
  refine (new_any _).mono ?_
  rintro e w1 ⟨rfl, hf1, hh1⟩
  have H0 := hid (show GaveRel w w1 l 0 [] from ⟨hh1, Nat.le_refl _, fun _ _ h => absurd h (Nat.not_lt_zero _), hf1⟩)
  clear hf1 hh1
  go_wp2_with fail
  go_loopw [6] (fun i wr => ∃ k : Nat, i = .int .i64 k ∧ k ≤ l.length ∧ k ≤ 100 ∧ Hid (∃ S, GaveRel w wr l k S)) (fun i _ => l.length - (intOf i).toNat)
  case atStart => exact ⟨0, rfl, Nat.zero_le _, Nat.zero_le _, hid ⟨_, H0.out⟩⟩
  case round =>
    obtain ⟨k, rfl, hk, hk1, hR⟩ := hrel
    obtain ⟨S, hR1⟩ := hR.out
    have HR := hid hR1
    clear hR hR1 H0
    by_cases hgo : k < l.length ∧ k < 100
    · obtain ⟨hlt, h100⟩ := hgo
      have hdi := HD.out.fr HR.out.fr (fun h => h)
      have hix := hdi.index cap k hlt
      obtain ⟨c0, c1, c2, c3⟩ := hdi.cells k hlt
      have hDo := fun W (hW : HeapIs W (w.heap.size + 1) w.heap.size S) => do_any (w.heap.size + 1) w.heap.size S l[k].x (hdi.wf _ (List.getElem_mem hlt)).2 1 W hW
      rw [hdo_one] at hDo
      have HDo := hid hDo
      clear hdi hDo
      go_wp2_with fail
      refine (HDo.out _ HR.out.heap).mono ?_
      rintro e w2 ⟨rfl, hf2, hh2⟩
      have HS := hid (HR.out.step hlt hf2 hh2)
      clear hf2 hh2 c0 c1 c2 c3 hix HDo
      go_wp2
      go_roundw
      case rel => exact ⟨k + 1, by go_num, by omega, by omega, hid ⟨_, HS.out⟩⟩
      case measure => simp [intOf]; omega
    · have HM := hid (show S.length ≤ 100 ∧ ∀ j (h : j < l.length), j < 100 → l[j].x ∈ S from ⟨Nat.le_trans HR.out.len hk1, fun j hj h => HR.out.mem j hj (by omega)⟩)
      have HH := hid (And.intro HR.out.heap HR.out.fr)
      clear HR
      have hex : (¬ k < l.length) ∨ (k < l.length ∧ ¬ k < 100) := by omega
      clear hgo
      rcases hex with h1 | ⟨h1, h2⟩
      all_goals
        have HO := out_any (w.heap.size + 1) w.heap.size S (by have := HM.out.1; omega) wr HH.out.1
        go_wp2_with fail
        refine HO.mono ?_
        rintro e w2 ⟨v, L, rfl, hp, ha, ho, hf2⟩
        obtain ⟨ad, g, cap2, rfl, hix, hcs, hg, hgl⟩ := ho.form
        have HC := hid (And.intro hcs hgl)
        have H2 := hid (show HeapIs w2 (w.heap.size + 1) w.heap.size S ∧ Fr0 w w2 from ⟨HH.out.1.fr0 hf2, HH.out.2.trans0 hf2⟩)
        have HL := hid (show L.Perm S ∧ Asc L ∧ (∀ x ∈ L, x.wf) ∧ L.length ≤ 100 from ⟨hp, ha, fun x hx => HH.out.1.2.1.2 x (hp.mem_iff.1 hx), by rw [hp.length_eq]; exact HM.out.1⟩)
        clear hp ha ho hcs hg hgl hf2 HO HH
        go_wp2_with fail
        go_loopw [8, 9] (fun n i wx => ∃ j : Nat, i = .int .i64 j ∧ j ≤ L.length ∧ n = .int .i64 (manyL (L.take j) c) ∧ Hid (Fr0 w2 wx)) (fun _ i _ => L.length - (intOf i).toNat)
        case atStart => exact ⟨0, rfl, Nat.zero_le _, rfl, hid (Fr.refl _ _)⟩
        case round =>
          obtain ⟨j, rfl, hj, rfl, hF⟩ := hrel
          by_cases hlt : j < L.length
          · have hix1 := hix j hlt
            obtain ⟨d0, d1, d2⟩ := HC.out.1 j hlt
            have hgl := HC.out.2 (by omega)
            have c0 : wr.cell? ⟨g, j * 3, none⟩ = _ := (hF.out.cell (p := ⟨g, j * 3, none⟩) hgl.2 (fun h => h)).trans d0
            have c1 : wr.cell? ⟨g, j * 3 + 1, none⟩ = _ := (hF.out.cell (p := ⟨g, j * 3 + 1, none⟩) hgl.2 (fun h => h)).trans d1
            have c2 : wr.cell? ⟨g, j * 3 + 2, none⟩ = _ := (hF.out.cell (p := ⟨g, j * 3 + 2, none⟩) hgl.2 (fun h => h)).trans d2
            have hs := manyL_snoc (L.take j) L[j] c
            rw [← take_snoc' L j hlt] at hs
            have hmle : manyL (L.take j) c ≤ 100 := Nat.le_trans (manyL_le _ _) (by have := HL.out.2.2.2; simp; omega)
            have HG := hid hgl
            have hLl := HL.out.2.2.2
            have hHas := fun o => has_any (w.heap.size + 1) w.heap.size S L[j] (HL.out.2.2.1 _ (List.getElem_mem hlt)) (wr.alloc o) ((H2.out.1.fr0 hF.out).fr0 (fr0_alloc _ _))
            rw [decide_eq_true (HL.out.1.mem_iff.1 (List.getElem_mem hlt))] at hHas
            have HHas := hid hHas
            clear d0 d1 d2 hgl hHas
            have hcc : (L[j].c == c) = true ∨ (L[j].c == c) = false := by cases (L[j].c == c) <;> simp
            rcases hcc with hcc | hcc
            all_goals
              rw [hcc] at hs
              have HS := hid hs
              clear hs
              go_wp2_with fail
              refine (HHas.out _).mono ?_
              rintro e w3 ⟨rfl, hf3⟩
              obtain ⟨b0, b1, b2⟩ := box3 hf3
              have hn3 := lt_of_block (hf3.at (alloc_block wr _) (fun h => h))
              have b0' : ∀ o, (w3.alloc o).cell? ⟨wr.heap.size, 0, none⟩ = _ := fun o => ((fr0_alloc w3 o).cell (p := ⟨wr.heap.size, 0, none⟩) hn3 (fun h => h)).trans b0
              have b1' : ∀ o, (w3.alloc o).cell? ⟨wr.heap.size, 1, none⟩ = _ := fun o => ((fr0_alloc w3 o).cell (p := ⟨wr.heap.size, 1, none⟩) hn3 (fun h => h)).trans b1
              have b2' : ∀ o, (w3.alloc o).cell? ⟨wr.heap.size, 2, none⟩ = _ := fun o => ((fr0_alloc w3 o).cell (p := ⟨wr.heap.size, 2, none⟩) hn3 (fun h => h)).trans b2
              clear hn3
              have HF3 := hid (hF.out.trans0 ((fr0_alloc _ _).trans0 hf3))
              clear hf3 c0 c1 c2
              rcases Nat.eq_zero_or_pos j with hj0 | hj0
              · subst hj0
                go_wp2
                go_roundw
                case rel => exact ⟨0 + 1, by go_num, by omega, by rw [HS.out]; go_num, hid HF3.out⟩
                case measure => simp [intOf]; omega
              · have hj1 : j - 1 < L.length := by omega
                have hixp := hix (j - 1) hj1
                have ej : ((j - 1 : Nat) : Int) = (j : Int) - 1 := by omega
                rw [ej] at hixp
                obtain ⟨d0, d1, d2⟩ := HC.out.1 (j - 1) hj1
                have hgl2 := (HC.out.2 (by omega)).2
                have p0 : w3.cell? ⟨g, (j - 1) * 3, none⟩ = _ := (HF3.out.cell (p := ⟨g, (j - 1) * 3, none⟩) hgl2 (fun h => h)).trans d0
                have p1 : w3.cell? ⟨g, (j - 1) * 3 + 1, none⟩ = _ := (HF3.out.cell (p := ⟨g, (j - 1) * 3 + 1, none⟩) hgl2 (fun h => h)).trans d1
                have p2 : w3.cell? ⟨g, (j - 1) * 3 + 2, none⟩ = _ := (HF3.out.cell (p := ⟨g, (j - 1) * 3 + 2, none⟩) hgl2 (fun h => h)).trans d2
                have hasc := (List.pairwise_iff_getElem.1 HL.out.2.1) (j - 1) j hj1 hlt (by omega)
                rw [Ob.lt_iff] at hasc
                have hjI : (0 : Int) < (j : Int) := by omega
                have HE := hid ej
                clear ej d0 d1 d2 hgl2
                generalize hq : L[j - 1] = q at p0 p1 p2 hasc
                clear hq
                rcases hasc with h1 | ⟨h1, h2 | ⟨h2, h3⟩⟩
                · have t1 : decide (L[j].c < q.c) = false := by simp; omega
                  have t2 : (q.c == L[j].c) = false := by simp; omega
                  clear h1
                  go_wp2
                  go_roundw
                  case rel => exact ⟨j + 1, by go_num, by omega, by rw [HS.out]; go_num, hid (HF3.out.trans0 (fr0_alloc _ _))⟩
                  case measure => simp [intOf]; omega
                · have t1 : decide (L[j].c < q.c) = false := by simp; omega
                  have t2 : (q.c == L[j].c) = true := by simp; omega
                  have t3 : decide (L[j].s < q.s) = false := by simp; omega
                  have t4 : (q.s == L[j].s) = false := by simp; omega
                  clear h1 h2
                  go_wp2
                  go_roundw
                  case rel => exact ⟨j + 1, by go_num, by omega, by rw [HS.out]; go_num, hid (HF3.out.trans0 (fr0_alloc _ _))⟩
                  case measure => simp [intOf]; omega
                · have t1 : decide (L[j].c < q.c) = false := by simp; omega
                  have t2 : (q.c == L[j].c) = true := by simp; omega
                  have t3 : decide (L[j].s < q.s) = false := by simp; omega
                  have t4 : (q.s == L[j].s) = true := by simp; omega
                  have t5 : decide (L[j].o ≤ q.o) = false := by simp; omega
                  clear h1 h2 h3
                  go_wp2
                  go_roundw
                  case rel => exact ⟨j + 1, by go_num, by omega, by rw [HS.out]; go_num, hid (HF3.out.trans0 (fr0_alloc _ _))⟩
                  case measure => simp [intOf]; omega
          · have hN : manyL (L.take j) c = manyL S c := by
              rw [List.take_of_length_le (by omega)]
              exact manyL_perm HL.out.1 c
            have HN := hid hN
            have HF := hid (H2.out.2.trans0 hF.out)
            have HH := hid (H2.out.1.fr0 hF.out)
            have HD2 := hid (HD.out.fr HF.out (fun h => h))
            clear hN hF hix
            generalize manyL (L.take j) c = nn at HN ⊢
            go_wp2_with fail
            obtain ⟨wo, hwo⟩ : ∃ wo, wo = wr := ⟨_, rfl⟩
            rw [← hwo] at HF HH HD2
            have HW := hid hwo
            clear hwo
            go_loopw [12] (fun i wx => ∃ m : Nat, i = .int .i64 m ∧ m ≤ l.length ∧ m ≤ 100 ∧ Hid (Fr0 wo wx)) (fun i _ => l.length - (intOf i).toNat)
            case atStart => exact ⟨0, rfl, Nat.zero_le _, Nat.zero_le _, hid (HW.out ▸ Fr.refl _ _)⟩
            case round =>
              obtain ⟨m, rfl, hm, hm1, hF⟩ := hrel
              have HHx := hid (HH.out.fr0 hF.out)
              have HFx := hid (HF.out.trans0 hF.out)
              have HDx := hid (HD2.out.fr hF.out (fun h => h))
              by_cases hgo : m < l.length ∧ m < 100
              · obtain ⟨hlt, h100⟩ := hgo
                have hix := HDx.out.index cap m hlt
                obtain ⟨c0, c1, c2, c3⟩ := HDx.out.cells m hlt
                have hHas := has_any (w.heap.size + 1) w.heap.size S l[m].x (HDx.out.wf _ (List.getElem_mem hlt)).2 _ HHx.out
                rw [decide_eq_true (HM.out.2 m hlt h100)] at hHas
                go_wp2_with fail
                refine hHas.mono ?_
                rintro e w4 ⟨rfl, hf4⟩
                go_wp2
                go_roundw
                case rel => exact ⟨m + 1, by go_num, by omega, by omega, hid (hF.out.trans0 hf4)⟩
                case measure => simp [intOf]; omega
              · have hmany := many_any (w.heap.size + 1) w.heap.size S (by have := HM.out.1; omega) c _ HHx.out
                rw [← HN.out] at hmany
                have hex2 : (¬ m < l.length) ∨ (m < l.length ∧ ¬ m < 100) := by omega
                clear hgo
                rcases hex2 with q1 | ⟨q1, q2⟩
                all_goals
                  go_wp2_with fail
                all_goals
                  refine hmany.mono ?_
                  rintro e w4 ⟨rfl, hf4⟩
                  go_wp2_with (go_at_call 18; refine (works_any _).mono ?_; rintro e w5 ⟨rfl, hf5⟩)
                  go_ret
                  exact ⟨by rfl, (HFx.out.trans0 hf4).trans0 hf5⟩
end Go.Proofs.Ytjaabbjobnfmmaa

/-
  OrderShaken, walked.
-/
import Derived.Test.YtjaabbjobnfmmaaShkLaw
namespace Go.Proofs.Ytjaabbjobnfmmaa
open Go.RowKit

/-- How the loop of OrderShaken stands. -/
structure ShAt (w wr : World) (hp hb : Nat) (v : Value) (R : List Sp) (T : List Ob) (k : Nat) : Prop where
  heap : HeapIs wr hp hb T
  own : OwnS wr w.heap.size v R
  wf : ∀ x ∈ R, x.wf
  fr : Fr0 w wr
  bhp : w.heap.size ≤ hp
  bhb : w.heap.size ≤ hb
  shk : Shk R T k
section
variable {w wr w' : World} {hp hb : Nat} {v v' : Value} {R : List Sp} {T T' : List Ob} {k : Nat} {o : Obj} {x : Sp}
theorem ShAt.deed (h : ShAt w wr hp hb v R T k) (hf : Fr (· = hb) wr w') (hT : HeapIs w' hp hb T') : Fr0 w w' ∧ OwnS w' w.heap.size v R := by
  obtain ⟨es, c, hm, _⟩ := id h.heap.2.1.1
  refine ⟨h.fr.trans hf (fun i hi e => by have := h.bhb; subst e; omega), own_fr h.own hf (own_ne_map h.own hm)⟩
theorem ShAt.skip (h : ShAt w wr hp hb v R T k) (hf : Fr (· = hb) wr w') (hT : HeapIs w' hp hb T') (hs : Shk R T' (k + 1)) : ShAt w w' hp hb v R T' (k + 1) :=
  ⟨hT, (h.deed hf hT).2, h.wf, (h.deed hf hT).1, h.bhp, h.bhb, hs⟩
/-- Behind the deed, ahead of the append. -/
structure ShMid (w wr : World) (hp hb : Nat) (v : Value) (R : List Sp) (T : List Ob) : Prop where
  heap : HeapIs wr hp hb T
  own : wr.ownsRow w.heap.size 50 6 v R.length (flat Sp.enc R)
  wf : ∀ x ∈ R, x.wf
  fr : Fr0 w wr
  bhp : w.heap.size ≤ hp
  bhb : w.heap.size ≤ hb
theorem ShAt.mid (h : ShAt w wr hp hb v R T k) (hf : Fr (· = hb) wr w') (hT : HeapIs w' hp hb T') : ShMid w w' hp hb v R T' :=
  ⟨hT, (h.deed hf hT).2, h.wf, (h.deed hf hT).1, h.bhp, h.bhb⟩
theorem ShMid.fr0 (h : ShMid w wr hp hb v R T) (hf : Fr0 wr w') : ShMid w w' hp hb v R T :=
  ⟨h.heap.fr0 hf, own_fr0 h.own hf, h.wf, h.fr.trans0 hf, h.bhp, h.bhb⟩
theorem ShMid.snoc (h : ShMid w wr hp hb v R T) (hs : Shk (R ++ [x]) T k ∧ x.wf) (hown : w'.ownsRow w.heap.size 50 6 v' (R.length + 1) (flat Sp.enc R ++ x.enc)) (hg : (wr.alloc o).grownBy w' v.ownBlock) : ShAt w w' hp hb v' (R ++ [x]) T k := by
  obtain ⟨f1, f2⟩ := grow_fr h.own h.fr (Nat.le_refl _) hg
  obtain ⟨es, c, hm, _⟩ := id h.heap.2.1.1
  refine ⟨h.heap.fr f2 (fun e => own_ne h.own h.heap.1 (by decide) hp e.symm rfl) (fun e => own_ne_map h.own hm hb e.symm rfl), ownS_snoc hown, fun y hy => ?_, f1, h.bhp, h.bhb, hs.1⟩
  rcases List.mem_append.1 hy with hy | hy
  · exact h.wf y hy
  · rw [List.mem_singleton.1 hy]; exact hs.2
end

set_option maxRecDepth 100000 in
set_option maxHeartbeats 16000000 in
theorem orderShaken_walk (a : Option Addr) (b off cap : Nat) (l : List Dd) (a2 : Option Addr) (b2 off2 cap2 : Nat) (q : List Int) (w : World) (h : DeedsIn w a b off l) (h2 : NumsIn w a2 b2 off2 q) :
    Calls Try.prog 9 #[.slice a l.length cap, .slice a2 q.length cap2] w fun e w' => e = .returned (.bool true) ∧ Fr0 w w' := by
  obtain ⟨i5, hi5, hz50, hz51, hz52⟩ := info_parts info50
  have HZ5 := hid (show Try.prog.info? 50 = some i5 ∧ i5.zero = some zero50 ∧ i5.size = 6 ∧ i5.bytes = 48 from ⟨hi5, hz50, hz51, hz52⟩)
  have HD := hid h
  have HQ := hid h2
  have hsm := h.small
  have hsm2 := h2.small
  clear h h2 hi5 hz50 hz51 hz52
  go_enter Try.func9, Try.ntmps9
  go_wp2_with fail
  refine (new_any _).mono ?_
  rintro e w1 ⟨rfl, hf1, hh1⟩
  have HA0 : Hid (ShAt w w1 (w.heap.size + 1) w.heap.size (.slice none 0 0) [] [] 0) := hid ⟨hh1, World.ownsRow_nil _ _ _ _, by simp, hf1, by omega, Nat.le_refl _, shk_nil⟩
  clear hf1 hh1
  obtain ⟨hp, hhp⟩ : ∃ hp, hp = w.heap.size + 1 := ⟨_, rfl⟩
  obtain ⟨hb, hhb⟩ : ∃ hb, hb = w.heap.size := ⟨_, rfl⟩
  have HA1 : Hid (ShAt w w1 hp hb (.slice none 0 0) [] [] 0) := hid (by rw [hhp, hhb]; exact HA0.out)
  rw [← hhp]
  clear hhp hhb HA0
  go_wp2_with fail
  go_loopw [6, 7] (fun v i wr => ∃ k : Nat, i = .int .i64 k ∧ k ≤ l.length ∧ k ≤ 40 ∧ Hid (∃ R T, ShAt w wr hp hb v R T k)) (fun _ i _ => 40 - (intOf i).toNat)
  case atStart => exact ⟨0, rfl, Nat.zero_le _, Nat.zero_le _, hid ⟨[], [], HA1.out⟩⟩
  case round =>
    obtain ⟨k, rfl, hk, hk40, hR⟩ := hrel
    clear HA1
    obtain ⟨R, T, hA⟩ := hR.out
    have HA := hid hA
    clear hA hR
    by_cases hgo : k < l.length ∧ k < 40
    · obtain ⟨hlt, h40⟩ := hgo
      have hix := fun W => HD.out.index cap k hlt W
      obtain ⟨c0, c1, c2, c3⟩ := (HD.out.fr HA.out.fr (fun h => h)).cells k hlt
      have hwf := HD.out.wf _ (List.getElem_mem hlt)
      have HWF := hid hwf
      have HDo := hid (do_any hp hb T l[k].x hwf.2 l[k].k wr HA.out.heap)
      clear hwf
      by_cases hc : (hdo T l[k].k l[k].x).1 = 0
      · have HC := hid hc
        rw [hc] at HDo
        clear hc
        go_wp2_with fail
        refine HDo.out.mono ?_
        rintro e w2 ⟨rfl, hf2, hh2⟩
        have HA2 := hid (HA.out.mid hf2 hh2)
        have HL3 := hid HA.out.shk.len
        clear hf2 hh2 HDo c0 c1 c2 c3
        by_cases hq : 0 < q.length
        · have hqb : decide (0 < q.length) = true := by simp [hq]
          have hmod : k % q.length < q.length := Nat.mod_lt _ hq
          have htm : ((k : Int).tmod (q.length : Int)) = ((k % q.length : Nat) : Int) := by rw [Int.tmod_eq_emod_of_nonneg (by omega)]; exact (Int.natCast_emod k q.length).symm
          have iq := fun W => HQ.out.index cap2 (k % q.length) hmod W
          have cq := (HQ.out.fr0 HA2.out.fr).cells (k % q.length) hmod
          have hB := bring20 (q[k % q.length])
          have hr := brg_range (q[k % q.length]) 20 (by decide)
          generalize brg (q[k % q.length]) 20 = z at hB hr
          generalize q[k % q.length] = y at cq hB
          generalize k % q.length = j at htm iq cq
          clear hmod
          go_wp2_with fail
          refine (hB _).mono ?_
          rintro e w3 ⟨rfl, rfl⟩
          clear htm iq cq hB
          have hz2 : z.tdiv 2 = z / 2 := Int.tdiv_eq_ediv_of_nonneg hr.1
          have e1 : IntKind.i64.wrap (z / 2) = z / 2 := IntWalk.i64_in _ (by omega)
          have e2 : IntKind.i64.wrap (20 + 3 * (k : Int) - z) = 20 + 3 * (k : Int) - z := IntWalk.i64_in _ (by omega)
          have e3 : IntKind.i64.wrap (20 + 3 * (k : Int) + z / 2) = 20 + 3 * (k : Int) + z / 2 := IntWalk.i64_in _ (by omega)
          have HA3 := HA2
          have SH : Hid (Shk (R ++ [⟨l[k], 20 + 3 * (k : Int) - z, 20 + 3 * (k : Int) + z / 2⟩]) (hdo T l[k].k l[k].x).2 (k + 1) ∧ (⟨l[k], 20 + 3 * (k : Int) - z, 20 + 3 * (k : Int) + z / 2⟩ : Sp).wf) := hid ⟨HA.out.shk.go h40 HC.out hr (by omega), HWF.out, WalkArith.wf_i64 (n := 20 + 3 * (k : Int) - z) ⟨by omega, by omega⟩, WalkArith.wf_i64 (n := 20 + 3 * (k : Int) + z / 2) ⟨by omega, by omega⟩⟩
          obtain ⟨c0, c1, c2, c3⟩ := (HD.out.fr HA3.out.fr (fun h => h)).cells k hlt
          go_wp2_with (at_builtin; refine wpList_append_own _ rfl _ _ 45 rfl w.heap.size 50 i5 zero50 6 48 Try.underlying45 HZ5.out.1 HZ5.out.2.1 HZ5.out.2.2.1 HZ5.out.2.2.2 rfl (by decide) _ _ _ rfl (HA3.out.own.alloc _) ⟨_, 0, none⟩ 1 1 [.int .i64 l[k].k, .int .i64 l[k].x.c, .int .i64 l[k].x.s, .int .i64 l[k].x.o, .int .i64 (20 + 3 * (k : Int) - z), .int .i64 (20 + 3 * (k : Int) + z / 2)] rfl rfl ?c1 ?c2 ?c3 ?c4 ?c5 ?_)
          case c1 => exact cells_new6 _ _ _ _ _ _ _ _
          case c2 => intro u hu; simp at hu; rcases hu with rfl | rfl | rfl | rfl | rfl | rfl <;> rfl
          case c3 => have := HL3.out; simp only [maxLen]; omega
          case c4 => have := HL3.out; omega
          case c5 => have := HA3.out.fr.size; simp at this ⊢; omega
          intro v' wB hown' hg _
          have HAB := hid (HA3.out.snoc (SH.out) hown' hg)
          clear hown' hg c0 c1 c2 c3
          go_wp2
          go_roundw
          case rel => exact ⟨k + 1, by go_num, by omega, by omega, hid ⟨_, _, HAB.out⟩⟩
          case measure => simp [intOf]; omega
        · have hqb : decide (0 < q.length) = false := by simp [hq]
          clear hq
          have HA3 := HA2
          have SH : Hid (Shk (R ++ [⟨l[k], 20 + 3 * (k : Int), 20 + 3 * (k : Int)⟩]) (hdo T l[k].k l[k].x).2 (k + 1) ∧ (⟨l[k], 20 + 3 * (k : Int), 20 + 3 * (k : Int)⟩ : Sp).wf) := hid ⟨by
            have := HA.out.shk.go h40 HC.out (z := 0) (y := 0) (by omega) (by omega)
            rw [Int.sub_zero, Int.add_zero] at this
            exact this, HWF.out, WalkArith.wf_i64 (n := 20 + 3 * (k : Int)) ⟨by omega, by omega⟩, WalkArith.wf_i64 (n := 20 + 3 * (k : Int)) ⟨by omega, by omega⟩⟩
          obtain ⟨c0, c1, c2, c3⟩ := (HD.out.fr HA3.out.fr (fun h => h)).cells k hlt
          go_wp2_with (at_builtin; refine wpList_append_own _ rfl _ _ 45 rfl w.heap.size 50 i5 zero50 6 48 Try.underlying45 HZ5.out.1 HZ5.out.2.1 HZ5.out.2.2.1 HZ5.out.2.2.2 rfl (by decide) _ _ _ rfl (HA3.out.own.alloc _) ⟨_, 0, none⟩ 1 1 [.int .i64 l[k].k, .int .i64 l[k].x.c, .int .i64 l[k].x.s, .int .i64 l[k].x.o, .int .i64 (20 + 3 * (k : Int)), .int .i64 (20 + 3 * (k : Int))] rfl rfl ?c1 ?c2 ?c3 ?c4 ?c5 ?_)
          case c1 => exact cells_new6 _ _ _ _ _ _ _ _
          case c2 => intro u hu; simp at hu; rcases hu with rfl | rfl | rfl | rfl | rfl | rfl <;> rfl
          case c3 => have := HL3.out; simp only [maxLen]; omega
          case c4 => have := HL3.out; omega
          case c5 => have := HA3.out.fr.size; simp at this ⊢; omega
          intro v' wB hown' hg _
          have HAB := hid (HA3.out.snoc (SH.out) hown' hg)
          clear hown' hg c0 c1 c2 c3
          go_wp2
          go_roundw
          case rel => exact ⟨k + 1, by go_num, by omega, by omega, hid ⟨_, _, HAB.out⟩⟩
          case measure => simp [intOf]; omega
      · have hcb : ((hdo T l[k].k l[k].x).1 != 0) = true := by simp [hc]
        have HS := hid (HA.out.shk.skip (d := l[k]) hc)
        clear hc
        generalize (hdo T l[k].k l[k].x).1 = code at HDo hcb
        go_wp2_with fail
        refine HDo.out.mono ?_
        rintro e w2 ⟨rfl, hf2, hh2⟩
        have HA2 := hid (HA.out.skip hf2 hh2 HS.out)
        clear hf2 hh2 HDo c0 c1 c2 c3
        go_wp2
        go_roundw
        case rel => exact ⟨k + 1, by go_num, by omega, by omega, hid ⟨_, _, HA2.out⟩⟩
        case measure => simp [intOf]; omega
    · by_cases hlt0 : k < l.length
      · have h40 : ¬k < 40 := fun h => hgo ⟨hlt0, h⟩
        clear hgo
        have hA := HA.out
        obtain ⟨a4, g4, cap4, hv4, hS4⟩ := spansIn_own hA.own hA.wf (by have := hA.shk.len; omega)
        have HS4 := hid hS4
        have HFR := hid hA.fr
        obtain ⟨o, hrl, hol, hhl⟩ := hA.shk.line hk40
        have HL := hid (fun W (hW : Fr0 wr W) => lineR_any a4 g4 0 cap4 R W (HS4.out.fr0 hW))
        have hRl := hA.shk.len
        rw [hrl] at HL
        have HHL := hid hhl
        have HOL := hid hol
        clear hS4 hrl hol hhl hA
        subst hv4
        go_wp2_with fail
        refine (HL.out _ (Fr.refl _ _)).mono ?_
        rintro e w1 ⟨⟨v, rfl, hv⟩, hf1⟩
        obtain ⟨a6, g6, cap6, rfl, hn6⟩ := hv.nums (by show o.length ≤ 1000; have := HOL.out; omega)
        have HF1 := hid hf1
        have HN6 : Hid (NumsIn w1 a6 g6 0 (ints o)) := hid hn6
        clear hv hf1 hn6
        simp only
        have HH := hid (holds_any a4 g4 0 cap4 R a6 g6 0 cap6 (ints o) w1 (HS4.out.fr0 HF1.out) HN6.out)
        rw [show (ints o).length = R.length by simp [ints, HOL.out], HHL.out] at HH
        rw [HOL.out]
        go_wp2_with fail
        refine HH.out.mono ?_
        rintro e w3 ⟨rfl, hf3⟩
        have HF3 := hid hf3
        clear hf3
        go_wp2_with fail
        refine (works28_any _).mono ?_
        rintro e w4 ⟨rfl, hf4⟩
        go_wp2
        go_ret
        exact ⟨rfl, ((HFR.out.trans0 HF1.out).trans0 HF3.out).trans0 hf4⟩
      · clear hgo
        have hA := HA.out
        obtain ⟨a4, g4, cap4, hv4, hS4⟩ := spansIn_own hA.own hA.wf (by have := hA.shk.len; omega)
        have HS4 := hid hS4
        have HFR := hid hA.fr
        obtain ⟨o, hrl, hol, hhl⟩ := hA.shk.line hk40
        have HL := hid (fun W (hW : Fr0 wr W) => lineR_any a4 g4 0 cap4 R W (HS4.out.fr0 hW))
        have hRl := hA.shk.len
        rw [hrl] at HL
        have HHL := hid hhl
        have HOL := hid hol
        clear hS4 hrl hol hhl hA
        subst hv4
        go_wp2_with fail
        refine (HL.out _ (Fr.refl _ _)).mono ?_
        rintro e w1 ⟨⟨v, rfl, hv⟩, hf1⟩
        obtain ⟨a6, g6, cap6, rfl, hn6⟩ := hv.nums (by show o.length ≤ 1000; have := HOL.out; omega)
        have HF1 := hid hf1
        have HN6 : Hid (NumsIn w1 a6 g6 0 (ints o)) := hid hn6
        clear hv hf1 hn6
        simp only
        have HH := hid (holds_any a4 g4 0 cap4 R a6 g6 0 cap6 (ints o) w1 (HS4.out.fr0 HF1.out) HN6.out)
        rw [show (ints o).length = R.length by simp [ints, HOL.out], HHL.out] at HH
        rw [HOL.out]
        go_wp2_with fail
        refine HH.out.mono ?_
        rintro e w3 ⟨rfl, hf3⟩
        have HF3 := hid hf3
        clear hf3
        go_wp2_with fail
        refine (works28_any _).mono ?_
        rintro e w4 ⟨rfl, hf4⟩
        go_wp2
        go_ret
        exact ⟨rfl, ((HFR.out.trans0 HF1.out).trans0 HF3.out).trans0 hf4⟩
end Go.Proofs.Ytjaabbjobnfmmaa

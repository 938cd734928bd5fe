/-
  The law's small, walked.
-/
import Derived.Test.YtjaabbjobnfmmaaSmall28
namespace Go.Proofs.Ytjaabbjobnfmmaa
open Go.RowKit

/-- A call in a box. -/
def SBox (w : World) (q : Nat) (k c s o f t : Int) : Prop := w.heap[q]? = some (.cells #[.int .i64 k, .int .i64 c, .int .i64 s, .int .i64 o, .int .i64 f, .int .i64 t] 50 (0, 0))
section
variable {w w' : World} {q : Nat} {k c s o f t : Int}
theorem SBox.cells (h : SBox w q k c s o f t) : w.cell? ⟨q, 0, none⟩ = some (.int .i64 k) ∧ w.cell? ⟨q, 1, none⟩ = some (.int .i64 c) ∧ w.cell? ⟨q, 2, none⟩ = some (.int .i64 s) ∧ w.cell? ⟨q, 3, none⟩ = some (.int .i64 o) ∧ w.cell? ⟨q, 4, none⟩ = some (.int .i64 f) ∧ w.cell? ⟨q, 5, none⟩ = some (.int .i64 t) :=
  ⟨cell_of_block h 0, cell_of_block h 1, cell_of_block h 2, cell_of_block h 3, cell_of_block h 4, cell_of_block h 5⟩
theorem SBox.free (h : SBox w q k c s o f t) (i : Nat) : w.frozen? ⟨q, i, none⟩ = false := free_of_block h i
theorem sbox_zeros (h : SBox w q k c s o f t) : SBox (((w.setCell ⟨q, 1, none⟩ (.int .i64 0)).setCell ⟨q, 2, none⟩ (.int .i64 0)).setCell ⟨q, 3, none⟩ (.int .i64 0)) q k 0 0 0 f t := by
  have := setCell_block (setCell_block (setCell_block h 1 (.int .i64 0)) 2 (.int .i64 0)) 3 (.int .i64 0)
  unfold SBox
  simpa using this
theorem sbox_end (h : SBox w q k c s o f t) (t' : Int) : SBox (w.setCell ⟨q, 5, none⟩ (.int .i64 t')) q k c s o f t' := by
  have := setCell_block h 5 (.int .i64 t')
  unfold SBox
  simpa using this
theorem fr0_end {w1 : World} (h : Fr0 w w1 ∧ w.heap.size ≤ q) (x : Value) : Fr0 w (w1.setCell ⟨q, 5, none⟩ x) := by
  have hn : ¬ q < w.heap.size := by have := h.2; omega
  exact h.1.setCell (fun h => absurd h hn) _
end

set_option maxRecDepth 100000 in
set_option maxHeartbeats 16000000 in
theorem small_any (a : Option Addr) (b off cap : Nat) (l : List Sp) (w : World) (h : SpansIn w a b off l) :
    Calls Try.prog 34 #[.slice a l.length cap] w fun e w' => ∃ v, e = .returned v ∧ OwnS w' w.heap.size v (smlL l) ∧ Fr0 w w' := by
  obtain ⟨i5, hi5, hz50, hz51, hz52⟩ := info_parts info50
  have HZ5 := hid (show Try.prog.info? 50 = some i5 ∧ i5.zero = some zero50 ∧ i5.size = 6 ∧ i5.bytes = 48 from ⟨hi5, hz50, hz51, hz52⟩)
  have HD := hid h
  have hsm := h.small
  clear h hi5 hz50 hz51 hz52
  go_enter Try.func34, Try.ntmps34
  go_wp2_with (fail)
  go_loopw [3, 4] (fun v i wr => ∃ k : Nat, i = .int .i64 k ∧ k ≤ l.length ∧ k ≤ 6 ∧ Hid (SmlRel w wr a b off l v k)) (fun _ i _ => 6 - (intOf i).toNat)
  case atStart => exact ⟨0, rfl, Nat.zero_le _, Nat.zero_le _, hid ⟨(World.ownsRow_nil _ _ _ _ : OwnS _ _ _ []), HD.out.lt, Fr.refl _ _, HD.out⟩⟩
  case round =>
    obtain ⟨k, rfl, hk, hk6, hR⟩ := hrel
    by_cases hgo : k < l.length ∧ k < 6
    · obtain ⟨hlt, h6⟩ := hgo
      have hix := hR.out.spans.index cap k hlt
      obtain ⟨c0, -, -, c3, c4, c5⟩ := hR.out.spans.at k hlt
      have r1 := brg_range l[k].d.k 4 (by decide)
      have r2 := brg_range l[k].d.x.o 2 (by decide)
      have r3 := brg_range l[k].f 12 (by decide)
      have r4 := brg_range l[k].t 6 (by decide)
      have HB4 := bring6 l[k].t
      have n0 := World.new_ne wr _ c0
      have n3 := World.new_ne wr _ c3
      have n4 := World.new_ne wr _ c4
      have n5 := World.new_ne wr _ c5
      go_upto_region 5 with (fail)
      have e6 : decide ((k : Int) < 6) = true := by simp; omega
      try simp only [e6]
      have hw1 : IntKind.i64.wrap (1 + brg l[k].d.k 4) = 1 + brg l[k].d.k 4 := IntWalk.i64_in _ (by omega)
      have hw2 : IntKind.i64.wrap (1 + brg l[k].d.x.o 2) = 1 + brg l[k].d.x.o 2 := IntWalk.i64_in _ (by omega)
      have Hw := hid (And.intro hw1 hw2)
      clear hw1 hw2
      go_cut [5] from 6 to 68 (fun t5 wx => ∃ q : Nat, t5 = .pointer (some ⟨q, 0, none⟩) ∧ SBox wx q (1 + brg l[k].d.k 4) 0 0 (1 + brg l[k].d.x.o 2) (brg l[k].f 12) (-1) ∧ Fr0 wr wx ∧ wr.heap.size ≤ q)
      case first =>
        go_region_held3 (fun w' => w'.cell? ⟨b, off + k * 6, none⟩ = some (.int .i64 l[k].d.k) ∧ w'.cell? ⟨b, off + k * 6 + 3, none⟩ = some (.int .i64 l[k].d.x.o) ∧ w'.cell? ⟨b, off + k * 6 + 4, none⟩ = some (.int .i64 l[k].f)) (go_keep) ((go_at_call 19; refine (bringE _ _ (by decide) _).mono ?_; rintro e w' ⟨rfl, rfl⟩))
        all_goals
          go_wp2_with fail
          go_meet
          refine ⟨_, rfl, ?_, ((Fr.refl _ wr).alloc _).drew, Nat.le_refl _⟩
          simp only [Hw.out.1, Hw.out.2]
          exact alloc_block wr _
      case rest =>
        obtain ⟨q, rfl, hq, hfx, hqs⟩ := hcut
        clear n0 n3 n4 n5 c0 c3 c4 c5 hix
        obtain ⟨z1, hz1⟩ : ∃ z, z = brg l[k].d.k 4 := ⟨_, rfl⟩
        obtain ⟨z2, hz2⟩ : ∃ z, z = brg l[k].d.x.o 2 := ⟨_, rfl⟩
        obtain ⟨z3, hz3⟩ : ∃ z, z = brg l[k].f 12 := ⟨_, rfl⟩
        obtain ⟨z4, hz4⟩ : ∃ z, z = brg l[k].t 6 := ⟨_, rfl⟩
        rw [← hz1, ← hz2, ← hz3] at hq
        rw [← hz1] at r1
        rw [← hz2] at r2
        rw [← hz3] at r3
        rw [← hz4] at r4 HB4
        have Hz1 := hid hz1
        have Hz2 := hid hz2
        have Hz3 := hid hz3
        have Hz4 := hid hz4
        have Hx := hid (And.intro hfx hqs)
        have Hq := hid hq
        clear hz1 hz2 hz3 hz4
        obtain ⟨d0, d1, d2, d3, d4, d5⟩ := hq.cells
        clear d4 d5
        by_cases hk2 : 1 + z1 = 2
        · have hkb : (1 + z1 == 2) = true := by simp [hk2]
          have HK2 := hid hk2
          have f1 := hq.free 1
          have f2 := hq.free 2
          have f3 := hq.free 3
          clear hk2 hq hfx hqs
          go_upto_region 8 with (fail)
          generalize hW5 : (((_ : World).setCell _ _).setCell _ _).setCell _ _ = W5
          have hX5 : Hid (Fr0 wr W5 ∧ wr.heap.size ≤ q) := hid ⟨by rw [← hW5]; exact fr0_zeros Hx.out _ _ _, Hx.out.2⟩
          have hqY : Hid (SBox W5 q 2 0 0 0 z3 (-1)) := hid (by
            rw [← hW5, ← HK2.out]
            exact sbox_zeros Hq.out)
          clear hW5 d0 d1 d2 d3 f1 f2 f3 Hq Hx
          have HR2 := hid (hR.out.fr0 hX5.out.1)
          have hix := HR2.out.spans.index cap k hlt
          have c5 := (HR2.out.spans.at k hlt).2.2.2.2.2
          by_cases ht : 0 ≤ l[k].t
          · have htb : decide (0 ≤ l[k].t) = true := by simp [ht]
            have HE : Hid ((smlF l[k]).enc = [.int .i64 2, .int .i64 0, .int .i64 0, .int .i64 0, .int .i64 z3, .int .i64 (z3 + z4)]) := hid (by have hk2 := HK2.out; simp only [Sp.enc, smlF]; rw [← Hz1.out, ← Hz2.out, ← Hz3.out, ← Hz4.out]; simp only [if_pos hk2, zob]; rw [hk2]; simp only [if_pos ht])
            clear ht
            have q4 := hqY.out.cells.2.2.2.2.1
            have q5 := hqY.out.cells.2.2.2.2.2
            have f5 := hqY.out.free 5
            have hwr : IntKind.i64.wrap (z3 + z4) = z3 + z4 := IntWalk.i64_in _ (by omega)
            have HF9 : Hid (Fr0 wr (W5.setCell ⟨q, 5, none⟩ (.int .i64 (z3 + z4)))) := hid (fr0_end hX5.out _)
            have HQ9 : Hid (SBox (W5.setCell ⟨q, 5, none⟩ (.int .i64 (z3 + z4))) q 2 0 0 0 z3 (z3 + z4)) := hid (sbox_end hqY.out _)
            have HK1 : Hid ((W5.setCell ⟨q, 5, none⟩ (.int .i64 (z3 + z4))).drew.cell? ⟨q, 4, none⟩ = some (.int .i64 z3)) := hid HQ9.out.cells.2.2.2.2.1
            have HK3 : Hid ((W5.setCell ⟨q, 5, none⟩ (.int .i64 (z3 + z4))).drew.cell? ⟨b, off + k * 6 + 5, none⟩ = some (.int .i64 l[k].t)) := hid ((hR.out.fr0 HF9.out).spans.at k hlt).2.2.2.2.2
            go_upto_region 9 with (fail)
            go_region_held3 (fun w' => w'.cell? ⟨q, 4, none⟩ = some (.int .i64 z3) ∧ w'.cell? ⟨b, off + k * 6 + 5, none⟩ = some (.int .i64 l[k].t)) (first | exact ⟨HK1.out, HK3.out⟩ | go_keep) ((go_at_call 19; refine (HB4 _).mono ?_; rintro e w' ⟨rfl, rfl⟩))
            all_goals
              clear q4 q5 f5 c5 hix hwr HB4
              have HR9 := hid (hR.out.fr0 (HF9.out.drew))
              have HQD : Hid (SBox (W5.setCell ⟨q, 5, none⟩ (.int .i64 (z3 + z4))).drew q 2 0 0 0 z3 (z3 + z4)) := hid HQ9.out
              go_upto_region 10 with (fail)
              generalize (W5.setCell ⟨q, 5, none⟩ (.int .i64 (z3 + z4))).drew = W9 at HR9 HQD ⊢
              have hR2 := HR9
              have hqZ := HQD
              have hown := hid hR2.out.own
              have hlen := hid (sml_len hk)
              obtain ⟨e0, e1, e2, e3, e4, e5⟩ := hqZ.out.cells
              go_wp2_with (at_builtin; refine wpList_append_own _ rfl _ _ 45 rfl w.heap.size 50 i5 zero50 6 48 Try.underlying45 HZ5.out.1 HZ5.out.2.1 HZ5.out.2.2.1 HZ5.out.2.2.2 rfl (by decide) _ _ _ rfl (hown.out.alloc _) ⟨_, 0, none⟩ 1 1 [.int .i64 2, .int .i64 0, .int .i64 0, .int .i64 0, .int .i64 z3, .int .i64 (z3 + z4)] rfl rfl ?c1 ?c2 ?c3 ?c4 ?c5 ?_)
              case c1 => exact cells_new6 _ _ _ _ _ _ _ _
              case c2 => intro u hu; simp at hu; rcases hu with rfl | rfl | rfl | rfl | rfl | rfl <;> rfl
              case c3 => rw [hlen.out]; simp only [maxLen]; omega
              case c4 => rw [hlen.out]; omega
              case c5 => have := hR2.out.fr.size; simp at this ⊢; omega
              intro v' wB hown' hg _
              try rw [hlen.out] at hown'
              have hRn := hid (hR2.out.snoc hlt (by rw [HE.out]; exact hown') hg)
              clear hown' hg e0 e1 e2 e3 e4 e5
              go_wp2
              go_roundw
              case rel => exact ⟨k + 1, by go_num, by omega, by omega, hRn⟩
              case measure => simp [intOf]; omega
          · have htb : decide (0 ≤ l[k].t) = false := by simp [ht]
            have HE : Hid ((smlF l[k]).enc = [.int .i64 2, .int .i64 0, .int .i64 0, .int .i64 0, .int .i64 z3, .int .i64 (-1)]) := hid (by have hk2 := HK2.out; simp only [Sp.enc, smlF]; rw [← Hz1.out, ← Hz2.out, ← Hz3.out, ← Hz4.out]; simp only [if_pos hk2, zob]; rw [hk2]; simp only [if_neg ht])
            clear ht
            have hR2 := HR2
            have hqZ := hqY
            have hown := hid hR2.out.own
            have hlen := hid (sml_len hk)
            obtain ⟨e0, e1, e2, e3, e4, e5⟩ := hqZ.out.cells
            go_wp2_with (at_builtin; refine wpList_append_own _ rfl _ _ 45 rfl w.heap.size 50 i5 zero50 6 48 Try.underlying45 HZ5.out.1 HZ5.out.2.1 HZ5.out.2.2.1 HZ5.out.2.2.2 rfl (by decide) _ _ _ rfl (hown.out.alloc _) ⟨_, 0, none⟩ 1 1 [.int .i64 2, .int .i64 0, .int .i64 0, .int .i64 0, .int .i64 z3, .int .i64 (-1)] rfl rfl ?c1 ?c2 ?c3 ?c4 ?c5 ?_)
            case c1 => exact cells_new6 _ _ _ _ _ _ _ _
            case c2 => intro u hu; simp at hu; rcases hu with rfl | rfl | rfl | rfl | rfl | rfl <;> rfl
            case c3 => rw [hlen.out]; simp only [maxLen]; omega
            case c4 => rw [hlen.out]; omega
            case c5 => have := hR2.out.fr.size; simp at this ⊢; omega
            intro v' wB hown' hg _
            try rw [hlen.out] at hown'
            have hRn := hid (hR2.out.snoc hlt (by rw [HE.out]; exact hown') hg)
            clear hown' hg e0 e1 e2 e3 e4 e5
            go_wp2
            go_roundw
            case rel => exact ⟨k + 1, by go_num, by omega, by omega, hRn⟩
            case measure => simp [intOf]; omega
        · have hkb : (1 + z1 == 2) = false := by simp [hk2]
          have HK2 := hid hk2
          clear hk2 hq hfx hqs
          have HR2 := hid (hR.out.fr0 Hx.out.1)
          have hix := HR2.out.spans.index cap k hlt
          have c5 := (HR2.out.spans.at k hlt).2.2.2.2.2
          by_cases ht : 0 ≤ l[k].t
          · have htb : decide (0 ≤ l[k].t) = true := by simp [ht]
            have HE : Hid ((smlF l[k]).enc = [.int .i64 (1 + z1), .int .i64 0, .int .i64 0, .int .i64 (1 + z2), .int .i64 z3, .int .i64 (z3 + z4)]) := hid (by have hk2 := HK2.out; simp only [Sp.enc, smlF]; rw [← Hz1.out, ← Hz2.out, ← Hz3.out, ← Hz4.out]; simp only [if_neg hk2]; simp only [if_pos ht])
            clear ht
            have q4 := Hq.out.cells.2.2.2.2.1
            have q5 := Hq.out.cells.2.2.2.2.2
            have f5 := Hq.out.free 5
            have hwr : IntKind.i64.wrap (z3 + z4) = z3 + z4 := IntWalk.i64_in _ (by omega)
            have HF9 : Hid (Fr0 wr (wc.setCell ⟨q, 5, none⟩ (.int .i64 (z3 + z4)))) := hid (fr0_end Hx.out _)
            have HQ9 : Hid (SBox (wc.setCell ⟨q, 5, none⟩ (.int .i64 (z3 + z4))) q (1 + z1) 0 0 (1 + z2) z3 (z3 + z4)) := hid (sbox_end Hq.out _)
            have HK1 : Hid ((wc.setCell ⟨q, 5, none⟩ (.int .i64 (z3 + z4))).drew.cell? ⟨q, 4, none⟩ = some (.int .i64 z3)) := hid HQ9.out.cells.2.2.2.2.1
            have HK3 : Hid ((wc.setCell ⟨q, 5, none⟩ (.int .i64 (z3 + z4))).drew.cell? ⟨b, off + k * 6 + 5, none⟩ = some (.int .i64 l[k].t)) := hid ((hR.out.fr0 HF9.out).spans.at k hlt).2.2.2.2.2
            go_upto_region 9 with (fail)
            go_region_held3 (fun w' => w'.cell? ⟨q, 4, none⟩ = some (.int .i64 z3) ∧ w'.cell? ⟨b, off + k * 6 + 5, none⟩ = some (.int .i64 l[k].t)) (first | exact ⟨HK1.out, HK3.out⟩ | go_keep) ((go_at_call 19; refine (HB4 _).mono ?_; rintro e w' ⟨rfl, rfl⟩))
            all_goals
              clear q4 q5 f5 c5 hix hwr HB4
              have HR9 := hid (hR.out.fr0 (HF9.out.drew))
              have HQD : Hid (SBox (wc.setCell ⟨q, 5, none⟩ (.int .i64 (z3 + z4))).drew q (1 + z1) 0 0 (1 + z2) z3 (z3 + z4)) := hid HQ9.out
              go_upto_region 10 with (fail)
              generalize (wc.setCell ⟨q, 5, none⟩ (.int .i64 (z3 + z4))).drew = W9 at HR9 HQD ⊢
              have hR2 := HR9
              have hqZ := HQD
              have hown := hid hR2.out.own
              have hlen := hid (sml_len hk)
              obtain ⟨e0, e1, e2, e3, e4, e5⟩ := hqZ.out.cells
              go_wp2_with (at_builtin; refine wpList_append_own _ rfl _ _ 45 rfl w.heap.size 50 i5 zero50 6 48 Try.underlying45 HZ5.out.1 HZ5.out.2.1 HZ5.out.2.2.1 HZ5.out.2.2.2 rfl (by decide) _ _ _ rfl (hown.out.alloc _) ⟨_, 0, none⟩ 1 1 [.int .i64 (1 + z1), .int .i64 0, .int .i64 0, .int .i64 (1 + z2), .int .i64 z3, .int .i64 (z3 + z4)] rfl rfl ?c1 ?c2 ?c3 ?c4 ?c5 ?_)
              case c1 => exact cells_new6 _ _ _ _ _ _ _ _
              case c2 => intro u hu; simp at hu; rcases hu with rfl | rfl | rfl | rfl | rfl | rfl <;> rfl
              case c3 => rw [hlen.out]; simp only [maxLen]; omega
              case c4 => rw [hlen.out]; omega
              case c5 => have := hR2.out.fr.size; simp at this ⊢; omega
              intro v' wB hown' hg _
              try rw [hlen.out] at hown'
              have hRn := hid (hR2.out.snoc hlt (by rw [HE.out]; exact hown') hg)
              clear hown' hg e0 e1 e2 e3 e4 e5
              go_wp2
              go_roundw
              case rel => exact ⟨k + 1, by go_num, by omega, by omega, hRn⟩
              case measure => simp [intOf]; omega
          · have htb : decide (0 ≤ l[k].t) = false := by simp [ht]
            have HE : Hid ((smlF l[k]).enc = [.int .i64 (1 + z1), .int .i64 0, .int .i64 0, .int .i64 (1 + z2), .int .i64 z3, .int .i64 (-1)]) := hid (by have hk2 := HK2.out; simp only [Sp.enc, smlF]; rw [← Hz1.out, ← Hz2.out, ← Hz3.out, ← Hz4.out]; simp only [if_neg hk2]; simp only [if_neg ht])
            clear ht
            have hR2 := HR2
            have hqZ := Hq
            have hown := hid hR2.out.own
            have hlen := hid (sml_len hk)
            obtain ⟨e0, e1, e2, e3, e4, e5⟩ := hqZ.out.cells
            go_wp2_with (at_builtin; refine wpList_append_own _ rfl _ _ 45 rfl w.heap.size 50 i5 zero50 6 48 Try.underlying45 HZ5.out.1 HZ5.out.2.1 HZ5.out.2.2.1 HZ5.out.2.2.2 rfl (by decide) _ _ _ rfl (hown.out.alloc _) ⟨_, 0, none⟩ 1 1 [.int .i64 (1 + z1), .int .i64 0, .int .i64 0, .int .i64 (1 + z2), .int .i64 z3, .int .i64 (-1)] rfl rfl ?c1 ?c2 ?c3 ?c4 ?c5 ?_)
            case c1 => exact cells_new6 _ _ _ _ _ _ _ _
            case c2 => intro u hu; simp at hu; rcases hu with rfl | rfl | rfl | rfl | rfl | rfl <;> rfl
            case c3 => rw [hlen.out]; simp only [maxLen]; omega
            case c4 => rw [hlen.out]; omega
            case c5 => have := hR2.out.fr.size; simp at this ⊢; omega
            intro v' wB hown' hg _
            try rw [hlen.out] at hown'
            have hRn := hid (hR2.out.snoc hlt (by rw [HE.out]; exact hown') hg)
            clear hown' hg e0 e1 e2 e3 e4 e5
            go_wp2
            go_roundw
            case rel => exact ⟨k + 1, by go_num, by omega, by omega, hRn⟩
            case measure => simp [intOf]; omega
    · by_cases hlt0 : k < l.length
      · have hk6' : ¬ k < 6 := fun h => hgo ⟨hlt0, h⟩
        have e6 : k = 6 := by omega
        have HO : Hid (OwnS wr w.heap.size u3 (smlL l) ∧ Fr0 w wr) := hid ⟨by have := hR.out.own; rw [e6] at this; exact this, hR.out.fr⟩
        clear hgo hR e6
        go_wp2
        go_ret
        exact ⟨_, rfl, HO.out⟩
      · have HO : Hid (OwnS wr w.heap.size u3 (smlL l) ∧ Fr0 w wr) := hid ⟨by
          have := hR.out.own
          rw [List.take_of_length_le (by simp; omega)] at this
          unfold smlL
          rw [List.take_of_length_le (by simp; omega)]
          exact this, hR.out.fr⟩
        clear hgo hR
        go_wp2
        go_ret
        exact ⟨_, rfl, HO.out⟩
end Go.Proofs.Ytjaabbjobnfmmaa

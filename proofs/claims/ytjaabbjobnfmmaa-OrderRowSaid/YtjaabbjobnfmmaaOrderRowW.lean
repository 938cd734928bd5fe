/-
  OrderRow, walked.
-/
import Derived.Test.YtjaabbjobnfmmaaRowLaw
namespace Go.Proofs.Ytjaabbjobnfmmaa
open Go.RowKit

set_option maxRecDepth 100000 in
set_option maxHeartbeats 16000000 in
theorem orderRow_walk (a : Option Addr) (b off cap : Nat) (l : List Dd) (w : World) (h : DeedsIn w a b off l) :
    Calls Try.prog 12 #[.slice a l.length cap] w fun e w' => e = .returned (.bool true) ∧ Fr0 w w' := by
  obtain ⟨i0, hi, hz0, hz1, hz2⟩ := info_parts info32
  have HZ := hid (show Try.prog.info? 32 = some i0 ∧ i0.zero = some (.agg #[.int .i64 0, .int .i64 0, .int .i64 0, .int .i64 0]) ∧ i0.size = 4 ∧ i0.bytes = 32 from ⟨hi, hz0, hz1, hz2⟩)
  obtain ⟨i5, hi5, hz50, hz51, hz52⟩ := info_parts info50
  have HZ5 := hid (show Try.prog.info? 50 = some i5 ∧ i5.zero = some zero50 ∧ i5.size = 6 ∧ i5.bytes = 48 from ⟨hi5, hz50, hz51, hz52⟩)
  obtain ⟨i3, hi3, hz30, hz31, hz32⟩ := info_parts info3
  have HZ3 := hid (show Try.prog.info? 3 = some i3 ∧ i3.zero = some (.int .i64 0) ∧ i3.size = 1 ∧ i3.bytes = 8 from ⟨hi3, hz30, hz31, hz32⟩)
  have HD := hid h
  have hsm := h.small
  clear h hz0 hz1 hz2 hi hi5 hz50 hz51 hz52 hi3 hz30 hz31 hz32
  go_enter Try.func12, Try.ntmps12
  go_wp2_with (fail)
  go_loopw [3, 4, 5, 6] (fun v3 v4 v5 i wr => ∃ k : Nat, i = .int .i64 k ∧ k ≤ l.length ∧ k ≤ 40 ∧ Hid (RowRel w wr a b off l v3 v4 v5 k k k)) (fun _ _ _ i _ => 40 - (intOf i).toNat)
  case atStart => exact ⟨0, rfl, Nat.zero_le _, Nat.zero_le _, hid ⟨(World.ownsRow_nil _ _ _ _ : OwnD _ _ _ []), (World.ownsRow_nil _ _ _ _ : OwnS _ _ _ []), World.ownsRow_nil _ _ _ _, HD.out.lt, Fr.refl _ _, HD.out⟩⟩
  case round =>
    obtain ⟨k, rfl, hk, hk40, hR⟩ := hrel
    by_cases hgo : k < l.length ∧ k < 40
    · obtain ⟨hlt, h40⟩ := hgo
      have hix := hR.out.deeds.index cap k hlt
      obtain ⟨c0, c1, c2, c3⟩ := hR.out.deeds.cells k hlt
      have HB := bring4 l[k].k
      have r := brg_range l[k].k 4 (by decide)
      obtain ⟨z, hz⟩ : ∃ z, z = brg l[k].k 4 := ⟨_, rfl⟩
      rw [← hz] at HB r
      have Hz := hid hz
      clear hz
      have n0 := World.new_ne wr _ c0
      have n1 := World.new_ne wr _ c1
      have n2 := World.new_ne wr _ c2
      have n3 := World.new_ne wr _ c3
      go_upto_region 7 with (fail)
      have e40 : decide ((k : Int) < 40) = true := by simp; omega
      try simp only [e40]
      have hwr : IntKind.i64.wrap (1 + z) = 1 + z := by
        have hz : z = 0 ∨ z = 1 ∨ z = 2 ∨ z = 3 := by omega
        rcases hz with rfl | rfl | rfl | rfl <;> decide
      have Hwr := hid hwr
      clear hwr
      go_cut [7] from 22 to 57 (fun t7 wx => ∃ q : Nat, t7 = .pointer (some ⟨q, 0, none⟩) ∧ DBox wx q (1 + z) l[k].x.c l[k].x.s l[k].x.o ∧ Fr0 wr wx ∧ wr.heap.size ≤ q)
      case first =>
        go_region_held3 (fun w' => w'.cell? ⟨b, off + k * 4, none⟩ = some (.int .i64 l[k].k) ∧ w'.cell? ⟨b, off + k * 4 + 1, none⟩ = some (.int .i64 l[k].x.c) ∧ w'.cell? ⟨b, off + k * 4 + 2, none⟩ = some (.int .i64 l[k].x.s) ∧ w'.cell? ⟨b, off + k * 4 + 3, none⟩ = some (.int .i64 l[k].x.o)) (go_keep) ((go_at_call 19; refine (HB _).mono ?_; rintro e w' ⟨rfl, rfl⟩))
        all_goals
          go_wp2_with fail
          go_meet
          refine ⟨_, rfl, ?_, ((Fr.refl _ wr).alloc _).drew, Nat.le_refl _⟩
          simp only [Hwr.out]
          exact alloc_block wr _
      case rest =>
        obtain ⟨q, rfl, hq, hfx, hqs⟩ := hcut
        clear HB n0 n1 n2 n3 c0 c1 c2 c3 hix
        obtain ⟨⟨d0, d1, d2, d3⟩, f1, f2, f3⟩ := hq.cells
        have Hx := hid (And.intro hfx hqs)
        have Hq := hid hq
        clear hq hfx hqs r
        by_cases hz2 : 1 + z = 2
        · have hzb : (1 + z == 2) = true := by simp [hz2]
          have HE := hid (nrm_two Hz.out hz2)
          have HZ2 := hid hz2
          clear hz2
          go_upto_region 10 with (fail)
          generalize hW5 : (((_ : World).setCell _ _).setCell _ _).setCell _ _ = W5
          have hR2 := hid (hR.out.fr0 (w' := W5) (by rw [← hW5]; exact fr0_zeros Hx.out _ _ _))
          have hq5 : Hid (DBox W5 q 2 0 0 0) := hid (by
            rw [← hW5, ← HZ2.out]
            exact box_zeros Hq.out)
          clear hW5 d0 d1 d2 d3 f1 f2 f3
          obtain ⟨⟨d0, d1, d2, d3⟩, f1, f2, f3⟩ := hq5.out.cells
          clear f1 f2 f3
          have hown := hid hR2.out.own3
          have hlen := hid (map_len (l := l) hk)
          have HO3 : Hid (∀ i, u3.ownBlock = some i → i < wr.heap.size) := hid (fun i hi => (hR.out.own3.lt i hi).2)
          clear hR
          go_wp2_with (at_builtin; refine wpList_append_own _ rfl _ _ 22 rfl w.heap.size 32 i0 (.agg #[.int .i64 0, .int .i64 0, .int .i64 0, .int .i64 0]) 4 32 Try.underlying22 HZ.out.1 HZ.out.2.1 HZ.out.2.2.1 HZ.out.2.2.2 rfl (by decide) _ _ _ rfl (hown.out.alloc _) ⟨_, 0, none⟩ 1 1 [.int .i64 2, .int .i64 0, .int .i64 0, .int .i64 0] rfl rfl ?c1 ?c2 ?c3 ?c4 ?c5 ?_)
          case c1 => exact cells_new4 _ _ _ _ _ _
          case c2 => exact one4 _ _ _ _
          case c3 => rw [hlen.out]; simp only [maxLen]; omega
          case c4 => rw [hlen.out]; omega
          case c5 => have := hR2.out.fr.size; simp at this ⊢; omega
          intro v3' wA hown' hg _
          try rw [hlen.out] at hown'
          have hown2 : wA.ownsRow w.heap.size 32 4 v3' (k + 1) (flat Dd.enc ((l.map nrm).take k) ++ (nrm l[k]).enc) := by
            rw [HE.out]
            exact hown'
          have hR3 := hid (hR2.out.snoc3 hlt hown2 hg)
          have hqA : DBox wA q (2) (0) (0) (0) := (grow_fr hown.out hR2.out.fr (Nat.le_refl _) hg).2.at hq5.out (fun e => by
            have h1 := HO3.out q e.symm
            have := Hx.out.2
            omega)
          have HqA := hid hqA
          clear hown' hown2 hg hown d0 d1 d2 d3
          obtain ⟨⟨d0, d1, d2, d3⟩, -, -, -⟩ := hqA.cells
          clear hqA
          go_wp2_with (at_builtin; refine wpList_append_own _ rfl _ _ 45 rfl w.heap.size 50 i5 zero50 6 48 Try.underlying45 HZ5.out.1 HZ5.out.2.1 HZ5.out.2.2.1 HZ5.out.2.2.2 rfl (by decide) _ _ _ rfl (hR3.out.own4.alloc _) ⟨wA.heap.size, 0, none⟩ 1 1 [.int .i64 2, .int .i64 0, .int .i64 0, .int .i64 0, .int .i64 (2 * (k : Int)), .int .i64 (2 * (k : Int) + 1)] rfl rfl ?c1 ?c2 ?c3 ?c4 ?c5 ?_)
          case c1 => exact cells_new6 _ _ _ _ _ _ _ _
          case c2 => intro u hu; simp at hu; rcases hu with rfl | rfl | rfl | rfl | rfl | rfl <;> rfl
          case c3 => rw [rowL_len]; simp only [maxLen]; omega
          case c4 => rw [rowL_len]; omega
          case c5 => have := hR3.out.fr.size; simp at this ⊢; omega
          intro v4' wB hown' hg _
          try rw [rowL_len] at hown'
          have hR4 := hid (hR3.out.snoc4 (by rw [rowF_get hlt]; have := HE.out; unfold Dd.enc at this; simp only [Sp.enc]; simp only [List.cons.injEq, Value.int.injEq, true_and, and_true] at this; obtain ⟨e1, e2, e3, e4⟩ := this; rw [e1, e2, e3, e4]; exact hown') hg)
          clear hown' hg d0 d1 d2 d3
          go_wp2_with (at_builtin; refine wpList_append_own _ rfl _ _ 46 rfl w.heap.size 3 i3 (.int .i64 0) 1 8 Try.underlying46 HZ3.out.1 HZ3.out.2.1 HZ3.out.2.2.1 HZ3.out.2.2.2 rfl (by decide) _ _ _ rfl (hR4.out.own5.alloc _) ⟨wB.heap.size, 0, none⟩ 1 1 [.int .i64 k] rfl rfl ?c1 ?c2 ?c3 ?c4 ?c5 ?_)
          case c1 => exact cells_new1 _ _ _
          case c2 => simp [Value.oneCell']
          case c3 => simp only [maxLen]; omega
          case c4 => omega
          case c5 => have := hR4.out.fr.size; simp at this ⊢; omega
          intro v5' wC hown' hg _
          have hR5 := hid (hR4.out.snoc5 hown' hg)
          clear hown' hg
          go_wp2
          go_roundw
          case rel => exact ⟨k + 1, by go_num, by omega, by omega, hR5⟩
          case measure => simp [intOf]; omega
        · have hzb : (1 + z == 2) = false := by simp [hz2]
          have HE := hid (nrm_not Hz.out hz2)
          clear hz2 d0 d1 d2 d3 f1 f2 f3
          obtain ⟨⟨d0, d1, d2, d3⟩, f1, f2, f3⟩ := Hq.out.cells
          go_upto_region 10 with (fail)
          have hR2 := hid (hR.out.fr0 Hx.out.1)
          have hq5 := Hq
          clear f1 f2 f3
          have hown := hid hR2.out.own3
          have hlen := hid (map_len (l := l) hk)
          have HO3 : Hid (∀ i, u3.ownBlock = some i → i < wr.heap.size) := hid (fun i hi => (hR.out.own3.lt i hi).2)
          clear hR
          go_wp2_with (at_builtin; refine wpList_append_own _ rfl _ _ 22 rfl w.heap.size 32 i0 (.agg #[.int .i64 0, .int .i64 0, .int .i64 0, .int .i64 0]) 4 32 Try.underlying22 HZ.out.1 HZ.out.2.1 HZ.out.2.2.1 HZ.out.2.2.2 rfl (by decide) _ _ _ rfl (hown.out.alloc _) ⟨_, 0, none⟩ 1 1 [.int .i64 (1 + z), .int .i64 l[k].x.c, .int .i64 l[k].x.s, .int .i64 l[k].x.o] rfl rfl ?c1 ?c2 ?c3 ?c4 ?c5 ?_)
          case c1 => exact cells_new4 _ _ _ _ _ _
          case c2 => exact one4 _ _ _ _
          case c3 => rw [hlen.out]; simp only [maxLen]; omega
          case c4 => rw [hlen.out]; omega
          case c5 => have := hR2.out.fr.size; simp at this ⊢; omega
          intro v3' wA hown' hg _
          try rw [hlen.out] at hown'
          have hown2 : wA.ownsRow w.heap.size 32 4 v3' (k + 1) (flat Dd.enc ((l.map nrm).take k) ++ (nrm l[k]).enc) := by
            rw [HE.out]
            exact hown'
          have hR3 := hid (hR2.out.snoc3 hlt hown2 hg)
          have hqA : DBox wA q ((1 + z)) (l[k].x.c) (l[k].x.s) (l[k].x.o) := (grow_fr hown.out hR2.out.fr (Nat.le_refl _) hg).2.at hq5.out (fun e => by
            have h1 := HO3.out q e.symm
            have := Hx.out.2
            omega)
          have HqA := hid hqA
          clear hown' hown2 hg hown d0 d1 d2 d3
          obtain ⟨⟨d0, d1, d2, d3⟩, -, -, -⟩ := hqA.cells
          clear hqA
          go_wp2_with (at_builtin; refine wpList_append_own _ rfl _ _ 45 rfl w.heap.size 50 i5 zero50 6 48 Try.underlying45 HZ5.out.1 HZ5.out.2.1 HZ5.out.2.2.1 HZ5.out.2.2.2 rfl (by decide) _ _ _ rfl (hR3.out.own4.alloc _) ⟨wA.heap.size, 0, none⟩ 1 1 [.int .i64 (1 + z), .int .i64 l[k].x.c, .int .i64 l[k].x.s, .int .i64 l[k].x.o, .int .i64 (2 * (k : Int)), .int .i64 (2 * (k : Int) + 1)] rfl rfl ?c1 ?c2 ?c3 ?c4 ?c5 ?_)
          case c1 => exact cells_new6 _ _ _ _ _ _ _ _
          case c2 => intro u hu; simp at hu; rcases hu with rfl | rfl | rfl | rfl | rfl | rfl <;> rfl
          case c3 => rw [rowL_len]; simp only [maxLen]; omega
          case c4 => rw [rowL_len]; omega
          case c5 => have := hR3.out.fr.size; simp at this ⊢; omega
          intro v4' wB hown' hg _
          try rw [rowL_len] at hown'
          have hR4 := hid (hR3.out.snoc4 (by rw [rowF_get hlt]; have := HE.out; unfold Dd.enc at this; simp only [Sp.enc]; simp only [List.cons.injEq, Value.int.injEq, true_and, and_true] at this; obtain ⟨e1, e2, e3, e4⟩ := this; rw [e1, e2, e3, e4]; exact hown') hg)
          clear hown' hg d0 d1 d2 d3
          go_wp2_with (at_builtin; refine wpList_append_own _ rfl _ _ 46 rfl w.heap.size 3 i3 (.int .i64 0) 1 8 Try.underlying46 HZ3.out.1 HZ3.out.2.1 HZ3.out.2.2.1 HZ3.out.2.2.2 rfl (by decide) _ _ _ rfl (hR4.out.own5.alloc _) ⟨wB.heap.size, 0, none⟩ 1 1 [.int .i64 k] rfl rfl ?c1 ?c2 ?c3 ?c4 ?c5 ?_)
          case c1 => exact cells_new1 _ _ _
          case c2 => simp [Value.oneCell']
          case c3 => simp only [maxLen]; omega
          case c4 => omega
          case c5 => have := hR4.out.fr.size; simp at this ⊢; omega
          intro v5' wC hown' hg _
          have hR5 := hid (hR4.out.snoc5 hown' hg)
          clear hown' hg
          go_wp2
          go_roundw
          case rel => exact ⟨k + 1, by go_num, by omega, by omega, hR5⟩
          case measure => simp [intOf]; omega
    · by_cases hlt0 : k < l.length
      · have h40 : ¬k < 40 := fun h => hgo ⟨hlt0, h⟩
        clear hgo
        have hr := hid hR.out
        clear hR
        obtain ⟨a3, g3, cap3, rfl, hD3⟩ := deedsIn_own (l := (l.map nrm).take k) (by have := hr.out.own3; exact this) (fun d hd => by obtain ⟨e, he, rfl⟩ := List.mem_map.1 (List.mem_of_mem_take hd); exact nrm_wf (HD.out.wf e he)) (by rw [map_len hk]; omega)
        rw [map_len hk]
        obtain ⟨a4, g4, cap4, rfl, hS4⟩ := spansIn_own hr.out.own4 (fun d hd => by
          obtain ⟨i, hi, rfl⟩ := List.mem_map.1 hd
          have hik := List.mem_range.1 hi
          rw [rowF_get (by omega)]
          exact ⟨nrm_wf (HD.out.wf _ (List.getElem_mem _)), WalkArith.wf_i64 (n := 2 * (i : Int)) ⟨by omega, by omega⟩, WalkArith.wf_i64 (n := 2 * (i : Int) + 1) ⟨by omega, by omega⟩⟩) (by rw [rowL_len]; omega)
        rw [rowL_len]
        obtain ⟨a5, g5, cap5, rfl, hN5⟩ := IntsOwn.nums (w := w) (w' := wr) (q := List.range k) (by unfold IntsOwn; rw [List.length_range]; exact hr.out.own5) (by simp; omega)
        rw [List.length_range]
        have HD3 := hid hD3
        have HS4 := hid hS4
        have HN5 : Hid (NumsIn wr a5 g5 0 (ints (List.range k))) := hid hN5
        clear hD3 hS4 hN5
        have HP := hid (play_any a3 g3 0 cap3 _ wr HD3.out)
        have HL := hid (fun W (hW : Fr0 wr W) => lineR_any a4 g4 0 cap4 (rowL l k) W (HS4.out.fr0 hW))
        rw [map_len hk] at HP
        rw [rowL_len] at HL
        have HFR := hid hr.out.fr
        rcases row_ways l k (by omega) (by omega) with ⟨hp, hrw⟩ | ⟨hp, hrw⟩
        · rw [hp] at HP
          rw [hrw] at HL
          clear hp hrw
          generalize (hplay [] 0 ((l.map nrm).take k)).1 = x1 at HP
          go_wp2_with fail
          refine HP.out.mono ?_
          rintro e w1 ⟨rfl, hf1⟩
          have HF1 := hid hf1
          clear hf1
          go_wp2_with fail
          refine (HL.out _ HF1.out).mono ?_
          rintro e w2 ⟨⟨v, rfl, hv⟩, hf2⟩
          obtain ⟨a6, g6, cap6, rfl, hn6⟩ := hv.nums (by simp; omega)
          have HF2 := hid hf2
          have HN6 : Hid (NumsIn w2 a6 g6 0 (ints (List.range k))) := hid hn6
          clear hv hf2 hn6
          have HE := hid (eqInts_any a6 g6 0 cap6 (ints (List.range k)) a5 g5 0 cap5 (ints (List.range k)) w2 HN6.out (HN5.out.fr0 (HF1.out.trans0 HF2.out)))
          rw [decide_eq_true rfl, show (ints (List.range k)).length = k by simp [ints]] at HE
          simp only [List.length_range]
          go_wp2_with fail
          refine HE.out.mono ?_
          rintro e w3 ⟨rfl, hf3⟩
          have HF3 := hid hf3
          clear hf3
          go_wp2_with fail
          refine (works28_any _).mono ?_
          rintro e w4 ⟨rfl, hf4⟩
          go_wp2
          go_ret
          exact ⟨rfl, (((HFR.out.trans0 HF1.out).trans0 HF2.out).trans0 HF3.out).trans0 hf4⟩
        · have hpb : ((hplay [] 0 ((l.map nrm).take k)).2 != 0) = true := by simp [hp]
          rw [hrw] at HL
          clear hp hrw
          generalize (hplay [] 0 ((l.map nrm).take k)).1 = x1 at HP
          generalize (hplay [] 0 ((l.map nrm).take k)).2 = x2 at HP hpb
          go_wp2_with fail
          refine HP.out.mono ?_
          rintro e w1 ⟨rfl, hf1⟩
          have HF1 := hid hf1
          clear hf1
          go_wp2_with fail
          refine (HL.out _ HF1.out).mono ?_
          rintro e w2 ⟨⟨v, rfl, hv⟩, hf2⟩
          obtain ⟨a6, g6, cap6, rfl, hn6⟩ := hv.nums (by simp)
          have HF2 := hid hf2
          clear hv hf2 hn6
          simp only [List.length_nil]
          go_wp2_with fail
          refine (works28_any _).mono ?_
          rintro e w4 ⟨rfl, hf4⟩
          go_wp2
          go_ret
          exact ⟨rfl, ((HFR.out.trans0 HF1.out).trans0 HF2.out).trans0 hf4⟩
      · clear hgo
        have hr := hid hR.out
        clear hR
        obtain ⟨a3, g3, cap3, rfl, hD3⟩ := deedsIn_own (l := (l.map nrm).take k) (by have := hr.out.own3; exact this) (fun d hd => by obtain ⟨e, he, rfl⟩ := List.mem_map.1 (List.mem_of_mem_take hd); exact nrm_wf (HD.out.wf e he)) (by rw [map_len hk]; omega)
        rw [map_len hk]
        obtain ⟨a4, g4, cap4, rfl, hS4⟩ := spansIn_own hr.out.own4 (fun d hd => by
          obtain ⟨i, hi, rfl⟩ := List.mem_map.1 hd
          have hik := List.mem_range.1 hi
          rw [rowF_get (by omega)]
          exact ⟨nrm_wf (HD.out.wf _ (List.getElem_mem _)), WalkArith.wf_i64 (n := 2 * (i : Int)) ⟨by omega, by omega⟩, WalkArith.wf_i64 (n := 2 * (i : Int) + 1) ⟨by omega, by omega⟩⟩) (by rw [rowL_len]; omega)
        rw [rowL_len]
        obtain ⟨a5, g5, cap5, rfl, hN5⟩ := IntsOwn.nums (w := w) (w' := wr) (q := List.range k) (by unfold IntsOwn; rw [List.length_range]; exact hr.out.own5) (by simp; omega)
        rw [List.length_range]
        have HD3 := hid hD3
        have HS4 := hid hS4
        have HN5 : Hid (NumsIn wr a5 g5 0 (ints (List.range k))) := hid hN5
        clear hD3 hS4 hN5
        have HP := hid (play_any a3 g3 0 cap3 _ wr HD3.out)
        have HL := hid (fun W (hW : Fr0 wr W) => lineR_any a4 g4 0 cap4 (rowL l k) W (HS4.out.fr0 hW))
        rw [map_len hk] at HP
        rw [rowL_len] at HL
        have HFR := hid hr.out.fr
        rcases row_ways l k (by omega) (by omega) with ⟨hp, hrw⟩ | ⟨hp, hrw⟩
        · rw [hp] at HP
          rw [hrw] at HL
          clear hp hrw
          generalize (hplay [] 0 ((l.map nrm).take k)).1 = x1 at HP
          go_wp2_with fail
          refine HP.out.mono ?_
          rintro e w1 ⟨rfl, hf1⟩
          have HF1 := hid hf1
          clear hf1
          go_wp2_with fail
          refine (HL.out _ HF1.out).mono ?_
          rintro e w2 ⟨⟨v, rfl, hv⟩, hf2⟩
          obtain ⟨a6, g6, cap6, rfl, hn6⟩ := hv.nums (by simp; omega)
          have HF2 := hid hf2
          have HN6 : Hid (NumsIn w2 a6 g6 0 (ints (List.range k))) := hid hn6
          clear hv hf2 hn6
          have HE := hid (eqInts_any a6 g6 0 cap6 (ints (List.range k)) a5 g5 0 cap5 (ints (List.range k)) w2 HN6.out (HN5.out.fr0 (HF1.out.trans0 HF2.out)))
          rw [decide_eq_true rfl, show (ints (List.range k)).length = k by simp [ints]] at HE
          simp only [List.length_range]
          go_wp2_with fail
          refine HE.out.mono ?_
          rintro e w3 ⟨rfl, hf3⟩
          have HF3 := hid hf3
          clear hf3
          go_wp2_with fail
          refine (works28_any _).mono ?_
          rintro e w4 ⟨rfl, hf4⟩
          go_wp2
          go_ret
          exact ⟨rfl, (((HFR.out.trans0 HF1.out).trans0 HF2.out).trans0 HF3.out).trans0 hf4⟩
        · have hpb : ((hplay [] 0 ((l.map nrm).take k)).2 != 0) = true := by simp [hp]
          rw [hrw] at HL
          clear hp hrw
          generalize (hplay [] 0 ((l.map nrm).take k)).1 = x1 at HP
          generalize (hplay [] 0 ((l.map nrm).take k)).2 = x2 at HP hpb
          go_wp2_with fail
          refine HP.out.mono ?_
          rintro e w1 ⟨rfl, hf1⟩
          have HF1 := hid hf1
          clear hf1
          go_wp2_with fail
          refine (HL.out _ HF1.out).mono ?_
          rintro e w2 ⟨⟨v, rfl, hv⟩, hf2⟩
          obtain ⟨a6, g6, cap6, rfl, hn6⟩ := hv.nums (by simp)
          have HF2 := hid hf2
          clear hv hf2 hn6
          simp only [List.length_nil]
          go_wp2_with fail
          refine (works28_any _).mono ?_
          rintro e w4 ⟨rfl, hf4⟩
          go_wp2
          go_ret
          exact ⟨rfl, ((HFR.out.trans0 HF1.out).trans0 HF2.out).trans0 hf4⟩
end Go.Proofs.Ytjaabbjobnfmmaa

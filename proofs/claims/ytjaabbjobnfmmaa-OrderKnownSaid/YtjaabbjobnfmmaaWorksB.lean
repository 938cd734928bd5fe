/-
  The law's own helper 'works' of layer 27 returns true.
-/
import Derived.Test.YtjaabbjobnfmmaaWorks
import Derived.Deep.RegionHeld3
import Derived.Deep.DeepCutAuto
namespace Go.Proofs.Ytjaabbjobnfmmaa
open Go.RowKit

theorem wfG : dG.wf := ⟨by decide, by decide, by decide, by decide⟩
theorem wfT : dT.wf := ⟨by decide, by decide, by decide, by decide⟩
theorem wfB : dB.wf := ⟨by decide, by decide, by decide, by decide⟩
theorem wfN : dN.wf := ⟨by decide, by decide, by decide, by decide⟩
theorem wf_nil' : ∀ d ∈ ([] : List Dd), d.wf := by simp
theorem wf_cons' {d : Dd} {l : List Dd} (h : d.wf) (h' : ∀ d ∈ l, d.wf) : ∀ x ∈ d :: l, x.wf := by
  intro x hx
  rcases List.mem_cons.1 hx with rfl | hx
  · exact h
  · exact h' x hx

/-- The three deeds in their boxes. -/
def Three (w wx : World) (b2 b3 b4 : Nat) : Prop := DeedAt wx b2 1 oA ∧ DeedAt wx b3 3 oA ∧ DeedAt wx b4 4 oA ∧ Fr0 w wx
theorem Three.fr {w wx wy : World} {b2 b3 b4 : Nat} (h : Three w wx b2 b3 b4) (hf : Fr0 wx wy) : Three w wy b2 b3 b4 :=
  ⟨hf.at h.1 (fun h => h), hf.at h.2.1 (fun h => h), hf.at h.2.2.1 (fun h => h), h.2.2.2.trans0 hf⟩
theorem Three.cells {w wx : World} {b2 b3 b4 : Nat} (h : Three w wx b2 b3 b4) :
    (wx.cell? ⟨b2, 0, none⟩ = some (.int .i64 1) ∧ wx.cell? ⟨b2, 1, none⟩ = some (.int .i64 1) ∧ wx.cell? ⟨b2, 2, none⟩ = some (.int .i64 2) ∧ wx.cell? ⟨b2, 3, none⟩ = some (.int .i64 3)) ∧
    (wx.cell? ⟨b3, 0, none⟩ = some (.int .i64 3) ∧ wx.cell? ⟨b3, 1, none⟩ = some (.int .i64 1) ∧ wx.cell? ⟨b3, 2, none⟩ = some (.int .i64 2) ∧ wx.cell? ⟨b3, 3, none⟩ = some (.int .i64 3)) ∧
    (wx.cell? ⟨b4, 0, none⟩ = some (.int .i64 4) ∧ wx.cell? ⟨b4, 1, none⟩ = some (.int .i64 1) ∧ wx.cell? ⟨b4, 2, none⟩ = some (.int .i64 2) ∧ wx.cell? ⟨b4, 3, none⟩ = some (.int .i64 3)) :=
  ⟨DeedAt.cells h.1, DeedAt.cells h.2.1, DeedAt.cells h.2.2.1⟩

theorem at4 (w : World) (A B C D : Obj) : ((((w.alloc A).alloc B).alloc C).alloc D).drew.heap[w.heap.size + 1]? = some B ∧ ((((w.alloc A).alloc B).alloc C).alloc D).drew.heap[w.heap.size + 1 + 1]? = some C ∧
    ((((w.alloc A).alloc B).alloc C).alloc D).drew.heap[w.heap.size + 1 + 1 + 1]? = some D := by
  refine ⟨?_, ?_, ?_⟩
  · show ((((w.alloc A).alloc B).alloc C).alloc D).heap[w.heap.size + 1]? = some B
    rw [heap_alloc_get, if_neg (by simp only [World.size_alloc]; omega), heap_alloc_get, if_neg (by simp only [World.size_alloc]; omega), heap_alloc_get, if_pos (by simp only [World.size_alloc])]
  · show ((((w.alloc A).alloc B).alloc C).alloc D).heap[w.heap.size + 1 + 1]? = some C
    rw [heap_alloc_get, if_neg (by simp only [World.size_alloc]; omega), heap_alloc_get, if_pos (by simp only [World.size_alloc])]
  · show ((((w.alloc A).alloc B).alloc C).alloc D).heap[w.heap.size + 1 + 1 + 1]? = some D
    rw [heap_alloc_get, if_pos (by simp only [World.size_alloc])]

set_option maxRecDepth 100000 in
set_option maxHeartbeats 1600000 in
theorem works_any (w : World) : Calls Try.prog 18 #[] w fun e w' => e = .returned (.bool true) ∧ Fr0 w w' := by
  go_enter Try.func18, Try.ntmps18
  go_upto_region 2 with (fail)
  go_cut [2, 3, 4] from 5 to 12 (fun t2 t3 t4 wx => ∃ b2 b3 b4 : Nat, t2 = .pointer (some ⟨b2, 0, none⟩) ∧ t3 = .pointer (some ⟨b3, 0, none⟩) ∧ t4 = .pointer (some ⟨b4, 0, none⟩) ∧ Three w wx b2 b3 b4)
  case first =>
    go_region_held3 (fun w' => w'.cell? ⟨w.heap.size, 0, none⟩ = some (.int .i64 1) ∧ w'.cell? ⟨w.heap.size, 1, none⟩ = some (.int .i64 2) ∧ w'.cell? ⟨w.heap.size, 2, none⟩ = some (.int .i64 3)) (go_keep) ((fail))
    all_goals
      go_wp2_with fail
      go_meet
      exact ⟨_, _, _, rfl, rfl, rfl, (by first | exact (at4 _ _ _ _ _).1 | exact (at4 _ _ _ _ _).2.1 | exact (at4 _ _ _ _ _).2.2), (by first | exact (at4 _ _ _ _ _).1 | exact (at4 _ _ _ _ _).2.1 | exact (at4 _ _ _ _ _).2.2), (by first | exact (at4 _ _ _ _ _).1 | exact (at4 _ _ _ _ _).2.1 | exact (at4 _ _ _ _ _).2.2), ((((((Fr.refl _ w).alloc _).alloc _).alloc _).alloc _).drew)⟩
  case rest =>
    obtain ⟨b2, b3, b4, rfl, rfl, rfl, h⟩ := hcut
    have H := hid h
    clear h
    obtain ⟨⟨c20, c21, c22, c23⟩, ⟨c30, c31, c32, c33⟩, ⟨c40, c41, c42, c43⟩⟩ := H.out.cells
    go_wp2_with fail
    clear c20 c21 c22 c23 c30 c31 c32 c33 c40 c41 c42 c43
    refine (plays_block 0 0 _ [dG, dT, dB, dN, dG] 32 _ (alloc_block _ _) (wf_cons' wfG (wf_cons' wfT (wf_cons' wfB (wf_cons' wfN (wf_cons' wfG wf_nil'))))) (by decide) (by decide) 5 rfl).mono ?_
    rintro e w1 ⟨rfl, hf1⟩
    have HT := hid (H.out.fr ((fr0_alloc _ _).trans0 hf1))
    clear H hf1
    have H := HT
    clear HT
    obtain ⟨⟨c20, c21, c22, c23⟩, ⟨c30, c31, c32, c33⟩, ⟨c40, c41, c42, c43⟩⟩ := H.out.cells
    go_wp2_with fail
    clear c20 c21 c22 c23 c30 c31 c32 c33 c40 c41 c42 c43
    refine (plays_block 1 270 _ [dG, dG] 32 _ (alloc_block _ _) (wf_cons' wfG (wf_cons' wfG wf_nil')) (by decide) (by decide) 2 rfl).mono ?_
    rintro e w1 ⟨rfl, hf1⟩
    have HT := hid (H.out.fr ((fr0_alloc _ _).trans0 hf1))
    clear H hf1
    have H := HT
    clear HT
    obtain ⟨⟨c20, c21, c22, c23⟩, ⟨c30, c31, c32, c33⟩, ⟨c40, c41, c42, c43⟩⟩ := H.out.cells
    go_wp2_with fail
    clear c20 c21 c22 c23 c30 c31 c32 c33 c40 c41 c42 c43
    refine (plays_block 0 270 _ [dT] 32 _ (alloc_block _ _) (wf_cons' wfT wf_nil') (by decide) (by decide) 1 rfl).mono ?_
    rintro e w1 ⟨rfl, hf1⟩
    have HT := hid (H.out.fr ((fr0_alloc _ _).trans0 hf1))
    clear H hf1
    have H := HT
    clear HT
    obtain ⟨⟨c20, c21, c22, c23⟩, ⟨c30, c31, c32, c33⟩, ⟨c40, c41, c42, c43⟩⟩ := H.out.cells
    go_wp2_with fail
    clear c20 c21 c22 c23 c30 c31 c32 c33 c40 c41 c42 c43
    refine (plays_block 1 270 _ [dG, dB] 32 _ (alloc_block _ _) (wf_cons' wfG (wf_cons' wfB wf_nil')) (by decide) (by decide) 2 rfl).mono ?_
    rintro e w1 ⟨rfl, hf1⟩
    have HT := hid (H.out.fr ((fr0_alloc _ _).trans0 hf1))
    clear H hf1
    have H := HT
    clear HT
    obtain ⟨⟨c20, c21, c22, c23⟩, ⟨c30, c31, c32, c33⟩, ⟨c40, c41, c42, c43⟩⟩ := H.out.cells
    go_wp2
    go_ret
    exact ⟨rfl, H.out.2.2.2⟩
end Go.Proofs.Ytjaabbjobnfmmaa

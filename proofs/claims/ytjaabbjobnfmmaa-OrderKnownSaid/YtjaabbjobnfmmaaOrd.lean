/-
  The closure that Out sorts by.
-/
import Derived.Test.YtjaabbjobnfmmaaCmp
import Derived.Test.YtjaabbjobnfmmaaGRef
import Derived.Deep.RegionHeld3
import Derived.Deep.DeepCutAuto
import Derived.Sort.Grow
namespace Go.Proofs.Ytjaabbjobnfmmaa
open Go.RowKit Go.Sort

/-- A world with draws and new blocks. -/
def Grw (w w' : World) : Prop := ∃ q os, w' = grow (w.drewN q) os
theorem Grw.refl (w : World) : Grw w w := ⟨0, #[], by simp [grow, World.drewN]⟩
theorem Grw.alloc {w w' : World} (h : Grw w w') (o : Obj) : Grw w (w'.alloc o) := by
  obtain ⟨q, os, rfl⟩ := h
  exact ⟨q, os ++ #[o], by rw [alloc_eq_grow, grow_grow]⟩
theorem Grw.drew {w w' : World} (h : Grw w w') : Grw w w'.drew := by
  obtain ⟨q, os, rfl⟩ := h
  exact ⟨q + 1, os, rfl⟩
theorem Grw.fr0 {w w' : World} (h : Grw w w') : Fr0 w w' := by
  obtain ⟨q, os, rfl⟩ := h
  refine ⟨rfl, rfl, rfl, by simp [grow], fun i hi _ => ?_⟩
  show (w.heap ++ os)[i]? = _
  rw [Array.getElem?_append_left hi]

/-- Which of two objects comes ahead. -/
def ordI (x y : Ob) : Int := or3 (cmpI x.c y.c) (cmpI x.s y.s) (cmpI x.o y.o)

theorem three_new (w : World) (a b c : Int) (t : TypeId) : ThreeAt (w.alloc (.cells #[.int .i64 a, .int .i64 b, .int .i64 c] t)) w.heap.size a b c :=
  ⟨cell_of_block (alloc_block w _) 0, cell_of_block (alloc_block w _) 1, cell_of_block (alloc_block w _) 2⟩

theorem three_drew (w : World) (a b c : Int) (t : TypeId) : ThreeAt (w.alloc (.cells #[.int .i64 a, .int .i64 b, .int .i64 c] t)).drew w.heap.size a b c :=
  ⟨(three_new w a b c t).c0, (three_new w a b c t).c1, (three_new w a b c t).c2⟩

set_option maxRecDepth 100000 in
set_option maxHeartbeats 20000000 in
theorem ord_any (x y : Ob) (w : World) : Calls Try.prog 51 #[.agg #[.int .i64 x.c, .int .i64 x.s, .int .i64 x.o], .agg #[.int .i64 y.c, .int .i64 y.s, .int .i64 y.o]] w fun e w' => e = .returned (.int .i64 (ordI x y)) ∧ Grw w w' := by
  go_enter Try.func51, Try.ntmps51
  go_upto_region 1 with (fail)
  generalize hW : ((w.alloc _).alloc _) = W
  have hfr : Grw w W := hW ▸ ((Grw.refl w).alloc _).alloc _
  have hb1 : BoxAt W w.heap.size x := by
    rw [← hW]
    exact (fr0_alloc _ _).at (alloc_block w _) (fun h => h)
  have hb2 : BoxAt W (w.heap.size + 1) y := by
    rw [← hW]
    have := alloc_block (w.alloc (.cells #[.int .i64 x.c, .int .i64 x.s, .int .i64 x.o] 30)) (.cells #[.int .i64 y.c, .int .i64 y.s, .int .i64 y.o] 30)
    simpa [BoxAt] using this
  clear hW
  obtain ⟨c0, c1, c2⟩ := hb1.cells
  obtain ⟨d0, d1, d2⟩ := hb2.cells
  have n0 := World.new_ne W _ c0
  have n1 := World.new_ne W _ d0
  have HF := hid hfr
  clear hb1 hb2 hfr
  go_region_held3 (fun w' => w'.cell? ⟨w.heap.size, 0, none⟩ = some (.int .i64 x.c) ∧ w'.cell? ⟨w.heap.size, 1, none⟩ = some (.int .i64 x.s) ∧ w'.cell? ⟨w.heap.size, 2, none⟩ = some (.int .i64 x.o) ∧ w'.cell? ⟨w.heap.size + 1, 0, none⟩ = some (.int .i64 y.c) ∧ w'.cell? ⟨w.heap.size + 1, 1, none⟩ = some (.int .i64 y.s) ∧ w'.cell? ⟨w.heap.size + 1, 2, none⟩ = some (.int .i64 y.o)) (go_keep) ((first | (go_at_call 53; refine (compareI_any _ _ _).mono ?_; rintro e w' ⟨rfl, rfl⟩) | (go_at_call 52; refine (or_any _ _ _ _ _ (three_drew _ _ _ _ _)).mono ?_; rintro e w' ⟨rfl, rfl⟩)))
  all_goals
    go_wp2_with fail
    go_ret
    exact ⟨by rfl, (HF.out.alloc _).drew⟩
end Go.Proofs.Ytjaabbjobnfmmaa

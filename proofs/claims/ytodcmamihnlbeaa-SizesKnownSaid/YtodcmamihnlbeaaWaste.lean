/-
  Spec and Waste, of the program and of the document.
-/
import Derived.Test.YtodcmamihnlbeaaSpec
namespace Go.Proofs.Ytodcmamihnlbeaa
open Go.RowKit

/-- What Spec gives. -/
def specV (c : Int) : Value := .tuple #[.agg #[.int .i64 (szV c), .int .i64 (alV c), .int .i64 (flV c)], .int .i64 (szE c)]

theorem err_c {c : Int} (h : c < 0 ∨ 10 ≤ c) : szV c = 0 ∧ szE c = 9 ∧ alV c = 0 ∧ flV c = 0 := by
  have hv : szV c = 0 := by unfold szV; repeat (first | rw [if_neg (by omega)] | rfl)
  have he : szE c = 9 := by
    unfold szE
    rcases h with h | h
    · rw [if_pos h]
    · rw [if_neg (by omega), if_pos h]
  exact ⟨hv, he, by simp [alV, he], by simp [flV, he]⟩

/-- What stands of a block that a call has left alone. -/
theorem own_cells {w w1 : World} (hf : Fr0 (w.alloc (.cells #[.int .i64 0, .int .i64 0, .int .i64 0] 26)) w1) :
    Fr0 w w1 ∧ w.heap.size < w1.heap.size ∧ w1.cell? ⟨w.heap.size, 0, none⟩ = some (.int .i64 0) ∧ w1.cell? ⟨w.heap.size, 1, none⟩ = some (.int .i64 0) ∧ w1.cell? ⟨w.heap.size, 2, none⟩ = some (.int .i64 0) ∧
    w1.frozen? ⟨w.heap.size, 0, none⟩ = false ∧ w1.frozen? ⟨w.heap.size, 1, none⟩ = false ∧ w1.frozen? ⟨w.heap.size, 2, none⟩ = false ∧
    Hid (w1.heap[w.heap.size]? = some (.cells #[.int .i64 0, .int .i64 0, .int .i64 0] 26)) := by
  have hb := hf.at (alloc_block _ _) id
  exact ⟨(fr0_alloc _ _).trans0 hf, lt_of_block hb, cell_of_block hb 0, cell_of_block hb 1, cell_of_block hb 2, free_of_block hb 0, free_of_block hb 1, free_of_block hb 2, hid hb⟩

/-- The same block, all three cells set. -/
theorem set_cells {w1 : World} {b : Nat} (h : Hid (w1.heap[b]? = some (.cells #[.int .i64 0, .int .i64 0, .int .i64 0] 26))) (x y z : Value) :
    (((w1.setCell ⟨b, 0, none⟩ x).setCell ⟨b, 1, none⟩ y).setCell ⟨b, 2, none⟩ z).heap[b]? = some (.cells #[x, y, z] 26) := by
  have h1 := setCell_block (setCell_block (setCell_block h.out 0 x) 1 y) 2 z
  simpa using h1

theorem fr0_set {w w1 : World} (h : Fr0 w w1) (x y z : Value) : Fr0 w (((w1.setCell ⟨w.heap.size, 0, none⟩ x).setCell ⟨w.heap.size, 1, none⟩ y).setCell ⟨w.heap.size, 2, none⟩ z) :=
  ((h.setCell (fun h => absurd h (Nat.lt_irrefl _)) _).setCell (fun h => absurd h (Nat.lt_irrefl _)) _).setCell (fun h => absurd h (Nat.lt_irrefl _)) _

theorem alloc_at {w : World} {i : Nat} {o : Obj} (h : w.heap[i]? = some o) (k : Obj) : (w.alloc k).heap[i]? = some o := (fr0_alloc w k).at h id

set_option maxHeartbeats 4000000 in
theorem spec_err (c : Int) (h : c < 0 ∨ 10 ≤ c) (w : World) : Calls Try.prog 11 #[.int .i64 c] w fun e w' => e = .returned (specV c) ∧ Fr0 w w' := by
  obtain ⟨q1, q2, q3, q4⟩ := err_c h
  have S : ∀ w, Calls Try.prog 9 #[.int .i64 c] w fun e w' => e = .returned (.tuple #[.int .i64 0, .int .i64 9]) ∧ Fr0 w w' := by
    have := size_any c
    rw [q1, q2] at this
    exact this
  unfold specV
  rw [q1, q2, q3, q4]
  clear q1 q2 q3 q4 h
  go_enter Try.func11, Try.ntmps11
  go_wp2_with (go_at_call 9; refine (S _).mono ?_; rintro e w1 ⟨rfl, hf⟩; obtain ⟨hf0, hlt, c0, c1, c2, f0, f1, f2, hb⟩ := own_cells hf; clear hf)
  have hd := set_cells hb (.int .i64 0) (.int .i64 0) (.int .i64 0)
  have e0 := cell_of_block hd 0
  have e1 := cell_of_block hd 1
  have e2 := cell_of_block hd 2
  refine bodyPost_ret (v := .tuple #[.agg #[.int .i64 0, .int .i64 0, .int .i64 0], .int .i64 9]) ?_ rfl ⟨rfl, fr0_set hf0 _ _ _⟩
  simp [results, Try.results11, go_sem, e0, e1, e2]

set_option maxHeartbeats 4000000 in
theorem refSpec_err (c : Int) (h : c < 0 ∨ 10 ≤ c) (w : World) : Calls Try.prog 12 #[.int .i64 c] w fun e w' => e = .returned (specV c) ∧ Fr0 w w' := by
  obtain ⟨q1, q2, q3, q4⟩ := err_c h
  have S : ∀ w, Calls Try.prog 10 #[.int .i64 c] w fun e w' => e = .returned (.tuple #[.int .i64 0, .int .i64 9]) ∧ Fr0 w w' := by
    have := refSize_any c
    rw [q1, q2] at this
    exact this
  unfold specV
  rw [q1, q2, q3, q4]
  clear q1 q2 q3 q4 h
  go_enter Try.func12, Try.ntmps12
  go_wp2_with (go_at_call 10; refine (S _).mono ?_; rintro e w1 ⟨rfl, hf⟩; obtain ⟨hf0, hlt, c0, c1, c2, f0, f1, f2, hb⟩ := own_cells hf; clear hf)
  have hd := set_cells hb (.int .i64 0) (.int .i64 0) (.int .i64 0)
  have e0 := cell_of_block hd 0
  have e1 := cell_of_block hd 1
  have e2 := cell_of_block hd 2
  refine bodyPost_ret (v := .tuple #[.agg #[.int .i64 0, .int .i64 0, .int .i64 0], .int .i64 9]) ?_ rfl ⟨rfl, fr0_set hf0 _ _ _⟩
  simp [results, Try.results12, go_sem, e0, e1, e2]

set_option maxHeartbeats 4000000 in
theorem spec_0 (w : World) : Calls Try.prog 11 #[.int .i64 0] w fun e w' => e = .returned (.tuple #[.agg #[.int .i64 8, .int .i64 8, .int .i64 4], .int .i64 0]) ∧ Fr0 w w' := by
  have S : ∀ w, Calls Try.prog 9 #[.int .i64 0] w fun e w' => e = .returned (.tuple #[.int .i64 8, .int .i64 0]) ∧ Fr0 w w' := size_any 0
  go_enter Try.func11, Try.ntmps11
  go_wp2_with (go_at_call 9; refine (S _).mono ?_; rintro e w1 ⟨rfl, hf⟩; obtain ⟨hf0, hlt, c0, c1, c2, f0, f1, f2, hb⟩ := own_cells hf; clear hf)
  have hd := alloc_at (set_cells hb (.int .i64 8) (.int .i64 8) (.int .i64 4)) (.cells #[.int .i64 8, .int .i64 8, .int .i64 4] 26)
  have e0 := cell_of_block hd 0
  have e1 := cell_of_block hd 1
  have e2 := cell_of_block hd 2
  refine bodyPost_ret (v := .tuple #[.agg #[.int .i64 8, .int .i64 8, .int .i64 4], .int .i64 0]) ?_ rfl ⟨rfl, (fr0_set hf0 _ _ _).alloc _⟩
  simp [results, Try.results11, go_sem, e0, e1, e2]

set_option maxHeartbeats 4000000 in
theorem refSpec_0 (w : World) : Calls Try.prog 12 #[.int .i64 0] w fun e w' => e = .returned (.tuple #[.agg #[.int .i64 8, .int .i64 8, .int .i64 4], .int .i64 0]) ∧ Fr0 w w' := by
  have S : ∀ w, Calls Try.prog 10 #[.int .i64 0] w fun e w' => e = .returned (.tuple #[.int .i64 8, .int .i64 0]) ∧ Fr0 w w' := refSize_any 0
  go_enter Try.func12, Try.ntmps12
  go_wp2_with (go_at_call 10; refine (S _).mono ?_; rintro e w1 ⟨rfl, hf⟩; obtain ⟨hf0, hlt, c0, c1, c2, f0, f1, f2, hb⟩ := own_cells hf; clear hf)
  have hd := set_cells hb (.int .i64 8) (.int .i64 8) (.int .i64 4)
  have e0 := cell_of_block hd 0
  have e1 := cell_of_block hd 1
  have e2 := cell_of_block hd 2
  refine bodyPost_ret (v := .tuple #[.agg #[.int .i64 8, .int .i64 8, .int .i64 4], .int .i64 0]) ?_ rfl ⟨rfl, fr0_set hf0 _ _ _⟩
  simp [results, Try.results12, go_sem, e0, e1, e2]

set_option maxHeartbeats 4000000 in
theorem spec_1 (w : World) : Calls Try.prog 11 #[.int .i64 1] w fun e w' => e = .returned (.tuple #[.agg #[.int .i64 16, .int .i64 16, .int .i64 4], .int .i64 0]) ∧ Fr0 w w' := by
  have S : ∀ w, Calls Try.prog 9 #[.int .i64 1] w fun e w' => e = .returned (.tuple #[.int .i64 16, .int .i64 0]) ∧ Fr0 w w' := size_any 1
  go_enter Try.func11, Try.ntmps11
  go_wp2_with (go_at_call 9; refine (S _).mono ?_; rintro e w1 ⟨rfl, hf⟩; obtain ⟨hf0, hlt, c0, c1, c2, f0, f1, f2, hb⟩ := own_cells hf; clear hf)
  have hd := alloc_at (set_cells hb (.int .i64 16) (.int .i64 16) (.int .i64 4)) (.cells #[.int .i64 16, .int .i64 16, .int .i64 4] 26)
  have e0 := cell_of_block hd 0
  have e1 := cell_of_block hd 1
  have e2 := cell_of_block hd 2
  refine bodyPost_ret (v := .tuple #[.agg #[.int .i64 16, .int .i64 16, .int .i64 4], .int .i64 0]) ?_ rfl ⟨rfl, (fr0_set hf0 _ _ _).alloc _⟩
  simp [results, Try.results11, go_sem, e0, e1, e2]

set_option maxHeartbeats 4000000 in
theorem refSpec_1 (w : World) : Calls Try.prog 12 #[.int .i64 1] w fun e w' => e = .returned (.tuple #[.agg #[.int .i64 16, .int .i64 16, .int .i64 4], .int .i64 0]) ∧ Fr0 w w' := by
  have S : ∀ w, Calls Try.prog 10 #[.int .i64 1] w fun e w' => e = .returned (.tuple #[.int .i64 16, .int .i64 0]) ∧ Fr0 w w' := refSize_any 1
  go_enter Try.func12, Try.ntmps12
  go_wp2_with (go_at_call 10; refine (S _).mono ?_; rintro e w1 ⟨rfl, hf⟩; obtain ⟨hf0, hlt, c0, c1, c2, f0, f1, f2, hb⟩ := own_cells hf; clear hf)
  have hd := set_cells hb (.int .i64 16) (.int .i64 16) (.int .i64 4)
  have e0 := cell_of_block hd 0
  have e1 := cell_of_block hd 1
  have e2 := cell_of_block hd 2
  refine bodyPost_ret (v := .tuple #[.agg #[.int .i64 16, .int .i64 16, .int .i64 4], .int .i64 0]) ?_ rfl ⟨rfl, fr0_set hf0 _ _ _⟩
  simp [results, Try.results12, go_sem, e0, e1, e2]

set_option maxHeartbeats 4000000 in
theorem spec_2 (w : World) : Calls Try.prog 11 #[.int .i64 2] w fun e w' => e = .returned (.tuple #[.agg #[.int .i64 32, .int .i64 16, .int .i64 4], .int .i64 0]) ∧ Fr0 w w' := by
  have S : ∀ w, Calls Try.prog 9 #[.int .i64 2] w fun e w' => e = .returned (.tuple #[.int .i64 32, .int .i64 0]) ∧ Fr0 w w' := size_any 2
  go_enter Try.func11, Try.ntmps11
  go_wp2_with (go_at_call 9; refine (S _).mono ?_; rintro e w1 ⟨rfl, hf⟩; obtain ⟨hf0, hlt, c0, c1, c2, f0, f1, f2, hb⟩ := own_cells hf; clear hf)
  have hd := alloc_at (set_cells hb (.int .i64 32) (.int .i64 16) (.int .i64 4)) (.cells #[.int .i64 32, .int .i64 16, .int .i64 4] 26)
  have e0 := cell_of_block hd 0
  have e1 := cell_of_block hd 1
  have e2 := cell_of_block hd 2
  refine bodyPost_ret (v := .tuple #[.agg #[.int .i64 32, .int .i64 16, .int .i64 4], .int .i64 0]) ?_ rfl ⟨rfl, (fr0_set hf0 _ _ _).alloc _⟩
  simp [results, Try.results11, go_sem, e0, e1, e2]

set_option maxHeartbeats 4000000 in
theorem refSpec_2 (w : World) : Calls Try.prog 12 #[.int .i64 2] w fun e w' => e = .returned (.tuple #[.agg #[.int .i64 32, .int .i64 16, .int .i64 4], .int .i64 0]) ∧ Fr0 w w' := by
  have S : ∀ w, Calls Try.prog 10 #[.int .i64 2] w fun e w' => e = .returned (.tuple #[.int .i64 32, .int .i64 0]) ∧ Fr0 w w' := refSize_any 2
  go_enter Try.func12, Try.ntmps12
  go_wp2_with (go_at_call 10; refine (S _).mono ?_; rintro e w1 ⟨rfl, hf⟩; obtain ⟨hf0, hlt, c0, c1, c2, f0, f1, f2, hb⟩ := own_cells hf; clear hf)
  have hd := set_cells hb (.int .i64 32) (.int .i64 16) (.int .i64 4)
  have e0 := cell_of_block hd 0
  have e1 := cell_of_block hd 1
  have e2 := cell_of_block hd 2
  refine bodyPost_ret (v := .tuple #[.agg #[.int .i64 32, .int .i64 16, .int .i64 4], .int .i64 0]) ?_ rfl ⟨rfl, fr0_set hf0 _ _ _⟩
  simp [results, Try.results12, go_sem, e0, e1, e2]

set_option maxHeartbeats 4000000 in
theorem spec_3 (w : World) : Calls Try.prog 11 #[.int .i64 3] w fun e w' => e = .returned (.tuple #[.agg #[.int .i64 48, .int .i64 16, .int .i64 4], .int .i64 0]) ∧ Fr0 w w' := by
  have S : ∀ w, Calls Try.prog 9 #[.int .i64 3] w fun e w' => e = .returned (.tuple #[.int .i64 48, .int .i64 0]) ∧ Fr0 w w' := size_any 3
  go_enter Try.func11, Try.ntmps11
  go_wp2_with (go_at_call 9; refine (S _).mono ?_; rintro e w1 ⟨rfl, hf⟩; obtain ⟨hf0, hlt, c0, c1, c2, f0, f1, f2, hb⟩ := own_cells hf; clear hf)
  have hd := alloc_at (set_cells hb (.int .i64 48) (.int .i64 16) (.int .i64 4)) (.cells #[.int .i64 48, .int .i64 16, .int .i64 4] 26)
  have e0 := cell_of_block hd 0
  have e1 := cell_of_block hd 1
  have e2 := cell_of_block hd 2
  refine bodyPost_ret (v := .tuple #[.agg #[.int .i64 48, .int .i64 16, .int .i64 4], .int .i64 0]) ?_ rfl ⟨rfl, (fr0_set hf0 _ _ _).alloc _⟩
  simp [results, Try.results11, go_sem, e0, e1, e2]

set_option maxHeartbeats 4000000 in
theorem refSpec_3 (w : World) : Calls Try.prog 12 #[.int .i64 3] w fun e w' => e = .returned (.tuple #[.agg #[.int .i64 48, .int .i64 16, .int .i64 4], .int .i64 0]) ∧ Fr0 w w' := by
  have S : ∀ w, Calls Try.prog 10 #[.int .i64 3] w fun e w' => e = .returned (.tuple #[.int .i64 48, .int .i64 0]) ∧ Fr0 w w' := refSize_any 3
  go_enter Try.func12, Try.ntmps12
  go_wp2_with (go_at_call 10; refine (S _).mono ?_; rintro e w1 ⟨rfl, hf⟩; obtain ⟨hf0, hlt, c0, c1, c2, f0, f1, f2, hb⟩ := own_cells hf; clear hf)
  have hd := set_cells hb (.int .i64 48) (.int .i64 16) (.int .i64 4)
  have e0 := cell_of_block hd 0
  have e1 := cell_of_block hd 1
  have e2 := cell_of_block hd 2
  refine bodyPost_ret (v := .tuple #[.agg #[.int .i64 48, .int .i64 16, .int .i64 4], .int .i64 0]) ?_ rfl ⟨rfl, fr0_set hf0 _ _ _⟩
  simp [results, Try.results12, go_sem, e0, e1, e2]

set_option maxHeartbeats 4000000 in
theorem spec_4 (w : World) : Calls Try.prog 11 #[.int .i64 4] w fun e w' => e = .returned (.tuple #[.agg #[.int .i64 64, .int .i64 16, .int .i64 4], .int .i64 0]) ∧ Fr0 w w' := by
  have S : ∀ w, Calls Try.prog 9 #[.int .i64 4] w fun e w' => e = .returned (.tuple #[.int .i64 64, .int .i64 0]) ∧ Fr0 w w' := size_any 4
  go_enter Try.func11, Try.ntmps11
  go_wp2_with (go_at_call 9; refine (S _).mono ?_; rintro e w1 ⟨rfl, hf⟩; obtain ⟨hf0, hlt, c0, c1, c2, f0, f1, f2, hb⟩ := own_cells hf; clear hf)
  have hd := alloc_at (set_cells hb (.int .i64 64) (.int .i64 16) (.int .i64 4)) (.cells #[.int .i64 64, .int .i64 16, .int .i64 4] 26)
  have e0 := cell_of_block hd 0
  have e1 := cell_of_block hd 1
  have e2 := cell_of_block hd 2
  refine bodyPost_ret (v := .tuple #[.agg #[.int .i64 64, .int .i64 16, .int .i64 4], .int .i64 0]) ?_ rfl ⟨rfl, (fr0_set hf0 _ _ _).alloc _⟩
  simp [results, Try.results11, go_sem, e0, e1, e2]

set_option maxHeartbeats 4000000 in
theorem refSpec_4 (w : World) : Calls Try.prog 12 #[.int .i64 4] w fun e w' => e = .returned (.tuple #[.agg #[.int .i64 64, .int .i64 16, .int .i64 4], .int .i64 0]) ∧ Fr0 w w' := by
  have S : ∀ w, Calls Try.prog 10 #[.int .i64 4] w fun e w' => e = .returned (.tuple #[.int .i64 64, .int .i64 0]) ∧ Fr0 w w' := refSize_any 4
  go_enter Try.func12, Try.ntmps12
  go_wp2_with (go_at_call 10; refine (S _).mono ?_; rintro e w1 ⟨rfl, hf⟩; obtain ⟨hf0, hlt, c0, c1, c2, f0, f1, f2, hb⟩ := own_cells hf; clear hf)
  have hd := set_cells hb (.int .i64 64) (.int .i64 16) (.int .i64 4)
  have e0 := cell_of_block hd 0
  have e1 := cell_of_block hd 1
  have e2 := cell_of_block hd 2
  refine bodyPost_ret (v := .tuple #[.agg #[.int .i64 64, .int .i64 16, .int .i64 4], .int .i64 0]) ?_ rfl ⟨rfl, fr0_set hf0 _ _ _⟩
  simp [results, Try.results12, go_sem, e0, e1, e2]

set_option maxHeartbeats 4000000 in
theorem spec_5 (w : World) : Calls Try.prog 11 #[.int .i64 5] w fun e w' => e = .returned (.tuple #[.agg #[.int .i64 96, .int .i64 16, .int .i64 4], .int .i64 0]) ∧ Fr0 w w' := by
  have S : ∀ w, Calls Try.prog 9 #[.int .i64 5] w fun e w' => e = .returned (.tuple #[.int .i64 96, .int .i64 0]) ∧ Fr0 w w' := size_any 5
  go_enter Try.func11, Try.ntmps11
  go_wp2_with (go_at_call 9; refine (S _).mono ?_; rintro e w1 ⟨rfl, hf⟩; obtain ⟨hf0, hlt, c0, c1, c2, f0, f1, f2, hb⟩ := own_cells hf; clear hf)
  have hd := alloc_at (set_cells hb (.int .i64 96) (.int .i64 16) (.int .i64 4)) (.cells #[.int .i64 96, .int .i64 16, .int .i64 4] 26)
  have e0 := cell_of_block hd 0
  have e1 := cell_of_block hd 1
  have e2 := cell_of_block hd 2
  refine bodyPost_ret (v := .tuple #[.agg #[.int .i64 96, .int .i64 16, .int .i64 4], .int .i64 0]) ?_ rfl ⟨rfl, (fr0_set hf0 _ _ _).alloc _⟩
  simp [results, Try.results11, go_sem, e0, e1, e2]

set_option maxHeartbeats 4000000 in
theorem refSpec_5 (w : World) : Calls Try.prog 12 #[.int .i64 5] w fun e w' => e = .returned (.tuple #[.agg #[.int .i64 96, .int .i64 16, .int .i64 4], .int .i64 0]) ∧ Fr0 w w' := by
  have S : ∀ w, Calls Try.prog 10 #[.int .i64 5] w fun e w' => e = .returned (.tuple #[.int .i64 96, .int .i64 0]) ∧ Fr0 w w' := refSize_any 5
  go_enter Try.func12, Try.ntmps12
  go_wp2_with (go_at_call 10; refine (S _).mono ?_; rintro e w1 ⟨rfl, hf⟩; obtain ⟨hf0, hlt, c0, c1, c2, f0, f1, f2, hb⟩ := own_cells hf; clear hf)
  have hd := set_cells hb (.int .i64 96) (.int .i64 16) (.int .i64 4)
  have e0 := cell_of_block hd 0
  have e1 := cell_of_block hd 1
  have e2 := cell_of_block hd 2
  refine bodyPost_ret (v := .tuple #[.agg #[.int .i64 96, .int .i64 16, .int .i64 4], .int .i64 0]) ?_ rfl ⟨rfl, fr0_set hf0 _ _ _⟩
  simp [results, Try.results12, go_sem, e0, e1, e2]

set_option maxHeartbeats 4000000 in
theorem spec_6 (w : World) : Calls Try.prog 11 #[.int .i64 6] w fun e w' => e = .returned (.tuple #[.agg #[.int .i64 128, .int .i64 16, .int .i64 4], .int .i64 0]) ∧ Fr0 w w' := by
  have S : ∀ w, Calls Try.prog 9 #[.int .i64 6] w fun e w' => e = .returned (.tuple #[.int .i64 128, .int .i64 0]) ∧ Fr0 w w' := size_any 6
  go_enter Try.func11, Try.ntmps11
  go_wp2_with (go_at_call 9; refine (S _).mono ?_; rintro e w1 ⟨rfl, hf⟩; obtain ⟨hf0, hlt, c0, c1, c2, f0, f1, f2, hb⟩ := own_cells hf; clear hf)
  have hd := alloc_at (set_cells hb (.int .i64 128) (.int .i64 16) (.int .i64 4)) (.cells #[.int .i64 128, .int .i64 16, .int .i64 4] 26)
  have e0 := cell_of_block hd 0
  have e1 := cell_of_block hd 1
  have e2 := cell_of_block hd 2
  refine bodyPost_ret (v := .tuple #[.agg #[.int .i64 128, .int .i64 16, .int .i64 4], .int .i64 0]) ?_ rfl ⟨rfl, (fr0_set hf0 _ _ _).alloc _⟩
  simp [results, Try.results11, go_sem, e0, e1, e2]

set_option maxHeartbeats 4000000 in
theorem refSpec_6 (w : World) : Calls Try.prog 12 #[.int .i64 6] w fun e w' => e = .returned (.tuple #[.agg #[.int .i64 128, .int .i64 16, .int .i64 4], .int .i64 0]) ∧ Fr0 w w' := by
  have S : ∀ w, Calls Try.prog 10 #[.int .i64 6] w fun e w' => e = .returned (.tuple #[.int .i64 128, .int .i64 0]) ∧ Fr0 w w' := refSize_any 6
  go_enter Try.func12, Try.ntmps12
  go_wp2_with (go_at_call 10; refine (S _).mono ?_; rintro e w1 ⟨rfl, hf⟩; obtain ⟨hf0, hlt, c0, c1, c2, f0, f1, f2, hb⟩ := own_cells hf; clear hf)
  have hd := set_cells hb (.int .i64 128) (.int .i64 16) (.int .i64 4)
  have e0 := cell_of_block hd 0
  have e1 := cell_of_block hd 1
  have e2 := cell_of_block hd 2
  refine bodyPost_ret (v := .tuple #[.agg #[.int .i64 128, .int .i64 16, .int .i64 4], .int .i64 0]) ?_ rfl ⟨rfl, fr0_set hf0 _ _ _⟩
  simp [results, Try.results12, go_sem, e0, e1, e2]

set_option maxHeartbeats 4000000 in
theorem spec_7 (w : World) : Calls Try.prog 11 #[.int .i64 7] w fun e w' => e = .returned (.tuple #[.agg #[.int .i64 192, .int .i64 16, .int .i64 4], .int .i64 0]) ∧ Fr0 w w' := by
  have S : ∀ w, Calls Try.prog 9 #[.int .i64 7] w fun e w' => e = .returned (.tuple #[.int .i64 192, .int .i64 0]) ∧ Fr0 w w' := size_any 7
  go_enter Try.func11, Try.ntmps11
  go_wp2_with (go_at_call 9; refine (S _).mono ?_; rintro e w1 ⟨rfl, hf⟩; obtain ⟨hf0, hlt, c0, c1, c2, f0, f1, f2, hb⟩ := own_cells hf; clear hf)
  have hd := alloc_at (set_cells hb (.int .i64 192) (.int .i64 16) (.int .i64 4)) (.cells #[.int .i64 192, .int .i64 16, .int .i64 4] 26)
  have e0 := cell_of_block hd 0
  have e1 := cell_of_block hd 1
  have e2 := cell_of_block hd 2
  refine bodyPost_ret (v := .tuple #[.agg #[.int .i64 192, .int .i64 16, .int .i64 4], .int .i64 0]) ?_ rfl ⟨rfl, (fr0_set hf0 _ _ _).alloc _⟩
  simp [results, Try.results11, go_sem, e0, e1, e2]

set_option maxHeartbeats 4000000 in
theorem refSpec_7 (w : World) : Calls Try.prog 12 #[.int .i64 7] w fun e w' => e = .returned (.tuple #[.agg #[.int .i64 192, .int .i64 16, .int .i64 4], .int .i64 0]) ∧ Fr0 w w' := by
  have S : ∀ w, Calls Try.prog 10 #[.int .i64 7] w fun e w' => e = .returned (.tuple #[.int .i64 192, .int .i64 0]) ∧ Fr0 w w' := refSize_any 7
  go_enter Try.func12, Try.ntmps12
  go_wp2_with (go_at_call 10; refine (S _).mono ?_; rintro e w1 ⟨rfl, hf⟩; obtain ⟨hf0, hlt, c0, c1, c2, f0, f1, f2, hb⟩ := own_cells hf; clear hf)
  have hd := set_cells hb (.int .i64 192) (.int .i64 16) (.int .i64 4)
  have e0 := cell_of_block hd 0
  have e1 := cell_of_block hd 1
  have e2 := cell_of_block hd 2
  refine bodyPost_ret (v := .tuple #[.agg #[.int .i64 192, .int .i64 16, .int .i64 4], .int .i64 0]) ?_ rfl ⟨rfl, fr0_set hf0 _ _ _⟩
  simp [results, Try.results12, go_sem, e0, e1, e2]

set_option maxHeartbeats 4000000 in
theorem spec_8 (w : World) : Calls Try.prog 11 #[.int .i64 8] w fun e w' => e = .returned (.tuple #[.agg #[.int .i64 256, .int .i64 16, .int .i64 4], .int .i64 0]) ∧ Fr0 w w' := by
  have S : ∀ w, Calls Try.prog 9 #[.int .i64 8] w fun e w' => e = .returned (.tuple #[.int .i64 256, .int .i64 0]) ∧ Fr0 w w' := size_any 8
  go_enter Try.func11, Try.ntmps11
  go_wp2_with (go_at_call 9; refine (S _).mono ?_; rintro e w1 ⟨rfl, hf⟩; obtain ⟨hf0, hlt, c0, c1, c2, f0, f1, f2, hb⟩ := own_cells hf; clear hf)
  have hd := alloc_at (set_cells hb (.int .i64 256) (.int .i64 16) (.int .i64 4)) (.cells #[.int .i64 256, .int .i64 16, .int .i64 4] 26)
  have e0 := cell_of_block hd 0
  have e1 := cell_of_block hd 1
  have e2 := cell_of_block hd 2
  refine bodyPost_ret (v := .tuple #[.agg #[.int .i64 256, .int .i64 16, .int .i64 4], .int .i64 0]) ?_ rfl ⟨rfl, (fr0_set hf0 _ _ _).alloc _⟩
  simp [results, Try.results11, go_sem, e0, e1, e2]

set_option maxHeartbeats 4000000 in
theorem refSpec_8 (w : World) : Calls Try.prog 12 #[.int .i64 8] w fun e w' => e = .returned (.tuple #[.agg #[.int .i64 256, .int .i64 16, .int .i64 4], .int .i64 0]) ∧ Fr0 w w' := by
  have S : ∀ w, Calls Try.prog 10 #[.int .i64 8] w fun e w' => e = .returned (.tuple #[.int .i64 256, .int .i64 0]) ∧ Fr0 w w' := refSize_any 8
  go_enter Try.func12, Try.ntmps12
  go_wp2_with (go_at_call 10; refine (S _).mono ?_; rintro e w1 ⟨rfl, hf⟩; obtain ⟨hf0, hlt, c0, c1, c2, f0, f1, f2, hb⟩ := own_cells hf; clear hf)
  have hd := set_cells hb (.int .i64 256) (.int .i64 16) (.int .i64 4)
  have e0 := cell_of_block hd 0
  have e1 := cell_of_block hd 1
  have e2 := cell_of_block hd 2
  refine bodyPost_ret (v := .tuple #[.agg #[.int .i64 256, .int .i64 16, .int .i64 4], .int .i64 0]) ?_ rfl ⟨rfl, fr0_set hf0 _ _ _⟩
  simp [results, Try.results12, go_sem, e0, e1, e2]

set_option maxHeartbeats 4000000 in
theorem spec_9 (w : World) : Calls Try.prog 11 #[.int .i64 9] w fun e w' => e = .returned (.tuple #[.agg #[.int .i64 512, .int .i64 16, .int .i64 4], .int .i64 0]) ∧ Fr0 w w' := by
  have S : ∀ w, Calls Try.prog 9 #[.int .i64 9] w fun e w' => e = .returned (.tuple #[.int .i64 512, .int .i64 0]) ∧ Fr0 w w' := size_any 9
  go_enter Try.func11, Try.ntmps11
  go_wp2_with (go_at_call 9; refine (S _).mono ?_; rintro e w1 ⟨rfl, hf⟩; obtain ⟨hf0, hlt, c0, c1, c2, f0, f1, f2, hb⟩ := own_cells hf; clear hf)
  have hd := alloc_at (set_cells hb (.int .i64 512) (.int .i64 16) (.int .i64 4)) (.cells #[.int .i64 512, .int .i64 16, .int .i64 4] 26)
  have e0 := cell_of_block hd 0
  have e1 := cell_of_block hd 1
  have e2 := cell_of_block hd 2
  refine bodyPost_ret (v := .tuple #[.agg #[.int .i64 512, .int .i64 16, .int .i64 4], .int .i64 0]) ?_ rfl ⟨rfl, (fr0_set hf0 _ _ _).alloc _⟩
  simp [results, Try.results11, go_sem, e0, e1, e2]

set_option maxHeartbeats 4000000 in
theorem refSpec_9 (w : World) : Calls Try.prog 12 #[.int .i64 9] w fun e w' => e = .returned (.tuple #[.agg #[.int .i64 512, .int .i64 16, .int .i64 4], .int .i64 0]) ∧ Fr0 w w' := by
  have S : ∀ w, Calls Try.prog 10 #[.int .i64 9] w fun e w' => e = .returned (.tuple #[.int .i64 512, .int .i64 0]) ∧ Fr0 w w' := refSize_any 9
  go_enter Try.func12, Try.ntmps12
  go_wp2_with (go_at_call 10; refine (S _).mono ?_; rintro e w1 ⟨rfl, hf⟩; obtain ⟨hf0, hlt, c0, c1, c2, f0, f1, f2, hb⟩ := own_cells hf; clear hf)
  have hd := set_cells hb (.int .i64 512) (.int .i64 16) (.int .i64 4)
  have e0 := cell_of_block hd 0
  have e1 := cell_of_block hd 1
  have e2 := cell_of_block hd 2
  refine bodyPost_ret (v := .tuple #[.agg #[.int .i64 512, .int .i64 16, .int .i64 4], .int .i64 0]) ?_ rfl ⟨rfl, fr0_set hf0 _ _ _⟩
  simp [results, Try.results12, go_sem, e0, e1, e2]

theorem spec_any (c : Int) (w : World) : Calls Try.prog 11 #[.int .i64 c] w fun e w' => e = .returned (specV c) ∧ Fr0 w w' := by
  by_cases h1 : c < 0
  · exact spec_err c (Or.inl h1) w
  · by_cases h2 : 10 ≤ c
    · exact spec_err c (Or.inr h2) w
    · rcases in_ten h1 h2 with rfl | rfl | rfl | rfl | rfl | rfl | rfl | rfl | rfl | rfl
      · exact spec_0 w
      · exact spec_1 w
      · exact spec_2 w
      · exact spec_3 w
      · exact spec_4 w
      · exact spec_5 w
      · exact spec_6 w
      · exact spec_7 w
      · exact spec_8 w
      · exact spec_9 w

theorem refSpec_any (c : Int) (w : World) : Calls Try.prog 12 #[.int .i64 c] w fun e w' => e = .returned (specV c) ∧ Fr0 w w' := by
  by_cases h1 : c < 0
  · exact refSpec_err c (Or.inl h1) w
  · by_cases h2 : 10 ≤ c
    · exact refSpec_err c (Or.inr h2) w
    · rcases in_ten h1 h2 with rfl | rfl | rfl | rfl | rfl | rfl | rfl | rfl | rfl | rfl
      · exact refSpec_0 w
      · exact refSpec_1 w
      · exact refSpec_2 w
      · exact refSpec_3 w
      · exact refSpec_4 w
      · exact refSpec_5 w
      · exact refSpec_6 w
      · exact refSpec_7 w
      · exact refSpec_8 w
      · exact refSpec_9 w

end Go.Proofs.Ytodcmamihnlbeaa

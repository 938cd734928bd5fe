/-
  The walks of SizesSpecs and SizesKnown.
-/
import Derived.Test.YtodcmamihnlbeaaFit
namespace Go.Proofs.Ytodcmamihnlbeaa
open Go.RowKit

set_option maxHeartbeats 4000000 in
theorem specs_0 (c : Int) (hc : brg c 10 = 0) (u0 u1 u2 : Value) (w : World) : Calls Try.prog 5 #[.int .i64 c, .agg #[u0, u1, u2]] w fun e w' => e = .returned (.bool true) ∧ Fr0 w w' := by
  have B := bring10 c
  rw [hc] at B
  clear hc
  have S : ∀ w, Calls Try.prog 9 #[.int .i64 0] w fun e w' => e = .returned (.tuple #[.int .i64 8, .int .i64 0]) ∧ Fr0 w w' := size_any 0
  have hf : Fr0 w w := Fr.refl _ _
  go_enter Try.func5, Try.ntmps5
  go_wp2_with (fail)
  refine (B _).mono ?_; rintro e' w' ⟨rfl, rfl⟩
  go_wp2_with (fail)
  refine (spec_0 _).mono ?_; rintro e' w1 ⟨rfl, hf'⟩; replace hf := (hf.alloc _).trans0 hf'; clear hf'
  go_wp2_with (fail)
  refine (B _).mono ?_; rintro e' w' ⟨rfl, rfl⟩
  go_wp2_with (fail)
  refine (S _).mono ?_; rintro e' w2 ⟨rfl, hf'⟩
  have hb1 := hf'.at (alloc_block _ _) id
  replace hf := (hf.alloc _).trans0 hf'; clear hf'
  have c0 : w2.cell? ⟨w1.heap.size, 0, none⟩ = some (.int .i64 8) := cell_of_block hb1 0
  have c1 : w2.cell? ⟨w1.heap.size, 1, none⟩ = some (.int .i64 8) := cell_of_block hb1 1
  have c2 : w2.cell? ⟨w1.heap.size, 2, none⟩ = some (.int .i64 4) := cell_of_block hb1 2
  clear hb1
  go_wp2_with (fail)
  refine (works_any _).mono ?_; rintro e' w' ⟨rfl, hf'⟩; replace hf := hf.trans0 hf'; clear hf'
  go_wp2_with (fail)
  go_ret
  exact ⟨by rfl, hf⟩

set_option maxHeartbeats 4000000 in
theorem specs_1 (c : Int) (hc : brg c 10 = 1) (u0 u1 u2 : Value) (w : World) : Calls Try.prog 5 #[.int .i64 c, .agg #[u0, u1, u2]] w fun e w' => e = .returned (.bool true) ∧ Fr0 w w' := by
  have B := bring10 c
  rw [hc] at B
  clear hc
  have S : ∀ w, Calls Try.prog 9 #[.int .i64 1] w fun e w' => e = .returned (.tuple #[.int .i64 16, .int .i64 0]) ∧ Fr0 w w' := size_any 1
  have hf : Fr0 w w := Fr.refl _ _
  go_enter Try.func5, Try.ntmps5
  go_wp2_with (fail)
  refine (B _).mono ?_; rintro e' w' ⟨rfl, rfl⟩
  go_wp2_with (fail)
  refine (spec_1 _).mono ?_; rintro e' w1 ⟨rfl, hf'⟩; replace hf := (hf.alloc _).trans0 hf'; clear hf'
  go_wp2_with (fail)
  refine (B _).mono ?_; rintro e' w' ⟨rfl, rfl⟩
  go_wp2_with (fail)
  refine (S _).mono ?_; rintro e' w2 ⟨rfl, hf'⟩
  have hb1 := hf'.at (alloc_block _ _) id
  replace hf := (hf.alloc _).trans0 hf'; clear hf'
  have c0 : w2.cell? ⟨w1.heap.size, 0, none⟩ = some (.int .i64 16) := cell_of_block hb1 0
  have c1 : w2.cell? ⟨w1.heap.size, 1, none⟩ = some (.int .i64 16) := cell_of_block hb1 1
  have c2 : w2.cell? ⟨w1.heap.size, 2, none⟩ = some (.int .i64 4) := cell_of_block hb1 2
  clear hb1
  go_wp2_with (fail)
  refine (works_any _).mono ?_; rintro e' w' ⟨rfl, hf'⟩; replace hf := hf.trans0 hf'; clear hf'
  go_wp2_with (fail)
  go_ret
  exact ⟨by rfl, hf⟩

set_option maxHeartbeats 4000000 in
theorem specs_2 (c : Int) (hc : brg c 10 = 2) (u0 u1 u2 : Value) (w : World) : Calls Try.prog 5 #[.int .i64 c, .agg #[u0, u1, u2]] w fun e w' => e = .returned (.bool true) ∧ Fr0 w w' := by
  have B := bring10 c
  rw [hc] at B
  clear hc
  have S : ∀ w, Calls Try.prog 9 #[.int .i64 2] w fun e w' => e = .returned (.tuple #[.int .i64 32, .int .i64 0]) ∧ Fr0 w w' := size_any 2
  have hf : Fr0 w w := Fr.refl _ _
  go_enter Try.func5, Try.ntmps5
  go_wp2_with (fail)
  refine (B _).mono ?_; rintro e' w' ⟨rfl, rfl⟩
  go_wp2_with (fail)
  refine (spec_2 _).mono ?_; rintro e' w1 ⟨rfl, hf'⟩; replace hf := (hf.alloc _).trans0 hf'; clear hf'
  go_wp2_with (fail)
  refine (B _).mono ?_; rintro e' w' ⟨rfl, rfl⟩
  go_wp2_with (fail)
  refine (S _).mono ?_; rintro e' w2 ⟨rfl, hf'⟩
  have hb1 := hf'.at (alloc_block _ _) id
  replace hf := (hf.alloc _).trans0 hf'; clear hf'
  have c0 : w2.cell? ⟨w1.heap.size, 0, none⟩ = some (.int .i64 32) := cell_of_block hb1 0
  have c1 : w2.cell? ⟨w1.heap.size, 1, none⟩ = some (.int .i64 16) := cell_of_block hb1 1
  have c2 : w2.cell? ⟨w1.heap.size, 2, none⟩ = some (.int .i64 4) := cell_of_block hb1 2
  clear hb1
  go_wp2_with (fail)
  refine (works_any _).mono ?_; rintro e' w' ⟨rfl, hf'⟩; replace hf := hf.trans0 hf'; clear hf'
  go_wp2_with (fail)
  go_ret
  exact ⟨by rfl, hf⟩

set_option maxHeartbeats 4000000 in
theorem specs_3 (c : Int) (hc : brg c 10 = 3) (u0 u1 u2 : Value) (w : World) : Calls Try.prog 5 #[.int .i64 c, .agg #[u0, u1, u2]] w fun e w' => e = .returned (.bool true) ∧ Fr0 w w' := by
  have B := bring10 c
  rw [hc] at B
  clear hc
  have S : ∀ w, Calls Try.prog 9 #[.int .i64 3] w fun e w' => e = .returned (.tuple #[.int .i64 48, .int .i64 0]) ∧ Fr0 w w' := size_any 3
  have hf : Fr0 w w := Fr.refl _ _
  go_enter Try.func5, Try.ntmps5
  go_wp2_with (fail)
  refine (B _).mono ?_; rintro e' w' ⟨rfl, rfl⟩
  go_wp2_with (fail)
  refine (spec_3 _).mono ?_; rintro e' w1 ⟨rfl, hf'⟩; replace hf := (hf.alloc _).trans0 hf'; clear hf'
  go_wp2_with (fail)
  refine (B _).mono ?_; rintro e' w' ⟨rfl, rfl⟩
  go_wp2_with (fail)
  refine (S _).mono ?_; rintro e' w2 ⟨rfl, hf'⟩
  have hb1 := hf'.at (alloc_block _ _) id
  replace hf := (hf.alloc _).trans0 hf'; clear hf'
  have c0 : w2.cell? ⟨w1.heap.size, 0, none⟩ = some (.int .i64 48) := cell_of_block hb1 0
  have c1 : w2.cell? ⟨w1.heap.size, 1, none⟩ = some (.int .i64 16) := cell_of_block hb1 1
  have c2 : w2.cell? ⟨w1.heap.size, 2, none⟩ = some (.int .i64 4) := cell_of_block hb1 2
  clear hb1
  go_wp2_with (fail)
  refine (works_any _).mono ?_; rintro e' w' ⟨rfl, hf'⟩; replace hf := hf.trans0 hf'; clear hf'
  go_wp2_with (fail)
  go_ret
  exact ⟨by rfl, hf⟩

set_option maxHeartbeats 4000000 in
theorem specs_4 (c : Int) (hc : brg c 10 = 4) (u0 u1 u2 : Value) (w : World) : Calls Try.prog 5 #[.int .i64 c, .agg #[u0, u1, u2]] w fun e w' => e = .returned (.bool true) ∧ Fr0 w w' := by
  have B := bring10 c
  rw [hc] at B
  clear hc
  have S : ∀ w, Calls Try.prog 9 #[.int .i64 4] w fun e w' => e = .returned (.tuple #[.int .i64 64, .int .i64 0]) ∧ Fr0 w w' := size_any 4
  have hf : Fr0 w w := Fr.refl _ _
  go_enter Try.func5, Try.ntmps5
  go_wp2_with (fail)
  refine (B _).mono ?_; rintro e' w' ⟨rfl, rfl⟩
  go_wp2_with (fail)
  refine (spec_4 _).mono ?_; rintro e' w1 ⟨rfl, hf'⟩; replace hf := (hf.alloc _).trans0 hf'; clear hf'
  go_wp2_with (fail)
  refine (B _).mono ?_; rintro e' w' ⟨rfl, rfl⟩
  go_wp2_with (fail)
  refine (S _).mono ?_; rintro e' w2 ⟨rfl, hf'⟩
  have hb1 := hf'.at (alloc_block _ _) id
  replace hf := (hf.alloc _).trans0 hf'; clear hf'
  have c0 : w2.cell? ⟨w1.heap.size, 0, none⟩ = some (.int .i64 64) := cell_of_block hb1 0
  have c1 : w2.cell? ⟨w1.heap.size, 1, none⟩ = some (.int .i64 16) := cell_of_block hb1 1
  have c2 : w2.cell? ⟨w1.heap.size, 2, none⟩ = some (.int .i64 4) := cell_of_block hb1 2
  clear hb1
  go_wp2_with (fail)
  refine (works_any _).mono ?_; rintro e' w' ⟨rfl, hf'⟩; replace hf := hf.trans0 hf'; clear hf'
  go_wp2_with (fail)
  go_ret
  exact ⟨by rfl, hf⟩

set_option maxHeartbeats 4000000 in
theorem specs_5 (c : Int) (hc : brg c 10 = 5) (u0 u1 u2 : Value) (w : World) : Calls Try.prog 5 #[.int .i64 c, .agg #[u0, u1, u2]] w fun e w' => e = .returned (.bool true) ∧ Fr0 w w' := by
  have B := bring10 c
  rw [hc] at B
  clear hc
  have S : ∀ w, Calls Try.prog 9 #[.int .i64 5] w fun e w' => e = .returned (.tuple #[.int .i64 96, .int .i64 0]) ∧ Fr0 w w' := size_any 5
  have hf : Fr0 w w := Fr.refl _ _
  go_enter Try.func5, Try.ntmps5
  go_wp2_with (fail)
  refine (B _).mono ?_; rintro e' w' ⟨rfl, rfl⟩
  go_wp2_with (fail)
  refine (spec_5 _).mono ?_; rintro e' w1 ⟨rfl, hf'⟩; replace hf := (hf.alloc _).trans0 hf'; clear hf'
  go_wp2_with (fail)
  refine (B _).mono ?_; rintro e' w' ⟨rfl, rfl⟩
  go_wp2_with (fail)
  refine (S _).mono ?_; rintro e' w2 ⟨rfl, hf'⟩
  have hb1 := hf'.at (alloc_block _ _) id
  replace hf := (hf.alloc _).trans0 hf'; clear hf'
  have c0 : w2.cell? ⟨w1.heap.size, 0, none⟩ = some (.int .i64 96) := cell_of_block hb1 0
  have c1 : w2.cell? ⟨w1.heap.size, 1, none⟩ = some (.int .i64 16) := cell_of_block hb1 1
  have c2 : w2.cell? ⟨w1.heap.size, 2, none⟩ = some (.int .i64 4) := cell_of_block hb1 2
  clear hb1
  go_wp2_with (fail)
  refine (works_any _).mono ?_; rintro e' w' ⟨rfl, hf'⟩; replace hf := hf.trans0 hf'; clear hf'
  go_wp2_with (fail)
  go_ret
  exact ⟨by rfl, hf⟩

set_option maxHeartbeats 4000000 in
theorem specs_6 (c : Int) (hc : brg c 10 = 6) (u0 u1 u2 : Value) (w : World) : Calls Try.prog 5 #[.int .i64 c, .agg #[u0, u1, u2]] w fun e w' => e = .returned (.bool true) ∧ Fr0 w w' := by
  have B := bring10 c
  rw [hc] at B
  clear hc
  have S : ∀ w, Calls Try.prog 9 #[.int .i64 6] w fun e w' => e = .returned (.tuple #[.int .i64 128, .int .i64 0]) ∧ Fr0 w w' := size_any 6
  have hf : Fr0 w w := Fr.refl _ _
  go_enter Try.func5, Try.ntmps5
  go_wp2_with (fail)
  refine (B _).mono ?_; rintro e' w' ⟨rfl, rfl⟩
  go_wp2_with (fail)
  refine (spec_6 _).mono ?_; rintro e' w1 ⟨rfl, hf'⟩; replace hf := (hf.alloc _).trans0 hf'; clear hf'
  go_wp2_with (fail)
  refine (B _).mono ?_; rintro e' w' ⟨rfl, rfl⟩
  go_wp2_with (fail)
  refine (S _).mono ?_; rintro e' w2 ⟨rfl, hf'⟩
  have hb1 := hf'.at (alloc_block _ _) id
  replace hf := (hf.alloc _).trans0 hf'; clear hf'
  have c0 : w2.cell? ⟨w1.heap.size, 0, none⟩ = some (.int .i64 128) := cell_of_block hb1 0
  have c1 : w2.cell? ⟨w1.heap.size, 1, none⟩ = some (.int .i64 16) := cell_of_block hb1 1
  have c2 : w2.cell? ⟨w1.heap.size, 2, none⟩ = some (.int .i64 4) := cell_of_block hb1 2
  clear hb1
  go_wp2_with (fail)
  refine (works_any _).mono ?_; rintro e' w' ⟨rfl, hf'⟩; replace hf := hf.trans0 hf'; clear hf'
  go_wp2_with (fail)
  go_ret
  exact ⟨by rfl, hf⟩

set_option maxHeartbeats 4000000 in
theorem specs_7 (c : Int) (hc : brg c 10 = 7) (u0 u1 u2 : Value) (w : World) : Calls Try.prog 5 #[.int .i64 c, .agg #[u0, u1, u2]] w fun e w' => e = .returned (.bool true) ∧ Fr0 w w' := by
  have B := bring10 c
  rw [hc] at B
  clear hc
  have S : ∀ w, Calls Try.prog 9 #[.int .i64 7] w fun e w' => e = .returned (.tuple #[.int .i64 192, .int .i64 0]) ∧ Fr0 w w' := size_any 7
  have hf : Fr0 w w := Fr.refl _ _
  go_enter Try.func5, Try.ntmps5
  go_wp2_with (fail)
  refine (B _).mono ?_; rintro e' w' ⟨rfl, rfl⟩
  go_wp2_with (fail)
  refine (spec_7 _).mono ?_; rintro e' w1 ⟨rfl, hf'⟩; replace hf := (hf.alloc _).trans0 hf'; clear hf'
  go_wp2_with (fail)
  refine (B _).mono ?_; rintro e' w' ⟨rfl, rfl⟩
  go_wp2_with (fail)
  refine (S _).mono ?_; rintro e' w2 ⟨rfl, hf'⟩
  have hb1 := hf'.at (alloc_block _ _) id
  replace hf := (hf.alloc _).trans0 hf'; clear hf'
  have c0 : w2.cell? ⟨w1.heap.size, 0, none⟩ = some (.int .i64 192) := cell_of_block hb1 0
  have c1 : w2.cell? ⟨w1.heap.size, 1, none⟩ = some (.int .i64 16) := cell_of_block hb1 1
  have c2 : w2.cell? ⟨w1.heap.size, 2, none⟩ = some (.int .i64 4) := cell_of_block hb1 2
  clear hb1
  go_wp2_with (fail)
  refine (works_any _).mono ?_; rintro e' w' ⟨rfl, hf'⟩; replace hf := hf.trans0 hf'; clear hf'
  go_wp2_with (fail)
  go_ret
  exact ⟨by rfl, hf⟩

set_option maxHeartbeats 4000000 in
theorem specs_8 (c : Int) (hc : brg c 10 = 8) (u0 u1 u2 : Value) (w : World) : Calls Try.prog 5 #[.int .i64 c, .agg #[u0, u1, u2]] w fun e w' => e = .returned (.bool true) ∧ Fr0 w w' := by
  have B := bring10 c
  rw [hc] at B
  clear hc
  have S : ∀ w, Calls Try.prog 9 #[.int .i64 8] w fun e w' => e = .returned (.tuple #[.int .i64 256, .int .i64 0]) ∧ Fr0 w w' := size_any 8
  have hf : Fr0 w w := Fr.refl _ _
  go_enter Try.func5, Try.ntmps5
  go_wp2_with (fail)
  refine (B _).mono ?_; rintro e' w' ⟨rfl, rfl⟩
  go_wp2_with (fail)
  refine (spec_8 _).mono ?_; rintro e' w1 ⟨rfl, hf'⟩; replace hf := (hf.alloc _).trans0 hf'; clear hf'
  go_wp2_with (fail)
  refine (B _).mono ?_; rintro e' w' ⟨rfl, rfl⟩
  go_wp2_with (fail)
  refine (S _).mono ?_; rintro e' w2 ⟨rfl, hf'⟩
  have hb1 := hf'.at (alloc_block _ _) id
  replace hf := (hf.alloc _).trans0 hf'; clear hf'
  have c0 : w2.cell? ⟨w1.heap.size, 0, none⟩ = some (.int .i64 256) := cell_of_block hb1 0
  have c1 : w2.cell? ⟨w1.heap.size, 1, none⟩ = some (.int .i64 16) := cell_of_block hb1 1
  have c2 : w2.cell? ⟨w1.heap.size, 2, none⟩ = some (.int .i64 4) := cell_of_block hb1 2
  clear hb1
  go_wp2_with (fail)
  refine (works_any _).mono ?_; rintro e' w' ⟨rfl, hf'⟩; replace hf := hf.trans0 hf'; clear hf'
  go_wp2_with (fail)
  go_ret
  exact ⟨by rfl, hf⟩

set_option maxHeartbeats 4000000 in
theorem specs_9 (c : Int) (hc : brg c 10 = 9) (u0 u1 u2 : Value) (w : World) : Calls Try.prog 5 #[.int .i64 c, .agg #[u0, u1, u2]] w fun e w' => e = .returned (.bool true) ∧ Fr0 w w' := by
  have B := bring10 c
  rw [hc] at B
  clear hc
  have S : ∀ w, Calls Try.prog 9 #[.int .i64 9] w fun e w' => e = .returned (.tuple #[.int .i64 512, .int .i64 0]) ∧ Fr0 w w' := size_any 9
  have hf : Fr0 w w := Fr.refl _ _
  go_enter Try.func5, Try.ntmps5
  go_wp2_with (fail)
  refine (B _).mono ?_; rintro e' w' ⟨rfl, rfl⟩
  go_wp2_with (fail)
  refine (spec_9 _).mono ?_; rintro e' w1 ⟨rfl, hf'⟩; replace hf := (hf.alloc _).trans0 hf'; clear hf'
  go_wp2_with (fail)
  refine (B _).mono ?_; rintro e' w' ⟨rfl, rfl⟩
  go_wp2_with (fail)
  refine (S _).mono ?_; rintro e' w2 ⟨rfl, hf'⟩
  have hb1 := hf'.at (alloc_block _ _) id
  replace hf := (hf.alloc _).trans0 hf'; clear hf'
  have c0 : w2.cell? ⟨w1.heap.size, 0, none⟩ = some (.int .i64 512) := cell_of_block hb1 0
  have c1 : w2.cell? ⟨w1.heap.size, 1, none⟩ = some (.int .i64 16) := cell_of_block hb1 1
  have c2 : w2.cell? ⟨w1.heap.size, 2, none⟩ = some (.int .i64 4) := cell_of_block hb1 2
  clear hb1
  go_wp2_with (fail)
  refine (works_any _).mono ?_; rintro e' w' ⟨rfl, hf'⟩; replace hf := hf.trans0 hf'; clear hf'
  go_wp2_with (fail)
  go_ret
  exact ⟨by rfl, hf⟩

theorem specs_any (c : Int) (u0 u1 u2 : Value) (w : World) : Calls Try.prog 5 #[.int .i64 c, .agg #[u0, u1, u2]] w fun e w' => e = .returned (.bool true) ∧ Fr0 w w' := by
  have hr := brg_range c 10 (by decide)
  rcases in_ten (c := brg c 10) (by omega) (by omega) with h | h | h | h | h | h | h | h | h | h
  · exact specs_0 c h u0 u1 u2 w
  · exact specs_1 c h u0 u1 u2 w
  · exact specs_2 c h u0 u1 u2 w
  · exact specs_3 c h u0 u1 u2 w
  · exact specs_4 c h u0 u1 u2 w
  · exact specs_5 c h u0 u1 u2 w
  · exact specs_6 c h u0 u1 u2 w
  · exact specs_7 c h u0 u1 u2 w
  · exact specs_8 c h u0 u1 u2 w
  · exact specs_9 c h u0 u1 u2 w

set_option maxHeartbeats 4000000 in
theorem known_any (w : World) : Calls Try.prog 6 #[] w fun e w' => e = .returned (.bool true) ∧ Fr0 w w' := by
  have hf0 : Fr0 w w := Fr.refl _ _
  go_enter Try.func6, Try.ntmps6
  go_wp2_with (fail)
  go_loopw [1] (fun i wx => ∃ n : Int, i = .int .i64 n ∧ -3 ≤ n ∧ n ≤ 600 ∧ Fr0 w wx)
    (fun i _ => (600 - intOf i).toNat)
  case atStart => exact ⟨-3, rfl, by omega, by omega, hf0⟩
  case round =>
    obtain ⟨n, rfl, h1, h2, hf⟩ := hrel
    by_cases h : n < 600
    · go_wp2_with (go_at_call 3; refine (answers_any _ _).mono ?_; rintro e' w' ⟨rfl, hf'⟩; replace hf := hf.trans0 hf'; clear hf')
      go_roundw
      case rel => exact ⟨n + 1, by go_num, by omega, by omega, hf⟩
      case measure => (try simp [intOf]); omega
    · go_wp2_with (fail)
      refine (works_any _).mono ?_; rintro e' w' ⟨rfl, hf'⟩; replace hf := hf.trans0 hf'; clear hf'
      go_wp2_with (fail)
      refine (answers_any _ _).mono ?_; rintro e' w' ⟨rfl, hf'⟩; replace hf := hf.trans0 hf'; clear hf'
      go_wp2_with (fail)
      refine (answers_any _ _).mono ?_; rintro e' w' ⟨rfl, hf'⟩; replace hf := hf.trans0 hf'; clear hf'
      go_wp2_with (fail)
      go_ret
      exact ⟨by rfl, hf⟩
end Go.Proofs.Ytodcmamihnlbeaa

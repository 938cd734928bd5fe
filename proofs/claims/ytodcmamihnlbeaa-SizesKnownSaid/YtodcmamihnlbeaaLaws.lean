/-
  The laws' own functions.
-/
import Derived.Test.YtodcmamihnlbeaaWasteB
namespace Go.Proofs.Ytodcmamihnlbeaa
open Go.RowKit

def brg (a : Int) (n : Int) : Int := if a.tmod n < 0 then a.tmod n + n else a.tmod n

theorem brg_range (a n : Int) (hn : 0 < n) : 0 ≤ brg a n ∧ brg a n < n := by
  have h1 := Int.tmod_lt_of_pos a hn
  have h2 := Int.lt_tmod_of_pos a hn
  unfold brg
  split <;> omega
theorem k0 (w : World) : Calls Try.prog 20 #[.int .i64 1, .int .i64 0, .int .i64 0] w fun e w' => e = .returned (.bool true) ∧ Fr0 w w' := isClass 1 0 0 (by decide) (by decide) w
theorem k1 (w : World) : Calls Try.prog 20 #[.int .i64 8, .int .i64 0, .int .i64 0] w fun e w' => e = .returned (.bool true) ∧ Fr0 w w' := isClass 8 0 0 (by decide) (by decide) w
theorem k2 (w : World) : Calls Try.prog 20 #[.int .i64 9, .int .i64 1, .int .i64 0] w fun e w' => e = .returned (.bool true) ∧ Fr0 w w' := isClass 9 1 0 (by decide) (by decide) w
theorem k3 (w : World) : Calls Try.prog 20 #[.int .i64 100, .int .i64 6, .int .i64 0] w fun e w' => e = .returned (.bool true) ∧ Fr0 w w' := isClass 100 6 0 (by decide) (by decide) w
theorem k4 (w : World) : Calls Try.prog 20 #[.int .i64 512, .int .i64 9, .int .i64 0] w fun e w' => e = .returned (.bool true) ∧ Fr0 w w' := isClass 512 9 0 (by decide) (by decide) w
theorem k5 (w : World) : Calls Try.prog 20 #[.int .i64 513, .int .i64 0, .int .i64 9] w fun e w' => e = .returned (.bool true) ∧ Fr0 w w' := isClass 513 0 9 (by decide) (by decide) w
theorem k6 (w : World) : Calls Try.prog 20 #[.int .i64 0, .int .i64 0, .int .i64 2] w fun e w' => e = .returned (.bool true) ∧ Fr0 w w' := isClass 0 0 2 (by decide) (by decide) w
theorem z3 (w : World) : Calls Try.prog 9 #[.int .i64 3] w fun e w' => e = .returned (.tuple #[.int .i64 48, .int .i64 0]) ∧ Fr0 w w' := size_any 3 w
theorem z10 (w : World) : Calls Try.prog 9 #[.int .i64 10] w fun e w' => e = .returned (.tuple #[.int .i64 0, .int .i64 9]) ∧ Fr0 w w' := size_any 10 w
theorem z100 (w : World) : Calls Try.prog 13 #[.int .i64 100] w fun e w' => e = .returned (.int .i64 28) ∧ Fr0 w w' := waste_any 100 w
theorem z600 (w : World) : Calls Try.prog 13 #[.int .i64 600] w fun e w' => e = .returned (.int .i64 0) ∧ Fr0 w w' := waste_any 600 w
set_option maxHeartbeats 8000000 in
theorem works_any (w : World) : Calls Try.prog 15 #[] w fun e w' => e = .returned (.bool true) ∧ Fr0 w w' := by
  have hg : Try.prog.eqGuardType Try.prog.depth 26 = false := by kernel_rfl
  have hf : Fr0 w w := Fr.refl _ _
  go_enter Try.func15, Try.ntmps15
  go_wp2_with (fail)
  refine (k0 _).mono ?_; rintro e w' ⟨rfl, hf'⟩; replace hf := hf.trans0 hf'; clear hf'
  go_wp2_with (fail)
  refine (k1 _).mono ?_; rintro e w' ⟨rfl, hf'⟩; replace hf := hf.trans0 hf'; clear hf'
  go_wp2_with (fail)
  refine (k2 _).mono ?_; rintro e w' ⟨rfl, hf'⟩; replace hf := hf.trans0 hf'; clear hf'
  go_wp2_with (fail)
  refine (k3 _).mono ?_; rintro e w' ⟨rfl, hf'⟩; replace hf := hf.trans0 hf'; clear hf'
  go_wp2_with (fail)
  refine (k4 _).mono ?_; rintro e w' ⟨rfl, hf'⟩; replace hf := hf.trans0 hf'; clear hf'
  go_wp2_with (fail)
  refine (k5 _).mono ?_; rintro e w' ⟨rfl, hf'⟩; replace hf := hf.trans0 hf'; clear hf'
  go_wp2_with (fail)
  refine (k6 _).mono ?_; rintro e w' ⟨rfl, hf'⟩; replace hf := hf.trans0 hf'; clear hf'
  go_wp2_with (fail)
  refine (z3 _).mono ?_; rintro e w' ⟨rfl, hf'⟩; replace hf := hf.trans0 hf'; clear hf'
  go_wp2_with (fail)
  refine (z10 _).mono ?_; rintro e w' ⟨rfl, hf'⟩; replace hf := hf.trans0 hf'; clear hf'
  go_wp2_with (fail)
  refine (spec_0 _).mono ?_; rintro e w1 ⟨rfl, hf'⟩; replace hf := hf.trans0 hf'; clear hf'
  go_wp2_with (fail)
  refine (spec_3 _).mono ?_; rintro e w2 ⟨rfl, hf'⟩
  have hb1 := hf'.at (alloc_block _ _) id
  replace hf := (hf.alloc _).trans0 hf'; clear hf'
  go_wp2_with (fail)
  refine (z100 _).mono ?_; rintro e w3 ⟨rfl, hf'⟩
  have hb2 := hf'.at (alloc_block _ _) id
  have hb1' := hf'.at (alloc_at hb1 _) id
  replace hf := (hf.alloc _).trans0 hf'; clear hf' hb1
  have HB1 := hid hb1'
  have HB2 := hid hb2
  clear hb1' hb2
  go_wp2_with (fail)
  refine (z600 _).mono ?_; rintro e w4 ⟨rfl, hf'⟩
  have hb1 := hf'.at HB1.out id
  have hb2 := hf'.at HB2.out id
  replace hf := hf.trans0 hf'; clear hf' HB1 HB2
  have c0 : w4.cell? ⟨w1.heap.size, 0, none⟩ = some (.int .i64 8) := cell_of_block hb1 0
  have c1 : w4.cell? ⟨w1.heap.size, 1, none⟩ = some (.int .i64 8) := cell_of_block hb1 1
  have c2 : w4.cell? ⟨w1.heap.size, 2, none⟩ = some (.int .i64 4) := cell_of_block hb1 2
  have d0 : w4.cell? ⟨w2.heap.size, 0, none⟩ = some (.int .i64 48) := cell_of_block hb2 0
  have d1 : w4.cell? ⟨w2.heap.size, 1, none⟩ = some (.int .i64 16) := cell_of_block hb2 1
  have d2 : w4.cell? ⟨w2.heap.size, 2, none⟩ = some (.int .i64 4) := cell_of_block hb2 2
  clear hb1 hb2
  go_wp2_with (fail)
  go_ret
  exact ⟨by rfl, hf⟩

set_option maxHeartbeats 8000000 in
theorem answers_any (n : Int) (w : World) : Calls Try.prog 3 #[.int .i64 n] w fun e w' => e = .returned (.bool true) ∧ Fr0 w w' := by
  have hg : Try.prog.eqGuardType Try.prog.depth 26 = false := by kernel_rfl
  have hf : Fr0 w w := Fr.refl _ _
  have S7 := class_any n
  have S8 := refClass_any n
  have S9 := size_any n
  have S10 := refSize_any n
  have S11 := spec_any n
  have S12 := refSpec_any n
  have S13 := waste_any n
  have S14 := refWaste_any n
  unfold specV at S11 S12
  generalize cls n = c at *
  generalize clE n = e at *
  generalize szV n = v at *
  generalize szE n = f at *
  generalize alV n = al at *
  generalize flV n = fl at *
  generalize wst n = q at *
  go_enter Try.func3, Try.ntmps3
  go_wp2_with (fail)
  refine (S7 _).mono ?_; rintro e' w' ⟨rfl, hf'⟩; replace hf := hf.trans0 hf'; clear hf'
  go_wp2_with (fail)
  refine (S8 _).mono ?_; rintro e' w' ⟨rfl, hf'⟩; replace hf := hf.trans0 hf'; clear hf'
  go_wp2_with (fail)
  refine (S9 _).mono ?_; rintro e' w' ⟨rfl, hf'⟩; replace hf := hf.trans0 hf'; clear hf'
  go_wp2_with (fail)
  refine (S10 _).mono ?_; rintro e' w' ⟨rfl, hf'⟩; replace hf := hf.trans0 hf'; clear hf'
  go_wp2_with (fail)
  refine (S11 _).mono ?_; rintro e' w1 ⟨rfl, hf'⟩; replace hf := hf.trans0 hf'; clear hf'
  go_wp2_with (fail)
  refine (S12 _).mono ?_; rintro e' w2 ⟨rfl, hf'⟩
  have hb1 := hf'.at (alloc_block _ _) id
  replace hf := (hf.alloc _).trans0 hf'; clear hf'
  have a1 := fun o => alloc_at hb1 o
  have l1 := lt_of_block hb1
  have a2 := fun o => alloc_block w2 o
  have r0 := fun o => cell_of_block (a1 o) 0
  have r1 := fun o => cell_of_block (a1 o) 1
  have r2 := fun o => cell_of_block (a1 o) 2
  have t0 : ∀ o, (w2.alloc o).cell? ⟨w1.heap.size, 0, none⟩ = some (.int .i64 v) := r0
  have t1 : ∀ o, (w2.alloc o).cell? ⟨w1.heap.size, 1, none⟩ = some (.int .i64 al) := r1
  have t2 : ∀ o, (w2.alloc o).cell? ⟨w1.heap.size, 2, none⟩ = some (.int .i64 fl) := r2
  have A1 := hid a1
  clear a1 a2 r0 r1 r2 hb1
  go_wp2_with (fail)
  refine (S13 _).mono ?_; rintro e' w' ⟨rfl, hf'⟩; replace hf := (hf.alloc _).trans0 hf'; clear hf'
  go_wp2_with (fail)
  refine (S14 _).mono ?_; rintro e' w' ⟨rfl, hf'⟩; replace hf := hf.trans0 hf'; clear hf'
  go_wp2_with (fail)
  refine (works_any _).mono ?_; rintro e' w' ⟨rfl, hf'⟩; replace hf := hf.trans0 hf'; clear hf'
  go_wp2_with (fail)
  go_ret
  exact ⟨by rfl, hf⟩
end Go.Proofs.Ytodcmamihnlbeaa

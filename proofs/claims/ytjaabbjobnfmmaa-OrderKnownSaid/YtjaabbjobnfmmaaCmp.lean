/-
  cmp.Compare and cmp.Or of numbers.
-/
import Derived.Test.YtjaabbjobnfmmaaWorks
namespace Go.Proofs.Ytjaabbjobnfmmaa
open Go.RowKit

/-- Which of two numbers comes ahead. -/
def cmpI (x y : Int) : Int := if x < y then -1 else if y < x then 1 else 0

theorem nanI_any (x : Int) (w : World) : Calls Try.prog 72 #[.int .i64 x] w fun e w' => e = .returned (.bool false) ∧ w' = w := by
  go_enter Try.func72, Try.ntmps72
  go_wp2
  go_ret
  exact ⟨by simp, rfl⟩

set_option maxHeartbeats 800000 in
theorem compareI_any (x y : Int) (w : World) : Calls Try.prog 53 #[.int .i64 x, .int .i64 y] w fun e w' => e = .returned (.int .i64 (cmpI x y)) ∧ w' = w := by
  unfold cmpI
  by_cases h1 : x < y
  · rw [if_pos h1]
    go_enter Try.func53, Try.ntmps53
    go_wp2_with (go_at_call 72; refine (nanI_any _ _).mono ?_; rintro e w' ⟨rfl, rfl⟩)
    go_ret
    exact ⟨rfl, rfl⟩
  · rw [if_neg h1]
    by_cases h2 : y < x
    · rw [if_pos h2]
      go_enter Try.func53, Try.ntmps53
      go_wp2_with (go_at_call 72; refine (nanI_any _ _).mono ?_; rintro e w' ⟨rfl, rfl⟩)
      go_ret
      exact ⟨rfl, rfl⟩
    · rw [if_neg h2]
      go_enter Try.func53, Try.ntmps53
      go_wp2_with (go_at_call 72; refine (nanI_any _ _).mono ?_; rintro e w' ⟨rfl, rfl⟩)
      go_ret
      exact ⟨rfl, rfl⟩

/-- The first of three numbers that is not 0. -/
def or3 (a b c : Int) : Int := if a ≠ 0 then a else if b ≠ 0 then b else c

/-- Three numbers in a row. -/
structure ThreeAt (w : World) (g : Nat) (a b c : Int) : Prop where
  c0 : w.cell? ⟨g, 0, none⟩ = some (.int .i64 a)
  c1 : w.cell? ⟨g, 1, none⟩ = some (.int .i64 b)
  c2 : w.cell? ⟨g, 2, none⟩ = some (.int .i64 c)

theorem index46 (g : Nat) (k : Nat) (hk : k < 3) (W : World) :
    (Instr.indexAt 46 (.slice (some ⟨g, 0, none⟩) 3 3) (.int .i64 k)).run Try.prog W = .ok (.pointer (some ⟨g, k, none⟩)) W := by
  have hs : (sizeOf 3).run Try.prog W = .ok 1 W := by go_simp
  have := index_of0 (n := 3) (a := some ⟨g, 0, none⟩) Try.underlying46 W hs (fun _ => rfl) 3 k hk
  simpa using this

set_option maxHeartbeats 1600000 in
theorem or_any (g : Nat) (a b c : Int) (w : World) (h : ThreeAt w g a b c) : Calls Try.prog 52 #[.slice (some ⟨g, 0, none⟩) 3 3] w fun e w' => e = .returned (.int .i64 (or3 a b c)) ∧ w' = w := by
  have i0 := index46 g 0 (by decide)
  have i1 := index46 g 1 (by decide)
  have i2 := index46 g 2 (by decide)
  have H := hid h
  clear h
  go_enter Try.func52, Try.ntmps52
  go_wp2
  go_loopw [8] (fun i wr => ∃ k : Nat, i = .int .i64 k ∧ k ≤ 3 ∧ Hid ((1 ≤ k → a = 0) ∧ (2 ≤ k → b = 0) ∧ (3 ≤ k → c = 0)) ∧ wr = w)
    (fun i _ => 3 - (intOf i).toNat)
  case atStart => exact ⟨0, rfl, by omega, hid ⟨by omega, by omega, by omega⟩, rfl⟩
  case round =>
    obtain ⟨k, rfl, hk, hz, rfl⟩ := hrel
    have hs : k = 0 ∨ k = 1 ∨ k = 2 ∨ k = 3 := by omega
    obtain ⟨z1, z2, z3⟩ := hz.out
    rcases hs with rfl | rfl | rfl | rfl
    · have c0 := H.out.c0
      by_cases ha : a = 0
      · have hb : (a != 0) = false := by simp [ha]
        have HZ : Hid ((1 ≤ 0 + 1 → a = 0) ∧ (2 ≤ 0 + 1 → b = 0) ∧ (3 ≤ 0 + 1 → c = 0)) := hid ⟨fun _ => ha, by omega, by omega⟩
        clear ha z1 z2 z3 hz
        go_wp2
        go_roundw
        case rel => exact ⟨0 + 1, rfl, by omega, HZ, by first | rfl | trivial⟩
        case measure => decide
      · have hb : (a != 0) = true := by simp [ha]
        have HO : Hid (or3 a b c = a) := hid (by unfold or3; rw [if_pos ha])
        clear ha z1 z2 z3 hz
        go_wp2
        go_ret
        exact ⟨by rw [HO.out]; rfl, rfl⟩
    · have c1 := H.out.c1
      have ha := z1 (by decide)
      by_cases hb0 : b = 0
      · have hb : (b != 0) = false := by simp [hb0]
        have HZ : Hid ((1 ≤ 1 + 1 → a = 0) ∧ (2 ≤ 1 + 1 → b = 0) ∧ (3 ≤ 1 + 1 → c = 0)) := hid ⟨fun _ => ha, fun _ => hb0, by omega⟩
        clear ha hb0 z1 z2 z3 hz
        go_wp2
        go_roundw
        case rel => exact ⟨1 + 1, rfl, by omega, HZ, by first | rfl | trivial⟩
        case measure => decide
      · have hb : (b != 0) = true := by simp [hb0]
        have HO : Hid (or3 a b c = b) := hid (by unfold or3; rw [if_neg (by simp [ha]), if_pos hb0])
        clear ha hb0 z1 z2 z3 hz
        go_wp2
        go_ret
        exact ⟨by rw [HO.out]; rfl, rfl⟩
    · have c2 := H.out.c2
      have ha := z1 (by decide)
      have hb0 := z2 (by decide)
      by_cases hc0 : c = 0
      · have hb : (c != 0) = false := by simp [hc0]
        have HZ : Hid ((1 ≤ 2 + 1 → a = 0) ∧ (2 ≤ 2 + 1 → b = 0) ∧ (3 ≤ 2 + 1 → c = 0)) := hid ⟨fun _ => ha, fun _ => hb0, fun _ => hc0⟩
        clear ha hb0 hc0 z1 z2 z3 hz
        go_wp2
        go_roundw
        case rel => exact ⟨2 + 1, rfl, by omega, HZ, by first | rfl | trivial⟩
        case measure => decide
      · have hb : (c != 0) = true := by simp [hc0]
        have HO : Hid (or3 a b c = c) := hid (by unfold or3; rw [if_neg (by simp [ha]), if_neg (by simp [hb0])])
        clear ha hb0 hc0 z1 z2 z3 hz
        go_wp2
        go_ret
        exact ⟨by rw [HO.out]; rfl, rfl⟩
    · have ha := z1 (by decide)
      have hb0 := z2 (by decide)
      have hc0 := z3 (by decide)
      have HO : Hid (or3 a b c = 0) := hid (by unfold or3; rw [if_neg (by simp [ha]), if_neg (by simp [hb0]), hc0])
      clear ha hb0 hc0 z1 z2 z3 hz
      go_wp2
      go_ret
      exact ⟨by rw [HO.out]; rfl, rfl⟩
end Go.Proofs.Ytjaabbjobnfmmaa

/-
  small and fold of a rune: of the program and of the document.
-/
import Derived.Test.YthbcbnihghmniaaText
import Derived.Test.YthbcbnihghmniaaRow
import Derived.Test.YthbcbnihghmniaaRows
import Derived.WalkSpells
import Derived.WalkLawsBesides
namespace Go.Proofs.Ythbcbnihghmniaa
open Go.RowKit

/-- Is it a small letter? -/
def inR (k : Nat) (r : Int) : Prop := match k with
  | 0 => 97 ≤ r ∧ r ≤ 122
  | 1 => 224 ≤ r ∧ r ≤ 246
  | 2 => 248 ≤ r ∧ r ≤ 254
  | 3 => 945 ≤ r ∧ r ≤ 961
  | 4 => 963 ≤ r ∧ r ≤ 969
  | _ => False
def isSmall (r : Int) : Prop := (97 ≤ r ∧ r ≤ 122) ∨ (224 ≤ r ∧ r ≤ 246) ∨ (248 ≤ r ∧ r ≤ 254) ∨ (945 ≤ r ∧ r ≤ 961) ∨ (963 ≤ r ∧ r ≤ 969)
instance (r : Int) : Decidable (isSmall r) := by unfold isSmall; infer_instance
/-- A rune, small. -/
def fo (r : Int) : Int := if isSmall (r + 32) then r + 32 else r

theorem fo_vld {r : Int} (h : Vld r) : Vld (fo r) := by
  unfold fo
  split
  · rename_i hs
    unfold isSmall at hs
    unfold Vld
    omega
  · exact h

theorem fr0_alloc (w : World) (o : Obj) : Fr0 w (w.alloc o) := (Fr.refl _ w).alloc o

set_option maxRecDepth 100000 in
set_option maxHeartbeats 800000 in
theorem letters_any (w : World) : Calls Try.prog 34 #[] w fun e w' => e = .returned (.agg #[.int .i32 97, .int .i32 122, .int .i32 224, .int .i32 246, .int .i32 248, .int .i32 254, .int .i32 945, .int .i32 961, .int .i32 963, .int .i32 969]) ∧ Fr0 w w' := by
  go_enter Try.func34, Try.ntmps34
  go_wp2
  exact bodyPost_ret (v := .agg #[.int .i32 97, .int .i32 122, .int .i32 224, .int .i32 246, .int .i32 248, .int .i32 254, .int .i32 945, .int .i32 961, .int .i32 963, .int .i32 969]) (by simp [results, Try.results34, go_sem]) rfl ⟨rfl, fr0_alloc _ _⟩

theorem x0 : ∀ w : World, (Instr.index 49 (.agg #[.int .i32 97, .int .i32 122, .int .i32 224, .int .i32 246, .int .i32 248, .int .i32 254, .int .i32 945, .int .i32 961, .int .i32 963, .int .i32 969]) (.int .i64 0)).run Try.prog w = .ok (.agg #[.int .i32 97, .int .i32 122]) w := fun _ => by kernel_rfl
theorem x1 : ∀ w : World, (Instr.index 49 (.agg #[.int .i32 97, .int .i32 122, .int .i32 224, .int .i32 246, .int .i32 248, .int .i32 254, .int .i32 945, .int .i32 961, .int .i32 963, .int .i32 969]) (.int .i64 1)).run Try.prog w = .ok (.agg #[.int .i32 224, .int .i32 246]) w := fun _ => by kernel_rfl
theorem x2 : ∀ w : World, (Instr.index 49 (.agg #[.int .i32 97, .int .i32 122, .int .i32 224, .int .i32 246, .int .i32 248, .int .i32 254, .int .i32 945, .int .i32 961, .int .i32 963, .int .i32 969]) (.int .i64 2)).run Try.prog w = .ok (.agg #[.int .i32 248, .int .i32 254]) w := fun _ => by kernel_rfl
theorem x3 : ∀ w : World, (Instr.index 49 (.agg #[.int .i32 97, .int .i32 122, .int .i32 224, .int .i32 246, .int .i32 248, .int .i32 254, .int .i32 945, .int .i32 961, .int .i32 963, .int .i32 969]) (.int .i64 3)).run Try.prog w = .ok (.agg #[.int .i32 945, .int .i32 961]) w := fun _ => by kernel_rfl
theorem x4 : ∀ w : World, (Instr.index 49 (.agg #[.int .i32 97, .int .i32 122, .int .i32 224, .int .i32 246, .int .i32 248, .int .i32 254, .int .i32 945, .int .i32 961, .int .i32 963, .int .i32 969]) (.int .i64 4)).run Try.prog w = .ok (.agg #[.int .i32 963, .int .i32 969]) w := fun _ => by kernel_rfl

theorem not_small {r : Int} (h : ∀ j, j < 5 → ¬inR j r) : ¬isSmall r := by
  have h0 := h 0 (by decide)
  have h1 := h 1 (by decide)
  have h2 := h 2 (by decide)
  have h3 := h 3 (by decide)
  have h4 := h 4 (by decide)
  unfold inR at h0 h1 h2 h3 h4
  unfold isSmall
  intro hs
  rcases hs with hs | hs | hs | hs | hs
  · exact h0 hs
  · exact h1 hs
  · exact h2 hs
  · exact h3 hs
  · exact h4 hs

theorem snoc_not {k : Nat} {r : Int} (h : Hid (∀ j, j < k → ¬inR j r)) (hk : ¬inR k r) : Hid (∀ j, j < k + 1 → ¬inR j r) := by
  refine hid fun j hj => ?_
  rcases Nat.lt_or_ge j k with hl | hl
  · exact h.out j hl
  · have : j = k := by omega
    subst this
    exact hk

set_option maxHeartbeats 4000000 in
set_option maxRecDepth 100000 in
theorem small_any (r : Int) (w : World) : Calls Try.prog 25 #[.int .i32 r] w fun e w' => e = .returned (.bool (decide (isSmall r))) ∧ Fr0 w w' := by
  go_enter Try.func25, Try.ntmps25
  go_wp2_with (go_at_call 34; refine (letters_any _).mono ?_; rintro e w1 ⟨rfl, hf⟩)
  go_loopw [6] (fun i wx => ∃ k : Nat, i = .int .i64 k ∧ k ≤ 5 ∧ Hid (∀ j, j < k → ¬inR j r) ∧ Fr0 w wx)
    (fun i _ => (5 - intOf i).toNat)
  case atStart => exact ⟨0, rfl, by omega, hid (fun _ h => absurd h (Nat.not_lt_zero _)), hf⟩
  case round =>
    obtain ⟨k, rfl, hk, hn, hfx⟩ := hrel
    have hs : k = 0 ∨ k = 1 ∨ k = 2 ∨ k = 3 ∨ k = 4 ∨ k = 5 := by omega
    rcases hs with rfl | rfl | rfl | rfl | rfl | rfl
    · have x := x0
      by_cases h1 : 97 ≤ r
      · by_cases h2 : r ≤ 122
        · have hd : decide (isSmall r) = true := by
            simp only [decide_eq_true_eq]; unfold isSmall; omega
          have HD := hid hd
          clear hd hn
          go_wp2
          go_ret
          exact ⟨by rw [HD.out]; rfl, hfx.alloc _⟩
        · have hn2 := snoc_not hn (show ¬inR 0 r from (by omega : ¬(97 ≤ r ∧ r ≤ 122)))
          go_wp2
          go_roundw
          case rel => exact ⟨1, by rfl, by omega, hn2, hfx.alloc _⟩
          case measure => decide
      · have hn2 := snoc_not hn (show ¬inR 0 r from (by omega : ¬(97 ≤ r ∧ r ≤ 122)))
        go_wp2
        go_roundw
        case rel => exact ⟨1, by rfl, by omega, hn2, hfx.alloc _⟩
        case measure => decide
    · have x := x1
      by_cases h1 : 224 ≤ r
      · by_cases h2 : r ≤ 246
        · have hd : decide (isSmall r) = true := by
            simp only [decide_eq_true_eq]; unfold isSmall; omega
          have HD := hid hd
          clear hd hn
          go_wp2
          go_ret
          exact ⟨by rw [HD.out]; rfl, hfx.alloc _⟩
        · have hn2 := snoc_not hn (show ¬inR 1 r from (by omega : ¬(224 ≤ r ∧ r ≤ 246)))
          go_wp2
          go_roundw
          case rel => exact ⟨2, by rfl, by omega, hn2, hfx.alloc _⟩
          case measure => decide
      · have hn2 := snoc_not hn (show ¬inR 1 r from (by omega : ¬(224 ≤ r ∧ r ≤ 246)))
        go_wp2
        go_roundw
        case rel => exact ⟨2, by rfl, by omega, hn2, hfx.alloc _⟩
        case measure => decide
    · have x := x2
      by_cases h1 : 248 ≤ r
      · by_cases h2 : r ≤ 254
        · have hd : decide (isSmall r) = true := by
            simp only [decide_eq_true_eq]; unfold isSmall; omega
          have HD := hid hd
          clear hd hn
          go_wp2
          go_ret
          exact ⟨by rw [HD.out]; rfl, hfx.alloc _⟩
        · have hn2 := snoc_not hn (show ¬inR 2 r from (by omega : ¬(248 ≤ r ∧ r ≤ 254)))
          go_wp2
          go_roundw
          case rel => exact ⟨3, by rfl, by omega, hn2, hfx.alloc _⟩
          case measure => decide
      · have hn2 := snoc_not hn (show ¬inR 2 r from (by omega : ¬(248 ≤ r ∧ r ≤ 254)))
        go_wp2
        go_roundw
        case rel => exact ⟨3, by rfl, by omega, hn2, hfx.alloc _⟩
        case measure => decide
    · have x := x3
      by_cases h1 : 945 ≤ r
      · by_cases h2 : r ≤ 961
        · have hd : decide (isSmall r) = true := by
            simp only [decide_eq_true_eq]; unfold isSmall; omega
          have HD := hid hd
          clear hd hn
          go_wp2
          go_ret
          exact ⟨by rw [HD.out]; rfl, hfx.alloc _⟩
        · have hn2 := snoc_not hn (show ¬inR 3 r from (by omega : ¬(945 ≤ r ∧ r ≤ 961)))
          go_wp2
          go_roundw
          case rel => exact ⟨4, by rfl, by omega, hn2, hfx.alloc _⟩
          case measure => decide
      · have hn2 := snoc_not hn (show ¬inR 3 r from (by omega : ¬(945 ≤ r ∧ r ≤ 961)))
        go_wp2
        go_roundw
        case rel => exact ⟨4, by rfl, by omega, hn2, hfx.alloc _⟩
        case measure => decide
    · have x := x4
      by_cases h1 : 963 ≤ r
      · by_cases h2 : r ≤ 969
        · have hd : decide (isSmall r) = true := by
            simp only [decide_eq_true_eq]; unfold isSmall; omega
          have HD := hid hd
          clear hd hn
          go_wp2
          go_ret
          exact ⟨by rw [HD.out]; rfl, hfx.alloc _⟩
        · have hn2 := snoc_not hn (show ¬inR 4 r from (by omega : ¬(963 ≤ r ∧ r ≤ 969)))
          go_wp2
          go_roundw
          case rel => exact ⟨5, by rfl, by omega, hn2, hfx.alloc _⟩
          case measure => decide
      · have hn2 := snoc_not hn (show ¬inR 4 r from (by omega : ¬(963 ≤ r ∧ r ≤ 969)))
        go_wp2
        go_roundw
        case rel => exact ⟨5, by rfl, by omega, hn2, hfx.alloc _⟩
        case measure => decide
    · have hd : decide (isSmall r) = false := decide_eq_false (not_small hn.out)
      have HD := hid hd
      clear hd hn
      go_wp2
      go_ret
      exact ⟨by rw [HD.out]; rfl, hfx⟩
end Go.Proofs.Ythbcbnihghmniaa

/-
  fold of a rune; the document's small and fold.
-/
import Derived.Test.YthbcbnihghmniaaSmall
namespace Go.Proofs.Ythbcbnihghmniaa
open Go.RowKit

set_option maxHeartbeats 4000000 in
theorem refSmall_any (r : Int) (w : World) : Calls Try.prog 28 #[.int .i32 r] w fun e w' => e = .returned (.bool (decide (isSmall r))) ∧ w' = w := by
  have hs : (r < 97) ∨ (97 ≤ r ∧ r ≤ 122) ∨ (123 ≤ r ∧ r ≤ 223) ∨ (224 ≤ r ∧ r ≤ 246) ∨ (247 ≤ r ∧ r ≤ 247) ∨ (248 ≤ r ∧ r ≤ 254) ∨ (255 ≤ r ∧ r ≤ 944) ∨ (945 ≤ r ∧ r ≤ 961) ∨ (962 ≤ r ∧ r ≤ 962) ∨ (963 ≤ r ∧ r ≤ 969) ∨ (970 ≤ r) := by omega
  rcases hs with h1 | ⟨h1, h2⟩ | ⟨h1, h2⟩ | ⟨h1, h2⟩ | ⟨h1, h2⟩ | ⟨h1, h2⟩ | ⟨h1, h2⟩ | ⟨h1, h2⟩ | ⟨h1, h2⟩ | ⟨h1, h2⟩ | h1
  · have HD : Hid (decide (isSmall r) = false) := hid (decide_eq_false (by unfold isSmall; omega))
    have n1 : (r != 247) = true := by simp; omega
    have n2 : (r != 962) = true := by simp; omega
    go_enter Try.func28, Try.ntmps28
    go_wp2
    go_ret
    exact ⟨by rw [HD.out]; first | rfl | (simp; omega), rfl⟩
  · have HD : Hid (decide (isSmall r) = true) := hid (by simp only [decide_eq_true_eq]; unfold isSmall; omega)
    have n1 : (r != 247) = true := by simp; omega
    have n2 : (r != 962) = true := by simp; omega
    go_enter Try.func28, Try.ntmps28
    go_wp2
    go_ret
    exact ⟨by rw [HD.out]; first | rfl | (simp; omega), rfl⟩
  · have HD : Hid (decide (isSmall r) = false) := hid (decide_eq_false (by unfold isSmall; omega))
    have n1 : (r != 247) = true := by simp; omega
    have n2 : (r != 962) = true := by simp; omega
    go_enter Try.func28, Try.ntmps28
    go_wp2
    go_ret
    exact ⟨by rw [HD.out]; first | rfl | (simp; omega), rfl⟩
  · have HD : Hid (decide (isSmall r) = true) := hid (by simp only [decide_eq_true_eq]; unfold isSmall; omega)
    have n1 : (r != 247) = true := by simp; omega
    have n2 : (r != 962) = true := by simp; omega
    go_enter Try.func28, Try.ntmps28
    go_wp2
    go_ret
    exact ⟨by rw [HD.out]; first | rfl | (simp; omega), rfl⟩
  · have HD : Hid (decide (isSmall r) = false) := hid (decide_eq_false (by unfold isSmall; omega))
    have hr : r = 247 := by omega
    subst hr
    go_enter Try.func28, Try.ntmps28
    go_wp2
    go_ret
    exact ⟨by rw [HD.out]; first | rfl | (simp; omega), rfl⟩
  · have HD : Hid (decide (isSmall r) = true) := hid (by simp only [decide_eq_true_eq]; unfold isSmall; omega)
    have n1 : (r != 247) = true := by simp; omega
    have n2 : (r != 962) = true := by simp; omega
    go_enter Try.func28, Try.ntmps28
    go_wp2
    go_ret
    exact ⟨by rw [HD.out]; first | rfl | (simp; omega), rfl⟩
  · have HD : Hid (decide (isSmall r) = false) := hid (decide_eq_false (by unfold isSmall; omega))
    have n1 : (r != 247) = true := by simp; omega
    have n2 : (r != 962) = true := by simp; omega
    go_enter Try.func28, Try.ntmps28
    go_wp2
    go_ret
    exact ⟨by rw [HD.out]; first | rfl | (simp; omega), rfl⟩
  · have HD : Hid (decide (isSmall r) = true) := hid (by simp only [decide_eq_true_eq]; unfold isSmall; omega)
    have n1 : (r != 247) = true := by simp; omega
    have n2 : (r != 962) = true := by simp; omega
    go_enter Try.func28, Try.ntmps28
    go_wp2
    go_ret
    exact ⟨by rw [HD.out]; first | rfl | (simp; omega), rfl⟩
  · have HD : Hid (decide (isSmall r) = false) := hid (decide_eq_false (by unfold isSmall; omega))
    have hr : r = 962 := by omega
    subst hr
    go_enter Try.func28, Try.ntmps28
    go_wp2
    go_ret
    exact ⟨by rw [HD.out]; first | rfl | (simp; omega), rfl⟩
  · have HD : Hid (decide (isSmall r) = true) := hid (by simp only [decide_eq_true_eq]; unfold isSmall; omega)
    have n1 : (r != 247) = true := by simp; omega
    have n2 : (r != 962) = true := by simp; omega
    go_enter Try.func28, Try.ntmps28
    go_wp2
    go_ret
    exact ⟨by rw [HD.out]; first | rfl | (simp; omega), rfl⟩
  · have HD : Hid (decide (isSmall r) = false) := hid (decide_eq_false (by unfold isSmall; omega))
    have n1 : (r != 247) = true := by simp; omega
    have n2 : (r != 962) = true := by simp; omega
    go_enter Try.func28, Try.ntmps28
    go_wp2
    go_ret
    exact ⟨by rw [HD.out]; first | rfl | (simp; omega), rfl⟩

set_option maxHeartbeats 1000000 in
theorem fold_any (r : Int) (hv : Vld r) (w : World) : Calls Try.prog 26 #[.int .i32 r] w fun e w' => e = .returned (.int .i32 (fo r)) ∧ Fr0 w w' := by
  have S := small_any (r + 32)
  unfold Vld at hv
  by_cases h : isSmall (r + 32)
  · have e : fo r = r + 32 := by unfold fo; rw [if_pos h]
    rw [e]
    rw [decide_eq_true h] at S
    clear h e
    go_enter Try.func26, Try.ntmps26
    go_wp2_with (go_at_call 25; refine (S _).mono ?_; rintro e w1 ⟨rfl, hf⟩)
    go_ret
    exact ⟨by rfl, hf⟩
  · have e : fo r = r := by unfold fo; rw [if_neg h]
    rw [e]
    rw [decide_eq_false h] at S
    clear h e
    go_enter Try.func26, Try.ntmps26
    go_wp2_with (go_at_call 25; refine (S _).mono ?_; rintro e w1 ⟨rfl, hf⟩)
    go_ret
    exact ⟨by rfl, hf⟩

set_option maxHeartbeats 1000000 in
theorem refFold_any (r : Int) (hv : Vld r) (w : World) : Calls Try.prog 29 #[.int .i32 r] w fun e w' => e = .returned (.int .i32 (fo r)) ∧ w' = w := by
  have S := refSmall_any (r + 32)
  unfold Vld at hv
  by_cases h : isSmall (r + 32)
  · have e : fo r = r + 32 := by unfold fo; rw [if_pos h]
    rw [e]
    rw [decide_eq_true h] at S
    clear h e
    go_enter Try.func29, Try.ntmps29
    go_wp2_with (go_at_call 28; refine (S _).mono ?_; rintro e w1 ⟨rfl, rfl⟩)
    go_ret
    exact ⟨by rfl, rfl⟩
  · have e : fo r = r := by unfold fo; rw [if_neg h]
    rw [e]
    rw [decide_eq_false h] at S
    clear h e
    go_enter Try.func29, Try.ntmps29
    go_wp2_with (go_at_call 28; refine (S _).mono ?_; rintro e w1 ⟨rfl, rfl⟩)
    go_ret
    exact ⟨by rfl, rfl⟩
end Go.Proofs.Ythbcbnihghmniaa

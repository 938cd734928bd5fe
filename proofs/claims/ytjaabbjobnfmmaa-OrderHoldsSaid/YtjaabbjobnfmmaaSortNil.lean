/-
  slices.SortStableFunc of no calls.
-/
import Derived.Test.YtjaabbjobnfmmaaStab
namespace Go.Proofs.Ytjaabbjobnfmmaa
open Go.RowKit

set_option maxHeartbeats 1000000 in
theorem ins_nil (w : World) : Calls Try.prog 79 #[.slice none 0 0, .int .i64 0, .int .i64 0, .func (.func 55) #[] #[]] w fun e w' => e = .returned (.tuple #[]) ∧ Fr0 w w' := by
  go_enter Try.func79, Try.ntmps79
  go_wp2_with fail
  go_loopw [8] (fun a wr => a = .int .i64 1 ∧ Fr0 w wr) (fun _ _ => 0)
  case atStart => exact ⟨rfl, Fr.refl _ _⟩
  case round =>
    obtain ⟨rfl, hF⟩ := hrel
    go_wp2
    go_end0
    exact ⟨rfl, hF⟩

set_option maxHeartbeats 1000000 in
theorem stable_nil (w : World) : Calls Try.prog 73 #[.slice none 0 0, .int .i64 0, .func (.func 55) #[] #[]] w fun e w' => e = .returned (.tuple #[]) ∧ Fr0 w w' := by
  go_enter Try.func73, Try.ntmps73
  go_wp2_with fail
  go_loopw [7, 8] (fun a b wr => a = .int .i64 0 ∧ b = .int .i64 20 ∧ Fr0 w wr) (fun _ _ _ => 0)
  case atStart => exact ⟨rfl, rfl, Fr.refl _ _⟩
  case round =>
    obtain ⟨rfl, rfl, hF⟩ := hrel
    have HF := hid hF
    clear hF
    go_wp2_with fail
    refine (ins_nil _).mono ?_
    rintro e w1 ⟨rfl, hf1⟩
    have HG := hid (HF.out.trans0 hf1)
    clear hf1 HF
    go_wp2_with fail
    go_loopw [6] (fun a wr => a = .int .i64 20 ∧ Fr0 w wr) (fun _ _ => 0)
    case atStart => exact ⟨rfl, HG.out⟩
    case round =>
      obtain ⟨rfl, hF⟩ := hrel
      go_wp2
      go_end0
      exact ⟨rfl, hF⟩

theorem sort_nil (w : World) : Calls Try.prog 54 #[.slice none 0 0, .func (.func 55) #[] #[]] w fun e w' => e = .returned (.tuple #[]) ∧ Fr0 w w' := by
  have H := stable_nil w
  go_enter Try.func54, Try.ntmps54
  go_wp2_with fail
  refine H.mono ?_
  rintro e w1 ⟨rfl, hE⟩
  clear H
  go_wp2
  go_end0
  exact ⟨rfl, hE⟩
end Go.Proofs.Ytjaabbjobnfmmaa

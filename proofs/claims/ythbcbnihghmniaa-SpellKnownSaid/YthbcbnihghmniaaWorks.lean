/-
  The law's own helper 'works' of layer 1 returns true.
-/
import Derived.Test.YthbcbnihghmniaaRefC
import Derived.Test.YthbcbnihghmniaaRefF
import Derived.Test.YthbcbnihghmniaaLess
namespace Go.Proofs.Ythbcbnihghmniaa
open Go.RowKit

theorem check_at (s : ByteArray) (v : Int) (h : chk (rn s) = v) (hs : s.size ≤ 17592186044416) (w : World) : Calls Try.prog 10 #[.string s] w fun e w' => e = .returned (.int .i64 v) ∧ Fr0 w w' := by
  rw [← h]; exact check_any s w hs
theorem fold_at (s t : ByteArray) (h : foldS s = t) (hs : s.size ≤ 17592186044416) (w : World) : Calls Try.prog 14 #[.string s] w fun e w' => e = .returned (.string t) ∧ Fr0 w w' := by
  rw [← h]; exact foldS_any s w hs
theorem same_at (a b : ByteArray) (h : foldS a = foldS b) (ha : a.size ≤ 17592186044416) (hb : b.size ≤ 17592186044416) (w : World) : Calls Try.prog 17 #[.string a, .string b] w fun e w' => e = .returned (.bool true) ∧ Fr0 w w' := by
  have := same_any a b w ha hb
  rw [h, beq_self_eq_true] at this
  exact this
theorem less_at (a b : ByteArray) (v : Bool) (h : lessB a b = v) (ha : a.size ≤ 17592186044416) (hb : b.size ≤ 17592186044416) (w : World) : Calls Try.prog 19 #[.string a, .string b] w fun e w' => e = .returned (.bool v) ∧ Fr0 w w' := by
  rw [← h]; exact less_any a b w ha hb
theorem cut_at (s t : ByteArray) (n : Int) (hn : n ≤ 9223372036854775807) (h : cutS s n = t) (hs : s.size ≤ 17592186044416) (w : World) : Calls Try.prog 21 #[.string s, .int .i64 n] w fun e w' => e = .returned (.string t) ∧ Fr0 w w' := by
  rw [← h]; exact cutS_any s n hn w hs
theorem runesN_at (s : ByteArray) (v : Int) (h : ((rn s).length : Int) = v) (hs : s.size ≤ 17592186044416) (w : World) : Calls Try.prog 12 #[.string s] w fun e w' => e = .returned (.int .i64 v) ∧ Fr0 w w' := by
  rw [← h]; exact runesN_any s w (by omega)

theorem kc0 (w : World) : Calls Try.prog 10 #[.string ⟨#[105, 110, 111, 100, 101]⟩] w fun e w' => e = .returned (.int .i64 0) ∧ Fr0 w w' := check_at _ _ (by decide +kernel) (by decide +kernel) w
theorem kc1 (w : World) : Calls Try.prog 10 #[.string ⟨#[195, 132, 114, 103, 101, 114, 45, 50]⟩] w fun e w' => e = .returned (.int .i64 0) ∧ Fr0 w w' := check_at _ _ (by decide +kernel) (by decide +kernel) w
theorem kc2 (w : World) : Calls Try.prog 10 #[.string ⟨#[50, 98]⟩] w fun e w' => e = .returned (.int .i64 10) ∧ Fr0 w w' := check_at _ _ (by decide +kernel) (by decide +kernel) w
theorem kc3 (w : World) : Calls Try.prog 10 #[.string ⟨#[]⟩] w fun e w' => e = .returned (.int .i64 10) ∧ Fr0 w w' := check_at _ _ (by decide +kernel) (by decide +kernel) w
theorem kc4 (w : World) : Calls Try.prog 10 #[.string ⟨#[97, 32, 98]⟩] w fun e w' => e = .returned (.int .i64 10) ∧ Fr0 w w' := check_at _ _ (by decide +kernel) (by decide +kernel) w
theorem kc5 (w : World) : Calls Try.prog 10 #[.string ⟨#[207, 130, 120]⟩] w fun e w' => e = .returned (.int .i64 10) ∧ Fr0 w w' := check_at _ _ (by decide +kernel) (by decide +kernel) w
theorem kf0 (w : World) : Calls Try.prog 14 #[.string ⟨#[195, 132, 66, 95, 206, 169]⟩] w fun e w' => e = .returned (.string ⟨#[195, 164, 98, 95, 207, 137]⟩) ∧ Fr0 w w' := fold_at _ _ (by decide +kernel) (by decide +kernel) w
theorem kf1 (w : World) : Calls Try.prog 14 #[.string ⟨#[255]⟩] w fun e w' => e = .returned (.string ⟨#[239, 191, 189]⟩) ∧ Fr0 w w' := fold_at _ _ (by decide +kernel) (by decide +kernel) w
theorem ks (w : World) : Calls Try.prog 17 #[.string ⟨#[75, 101, 114, 110, 101, 108]⟩, .string ⟨#[107, 69, 82, 78, 69, 76]⟩] w fun e w' => e = .returned (.bool true) ∧ Fr0 w w' := same_at _ _ (by decide +kernel) (by decide +kernel) (by decide +kernel) w
theorem kl0 (w : World) : Calls Try.prog 19 #[.string ⟨#[97]⟩, .string ⟨#[66]⟩] w fun e w' => e = .returned (.bool true) ∧ Fr0 w w' := less_at _ _ _ (by decide +kernel) (by decide +kernel) (by decide +kernel) w
theorem kl1 (w : World) : Calls Try.prog 19 #[.string ⟨#[97, 98]⟩, .string ⟨#[97]⟩] w fun e w' => e = .returned (.bool false) ∧ Fr0 w w' := less_at _ _ _ (by decide +kernel) (by decide +kernel) (by decide +kernel) w
theorem kt (w : World) : Calls Try.prog 21 #[.string ⟨#[195, 164, 195, 182, 195, 188]⟩, .int .i64 2] w fun e w' => e = .returned (.string ⟨#[195, 164, 195, 182]⟩) ∧ Fr0 w w' := cut_at _ _ _ (by decide) (by decide +kernel) (by decide +kernel) w
theorem kr (w : World) : Calls Try.prog 12 #[.string ⟨#[195, 164, 195, 182, 195, 188]⟩] w fun e w' => e = .returned (.int .i64 3) ∧ Fr0 w w' := runesN_at _ _ (by decide +kernel) (by decide +kernel) w

set_option maxHeartbeats 8000000 in
theorem works_any (w : World) : Calls Try.prog 16 #[] w fun e w' => e = .returned (.bool true) ∧ Fr0 w w' := by
  have hf : Fr0 w w := Fr.refl _ _
  go_enter Try.func16, Try.ntmps16
  go_wp2_with (fail)
  refine (kc0 _).mono ?_; rintro e w' ⟨rfl, hf'⟩; replace hf := hf.trans0 hf'; clear hf'
  go_wp2_with (fail)
  refine (kc1 _).mono ?_; rintro e w' ⟨rfl, hf'⟩; replace hf := hf.trans0 hf'; clear hf'
  go_wp2_with (fail)
  refine (kc2 _).mono ?_; rintro e w' ⟨rfl, hf'⟩; replace hf := hf.trans0 hf'; clear hf'
  go_wp2_with (fail)
  refine (kc3 _).mono ?_; rintro e w' ⟨rfl, hf'⟩; replace hf := hf.trans0 hf'; clear hf'
  go_wp2_with (fail)
  refine (kc4 _).mono ?_; rintro e w' ⟨rfl, hf'⟩; replace hf := hf.trans0 hf'; clear hf'
  go_wp2_with (fail)
  refine (kc5 _).mono ?_; rintro e w' ⟨rfl, hf'⟩; replace hf := hf.trans0 hf'; clear hf'
  go_wp2_with (fail)
  refine (kf0 _).mono ?_; rintro e w' ⟨rfl, hf'⟩; replace hf := hf.trans0 hf'; clear hf'
  go_wp2_with (fail)
  refine (kf1 _).mono ?_; rintro e w' ⟨rfl, hf'⟩; replace hf := hf.trans0 hf'; clear hf'
  go_wp2_with (fail)
  refine (ks _).mono ?_; rintro e w' ⟨rfl, hf'⟩; replace hf := hf.trans0 hf'; clear hf'
  go_wp2_with (fail)
  refine (kl0 _).mono ?_; rintro e w' ⟨rfl, hf'⟩; replace hf := hf.trans0 hf'; clear hf'
  go_wp2_with (fail)
  refine (kl1 _).mono ?_; rintro e w' ⟨rfl, hf'⟩; replace hf := hf.trans0 hf'; clear hf'
  go_wp2_with (fail)
  refine (kt _).mono ?_; rintro e w' ⟨rfl, hf'⟩; replace hf := hf.trans0 hf'; clear hf'
  go_wp2_with (fail)
  refine (kr _).mono ?_; rintro e w' ⟨rfl, hf'⟩; replace hf := hf.trans0 hf'; clear hf'
  go_wp2_with (fail)
  go_ret
  exact ⟨by rfl, hf⟩
end Go.Proofs.Ythbcbnihghmniaa

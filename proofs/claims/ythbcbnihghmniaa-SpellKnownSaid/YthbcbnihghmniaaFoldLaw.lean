/-
  The walk of SpellFold.
-/
import Derived.Test.YthbcbnihghmniaaGreat
namespace Go.Proofs.Ythbcbnihghmniaa
open Go.RowKit

theorem same_yes (a b : ByteArray) (h : foldS a = foldS b) (ha : a.size ≤ 17592186044416) (hb : b.size ≤ 17592186044416) (w : World) : Calls Try.prog 17 #[.string a, .string b] w fun e w' => e = .returned (.bool true) ∧ Fr0 w w' := same_at a b h ha hb w

set_option maxHeartbeats 4000000 in
theorem foldLaw_any (s : ByteArray) (hs : s.size ≤ 1048576) (w : World) : Calls Try.prog 6 #[.string s] w fun e w' => e = .returned (.bool true) ∧ Fr0 w w' := by
  have hf : Fr0 w w := Fr.refl _ _
  have s1 := fold_size s
  have s2 := great_size s
  have A := fun W => foldS_any s W (by omega)
  have G := fun W => great_any s W (by omega)
  have A2 := fun W => foldS_any (foldS s) W (by omega)
  rw [fold_fold] at A2
  have S1 := fun W => same_yes s (foldS s) (fold_fold s).symm (by omega) (by omega) W
  have S2 := fun W => same_yes (greatS s) s (fold_great s) (by omega) (by omega) W
  have A3 := fun W => foldS_any (greatS s) W (by omega)
  rw [fold_great] at A3
  have C0 := fun W => check_any s W (by omega)
  have C1 := fun W => check_any (foldS s) W (by omega)
  rw [rn_fold, chk_map fo good_fo] at C1
  have C2 := fun W => check_any (greatS s) W (by omega)
  rw [rn_great, chk_map gr good_gr] at C2
  have R0 := fun W => runesN_any s W (by omega)
  have R1 := fun W => runesN_any (foldS s) W (by omega)
  rw [rn_fold, List.length_map] at R1
  generalize chk (rn s) = c at *
  generalize (rn s).length = n at *
  generalize foldS s = t at *
  generalize greatS s = g at *
  go_enter Try.func6, Try.ntmps6
  go_wp2_with (fail)
  refine (works_any _).mono ?_; rintro e w' ⟨rfl, hf'⟩; replace hf := hf.trans0 hf'; clear hf'
  go_wp2_with (fail)
  refine (A _).mono ?_; rintro e w' ⟨rfl, hf'⟩; replace hf := hf.trans0 hf'; clear hf'
  go_wp2_with (fail)
  refine (G _).mono ?_; rintro e w' ⟨rfl, hf'⟩; replace hf := hf.trans0 hf'; clear hf'
  go_wp2_with (fail)
  refine (A2 _).mono ?_; rintro e w' ⟨rfl, hf'⟩; replace hf := hf.trans0 hf'; clear hf'
  go_wp2_with (fail)
  refine (S1 _).mono ?_; rintro e w' ⟨rfl, hf'⟩; replace hf := hf.trans0 hf'; clear hf'
  go_wp2_with (fail)
  refine (S2 _).mono ?_; rintro e w' ⟨rfl, hf'⟩; replace hf := hf.trans0 hf'; clear hf'
  go_wp2_with (fail)
  refine (A3 _).mono ?_; rintro e w' ⟨rfl, hf'⟩; replace hf := hf.trans0 hf'; clear hf'
  go_wp2_with (fail)
  refine (C1 _).mono ?_; rintro e w' ⟨rfl, hf'⟩; replace hf := hf.trans0 hf'; clear hf'
  go_wp2_with (fail)
  refine (C0 _).mono ?_; rintro e w' ⟨rfl, hf'⟩; replace hf := hf.trans0 hf'; clear hf'
  go_wp2_with (fail)
  refine (C2 _).mono ?_; rintro e w' ⟨rfl, hf'⟩; replace hf := hf.trans0 hf'; clear hf'
  go_wp2_with (fail)
  refine (C0 _).mono ?_; rintro e w' ⟨rfl, hf'⟩; replace hf := hf.trans0 hf'; clear hf'
  go_wp2_with (fail)
  refine (R1 _).mono ?_; rintro e w' ⟨rfl, hf'⟩; replace hf := hf.trans0 hf'; clear hf'
  go_wp2_with (fail)
  refine (R0 _).mono ?_; rintro e w' ⟨rfl, hf'⟩; replace hf := hf.trans0 hf'; clear hf'
  go_wp2_with (fail)
  go_ret
  exact ⟨by rfl, hf⟩
end Go.Proofs.Ythbcbnihghmniaa

/-
  The walks of SizesFit, SizesSpecs and SizesKnown.
-/
import Derived.Test.YtodcmamihnlbeaaLaws
namespace Go.Proofs.Ytodcmamihnlbeaa
open Go.RowKit

set_option maxHeartbeats 800000 in
theorem bring512 (a : Int) (w : World) : Calls Try.prog 16 #[.int .i64 a, .int .i64 512] w fun e w' => e = .returned (.int .i64 (brg a 512)) ∧ w = w' := by
  have h1 := Int.tmod_lt_of_pos a (show (0:Int) < 512 by decide)
  have h2 := Int.lt_tmod_of_pos a (show (0:Int) < 512 by decide)
  by_cases h : a.tmod 512 < 0
  · have hb : brg a 512 = a.tmod 512 + 512 := by simp [brg, h]
    rw [hb]
    clear hb
    go_enter Try.func16, Try.ntmps16
    go_wp2
    go_ret
    exact ⟨by rfl, rfl⟩
  · have hb : brg a 512 = a.tmod 512 := by simp [brg, h]
    rw [hb]
    clear hb
    go_enter Try.func16, Try.ntmps16
    go_wp2
    go_ret
    exact ⟨by rfl, rfl⟩

set_option maxHeartbeats 800000 in
theorem bring10 (a : Int) (w : World) : Calls Try.prog 16 #[.int .i64 a, .int .i64 10] w fun e w' => e = .returned (.int .i64 (brg a 10)) ∧ w = w' := by
  have h1 := Int.tmod_lt_of_pos a (show (0:Int) < 10 by decide)
  have h2 := Int.lt_tmod_of_pos a (show (0:Int) < 10 by decide)
  by_cases h : a.tmod 10 < 0
  · have hb : brg a 10 = a.tmod 10 + 10 := by simp [brg, h]
    rw [hb]
    clear hb
    go_enter Try.func16, Try.ntmps16
    go_wp2
    go_ret
    exact ⟨by rfl, rfl⟩
  · have hb : brg a 10 = a.tmod 10 := by simp [brg, h]
    rw [hb]
    clear hb
    go_enter Try.func16, Try.ntmps16
    go_wp2
    go_ret
    exact ⟨by rfl, rfl⟩

/-- What SizesFit asks of one number. -/
theorem fit_one (a : Int) (h1 : 1 ≤ a) (h2 : a ≤ 512) : szE (cls a) = 0 ∧ a ≤ szV (cls a) ∧ szV (cls a) ≤ 512 ∧ 8 ≤ szV (cls a) ∧ (8 < szV (cls a) → 2 * (szV (cls a) - a) < szV (cls a)) ∧
    (0 < cls a → szE (cls a - 1) = 0 ∧ szV (cls a - 1) < a) ∧ cls (szV (cls a)) = cls a ∧ clE (szV (cls a)) = 0 := by
  have h3 : ¬a < 1 := by omega
  have h4 : ¬512 < a := by omega
  have hs : (1 ≤ a ∧ a ≤ 8) ∨ (9 ≤ a ∧ a ≤ 16) ∨ (17 ≤ a ∧ a ≤ 32) ∨ (33 ≤ a ∧ a ≤ 48) ∨ (49 ≤ a ∧ a ≤ 64) ∨ (65 ≤ a ∧ a ≤ 96) ∨ (97 ≤ a ∧ a ≤ 128) ∨ (129 ≤ a ∧ a ≤ 192) ∨ (193 ≤ a ∧ a ≤ 256) ∨ (257 ≤ a ∧ a ≤ 512) := by omega
  clear h1 h2
  rcases hs with ⟨h1, h2⟩ | ⟨h1, h2⟩ | ⟨h1, h2⟩ | ⟨h1, h2⟩ | ⟨h1, h2⟩ | ⟨h1, h2⟩ | ⟨h1, h2⟩ | ⟨h1, h2⟩ | ⟨h1, h2⟩ | ⟨h1, h2⟩
  · have h : cls a = 0 := by simp only [cls, h3, h4, h2, if_true, if_false]
    have e : szV 0 = 8 := by decide
    rw [h, e]
    exact ⟨by decide, by omega, by decide, by decide, fun _ => by omega, fun h => absurd h (by decide), by decide, by decide⟩
  · have g0 : ¬a ≤ 8 := by omega
    have h : cls a = 1 := by simp only [cls, h3, h4, g0, h2, if_true, if_false]
    have e : szV 1 = 16 := by decide
    rw [h, e]
    have e1 : szV (1 - 1) = 8 := by decide
    rw [e1]
    exact ⟨by decide, by omega, by decide, by decide, fun _ => by omega, fun _ => ⟨by decide, by omega⟩, by decide, by decide⟩
  · have g0 : ¬a ≤ 8 := by omega
    have g1 : ¬a ≤ 16 := by omega
    have h : cls a = 2 := by simp only [cls, h3, h4, g0, g1, h2, if_true, if_false]
    have e : szV 2 = 32 := by decide
    rw [h, e]
    have e1 : szV (2 - 1) = 16 := by decide
    rw [e1]
    exact ⟨by decide, by omega, by decide, by decide, fun _ => by omega, fun _ => ⟨by decide, by omega⟩, by decide, by decide⟩
  · have g0 : ¬a ≤ 8 := by omega
    have g1 : ¬a ≤ 16 := by omega
    have g2 : ¬a ≤ 32 := by omega
    have h : cls a = 3 := by simp only [cls, h3, h4, g0, g1, g2, h2, if_true, if_false]
    have e : szV 3 = 48 := by decide
    rw [h, e]
    have e1 : szV (3 - 1) = 32 := by decide
    rw [e1]
    exact ⟨by decide, by omega, by decide, by decide, fun _ => by omega, fun _ => ⟨by decide, by omega⟩, by decide, by decide⟩
  · have g0 : ¬a ≤ 8 := by omega
    have g1 : ¬a ≤ 16 := by omega
    have g2 : ¬a ≤ 32 := by omega
    have g3 : ¬a ≤ 48 := by omega
    have h : cls a = 4 := by simp only [cls, h3, h4, g0, g1, g2, g3, h2, if_true, if_false]
    have e : szV 4 = 64 := by decide
    rw [h, e]
    have e1 : szV (4 - 1) = 48 := by decide
    rw [e1]
    exact ⟨by decide, by omega, by decide, by decide, fun _ => by omega, fun _ => ⟨by decide, by omega⟩, by decide, by decide⟩
  · have g0 : ¬a ≤ 8 := by omega
    have g1 : ¬a ≤ 16 := by omega
    have g2 : ¬a ≤ 32 := by omega
    have g3 : ¬a ≤ 48 := by omega
    have g4 : ¬a ≤ 64 := by omega
    have h : cls a = 5 := by simp only [cls, h3, h4, g0, g1, g2, g3, g4, h2, if_true, if_false]
    have e : szV 5 = 96 := by decide
    rw [h, e]
    have e1 : szV (5 - 1) = 64 := by decide
    rw [e1]
    exact ⟨by decide, by omega, by decide, by decide, fun _ => by omega, fun _ => ⟨by decide, by omega⟩, by decide, by decide⟩
  · have g0 : ¬a ≤ 8 := by omega
    have g1 : ¬a ≤ 16 := by omega
    have g2 : ¬a ≤ 32 := by omega
    have g3 : ¬a ≤ 48 := by omega
    have g4 : ¬a ≤ 64 := by omega
    have g5 : ¬a ≤ 96 := by omega
    have h : cls a = 6 := by simp only [cls, h3, h4, g0, g1, g2, g3, g4, g5, h2, if_true, if_false]
    have e : szV 6 = 128 := by decide
    rw [h, e]
    have e1 : szV (6 - 1) = 96 := by decide
    rw [e1]
    exact ⟨by decide, by omega, by decide, by decide, fun _ => by omega, fun _ => ⟨by decide, by omega⟩, by decide, by decide⟩
  · have g0 : ¬a ≤ 8 := by omega
    have g1 : ¬a ≤ 16 := by omega
    have g2 : ¬a ≤ 32 := by omega
    have g3 : ¬a ≤ 48 := by omega
    have g4 : ¬a ≤ 64 := by omega
    have g5 : ¬a ≤ 96 := by omega
    have g6 : ¬a ≤ 128 := by omega
    have h : cls a = 7 := by simp only [cls, h3, h4, g0, g1, g2, g3, g4, g5, g6, h2, if_true, if_false]
    have e : szV 7 = 192 := by decide
    rw [h, e]
    have e1 : szV (7 - 1) = 128 := by decide
    rw [e1]
    exact ⟨by decide, by omega, by decide, by decide, fun _ => by omega, fun _ => ⟨by decide, by omega⟩, by decide, by decide⟩
  · have g0 : ¬a ≤ 8 := by omega
    have g1 : ¬a ≤ 16 := by omega
    have g2 : ¬a ≤ 32 := by omega
    have g3 : ¬a ≤ 48 := by omega
    have g4 : ¬a ≤ 64 := by omega
    have g5 : ¬a ≤ 96 := by omega
    have g6 : ¬a ≤ 128 := by omega
    have g7 : ¬a ≤ 192 := by omega
    have h : cls a = 8 := by simp only [cls, h3, h4, g0, g1, g2, g3, g4, g5, g6, g7, h2, if_true, if_false]
    have e : szV 8 = 256 := by decide
    rw [h, e]
    have e1 : szV (8 - 1) = 192 := by decide
    rw [e1]
    exact ⟨by decide, by omega, by decide, by decide, fun _ => by omega, fun _ => ⟨by decide, by omega⟩, by decide, by decide⟩
  · have g0 : ¬a ≤ 8 := by omega
    have g1 : ¬a ≤ 16 := by omega
    have g2 : ¬a ≤ 32 := by omega
    have g3 : ¬a ≤ 48 := by omega
    have g4 : ¬a ≤ 64 := by omega
    have g5 : ¬a ≤ 96 := by omega
    have g6 : ¬a ≤ 128 := by omega
    have g7 : ¬a ≤ 192 := by omega
    have g8 : ¬a ≤ 256 := by omega
    have h : cls a = 9 := by simp only [cls, h3, h4, g0, g1, g2, g3, g4, g5, g6, g7, g8, if_true, if_false]
    have e : szV 9 = 512 := by decide
    rw [h, e]
    have e1 : szV (9 - 1) = 256 := by decide
    rw [e1]
    exact ⟨by decide, by omega, by decide, by decide, fun _ => by omega, fun _ => ⟨by decide, by omega⟩, by decide, by decide⟩

theorem cls_mono (a b : Int) (h1 : 1 ≤ a) (hb : b ≤ 512) (h : a ≤ b) : cls a ≤ cls b := by
  have rb := cls_range b
  have h3 : ¬a < 1 := by omega
  have h4 : ¬512 < a := by omega
  have h5 : ¬b < 1 := by omega
  have h6 : ¬512 < b := by omega
  clear h1 hb
  by_cases g0 : a ≤ 8
  · have e : cls a = 0 := by simp only [cls, h3, h4, g0, if_true, if_false]
    rw [e]
    simp only [cls, h5, h6, if_false]
    clear e rb
    repeat' split
    all_goals decide
  by_cases g1 : a ≤ 16
  · have e : cls a = 1 := by simp only [cls, h3, h4, g0, g1, if_true, if_false]
    have k0 : ¬b ≤ 8 := by omega
    rw [e]
    simp only [cls, h5, h6, k0, if_false]
    clear e rb
    repeat' split
    all_goals decide
  by_cases g2 : a ≤ 32
  · have e : cls a = 2 := by simp only [cls, h3, h4, g0, g1, g2, if_true, if_false]
    have k0 : ¬b ≤ 8 := by omega
    have k1 : ¬b ≤ 16 := by omega
    rw [e]
    simp only [cls, h5, h6, k0, k1, if_false]
    clear e rb
    repeat' split
    all_goals decide
  by_cases g3 : a ≤ 48
  · have e : cls a = 3 := by simp only [cls, h3, h4, g0, g1, g2, g3, if_true, if_false]
    have k0 : ¬b ≤ 8 := by omega
    have k1 : ¬b ≤ 16 := by omega
    have k2 : ¬b ≤ 32 := by omega
    rw [e]
    simp only [cls, h5, h6, k0, k1, k2, if_false]
    clear e rb
    repeat' split
    all_goals decide
  by_cases g4 : a ≤ 64
  · have e : cls a = 4 := by simp only [cls, h3, h4, g0, g1, g2, g3, g4, if_true, if_false]
    have k0 : ¬b ≤ 8 := by omega
    have k1 : ¬b ≤ 16 := by omega
    have k2 : ¬b ≤ 32 := by omega
    have k3 : ¬b ≤ 48 := by omega
    rw [e]
    simp only [cls, h5, h6, k0, k1, k2, k3, if_false]
    clear e rb
    repeat' split
    all_goals decide
  by_cases g5 : a ≤ 96
  · have e : cls a = 5 := by simp only [cls, h3, h4, g0, g1, g2, g3, g4, g5, if_true, if_false]
    have k0 : ¬b ≤ 8 := by omega
    have k1 : ¬b ≤ 16 := by omega
    have k2 : ¬b ≤ 32 := by omega
    have k3 : ¬b ≤ 48 := by omega
    have k4 : ¬b ≤ 64 := by omega
    rw [e]
    simp only [cls, h5, h6, k0, k1, k2, k3, k4, if_false]
    clear e rb
    repeat' split
    all_goals decide
  by_cases g6 : a ≤ 128
  · have e : cls a = 6 := by simp only [cls, h3, h4, g0, g1, g2, g3, g4, g5, g6, if_true, if_false]
    have k0 : ¬b ≤ 8 := by omega
    have k1 : ¬b ≤ 16 := by omega
    have k2 : ¬b ≤ 32 := by omega
    have k3 : ¬b ≤ 48 := by omega
    have k4 : ¬b ≤ 64 := by omega
    have k5 : ¬b ≤ 96 := by omega
    rw [e]
    simp only [cls, h5, h6, k0, k1, k2, k3, k4, k5, if_false]
    clear e rb
    repeat' split
    all_goals decide
  by_cases g7 : a ≤ 192
  · have e : cls a = 7 := by simp only [cls, h3, h4, g0, g1, g2, g3, g4, g5, g6, g7, if_true, if_false]
    have k0 : ¬b ≤ 8 := by omega
    have k1 : ¬b ≤ 16 := by omega
    have k2 : ¬b ≤ 32 := by omega
    have k3 : ¬b ≤ 48 := by omega
    have k4 : ¬b ≤ 64 := by omega
    have k5 : ¬b ≤ 96 := by omega
    have k6 : ¬b ≤ 128 := by omega
    rw [e]
    simp only [cls, h5, h6, k0, k1, k2, k3, k4, k5, k6, if_false]
    clear e rb
    repeat' split
    all_goals decide
  by_cases g8 : a ≤ 256
  · have e : cls a = 8 := by simp only [cls, h3, h4, g0, g1, g2, g3, g4, g5, g6, g7, g8, if_true, if_false]
    have k0 : ¬b ≤ 8 := by omega
    have k1 : ¬b ≤ 16 := by omega
    have k2 : ¬b ≤ 32 := by omega
    have k3 : ¬b ≤ 48 := by omega
    have k4 : ¬b ≤ 64 := by omega
    have k5 : ¬b ≤ 96 := by omega
    have k6 : ¬b ≤ 128 := by omega
    have k7 : ¬b ≤ 192 := by omega
    rw [e]
    simp only [cls, h5, h6, k0, k1, k2, k3, k4, k5, k6, k7, if_false]
    clear e rb
    repeat' split
    all_goals decide
  · have k8 : ¬b ≤ 256 := by omega
    have k0 : ¬b ≤ 8 := by omega
    have k1 : ¬b ≤ 16 := by omega
    have k2 : ¬b ≤ 32 := by omega
    have k3 : ¬b ≤ 48 := by omega
    have k4 : ¬b ≤ 64 := by omega
    have k5 : ¬b ≤ 96 := by omega
    have k6 : ¬b ≤ 128 := by omega
    have k7 : ¬b ≤ 192 := by omega
    have e : cls b = 9 := by simp only [cls, h5, h6, k0, k1, k2, k3, k4, k5, k6, k7, k8, if_false]
    have ra := cls_range a
    omega

end Go.Proofs.Ytodcmamihnlbeaa

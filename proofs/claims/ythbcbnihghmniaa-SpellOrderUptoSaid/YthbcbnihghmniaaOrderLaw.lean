/-
  The plain law of SpellOrder, and its walk.
-/
import Derived.Test.YthbcbnihghmniaaGreat
namespace Go.Proofs.Ythbcbnihghmniaa
open Go.RowKit

theorem cmpL_swap : ∀ X Y : List Int, cmpL Y X = -cmpL X Y
  | [], [] => by simp [cmpL]
  | [], _ :: _ => by simp [cmpL]
  | _ :: _, [] => by simp [cmpL]
  | x :: X, y :: Y => by
    have ih := cmpL_swap X Y
    simp only [cmpL]
    by_cases h1 : x < y
    · have h2 : ¬y < x := by omega
      simp [h1, h2]
    · by_cases h2 : y < x
      · simp [h1, h2]
      · simp only [h1, h2, if_false]
        exact ih

theorem cmpL_zero : ∀ X Y : List Int, cmpL X Y = 0 ↔ X = Y
  | [], [] => by simp [cmpL]
  | [], _ :: _ => by simp [cmpL]
  | _ :: _, [] => by simp [cmpL]
  | x :: X, y :: Y => by
    have ih := cmpL_zero X Y
    simp only [cmpL]
    by_cases h1 : x < y
    · have hne : x ≠ y := by omega
      simp [h1, hne]
    · by_cases h2 : y < x
      · have hne : x ≠ y := by omega
        simp [h1, h2, hne]
      · have he : x = y := by omega
        simp only [h1, h2, if_false, ih]
        simp [he]

theorem cmpL_trans : ∀ X Y Z : List Int, cmpL X Y < 0 → cmpL Y Z < 0 → cmpL X Z < 0
  | [], [], _ => by simp [cmpL]
  | [], _ :: _, [] => by simp [cmpL]
  | [], _ :: _, _ :: _ => by simp [cmpL]
  | _ :: _, [], _ => by simp [cmpL]
  | _ :: _, _ :: _, [] => by simp [cmpL]
  | x :: X, y :: Y, z :: Z => by
    have ih := cmpL_trans X Y Z
    simp only [cmpL]
    intro h1 h2
    by_cases a1 : x < y
    · by_cases b1 : y < z
      · rw [if_pos (by omega)]
        decide
      · by_cases b2 : z < y
        · simp [b1, b2] at h2
        · rw [if_pos (by omega)]
          decide
    · by_cases a2 : y < x
      · simp [a1, a2] at h1
      · by_cases b1 : y < z
        · rw [if_pos (by omega)]
          decide
        · by_cases b2 : z < y
          · simp [b1, b2] at h2
          · rw [if_neg (by omega), if_neg (by omega)]
            simp only [a1, a2, if_false] at h1
            simp only [b1, b2, if_false] at h2
            exact ih h1 h2

theorem enc_inj {X Y : List Int} (hX : ∀ r ∈ X, Vld r) (hY : ∀ r ∈ Y, Vld r) (h : enc X = enc Y) : X = Y := by
  rw [← rn_enc X hX, ← rn_enc Y hY, h]

theorem same_eq (a b : ByteArray) : ((foldS a).toList == (foldS b).toList) = decide ((rn a).map fo = (rn b).map fo) := by
  rw [ByteArray.toList_eq, ByteArray.toList_eq]
  have ea : (foldS a).data.toList = enc ((rn a).map fo) := by simp [foldS]
  have eb : (foldS b).data.toList = enc ((rn b).map fo) := by simp [foldS]
  rw [ea, eb, Bool.eq_iff_iff, beq_iff_eq, decide_eq_true_eq]
  exact ⟨fun h => enc_inj (map_vld (rn_vld a)) (map_vld (rn_vld b)) h, fun h => by rw [h]⟩

theorem one_a (w : World) : Calls Try.prog 24 #[.bool true, .bool false, .bool false] w fun e w' => e = .returned (.bool true) ∧ Fr0 w w' := by
  go_enter Try.func24, Try.ntmps24
  go_wp2
  go_ret
  exact ⟨by rfl, Fr.refl _ _⟩
theorem one_b (w : World) : Calls Try.prog 24 #[.bool false, .bool true, .bool false] w fun e w' => e = .returned (.bool true) ∧ Fr0 w w' := by
  go_enter Try.func24, Try.ntmps24
  go_wp2
  go_ret
  exact ⟨by rfl, Fr.refl _ _⟩
theorem one_c (w : World) : Calls Try.prog 24 #[.bool false, .bool false, .bool true] w fun e w' => e = .returned (.bool true) ∧ Fr0 w w' := by
  go_enter Try.func24, Try.ntmps24
  go_wp2
  go_ret
  exact ⟨by rfl, Fr.refl _ _⟩

set_option maxHeartbeats 16000000 in
theorem orderLaw_any (a b c : ByteArray) (ha : a.size ≤ 1048576) (hb : b.size ≤ 1048576) (hc : c.size ≤ 1048576) (w : World) :
    Calls Try.prog 7 #[.string a, .string b, .string c] w fun e w' => e = .returned (.bool true) ∧ Fr0 w w' := by
  have hf : Fr0 w w := Fr.refl _ _
  have Lab := fun W => less_any a b W (by omega) (by omega)
  have Lba := fun W => less_any b a W (by omega) (by omega)
  have Laa := fun W => less_any a a W (by omega) (by omega)
  have Lbc := fun W => less_any b c W (by omega) (by omega)
  have Lac := fun W => less_any a c W (by omega) (by omega)
  have Sab := fun W => same_any a b W (by omega) (by omega)
  have Saa := fun W => same_any a a W (by omega) (by omega)
  rw [same_eq] at Sab Saa
  unfold lessB at Lab Lba Laa Lbc Lac
  have e1 := cmpL_swap ((rn a).map fo) ((rn b).map fo)
  have e2 := cmpL_zero ((rn a).map fo) ((rn b).map fo)
  have e3 := (cmpL_zero ((rn a).map fo) ((rn a).map fo)).2 rfl
  have e4 := cmpL_trans ((rn a).map fo) ((rn b).map fo) ((rn c).map fo)
  generalize (rn a).map fo = X at *
  generalize (rn b).map fo = Y at *
  generalize (rn c).map fo = Z at *
  rw [e3, show decide ((0 : Int) < 0) = false from rfl] at Laa
  rw [decide_eq_true rfl] at Saa
  rw [e1] at Lba
  have hcs : cmpL X Y < 0 ∨ 0 < cmpL X Y ∨ cmpL X Y = 0 := by omega
  rcases hcs with hx | hx | hx
  · have hne : ¬X = Y := fun h => by have := e2.2 h; omega
    rw [decide_eq_true hx] at Lab
    rw [decide_eq_false (by omega)] at Lba
    rw [decide_eq_false hne] at Sab
    by_cases hp : cmpL Y Z < 0
    · rw [decide_eq_true hp] at Lbc
      rw [decide_eq_true (e4 hx hp)] at Lac
      clear e1 e2 e3 e4 hx hne hp
      go_enter Try.func7, Try.ntmps7
      go_wp2_with (fail)
      refine (Lab _).mono ?_; rintro e w' ⟨rfl, hf'⟩; replace hf := hf.trans0 hf'; clear hf'
      go_wp2_with (fail)
      refine (Lba _).mono ?_; rintro e w' ⟨rfl, hf'⟩; replace hf := hf.trans0 hf'; clear hf'
      go_wp2_with (fail)
      refine (Sab _).mono ?_; rintro e w' ⟨rfl, hf'⟩; replace hf := hf.trans0 hf'; clear hf'
      go_wp2_with (fail)
      refine (one_a _).mono ?_; rintro e w' ⟨rfl, hf'⟩; replace hf := hf.trans0 hf'; clear hf'
      go_wp2_with (fail)
      refine (Laa _).mono ?_; rintro e w' ⟨rfl, hf'⟩; replace hf := hf.trans0 hf'; clear hf'
      go_wp2_with (fail)
      refine (Saa _).mono ?_; rintro e w' ⟨rfl, hf'⟩; replace hf := hf.trans0 hf'; clear hf'
      go_wp2_with (fail)
      refine (Lab _).mono ?_; rintro e w' ⟨rfl, hf'⟩; replace hf := hf.trans0 hf'; clear hf'
      go_wp2_with (fail)
      refine (Lbc _).mono ?_; rintro e w' ⟨rfl, hf'⟩; replace hf := hf.trans0 hf'; clear hf'
      go_wp2_with (fail)
      refine (Lac _).mono ?_; rintro e w' ⟨rfl, hf'⟩; replace hf := hf.trans0 hf'; clear hf'
      go_wp2_with (fail)
      refine (Sab _).mono ?_; rintro e w' ⟨rfl, hf'⟩; replace hf := hf.trans0 hf'; clear hf'
      go_wp2_with (fail)
      refine (works_any _).mono ?_; rintro e w' ⟨rfl, hf'⟩; replace hf := hf.trans0 hf'; clear hf'
      go_wp2_with (fail)
      go_ret
      exact ⟨by rfl, hf⟩
    · rw [decide_eq_false hp] at Lbc
      clear e1 e2 e3 e4 hx hne hp Lac
      go_enter Try.func7, Try.ntmps7
      go_wp2_with (fail)
      refine (Lab _).mono ?_; rintro e w' ⟨rfl, hf'⟩; replace hf := hf.trans0 hf'; clear hf'
      go_wp2_with (fail)
      refine (Lba _).mono ?_; rintro e w' ⟨rfl, hf'⟩; replace hf := hf.trans0 hf'; clear hf'
      go_wp2_with (fail)
      refine (Sab _).mono ?_; rintro e w' ⟨rfl, hf'⟩; replace hf := hf.trans0 hf'; clear hf'
      go_wp2_with (fail)
      refine (one_a _).mono ?_; rintro e w' ⟨rfl, hf'⟩; replace hf := hf.trans0 hf'; clear hf'
      go_wp2_with (fail)
      refine (Laa _).mono ?_; rintro e w' ⟨rfl, hf'⟩; replace hf := hf.trans0 hf'; clear hf'
      go_wp2_with (fail)
      refine (Saa _).mono ?_; rintro e w' ⟨rfl, hf'⟩; replace hf := hf.trans0 hf'; clear hf'
      go_wp2_with (fail)
      refine (Lab _).mono ?_; rintro e w' ⟨rfl, hf'⟩; replace hf := hf.trans0 hf'; clear hf'
      go_wp2_with (fail)
      refine (Lbc _).mono ?_; rintro e w' ⟨rfl, hf'⟩; replace hf := hf.trans0 hf'; clear hf'
      go_wp2_with (fail)
      refine (Sab _).mono ?_; rintro e w' ⟨rfl, hf'⟩; replace hf := hf.trans0 hf'; clear hf'
      go_wp2_with (fail)
      refine (works_any _).mono ?_; rintro e w' ⟨rfl, hf'⟩; replace hf := hf.trans0 hf'; clear hf'
      go_wp2_with (fail)
      go_ret
      exact ⟨by rfl, hf⟩
  · have hne : ¬X = Y := fun h => by have := e2.2 h; omega
    rw [decide_eq_false (by omega)] at Lab
    rw [decide_eq_true (by omega)] at Lba
    rw [decide_eq_false hne] at Sab
    clear e1 e2 e3 e4 hx hne Lac Lbc
    go_enter Try.func7, Try.ntmps7
    go_wp2_with (fail)
    refine (Lab _).mono ?_; rintro e w' ⟨rfl, hf'⟩; replace hf := hf.trans0 hf'; clear hf'
    go_wp2_with (fail)
    refine (Lba _).mono ?_; rintro e w' ⟨rfl, hf'⟩; replace hf := hf.trans0 hf'; clear hf'
    go_wp2_with (fail)
    refine (Sab _).mono ?_; rintro e w' ⟨rfl, hf'⟩; replace hf := hf.trans0 hf'; clear hf'
    go_wp2_with (fail)
    refine (one_b _).mono ?_; rintro e w' ⟨rfl, hf'⟩; replace hf := hf.trans0 hf'; clear hf'
    go_wp2_with (fail)
    refine (Laa _).mono ?_; rintro e w' ⟨rfl, hf'⟩; replace hf := hf.trans0 hf'; clear hf'
    go_wp2_with (fail)
    refine (Saa _).mono ?_; rintro e w' ⟨rfl, hf'⟩; replace hf := hf.trans0 hf'; clear hf'
    go_wp2_with (fail)
    refine (Lab _).mono ?_; rintro e w' ⟨rfl, hf'⟩; replace hf := hf.trans0 hf'; clear hf'
    go_wp2_with (fail)
    refine (Sab _).mono ?_; rintro e w' ⟨rfl, hf'⟩; replace hf := hf.trans0 hf'; clear hf'
    go_wp2_with (fail)
    refine (works_any _).mono ?_; rintro e w' ⟨rfl, hf'⟩; replace hf := hf.trans0 hf'; clear hf'
    go_wp2_with (fail)
    go_ret
    exact ⟨by rfl, hf⟩
  · have he := e2.1 hx
    rw [decide_eq_false (by omega)] at Lab
    rw [decide_eq_false (by omega)] at Lba
    rw [decide_eq_true he] at Sab
    rw [he] at Lac
    generalize decide (cmpL Y Z < 0) = p at Lbc Lac
    clear e1 e2 e3 e4 hx he
    go_enter Try.func7, Try.ntmps7
    go_wp2_with (fail)
    refine (Lab _).mono ?_; rintro e w' ⟨rfl, hf'⟩; replace hf := hf.trans0 hf'; clear hf'
    go_wp2_with (fail)
    refine (Lba _).mono ?_; rintro e w' ⟨rfl, hf'⟩; replace hf := hf.trans0 hf'; clear hf'
    go_wp2_with (fail)
    refine (Sab _).mono ?_; rintro e w' ⟨rfl, hf'⟩; replace hf := hf.trans0 hf'; clear hf'
    go_wp2_with (fail)
    refine (one_c _).mono ?_; rintro e w' ⟨rfl, hf'⟩; replace hf := hf.trans0 hf'; clear hf'
    go_wp2_with (fail)
    refine (Laa _).mono ?_; rintro e w' ⟨rfl, hf'⟩; replace hf := hf.trans0 hf'; clear hf'
    go_wp2_with (fail)
    refine (Saa _).mono ?_; rintro e w' ⟨rfl, hf'⟩; replace hf := hf.trans0 hf'; clear hf'
    go_wp2_with (fail)
    refine (Lab _).mono ?_; rintro e w' ⟨rfl, hf'⟩; replace hf := hf.trans0 hf'; clear hf'
    go_wp2_with (fail)
    refine (Sab _).mono ?_; rintro e w' ⟨rfl, hf'⟩; replace hf := hf.trans0 hf'; clear hf'
    go_wp2_with (fail)
    refine (Lbc _).mono ?_; rintro e w' ⟨rfl, hf'⟩; replace hf := hf.trans0 hf'; clear hf'
    go_wp2_with (fail)
    refine (Lac _).mono ?_; rintro e w' ⟨rfl, hf'⟩; replace hf := hf.trans0 hf'; clear hf'
    go_wp2_with (fail)
    refine (works_any _).mono ?_; rintro e w' ⟨rfl, hf'⟩; replace hf := hf.trans0 hf'; clear hf'
    go_wp2_with (fail)
    go_ret
    exact ⟨by rfl, hf⟩
end Go.Proofs.Ythbcbnihghmniaa

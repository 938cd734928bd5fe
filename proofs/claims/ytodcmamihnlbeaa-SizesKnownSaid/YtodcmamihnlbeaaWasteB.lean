/-
  Waste, of the program and of the document, and the small functions of the laws.
-/
import Derived.Test.YtodcmamihnlbeaaWaste
namespace Go.Proofs.Ytodcmamihnlbeaa
open Go.RowKit

theorem cls_range (n : Int) : 0 ≤ cls n ∧ cls n < 10 := by
  unfold cls
  repeat (split; · omega)
  omega

theorem clE_zero {n : Int} (h1 : ¬n < 1) (h2 : ¬512 < n) : clE n = 0 := by simp [clE, h1, h2]

theorem clE_cases (n : Int) : clE n = 2 ∨ clE n = 9 ∨ (1 ≤ n ∧ n ≤ 512 ∧ clE n = 0) := by
  unfold clE
  by_cases h1 : n < 1
  · simp [h1]
  · by_cases h2 : 512 < n
    · simp [h1, h2]
    · exact Or.inr (Or.inr ⟨by omega, by omega, by rw [if_neg h1, if_neg h2]⟩)

set_option maxHeartbeats 4000000 in
theorem waste_err (n k : Int) (hk : k = 2 ∨ k = 9) (h : clE n = k) (w : World) : Calls Try.prog 13 #[.int .i64 n] w fun e w' => e = .returned (.int .i64 (wst n)) ∧ Fr0 w w' := by
  have hw : wst n = 0 := by
    unfold wst
    rw [if_pos (by omega)]
  have S := class_any n
  rw [h] at S
  rw [hw]
  clear h hw
  generalize cls n = c at S
  rcases hk with rfl | rfl
  all_goals
    go_enter Try.func13, Try.ntmps13
    go_wp2_with (go_at_call 7; refine (S _).mono ?_; rintro e w1 ⟨rfl, hf⟩)
    go_ret
    exact ⟨by rfl, hf⟩

set_option maxHeartbeats 8000000 in
theorem waste_any (n : Int) (w : World) : Calls Try.prog 13 #[.int .i64 n] w fun e w' => e = .returned (.int .i64 (wst n)) ∧ Fr0 w w' := by
  rcases clE_cases n with h | h | ⟨h1, h2, h⟩
  · exact waste_err n _ (Or.inl rfl) h w
  · exact waste_err n _ (Or.inr rfl) h w
  · have hw : wst n = szV (cls n) - n := by
      unfold wst
      rw [if_neg (by omega)]
    have hr := cls_range n
    have S := class_any n
    rw [h] at S
    rw [hw]
    clear h hw
    generalize cls n = c at S hr ⊢
    rcases in_ten (c := c) (by omega) (by omega) with rfl | rfl | rfl | rfl | rfl | rfl | rfl | rfl | rfl | rfl
    · clear hr
      change Calls Try.prog 13 #[.int .i64 n] w fun e w' => e = .returned (.int .i64 (8 - n)) ∧ Fr0 w w'
      have x := x0
      go_enter Try.func13, Try.ntmps13
      go_wp2_with (first | (go_at_call 7; refine (S _).mono ?_; rintro e w1 ⟨rfl, hf⟩) | (go_at_call 17; refine (table_any _).mono ?_; rintro e w2 ⟨rfl, hg⟩; have hfg := hf.trans0 hg))
      go_ret
      exact ⟨by rfl, hfg⟩
    · clear hr
      change Calls Try.prog 13 #[.int .i64 n] w fun e w' => e = .returned (.int .i64 (16 - n)) ∧ Fr0 w w'
      have x := x1
      go_enter Try.func13, Try.ntmps13
      go_wp2_with (first | (go_at_call 7; refine (S _).mono ?_; rintro e w1 ⟨rfl, hf⟩) | (go_at_call 17; refine (table_any _).mono ?_; rintro e w2 ⟨rfl, hg⟩; have hfg := hf.trans0 hg))
      go_ret
      exact ⟨by rfl, hfg⟩
    · clear hr
      change Calls Try.prog 13 #[.int .i64 n] w fun e w' => e = .returned (.int .i64 (32 - n)) ∧ Fr0 w w'
      have x := x2
      go_enter Try.func13, Try.ntmps13
      go_wp2_with (first | (go_at_call 7; refine (S _).mono ?_; rintro e w1 ⟨rfl, hf⟩) | (go_at_call 17; refine (table_any _).mono ?_; rintro e w2 ⟨rfl, hg⟩; have hfg := hf.trans0 hg))
      go_ret
      exact ⟨by rfl, hfg⟩
    · clear hr
      change Calls Try.prog 13 #[.int .i64 n] w fun e w' => e = .returned (.int .i64 (48 - n)) ∧ Fr0 w w'
      have x := x3
      go_enter Try.func13, Try.ntmps13
      go_wp2_with (first | (go_at_call 7; refine (S _).mono ?_; rintro e w1 ⟨rfl, hf⟩) | (go_at_call 17; refine (table_any _).mono ?_; rintro e w2 ⟨rfl, hg⟩; have hfg := hf.trans0 hg))
      go_ret
      exact ⟨by rfl, hfg⟩
    · clear hr
      change Calls Try.prog 13 #[.int .i64 n] w fun e w' => e = .returned (.int .i64 (64 - n)) ∧ Fr0 w w'
      have x := x4
      go_enter Try.func13, Try.ntmps13
      go_wp2_with (first | (go_at_call 7; refine (S _).mono ?_; rintro e w1 ⟨rfl, hf⟩) | (go_at_call 17; refine (table_any _).mono ?_; rintro e w2 ⟨rfl, hg⟩; have hfg := hf.trans0 hg))
      go_ret
      exact ⟨by rfl, hfg⟩
    · clear hr
      change Calls Try.prog 13 #[.int .i64 n] w fun e w' => e = .returned (.int .i64 (96 - n)) ∧ Fr0 w w'
      have x := x5
      go_enter Try.func13, Try.ntmps13
      go_wp2_with (first | (go_at_call 7; refine (S _).mono ?_; rintro e w1 ⟨rfl, hf⟩) | (go_at_call 17; refine (table_any _).mono ?_; rintro e w2 ⟨rfl, hg⟩; have hfg := hf.trans0 hg))
      go_ret
      exact ⟨by rfl, hfg⟩
    · clear hr
      change Calls Try.prog 13 #[.int .i64 n] w fun e w' => e = .returned (.int .i64 (128 - n)) ∧ Fr0 w w'
      have x := x6
      go_enter Try.func13, Try.ntmps13
      go_wp2_with (first | (go_at_call 7; refine (S _).mono ?_; rintro e w1 ⟨rfl, hf⟩) | (go_at_call 17; refine (table_any _).mono ?_; rintro e w2 ⟨rfl, hg⟩; have hfg := hf.trans0 hg))
      go_ret
      exact ⟨by rfl, hfg⟩
    · clear hr
      change Calls Try.prog 13 #[.int .i64 n] w fun e w' => e = .returned (.int .i64 (192 - n)) ∧ Fr0 w w'
      have x := x7
      go_enter Try.func13, Try.ntmps13
      go_wp2_with (first | (go_at_call 7; refine (S _).mono ?_; rintro e w1 ⟨rfl, hf⟩) | (go_at_call 17; refine (table_any _).mono ?_; rintro e w2 ⟨rfl, hg⟩; have hfg := hf.trans0 hg))
      go_ret
      exact ⟨by rfl, hfg⟩
    · clear hr
      change Calls Try.prog 13 #[.int .i64 n] w fun e w' => e = .returned (.int .i64 (256 - n)) ∧ Fr0 w w'
      have x := x8
      go_enter Try.func13, Try.ntmps13
      go_wp2_with (first | (go_at_call 7; refine (S _).mono ?_; rintro e w1 ⟨rfl, hf⟩) | (go_at_call 17; refine (table_any _).mono ?_; rintro e w2 ⟨rfl, hg⟩; have hfg := hf.trans0 hg))
      go_ret
      exact ⟨by rfl, hfg⟩
    · clear hr
      change Calls Try.prog 13 #[.int .i64 n] w fun e w' => e = .returned (.int .i64 (512 - n)) ∧ Fr0 w w'
      have x := x9
      go_enter Try.func13, Try.ntmps13
      go_wp2_with (first | (go_at_call 7; refine (S _).mono ?_; rintro e w1 ⟨rfl, hf⟩) | (go_at_call 17; refine (table_any _).mono ?_; rintro e w2 ⟨rfl, hg⟩; have hfg := hf.trans0 hg))
      go_ret
      exact ⟨by rfl, hfg⟩

set_option maxHeartbeats 4000000 in
theorem refWaste_err (n k : Int) (hk : k = 2 ∨ k = 9) (h : clE n = k) (w : World) : Calls Try.prog 14 #[.int .i64 n] w fun e w' => e = .returned (.int .i64 (wst n)) ∧ Fr0 w w' := by
  have hw : wst n = 0 := by
    unfold wst
    rw [if_pos (by omega)]
  have S := refClass_any n
  rw [h] at S
  rw [hw]
  clear h hw
  generalize cls n = c at S
  rcases hk with rfl | rfl
  all_goals
    go_enter Try.func14, Try.ntmps14
    go_wp2_with (go_at_call 8; refine (S _).mono ?_; rintro e w1 ⟨rfl, hf⟩)
    go_ret
    exact ⟨by rfl, hf⟩

set_option maxHeartbeats 8000000 in
theorem refWaste_any (n : Int) (w : World) : Calls Try.prog 14 #[.int .i64 n] w fun e w' => e = .returned (.int .i64 (wst n)) ∧ Fr0 w w' := by
  rcases clE_cases n with h | h | ⟨h1, h2, h⟩
  · exact refWaste_err n _ (Or.inl rfl) h w
  · exact refWaste_err n _ (Or.inr rfl) h w
  · have hw : wst n = szV (cls n) - n := by
      unfold wst
      rw [if_neg (by omega)]
    have hr := cls_range n
    have S := refClass_any n
    rw [h] at S
    rw [hw]
    clear h hw
    generalize cls n = c at S hr ⊢
    rcases in_ten (c := c) (by omega) (by omega) with rfl | rfl | rfl | rfl | rfl | rfl | rfl | rfl | rfl | rfl
    · clear hr
      change Calls Try.prog 14 #[.int .i64 n] w fun e w' => e = .returned (.int .i64 (8 - n)) ∧ Fr0 w w'
      go_enter Try.func14, Try.ntmps14
      go_wp2_with (first | (go_at_call 8; refine (S _).mono ?_; rintro e w1 ⟨rfl, hf⟩) | (go_at_call 19; refine (all_any _).mono ?_; rintro e w2 ⟨rfl, hg, ht⟩; have hfg := hf.trans0 hg; have hc : w2.cell? ⟨w1.heap.size, 0, none⟩ = some (.int .i64 8) := (sz_of ht).cells 0 (by decide); clear ht))
      go_ret
      exact ⟨by rfl, hfg⟩
    · clear hr
      change Calls Try.prog 14 #[.int .i64 n] w fun e w' => e = .returned (.int .i64 (16 - n)) ∧ Fr0 w w'
      go_enter Try.func14, Try.ntmps14
      go_wp2_with (first | (go_at_call 8; refine (S _).mono ?_; rintro e w1 ⟨rfl, hf⟩) | (go_at_call 19; refine (all_any _).mono ?_; rintro e w2 ⟨rfl, hg, ht⟩; have hfg := hf.trans0 hg; have hc : w2.cell? ⟨w1.heap.size, 1, none⟩ = some (.int .i64 16) := (sz_of ht).cells 1 (by decide); clear ht))
      go_ret
      exact ⟨by rfl, hfg⟩
    · clear hr
      change Calls Try.prog 14 #[.int .i64 n] w fun e w' => e = .returned (.int .i64 (32 - n)) ∧ Fr0 w w'
      go_enter Try.func14, Try.ntmps14
      go_wp2_with (first | (go_at_call 8; refine (S _).mono ?_; rintro e w1 ⟨rfl, hf⟩) | (go_at_call 19; refine (all_any _).mono ?_; rintro e w2 ⟨rfl, hg, ht⟩; have hfg := hf.trans0 hg; have hc : w2.cell? ⟨w1.heap.size, 2, none⟩ = some (.int .i64 32) := (sz_of ht).cells 2 (by decide); clear ht))
      go_ret
      exact ⟨by rfl, hfg⟩
    · clear hr
      change Calls Try.prog 14 #[.int .i64 n] w fun e w' => e = .returned (.int .i64 (48 - n)) ∧ Fr0 w w'
      go_enter Try.func14, Try.ntmps14
      go_wp2_with (first | (go_at_call 8; refine (S _).mono ?_; rintro e w1 ⟨rfl, hf⟩) | (go_at_call 19; refine (all_any _).mono ?_; rintro e w2 ⟨rfl, hg, ht⟩; have hfg := hf.trans0 hg; have hc : w2.cell? ⟨w1.heap.size, 3, none⟩ = some (.int .i64 48) := (sz_of ht).cells 3 (by decide); clear ht))
      go_ret
      exact ⟨by rfl, hfg⟩
    · clear hr
      change Calls Try.prog 14 #[.int .i64 n] w fun e w' => e = .returned (.int .i64 (64 - n)) ∧ Fr0 w w'
      go_enter Try.func14, Try.ntmps14
      go_wp2_with (first | (go_at_call 8; refine (S _).mono ?_; rintro e w1 ⟨rfl, hf⟩) | (go_at_call 19; refine (all_any _).mono ?_; rintro e w2 ⟨rfl, hg, ht⟩; have hfg := hf.trans0 hg; have hc : w2.cell? ⟨w1.heap.size, 4, none⟩ = some (.int .i64 64) := (sz_of ht).cells 4 (by decide); clear ht))
      go_ret
      exact ⟨by rfl, hfg⟩
    · clear hr
      change Calls Try.prog 14 #[.int .i64 n] w fun e w' => e = .returned (.int .i64 (96 - n)) ∧ Fr0 w w'
      go_enter Try.func14, Try.ntmps14
      go_wp2_with (first | (go_at_call 8; refine (S _).mono ?_; rintro e w1 ⟨rfl, hf⟩) | (go_at_call 19; refine (all_any _).mono ?_; rintro e w2 ⟨rfl, hg, ht⟩; have hfg := hf.trans0 hg; have hc : w2.cell? ⟨w1.heap.size, 5, none⟩ = some (.int .i64 96) := (sz_of ht).cells 5 (by decide); clear ht))
      go_ret
      exact ⟨by rfl, hfg⟩
    · clear hr
      change Calls Try.prog 14 #[.int .i64 n] w fun e w' => e = .returned (.int .i64 (128 - n)) ∧ Fr0 w w'
      go_enter Try.func14, Try.ntmps14
      go_wp2_with (first | (go_at_call 8; refine (S _).mono ?_; rintro e w1 ⟨rfl, hf⟩) | (go_at_call 19; refine (all_any _).mono ?_; rintro e w2 ⟨rfl, hg, ht⟩; have hfg := hf.trans0 hg; have hc : w2.cell? ⟨w1.heap.size, 6, none⟩ = some (.int .i64 128) := (sz_of ht).cells 6 (by decide); clear ht))
      go_ret
      exact ⟨by rfl, hfg⟩
    · clear hr
      change Calls Try.prog 14 #[.int .i64 n] w fun e w' => e = .returned (.int .i64 (192 - n)) ∧ Fr0 w w'
      go_enter Try.func14, Try.ntmps14
      go_wp2_with (first | (go_at_call 8; refine (S _).mono ?_; rintro e w1 ⟨rfl, hf⟩) | (go_at_call 19; refine (all_any _).mono ?_; rintro e w2 ⟨rfl, hg, ht⟩; have hfg := hf.trans0 hg; have hc : w2.cell? ⟨w1.heap.size, 7, none⟩ = some (.int .i64 192) := (sz_of ht).cells 7 (by decide); clear ht))
      go_ret
      exact ⟨by rfl, hfg⟩
    · clear hr
      change Calls Try.prog 14 #[.int .i64 n] w fun e w' => e = .returned (.int .i64 (256 - n)) ∧ Fr0 w w'
      go_enter Try.func14, Try.ntmps14
      go_wp2_with (first | (go_at_call 8; refine (S _).mono ?_; rintro e w1 ⟨rfl, hf⟩) | (go_at_call 19; refine (all_any _).mono ?_; rintro e w2 ⟨rfl, hg, ht⟩; have hfg := hf.trans0 hg; have hc : w2.cell? ⟨w1.heap.size, 8, none⟩ = some (.int .i64 256) := (sz_of ht).cells 8 (by decide); clear ht))
      go_ret
      exact ⟨by rfl, hfg⟩
    · clear hr
      change Calls Try.prog 14 #[.int .i64 n] w fun e w' => e = .returned (.int .i64 (512 - n)) ∧ Fr0 w w'
      go_enter Try.func14, Try.ntmps14
      go_wp2_with (first | (go_at_call 8; refine (S _).mono ?_; rintro e w1 ⟨rfl, hf⟩) | (go_at_call 19; refine (all_any _).mono ?_; rintro e w2 ⟨rfl, hg, ht⟩; have hfg := hf.trans0 hg; have hc : w2.cell? ⟨w1.heap.size, 9, none⟩ = some (.int .i64 512) := (sz_of ht).cells 9 (by decide); clear ht))
      go_ret
      exact ⟨by rfl, hfg⟩


set_option maxHeartbeats 800000 in
theorem isClass (n a b : Int) (ha : cls n = a) (hb : clE n = b) (w : World) : Calls Try.prog 20 #[.int .i64 n, .int .i64 a, .int .i64 b] w fun e w' => e = .returned (.bool true) ∧ Fr0 w w' := by
  subst ha hb
  have S := class_any n
  generalize cls n = a at S ⊢
  generalize clE n = b at S ⊢
  go_enter Try.func20, Try.ntmps20
  go_wp2_with (go_at_call 7; refine (S _).mono ?_; rintro e w1 ⟨rfl, hf⟩)
  go_ret
  exact ⟨by simp, hf⟩
end Go.Proofs.Ytodcmamihnlbeaa

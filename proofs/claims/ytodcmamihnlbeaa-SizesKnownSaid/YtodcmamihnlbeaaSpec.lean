/-
  Class, Size, Spec and Waste, of the program and of the document.
-/
import Derived.Test.YtodcmamihnlbeaaClass
namespace Go.Proofs.Ytodcmamihnlbeaa
open Go.RowKit

/-- The class of so many bytes. -/
def cls (n : Int) : Int :=
  if n < 1 then 0 else if 512 < n then 0 else if n ≤ 8 then 0 else if n ≤ 16 then 1 else if n ≤ 32 then 2 else if n ≤ 48 then 3 else if n ≤ 64 then 4
  else if n ≤ 96 then 5 else if n ≤ 128 then 6 else if n ≤ 192 then 7 else if n ≤ 256 then 8 else 9

/-- Its error. -/
def clE (n : Int) : Int := if n < 1 then 2 else if 512 < n then 9 else 0

/-- The size of a class. -/
def szV (c : Int) : Int :=
  if c = 0 then 8 else if c = 1 then 16 else if c = 2 then 32 else if c = 3 then 48 else if c = 4 then 64
  else if c = 5 then 96 else if c = 6 then 128 else if c = 7 then 192 else if c = 8 then 256 else if c = 9 then 512 else 0

/-- Its error. -/
def szE (c : Int) : Int := if c < 0 then 9 else if 10 ≤ c then 9 else 0

/-- How a class lies. -/
def alV (c : Int) : Int := if szE c ≠ 0 then 0 else if szV c % 16 = 0 then 16 else 8

/-- Its flags. -/
def flV (c : Int) : Int := if szE c ≠ 0 then 0 else 4

/-- What is given out in vain. -/
def wst (n : Int) : Int := if clE n ≠ 0 then 0 else szV (cls n) - n

theorem cls_of (n : Int) (i : Nat) (hi : i ≤ 10) (h1 : ¬n < 1) (h2 : ¬512 < n)
    (ha : ∀ k (hk : k < sz.length), k < i → sz[k] < n) (hb : ∀ k (hk : k < sz.length), i ≤ k → n ≤ sz[k]) : (i : Int) = cls n := by
  have hs : i = 0 ∨ i = 1 ∨ i = 2 ∨ i = 3 ∨ i = 4 ∨ i = 5 ∨ i = 6 ∨ i = 7 ∨ i = 8 ∨ i = 9 ∨ i = 10 := by omega
  rcases hs with rfl | rfl | rfl | rfl | rfl | rfl | rfl | rfl | rfl | rfl | rfl
  · have b : n ≤ 8 := hb 0 (by decide) (by decide)
    simp [cls, h1, h2, b]
  · have a : (8 : Int) < n := ha 0 (by decide) (by decide)
    have b : n ≤ 16 := hb 1 (by decide) (by decide)
    have c0 : ¬n ≤ 8 := by omega
    simp [cls, h1, h2, c0, b]
  · have a : (16 : Int) < n := ha 1 (by decide) (by decide)
    have b : n ≤ 32 := hb 2 (by decide) (by decide)
    have c0 : ¬n ≤ 8 := by omega
    have c1 : ¬n ≤ 16 := by omega
    simp [cls, h1, h2, c0, c1, b]
  · have a : (32 : Int) < n := ha 2 (by decide) (by decide)
    have b : n ≤ 48 := hb 3 (by decide) (by decide)
    have c0 : ¬n ≤ 8 := by omega
    have c1 : ¬n ≤ 16 := by omega
    have c2 : ¬n ≤ 32 := by omega
    simp [cls, h1, h2, c0, c1, c2, b]
  · have a : (48 : Int) < n := ha 3 (by decide) (by decide)
    have b : n ≤ 64 := hb 4 (by decide) (by decide)
    have c0 : ¬n ≤ 8 := by omega
    have c1 : ¬n ≤ 16 := by omega
    have c2 : ¬n ≤ 32 := by omega
    have c3 : ¬n ≤ 48 := by omega
    simp [cls, h1, h2, c0, c1, c2, c3, b]
  · have a : (64 : Int) < n := ha 4 (by decide) (by decide)
    have b : n ≤ 96 := hb 5 (by decide) (by decide)
    have c0 : ¬n ≤ 8 := by omega
    have c1 : ¬n ≤ 16 := by omega
    have c2 : ¬n ≤ 32 := by omega
    have c3 : ¬n ≤ 48 := by omega
    have c4 : ¬n ≤ 64 := by omega
    simp [cls, h1, h2, c0, c1, c2, c3, c4, b]
  · have a : (96 : Int) < n := ha 5 (by decide) (by decide)
    have b : n ≤ 128 := hb 6 (by decide) (by decide)
    have c0 : ¬n ≤ 8 := by omega
    have c1 : ¬n ≤ 16 := by omega
    have c2 : ¬n ≤ 32 := by omega
    have c3 : ¬n ≤ 48 := by omega
    have c4 : ¬n ≤ 64 := by omega
    have c5 : ¬n ≤ 96 := by omega
    simp [cls, h1, h2, c0, c1, c2, c3, c4, c5, b]
  · have a : (128 : Int) < n := ha 6 (by decide) (by decide)
    have b : n ≤ 192 := hb 7 (by decide) (by decide)
    have c0 : ¬n ≤ 8 := by omega
    have c1 : ¬n ≤ 16 := by omega
    have c2 : ¬n ≤ 32 := by omega
    have c3 : ¬n ≤ 48 := by omega
    have c4 : ¬n ≤ 64 := by omega
    have c5 : ¬n ≤ 96 := by omega
    have c6 : ¬n ≤ 128 := by omega
    simp [cls, h1, h2, c0, c1, c2, c3, c4, c5, c6, b]
  · have a : (192 : Int) < n := ha 7 (by decide) (by decide)
    have b : n ≤ 256 := hb 8 (by decide) (by decide)
    have c0 : ¬n ≤ 8 := by omega
    have c1 : ¬n ≤ 16 := by omega
    have c2 : ¬n ≤ 32 := by omega
    have c3 : ¬n ≤ 48 := by omega
    have c4 : ¬n ≤ 64 := by omega
    have c5 : ¬n ≤ 96 := by omega
    have c6 : ¬n ≤ 128 := by omega
    have c7 : ¬n ≤ 192 := by omega
    simp [cls, h1, h2, c0, c1, c2, c3, c4, c5, c6, c7, b]
  · have a : (256 : Int) < n := ha 8 (by decide) (by decide)
    have b : n ≤ 512 := hb 9 (by decide) (by decide)
    have c0 : ¬n ≤ 8 := by omega
    have c1 : ¬n ≤ 16 := by omega
    have c2 : ¬n ≤ 32 := by omega
    have c3 : ¬n ≤ 48 := by omega
    have c4 : ¬n ≤ 64 := by omega
    have c5 : ¬n ≤ 96 := by omega
    have c6 : ¬n ≤ 128 := by omega
    have c7 : ¬n ≤ 192 := by omega
    have c8 : ¬n ≤ 256 := by omega
    simp [cls, h1, h2, c0, c1, c2, c3, c4, c5, c6, c7, c8]
  · have a : (512 : Int) < n := ha 9 (by decide) (by decide)
    omega

theorem sz_of {w : World} {b ty : Nat} {p : Nat × Nat} (h : w.heap[b]? = some (.cells #[.int .i64 8, .int .i64 16, .int .i64 32, .int .i64 48, .int .i64 64, .int .i64 96, .int .i64 128, .int .i64 192, .int .i64 256, .int .i64 512] ty p)) : SzAt w b := by
  refine ⟨fun i hi => ?_⟩
  have hs : i = 0 ∨ i = 1 ∨ i = 2 ∨ i = 3 ∨ i = 4 ∨ i = 5 ∨ i = 6 ∨ i = 7 ∨ i = 8 ∨ i = 9 := by rw [sz_len] at hi; omega
  rcases hs with rfl | rfl | rfl | rfl | rfl | rfl | rfl | rfl | rfl | rfl <;> simp [World.cell?, h, sz]

set_option maxHeartbeats 800000 in
theorem class_any (n : Int) (w : World) : Calls Try.prog 7 #[.int .i64 n] w fun e w' =>
    e = .returned (.tuple #[.int .i64 (cls n), .int .i64 (clE n)]) ∧ Fr0 w w' := by
  by_cases h1 : n < 1
  · have hc : cls n = 0 := by simp [cls, h1]
    have he : clE n = 2 := by simp [clE, h1]
    rw [hc, he]
    go_enter Try.func7, Try.ntmps7
    go_wp2
    go_ret2
    exact ⟨by rfl, Fr.refl _ _⟩
  · by_cases h2 : 512 < n
    · have hc : cls n = 0 := by simp [cls, h1, h2]
      have he : clE n = 9 := by simp [clE, h1, h2]
      rw [hc, he]
      go_enter Try.func7, Try.ntmps7
      go_wp2
      go_ret2
      exact ⟨by rfl, Fr.refl _ _⟩
    · have he : clE n = 0 := by simp [clE, h1, h2]
      rw [he]
      go_enter Try.func7, Try.ntmps7
      go_wp2_with (go_at_call 17; refine (table_any _).mono ?_; rintro e w1 ⟨rfl, hf⟩)
      have hS : SzAt (w1.alloc (Obj.cells #[.int .i64 8, .int .i64 16, .int .i64 32, .int .i64 48, .int .i64 64, .int .i64 96, .int .i64 128, .int .i64 192, .int .i64 256, .int .i64 512] 35)) w1.heap.size := by
        have hb := alloc_block w1 (Obj.cells #[.int .i64 8, .int .i64 16, .int .i64 32, .int .i64 48, .int .i64 64, .int .i64 96, .int .i64 128, .int .i64 192, .int .i64 256, .int .i64 512] 35)
        exact sz_of hb
      refine (search_any _ _ _ hS).mono ?_
      rintro e w2 ⟨i, f, rfl, hi, hlo, hhi, rfl⟩
      have hq : (i : Int) = cls n := cls_of n i hi (by omega) (by omega) hlo hhi
      have HQ := hid hq
      clear hq hS hlo hhi
      have hfa := hf.alloc (Obj.cells #[.int .i64 8, .int .i64 16, .int .i64 32, .int .i64 48, .int .i64 64, .int .i64 96, .int .i64 128, .int .i64 192, .int .i64 256, .int .i64 512] 35)
      go_wp2
      go_ret2
      exact ⟨by rw [← HQ.out]; rfl, hfa⟩

set_option maxHeartbeats 1600000 in
theorem refClass_any (n : Int) (w : World) : Calls Try.prog 8 #[.int .i64 n] w fun e w' =>
    e = .returned (.tuple #[.int .i64 (cls n), .int .i64 (clE n)]) ∧ Fr0 w w' := by
  by_cases h1 : n < 1
  · have hc : cls n = 0 := by simp [cls, h1]
    have he : clE n = 2 := by simp [clE, h1]
    rw [hc, he]
    go_enter Try.func8, Try.ntmps8
    go_wp2
    go_ret2
    exact ⟨by rfl, Fr.refl _ _⟩
  · have h1' : ¬n < 1 := h1
    have H1 := hid h1'
    clear h1'
    go_enter Try.func8, Try.ntmps8
    go_wp2_with (go_at_call 19; refine (all_any _).mono ?_; rintro e w1 ⟨rfl, hf, ht⟩)
    have HC := hid (sz_of ht).cells
    clear ht
    go_loopw [5] (fun i wx => ∃ i' : Nat, i = .int .i64 i' ∧ i' ≤ 10 ∧ wx = w1 ∧ Hid (∀ k (hk : k < sz.length), k < i' → sz[k] < n))
      (fun i _ => (10 - intOf i).toNat)
    case atStart => exact ⟨0, rfl, by omega, rfl, hid (fun _ _ h => absurd h (Nat.not_lt_zero _))⟩
    case round =>
      obtain ⟨i, rfl, hi, rfl, hlo⟩ := hrel
      by_cases hlt : i < 10
      · have hc := HC.out i hlt
        obtain ⟨v, hv⟩ : ∃ v, v = sz[i] := ⟨_, rfl⟩
        rw [← hv] at hc
        have HV := hid hv
        clear hv
        by_cases hnv : n ≤ v
        · have HN : Hid ((i : Int) = cls n ∧ 0 = clE n) := by
            have hv9 : ¬512 < n := by
              have := sz_sorted i 9 hlt (by decide) (by omega)
              have h9 : sz[9]'(by decide) = 512 := rfl
              have := HV.out
              omega
            refine hid ⟨cls_of n i hi (by have := H1.out; omega) hv9 hlo.out (fun k hk hik => ?_), by simp [clE, H1.out, hv9]⟩
            have := sz_sorted i k hlt hk hik
            have := HV.out
            omega
          go_wp2
          go_ret2
          exact ⟨by rw [← HN.out.1, ← HN.out.2]; rfl, hf⟩
        · go_wp2
          go_roundw
          case rel => exact ⟨i + 1, by go_num, by omega, trivial, hid (fun k hk hki => by
            rcases Nat.lt_or_ge k i with h | h
            · exact hlo.out k hk h
            · have : k = i := by omega
              subst this
              have := HV.out
              omega)⟩
          case measure => (try simp [intOf]); omega
      · have hi10 : i = 10 := by omega
        subst hi10
        have HN : Hid (0 = cls n ∧ 9 = clE n) := by
          have := hlo.out 9 (by decide) (by decide)
          have h9 : sz[9]'(by decide) = 512 := rfl
          rw [h9] at this
          exact hid ⟨by simp [cls, H1.out, this], by simp [clE, H1.out, this]⟩
        go_wp2
        go_ret2
        exact ⟨by rw [← HN.out.1, ← HN.out.2]; rfl, hf⟩

theorem in_ten {c : Int} (h1 : ¬c < 0) (h2 : ¬10 ≤ c) : c = 0 ∨ c = 1 ∨ c = 2 ∨ c = 3 ∨ c = 4 ∨ c = 5 ∨ c = 6 ∨ c = 7 ∨ c = 8 ∨ c = 9 := by omega

theorem x0 : ∀ w : World, (Instr.index 35 (.agg #[.int .i64 8, .int .i64 16, .int .i64 32, .int .i64 48, .int .i64 64, .int .i64 96, .int .i64 128, .int .i64 192, .int .i64 256, .int .i64 512]) (.int .i64 0)).run Try.prog w = .ok (.int .i64 8) w := fun _ => by kernel_rfl
theorem x1 : ∀ w : World, (Instr.index 35 (.agg #[.int .i64 8, .int .i64 16, .int .i64 32, .int .i64 48, .int .i64 64, .int .i64 96, .int .i64 128, .int .i64 192, .int .i64 256, .int .i64 512]) (.int .i64 1)).run Try.prog w = .ok (.int .i64 16) w := fun _ => by kernel_rfl
theorem x2 : ∀ w : World, (Instr.index 35 (.agg #[.int .i64 8, .int .i64 16, .int .i64 32, .int .i64 48, .int .i64 64, .int .i64 96, .int .i64 128, .int .i64 192, .int .i64 256, .int .i64 512]) (.int .i64 2)).run Try.prog w = .ok (.int .i64 32) w := fun _ => by kernel_rfl
theorem x3 : ∀ w : World, (Instr.index 35 (.agg #[.int .i64 8, .int .i64 16, .int .i64 32, .int .i64 48, .int .i64 64, .int .i64 96, .int .i64 128, .int .i64 192, .int .i64 256, .int .i64 512]) (.int .i64 3)).run Try.prog w = .ok (.int .i64 48) w := fun _ => by kernel_rfl
theorem x4 : ∀ w : World, (Instr.index 35 (.agg #[.int .i64 8, .int .i64 16, .int .i64 32, .int .i64 48, .int .i64 64, .int .i64 96, .int .i64 128, .int .i64 192, .int .i64 256, .int .i64 512]) (.int .i64 4)).run Try.prog w = .ok (.int .i64 64) w := fun _ => by kernel_rfl
theorem x5 : ∀ w : World, (Instr.index 35 (.agg #[.int .i64 8, .int .i64 16, .int .i64 32, .int .i64 48, .int .i64 64, .int .i64 96, .int .i64 128, .int .i64 192, .int .i64 256, .int .i64 512]) (.int .i64 5)).run Try.prog w = .ok (.int .i64 96) w := fun _ => by kernel_rfl
theorem x6 : ∀ w : World, (Instr.index 35 (.agg #[.int .i64 8, .int .i64 16, .int .i64 32, .int .i64 48, .int .i64 64, .int .i64 96, .int .i64 128, .int .i64 192, .int .i64 256, .int .i64 512]) (.int .i64 6)).run Try.prog w = .ok (.int .i64 128) w := fun _ => by kernel_rfl
theorem x7 : ∀ w : World, (Instr.index 35 (.agg #[.int .i64 8, .int .i64 16, .int .i64 32, .int .i64 48, .int .i64 64, .int .i64 96, .int .i64 128, .int .i64 192, .int .i64 256, .int .i64 512]) (.int .i64 7)).run Try.prog w = .ok (.int .i64 192) w := fun _ => by kernel_rfl
theorem x8 : ∀ w : World, (Instr.index 35 (.agg #[.int .i64 8, .int .i64 16, .int .i64 32, .int .i64 48, .int .i64 64, .int .i64 96, .int .i64 128, .int .i64 192, .int .i64 256, .int .i64 512]) (.int .i64 8)).run Try.prog w = .ok (.int .i64 256) w := fun _ => by kernel_rfl
theorem x9 : ∀ w : World, (Instr.index 35 (.agg #[.int .i64 8, .int .i64 16, .int .i64 32, .int .i64 48, .int .i64 64, .int .i64 96, .int .i64 128, .int .i64 192, .int .i64 256, .int .i64 512]) (.int .i64 9)).run Try.prog w = .ok (.int .i64 512) w := fun _ => by kernel_rfl

set_option maxHeartbeats 4000000 in
theorem size_any (c : Int) (w : World) : Calls Try.prog 9 #[.int .i64 c] w fun e w' =>
    e = .returned (.tuple #[.int .i64 (szV c), .int .i64 (szE c)]) ∧ Fr0 w w' := by
  by_cases h1 : c < 0
  · have hv : szV c = 0 := by unfold szV; repeat (first | rw [if_neg (by omega)] | rfl)
    have he : szE c = 9 := by simp [szE, h1]
    rw [hv, he]
    go_enter Try.func9, Try.ntmps9
    go_wp2
    go_ret2
    exact ⟨by rfl, Fr.refl _ _⟩
  · by_cases h2 : 10 ≤ c
    · have hv : szV c = 0 := by unfold szV; repeat (first | rw [if_neg (by omega)] | rfl)
      have he : szE c = 9 := by simp [szE, h1, h2]
      rw [hv, he]
      go_enter Try.func9, Try.ntmps9
      go_wp2
      go_ret2
      exact ⟨by rfl, Fr.refl _ _⟩
    · rcases in_ten h1 h2 with rfl | rfl | rfl | rfl | rfl | rfl | rfl | rfl | rfl | rfl
      all_goals
        clear h1 h2
        have X := And.intro x0 (And.intro x1 (And.intro x2 (And.intro x3 (And.intro x4 (And.intro x5 (And.intro x6 (And.intro x7 (And.intro x8 x9))))))))
        obtain ⟨y0, y1, y2, y3, y4, y5, y6, y7, y8, y9⟩ := X
        go_enter Try.func9, Try.ntmps9
        go_wp2_with (go_at_call 17; refine (table_any _).mono ?_; rintro e w1 ⟨rfl, hf⟩)
        go_ret2
        exact ⟨by rfl, hf⟩

set_option maxHeartbeats 4000000 in
theorem refSize_any (c : Int) (w : World) : Calls Try.prog 10 #[.int .i64 c] w fun e w' =>
    e = .returned (.tuple #[.int .i64 (szV c), .int .i64 (szE c)]) ∧ Fr0 w w' := by
  by_cases h1 : c < 0
  · have hv : szV c = 0 := by unfold szV; repeat (first | rw [if_neg (by omega)] | rfl)
    have he : szE c = 9 := by simp [szE, h1]
    rw [hv, he]
    go_enter Try.func10, Try.ntmps10
    go_wp2_with (go_at_call 19; refine (all_any _).mono ?_; rintro e w1 ⟨rfl, hf, ht⟩; clear ht)
    go_ret2
    exact ⟨by rfl, hf⟩
  · by_cases h2 : 10 ≤ c
    · have hv : szV c = 0 := by unfold szV; repeat (first | rw [if_neg (by omega)] | rfl)
      have he : szE c = 9 := by simp [szE, h1, h2]
      rw [hv, he]
      go_enter Try.func10, Try.ntmps10
      go_wp2_with (go_at_call 19; refine (all_any _).mono ?_; rintro e w1 ⟨rfl, hf, ht⟩; clear ht)
      go_ret2
      exact ⟨by rfl, hf⟩
    · rcases in_ten h1 h2 with rfl | rfl | rfl | rfl | rfl | rfl | rfl | rfl | rfl | rfl
      · clear h1 h2
        go_enter Try.func10, Try.ntmps10
        go_wp2_with (go_at_call 19; refine (all_any _).mono ?_; rintro e w1 ⟨rfl, hf, ht⟩; have hc : w1.cell? ⟨w.heap.size, 0, none⟩ = some (.int .i64 8) := (sz_of ht).cells 0 (by decide); clear ht)
        go_ret2
        exact ⟨by rfl, hf⟩
      · clear h1 h2
        go_enter Try.func10, Try.ntmps10
        go_wp2_with (go_at_call 19; refine (all_any _).mono ?_; rintro e w1 ⟨rfl, hf, ht⟩; have hc : w1.cell? ⟨w.heap.size, 1, none⟩ = some (.int .i64 16) := (sz_of ht).cells 1 (by decide); clear ht)
        go_ret2
        exact ⟨by rfl, hf⟩
      · clear h1 h2
        go_enter Try.func10, Try.ntmps10
        go_wp2_with (go_at_call 19; refine (all_any _).mono ?_; rintro e w1 ⟨rfl, hf, ht⟩; have hc : w1.cell? ⟨w.heap.size, 2, none⟩ = some (.int .i64 32) := (sz_of ht).cells 2 (by decide); clear ht)
        go_ret2
        exact ⟨by rfl, hf⟩
      · clear h1 h2
        go_enter Try.func10, Try.ntmps10
        go_wp2_with (go_at_call 19; refine (all_any _).mono ?_; rintro e w1 ⟨rfl, hf, ht⟩; have hc : w1.cell? ⟨w.heap.size, 3, none⟩ = some (.int .i64 48) := (sz_of ht).cells 3 (by decide); clear ht)
        go_ret2
        exact ⟨by rfl, hf⟩
      · clear h1 h2
        go_enter Try.func10, Try.ntmps10
        go_wp2_with (go_at_call 19; refine (all_any _).mono ?_; rintro e w1 ⟨rfl, hf, ht⟩; have hc : w1.cell? ⟨w.heap.size, 4, none⟩ = some (.int .i64 64) := (sz_of ht).cells 4 (by decide); clear ht)
        go_ret2
        exact ⟨by rfl, hf⟩
      · clear h1 h2
        go_enter Try.func10, Try.ntmps10
        go_wp2_with (go_at_call 19; refine (all_any _).mono ?_; rintro e w1 ⟨rfl, hf, ht⟩; have hc : w1.cell? ⟨w.heap.size, 5, none⟩ = some (.int .i64 96) := (sz_of ht).cells 5 (by decide); clear ht)
        go_ret2
        exact ⟨by rfl, hf⟩
      · clear h1 h2
        go_enter Try.func10, Try.ntmps10
        go_wp2_with (go_at_call 19; refine (all_any _).mono ?_; rintro e w1 ⟨rfl, hf, ht⟩; have hc : w1.cell? ⟨w.heap.size, 6, none⟩ = some (.int .i64 128) := (sz_of ht).cells 6 (by decide); clear ht)
        go_ret2
        exact ⟨by rfl, hf⟩
      · clear h1 h2
        go_enter Try.func10, Try.ntmps10
        go_wp2_with (go_at_call 19; refine (all_any _).mono ?_; rintro e w1 ⟨rfl, hf, ht⟩; have hc : w1.cell? ⟨w.heap.size, 7, none⟩ = some (.int .i64 192) := (sz_of ht).cells 7 (by decide); clear ht)
        go_ret2
        exact ⟨by rfl, hf⟩
      · clear h1 h2
        go_enter Try.func10, Try.ntmps10
        go_wp2_with (go_at_call 19; refine (all_any _).mono ?_; rintro e w1 ⟨rfl, hf, ht⟩; have hc : w1.cell? ⟨w.heap.size, 8, none⟩ = some (.int .i64 256) := (sz_of ht).cells 8 (by decide); clear ht)
        go_ret2
        exact ⟨by rfl, hf⟩
      · clear h1 h2
        go_enter Try.func10, Try.ntmps10
        go_wp2_with (go_at_call 19; refine (all_any _).mono ?_; rintro e w1 ⟨rfl, hf, ht⟩; have hc : w1.cell? ⟨w.heap.size, 9, none⟩ = some (.int .i64 512) := (sz_of ht).cells 9 (by decide); clear ht)
        go_ret2
        exact ⟨by rfl, hf⟩
end Go.Proofs.Ytodcmamihnlbeaa

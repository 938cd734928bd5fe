/-
  slices.Compare at rows of runes; Less of the program.
-/
import Derived.Test.YthbcbnihghmniaaRefC
namespace Go.Proofs.Ythbcbnihghmniaa
open Go.RowKit

/-- Which of two rows of numbers comes ahead. -/
def cmpL : List Int → List Int → Int
  | [], [] => 0
  | [], _ :: _ => -1
  | _ :: _, [] => 1
  | x :: X, y :: Y => if x < y then -1 else if y < x then 1 else cmpL X Y

/-- A row of runes, as a walk reads it. -/
structure RowIs (w : World) (a : Option Addr) (g : Nat) (L : List Int) : Prop where
  addr : 0 < L.length → a = some ⟨g, 0, none⟩
  cells : ∀ j (hj : j < L.length), w.cell? ⟨g, j, none⟩ = some (.int .i32 L[j])
  lt : 0 < L.length → g < w.heap.size

theorem RowIs.fr0 {w w' : World} {a : Option Addr} {g : Nat} {L : List Int} (h : RowIs w a g L) (hf : Fr0 w w') : RowIs w' a g L :=
  ⟨h.addr, fun j hj => (hf.cell (p := ⟨g, j, none⟩) (h.lt (by omega)) (fun h => h)).trans (h.cells j hj), fun hl => hf.lt (h.lt hl)⟩

theorem OwnR.row {w : World} {B : Nat} {v : Value} {L : List Int} (h : OwnR w B v L) : ∃ a g cap, v = .slice a L.length cap ∧ RowIs w a g L := by
  obtain ⟨a, g, cap, e, ha, hg, hc, _⟩ := h.form
  exact ⟨a, g, cap, e, ha, hc, fun h => (hg h).2⟩

theorem nan_any (x : Int) (w : World) : Calls Try.prog 40 #[.int .i32 x] w fun e w' => e = .returned (.bool false) ∧ w' = w := by
  go_enter Try.func40, Try.ntmps40
  go_wp2
  go_ret
  exact ⟨by simp, rfl⟩

set_option maxHeartbeats 800000 in
theorem cmp_any (x y : Int) (w : World) : Calls Try.prog 37 #[.int .i32 x, .int .i32 y] w fun e w' => e = .returned (.int .i64 (if x < y then -1 else if y < x then 1 else 0)) ∧ w' = w := by
  by_cases h1 : x < y
  · rw [if_pos h1]
    go_enter Try.func37, Try.ntmps37
    go_wp2_with (go_at_call 40; refine (nan_any _ _).mono ?_; rintro e w' ⟨rfl, rfl⟩)
    go_ret
    exact ⟨rfl, rfl⟩
  · rw [if_neg h1]
    by_cases h2 : y < x
    · rw [if_pos h2]
      go_enter Try.func37, Try.ntmps37
      go_wp2_with (go_at_call 40; refine (nan_any _ _).mono ?_; rintro e w' ⟨rfl, rfl⟩)
      go_ret
      exact ⟨rfl, rfl⟩
    · rw [if_neg h2]
      go_enter Try.func37, Try.ntmps37
      go_wp2_with (go_at_call 40; refine (nan_any _ _).mono ?_; rintro e w' ⟨rfl, rfl⟩)
      go_ret
      exact ⟨rfl, rfl⟩

theorem cmpL_step {X Y : List Int} {k : Nat} (hx : k < X.length) (hy : k < Y.length) : cmpL (X.drop k) (Y.drop k) = if X[k] < Y[k] then -1 else if Y[k] < X[k] then 1 else cmpL (X.drop (k + 1)) (Y.drop (k + 1)) := by
  rw [List.drop_eq_getElem_cons hx, List.drop_eq_getElem_cons hy, cmpL]
theorem cmpL_long {X Y : List Int} {k : Nat} (hx : k < X.length) (hy : Y.length ≤ k) : cmpL (X.drop k) (Y.drop k) = 1 := by
  rw [List.drop_eq_getElem_cons hx, List.drop_eq_nil_of_le hy, cmpL]
theorem cmpL_short {X Y : List Int} {k : Nat} (hx : X.length ≤ k) (hy : k < Y.length) : cmpL (X.drop k) (Y.drop k) = -1 := by
  rw [List.drop_eq_getElem_cons hy, List.drop_eq_nil_of_le hx, cmpL]
theorem cmpL_end {X Y : List Int} {k : Nat} (hx : X.length ≤ k) (hy : Y.length ≤ k) : cmpL (X.drop k) (Y.drop k) = 0 := by
  rw [List.drop_eq_nil_of_le hy, List.drop_eq_nil_of_le hx, cmpL]

set_option maxHeartbeats 4000000 in
set_option maxRecDepth 100000 in
theorem compare_any (a b : Option Addr) (g g' cap cap' : Nat) (X Y : List Int) (w : World) (hX : RowIs w a g X) (hY : RowIs w b g' Y) (hx : X.length ≤ 1000000000000000) (hy : Y.length ≤ 1000000000000000) :
    Calls Try.prog 33 #[.slice a X.length cap, .slice b Y.length cap'] w fun e w' => e = .returned (.int .i64 (cmpL X Y)) ∧ w' = w := by
  have HX := hid hX
  have HY := hid hY
  clear hX hY
  go_enter Try.func33, Try.ntmps33
  go_wp2
  go_loopw [11] (fun i wr => ∃ k : Nat, i = .int .i64 k ∧ k ≤ X.length ∧ k ≤ Y.length ∧ Hid (cmpL X Y = cmpL (X.drop k) (Y.drop k)) ∧ wr = w)
    (fun i _ => X.length - (intOf i).toNat)
  case atStart => exact ⟨0, rfl, Nat.zero_le _, Nat.zero_le _, hid (by simp), rfl⟩
  case round =>
    obtain ⟨k, rfl, hk, hky, hE, rfl⟩ := hrel
    by_cases hlt : k < X.length
    · have hix := index36 HX.out.addr cap k hlt
      have c0 := HX.out.cells k hlt
      by_cases hlt2 : k < Y.length
      · have hiy := index36 HY.out.addr cap' k hlt2
        have d0 := HY.out.cells k hlt2
        have hS := cmpL_step hlt hlt2
        have C := fun W => cmp_any X[k] Y[k] W
        generalize X[k] = x at *
        generalize Y[k] = y at *
        by_cases h1 : x < y
        · rw [if_pos h1] at hS
          simp only [if_pos h1] at C
          have HE := hid (hE.out.trans hS)
          clear hS hE h1
          go_wp2_with (go_at_call 37; refine (C _).mono ?_; rintro e w' ⟨rfl, rfl⟩)
          go_ret
          exact ⟨by rw [HE.out]; rfl, rfl⟩
        · rw [if_neg h1] at hS
          simp only [if_neg h1] at C
          by_cases h2 : y < x
          · rw [if_pos h2] at hS
            simp only [if_pos h2] at C
            have HE := hid (hE.out.trans hS)
            clear hS hE h1 h2
            go_wp2_with (go_at_call 37; refine (C _).mono ?_; rintro e w' ⟨rfl, rfl⟩)
            go_ret
            exact ⟨by rw [HE.out]; rfl, rfl⟩
          · rw [if_neg h2] at hS
            simp only [if_neg h2] at C
            have HE := hid (hE.out.trans hS)
            clear hS hE h1 h2
            go_wp2_with (go_at_call 37; refine (C _).mono ?_; rintro e w' ⟨rfl, rfl⟩)
            go_roundw
            case rel => exact ⟨k + 1, by go_num, by omega, by omega, HE, trivial⟩
            case measure => simp [intOf]; omega
      · have HE := hid (hE.out.trans (cmpL_long hlt (by omega)))
        clear hE
        go_wp2
        go_ret
        exact ⟨by rw [HE.out]; rfl, rfl⟩
    · by_cases hlt2 : X.length < Y.length
      · have HE := hid (hE.out.trans (cmpL_short (by omega) (by omega)))
        clear hE
        go_wp2
        go_ret
        exact ⟨by rw [HE.out]; rfl, rfl⟩
      · have HE := hid (hE.out.trans (cmpL_end (by omega) (by omega)))
        clear hE
        go_wp2
        go_ret
        exact ⟨by rw [HE.out]; rfl, rfl⟩
end Go.Proofs.Ythbcbnihghmniaa

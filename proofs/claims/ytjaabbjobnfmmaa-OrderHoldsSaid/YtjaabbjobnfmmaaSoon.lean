/-
  order.sooner: which of two calls ends first.
-/
import Derived.Test.YtjaabbjobnfmmaaRotB
import Derived.Deep.QuietTactic
import Derived.BigQuiet
namespace Go.Proofs.Ytjaabbjobnfmmaa
open Go.RowKit

/-- Which of two ends is sooner; a pending one is last. -/
def snr (a b : Int) : Int := if a = b then 0 else if b < 0 ∨ (0 ≤ a ∧ a < b) then -1 else 1

/-- The calls' ends, as they lie in memory, and not in the row's block g. -/
structure Tos (w : World) (g : Nat) (p : Nat → Nat) (t : Nat → Int) (N : Nat) : Prop where
  cell : ∀ i, i < N → w.cell? ⟨p i, 5, none⟩ = some (.int .i64 (t i))
  ne : ∀ i, i < N → p i ≠ g
theorem Tos.fr {w w' : World} {g : Nat} {p : Nat → Nat} {t : Nat → Int} {N : Nat} (h : Tos w g p t N) (hf : Fr (· = g) w w') : Tos w' g p t N :=
  ⟨fun i hi => (hf.cell (p := ⟨p i, 5, none⟩) (World.block_lt_of_cell? w _ (h.cell i hi)) (h.ne i hi)).trans (h.cell i hi), h.ne⟩
theorem Tos.fr0 {w w' : World} {g : Nat} {p : Nat → Nat} {t : Nat → Int} {N : Nat} (h : Tos w g p t N) (hf : Fr0 w w') : Tos w' g p t N := h.fr (hf.mono (fun _ _ h => h.elim))

set_option maxRecDepth 100000 in
set_option maxHeartbeats 1000000 in
theorem sooner_cell (b1 b2 : Nat) (x y : Int) (w : World) (h1 : w.cell? ⟨b1, 5, none⟩ = some (.int .i64 x)) (h2 : w.cell? ⟨b2, 5, none⟩ = some (.int .i64 y)) :
    Calls Try.prog 55 #[.pointer (some ⟨b1, 0, none⟩), .pointer (some ⟨b2, 0, none⟩)] w fun e w' => e = .returned (.int .i64 (snr x y)) ∧ Fr0 w w' := by
  unfold snr
  by_cases he : x = y
  · rw [if_pos he]
    have e1 : (x == y) = true := by simp [he]
    clear he
    go_enter Try.func55, Try.ntmps55
    go_wp2
    go_quiet (fail)
    go_wp2
    go_ret
    exact ⟨rfl, (Fr.refl _ w).drewN _⟩
  · rw [if_neg he]
    have e1 : (x == y) = false := by simp [he]
    by_cases hy : y < 0
    · rw [if_pos (.inl hy)]
      clear he
      have e2 : decide (y < 0) = true := by simp [hy]
      go_enter Try.func55, Try.ntmps55
      go_wp2
      go_quiet (fail)
      go_wp2
      go_quiet (fail)
      go_wp2
      go_ret
      exact ⟨rfl, ((Fr.refl _ w).drewN _).drewN _⟩
    · have e2 : decide (y < 0) = false := by simp [hy]
      by_cases hx : 0 ≤ x
      · have e3 : decide (0 ≤ x) = true := by simp [hx]
        by_cases hxy : x < y
        · rw [if_pos (.inr ⟨hx, hxy⟩)]
          have e4 : decide (x < y) = true := by simp [hxy]
          clear he hy
          go_enter Try.func55, Try.ntmps55
          go_wp2
          go_quiet (fail)
          go_wp2
          go_quiet (fail)
          go_wp2
          go_ret
          exact ⟨rfl, ((Fr.refl _ w).drewN _).drewN _⟩
        · rw [if_neg (by omega)]
          have e4 : decide (x < y) = false := by simp [hxy]
          clear he hy
          go_enter Try.func55, Try.ntmps55
          go_wp2
          go_quiet (fail)
          go_wp2
          go_quiet (fail)
          go_wp2
          go_ret
          exact ⟨rfl, ((Fr.refl _ w).drewN _).drewN _⟩
      · rw [if_neg (by omega)]
        have e3 : decide (0 ≤ x) = false := by simp [hx]
        clear he hy
        go_enter Try.func55, Try.ntmps55
        go_wp2
        go_quiet (fail)
        go_wp2
        go_quiet (fail)
        go_wp2
        go_ret
        exact ⟨rfl, ((Fr.refl _ w).drewN _).drewN _⟩

theorem sooner_any {w : World} {g : Nat} {p : Nat → Nat} {t : Nat → Int} {N : Nat} (h : Tos w g p t N) (i j : Nat) (hi : i < N) (hj : j < N) :
    Calls Try.prog 55 #[pv p i, pv p j] w fun e w' => e = .returned (.int .i64 (snr (t i) (t j))) ∧ Fr0 w w' := sooner_cell _ _ _ _ w (h.cell i hi) (h.cell j hj)
end Go.Proofs.Ytjaabbjobnfmmaa

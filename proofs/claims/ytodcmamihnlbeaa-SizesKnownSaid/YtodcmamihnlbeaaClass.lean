/-
  The sizes' table and the binary search in it; Class and Size of the program and of the document.
-/
import Derived.Test.YtodcmamihnlbeaaRow
import Derived.Test.YtodcmamihnlbeaaRows
import Derived.WalkSpells
import Derived.WalkLawsBesides
namespace Go.Proofs.Ytodcmamihnlbeaa
open Go.RowKit

/-- The sizes. -/
def sz : List Int := [8, 16, 32, 48, 64, 96, 128, 192, 256, 512]

theorem fr0_alloc (w : World) (o : Obj) : Fr0 w (w.alloc o) := (Fr.refl _ w).alloc o

set_option maxRecDepth 100000 in
theorem table_any (w : World) : Calls Try.prog 17 #[] w fun e w' =>
    e = .returned (.agg #[.int .i64 8, .int .i64 16, .int .i64 32, .int .i64 48, .int .i64 64, .int .i64 96, .int .i64 128, .int .i64 192, .int .i64 256, .int .i64 512]) ∧ Fr0 w w' := by
  go_enter Try.func17, Try.ntmps17
  go_wp2
  exact bodyPost_ret (v := .agg #[.int .i64 8, .int .i64 16, .int .i64 32, .int .i64 48, .int .i64 64, .int .i64 96, .int .i64 128, .int .i64 192, .int .i64 256, .int .i64 512]) (by simp [results, Try.results17, go_sem]) rfl ⟨rfl, fr0_alloc _ _⟩

/-- The document's table, in a row of its own. -/
def TableAt (w : World) (b : Nat) : Prop := w.heap[b]? = some (.cells #[.int .i64 8, .int .i64 16, .int .i64 32, .int .i64 48, .int .i64 64, .int .i64 96, .int .i64 128, .int .i64 192, .int .i64 256, .int .i64 512] 3 (0, 0))

theorem all_any (w : World) : Calls Try.prog 19 #[] w fun e w' => e = .returned (.slice (some ⟨w.heap.size, 0, none⟩) 10 10) ∧ Fr0 w w' ∧ TableAt w' w.heap.size := by
  go_enter Try.func19, Try.ntmps19
  go_wp2
  go_ret
  exact ⟨rfl, fr0_alloc _ _, alloc_block _ _⟩

theorem nan_any (x : Int) (w : World) : Calls Try.prog 22 #[.int .i64 x] w fun e w' => e = .returned (.bool false) ∧ w = w' := by
  go_enter Try.func22, Try.ntmps22
  go_wp2
  go_ret
  exact ⟨by simp, rfl⟩
theorem nan2_any (x : Int) (w : World) : Calls Try.prog 23 #[.int .i64 x] w fun e w' => e = .returned (.bool false) ∧ w = w' := by
  go_enter Try.func23, Try.ntmps23
  go_wp2
  go_ret
  exact ⟨by simp, rfl⟩
set_option maxHeartbeats 400000 in
theorem less_any (x y : Int) (w : World) : Calls Try.prog 21 #[.int .i64 x, .int .i64 y] w fun e w' => e = .returned (.bool (decide (x < y))) ∧ w = w' := by
  go_enter Try.func21, Try.ntmps21
  go_wp2_with (go_at_call 23; refine (nan2_any _ _).mono ?_; rintro e w' ⟨rfl, rfl⟩)
  go_ret
  exact ⟨rfl, rfl⟩

/-- The sizes as cells, wherever they lie. -/
structure SzAt (w : World) (b : Nat) : Prop where
  cells : ∀ i (h : i < sz.length), w.cell? ⟨b, i, none⟩ = some (.int .i64 sz[i])

theorem sz_len : sz.length = 10 := rfl

theorem sz_sorted : ∀ a b (ha : a < sz.length) (hb : b < sz.length), a ≤ b → sz[a] ≤ sz[b] := by
  have h : ∀ a < 10, ∀ b < 10, a ≤ b → sz[a]! ≤ sz[b]! := by decide
  intro a b ha hb hab
  have := h a ha b hb hab
  rwa [getElem!_pos sz a ha, getElem!_pos sz b hb] at this

set_option maxHeartbeats 800000 in
theorem search_any (b : Nat) (x : Int) (w : World) (h : SzAt w b) : Calls Try.prog 18 #[.slice (some ⟨b, 0, none⟩) 10 10, .int .i64 x] w fun e w' =>
    ∃ (i : Nat) (f : Bool), e = .returned (.tuple #[.int .i64 i, .bool f]) ∧ i ≤ 10 ∧ (∀ k (hk : k < sz.length), k < i → sz[k] < x) ∧ (∀ k (hk : k < sz.length), i ≤ k → x ≤ sz[k]) ∧ w = w' := by
  have HC := hid h.cells
  clear h
  go_enter Try.func18, Try.ntmps18
  go_wp2
  go_loop [7, 8] (fun i j => ∃ i' j' : Nat, i = .int .i64 i' ∧ j = .int .i64 j' ∧ i' ≤ j' ∧ j' ≤ 10 ∧ Hid (∀ k (hk : k < sz.length), k < i' → sz[k] < x) ∧ Hid (∀ k (hk : k < sz.length), j' ≤ k → x ≤ sz[k]))
    (fun i j => (intOf j - intOf i).toNat)
  case atStart => exact ⟨0, 10, rfl, rfl, by omega, by omega, hid (fun _ _ h => absurd h (Nat.not_lt_zero _)), hid (fun k hk h => by rw [sz_len] at hk; omega)⟩
  case round =>
    obtain ⟨i, j, rfl, rfl, hij, hj, hlo, hhi⟩ := hrel
    by_cases hlt : i < j
    · have hm1 : (i + j) / 2 < j := by omega
      have hm0 : i ≤ (i + j) / 2 := by omega
      have hml : (i + j) / 2 < sz.length := by rw [sz_len]; omega
      have hc := HC.out _ hml
      obtain ⟨v, hv⟩ : ∃ v, v = sz[(i + j) / 2] := ⟨_, rfl⟩
      rw [← hv] at hc
      have HV := hid hv
      have HM := hid hml
      clear hv
      by_cases hvx : v < x
      · go_wp2_with (go_at_call 21; refine (less_any _ _ _).mono ?_; rintro e w' ⟨rfl, rfl⟩)
        go_round
        case rel => exact ⟨(i + j) / 2 + 1, j, by go_num, rfl, by omega, hj, hid (fun k hk hki => by
          have := sz_sorted k _ hk HM.out (by omega)
          have := HV.out
          omega), hhi⟩
        case measure => simp [intOf]; omega
      · have hvd : decide (v < x) = false := by simp; omega
        go_wp2_with (go_at_call 21; refine (less_any _ _ _).mono ?_; rintro e w' ⟨rfl, rfl⟩)
        go_round
        case rel => exact ⟨i, (i + j) / 2, rfl, by go_num, hm0, by omega, hlo, hid (fun k hk hki => by
          have := sz_sorted _ k HM.out hk (by omega)
          have := HV.out
          omega)⟩
        case measure => simp [intOf]; omega
    · have hji : j = i := by omega
      subst hji
      by_cases hl : j < 10
      · have hc := HC.out j hl
        obtain ⟨v, hv⟩ : ∃ v, v = sz[j] := ⟨_, rfl⟩
        rw [← hv] at hc
        clear hv
        by_cases hvx : v = x
        · have hb : (v == x) = true := by simp [hvx]
          clear hvx
          go_wp2_with (go_at_call 22; refine (nan_any _ _).mono ?_; rintro e w' ⟨rfl, rfl⟩)
          go_ret2
          first | exact ⟨j, _, rfl, hj, hlo.out, hhi.out, rfl⟩ | exact ⟨j, ⟨_, rfl⟩, hj, hlo.out, hhi.out, rfl⟩ | exact ⟨j, by simp [go_sem], hj, hlo.out, hhi.out, rfl⟩
        · have hb : (v == x) = false := by simp [hvx]
          clear hvx
          go_wp2_with (go_at_call 22; refine (nan_any _ _).mono ?_; rintro e w' ⟨rfl, rfl⟩)
          go_ret2
          first | exact ⟨j, _, rfl, hj, hlo.out, hhi.out, rfl⟩ | exact ⟨j, ⟨_, rfl⟩, hj, hlo.out, hhi.out, rfl⟩ | exact ⟨j, by simp [go_sem], hj, hlo.out, hhi.out, rfl⟩
      · go_wp2
        go_ret2
        first | exact ⟨j, _, rfl, hj, hlo.out, hhi.out, rfl⟩ | exact ⟨j, ⟨_, rfl⟩, hj, hlo.out, hhi.out, rfl⟩ | exact ⟨j, by simp [go_sem], hj, hlo.out, hhi.out, rfl⟩
end Go.Proofs.Ytodcmamihnlbeaa

/-
  A row of pointers to calls in memory, and what slices.swapRangeCmpFunc, slices.rotateCmpFunc make of it.
-/
import Derived.Test.YtjaabbjobnfmmaaRefB
import Derived.Test.YtjaabbjobnfmmaaRows
import Derived.WalkKit
import Derived.WalkSpells
import Derived.WalkLawsBesides
import Derived.BigRegion
namespace Go.Proofs.Ytjaabbjobnfmmaa
open Go.RowKit

/-- The pointer to a call that lies in block p i. -/
def pv (p : Nat → Nat) (i : Nat) : Value := .pointer (some ⟨p i, 0, none⟩)

/-- Block g holds a row of pointers to the calls L. -/
def PRow (w : World) (g : Nat) (p : Nat → Nat) (L : List Nat) : Prop := ∃ cur, w.heap[g]? = some (.cells cur 78 (0, 0)) ∧ cur.toList.take L.length = L.map (pv p)

section
variable {w w' : World} {g : Nat} {p : Nat → Nat} {L : List Nat} {X : Nat → Prop}
theorem PRow.lt (h : PRow w g p L) : g < w.heap.size := by obtain ⟨cur, h, _⟩ := h; exact lt_of_block h
theorem PRow.fr (h : PRow w g p L) (hf : Fr X w w') (hx : ¬ X g) : PRow w' g p L := by
  obtain ⟨cur, h1, h2⟩ := h
  exact ⟨cur, hf.at h1 hx, h2⟩
theorem PRow.cell (h : PRow w g p L) (i : Nat) (hi : i < L.length) : w.cell? ⟨g, i, none⟩ = some (pv p L[i]) := by
  obtain ⟨cur, h1, h2⟩ := h
  rw [cell_of_block h1]
  have := congrArg (fun l => l[i]?) h2
  simp only [List.getElem?_take, hi, if_true, List.getElem?_map, List.getElem?_eq_getElem hi, Option.map_some] at this
  simpa using this
theorem PRow.free (h : PRow w g p L) (i : Nat) : w.frozen? ⟨g, i, none⟩ = false := by
  obtain ⟨cur, h1, h2⟩ := h
  exact free_of_block h1 i
theorem PRow.drew (h : PRow w g p L) : PRow w.drew g p L := h
theorem PRow.set (h : PRow w g p L) (i : Nat) (x : Nat) : PRow (w.setCell ⟨g, i, none⟩ (pv p x)) g p (L.set i x) := by
  obtain ⟨cur, h1, h2⟩ := h
  refine ⟨_, setCell_block h1 i _, ?_⟩
  rw [List.length_set, Array.toList_setIfInBounds, List.take_set, h2, List.map_set]

theorem index75 (g n cap k : Nat) (hk : k < n) (W : World) : (Instr.indexAt 75 (.slice (some ⟨g, 0, none⟩) n cap) (.int .i64 k)).run Try.prog W = .ok (.pointer (some ⟨g, k, none⟩)) W := by
  have hs : (sizeOf 78).run Try.prog W = .ok 1 W := by go_simp
  have := index_of0 (n := n) (a := some ⟨g, 0, none⟩) Try.underlying75 W hs (fun _ => rfl) cap k hk
  simpa using this

/-- Two of a row exchanged. -/
def sw (L : List Nat) (i j : Nat) : List Nat := (L.set i (L.getD j 0)).set j (L.getD i 0)
theorem sw_length (L : List Nat) (i j : Nat) : (sw L i j).length = L.length := by simp [sw]
theorem sw_at (A M B : List Nat) (a b : Nat) (i j : Nat) (hi : i = A.length) (hj : j = A.length + 1 + M.length) : sw (A ++ a :: M ++ b :: B) i j = A ++ b :: M ++ a :: B := by
  subst hi hj
  unfold sw
  have e1 : (A ++ a :: M ++ b :: B).getD (A.length + 1 + M.length) 0 = b := by
    rw [List.getD_eq_getElem?_getD, List.getElem?_append_right (by simp; omega)]
    have : A.length + 1 + M.length - (A ++ a :: M).length = 0 := by simp; omega
    rw [this]; rfl
  have e2 : (A ++ a :: M ++ b :: B).getD A.length 0 = a := by
    rw [List.getD_eq_getElem?_getD, List.append_assoc, List.getElem?_append_right (Nat.le_refl _)]
    simp
  rw [e1, e2]
  have e3 : (A ++ a :: M ++ b :: B).set A.length b = A ++ b :: M ++ b :: B := by
    rw [List.append_assoc, List.set_append_right _ _ (Nat.le_refl _)]
    simp
  rw [e3, List.set_append_right _ _ (by simp; omega)]
  have : A.length + 1 + M.length - (A ++ b :: M).length = 0 := by simp; omega
  rw [this]; rfl

theorem PRow.swap (h : PRow w g p L) (i j : Nat) (hi : i < L.length) (hj : j < L.length) : PRow ((w.setCell ⟨g, i, none⟩ (pv p L[j])).setCell ⟨g, j, none⟩ (pv p L[i])) g p (sw L i j) := by
  have := (h.set i L[j]).set j L[i]
  unfold sw
  rw [List.getD_eq_getElem?_getD, List.getD_eq_getElem?_getD, List.getElem?_eq_getElem hi, List.getElem?_eq_getElem hj]
  exact this
end

/-- The row X A M B Y, of A and B the first k exchanged. -/
def mixAt (X A M B Y : List Nat) (k : Nat) : List Nat := X ++ B.take k ++ A.drop k ++ M ++ A.take k ++ B.drop k ++ Y

theorem mixAt_length (X A M B Y : List Nat) (k : Nat) (hk : k ≤ A.length) (hAB : A.length = B.length) : (mixAt X A M B Y k).length = X.length + A.length + M.length + B.length + Y.length := by
  simp [mixAt, Nat.min_eq_left hk, Nat.min_eq_left (hAB ▸ hk)]; omega

theorem mixAt_form (X A M B Y : List Nat) (k : Nat) (hk : k < A.length) (hB : k < B.length) :
    mixAt X A M B Y k = (X ++ B.take k) ++ A[k] :: (A.drop (k + 1) ++ M ++ A.take k) ++ B[k] :: (B.drop (k + 1) ++ Y) := by
  unfold mixAt
  rw [List.drop_eq_getElem_cons hk, List.drop_eq_getElem_cons hB]
  simp only [List.append_assoc, List.cons_append]
theorem mixAt_succ (X A M B Y : List Nat) (k : Nat) (hk : k < A.length) (hB : k < B.length) :
    (X ++ B.take k) ++ B[k] :: (A.drop (k + 1) ++ M ++ A.take k) ++ A[k] :: (B.drop (k + 1) ++ Y) = mixAt X A M B Y (k + 1) := by
  unfold mixAt
  rw [take_snoc' B k hB, take_snoc' A k hk]
  simp only [List.append_assoc, List.cons_append, List.nil_append]
theorem mixAt_sw (X A M B Y : List Nat) (k : Nat) (hk : k < A.length) (hAB : A.length = B.length) : sw (mixAt X A M B Y k) (X.length + k) (X.length + A.length + M.length + k) = mixAt X A M B Y (k + 1) := by
  have hB : k < B.length := hAB ▸ hk
  rw [mixAt_form X A M B Y k hk hB, sw_at _ _ _ _ _ _ _ (by simp; omega) (by simp; omega), mixAt_succ X A M B Y k hk hB]
theorem mixAt_zero (X A M B Y : List Nat) : mixAt X A M B Y 0 = X ++ A ++ M ++ B ++ Y := by simp [mixAt]
theorem mixAt_all (X A M B Y : List Nat) (hAB : A.length = B.length) : mixAt X A M B Y A.length = X ++ B ++ M ++ A ++ Y := by
  have h1 : B.take A.length = B := by rw [hAB]; exact List.take_length ..
  have h2 : B.drop A.length = [] := by rw [hAB]; exact List.drop_length ..
  simp [mixAt, h1, h2]

set_option maxRecDepth 100000 in
set_option maxHeartbeats 1000000 in
theorem swapRange_any (g cap : Nat) (p : Nat → Nat) (X A M B Y : List Nat) (hAB : A.length = B.length) (cmp : Value) (a b n len : Nat) (ha : a = X.length) (hb : b = X.length + A.length + M.length) (hn : n = A.length)
    (hlen : len = X.length + A.length + M.length + B.length + Y.length) (hcap : len ≤ 4398046511104) (w : World) (h : PRow w g p (X ++ A ++ M ++ B ++ Y)) :
    Calls Try.prog 97 #[.slice (some ⟨g, 0, none⟩) len cap, .int .i64 a, .int .i64 b, .int .i64 n, cmp] w fun e w' => e = .returned (.tuple #[]) ∧ Fr (· = g) w w' ∧ PRow w' g p (X ++ B ++ M ++ A ++ Y) := by
  rw [← mixAt_zero] at h
  have H := hid h
  have HN := hid (And.intro ha (And.intro hb (And.intro hn hlen)))
  have h1 : a + n ≤ b := by omega
  have h2 : b + n ≤ len := by omega
  clear h ha hb hn hlen
  go_enter Try.func97, Try.ntmps97
  go_wp2
  go_loopw [10] (fun i wr => ∃ k : Nat, i = .int .i64 k ∧ k ≤ n ∧ Hid (PRow wr g p (mixAt X A M B Y k) ∧ Fr (· = g) w wr)) (fun i _ => n - (intOf i).toNat)
  case atStart => exact ⟨0, rfl, Nat.zero_le _, hid ⟨H.out, Fr.refl _ _⟩⟩
  case round =>
    obtain ⟨k, rfl, hk, hR⟩ := hrel
    by_cases hlt : k < n
    · have hA : k < A.length := by have := HN.out.2.2.1; omega
      have hml := mixAt_length X A M B Y k (by omega) hAB
      have hl1 : a + k < (mixAt X A M B Y k).length := by have := HN.out; omega
      have hl2 : b + k < (mixAt X A M B Y k).length := by have := HN.out; omega
      have c1 := hR.out.1.cell (a + k) hl1
      have c2 := hR.out.1.cell (b + k) hl2
      have f1 := hR.out.1.free (a + k)
      have f2 := hR.out.1.free (b + k)
      have i1 := index75 g len cap (a + k) (by omega)
      have i2 := index75 g len cap (b + k) (by omega)
      have hs := hR.out.1.drew.swap (a + k) (b + k) hl1 hl2
      have e := mixAt_sw X A M B Y k hA hAB
      rw [← HN.out.2.1, ← HN.out.1] at e
      rw [e] at hs
      have HS := hid (And.intro hs (((hR.out.2.drew).setCell (p := ⟨g, a + k, none⟩) (fun _ => rfl) (pv p (mixAt X A M B Y k)[b + k])).setCell (p := ⟨g, b + k, none⟩) (fun _ => rfl) (pv p (mixAt X A M B Y k)[a + k])))
      clear hs e hml hA
      simp only [pv] at c1 c2 HS
      generalize hv1 : p (mixAt X A M B Y k)[a + k] = v1 at c1 HS
      generalize hv2 : p (mixAt X A M B Y k)[b + k] = v2 at c2 HS
      clear hv1 hv2 hR hl1 hl2
      rw [Int.natCast_add] at i1 i2
      go_wp2
      go_region
      go_wp2
      go_roundw
      case rel => exact ⟨k + 1, by go_num, by omega, hid HS.out⟩
      case measure => simp [intOf]; omega
    · have hk2 : k = A.length := by have := HN.out; omega
      have hR2 := hR.out
      rw [hk2, mixAt_all X A M B Y hAB] at hR2
      have HE := hid hR2
      clear hR2 hR hk2
      go_wp2
      go_end0
      exact ⟨rfl, HE.out.2, HE.out.1⟩
end Go.Proofs.Ytjaabbjobnfmmaa

/-
  A row of pointers to calls in memory, and what slices.swapRangeCmpFunc, slices.rotateCmpFunc make of it. slices.rotateCmpFunc at a row of pointers. order.sooner: which of two calls ends first. The order of calls by their ends, then by their places: plain laws, for slices.SortStableFunc. slices.insertionSortCmpFunc at a row of pointers to calls. slices.symMergeCmpFunc, where the first row is one call. slices.symMergeCmpFunc, where the second row is one call. The plain law of the symmetric merge: where the two rows are cut.
-/
import Derived.Test.YtjaabbjobnfmmaaGRef
import Derived.Test.YtjaabbjobnfmmaaRows
import Derived.WalkKit
import Derived.WalkSpells
import Derived.WalkLawsBesides
import Derived.BigRegion
import Derived.Deep.QuietTactic
import Derived.BigQuiet
import Derived.Test.YtjaabbjobnfmmaaExt
import Derived.IntWalk
namespace Go.Proofs.Ytjaabbjobnfmmaa
open Go.RowKit

/-- The pointer to a call that lies in block p i. -/
def pv (p : Nat → Nat) (i : Nat) : Value := .pointer (some ⟨p i, 0, none⟩)

/-- Block g holds a row of pointers to the calls L. -/
def PRow (w : World) (g : Nat) (p : Nat → Nat) (L : List Nat) : Prop := ∃ cur, w.heap[g]? = some (.cells cur 78 (0, 0)) ∧ cur.toList.take L.length = L.map (pv p)

section
variable {w w' : World} {g : Nat} {p : Nat → Nat} {L : List Nat} {X : Nat → Prop}
theorem PRow.lt (h : PRow w g p L) : g < w.heap.size := by obtain ⟨cur, h, _⟩ := h; exact lt_of_block h
theorem PRow.fr (h : PRow w g p L) (hf : Fr X w w') (hx : ¬ X g) : PRow w' g p L := by
  obtain ⟨cur, h1, h2⟩ := h
  exact ⟨cur, hf.at h1 hx, h2⟩
theorem PRow.cell (h : PRow w g p L) (i : Nat) (hi : i < L.length) : w.cell? ⟨g, i, none⟩ = some (pv p L[i]) := by
  obtain ⟨cur, h1, h2⟩ := h
  rw [cell_of_block h1]
  have := congrArg (fun l => l[i]?) h2
  simp only [List.getElem?_take, hi, if_true, List.getElem?_map, List.getElem?_eq_getElem hi, Option.map_some] at this
  simpa using this
theorem PRow.free (h : PRow w g p L) (i : Nat) : w.frozen? ⟨g, i, none⟩ = false := by
  obtain ⟨cur, h1, h2⟩ := h
  exact free_of_block h1 i
theorem PRow.drew (h : PRow w g p L) : PRow w.drew g p L := h
theorem PRow.set (h : PRow w g p L) (i : Nat) (x : Nat) : PRow (w.setCell ⟨g, i, none⟩ (pv p x)) g p (L.set i x) := by
  obtain ⟨cur, h1, h2⟩ := h
  refine ⟨_, setCell_block h1 i _, ?_⟩
  rw [List.length_set, Array.toList_setIfInBounds, List.take_set, h2, List.map_set]

theorem index75 (g n cap k : Nat) (hk : k < n) (W : World) : (Instr.indexAt 75 (.slice (some ⟨g, 0, none⟩) n cap) (.int .i64 k)).run Try.prog W = .ok (.pointer (some ⟨g, k, none⟩)) W := by
  have hs : (sizeOf 78).run Try.prog W = .ok 1 W := by go_simp
  have := index_of0 (n := n) (a := some ⟨g, 0, none⟩) Try.underlying75 W hs (fun _ => rfl) cap k hk
  simpa using this

/-- Two of a row exchanged. -/
def sw (L : List Nat) (i j : Nat) : List Nat := (L.set i (L.getD j 0)).set j (L.getD i 0)
theorem sw_length (L : List Nat) (i j : Nat) : (sw L i j).length = L.length := by simp [sw]
theorem sw_at (A M B : List Nat) (a b : Nat) (i j : Nat) (hi : i = A.length) (hj : j = A.length + 1 + M.length) : sw (A ++ a :: M ++ b :: B) i j = A ++ b :: M ++ a :: B := by
  subst hi hj
  unfold sw
  have e1 : (A ++ a :: M ++ b :: B).getD (A.length + 1 + M.length) 0 = b := by
    rw [List.getD_eq_getElem?_getD, List.getElem?_append_right (by simp; omega)]
    have : A.length + 1 + M.length - (A ++ a :: M).length = 0 := by simp; omega
    rw [this]; rfl
  have e2 : (A ++ a :: M ++ b :: B).getD A.length 0 = a := by
    rw [List.getD_eq_getElem?_getD, List.append_assoc, List.getElem?_append_right (Nat.le_refl _)]
    simp
  rw [e1, e2]
  have e3 : (A ++ a :: M ++ b :: B).set A.length b = A ++ b :: M ++ b :: B := by
    rw [List.append_assoc, List.set_append_right _ _ (Nat.le_refl _)]
    simp
  rw [e3, List.set_append_right _ _ (by simp; omega)]
  have : A.length + 1 + M.length - (A ++ b :: M).length = 0 := by simp; omega
  rw [this]; rfl

theorem PRow.swap (h : PRow w g p L) (i j : Nat) (hi : i < L.length) (hj : j < L.length) : PRow ((w.setCell ⟨g, i, none⟩ (pv p L[j])).setCell ⟨g, j, none⟩ (pv p L[i])) g p (sw L i j) := by
  have := (h.set i L[j]).set j L[i]
  unfold sw
  rw [List.getD_eq_getElem?_getD, List.getD_eq_getElem?_getD, List.getElem?_eq_getElem hi, List.getElem?_eq_getElem hj]
  exact this
end

/-- The row X A M B Y, of A and B the first k exchanged. -/
def mixAt (X A M B Y : List Nat) (k : Nat) : List Nat := X ++ B.take k ++ A.drop k ++ M ++ A.take k ++ B.drop k ++ Y

theorem mixAt_length (X A M B Y : List Nat) (k : Nat) (hk : k ≤ A.length) (hAB : A.length = B.length) : (mixAt X A M B Y k).length = X.length + A.length + M.length + B.length + Y.length := by
  simp [mixAt, Nat.min_eq_left hk, Nat.min_eq_left (hAB ▸ hk)]; omega

theorem mixAt_form (X A M B Y : List Nat) (k : Nat) (hk : k < A.length) (hB : k < B.length) :
    mixAt X A M B Y k = (X ++ B.take k) ++ A[k] :: (A.drop (k + 1) ++ M ++ A.take k) ++ B[k] :: (B.drop (k + 1) ++ Y) := by
  unfold mixAt
  rw [List.drop_eq_getElem_cons hk, List.drop_eq_getElem_cons hB]
  simp only [List.append_assoc, List.cons_append]
theorem mixAt_succ (X A M B Y : List Nat) (k : Nat) (hk : k < A.length) (hB : k < B.length) :
    (X ++ B.take k) ++ B[k] :: (A.drop (k + 1) ++ M ++ A.take k) ++ A[k] :: (B.drop (k + 1) ++ Y) = mixAt X A M B Y (k + 1) := by
  unfold mixAt
  rw [take_snoc' B k hB, take_snoc' A k hk]
  simp only [List.append_assoc, List.cons_append, List.nil_append]
theorem mixAt_sw (X A M B Y : List Nat) (k : Nat) (hk : k < A.length) (hAB : A.length = B.length) : sw (mixAt X A M B Y k) (X.length + k) (X.length + A.length + M.length + k) = mixAt X A M B Y (k + 1) := by
  have hB : k < B.length := hAB ▸ hk
  rw [mixAt_form X A M B Y k hk hB, sw_at _ _ _ _ _ _ _ (by simp; omega) (by simp; omega), mixAt_succ X A M B Y k hk hB]
theorem mixAt_zero (X A M B Y : List Nat) : mixAt X A M B Y 0 = X ++ A ++ M ++ B ++ Y := by simp [mixAt]
theorem mixAt_all (X A M B Y : List Nat) (hAB : A.length = B.length) : mixAt X A M B Y A.length = X ++ B ++ M ++ A ++ Y := by
  have h1 : B.take A.length = B := by rw [hAB]; exact List.take_length ..
  have h2 : B.drop A.length = [] := by rw [hAB]; exact List.drop_length ..
  simp [mixAt, h1, h2]

set_option maxRecDepth 100000 in
set_option maxHeartbeats 1000000 in
theorem swapRange_any (g cap : Nat) (p : Nat → Nat) (X A M B Y : List Nat) (hAB : A.length = B.length) (cmp : Value) (a b n len : Nat) (ha : a = X.length) (hb : b = X.length + A.length + M.length) (hn : n = A.length)
    (hlen : len = X.length + A.length + M.length + B.length + Y.length) (hcap : len ≤ 4398046511104) (w : World) (h : PRow w g p (X ++ A ++ M ++ B ++ Y)) :
    Calls Try.prog 97 #[.slice (some ⟨g, 0, none⟩) len cap, .int .i64 a, .int .i64 b, .int .i64 n, cmp] w fun e w' => e = .returned (.tuple #[]) ∧ Fr (· = g) w w' ∧ PRow w' g p (X ++ B ++ M ++ A ++ Y) := by
  rw [← mixAt_zero] at h
  have H := hid h
  have HN := hid (And.intro ha (And.intro hb (And.intro hn hlen)))
  have h1 : a + n ≤ b := by omega
  have h2 : b + n ≤ len := by omega
  clear h ha hb hn hlen
  go_enter Try.func97, Try.ntmps97
  go_wp2
  go_loopw [10] (fun i wr => ∃ k : Nat, i = .int .i64 k ∧ k ≤ n ∧ Hid (PRow wr g p (mixAt X A M B Y k) ∧ Fr (· = g) w wr)) (fun i _ => n - (intOf i).toNat)
  case atStart => exact ⟨0, rfl, Nat.zero_le _, hid ⟨H.out, Fr.refl _ _⟩⟩
  case round =>
    obtain ⟨k, rfl, hk, hR⟩ := hrel
    by_cases hlt : k < n
    · have hA : k < A.length := by have := HN.out.2.2.1; omega
      have hml := mixAt_length X A M B Y k (by omega) hAB
      have hl1 : a + k < (mixAt X A M B Y k).length := by have := HN.out; omega
      have hl2 : b + k < (mixAt X A M B Y k).length := by have := HN.out; omega
      have c1 := hR.out.1.cell (a + k) hl1
      have c2 := hR.out.1.cell (b + k) hl2
      have f1 := hR.out.1.free (a + k)
      have f2 := hR.out.1.free (b + k)
      have i1 := index75 g len cap (a + k) (by omega)
      have i2 := index75 g len cap (b + k) (by omega)
      have hs := hR.out.1.drew.swap (a + k) (b + k) hl1 hl2
      have e := mixAt_sw X A M B Y k hA hAB
      rw [← HN.out.2.1, ← HN.out.1] at e
      rw [e] at hs
      have HS := hid (And.intro hs (((hR.out.2.drew).setCell (p := ⟨g, a + k, none⟩) (fun _ => rfl) (pv p (mixAt X A M B Y k)[b + k])).setCell (p := ⟨g, b + k, none⟩) (fun _ => rfl) (pv p (mixAt X A M B Y k)[a + k])))
      clear hs e hml hA
      simp only [pv] at c1 c2 HS
      generalize hv1 : p (mixAt X A M B Y k)[a + k] = v1 at c1 HS
      generalize hv2 : p (mixAt X A M B Y k)[b + k] = v2 at c2 HS
      clear hv1 hv2 hR hl1 hl2
      rw [Int.natCast_add] at i1 i2
      go_wp2
      go_region
      go_wp2
      go_roundw
      case rel => exact ⟨k + 1, by go_num, by omega, hid HS.out⟩
      case measure => simp [intOf]; omega
    · have hk2 : k = A.length := by have := HN.out; omega
      have hR2 := hR.out
      rw [hk2, mixAt_all X A M B Y hAB] at hR2
      have HE := hid hR2
      clear hR2 hR hk2
      go_wp2
      go_end0
      exact ⟨rfl, HE.out.2, HE.out.1⟩
end Go.Proofs.Ytjaabbjobnfmmaa

namespace Go.Proofs.Ytjaabbjobnfmmaa
open Go.RowKit

theorem swapRange_int (g cap : Nat) (p : Nat → Nat) (X A M B Y : List Nat) (hAB : A.length = B.length) (cmp : Value) (a b n : Int) (len : Nat) (ha : a = X.length) (hb : b = X.length + A.length + M.length) (hn : n = A.length)
    (hlen : len = X.length + A.length + M.length + B.length + Y.length) (hcap : len ≤ 4398046511104) (w : World) (h : PRow w g p (X ++ A ++ M ++ B ++ Y)) :
    Calls Try.prog 97 #[.slice (some ⟨g, 0, none⟩) len cap, .int .i64 a, .int .i64 b, .int .i64 n, cmp] w fun e w' => e = .returned (.tuple #[]) ∧ Fr (· = g) w w' ∧ PRow w' g p (X ++ B ++ M ++ A ++ Y) := by
  have hb2 : b = ((X.length + A.length + M.length : Nat) : Int) := by rw [hb]; omega
  rw [ha, hb2, hn]
  exact swapRange_any g cap p X A M B Y hAB cmp _ _ _ len rfl rfl rfl hlen hcap w h

/-- How the loop of rotate stands. -/
structure RotRel (w wr : World) (g : Nat) (p : Nat → Nat) (len m : Nat) (T X U V Y : List Nat) : Prop where
  row : PRow wr g p (X ++ U ++ V ++ Y)
  fr : Fr (· = g) w wr
  goal : X ++ V ++ U ++ Y = T
  mid : m = X.length + U.length
  len : len = X.length + U.length + V.length + Y.length
  u : 0 < U.length
  v : 0 < V.length

set_option maxRecDepth 100000 in
set_option maxHeartbeats 2000000 in
theorem rotate_any (g cap : Nat) (p : Nat → Nat) (X U V Y : List Nat) (hU : 0 < U.length) (hV : 0 < V.length) (cmp : Value) (a m b len : Nat) (ha : a = X.length) (hm : m = X.length + U.length) (hb : b = X.length + U.length + V.length)
    (hlen : len = X.length + U.length + V.length + Y.length) (hcap : len ≤ 4398046511104) (w : World) (h : PRow w g p (X ++ U ++ V ++ Y)) :
    Calls Try.prog 91 #[.slice (some ⟨g, 0, none⟩) len cap, .int .i64 a, .int .i64 m, .int .i64 b, cmp] w fun e w' => e = .returned (.tuple #[]) ∧ Fr (· = g) w w' ∧ PRow w' g p (X ++ V ++ U ++ Y) := by
  have HR := hid (show RotRel w w g p len m (X ++ V ++ U ++ Y) X U V Y from ⟨h, Fr.refl _ _, rfl, hm, hlen, hU, hV⟩)
  have e1 : m - a = U.length := by omega
  have e2 : b - m = V.length := by omega
  have hma : a ≤ m := by omega
  have hmb : m ≤ b := by omega
  have hbl : b ≤ len := by omega
  have E1 := hid e1
  have E2 := hid e2
  clear h ha hm hb hlen hU hV e1 e2
  generalize X ++ V ++ U ++ Y = T at HR ⊢
  go_enter Try.func91, Try.ntmps91
  go_wp2
  go_loopw [10, 11] (fun i j wr => ∃ ui vj : Nat, i = .int .i64 ui ∧ j = .int .i64 vj ∧ ui ≤ m ∧ vj ≤ len ∧ Hid (∃ X U V Y, RotRel w wr g p len m T X U V Y ∧ ui = U.length ∧ vj = V.length))
    (fun i j _ => (intOf i).toNat + (intOf j).toNat)
  case atStart => exact ⟨m - a, b - m, by congr 1; omega, by congr 1; omega, by omega, by omega, hid ⟨X, U, V, Y, HR.out, E1.out, E2.out⟩⟩
  case round =>
    clear HR E1 E2
    obtain ⟨ui, vj, rfl, rfl, hui, hvj, hR⟩ := hrel
    obtain ⟨X, U, V, Y, hR1, hu, hv⟩ := hR.out
    have HR := hid (And.intro hR1 (And.intro hu hv))
    have hu0 : 0 < ui := by have := hR1.u; omega
    have hv0 : 0 < vj := by have := hR1.v; omega
    have hmv : m + vj ≤ len := by have := hR1.mid; have := hR1.len; omega
    clear hR hR1 hu hv
    rcases Nat.lt_trichotomy ui vj with hlt | heq | hgt
    · have hne : ((ui : Int) != (vj : Int)) = true := by simp; omega
      have hng : ¬ ((vj : Int) < (ui : Int)) := by omega
      have hd : (V.drop (vj - ui)).length = U.length := by have := HR.out.2; simp; omega
      have ht : (V.take (vj - ui)).length = vj - ui := by have := HR.out.2; simp; omega
      have H1 := hid (And.intro hd ht)
      have hrow : PRow wr g p (X ++ U ++ V.take (vj - ui) ++ V.drop (vj - ui) ++ Y) := by
        have := HR.out.1.row
        rw [List.append_assoc (X ++ U), List.take_append_drop]
        exact this
      have hC := swapRange_int g cap p X U (V.take (vj - ui)) (V.drop (vj - ui)) Y hd.symm cmp ((m : Int) - ui) ((m : Int) + vj - ui) ui len (by have := HR.out.1.mid; have := HR.out.2; omega) (by have := HR.out.1.mid; have := HR.out.2; omega) (by have := HR.out.2; omega)
        (by have := HR.out.1.len; have := HR.out.2; omega) hcap wr hrow
      clear hd ht hrow
      go_wp2_with fail
      refine hC.mono ?_
      rintro e w2 ⟨rfl, hf2, hr2⟩
      have HS : Hid (RotRel w w2 g p len m T X (V.drop (vj - ui)) (V.take (vj - ui)) (U ++ Y) ∧ ui = (V.drop (vj - ui)).length ∧ vj - ui = (V.take (vj - ui)).length) := hid (by
        obtain ⟨hd, ht⟩ := H1.out
        have h0 := HR.out
        refine ⟨⟨by simpa using hr2, h0.1.fr.trans' hf2, ?_, by rw [hd]; exact h0.1.mid, ?_, by rw [hd]; exact h0.1.u, by rw [ht]; omega⟩, by rw [hd]; exact h0.2.1, ht.symm⟩
        · rw [← h0.1.goal]
          have := List.take_append_drop (vj - ui) V
          calc X ++ V.take (vj - ui) ++ V.drop (vj - ui) ++ (U ++ Y) = X ++ (V.take (vj - ui) ++ V.drop (vj - ui)) ++ U ++ Y := by simp only [List.append_assoc]
            _ = X ++ V ++ U ++ Y := by rw [this]
        · have := h0.1.len
          rw [hd, ht]
          simp
          omega)
      clear hf2 hr2 hC
      go_wp2
      go_roundw
      case rel => exact ⟨ui, vj - ui, rfl, by congr 1; omega, by omega, by omega, hid ⟨_, _, _, _, HS.out⟩⟩
      case measure => simp [intOf]; omega
    · subst heq
      have hne : ((ui : Int) != (ui : Int)) = false := by simp
      have hC := swapRange_int g cap p X U [] V Y (by have := HR.out.2; omega) cmp ((m : Int) - ui) m ui len (by have := HR.out.1.mid; have := HR.out.2; omega) (by have := HR.out.1.mid; simp; omega) (by have := HR.out.2; omega)
        (by have := HR.out.1.len; simp; omega) hcap wr (by have := HR.out.1.row; simpa using this)
      go_wp2_with fail
      refine hC.mono ?_
      rintro e w2 ⟨rfl, hf2, hr2⟩
      have HS : Hid (Fr (· = g) w w2 ∧ PRow w2 g p T) := hid ⟨HR.out.1.fr.trans' hf2, by have := HR.out.1.goal; rw [← this]; simpa using hr2⟩
      clear hf2 hr2 hC
      go_wp2
      go_end0
      exact ⟨rfl, HS.out⟩
    · have hne : ((ui : Int) != (vj : Int)) = true := by simp; omega
      have hd : (U.drop vj).length = ui - vj := by have := HR.out.2; simp; omega
      have ht : (U.take vj).length = V.length := by have := HR.out.2; simp; omega
      have H1 := hid (And.intro hd ht)
      have hrow : PRow wr g p (X ++ U.take vj ++ U.drop vj ++ V ++ Y) := by
        have := HR.out.1.row
        rw [List.append_assoc X, List.take_append_drop]
        exact this
      have hC := swapRange_int g cap p X (U.take vj) (U.drop vj) V Y ht cmp ((m : Int) - ui) m vj len (by have := HR.out.1.mid; have := HR.out.2; omega) (by have := HR.out.1.mid; have := HR.out.2; omega) (by have := HR.out.2; omega)
        (by have := HR.out.1.len; have := HR.out.2; omega) hcap wr hrow
      clear hd ht hrow
      go_wp2_with fail
      refine hC.mono ?_
      rintro e w2 ⟨rfl, hf2, hr2⟩
      have HS : Hid (RotRel w w2 g p len m T (X ++ V) (U.drop vj) (U.take vj) Y ∧ ui - vj = (U.drop vj).length ∧ vj = (U.take vj).length) := hid (by
        obtain ⟨hd, ht⟩ := H1.out
        have h0 := HR.out
        refine ⟨⟨hr2, h0.1.fr.trans' hf2, ?_, ?_, ?_, by rw [hd]; omega, by rw [ht]; exact h0.1.v⟩, hd.symm, by rw [ht]; exact h0.2.2⟩
        · rw [← h0.1.goal]
          have := List.take_append_drop vj U
          calc X ++ V ++ U.take vj ++ U.drop vj ++ Y = X ++ V ++ (U.take vj ++ U.drop vj) ++ Y := by simp only [List.append_assoc]
            _ = X ++ V ++ U ++ Y := by rw [this]
        · have := h0.1.mid
          rw [hd]
          simp
          omega
        · have := h0.1.len
          rw [hd, ht]
          simp
          omega)
      clear hf2 hr2 hC
      go_wp2
      go_roundw
      case rel => exact ⟨ui - vj, vj, by congr 1; omega, rfl, by omega, by omega, hid ⟨_, _, _, _, HS.out⟩⟩
      case measure => simp [intOf]; omega
end Go.Proofs.Ytjaabbjobnfmmaa

namespace Go.Proofs.Ytjaabbjobnfmmaa
open Go.RowKit

/-- Which of two ends is sooner; a pending one is last. -/
def snr (a b : Int) : Int := if a = b then 0 else if b < 0 ∨ (0 ≤ a ∧ a < b) then -1 else 1

/-- The calls' ends, as they lie in memory, and not in the row's block g. -/
structure Tos (w : World) (g : Nat) (p : Nat → Nat) (t : Nat → Int) (N : Nat) : Prop where
  cell : ∀ i, i < N → w.cell? ⟨p i, 5, none⟩ = some (.int .i64 (t i))
  ne : ∀ i, i < N → p i ≠ g
theorem Tos.fr {w w' : World} {g : Nat} {p : Nat → Nat} {t : Nat → Int} {N : Nat} (h : Tos w g p t N) (hf : Fr (· = g) w w') : Tos w' g p t N :=
  ⟨fun i hi => (hf.cell (p := ⟨p i, 5, none⟩) (World.block_lt_of_cell? w _ (h.cell i hi)) (h.ne i hi)).trans (h.cell i hi), h.ne⟩
theorem Tos.fr0 {w w' : World} {g : Nat} {p : Nat → Nat} {t : Nat → Int} {N : Nat} (h : Tos w g p t N) (hf : Fr0 w w') : Tos w' g p t N := h.fr (hf.mono (fun _ _ h => h.elim))

set_option maxRecDepth 100000 in
set_option maxHeartbeats 1000000 in
theorem sooner_cell (b1 b2 : Nat) (x y : Int) (w : World) (h1 : w.cell? ⟨b1, 5, none⟩ = some (.int .i64 x)) (h2 : w.cell? ⟨b2, 5, none⟩ = some (.int .i64 y)) :
    Calls Try.prog 55 #[.pointer (some ⟨b1, 0, none⟩), .pointer (some ⟨b2, 0, none⟩)] w fun e w' => e = .returned (.int .i64 (snr x y)) ∧ Fr0 w w' := by
  unfold snr
  by_cases he : x = y
  · rw [if_pos he]
    have e1 : (x == y) = true := by simp [he]
    clear he
    go_enter Try.func55, Try.ntmps55
    go_wp2
    go_quiet (fail)
    go_wp2
    go_ret
    exact ⟨rfl, (Fr.refl _ w).drewN _⟩
  · rw [if_neg he]
    have e1 : (x == y) = false := by simp [he]
    by_cases hy : y < 0
    · rw [if_pos (.inl hy)]
      clear he
      have e2 : decide (y < 0) = true := by simp [hy]
      go_enter Try.func55, Try.ntmps55
      go_wp2
      go_quiet (fail)
      go_wp2
      go_quiet (fail)
      go_wp2
      go_ret
      exact ⟨rfl, ((Fr.refl _ w).drewN _).drewN _⟩
    · have e2 : decide (y < 0) = false := by simp [hy]
      by_cases hx : 0 ≤ x
      · have e3 : decide (0 ≤ x) = true := by simp [hx]
        by_cases hxy : x < y
        · rw [if_pos (.inr ⟨hx, hxy⟩)]
          have e4 : decide (x < y) = true := by simp [hxy]
          clear he hy
          go_enter Try.func55, Try.ntmps55
          go_wp2
          go_quiet (fail)
          go_wp2
          go_quiet (fail)
          go_wp2
          go_ret
          exact ⟨rfl, ((Fr.refl _ w).drewN _).drewN _⟩
        · rw [if_neg (by omega)]
          have e4 : decide (x < y) = false := by simp [hxy]
          clear he hy
          go_enter Try.func55, Try.ntmps55
          go_wp2
          go_quiet (fail)
          go_wp2
          go_quiet (fail)
          go_wp2
          go_ret
          exact ⟨rfl, ((Fr.refl _ w).drewN _).drewN _⟩
      · rw [if_neg (by omega)]
        have e3 : decide (0 ≤ x) = false := by simp [hx]
        clear he hy
        go_enter Try.func55, Try.ntmps55
        go_wp2
        go_quiet (fail)
        go_wp2
        go_quiet (fail)
        go_wp2
        go_ret
        exact ⟨rfl, ((Fr.refl _ w).drewN _).drewN _⟩

theorem sooner_any {w : World} {g : Nat} {p : Nat → Nat} {t : Nat → Int} {N : Nat} (h : Tos w g p t N) (i j : Nat) (hi : i < N) (hj : j < N) :
    Calls Try.prog 55 #[pv p i, pv p j] w fun e w' => e = .returned (.int .i64 (snr (t i) (t j))) ∧ Fr0 w w' := sooner_cell _ _ _ _ w (h.cell i hi) (h.cell j hj)
end Go.Proofs.Ytjaabbjobnfmmaa

namespace Go.Proofs.Ytjaabbjobnfmmaa
open Go.RowKit

/-- An end is ahead of another one; a pending one (-1) is last. -/
def ltT (a b : Int) : Prop := 0 ≤ a ∧ (b < 0 ∨ a < b)
theorem snr_neg {a b : Int} (ha : -1 ≤ a) (hb : -1 ≤ b) : snr a b < 0 ↔ ltT a b := by
  unfold snr ltT
  split
  · omega
  · split <;> omega
/-- Call i is ahead of call j in the order of ends; of equal ends the lower number is first. -/
def Bf (t : Nat → Int) (i j : Nat) : Prop := ltT (t i) (t j) ∨ (t i = t j ∧ i < j)

section
variable {t : Nat → Int}
theorem ltT_trans {a b c : Int} (h : ltT a b) (k : ltT b c) : ltT a c := by unfold ltT at *; omega
theorem ltT_irrefl (a : Int) : ¬ ltT a a := by unfold ltT; omega
theorem ltT_total {a b : Int} (ha : -1 ≤ a) (hb : -1 ≤ b) (h : ¬ ltT a b) (hne : a ≠ b) : ltT b a := by unfold ltT at *; omega
theorem Bf.trans {i j k : Nat} (h : Bf t i j) (h2 : Bf t j k) : Bf t i k := by
  rcases h with h | ⟨h, h'⟩
  · rcases h2 with h2 | ⟨h2, _⟩
    · exact .inl (ltT_trans h h2)
    · exact .inl (h2 ▸ h)
  · rcases h2 with h2 | ⟨h2, h2'⟩
    · exact .inl (h ▸ h2)
    · exact .inr ⟨h.trans h2, Nat.lt_trans h' h2'⟩
theorem Bf.irrefl (i : Nat) : ¬ Bf t i i := by
  rintro (h | ⟨_, h⟩)
  · exact ltT_irrefl _ h
  · omega
theorem bf_of_not {i j : Nat} (hi : -1 ≤ t i) (hj : -1 ≤ t j) (h : ¬ ltT (t j) (t i)) (hij : i < j) : Bf t i j := by
  by_cases e : t i = t j
  · exact .inr ⟨e, hij⟩
  · exact .inl (ltT_total hj hi h (fun h => e h.symm))
/-- A row in the order. -/
def Srt (t : Nat → Int) (L : List Nat) : Prop := L.Pairwise (Bf t)

/-- An element put where it belongs: behind all of P1, ahead of all of P2. -/
theorem srt_insert {P1 P2 : List Nat} {x : Nat} (h : Srt t (P1 ++ P2)) (h2 : ∀ y ∈ P2, ltT (t x) (t y)) (h1 : ∀ y, P1.getLast? = some y → Bf t y x) : Srt t (P1 ++ x :: P2) := by
  unfold Srt at *
  rw [List.pairwise_append] at h ⊢
  obtain ⟨a, b, c⟩ := h
  have hP1 : ∀ u ∈ P1, Bf t u x := by
    intro u hu
    rcases List.eq_nil_or_concat P1 with e | ⟨Q, y, e⟩
    · subst e; simp at hu
    · subst e
      have hy := h1 y (by simp)
      rw [List.concat_eq_append] at hu a
      rcases List.mem_append.1 hu with hu | hu
      · exact ((List.pairwise_append.1 a).2.2 u hu y (by simp)).trans hy
      · rw [List.mem_singleton.1 hu]; exact hy
  refine ⟨a, List.pairwise_cons.2 ⟨fun y hy => .inl (h2 y hy), b⟩, fun u hu v hv => ?_⟩
  rcases List.mem_cons.1 hv with rfl | hv
  · exact hP1 u hu
  · exact c u hu v hv
end

/-- How the outer loop of the insertion sort stands: the first k of A are in order. -/
structure InsOut (w wr : World) (g : Nat) (p : Nat → Nat) (t : Nat → Int) (X A Y P : List Nat) (k : Nat) : Prop where
  row : PRow wr g p (X ++ P ++ A.drop k ++ Y)
  perm : P.Perm (A.take k)
  srt : Srt t P
  fr : Fr (· = g) w wr
/-- How the inner loop stands: x = A[k] has been carried down behind P1. -/
structure InsIn (w wr : World) (g : Nat) (p : Nat → Nat) (t : Nat → Int) (X A Y P1 P2 : List Nat) (k x : Nat) : Prop where
  row : PRow wr g p (X ++ P1 ++ x :: P2 ++ A.drop (k + 1) ++ Y)
  perm : (P1 ++ P2).Perm (A.take k)
  srt : Srt t (P1 ++ P2)
  up : ∀ y ∈ P2, ltT (t x) (t y)
  fr : Fr (· = g) w wr

section
variable {w wr w' : World} {g : Nat} {p : Nat → Nat} {t : Nat → Int} {X A Y P P1 P2 : List Nat} {k x x' : Nat}
theorem InsOut.begin (h : InsOut w wr g p t X A Y P k) (hk : k < A.length) : InsIn w wr g p t X A Y P [] k A[k] := by
  refine ⟨?_, by simpa using h.perm, by simpa using h.srt, by simp, h.fr⟩
  have := h.row
  rw [List.drop_eq_getElem_cons hk] at this
  simpa using this
theorem InsIn.swap (h : InsIn w wr g p t X A Y (P1 ++ [x']) P2 k x) (hx : ltT (t x) (t x')) (hr : PRow w' g p (X ++ P1 ++ x :: x' :: P2 ++ A.drop (k + 1) ++ Y)) (hf : Fr (· = g) wr w') : InsIn w w' g p t X A Y P1 (x' :: P2) k x := by
  refine ⟨by simpa using hr, by have := h.perm; simpa using this, by have := h.srt; simpa using this, fun y hy => ?_, h.fr.trans' hf⟩
  rcases List.mem_cons.1 hy with rfl | hy
  · exact hx
  · exact h.up y hy
theorem InsIn.stop (h : InsIn w wr g p t X A Y P1 P2 k x) (hk : k < A.length) (hx : x = A[k]) (h1 : ∀ y, P1.getLast? = some y → Bf t y x) : InsOut w wr g p t X A Y (P1 ++ x :: P2) (k + 1) := by
  refine ⟨by have := h.row; simpa using this, ?_, srt_insert h.srt h.up h1, h.fr⟩
  rw [take_snoc' A k hk, ← hx]
  have h2 : (P1 ++ x :: P2).Perm (x :: (P1 ++ P2)) := List.perm_middle
  exact h2.trans ((h.perm.cons x).trans (by
    have := List.perm_append_singleton x (A.take k)
    exact this.symm))
theorem InsIn.fr0 (h : InsIn w wr g p t X A Y P1 P2 k x) (hf : Fr0 wr w') : InsIn w w' g p t X A Y P1 P2 k x :=
  ⟨h.row.fr hf (fun h => h), h.perm, h.srt, h.up, h.fr.trans0 hf⟩
end
end Go.Proofs.Ytjaabbjobnfmmaa

namespace Go.Proofs.Ytjaabbjobnfmmaa
open Go.RowKit

def cmpV : Value := .func (.func 55) #[] #[]

theorem PRow.pair {w : World} {g : Nat} {p : Nat → Nat} {B R : List Nat} {x y : Nat} (h : PRow w g p (B ++ y :: x :: R)) :
    w.cell? ⟨g, B.length, none⟩ = some (pv p y) ∧ w.cell? ⟨g, B.length + 1, none⟩ = some (pv p x) ∧ PRow ((w.setCell ⟨g, B.length + 1, none⟩ (pv p y)).setCell ⟨g, B.length, none⟩ (pv p x)) g p (B ++ x :: y :: R) := by
  have h1 := h.cell B.length (by simp)
  have h2 := h.cell (B.length + 1) (by simp)
  have e1 : (B ++ y :: x :: R)[B.length]'(by simp) = y := by simp
  have e2 : (B ++ y :: x :: R)[B.length + 1]'(by simp) = x := by
    rw [List.getElem_append_right (by omega)]; simp
  rw [e1] at h1
  rw [e2] at h2
  refine ⟨h1, h2, ?_⟩
  have h3 := (h.set (B.length + 1) y).set B.length x
  have e3 : ((B ++ y :: x :: R).set (B.length + 1) y).set B.length x = B ++ x :: y :: R := by
    rw [List.set_append_right _ _ (by omega), List.set_append_right _ _ (by omega)]
    simp
  rw [e3] at h3
  exact h3

theorem wrap_in (n : Int) (h0 : -9223372036854775808 ≤ n) (h1 : n ≤ 9223372036854775807) : IntKind.i64.wrap n = n := IntWalk.i64_in n (by omega)

theorem len_of_perm {P A : List Nat} {k : Nat} (h : P.Perm (A.take k)) (hk : k ≤ A.length) : P.length = k := by
  rw [h.length_eq]; simp; omega

set_option maxRecDepth 100000 in
set_option maxHeartbeats 4000000 in
theorem insertion_any (g cap : Nat) (p : Nat → Nat) (t : Nat → Int) (N : Nat) (ht : ∀ i, i < N → -1 ≤ t i) (X A Y : List Nat) (hA : A.Pairwise (· < ·)) (hAN : ∀ i ∈ A, i < N) (a b len : Nat) (ha : a = X.length) (hb : b = X.length + A.length)
    (hlen : len = X.length + A.length + Y.length) (hcap : len ≤ 4398046511104) (w : World) (h : PRow w g p (X ++ A ++ Y)) (hT : Tos w g p t N) :
    Calls Try.prog 79 #[.slice (some ⟨g, 0, none⟩) len cap, .int .i64 a, .int .i64 b, .func (.func 55) #[] #[]] w fun e w' => e = .returned (.tuple #[]) ∧ Fr (· = g) w w' ∧ ∃ A', A'.Perm A ∧ Srt t A' ∧ PRow w' g p (X ++ A' ++ Y) := by
  have HR : Hid (A.length = 0 ∨ ∃ P, InsOut w w g p t X A Y P 1) := hid (by
    cases A with
    | nil => exact .inl rfl
    | cons x A => exact .inr ⟨[x], by simpa using h, by simp, by simp [Srt], Fr.refl _ _⟩)
  have HT := hid hT
  have HA := hid (And.intro hA hAN)
  have HL := hid (And.intro ha (And.intro hb hlen))
  have hab : a ≤ b := by omega
  have hbl : b ≤ len := by omega
  have H := hid h
  clear h hT hA hAN ha hb hlen
  go_enter Try.func79, Try.ntmps79
  go_wp2
  go_loopw [8] (fun i wr => ∃ k : Nat, i = .int .i64 ((a : Int) + k) ∧ 1 ≤ k ∧ a + k ≤ len + 1 ∧ Hid ((A.length = 0 ∧ wr = w) ∨ (k ≤ A.length ∧ ∃ P, InsOut w wr g p t X A Y P k))) (fun i _ => len + 1 - (intOf i).toNat)
  case atStart => exact ⟨1, rfl, Nat.le_refl _, by omega, hid (by
    rcases HR.out with h0 | h1
    · exact .inl ⟨h0, rfl⟩
    · by_cases h0 : A.length = 0
      · exact .inl ⟨h0, rfl⟩
      · exact .inr ⟨by omega, h1⟩)⟩
  case round =>
    obtain ⟨k, rfl, hk1, hkl, hR⟩ := hrel
    clear HR
    by_cases hlt : a + k < b
    · obtain ⟨P, hP⟩ : ∃ P, Hid (InsOut w wr g p t X A Y P k ∧ k < A.length) := by
        have h3 := HL.out
        rcases hR.out with ⟨h0, _⟩ | ⟨h1, P, h2⟩
        · omega
        · exact ⟨P, hid ⟨h2, by omega⟩⟩
      clear hR
      have hPl := len_of_perm hP.out.1.perm (by have := hP.out.2; omega)
      obtain ⟨x, hx⟩ : ∃ x, x = A[k]'hP.out.2 := ⟨_, rfl⟩
      have hIn := hP.out.1.begin hP.out.2
      rw [← hx] at hIn
      have HI := hid (And.intro hIn (And.intro hx hPl))
      have hltI : (a : Int) + (k : Int) < (b : Int) := by omega
      clear hIn hx hPl
      go_wp2_with fail
      go_loopw [9] (fun j wr => ∃ (m : Nat), j = .int .i64 ((a : Int) + m) ∧ m ≤ k ∧ Hid (∃ P1 P2, InsIn w wr g p t X A Y P1 P2 k x ∧ P1.length = m)) (fun j _ => (intOf j).toNat)
      case atStart => exact ⟨k, rfl, Nat.le_refl _, hid ⟨P, [], HI.out.1, HI.out.2.2⟩⟩
      case round =>
        obtain ⟨m, rfl, hm, hR⟩ := hrel
        obtain ⟨P1, P2, hI, hPm⟩ := hR.out
        have HJ := hid (And.intro hI hPm)
        clear hR hI hPm
        rcases Nat.eq_zero_or_pos m with hm0 | hm0
        · subst hm0
          have hgd : decide ((a : Int) < (a : Int) + ((0 : Nat) : Int)) = false := by simp
          have hW : Hid (∀ W, Fr0 wr W → InsOut w W g p t X A Y (P1 ++ x :: P2) (k + 1)) := hid (fun W hW => (HJ.out.1.fr0 hW).stop hP.out.2 HI.out.2.1 (fun y hy => by
            have : P1 = [] := List.eq_nil_of_length_eq_zero HJ.out.2
            rw [this] at hy; simp at hy))
          clear HJ
          go_wp2
          go_quiet (fail)
          go_wp2
          go_roundw
          case rel => exact ⟨k + 1, by go_num, by omega, by omega, hid (.inr ⟨by have := hP.out.2; omega, _, hW.out _ ((Fr.refl _ _).drewN _)⟩)⟩
          case measure => simp [intOf]; omega
        · obtain ⟨Q, y, hQ⟩ : ∃ Q y, P1 = Q ++ [y] := by
            rcases List.eq_nil_or_concat P1 with e | ⟨Q, y, e⟩
            · rw [e] at HJ; have := HJ.out.2; simp at this; omega
            · exact ⟨Q, y, by rw [e, List.concat_eq_append]⟩
          subst hQ
          have hQl : Q.length + 1 = m := by have := HJ.out.2; simpa using this
          have hBl : (X ++ Q).length = a + m - 1 := by have := HL.out; simp; omega
          have hrow : PRow wr g p ((X ++ Q) ++ y :: x :: (P2 ++ A.drop (k + 1) ++ Y)) := by have := HJ.out.1.row; simpa using this
          have hpr := hrow.pair
          rw [hBl, show a + m - 1 + 1 = a + m by omega] at hpr
          have hxN : x < N := by rw [HI.out.2.1]; exact HA.out.2 _ (List.getElem_mem _)
          have hyA : y ∈ A.take k := HJ.out.1.perm.mem_iff.1 (by simp)
          have hyN : y < N := HA.out.2 _ (List.mem_of_mem_take hyA)
          have hyx : y < x := by
            rw [HI.out.2.1]
            have h2 := HA.out.1
            rw [← List.take_append_drop k A, List.drop_eq_getElem_cons hP.out.2, List.pairwise_append] at h2
            exact h2.2.2 y hyA _ (List.mem_cons_self ..)
          have hTx := ht x hxN
          have hTy := ht y hyN
          have hS := fun (q : Ext wr) => sooner_any ((HT.out.fr HJ.out.1.fr).fr0 q.fr) x y hxN hyN
          obtain ⟨c, hc⟩ : ∃ c, c = snr (t x) (t y) := ⟨_, rfl⟩
          rw [← hc] at hS
          have hcn : c < 0 ↔ ltT (t x) (t y) := by rw [hc]; exact snr_neg hTx hTy
          simp only [pv] at hS hpr
          have HS := hid hS
          have HP := hid hpr
          have HB := hid (And.intro hBl (And.intro hyx (And.intro hTx (And.intro hTy hcn))))
          have e1 : ∀ q : Ext wr, q.out.cell? ⟨g, a + m, none⟩ = some (.pointer (some ⟨p x, 0, none⟩)) := fun q => q.cell HP.out.2.1
          have e2 : ∀ q : Ext wr, q.out.cell? ⟨g, a + m - 1, none⟩ = some (.pointer (some ⟨p y, 0, none⟩)) := fun q => q.cell HP.out.1
          have i1 := index75 g len cap (a + m) (by omega)
          have i2 := index75 g len cap (a + m - 1) (by omega)
          rw [show ((a + m : Nat) : Int) = (a : Int) + m by omega] at i1
          rw [show ((a + m - 1 : Nat) : Int) = (a : Int) + m - 1 by omega] at i2
          have hw := wrap_in ((a : Int) + m - 1) (by omega) (by omega)
          have hgd : decide ((a : Int) < (a : Int) + (m : Int)) = true := by simp; omega
          have f1 : Hid (∀ W, Fr0 wr W → W.frozen? ⟨g, a + m, none⟩ = false ∧ W.frozen? ⟨g, a + m - 1, none⟩ = false ∧ W.cell? ⟨g, a + m, none⟩ = some (.pointer (some ⟨p x, 0, none⟩)) ∧ W.cell? ⟨g, a + m - 1, none⟩ = some (.pointer (some ⟨p y, 0, none⟩)) ∧
              PRow W g p ((X ++ Q) ++ y :: x :: (P2 ++ A.drop (k + 1) ++ Y))) := hid (fun W hW => by
            have := hrow.fr hW (fun h => h)
            refine ⟨this.free _, this.free _, (hW.cell (p := ⟨g, a + m, none⟩) hrow.lt (fun h => h)).trans HP.out.2.1, (hW.cell (p := ⟨g, a + m - 1, none⟩) hrow.lt (fun h => h)).trans HP.out.1, this⟩)
          clear hS hpr hBl hyx hTx hTy hcn hc hrow hxN hyN hyA hQl
          have hcs : c < 0 ∨ ¬ c < 0 := by omega
          rcases hcs with hc | hc
          · have hcd : decide (c < 0) = true := by simp [hc]
            clear hc
            go_wp2
            refine wp_region_ext (by kernel_rfl) (by kernel_rfl) ?_
            repeat (refine wpQuiet_step (fun K hK => ?_); go_simp; first | (refine hK _ ?_; clear hK K) | (apply Exists.intro; refine ⟨fun _ => ?_, hK _ ?_⟩; (go_at_call 55; refine calls_ext (HS.out _)); clear hK K))
            refine wpQuiet_nil ?_
            intro _ hw'
            obtain ⟨q, hw''⟩ := hw'
            subst hw''
            have hW1 := q.fr
            generalize q.out = W1 at hW1 ⊢
            clear q e1 e2
            obtain ⟨f1, f2, c1, c2, hr1⟩ := f1.out W1 hW1
            have HSW : Hid (InsIn w ((W1.drew.setCell ⟨g, a + m, none⟩ (.pointer (some ⟨p y, 0, none⟩))).setCell ⟨g, a + m - 1, none⟩ (.pointer (some ⟨p x, 0, none⟩))) g p t X A Y Q (y :: P2) k x ∧ Q.length = m - 1) := hid (by
              have h1 := hr1.drew.pair.2.2
              have h2 := HB.out.1
              rw [h2, show a + m - 1 + 1 = a + m by omega] at h1
              refine ⟨(HJ.out.1.fr0 hW1).swap (HB.out.2.2.2.2.1 (by simpa using hcd)) (by simpa [pv] using h1) (((Fr.refl (· = g) W1).drew.setCell (p := ⟨g, a + m, none⟩) (fun _ => rfl) _).setCell (p := ⟨g, a + m - 1, none⟩) (fun _ => rfl) _), by have := HJ.out.2; simp at this; omega⟩)
            clear hr1 hW1 hw
            go_wp2
            go_region
            go_wp2
            go_roundw
            case rel => exact ⟨m - 1, by congr 1; omega, by omega, hid ⟨_, _, HSW.out⟩⟩
            case measure => simp [intOf]; omega
          · have hcd : decide (c < 0) = false := by simp; omega
            have hW : Hid (∀ W, Fr0 wr W → InsOut w W g p t X A Y ((Q ++ [y]) ++ x :: P2) (k + 1)) := hid (fun W hW => (HJ.out.1.fr0 hW).stop hP.out.2 HI.out.2.1 (fun y' hy' => by
              simp at hy'
              subst hy'
              obtain ⟨_, q1, q2, q3, q4⟩ := HB.out
              exact bf_of_not q3 q2 (fun h => hc (q4.2 h)) q1))
            clear hc
            go_wp2
            refine wp_region_ext (by kernel_rfl) (by kernel_rfl) ?_
            repeat (refine wpQuiet_step (fun K hK => ?_); go_simp; first | (refine hK _ ?_; clear hK K) | (apply Exists.intro; refine ⟨fun _ => ?_, hK _ ?_⟩; (go_at_call 55; refine calls_ext (HS.out _)); clear hK K))
            refine wpQuiet_nil ?_
            intro _ hw'
            obtain ⟨q, hw''⟩ := hw'
            subst hw''
            have hW1 := q.fr
            generalize q.out = W1 at hW1 ⊢
            clear q e1 e2 hw
            have HO := hid (hW.out W1 hW1)
            clear hW1 hW HJ
            go_wp2
            go_roundw
            case rel => exact ⟨k + 1, by go_num, by omega, by omega, hid (.inr ⟨by have := hP.out.2; omega, _, HO.out⟩)⟩
            case measure => simp [intOf]; omega
    · have HE : Hid (Fr (· = g) w wr ∧ ∃ A', A'.Perm A ∧ Srt t A' ∧ PRow wr g p (X ++ A' ++ Y)) := hid (by
        rcases hR.out with ⟨h0, rfl⟩ | ⟨h1, P, h2⟩
        · have : A = [] := List.eq_nil_of_length_eq_zero h0
          subst this
          exact ⟨Fr.refl _ _, [], List.Perm.refl _, List.Pairwise.nil, H.out⟩
        · have hk : k = A.length := by have := HL.out; omega
          refine ⟨h2.fr, P, ?_, h2.srt, ?_⟩
          · have := h2.perm
            rwa [hk, List.take_length] at this
          · have := h2.row
            rw [hk, List.drop_length] at this
            simpa using this)
      clear hR
      go_wp2
      go_end0
      exact ⟨rfl, HE.out⟩
end Go.Proofs.Ytjaabbjobnfmmaa

namespace Go.Proofs.Ytjaabbjobnfmmaa
open Go.RowKit

theorem PRow.cellR {w : World} {g : Nat} {p : Nat → Nat} {P Q : List Nat} (h : PRow w g p (P ++ Q)) (i : Nat) (hi : i < Q.length) : w.cell? ⟨g, P.length + i, none⟩ = some (pv p Q[i]) := by
  rw [h.cell (P.length + i) (by simp; omega)]
  simp

theorem Srt.le {t : Nat → Int} {L : List Nat} (h : Srt t L) {i j : Nat} (hj : j < L.length) (hij : i ≤ j) (y : Int) (hy : ltT (t L[j]) y) : ltT (t (L[i]'(by omega))) y := by
  rcases Nat.lt_or_ge i j with h1 | h1
  · rcases (List.pairwise_iff_getElem.1 h) i j (by omega) hj h1 with h2 | ⟨h2, _⟩
    · exact ltT_trans h2 hy
    · rw [h2]; exact hy
  · have : i = j := by omega
    subst this; exact hy
theorem Srt.ge {t : Nat → Int} {L : List Nat} (h : Srt t L) {i j : Nat} (hj : j < L.length) (hij : i ≤ j) (y : Int) (hy : ltT y (t (L[i]'(by omega)))) : ltT y (t L[j]) := by
  rcases Nat.lt_or_ge i j with h1 | h1
  · rcases (List.pairwise_iff_getElem.1 h) i j (by omega) hj h1 with h2 | ⟨h2, _⟩
    · exact ltT_trans hy h2
    · rw [← h2]; exact hy
  · have : i = j := by omega
    subst this; exact hy

/-- Two neighbours exchanged, the lower place written first. -/
theorem PRow.pair2 {w : World} {g : Nat} {p : Nat → Nat} {B R : List Nat} {x y : Nat} (h : PRow w g p (B ++ x :: y :: R)) :
    w.cell? ⟨g, B.length, none⟩ = some (pv p x) ∧ w.cell? ⟨g, B.length + 1, none⟩ = some (pv p y) ∧ PRow ((w.setCell ⟨g, B.length, none⟩ (pv p y)).setCell ⟨g, B.length + 1, none⟩ (pv p x)) g p (B ++ y :: x :: R) := by
  obtain ⟨h1, h2, _⟩ := h.pair
  refine ⟨h1, h2, ?_⟩
  have h3 := (h.set B.length y).set (B.length + 1) x
  have e3 : ((B ++ x :: y :: R).set B.length y).set (B.length + 1) x = B ++ y :: x :: R := by
    rw [List.set_append_right _ _ (by omega), List.set_append_right _ _ (by omega)]
    simp
  rw [e3] at h3
  exact h3

theorem vi {a b : Int} (h : a = b) : Value.int .i64 a = .int .i64 b := by rw [h]

/-- What is asked of the rows that symMerge merges. -/
structure SymPre (t : Nat → Int) (N : Nat) (A B : List Nat) : Prop where
  a : Srt t A
  b : Srt t B
  ab : ∀ x ∈ A, ∀ y ∈ B, x < y
  an : ∀ x ∈ A, x < N
  bn : ∀ y ∈ B, y < N

/-- The result where A is one call. -/
theorem sym_one {t : Nat → Int} {N : Nat} (ht : ∀ i, i < N → -1 ≤ t i) {x : Nat} {B : List Nat} (h : SymPre t N [x] B) {u : Nat} (h1 : ∀ i (hi : i < B.length), i < u → ltT (t B[i]) (t x)) (h2 : ∀ i (hi : i < B.length), u ≤ i → ¬ ltT (t B[i]) (t x)) :
    (B.take u ++ x :: B.drop u).Perm ([x] ++ B) ∧ Srt t (B.take u ++ x :: B.drop u) := by
  constructor
  · have := List.perm_middle (a := x) (l₁ := B.take u) (l₂ := B.drop u)
    rw [List.take_append_drop] at this
    exact this
  · have hb := h.b
    unfold Srt at *
    rw [← List.take_append_drop u B, List.pairwise_append] at hb
    rw [List.pairwise_append]
    have hxy : ∀ y ∈ B.drop u, Bf t x y := by
      intro y hy
      obtain ⟨i, hi, rfl⟩ := List.getElem_of_mem hy
      simp at hi
      rw [List.getElem_drop]
      exact bf_of_not (ht _ (h.an x (by simp))) (ht _ (h.bn _ (List.getElem_mem _))) (h2 _ _ (by omega)) (h.ab x (by simp) _ (List.getElem_mem _))
    refine ⟨hb.1, List.pairwise_cons.2 ⟨hxy, hb.2.1⟩, fun a ha b hb' => ?_⟩
    rcases List.mem_cons.1 hb' with rfl | hb'
    · obtain ⟨i, hi, rfl⟩ := List.getElem_of_mem ha
      simp at hi
      rw [List.getElem_take]
      exact .inl (h1 _ _ (by omega))
    · exact hb.2.2 a ha b hb'

set_option maxRecDepth 100000 in
set_option maxHeartbeats 8000000 in
theorem symA_any (g cap : Nat) (p : Nat → Nat) (t : Nat → Int) (N : Nat) (ht : ∀ i, i < N → -1 ≤ t i) (X B Y : List Nat) (x : Nat) (hB : 0 < B.length) (hP : SymPre t N [x] B) (a m b len : Nat) (ha : a = X.length) (hm : m = a + 1) (hb : b = m + B.length)
    (hlen : len = b + Y.length) (hcap : len ≤ 4398046511104) (w : World) (h : PRow w g p (X ++ [x] ++ B ++ Y)) (hT : Tos w g p t N) :
    Calls Try.prog 80 #[.slice (some ⟨g, 0, none⟩) len cap, .int .i64 a, .int .i64 m, .int .i64 b, .func (.func 55) #[] #[]] w fun e w' => e = .returned (.tuple #[]) ∧ Fr (· = g) w w' ∧ ∃ C, C.Perm ([x] ++ B) ∧ Srt t C ∧ PRow w' g p (X ++ C ++ Y) := by
  have H := hid (And.intro h hT)
  have HP := hid (And.intro hP hB)
  have HL := hid (And.intro ha (And.intro hm (And.intro hb hlen)))
  have hma : (m : Int) - (a : Int) = 1 := by omega
  have hma' : a + 1 ≤ m := by omega
  have hmb : m < b := by omega
  have hbl : b ≤ len := by omega
  clear h hT hP hB ha hm hb hlen
  go_enter Try.func80, Try.ntmps80
  go_wp2_with fail
  clear hma
  go_loopw [10, 11] (fun i j wr => ∃ u v : Nat, i = .int .i64 ((m : Int) + u) ∧ j = .int .i64 ((m : Int) + v) ∧ u ≤ v ∧ m + v ≤ b ∧
      Hid ((∀ i (hi : i < B.length), i < u → ltT (t B[i]) (t x)) ∧ (∀ i (hi : i < B.length), v ≤ i → ¬ ltT (t B[i]) (t x)) ∧ Fr0 w wr)) (fun i j _ => (intOf j).toNat - (intOf i).toNat)
  case atStart => exact ⟨0, b - m, vi (by omega), vi (by omega), by omega, by omega, hid ⟨by omega, by have := HL.out; omega, Fr.refl _ _⟩⟩
  case round =>
    obtain ⟨u, v, rfl, rfl, huv, hv, hR⟩ := hrel
    rcases Nat.lt_or_ge u v with hlt | hge
    · have hltI : (m : Int) + (u : Int) < (m : Int) + (v : Int) := by omega
      have hh : (u + v) / 2 < B.length := by have := HL.out; omega
      have hrow := (H.out.1.fr hR.out.2.2 (fun h => h))
      have hpa : wr.cell? ⟨g, a, none⟩ = some (pv p x) := by
        have h1 : PRow wr g p (X ++ ([x] ++ B ++ Y)) := by simpa using hrow
        have h2 := h1.cellR 0 (by simp)
        rw [← HL.out.1] at h2
        simpa using h2
      have hph : wr.cell? ⟨g, m + (u + v) / 2, none⟩ = some (pv p B[(u + v) / 2]) := by
        have h1 : PRow wr g p ((X ++ [x]) ++ (B ++ Y)) := by simpa using hrow
        have h2 := h1.cellR ((u + v) / 2) (by simp; omega)
        have h3 : (X ++ [x]).length = m := by have := HL.out; simp; omega
        rw [h3, List.getElem_append_left hh] at h2
        exact h2
      have eh : ((m : Int) + u + ((m : Int) + v)) / 2 = ((m + (u + v) / 2 : Nat) : Int) := by omega
      have i1 := index75 g len cap (m + (u + v) / 2) (by have := HL.out; omega)
      rw [← eh] at i1
      have i2 := index75 g len cap a (by omega)
      have hyN := HP.out.1.bn _ (List.getElem_mem hh)
      have hxN := HP.out.1.an x (by simp)
      have hS := fun (q : Ext wr) => sooner_any ((H.out.2.fr0 hR.out.2.2).fr0 q.fr) B[(u + v) / 2] x hyN hxN
      obtain ⟨c, hc⟩ : ∃ c, c = snr (t B[(u + v) / 2]) (t x) := ⟨_, rfl⟩
      rw [← hc] at hS
      have hcn : c < 0 ↔ ltT (t B[(u + v) / 2]) (t x) := by rw [hc]; exact snr_neg (ht _ hyN) (ht _ hxN)
      simp only [pv] at hS hpa hph
      have HC := hid (And.intro hcn (And.intro hh eh))
      have HS := hid hS
      have e1 : ∀ q : Ext wr, q.out.cell? ⟨g, m + (u + v) / 2, none⟩ = some (.pointer (some ⟨p B[(u + v) / 2], 0, none⟩)) := fun q => q.cell hph
      have e2 : ∀ q : Ext wr, q.out.cell? ⟨g, a, none⟩ = some (.pointer (some ⟨p x, 0, none⟩)) := fun q => q.cell hpa
      clear hS hpa hph hcn hc hyN hxN hrow eh
      have hcs : c < 0 ∨ ¬ c < 0 := by omega
      rcases hcs with hc | hc
      · have hcd : decide (c < 0) = true := by simp [hc]
        have HU := hid (HC.out.1.1 hc)
        clear hc
        go_wp2_with fail
        refine wp_region_ext (by kernel_rfl) (by kernel_rfl) ?_
        repeat (refine wpQuiet_step (fun K hK => ?_); go_simp; first | (refine hK _ ?_; clear hK K) | (apply Exists.intro; refine ⟨fun _ => ?_, hK _ ?_⟩; (go_at_call 55; refine calls_ext (HS.out _)); clear hK K))
        refine wpQuiet_nil ?_
        intro _ hw'
        obtain ⟨q, hw''⟩ := hw'
        subst hw''
        have hW1 := q.fr
        generalize q.out = W1 at hW1 ⊢
        clear q e1 e2 i1 i2
        have HE : Hid ((∀ i (hi : i < B.length), i < (u + v) / 2 + 1 → ltT (t B[i]) (t x)) ∧ (∀ i (hi : i < B.length), v ≤ i → ¬ ltT (t B[i]) (t x)) ∧ Fr0 w W1) := hid ⟨fun i hi hiu => HP.out.1.b.le HC.out.2.1 (by omega) _ HU.out, hR.out.2.1, hR.out.2.2.trans0 hW1⟩
        clear hW1 hR HU
        go_wp2
        go_roundw
        case rel => exact ⟨(u + v) / 2 + 1, v, vi (by have := HC.out.2.2; omega), rfl, by omega, by omega, HE⟩
        case measure => have := HC.out.2.2; simp [intOf]; omega
      · have hcd : decide (c < 0) = false := by simp; omega
        have HU := hid (fun h => hc (HC.out.1.2 h))
        clear hc
        go_wp2_with fail
        refine wp_region_ext (by kernel_rfl) (by kernel_rfl) ?_
        repeat (refine wpQuiet_step (fun K hK => ?_); go_simp; first | (refine hK _ ?_; clear hK K) | (apply Exists.intro; refine ⟨fun _ => ?_, hK _ ?_⟩; (go_at_call 55; refine calls_ext (HS.out _)); clear hK K))
        refine wpQuiet_nil ?_
        intro _ hw'
        obtain ⟨q, hw''⟩ := hw'
        subst hw''
        have hW1 := q.fr
        generalize q.out = W1 at hW1 ⊢
        clear q e1 e2 i1 i2
        have HE : Hid ((∀ i (hi : i < B.length), i < u → ltT (t B[i]) (t x)) ∧ (∀ i (hi : i < B.length), (u + v) / 2 ≤ i → ¬ ltT (t B[i]) (t x)) ∧ Fr0 w W1) := hid ⟨hR.out.1, fun i hi hiu hh => HU.out (HP.out.1.b.le hi hiu _ hh), hR.out.2.2.trans0 hW1⟩
        clear hW1 hR HU
        go_wp2
        go_roundw
        case rel => exact ⟨u, (u + v) / 2, rfl, vi (by have := HC.out.2.2; omega), by omega, by omega, HE⟩
        case measure => have := HC.out.2.2; simp [intOf]; omega
    · obtain rfl : u = v := by omega
      have HU := hid (And.intro hR.out.1 hR.out.2.1)
      have HF := hid hR.out.2.2
      have hub : m + u ≤ b := hv
      clear hR
      go_wp2_with fail
      go_loopw [13] (fun k wr => ∃ r : Nat, k = .int .i64 ((a : Int) + r) ∧ r ≤ u ∧ Hid (PRow wr g p (X ++ B.take r ++ x :: B.drop r ++ Y) ∧ Fr (· = g) w wr)) (fun k _ => a + u - (intOf k).toNat)
      case atStart => exact ⟨0, vi (by omega), by omega, hid ⟨by have := H.out.1.fr HF.out (fun h => h); simpa using this, HF.out.mono (fun _ _ h => h.elim)⟩⟩
      case round =>
        obtain ⟨r, rfl, hr, hR⟩ := hrel
        rcases Nat.lt_or_ge r u with hlt2 | hge2
        · have hltI : (a : Int) + (r : Int) < (m : Int) + (u : Int) - 1 := by have := HL.out; omega
          have hrB : r < B.length := by have := HL.out; omega
          have hrow : PRow wr g p ((X ++ B.take r) ++ x :: B[r] :: (B.drop (r + 1) ++ Y)) := by
            have h1 := hR.out.1
            rw [List.drop_eq_getElem_cons hrB] at h1
            simpa only [List.append_assoc, List.cons_append] using h1
          have hbl2 : (X ++ B.take r).length = a + r := by have := HL.out; simp; omega
          obtain ⟨c1, c2, _⟩ := hrow.pair2
          have hs := hrow.drew.pair2.2.2
          rw [hbl2] at c1 c2 hs
          have f1 := hrow.free (a + r)
          have f2 := hrow.free (a + r + 1)
          have i1 := index75 g len cap (a + r) (by have := HL.out; omega)
          have i2 := index75 g len cap (a + r + 1) (by have := HL.out; omega)
          rw [show ((a + r : Nat) : Int) = (a : Int) + r by omega] at i1
          rw [show ((a + r + 1 : Nat) : Int) = (a : Int) + r + 1 by omega] at i2
          simp only [pv] at c1 c2 hs
          have HS : Hid (PRow ((wr.drew.setCell ⟨g, a + r, none⟩ (.pointer (some ⟨p B[r], 0, none⟩))).setCell ⟨g, a + r + 1, none⟩ (.pointer (some ⟨p x, 0, none⟩))) g p (X ++ B.take (r + 1) ++ x :: B.drop (r + 1) ++ Y) ∧ Fr (· = g) w ((wr.drew.setCell ⟨g, a + r, none⟩ (.pointer (some ⟨p B[r], 0, none⟩))).setCell ⟨g, a + r + 1, none⟩ (.pointer (some ⟨p x, 0, none⟩)))) := hid ⟨by
              rw [take_snoc' B r hrB]
              simpa only [List.append_assoc, List.cons_append, List.nil_append] using hs, ((hR.out.2.drew).setCell (p := ⟨g, a + r, none⟩) (fun _ => rfl) _).setCell (p := ⟨g, a + r + 1, none⟩) (fun _ => rfl) _⟩
          clear hrow hbl2 hs hR
          generalize p B[r] = q1 at c2 HS
          go_wp2_with fail
          go_region
          go_wp2
          go_roundw
          case rel => exact ⟨r + 1, vi (by omega), by omega, HS⟩
          case measure => simp [intOf]; omega
        · obtain rfl : r = u := by omega
          have hE := sym_one ht HP.out.1 HU.out.1 HU.out.2
          have HE := hid (And.intro hE.1 hE.2)
          clear hE
          have hnI : ¬ (a : Int) + (r : Int) < (m : Int) + (r : Int) - 1 := by have := HL.out; omega
          go_wp2
          refine bodyPost_ret (results_none rfl _ _ _) rfl ?_
          exact ⟨rfl, hR.out.2, _, HE.out.1, HE.out.2, by have := hR.out.1; simpa using this⟩
end Go.Proofs.Ytjaabbjobnfmmaa

namespace Go.Proofs.Ytjaabbjobnfmmaa
open Go.RowKit

/-- The result where B is one call. -/
theorem sym_last {t : Nat → Int} {N : Nat} (ht : ∀ i, i < N → -1 ≤ t i) {y : Nat} {A : List Nat} (h : SymPre t N A [y]) {u : Nat} (h1 : ∀ i (hi : i < A.length), i < u → ¬ ltT (t y) (t A[i])) (h2 : ∀ i (hi : i < A.length), u ≤ i → ltT (t y) (t A[i])) :
    (A.take u ++ y :: A.drop u).Perm (A ++ [y]) ∧ Srt t (A.take u ++ y :: A.drop u) := by
  constructor
  · have h3 := List.perm_middle (a := y) (l₁ := A.take u) (l₂ := A.drop u)
    rw [List.take_append_drop] at h3
    exact h3.trans (List.perm_append_singleton y A).symm
  · have ha := h.a
    rw [← List.take_append_drop u A] at ha
    refine srt_insert ha (fun v hv => ?_) (fun v hv => ?_)
    · obtain ⟨i, hi, rfl⟩ := List.getElem_of_mem hv
      simp at hi
      rw [List.getElem_drop]
      exact h2 _ _ (by omega)
    · have hm : v ∈ A.take u := List.mem_of_getLast? hv
      obtain ⟨i, hi, rfl⟩ := List.getElem_of_mem hm
      simp at hi
      rw [List.getElem_take]
      exact bf_of_not (ht _ (h.an _ (List.getElem_mem _))) (ht _ (h.bn y (by simp))) (h1 _ _ (by omega)) (h.ab _ (List.getElem_mem _) y (by simp))

set_option maxRecDepth 100000 in
set_option maxHeartbeats 8000000 in
theorem symB_any (g cap : Nat) (p : Nat → Nat) (t : Nat → Int) (N : Nat) (ht : ∀ i, i < N → -1 ≤ t i) (X A Y : List Nat) (y : Nat) (hA : 1 < A.length) (hP : SymPre t N A [y]) (a m b len : Nat) (ha : a = X.length) (hm : m = a + A.length) (hb : b = m + 1)
    (hlen : len = b + Y.length) (hcap : len ≤ 4398046511104) (w : World) (h : PRow w g p (X ++ A ++ [y] ++ Y)) (hT : Tos w g p t N) :
    Calls Try.prog 80 #[.slice (some ⟨g, 0, none⟩) len cap, .int .i64 a, .int .i64 m, .int .i64 b, .func (.func 55) #[] #[]] w fun e w' => e = .returned (.tuple #[]) ∧ Fr (· = g) w w' ∧ ∃ C, C.Perm (A ++ [y]) ∧ Srt t C ∧ PRow w' g p (X ++ C ++ Y) := by
  have H := hid (And.intro h hT)
  have HP := hid (And.intro hP hA)
  have HL := hid (And.intro ha (And.intro hm (And.intro hb hlen)))
  have hma : ((m : Int) - (a : Int) == 1) = false := by simp; omega
  have hbm : ((b : Int) - (m : Int) == 1) = true := by simp; omega
  have hma' : a + 1 < m := by omega
  have hmb : m < b := by omega
  have hbl : b ≤ len := by omega
  clear h hT hP hA ha hm hb hlen
  go_enter Try.func80, Try.ntmps80
  go_wp2_with fail
  clear hma hbm
  go_loopw [14, 15] (fun i j wr => ∃ u v : Nat, i = .int .i64 ((a : Int) + u) ∧ j = .int .i64 ((a : Int) + v) ∧ u ≤ v ∧ a + v ≤ m ∧
      Hid ((∀ i (hi : i < A.length), i < u → ¬ ltT (t y) (t A[i])) ∧ (∀ i (hi : i < A.length), v ≤ i → ltT (t y) (t A[i])) ∧ Fr0 w wr)) (fun i j _ => (intOf j).toNat - (intOf i).toNat)
  case atStart => exact ⟨0, m - a, vi (by omega), vi (by omega), by omega, by omega, hid ⟨by omega, by have := HL.out; omega, Fr.refl _ _⟩⟩
  case round =>
    obtain ⟨u, v, rfl, rfl, huv, hv, hR⟩ := hrel
    rcases Nat.lt_or_ge u v with hlt | hge
    · have hltI : (a : Int) + (u : Int) < (a : Int) + (v : Int) := by omega
      have hh : (u + v) / 2 < A.length := by have := HL.out; omega
      have hrow := (H.out.1.fr hR.out.2.2 (fun h => h))
      have hpm : wr.cell? ⟨g, m, none⟩ = some (pv p y) := by
        have h1 : PRow wr g p ((X ++ A) ++ ([y] ++ Y)) := by simpa using hrow
        have h2 := h1.cellR 0 (by simp)
        have h3 : (X ++ A).length = m := by have := HL.out; simp; omega
        rw [h3] at h2
        simpa using h2
      have hph : wr.cell? ⟨g, a + (u + v) / 2, none⟩ = some (pv p A[(u + v) / 2]) := by
        have h1 : PRow wr g p (X ++ (A ++ ([y] ++ Y))) := by simpa using hrow
        have h2 := h1.cellR ((u + v) / 2) (by simp; omega)
        rw [← HL.out.1, List.getElem_append_left hh] at h2
        exact h2
      have eh : ((a : Int) + u + ((a : Int) + v)) / 2 = ((a + (u + v) / 2 : Nat) : Int) := by omega
      have i1 := index75 g len cap (a + (u + v) / 2) (by have := HL.out; omega)
      rw [← eh] at i1
      have i2 := index75 g len cap m (by omega)
      have hxN := HP.out.1.an _ (List.getElem_mem hh)
      have hyN := HP.out.1.bn y (by simp)
      have hS := fun (q : Ext wr) => sooner_any ((H.out.2.fr0 hR.out.2.2).fr0 q.fr) y A[(u + v) / 2] hyN hxN
      obtain ⟨c, hc⟩ : ∃ c, c = snr (t y) (t A[(u + v) / 2]) := ⟨_, rfl⟩
      rw [← hc] at hS
      have hcn : c < 0 ↔ ltT (t y) (t A[(u + v) / 2]) := by rw [hc]; exact snr_neg (ht _ hyN) (ht _ hxN)
      simp only [pv] at hS hpm hph
      have HC := hid (And.intro hcn (And.intro hh eh))
      have HS := hid hS
      have e1 : ∀ q : Ext wr, q.out.cell? ⟨g, a + (u + v) / 2, none⟩ = some (.pointer (some ⟨p A[(u + v) / 2], 0, none⟩)) := fun q => q.cell hph
      have e2 : ∀ q : Ext wr, q.out.cell? ⟨g, m, none⟩ = some (.pointer (some ⟨p y, 0, none⟩)) := fun q => q.cell hpm
      clear hS hpm hph hcn hc hyN hxN hrow eh
      have hcs : c < 0 ∨ ¬ c < 0 := by omega
      rcases hcs with hc | hc
      · have hcd : decide (c < 0) = true := by simp [hc]
        have HU := hid (HC.out.1.1 hc)
        clear hc
        go_wp2_with fail
        refine wp_region_ext (by kernel_rfl) (by kernel_rfl) ?_
        repeat (refine wpQuiet_step (fun K hK => ?_); go_simp; first | (refine hK _ ?_; clear hK K) | (apply Exists.intro; refine ⟨fun _ => ?_, hK _ ?_⟩; (go_at_call 55; refine calls_ext (HS.out _)); clear hK K))
        refine wpQuiet_nil ?_
        intro _ hw'
        obtain ⟨q, hw''⟩ := hw'
        subst hw''
        have hW1 := q.fr
        generalize q.out = W1 at hW1 ⊢
        clear q e1 e2 i1 i2
        have HE : Hid ((∀ i (hi : i < A.length), i < u → ¬ ltT (t y) (t A[i])) ∧ (∀ i (hi : i < A.length), (u + v) / 2 ≤ i → ltT (t y) (t A[i])) ∧ Fr0 w W1) := hid ⟨hR.out.1, fun i hi hiu => HP.out.1.a.ge hi hiu _ HU.out, hR.out.2.2.trans0 hW1⟩
        clear hW1 hR HU
        go_wp2
        go_roundw
        case rel => exact ⟨u, (u + v) / 2, rfl, vi (by have := HC.out.2.2; omega), by omega, by omega, HE⟩
        case measure => have := HC.out.2.2; simp [intOf]; omega
      · have hcd : decide (c < 0) = false := by simp; omega
        have HU := hid (fun h => hc (HC.out.1.2 h))
        clear hc
        go_wp2_with fail
        refine wp_region_ext (by kernel_rfl) (by kernel_rfl) ?_
        repeat (refine wpQuiet_step (fun K hK => ?_); go_simp; first | (refine hK _ ?_; clear hK K) | (apply Exists.intro; refine ⟨fun _ => ?_, hK _ ?_⟩; (go_at_call 55; refine calls_ext (HS.out _)); clear hK K))
        refine wpQuiet_nil ?_
        intro _ hw'
        obtain ⟨q, hw''⟩ := hw'
        subst hw''
        have hW1 := q.fr
        generalize q.out = W1 at hW1 ⊢
        clear q e1 e2 i1 i2
        have HE : Hid ((∀ i (hi : i < A.length), i < (u + v) / 2 + 1 → ¬ ltT (t y) (t A[i])) ∧ (∀ i (hi : i < A.length), v ≤ i → ltT (t y) (t A[i])) ∧ Fr0 w W1) := hid ⟨fun i hi hiu hh => HU.out (HP.out.1.a.ge HC.out.2.1 (by omega) _ hh), hR.out.2.1, hR.out.2.2.trans0 hW1⟩
        clear hW1 hR HU
        go_wp2
        go_roundw
        case rel => exact ⟨(u + v) / 2 + 1, v, vi (by have := HC.out.2.2; omega), rfl, by omega, by omega, HE⟩
        case measure => have := HC.out.2.2; simp [intOf]; omega
    · obtain rfl : u = v := by omega
      have HU := hid (And.intro hR.out.1 hR.out.2.1)
      have HF := hid hR.out.2.2
      have hub : a + u ≤ m := hv
      clear hR
      go_wp2_with fail
      go_loopw [17] (fun k wr => ∃ r : Nat, k = .int .i64 ((a : Int) + r) ∧ u ≤ r ∧ a + r ≤ m ∧ Hid (PRow wr g p (X ++ A.take r ++ y :: A.drop r ++ Y) ∧ Fr (· = g) w wr)) (fun k _ => (intOf k).toNat)
      case atStart => exact ⟨m - a, vi (by omega), by omega, by omega, hid ⟨by
        have h1 := H.out.1.fr HF.out (fun h => h)
        have h2 : m - a = A.length := by have := HL.out; omega
        rw [h2, List.take_length, List.drop_length]
        simpa using h1, HF.out.mono (fun _ _ h => h.elim)⟩⟩
      case round =>
        obtain ⟨r, rfl, hr, hrm, hR⟩ := hrel
        rcases Nat.lt_or_ge u r with hlt2 | hge2
        · have hltI : (a : Int) + (u : Int) < (a : Int) + (r : Int) := by omega
          have hrA : r - 1 < A.length := by have := HL.out; omega
          have hrr : r - 1 + 1 = r := by omega
          have hrow : PRow wr g p ((X ++ A.take (r - 1)) ++ A[r - 1] :: y :: (A.drop r ++ Y)) := by
            have h1 := hR.out.1
            have h2 := take_snoc' A (r - 1) hrA
            rw [hrr] at h2
            rw [h2] at h1
            simpa only [List.append_assoc, List.cons_append, List.nil_append] using h1
          have hbl2 : (X ++ A.take (r - 1)).length = a + r - 1 := by have := HL.out; simp; omega
          obtain ⟨c1, c2, _⟩ := hrow.pair
          have hs := hrow.drew.pair.2.2
          rw [hbl2, show a + r - 1 + 1 = a + r by omega] at c2 hs
          rw [hbl2] at c1
          have f1 := hrow.free (a + r)
          have f2 := hrow.free (a + r - 1)
          have i1 := index75 g len cap (a + r) (by have := HL.out; omega)
          have i2 := index75 g len cap (a + r - 1) (by have := HL.out; omega)
          rw [show ((a + r : Nat) : Int) = (a : Int) + r by omega] at i1
          rw [show ((a + r - 1 : Nat) : Int) = (a : Int) + r - 1 by omega] at i2
          simp only [pv] at c1 c2 hs
          have HS : Hid (PRow ((wr.drew.setCell ⟨g, a + r, none⟩ (.pointer (some ⟨p A[r - 1], 0, none⟩))).setCell ⟨g, a + r - 1, none⟩ (.pointer (some ⟨p y, 0, none⟩))) g p (X ++ A.take (r - 1) ++ y :: A.drop (r - 1) ++ Y) ∧ Fr (· = g) w ((wr.drew.setCell ⟨g, a + r, none⟩ (.pointer (some ⟨p A[r - 1], 0, none⟩))).setCell ⟨g, a + r - 1, none⟩ (.pointer (some ⟨p y, 0, none⟩)))) := hid ⟨by
              have h2 := List.drop_eq_getElem_cons hrA
              rw [hrr] at h2
              rw [h2]
              simpa only [List.append_assoc, List.cons_append, List.nil_append] using hs, ((hR.out.2.drew).setCell (p := ⟨g, a + r, none⟩) (fun _ => rfl) _).setCell (p := ⟨g, a + r - 1, none⟩) (fun _ => rfl) _⟩
          have hr0 : 0 < r := by omega
          clear hrow hbl2 hs hR hrr
          generalize p A[r - 1] = q1 at c1 HS
          go_wp2_with fail
          go_region
          go_wp2
          go_roundw
          case rel => exact ⟨r - 1, vi (by omega), by omega, by omega, HS⟩
          case measure => simp [intOf]; omega
        · obtain rfl : r = u := by omega
          have hE := sym_last ht HP.out.1 HU.out.1 HU.out.2
          have HE := hid (And.intro hE.1 hE.2)
          clear hE
          go_wp2
          refine bodyPost_ret (results_none rfl _ _ _) rfl ?_
          exact ⟨rfl, hR.out.2, _, HE.out.1, HE.out.2, by have := hR.out.1; simpa using this⟩
end Go.Proofs.Ytjaabbjobnfmmaa

namespace Go.Proofs.Ytjaabbjobnfmmaa

/-- What the search for the cut asks at place c: the mirrored element of B isn't ahead of A's. (d: half of all.) -/
def SymQ (t : Nat → Int) (A B : List Nat) (d c : Nat) : Prop := ¬ ltT (t (B.getD (d - 1 - c) 0)) (t (A.getD c 0))
/-- The bounds of the search. -/
def symLo (A B : List Nat) (d : Nat) : Nat := if d < A.length then d - B.length else 0
def symHi (A : List Nat) (d : Nat) : Nat := if d < A.length then d else A.length

/-- How the rows are cut at s. -/
structure SymCut (t : Nat → Int) (A B : List Nat) (d s : Nat) : Prop where
  sa : s ≤ A.length
  sd : s ≤ d
  eb : d - s ≤ B.length
  ba : ∀ v ∈ B.take (d - s), ∀ u ∈ A.drop s, ltT (t v) (t u)
  ab : ∀ u ∈ A.take s, ∀ v ∈ B.drop (d - s), ¬ ltT (t v) (t u)

theorem getD_eq {L : List Nat} {i : Nat} (h : i < L.length) : L.getD i 0 = L[i] := by
  rw [List.getD_eq_getElem?_getD, List.getElem?_eq_getElem h]; rfl

theorem symCut {t : Nat → Int} {A B : List Nat} (hA : Srt t A) (hB : Srt t B) (d s : Nat) (hd : d = (A.length + B.length) / 2)
    (h0 : symLo A B d ≤ s) (h1 : s ≤ symHi A d) (hl : ∀ c, symLo A B d ≤ c → c < s → SymQ t A B d c) (hh : ∀ c, s ≤ c → c < symHi A d → ¬ SymQ t A B d c) : SymCut t A B d s := by
  unfold symLo symHi at *
  have e1 : s ≤ A.length := by split at h1 <;> omega
  have e2 : s ≤ d := by split at h1 <;> omega
  have e3 : d - s ≤ B.length := by split at h0 <;> omega
  refine ⟨e1, e2, e3, fun v hv u hu => ?_, fun u hu v hv hlt => ?_⟩
  · obtain ⟨i, hi, rfl⟩ := List.getElem_of_mem hv
    obtain ⟨j, hj, rfl⟩ := List.getElem_of_mem hu
    simp at hi hj
    rw [List.getElem_take, List.getElem_drop]
    have hs : s < (if d < A.length then d else A.length) := by split <;> omega
    have hq := hh s (Nat.le_refl _) hs
    unfold SymQ at hq
    have hq2 := Classical.not_not.1 hq
    rw [getD_eq (show s < A.length by omega), getD_eq (show d - 1 - s < B.length by omega)] at hq2
    have h3 := hA.ge (i := s) (j := s + j) (by omega) (by omega) _ hq2
    exact hB.le (i := i) (j := d - 1 - s) (by omega) (by omega) _ h3
  · obtain ⟨j, hj, rfl⟩ := List.getElem_of_mem hu
    obtain ⟨i, hi, rfl⟩ := List.getElem_of_mem hv
    simp at hi hj
    rw [List.getElem_take, List.getElem_drop] at hlt
    have hs : (if d < A.length then d - B.length else 0) ≤ s - 1 := by split <;> omega
    have hq := hl (s - 1) hs (by omega)
    unfold SymQ at hq
    rw [getD_eq (show s - 1 < A.length by omega), getD_eq (show d - 1 - (s - 1) < B.length by omega)] at hq
    apply hq
    have h3 := hA.ge (i := j) (j := s - 1) (by omega) (by omega) _ hlt
    exact hB.le (i := d - 1 - (s - 1)) (j := d - s + i) (by omega) (by omega) _ h3

theorem symQ_down {t : Nat → Int} {A B : List Nat} (hA : Srt t A) (hB : Srt t B) {d c c' : Nat} (hc : c < A.length) (hcc : c' ≤ c) (hb : d - 1 - c' < B.length) (h : SymQ t A B d c) : SymQ t A B d c' := by
  unfold SymQ at *
  intro hlt
  apply h
  rw [getD_eq (show c' < A.length by omega), getD_eq hb] at hlt
  rw [getD_eq hc, getD_eq (show d - 1 - c < B.length by omega)]
  have h3 := hA.ge (i := c') (j := c) hc hcc _ hlt
  exact hB.le (i := d - 1 - c) (j := d - 1 - c') hb (by omega) _ h3

theorem Srt.take {t : Nat → Int} {L : List Nat} (h : Srt t L) (n : Nat) : Srt t (L.take n) := List.Pairwise.sublist (List.take_sublist _ _) h
theorem Srt.drop {t : Nat → Int} {L : List Nat} (h : Srt t L) (n : Nat) : Srt t (L.drop n) := List.Pairwise.sublist (List.drop_sublist _ _) h

section
variable {t : Nat → Int} {N : Nat} {A B : List Nat} {d s : Nat}
theorem SymPre.one (h : SymPre t N A B) : SymPre t N (A.take s) (B.take (d - s)) :=
  ⟨h.a.take _, h.b.take _, fun x hx y hy => h.ab x (List.mem_of_mem_take hx) y (List.mem_of_mem_take hy), fun x hx => h.an x (List.mem_of_mem_take hx), fun y hy => h.bn y (List.mem_of_mem_take hy)⟩
theorem SymPre.two (h : SymPre t N A B) : SymPre t N (A.drop s) (B.drop (d - s)) :=
  ⟨h.a.drop _, h.b.drop _, fun x hx y hy => h.ab x (List.mem_of_mem_drop hx) y (List.mem_of_mem_drop hy), fun x hx => h.an x (List.mem_of_mem_drop hx), fun y hy => h.bn y (List.mem_of_mem_drop hy)⟩

/-- Both halves merged: the whole is merged. -/
theorem sym_join (ht : ∀ i, i < N → -1 ≤ t i) (h : SymPre t N A B) (hc : SymCut t A B d s) {C D : List Nat} (h1 : C.Perm (A.take s ++ B.take (d - s))) (h2 : Srt t C) (h3 : D.Perm (A.drop s ++ B.drop (d - s))) (h4 : Srt t D) :
    (C ++ D).Perm (A ++ B) ∧ Srt t (C ++ D) := by
  constructor
  · refine (h1.append h3).trans ?_
    have e : (A.take s ++ B.take (d - s) ++ (A.drop s ++ B.drop (d - s))).Perm ((A.take s ++ A.drop s) ++ (B.take (d - s) ++ B.drop (d - s))) := by
      simp only [List.append_assoc]
      refine List.Perm.append_left _ ?_
      simp only [← List.append_assoc]
      refine List.Perm.append_right _ ?_
      exact List.perm_append_comm
    rwa [List.take_append_drop, List.take_append_drop] at e
  · unfold Srt
    rw [List.pairwise_append]
    refine ⟨h2, h4, fun x hx y hy => ?_⟩
    have hA := h.a
    have hB := h.b
    unfold Srt at hA hB
    rw [← List.take_append_drop s A, List.pairwise_append] at hA
    rw [← List.take_append_drop (d - s) B, List.pairwise_append] at hB
    have hx' := h1.mem_iff.1 hx
    have hy' := h3.mem_iff.1 hy
    rcases List.mem_append.1 hx' with hx' | hx' <;> rcases List.mem_append.1 hy' with hy' | hy'
    · exact hA.2.2 x hx' y hy'
    · exact bf_of_not (ht _ (h.an x (List.mem_of_mem_take hx'))) (ht _ (h.bn y (List.mem_of_mem_drop hy'))) (hc.ab x hx' y hy') (h.ab x (List.mem_of_mem_take hx') y (List.mem_of_mem_drop hy'))
    · exact .inl (hc.ba x hx' y hy')
    · exact hB.2.2 x hx' y hy'

/-- A half of which one row is empty is merged. -/
theorem srt_of_empty {P Q : List Nat} (hP : Srt t P) (hQ : Srt t Q) (h : P = [] ∨ Q = []) : Srt t (P ++ Q) := by
  rcases h with rfl | rfl
  · simpa using hQ
  · simpa using hP
end
end Go.Proofs.Ytjaabbjobnfmmaa

/-
  The order of calls by their ends, then by their places: plain laws, for slices.SortStableFunc.
-/
import Derived.Test.YtjaabbjobnfmmaaSoon
namespace Go.Proofs.Ytjaabbjobnfmmaa
open Go.RowKit

/-- An end is ahead of another one; a pending one (-1) is last. -/
def ltT (a b : Int) : Prop := 0 ≤ a ∧ (b < 0 ∨ a < b)
theorem snr_neg {a b : Int} (ha : -1 ≤ a) (hb : -1 ≤ b) : snr a b < 0 ↔ ltT a b := by
  unfold snr ltT
  split
  · omega
  · split <;> omega
/-- Call i is ahead of call j in the order of ends; of equal ends the lower number is first. -/
def Bf (t : Nat → Int) (i j : Nat) : Prop := ltT (t i) (t j) ∨ (t i = t j ∧ i < j)

section
variable {t : Nat → Int}
theorem ltT_trans {a b c : Int} (h : ltT a b) (k : ltT b c) : ltT a c := by unfold ltT at *; omega
theorem ltT_irrefl (a : Int) : ¬ ltT a a := by unfold ltT; omega
theorem ltT_total {a b : Int} (ha : -1 ≤ a) (hb : -1 ≤ b) (h : ¬ ltT a b) (hne : a ≠ b) : ltT b a := by unfold ltT at *; omega
theorem Bf.trans {i j k : Nat} (h : Bf t i j) (h2 : Bf t j k) : Bf t i k := by
  rcases h with h | ⟨h, h'⟩
  · rcases h2 with h2 | ⟨h2, _⟩
    · exact .inl (ltT_trans h h2)
    · exact .inl (h2 ▸ h)
  · rcases h2 with h2 | ⟨h2, h2'⟩
    · exact .inl (h ▸ h2)
    · exact .inr ⟨h.trans h2, Nat.lt_trans h' h2'⟩
theorem Bf.irrefl (i : Nat) : ¬ Bf t i i := by
  rintro (h | ⟨_, h⟩)
  · exact ltT_irrefl _ h
  · omega
theorem bf_of_not {i j : Nat} (hi : -1 ≤ t i) (hj : -1 ≤ t j) (h : ¬ ltT (t j) (t i)) (hij : i < j) : Bf t i j := by
  by_cases e : t i = t j
  · exact .inr ⟨e, hij⟩
  · exact .inl (ltT_total hj hi h (fun h => e h.symm))
/-- A row in the order. -/
def Srt (t : Nat → Int) (L : List Nat) : Prop := L.Pairwise (Bf t)

/-- An element put where it belongs: behind all of P1, ahead of all of P2. -/
theorem srt_insert {P1 P2 : List Nat} {x : Nat} (h : Srt t (P1 ++ P2)) (h2 : ∀ y ∈ P2, ltT (t x) (t y)) (h1 : ∀ y, P1.getLast? = some y → Bf t y x) : Srt t (P1 ++ x :: P2) := by
  unfold Srt at *
  rw [List.pairwise_append] at h ⊢
  obtain ⟨a, b, c⟩ := h
  have hP1 : ∀ u ∈ P1, Bf t u x := by
    intro u hu
    rcases List.eq_nil_or_concat P1 with e | ⟨Q, y, e⟩
    · subst e; simp at hu
    · subst e
      have hy := h1 y (by simp)
      rw [List.concat_eq_append] at hu a
      rcases List.mem_append.1 hu with hu | hu
      · exact ((List.pairwise_append.1 a).2.2 u hu y (by simp)).trans hy
      · rw [List.mem_singleton.1 hu]; exact hy
  refine ⟨a, List.pairwise_cons.2 ⟨fun y hy => .inl (h2 y hy), b⟩, fun u hu v hv => ?_⟩
  rcases List.mem_cons.1 hv with rfl | hv
  · exact hP1 u hu
  · exact c u hu v hv
end

/-- How the outer loop of the insertion sort stands: the first k of A are in order. -/
structure InsOut (w wr : World) (g : Nat) (p : Nat → Nat) (t : Nat → Int) (X A Y P : List Nat) (k : Nat) : Prop where
  row : PRow wr g p (X ++ P ++ A.drop k ++ Y)
  perm : P.Perm (A.take k)
  srt : Srt t P
  fr : Fr (· = g) w wr
/-- How the inner loop stands: x = A[k] has been carried down behind P1. -/
structure InsIn (w wr : World) (g : Nat) (p : Nat → Nat) (t : Nat → Int) (X A Y P1 P2 : List Nat) (k x : Nat) : Prop where
  row : PRow wr g p (X ++ P1 ++ x :: P2 ++ A.drop (k + 1) ++ Y)
  perm : (P1 ++ P2).Perm (A.take k)
  srt : Srt t (P1 ++ P2)
  up : ∀ y ∈ P2, ltT (t x) (t y)
  fr : Fr (· = g) w wr

section
variable {w wr w' : World} {g : Nat} {p : Nat → Nat} {t : Nat → Int} {X A Y P P1 P2 : List Nat} {k x x' : Nat}
theorem InsOut.begin (h : InsOut w wr g p t X A Y P k) (hk : k < A.length) : InsIn w wr g p t X A Y P [] k A[k] := by
  refine ⟨?_, by simpa using h.perm, by simpa using h.srt, by simp, h.fr⟩
  have := h.row
  rw [List.drop_eq_getElem_cons hk] at this
  simpa using this
theorem InsIn.swap (h : InsIn w wr g p t X A Y (P1 ++ [x']) P2 k x) (hx : ltT (t x) (t x')) (hr : PRow w' g p (X ++ P1 ++ x :: x' :: P2 ++ A.drop (k + 1) ++ Y)) (hf : Fr (· = g) wr w') : InsIn w w' g p t X A Y P1 (x' :: P2) k x := by
  refine ⟨by simpa using hr, by have := h.perm; simpa using this, by have := h.srt; simpa using this, fun y hy => ?_, h.fr.trans' hf⟩
  rcases List.mem_cons.1 hy with rfl | hy
  · exact hx
  · exact h.up y hy
theorem InsIn.stop (h : InsIn w wr g p t X A Y P1 P2 k x) (hk : k < A.length) (hx : x = A[k]) (h1 : ∀ y, P1.getLast? = some y → Bf t y x) : InsOut w wr g p t X A Y (P1 ++ x :: P2) (k + 1) := by
  refine ⟨by have := h.row; simpa using this, ?_, srt_insert h.srt h.up h1, h.fr⟩
  rw [take_snoc' A k hk, ← hx]
  have h2 : (P1 ++ x :: P2).Perm (x :: (P1 ++ P2)) := List.perm_middle
  exact h2.trans ((h.perm.cons x).trans (by
    have := List.perm_append_singleton x (A.take k)
    exact this.symm))
theorem InsIn.fr0 (h : InsIn w wr g p t X A Y P1 P2 k x) (hf : Fr0 wr w') : InsIn w w' g p t X A Y P1 P2 k x :=
  ⟨h.row.fr hf (fun h => h), h.perm, h.srt, h.up, h.fr.trans0 hf⟩
end
end Go.Proofs.Ytjaabbjobnfmmaa

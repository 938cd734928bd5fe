/-
  The plain law of the symmetric merge: where the two rows are cut.
-/
import Derived.Test.YtjaabbjobnfmmaaSymB
namespace Go.Proofs.Ytjaabbjobnfmmaa

/-- What the search for the cut asks at place c: the mirrored element of B isn't ahead of A's. (d: half of all.) -/
def SymQ (t : Nat → Int) (A B : List Nat) (d c : Nat) : Prop := ¬ ltT (t (B.getD (d - 1 - c) 0)) (t (A.getD c 0))
/-- The bounds of the search. -/
def symLo (A B : List Nat) (d : Nat) : Nat := if d < A.length then d - B.length else 0
def symHi (A : List Nat) (d : Nat) : Nat := if d < A.length then d else A.length

/-- How the rows are cut at s. -/
structure SymCut (t : Nat → Int) (A B : List Nat) (d s : Nat) : Prop where
  sa : s ≤ A.length
  sd : s ≤ d
  eb : d - s ≤ B.length
  ba : ∀ v ∈ B.take (d - s), ∀ u ∈ A.drop s, ltT (t v) (t u)
  ab : ∀ u ∈ A.take s, ∀ v ∈ B.drop (d - s), ¬ ltT (t v) (t u)

theorem getD_eq {L : List Nat} {i : Nat} (h : i < L.length) : L.getD i 0 = L[i] := by
  rw [List.getD_eq_getElem?_getD, List.getElem?_eq_getElem h]; rfl

theorem symCut {t : Nat → Int} {A B : List Nat} (hA : Srt t A) (hB : Srt t B) (d s : Nat) (hd : d = (A.length + B.length) / 2)
    (h0 : symLo A B d ≤ s) (h1 : s ≤ symHi A d) (hl : ∀ c, symLo A B d ≤ c → c < s → SymQ t A B d c) (hh : ∀ c, s ≤ c → c < symHi A d → ¬ SymQ t A B d c) : SymCut t A B d s := by
  unfold symLo symHi at *
  have e1 : s ≤ A.length := by split at h1 <;> omega
  have e2 : s ≤ d := by split at h1 <;> omega
  have e3 : d - s ≤ B.length := by split at h0 <;> omega
  refine ⟨e1, e2, e3, fun v hv u hu => ?_, fun u hu v hv hlt => ?_⟩
  · obtain ⟨i, hi, rfl⟩ := List.getElem_of_mem hv
    obtain ⟨j, hj, rfl⟩ := List.getElem_of_mem hu
    simp at hi hj
    rw [List.getElem_take, List.getElem_drop]
    have hs : s < (if d < A.length then d else A.length) := by split <;> omega
    have hq := hh s (Nat.le_refl _) hs
    unfold SymQ at hq
    have hq2 := Classical.not_not.1 hq
    rw [getD_eq (show s < A.length by omega), getD_eq (show d - 1 - s < B.length by omega)] at hq2
    have h3 := hA.ge (i := s) (j := s + j) (by omega) (by omega) _ hq2
    exact hB.le (i := i) (j := d - 1 - s) (by omega) (by omega) _ h3
  · obtain ⟨j, hj, rfl⟩ := List.getElem_of_mem hu
    obtain ⟨i, hi, rfl⟩ := List.getElem_of_mem hv
    simp at hi hj
    rw [List.getElem_take, List.getElem_drop] at hlt
    have hs : (if d < A.length then d - B.length else 0) ≤ s - 1 := by split <;> omega
    have hq := hl (s - 1) hs (by omega)
    unfold SymQ at hq
    rw [getD_eq (show s - 1 < A.length by omega), getD_eq (show d - 1 - (s - 1) < B.length by omega)] at hq
    apply hq
    have h3 := hA.ge (i := j) (j := s - 1) (by omega) (by omega) _ hlt
    exact hB.le (i := d - 1 - (s - 1)) (j := d - s + i) (by omega) (by omega) _ h3

theorem symQ_down {t : Nat → Int} {A B : List Nat} (hA : Srt t A) (hB : Srt t B) {d c c' : Nat} (hc : c < A.length) (hcc : c' ≤ c) (hb : d - 1 - c' < B.length) (h : SymQ t A B d c) : SymQ t A B d c' := by
  unfold SymQ at *
  intro hlt
  apply h
  rw [getD_eq (show c' < A.length by omega), getD_eq hb] at hlt
  rw [getD_eq hc, getD_eq (show d - 1 - c < B.length by omega)]
  have h3 := hA.ge (i := c') (j := c) hc hcc _ hlt
  exact hB.le (i := d - 1 - c) (j := d - 1 - c') hb (by omega) _ h3

theorem Srt.take {t : Nat → Int} {L : List Nat} (h : Srt t L) (n : Nat) : Srt t (L.take n) := List.Pairwise.sublist (List.take_sublist _ _) h
theorem Srt.drop {t : Nat → Int} {L : List Nat} (h : Srt t L) (n : Nat) : Srt t (L.drop n) := List.Pairwise.sublist (List.drop_sublist _ _) h

section
variable {t : Nat → Int} {N : Nat} {A B : List Nat} {d s : Nat}
theorem SymPre.one (h : SymPre t N A B) : SymPre t N (A.take s) (B.take (d - s)) :=
  ⟨h.a.take _, h.b.take _, fun x hx y hy => h.ab x (List.mem_of_mem_take hx) y (List.mem_of_mem_take hy), fun x hx => h.an x (List.mem_of_mem_take hx), fun y hy => h.bn y (List.mem_of_mem_take hy)⟩
theorem SymPre.two (h : SymPre t N A B) : SymPre t N (A.drop s) (B.drop (d - s)) :=
  ⟨h.a.drop _, h.b.drop _, fun x hx y hy => h.ab x (List.mem_of_mem_drop hx) y (List.mem_of_mem_drop hy), fun x hx => h.an x (List.mem_of_mem_drop hx), fun y hy => h.bn y (List.mem_of_mem_drop hy)⟩

/-- Both halves merged: the whole is merged. -/
theorem sym_join (ht : ∀ i, i < N → -1 ≤ t i) (h : SymPre t N A B) (hc : SymCut t A B d s) {C D : List Nat} (h1 : C.Perm (A.take s ++ B.take (d - s))) (h2 : Srt t C) (h3 : D.Perm (A.drop s ++ B.drop (d - s))) (h4 : Srt t D) :
    (C ++ D).Perm (A ++ B) ∧ Srt t (C ++ D) := by
  constructor
  · refine (h1.append h3).trans ?_
    have e : (A.take s ++ B.take (d - s) ++ (A.drop s ++ B.drop (d - s))).Perm ((A.take s ++ A.drop s) ++ (B.take (d - s) ++ B.drop (d - s))) := by
      simp only [List.append_assoc]
      refine List.Perm.append_left _ ?_
      simp only [← List.append_assoc]
      refine List.Perm.append_right _ ?_
      exact List.perm_append_comm
    rwa [List.take_append_drop, List.take_append_drop] at e
  · unfold Srt
    rw [List.pairwise_append]
    refine ⟨h2, h4, fun x hx y hy => ?_⟩
    have hA := h.a
    have hB := h.b
    unfold Srt at hA hB
    rw [← List.take_append_drop s A, List.pairwise_append] at hA
    rw [← List.take_append_drop (d - s) B, List.pairwise_append] at hB
    have hx' := h1.mem_iff.1 hx
    have hy' := h3.mem_iff.1 hy
    rcases List.mem_append.1 hx' with hx' | hx' <;> rcases List.mem_append.1 hy' with hy' | hy'
    · exact hA.2.2 x hx' y hy'
    · exact bf_of_not (ht _ (h.an x (List.mem_of_mem_take hx'))) (ht _ (h.bn y (List.mem_of_mem_drop hy'))) (hc.ab x hx' y hy') (h.ab x (List.mem_of_mem_take hx') y (List.mem_of_mem_drop hy'))
    · exact .inl (hc.ba x hx' y hy')
    · exact hB.2.2 x hx' y hy'

/-- A half of which one row is empty is merged. -/
theorem srt_of_empty {P Q : List Nat} (hP : Srt t P) (hQ : Srt t Q) (h : P = [] ∨ Q = []) : Srt t (P ++ Q) := by
  rcases h with rfl | rfl
  · simpa using hQ
  · simpa using hP
end
end Go.Proofs.Ytjaabbjobnfmmaa

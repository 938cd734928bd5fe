/-
  The plain law of the stable sort: blocks in order.
-/
import Derived.Test.YtjaabbjobnfmmaaSymC
namespace Go.Proofs.Ytjaabbjobnfmmaa

/-- Block i of bs elements of a row. -/
def blk (M : List Nat) (i bs : Nat) : List Nat := (M.drop (i * bs)).take bs
/-- Block i of M holds what block i of L held, in order. -/
def GB (t : Nat → Int) (L M : List Nat) (i bs : Nat) : Prop := (blk M i bs).Perm (blk L i bs) ∧ Srt t (blk M i bs)

section
variable {t : Nat → Int} {L M P Q C : List Nat} {i bs k n : Nat}

theorem GB.empty (hl : L.length ≤ i * bs) (hm : M.length ≤ i * bs) : GB t L M i bs := by
  unfold GB blk
  rw [List.drop_of_length_le hl, List.drop_of_length_le hm]
  simp [Srt]

/-- A block that lies before the place where two rows part. -/
theorem blk_left (P Q Q' : List Nat) (i bs : Nat) (h : i * bs + bs ≤ P.length) : blk (P ++ Q) i bs = blk (P ++ Q') i bs := by
  unfold blk
  rw [List.drop_append_of_le_length (by omega), List.drop_append_of_le_length (by omega), List.take_append_of_le_length (by simp; omega), List.take_append_of_le_length (by simp; omega)]
/-- A block that lies behind a piece that is as long as before. -/
theorem blk_right (P P' Q : List Nat) (i bs : Nat) (h : P.length = P'.length) (h2 : P.length ≤ i * bs) : blk (P ++ Q) i bs = blk (P' ++ Q) i bs := by
  unfold blk
  have e1 : P.drop (i * bs) = [] := List.drop_of_length_le h2
  have e2 : P'.drop (i * bs) = [] := List.drop_of_length_le (h ▸ h2)
  rw [List.drop_append, List.drop_append, e1, e2, h]

theorem blk_mid (P C Q : List Nat) (i bs : Nat) (h : P.length = i * bs) (h2 : C.length = bs ∨ (C.length ≤ bs ∧ Q = [])) : blk (P ++ C ++ Q) i bs = C := by
  unfold blk
  rw [List.append_assoc, ← h, List.drop_left]
  rcases h2 with h2 | ⟨h2, rfl⟩
  · rw [← h2, List.take_left]
  · rw [List.append_nil, List.take_of_length_le h2]

/-- The two halves of a block. -/
theorem blk_two (M : List Nat) (k bs : Nat) : blk M k (2 * bs) = blk M (2 * k) bs ++ blk M (2 * k + 1) bs := by
  unfold blk
  have e1 : k * (2 * bs) = 2 * k * bs := by rw [Nat.mul_comm 2 k, Nat.mul_assoc]
  have e2 : (2 * k + 1) * bs = 2 * k * bs + bs := by rw [Nat.add_mul]; omega
  rw [e1, e2, ← List.drop_drop, show 2 * bs = bs + bs by omega, List.take_add]

/-- A row cut at a block. -/
theorem cut_blk (M : List Nat) (i bs : Nat) : M = M.take (i * bs) ++ blk M i bs ++ M.drop (i * bs + bs) := by
  unfold blk
  rw [← List.drop_drop, List.append_assoc, List.take_append_drop, List.take_append_drop]

theorem blk_len (M : List Nat) (i bs : Nat) (h : i * bs + bs ≤ M.length) : (blk M i bs).length = bs := by
  unfold blk; simp; omega
theorem blk_len_le (M : List Nat) (i bs : Nat) : (blk M i bs).length ≤ bs := by
  unfold blk; simp; omega

/-- Of an ascending row the elements of an earlier block are lower. -/
theorem blk_lt (hL : L.Pairwise (· < ·)) (i bs : Nat) : ∀ x ∈ blk L i bs, ∀ y ∈ blk L (i + 1) bs, x < y := by
  intro x hx y hy
  have e : (i + 1) * bs = i * bs + bs := by rw [Nat.add_mul]; omega
  unfold blk at hx hy
  rw [e, ← List.drop_drop] at hy
  have h2 := List.Pairwise.sublist (List.drop_sublist (i * bs) L) hL
  rw [← List.take_append_drop bs (L.drop (i * bs)), List.pairwise_append] at h2
  exact h2.2.2 x hx y (List.mem_of_mem_take hy)
theorem mem_blk {x : Nat} (h : x ∈ blk L i bs) : x ∈ L := List.mem_of_mem_drop (List.mem_of_mem_take h)

/-- What a merge of two blocks asks. -/
theorem pre_of_blk {N : Nat} (hL : L.Pairwise (· < ·)) (hN : ∀ x ∈ L, x < N) (h1 : GB t L M i bs) (h2 : GB t L M (i + 1) bs) : SymPre t N (blk M i bs) (blk M (i + 1) bs) :=
  ⟨h1.2, h2.2, fun x hx y hy => blk_lt hL i bs x (h1.1.mem_iff.1 hx) y (h2.1.mem_iff.1 hy), fun x hx => hN x (mem_blk (h1.1.mem_iff.1 hx)), fun y hy => hN y (mem_blk (h2.1.mem_iff.1 hy))⟩

/-- How the merging stands: k double blocks are merged. -/
structure MrgAt (t : Nat → Int) (L M : List Nat) (bs k : Nat) : Prop where
  len : M.length = L.length
  done : ∀ i, i < k → GB t L M i (2 * bs)
  rest : ∀ i, 2 * k ≤ i → GB t L M i bs

theorem MrgAt.step (h : MrgAt t L M bs k) (hC : C.Perm (blk M (2 * k) bs ++ blk M (2 * k + 1) bs)) (hs : Srt t C) :
    MrgAt t L (M.take (k * (2 * bs)) ++ C ++ M.drop (k * (2 * bs) + 2 * bs)) bs (k + 1) := by
  have hC2 : C.Perm (blk M k (2 * bs)) := by rw [blk_two]; exact hC
  have hCl : C.length = (blk M k (2 * bs)).length := hC2.length_eq
  have hM := cut_blk M k (2 * bs)
  have hml : (M.take (k * (2 * bs)) ++ blk M k (2 * bs)).length = (M.take (k * (2 * bs)) ++ C).length := by simp [hCl]
  have hLb : (blk M k (2 * bs)).Perm (blk L k (2 * bs)) := by
    rw [blk_two, blk_two L]
    exact (h.rest (2 * k) (Nat.le_refl _)).1.append (h.rest (2 * k + 1) (by omega)).1
  refine ⟨?_, fun i hi => ?_, fun i hi => ?_⟩
  · rw [← h.len]
    conv => rhs; rw [hM]
    simp only [List.length_append, hCl]
  · by_cases e : i = k
    · subst e
      by_cases hfull : i * (2 * bs) ≤ M.length
      · have hb : blk (M.take (i * (2 * bs)) ++ C ++ M.drop (i * (2 * bs) + 2 * bs)) i (2 * bs) = C := by
          refine blk_mid _ _ _ _ _ (by simp; omega) ?_
          by_cases hfb : i * (2 * bs) + 2 * bs ≤ M.length
          · left; rw [hCl, blk_len _ _ _ hfb]
          · right; exact ⟨by rw [hCl]; exact blk_len_le _ _ _, List.drop_of_length_le (by omega)⟩
        unfold GB
        rw [hb]
        exact ⟨hC2.trans hLb, hs⟩
      · refine GB.empty (by rw [← h.len]; omega) ?_
        have : C = [] := List.eq_nil_of_length_eq_zero (by rw [hCl]; unfold blk; simp; omega)
        rw [this]; simp; omega
    · have hik : i < k := by omega
      have hmul : i * (2 * bs) + 2 * bs ≤ k * (2 * bs) := by
        have := Nat.mul_le_mul_right (2 * bs) (show i + 1 ≤ k by omega)
        rw [Nat.add_mul] at this; omega
      have hd := h.done i hik
      by_cases hfull : k * (2 * bs) ≤ M.length
      · have e1 : blk (M.take (k * (2 * bs)) ++ C ++ M.drop (k * (2 * bs) + 2 * bs)) i (2 * bs) = blk M i (2 * bs) := by
          rw [List.append_assoc, blk_left _ _ (M.drop (k * (2 * bs))) _ _ (by simp; omega), List.take_append_drop]
        unfold GB at *
        rw [e1]
        exact hd
      · have hCn : C = [] := List.eq_nil_of_length_eq_zero (by rw [hCl]; unfold blk; simp; omega)
        have e1 : M.take (k * (2 * bs)) ++ C ++ M.drop (k * (2 * bs) + 2 * bs) = M := by
          rw [hCn, List.take_of_length_le (by omega), List.drop_of_length_le (by omega)]; simp
        rw [e1]
        exact hd
  · have hr := h.rest i (by omega)
    have hmul : k * (2 * bs) + 2 * bs ≤ i * bs := by
      have := Nat.mul_le_mul_right bs (show 2 * k + 2 ≤ i by omega)
      rw [Nat.add_mul, Nat.mul_comm 2 k, Nat.mul_assoc] at this
      omega
    by_cases hfb : i * bs ≤ M.length
    · have e1 : blk (M.take (k * (2 * bs)) ++ C ++ M.drop (k * (2 * bs) + 2 * bs)) i bs = blk M i bs := by
        rw [blk_right _ (M.take (k * (2 * bs)) ++ blk M k (2 * bs)) _ _ _ hml.symm (by rw [← hml]; have := blk_len_le M k (2 * bs); simp; omega), ← hM]
      unfold GB at *
      rw [e1]
      exact hr
    · refine GB.empty (by rw [← h.len]; omega) ?_
      have : (M.take (k * (2 * bs)) ++ C ++ M.drop (k * (2 * bs) + 2 * bs)).length = M.length := by
        conv => rhs; rw [hM]
        simp only [List.length_append, hCl]
      omega

/-- The last double block, where it is no more than one block. -/
theorem MrgAt.last (h : MrgAt t L M bs k) (hk : M.length ≤ k * (2 * bs) + bs) : ∀ i, GB t L M i (2 * bs) := by
  intro i
  by_cases hik : i < k
  · exact h.done i hik
  · by_cases e : i = k
    · subst e
      have h0 := h.rest (2 * i) (Nat.le_refl _)
      have e1 : i * (2 * bs) = 2 * i * bs := by rw [Nat.mul_comm 2 i, Nat.mul_assoc]
      have hb : ∀ X : List Nat, X.length ≤ i * (2 * bs) + bs → blk X i (2 * bs) = blk X (2 * i) bs := by
        intro X hX
        unfold blk
        rw [← e1, List.take_of_length_le (by simp; omega), List.take_of_length_le (by simp; omega)]
      unfold GB at *
      rw [hb M hk, hb L (by rw [← h.len]; exact hk)]
      exact h0
    · have hmul : k * (2 * bs) + 2 * bs ≤ i * (2 * bs) := by
        have := Nat.mul_le_mul_right (2 * bs) (show k + 1 ≤ i by omega)
        rw [Nat.add_mul] at this; omega
      exact GB.empty (by rw [← h.len]; omega) (by omega)
/-- All double blocks are merged. -/
theorem MrgAt.all (h : MrgAt t L M bs (k + 1)) (hk : M.length ≤ k * (2 * bs) + 2 * bs) : ∀ i, GB t L M i (2 * bs) := by
  intro i
  by_cases hik : i < k + 1
  · exact h.done i hik
  · have hmul : k * (2 * bs) + 2 * bs ≤ i * (2 * bs) := by
      have := Nat.mul_le_mul_right (2 * bs) (show k + 1 ≤ i by omega)
      rw [Nat.add_mul] at this; omega
    exact GB.empty (by rw [← h.len]; omega) (by omega)
theorem MrgAt.start (hl : M.length = L.length) (h : ∀ i, GB t L M i bs) : MrgAt t L M bs 0 := ⟨hl, fun i hi => by omega, fun i _ => h i⟩

/-- How the sorting of blocks stands: k blocks are sorted. -/
structure InsAt (t : Nat → Int) (L M : List Nat) (bs k : Nat) : Prop where
  len : M.length = L.length
  done : ∀ i, i < k → GB t L M i bs
  rest : M.drop (k * bs) = L.drop (k * bs)

theorem InsAt.step (h : InsAt t L M bs k) (hC : C.Perm (blk L k bs)) (hs : Srt t C) (hk : k * bs ≤ M.length) :
    InsAt t L (M.take (k * bs) ++ C ++ M.drop (k * bs + bs)) bs (k + 1) := by
  have hbM : blk M k bs = blk L k bs := by unfold blk; rw [h.rest]
  have hCl : C.length = (blk M k bs).length := by rw [hbM]; exact hC.length_eq
  have hM := cut_blk M k bs
  refine ⟨?_, fun i hi => ?_, ?_⟩
  · rw [← h.len]
    conv => rhs; rw [hM]
    simp only [List.length_append, hCl]
  · by_cases e : i = k
    · subst e
      have hb : blk (M.take (i * bs) ++ C ++ M.drop (i * bs + bs)) i bs = C := by
        refine blk_mid _ _ _ _ _ (by simp; omega) ?_
        by_cases hfb : i * bs + bs ≤ M.length
        · left; rw [hCl, blk_len _ _ _ hfb]
        · right; exact ⟨by rw [hCl]; exact blk_len_le _ _ _, List.drop_of_length_le (by omega)⟩
      unfold GB
      rw [hb]
      exact ⟨hC, hs⟩
    · have hmul : i * bs + bs ≤ k * bs := by
        have := Nat.mul_le_mul_right bs (show i + 1 ≤ k by omega)
        rw [Nat.add_mul] at this; omega
      have hd := h.done i (by omega)
      have e1 : blk (M.take (k * bs) ++ C ++ M.drop (k * bs + bs)) i bs = blk M i bs := by
        rw [List.append_assoc, blk_left _ _ (M.drop (k * bs)) _ _ (by simp; omega), List.take_append_drop]
      unfold GB at *
      rw [e1]
      exact hd
  · have hl : (M.take (k * bs) ++ C).length = min (k * bs + bs) M.length := by
      rw [List.length_append, hCl]; unfold blk; simp; omega
    rw [Nat.add_mul, Nat.one_mul]
    by_cases hfb : k * bs + bs ≤ M.length
    · rw [List.drop_append_of_le_length (by omega), List.drop_of_length_le (by omega), List.nil_append, ← List.drop_drop, h.rest, List.drop_drop]
    · rw [List.drop_of_length_le, List.drop_of_length_le]
      · rw [← h.len]; omega
      · rw [List.length_append, hl]; simp; omega
theorem InsAt.all (h : InsAt t L M bs (k + 1)) (hk : M.length ≤ k * bs + bs) : ∀ i, GB t L M i bs := by
  intro i
  by_cases hik : i < k + 1
  · exact h.done i hik
  · have hmul : k * bs + bs ≤ i * bs := by
      have := Nat.mul_le_mul_right bs (show k + 1 ≤ i by omega)
      rw [Nat.add_mul] at this; omega
    exact GB.empty (by rw [← h.len]; omega) (by omega)
theorem blk_asc (hL : L.Pairwise (· < ·)) (i bs : Nat) : (blk L i bs).Pairwise (· < ·) := List.Pairwise.sublist ((List.take_sublist _ _).trans (List.drop_sublist _ _)) hL
/-- One block is all. -/
theorem all_of_blk (hl : M.length = L.length) (h : GB t L M 0 bs) (hb : L.length ≤ bs) : M.Perm L ∧ Srt t M := by
  unfold GB blk at h
  rw [Nat.zero_mul, List.drop_zero, List.drop_zero, List.take_of_length_le (by omega), List.take_of_length_le hb] at h
  exact h
end
end Go.Proofs.Ytjaabbjobnfmmaa

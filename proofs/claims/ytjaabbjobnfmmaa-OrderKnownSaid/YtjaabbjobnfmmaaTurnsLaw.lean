/-
  An object is given out and given back by turns: plain law.
-/
import Derived.Test.YtjaabbjobnfmmaaAloneLaw
namespace Go.Proofs.Ytjaabbjobnfmmaa
open Go.RowKit

/-- What a deed that was done adds to an object's count. -/
def ctr (x : Ob) (e : Bool × Dd) : Int := if e.1 = true ∧ e.2.x = x then (if e.2.k = 1 then 1 else if e.2.k = 3 then -1 else 0) else 0
/-- An object's count. -/
def cnt (x : Ob) : List (Bool × Dd) → Int
  | [] => 0
  | e :: l => ctr x e + cnt x l
theorem cnt_append (x : Ob) (l m : List (Bool × Dd)) : cnt x (l ++ m) = cnt x l + cnt x m := by
  induction l with
  | nil => simp [cnt]
  | cons e l ih => simp only [List.cons_append, cnt, ih]; omega
theorem cnt_snoc (x : Ob) (l : List (Bool × Dd)) (e : Bool × Dd) : cnt x (l ++ [e]) = cnt x l + ctr x e := by rw [cnt_append]; simp [cnt]
theorem ctr_bd (x : Ob) (e : Bool × Dd) : -1 ≤ ctr x e ∧ ctr x e ≤ 1 := by
  unfold ctr; split
  · split
    · omega
    · split <;> omega
  · omega
theorem cnt_bd (x : Ob) : ∀ l : List (Bool × Dd), -(l.length : Int) ≤ cnt x l ∧ cnt x l ≤ l.length
  | [] => by simp [cnt]
  | e :: l => by
    have h1 := ctr_bd x e
    have h2 := cnt_bd x l
    simp only [cnt, List.length_cons]
    omega

theorem hdo_err {S : List Ob} (d : Dd) (h : (hdo S d.k d.x).1 ≠ 0) : (hdo S d.k d.x).2 = S := by
  unfold hdo at *
  split
  · rfl
  · rename_i h1
    rw [if_neg h1] at h
    split
    · rename_i h2
      rw [if_pos h2] at h
      by_cases hx : d.x ∈ S
      · simp [ins, hx]
      · simp [hx] at h
    · rename_i h2
      rw [if_neg h2] at h
      split
      · rfl
      · rename_i h3
        rw [if_neg h3] at h
        split
        · rename_i h4
          rw [if_pos h4] at h
          by_cases hx : d.x ∈ S
          · simp [hx] at h
          · exact List.erase_of_not_mem hx
        · rfl

theorem hdo_nd {S : List Ob} (hS : S.Nodup) (k : Int) (x : Ob) : (hdo S k x).2.Nodup := by
  unfold hdo
  split
  · exact hS
  · split
    · exact nodup_ins' hS _
    · split
      · exact hS
      · split
        · exact hS.erase _
        · exact hS

/-- Each count is 1 or 0: whether the object is out. -/
def Turns (S : List Ob) (log : List (Bool × Dd)) : Prop := ∀ x, cnt x log = if x ∈ S then 1 else 0

theorem turns_step {S : List Ob} (hS : S.Nodup) {log : List (Bool × Dd)} (h : Turns S log) (d : Dd) : Turns (hdo S d.k d.x).2 (log ++ [(decide ((hdo S d.k d.x).1 = 0), d)]) := by
  intro x
  rw [cnt_snoc, h x]
  by_cases hc : (hdo S d.k d.x).1 = 0
  · rw [decide_eq_true hc]
    have hk : ¬ (d.k < 1 ∨ 4 < d.k ∨ (d.k = 2 ∧ d.x ≠ zob)) := fun hk => by
      unfold hdo at hc
      rw [if_pos hk] at hc
      simp at hc
    unfold hdo at *
    rw [if_neg hk] at hc ⊢
    by_cases h1 : d.k = 1
    · rw [if_pos h1] at hc ⊢
      have hx : d.x ∉ S := fun hx => by simp [hx] at hc
      simp only [mem_ins', ctr, h1, if_true, true_and]
      by_cases e : d.x = x
      · subst e
        simp [hx]
      · simp [e, Ne.symm e]
    · rw [if_neg h1] at hc ⊢
      by_cases h2 : d.k = 2
      · rw [if_pos h2]
        simp [ctr, h2]
      · rw [if_neg h2] at hc ⊢
        by_cases h3 : d.k = 3
        · rw [if_pos h3] at hc ⊢
          have hx : d.x ∈ S := Classical.byContradiction fun hx => by simp [hx] at hc
          by_cases e : d.x = x
          · subst e
            have : ¬ d.x ∈ S.erase d.x := fun h => (hS.mem_erase_iff.1 h).1 rfl
            simp [ctr, h3, hx, this]
          · have : x ∈ S.erase d.x ↔ x ∈ S := List.mem_erase_of_ne (Ne.symm e)
            simp [ctr, e, this]
        · rw [if_neg h3]
          simp [ctr, h1, h3]
  · rw [decide_eq_false hc, hdo_err d hc]
    simp [ctr]
end Go.Proofs.Ytjaabbjobnfmmaa

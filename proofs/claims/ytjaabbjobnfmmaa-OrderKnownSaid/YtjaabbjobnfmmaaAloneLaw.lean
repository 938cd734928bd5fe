/-
  A list of deeds plays just if, for each object, its deeds alone do.
-/
import Derived.Test.YtjaabbjobnfmmaaAlone
namespace Go.Proofs.Ytjaabbjobnfmmaa
open Go.RowKit

/-- The list plays to its end. -/
def okP : List Ob → List Dd → Prop
  | _, [] => True
  | S, d :: l => (hdo S d.k d.x).1 = 0 ∧ okP (hdo S d.k d.x).2 l

theorem hplay_ok (l : List Dd) : ∀ (S : List Ob) (i : Nat), (hplay S i l).2 = 0 ↔ okP S l := by
  induction l with
  | nil => intro S i; simp [hplay, okP]
  | cons d l ih =>
    intro S i
    by_cases h : (hdo S d.k d.x).1 = 0
    · rw [hplay, if_neg (by simp [h]), ih]
      simp [okP, h]
    · rw [hplay, if_pos h]
      simp [okP, h]

/-- A deed as the law brings it to be. -/
def Nrm (d : Dd) : Prop := 1 ≤ d.k ∧ d.k ≤ 4 ∧ (d.k = 2 → d.x = zob)

theorem hdo_none {d : Dd} (h : Nrm d) (hk : d.k = 2) (S : List Ob) : hdo S d.k d.x = (0, S) := by
  have hz := h.2.2 hk
  simp [hdo, hk, hz]

theorem hdo_else {d : Dd} (h : Nrm d) (hk : d.k ≠ 2) (S : List Ob) : hdo S d.k d.x =
    if d.k = 1 then (if d.x ∈ S then 270 else 0, ins S d.x) else if d.k = 3 then (if d.x ∈ S then 0 else 270, S.erase d.x) else (if d.x ∈ S then 270 else 0, S) := by
  obtain ⟨h1, h2, _⟩ := h
  have h3 : ¬(d.k < 1 ∨ 4 < d.k ∨ (d.k = 2 ∧ d.x ≠ zob)) := by omega
  unfold hdo
  rw [if_neg h3, if_neg hk]

theorem mem_ins' (S : List Ob) (x y : Ob) : y ∈ ins S x ↔ y ∈ S ∨ y = x := by
  unfold ins
  split <;> simp_all

theorem nodup_ins' {S : List Ob} (h : S.Nodup) (x : Ob) : (ins S x).Nodup := by
  unfold ins
  split
  · exact h
  · rename_i hx
    rw [List.nodup_append]
    refine ⟨h, by simp, ?_⟩
    intro a ha b hb e
    simp at hb
    subst hb e
    exact hx ha

theorem hdo_nodup {d : Dd} (h : Nrm d) {S : List Ob} (hS : S.Nodup) : (hdo S d.k d.x).2.Nodup := by
  by_cases hk : d.k = 2
  · rw [hdo_none h hk]; exact hS
  · rw [hdo_else h hk]
    split
    · exact nodup_ins' hS _
    · split
      · exact hS.erase _
      · exact hS

/-- Other objects stay as they are. -/
theorem hdo_other {d : Dd} (h : Nrm d) {S : List Ob} {y : Ob} (hy : y ≠ d.x) : y ∈ (hdo S d.k d.x).2 ↔ y ∈ S := by
  by_cases hk : d.k = 2
  · rw [hdo_none h hk]
  · rw [hdo_else h hk]
    split
    · rw [mem_ins']; simp [hy]
    · split
      · exact List.mem_erase_of_ne hy
      · exact Iff.rfl

/-- The object itself: what is answered, and whether it is out behind it, hang on whether it is out. -/
theorem hdo_same {d : Dd} (h : Nrm d) {S T : List Ob} (hS : S.Nodup) (hT : T.Nodup) (hm : d.x ∈ S ↔ d.x ∈ T) :
    (hdo S d.k d.x).1 = (hdo T d.k d.x).1 ∧ (d.x ∈ (hdo S d.k d.x).2 ↔ d.x ∈ (hdo T d.k d.x).2) := by
  by_cases hk : d.k = 2
  · rw [hdo_none h hk, hdo_none h hk]
    exact ⟨rfl, hm⟩
  · rw [hdo_else h hk, hdo_else h hk]
    by_cases h1 : d.k = 1
    · simp only [h1, if_true, mem_ins', hm]
      simp
    · by_cases h3 : d.k = 3
      · have a1 : ¬d.x ∈ S.erase d.x := fun h => (hS.mem_erase_iff.1 h).1 rfl
        have a2 : ¬d.x ∈ T.erase d.x := fun h => (hT.mem_erase_iff.1 h).1 rfl
        rw [if_neg h1, if_neg h1, if_pos h3, if_pos h3]
        exact ⟨by simp only [hm], iff_of_false a1 a2⟩
      · rw [if_neg h1, if_neg h1, if_neg h3, if_neg h3]
        exact ⟨by simp only [hm], hm⟩

theorem ok_alone (l : List Dd) : ∀ (S : List Ob) (T : Ob → List Ob), (∀ d ∈ l, Nrm d) → S.Nodup → (∀ x, (T x).Nodup) → (∀ x, x ∈ S ↔ x ∈ T x) →
    (okP S l ↔ ∀ x, okP (T x) (aloneL l x)) := by
  induction l with
  | nil => intro S T _ _ _ _; simp [okP, aloneL]
  | cons d l ih =>
    intro S T hn hS hT hm
    have hd := hn d (List.mem_cons_self ..)
    have hl : ∀ e ∈ l, Nrm e := fun e he => hn e (List.mem_cons_of_mem _ he)
    by_cases hk : d.k = 2
    · have e1 : ∀ x, aloneL (d :: l) x = aloneL l x := fun x => by simp [aloneL, isOf, hk]
      simp only [okP, e1]
      rw [hdo_none hd hk]
      simp only [true_and]
      exact ih S T hl hS hT hm
    · have e1 : aloneL (d :: l) d.x = d :: aloneL l d.x := by simp [aloneL, isOf, hk]
      have e2 : ∀ x, x ≠ d.x → aloneL (d :: l) x = aloneL l x := fun x hx => by simp [aloneL, isOf, Ne.symm hx]
      have hs := hdo_same hd hS (hT d.x) (hm d.x)
      have IH := ih (hdo S d.k d.x).2 (fun x => if x = d.x then (hdo (T d.x) d.k d.x).2 else T x) hl (hdo_nodup hd hS)
        (fun x => by
          split
          · exact hdo_nodup hd (hT _)
          · exact hT x)
        (fun x => by
          split
          · rename_i h; subst h; exact hs.2
          · rename_i h; rw [hdo_other hd h]; exact hm x)
      simp only [okP]
      rw [IH, hs.1]
      constructor
      · rintro ⟨h1, h2⟩ x
        by_cases hx : x = d.x
        · subst hx
          rw [e1]
          have := h2 d.x
          simp only [if_true] at this
          exact ⟨h1, this⟩
        · rw [e2 x hx]
          have := h2 x
          simpa only [hx, if_false] using this
      · intro h
        have h0 := h d.x
        rw [e1] at h0
        refine ⟨h0.1, fun x => ?_⟩
        by_cases hx : x = d.x
        · subst hx
          simp only [if_true]
          exact h0.2
        · simp only [hx, if_false]
          have := h x
          rwa [e2 x hx] at this

/-- The law, in plain Lean. -/
theorem alone_law (M : List Dd) (hn : ∀ d ∈ M, Nrm d) : (hplay [] 0 M).2 = 0 ↔ ∀ i (h : i < M.length), (hplay [] 0 (aloneL M M[i].x)).2 = 0 := by
  rw [hplay_ok, ok_alone M [] (fun _ => []) hn List.nodup_nil (fun _ => List.nodup_nil) (fun _ => Iff.rfl)]
  constructor
  · intro h i hi
    rw [hplay_ok]
    exact h _
  · intro h x
    cases hL : aloneL M x with
    | nil => trivial
    | cons d t =>
      have hd : d ∈ aloneL M x := by rw [hL]; exact List.mem_cons_self ..
      unfold aloneL at hd
      obtain ⟨h1, h2⟩ := List.mem_filter.1 hd
      have hx : d.x = x := by
        simp [isOf] at h2
        exact h2.1
      obtain ⟨i, hi, he⟩ := List.getElem_of_mem h1
      have := h i hi
      rw [hplay_ok, he, hx, hL] at this
      exact this
end Go.Proofs.Ytjaabbjobnfmmaa

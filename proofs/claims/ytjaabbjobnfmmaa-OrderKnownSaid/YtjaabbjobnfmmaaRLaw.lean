/-
  The document's Line, call by call, makes the order that the program's Line makes (plain Lean).
-/
import Derived.Test.YtjaabbjobnfmmaaGLaw
import Derived.Test.YtjaabbjobnfmmaaGSel
namespace Go.Proofs.Ytjaabbjobnfmmaa
open Go.RowKit

/-- Which calls are left. -/
def lfF (out : List Nat) (i : Nat) : Bool := !decide (i ∈ out)
/-- The most urgent call. -/
def uI (S : List Sp) (out : List Nat) : Option Nat := best (fun i => (spOf S i).t) (urgP (spOf S) (lfF out)) S.length
/-- The kind of the helper. -/
def kindO (T : List Ob) (x : Ob) : Int := if x ∈ T then 3 else 1
/-- The call that is to be done for m's sake. -/
def rwho (S : List Sp) (out : List Nat) (T : List Ob) (m : Nat) : Option Nat := if stuckB (spOf S) T m then hlpI S (lfF out) m (kindO T (spOf S m).d.x) S.length else some m
/-- The call that is done. -/
def rpick (S : List Sp) (out : List Nat) (m k : Nat) : Nat := if (spOf S k).d.k = 1 then (bdI S (lfF out) m S.length).getD k else k
/-- The document's rounds. -/
def rrun (S : List Sp) : Nat → List Nat → List Ob → Option (List Nat)
  | 0, _, _ => none
  | f + 1, out, T => match uI S out with
    | none => some out
    | some m => match rwho S out T m with
      | none => none
      | some k => rrun S f (out ++ [rpick S out m k]) (lheap (spOf S) T (rpick S out m k))

section
variable {S : List Sp} {out : List Nat} {T : List Ob}
theorem sig_iff (i : Nat) : i < S.length ↔ i ∈ sigma S := ⟨sigma_all i, sigma_lt i⟩
theorem uI_eq (hc : chk S = 0) : uI S out = (sigma S).find? (urgP (spOf S) (lfF out)) := best_find (chk_t hc) (sigma_srt hc) sig_iff
theorem hlpI_eq (hc : chk S = 0) (m : Nat) (kind : Int) : hlpI S (lfF out) m kind S.length = (byL (spOf S) (sigma S) ⟨kind, (spOf S m).d.x⟩).find? (fitB (spOf S) out m) := by
  unfold hlpI
  rw [best_find (chk_t hc) (sigma_srt hc) sig_iff]
  unfold byL
  rw [List.find?_filter]
  congr 1
  funext i
  unfold hlpP fitB lfF
  by_cases h1 : (spOf S i).d = ⟨kind, (spOf S m).d.x⟩
  · simp [h1]
  · have : ¬ ((spOf S i).d.x = (spOf S m).d.x ∧ (spOf S i).d.k = kind) := fun ⟨e1, e2⟩ => h1 (by rw [← e1, ← e2])
    rw [decide_eq_false h1]
    by_cases e1 : (spOf S i).d.x = (spOf S m).d.x
    · have e2 : ¬ (spOf S i).d.k = kind := fun e => this ⟨e1, e⟩
      simp [e2]
    · simp [e1]
theorem bdI_eq (hc : chk S = 0) (m : Nat) : bdI S (lfF out) m S.length = (badI (spOf S) (sigma S) out m).head? := by
  unfold bdI
  rw [best_find (chk_t hc) (sigma_srt hc) sig_iff]
  unfold badI byL
  rw [List.filter_filter, List.head?_filter]
  congr 1
  funext i
  unfold bdP badB lfF
  by_cases h1 : (spOf S i).d = ⟨4, (spOf S m).d.x⟩
  · simp [h1]
    cases decide (i ∈ out) <;> simp
  · have : ¬ ((spOf S i).d.x = (spOf S m).d.x ∧ (spOf S i).d.k = 4) := fun ⟨e1, e2⟩ => h1 (by rw [← e1, ← e2])
    rw [decide_eq_false h1]
    by_cases e1 : (spOf S i).d.x = (spOf S m).d.x
    · have e2 : ¬ (spOf S i).d.k = 4 := fun e => this ⟨e1, e⟩
      simp [e2]
    · simp [e1]
theorem rwho_eq (hc : chk S = 0) (m : Nat) : rwho S out T m = lwho (spOf S) (sigma S) out T m := by
  unfold rwho lwho helpI helpK kindO
  rw [hlpI_eq hc]
theorem rpick_one (hc : chk S = 0) {m k : Nat} (h : (spOf S k).d.k = 1) : rpick S out m k = ((badI (spOf S) (sigma S) out m).head?).getD k := by
  unfold rpick
  rw [if_pos h, bdI_eq hc]
theorem rpick_else {m k : Nat} (h : (spOf S k).d.k ≠ 1) : rpick S out m k = k := by unfold rpick; rw [if_neg h]

/-- The most urgent one is the first that is left, if it has ended. -/
theorem uI_head (hc : chk S = 0) {P l : List Nat} {c : Nat} (he : sigma S = P ++ c :: l) (hP : ∀ i ∈ P, i ∈ out) (ht : 0 ≤ (spOf S c).t) (hco : c ∉ out) : uI S out = some c := by
  rw [uI_eq hc, he, List.find?_append]
  have : P.find? (urgP (spOf S) (lfF out)) = none := by
    rw [List.find?_eq_none]
    intro i hi
    simp [urgP, lfF, hP i hi]
  rw [this, Option.none_or, List.find?_cons_of_pos]
  simp [urgP, lfF, hco, ht]
theorem uI_none (hc : chk S = 0) (h : ∀ i, i < S.length → 0 ≤ (spOf S i).t → i ∈ out) : uI S out = none := by
  rw [uI_eq hc, List.find?_eq_none]
  intro i hi
  by_cases ht : 0 ≤ (spOf S i).t
  · simp [urgP, lfF, h i (sigma_lt i hi) ht]
  · simp [urgP, ht]

theorem find_congr {α : Type} {L : List α} {p q : α → Bool} (h : ∀ x ∈ L, p x = q x) : L.find? p = L.find? q := by
  induction L with
  | nil => rfl
  | cons a L ih =>
    rw [List.find?_cons, List.find?_cons, h a (List.mem_cons_self), ih (fun x hx => h x (List.mem_cons_of_mem _ hx))]

/-- The Bad calls ahead of a Give, one by one. -/
theorem rr_bads (hc : chk S = 0) {P l : List Nat} {c k : Nat} (he : sigma S = P ++ c :: l) (ht : 0 ≤ (spOf S c).t) (hk : (spOf S k).d.k = 1) : ∀ (D : List Nat) {out : List Nat} (f : Nat), badI (spOf S) (sigma S) out c = D → (∀ i ∈ P, i ∈ out) → c ∉ out → lwho (spOf S) (sigma S) out T c = some k →
    rrun S (f + D.length + 1) out T = rrun S f (out ++ D ++ [k]) (lheap (spOf S) T k) := by
  intro D
  induction D with
  | nil =>
    intro out f hD hP hco hw
    rw [List.length_nil, Nat.add_zero, rrun, uI_head hc he hP ht hco]
    simp only [rwho_eq hc, hw, rpick_one hc hk, hD]
    simp
  | cons b D ih =>
    intro out f hD hP hco hw
    have hb : b ∈ badI (spOf S) (sigma S) out c := by rw [hD]; exact List.mem_cons_self
    obtain ⟨b1, b2, b3, b4, b5⟩ := badI_mem hb
    have hbk : (spOf S b).d.k = 4 := by rw [b2]
    have hnd : (b :: D).Nodup := by
      rw [← hD]
      exact (sigma_nodup.sublist List.filter_sublist).sublist List.filter_sublist
    rw [List.nodup_cons] at hnd
    have hcb : c ≠ b := by
      rintro rfl
      unfold lwho at hw
      split at hw
      · next hst =>
        have hm := helpI_mem hw
        rw [hm.2.1] at hk
        unfold helpK at hk
        simp only at hk
        split at hk
        · omega
        · next hT => simp [stuckB, hbk, hT] at hst
      · cases hw; omega
    rw [List.length_cons, show f + (D.length + 1) + 1 = (f + D.length + 1) + 1 by omega, rrun, uI_head hc he hP ht hco]
    simp only [rwho_eq hc, hw, rpick_one hc hk, hD, List.head?_cons, Option.getD_some]
    have hT : lheap (spOf S) T b = T := by
      unfold lheap
      rw [b2]
      simp [hdo]
    rw [hT, ih (out := out ++ [b]) f ?_ (fun i hi => List.mem_append_left _ (hP i hi)) ?_ ?_]
    · simp
    · have : badI (spOf S) (sigma S) (out ++ [b]) c = (badI (spOf S) (sigma S) out c).filter (fun i => !decide (i = b)) := by
        unfold badI
        rw [List.filter_filter]
        refine List.filter_congr (fun i _ => ?_)
        unfold badB
        by_cases e : i = b
        · simp [e]
        · simp [e]
      rw [this, hD, List.filter_cons_of_neg (by simp), List.filter_eq_self.2]
      intro i hi
      simp
      rintro rfl
      exact hnd.1 hi
    · intro hm
      rcases List.mem_append.1 hm with hm | hm
      · exact hco hm
      · exact hcb (List.mem_singleton.1 hm)
    · rw [← hw]
      unfold lwho
      split
      · unfold helpI
        refine find_congr (fun i hi => ?_)
        have hik := (byL_mem.1 hi).2
        have : i ≠ b := by
          rintro rfl
          rw [b2] at hik
          unfold helpK at hik
          have := congrArg Dd.k hik
          simp only at this
          split at this <;> omega
        unfold fitB
        simp [this]
      · rfl

theorem lrun_sub {s : Nat → Sp} {σ : List Nat} {c : Nat} : ∀ (f : Nat) {out : List Nat} {T : List Ob} {o : List Nat} {T' : List Ob}, lrun s σ c f out T = some (o, T') → c ∈ o ∧ ∀ i ∈ out, i ∈ o := by
  intro f
  induction f with
  | zero => intro out T o T' h; cases h
  | succ f ih =>
    intro out T o T' h
    rw [lrun] at h
    split at h
    · next hco => cases h; exact ⟨hco, fun i hi => hi⟩
    · split at h
      · cases h
      · next x _ =>
        obtain ⟨g1, g2⟩ := ih h
        exact ⟨g1, fun i hi => g2 i (lout_sub i hi)⟩

/-- The rounds for c. -/
theorem rr_lrun (hc : chk S = 0) {P l : List Nat} {c : Nat} (he : sigma S = P ++ c :: l) (ht : 0 ≤ (spOf S c).t) : ∀ (f : Nat) {out : List Nat} {T : List Ob} (F : Nat), Good S.length out → (∀ i ∈ P, i ∈ out) → S.length < f + out.length → S.length < F + out.length →
    (lrun (spOf S) (sigma S) c f out T = none → rrun S F out T = none) ∧ ∀ o T', lrun (spOf S) (sigma S) c f out T = some (o, T') → ∃ F', S.length < F' + o.length ∧ rrun S F out T = rrun S F' o T' := by
  have hcn : c < S.length := sigma_lt c (by rw [he]; simp)
  intro f
  induction f with
  | zero =>
    intro out T F hg _ hf _
    have := hg.len
    omega
  | succ f ih =>
    intro out T F hg hP hf hF
    have hgl := hg.len
    by_cases hco : c ∈ out
    · rw [lrun_done hco]
      exact ⟨fun h => by simp at h, fun o T' h => by cases h; exact ⟨F, hF, rfl⟩⟩
    · obtain ⟨F0, rfl⟩ : ∃ F0, F = F0 + 1 := ⟨F - 1, by omega⟩
      cases hw : lwho (spOf S) (sigma S) out T c with
      | none =>
        rw [lrun_none hco hw]
        refine ⟨fun _ => ?_, fun o T' h => by simp at h⟩
        rw [rrun, uI_head hc he hP ht hco]
        simp only [rwho_eq hc, hw]
      | some k =>
        rw [lrun_step hco hw]
        obtain ⟨hkn, hko⟩ := lwho_mem sigma_lt hcn hco hw
        have hg' := hg.lout (s := spOf S) sigma_lt sigma_nodup c hkn hko
        have hgl' := hg'.len
        have hll := lout_len (s := spOf S) (σ := sigma S) (out := out) (c := c) (x := k)
        by_cases hk : (spOf S k).d.k = 1
        · have hlo : lout (spOf S) (sigma S) out c k = out ++ badI (spOf S) (sigma S) out c ++ [k] := by unfold lout; rw [if_pos hk]
          have hlen : (lout (spOf S) (sigma S) out c k).length = out.length + (badI (spOf S) (sigma S) out c).length + 1 := by rw [hlo]; simp; omega
          obtain ⟨F1, hF1⟩ : ∃ F1, F0 + 1 = F1 + (badI (spOf S) (sigma S) out c).length + 1 := ⟨F0 - (badI (spOf S) (sigma S) out c).length, by omega⟩
          rw [hF1, rr_bads hc he ht hk _ F1 rfl hP hco hw, ← hlo]
          exact ih F1 hg' (fun i hi => lout_sub i (hP i hi)) (by omega) (by omega)
        · have hlo : lout (spOf S) (sigma S) out c k = out ++ [k] := by unfold lout; rw [if_neg hk]
          have hlen : (lout (spOf S) (sigma S) out c k).length = out.length + 1 := by rw [hlo]; simp
          have hst : rrun S (F0 + 1) out T = rrun S F0 (lout (spOf S) (sigma S) out c k) (lheap (spOf S) T k) := by
            rw [rrun, uI_head hc he hP ht hco]
            simp only [rwho_eq hc, hw, rpick_else hk, hlo]
          rw [hst]
          exact ih F0 hg' (fun i hi => lout_sub i (hP i hi)) (by omega) (by omega)

theorem rr_lall (hc : chk S = 0) : ∀ (l P : List Nat) {out : List Nat} {T : List Ob} (F : Nat), sigma S = P ++ l → (∀ i ∈ P, i ∈ out) → Good S.length out → S.length < F + out.length →
    rrun S F out T = (lall (spOf S) (sigma S) (S.length + 1) l out T).map (·.1) := by
  intro l
  induction l with
  | nil =>
    intro P out T F he hP hg hF
    have := hg.len
    obtain ⟨F0, rfl⟩ : ∃ F0, F = F0 + 1 := ⟨F - 1, by omega⟩
    rw [rrun, uI_none hc (fun i hi _ => hP i (by have := sigma_all i hi; rw [he] at this; simpa using this))]
    rfl
  | cons c l ih =>
    intro P out T F he hP hg hF
    have hgl := hg.len
    rw [lall]
    by_cases hct : (spOf S c).t < 0
    · rw [if_pos hct]
      obtain ⟨F0, rfl⟩ : ∃ F0, F = F0 + 1 := ⟨F - 1, by omega⟩
      rw [rrun, uI_none hc (fun i hi hit => ?_)]
      · rfl
      · have h1 := sigma_all i hi
        have hS := sigma_srt hc
        rw [he] at h1 hS
        rcases List.mem_append.1 h1 with h1 | h1
        · exact hP i h1
        · rcases List.mem_cons.1 h1 with rfl | h1
          · omega
          · have := (List.pairwise_cons.1 (List.pairwise_append.1 hS).2.1).1 i h1
            unfold Bf ltT at this
            simp only at this
            omega
    · rw [if_neg hct]
      obtain ⟨h1, h2⟩ := rr_lrun (T := T) hc he (by omega) (S.length + 1) F hg hP (by omega) hF
      cases hr : lrun (spOf S) (sigma S) c (S.length + 1) out T with
      | none => rw [h1 hr]; rfl
      | some r =>
        obtain ⟨o, T'⟩ := r
        obtain ⟨F', hF', he'⟩ := h2 o T' hr
        rw [he']
        obtain ⟨g1, g2⟩ := lrun_sub _ hr
        have hcn : c < S.length := sigma_lt c (by rw [he]; simp)
        refine ih (P ++ [c]) F' (by rw [he]; simp) (fun i hi => ?_) (lrun_good sigma_lt sigma_nodup hcn _ _ _ _ _ hg hr) hF'
        rcases List.mem_append.1 hi with hi | hi
        · exact g2 i (hP i hi)
        · rw [List.mem_singleton.1 hi]; exact g1

/-- The document's order is the program's. -/
theorem rrun_line (hc : chk S = 0) : rrun S (S.length + 1) [] [] = lineM S := by
  rw [rr_lall hc (sigma S) [] (S.length + 1) rfl (by simp) ⟨List.nodup_nil, by simp⟩ (by simp)]
  rfl
end
end Go.Proofs.Ytjaabbjobnfmmaa

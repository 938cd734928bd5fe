/-
  order.Line's third loop, as functions; plain laws.
-/
import Derived.Test.YtjaabbjobnfmmaaLineF
namespace Go.Proofs.Ytjaabbjobnfmmaa
open Go.RowKit

/-- Must another call be done ahead of call c? -/
def stuckB (s : Nat → Sp) (T : List Ob) (c : Nat) : Bool := !decide ((s c).d.k = 2) && (decide ((s c).d.x ∈ T) != decide ((s c).d.k = 3))
/-- Which call is done next for call c's sake. -/
def lwho (s : Nat → Sp) (σ : List Nat) (out : List Nat) (T : List Ob) (c : Nat) : Option Nat := if stuckB s T c then helpI s σ out T c else some c
/-- What is done behind call x, which is done for call c's sake. -/
def lout (s : Nat → Sp) (σ : List Nat) (out : List Nat) (c x : Nat) : List Nat := (if (s x).d.k = 1 then out ++ badI s σ out c else out) ++ [x]
def lheap (s : Nat → Sp) (T : List Ob) (x : Nat) : List Ob := (hdo T (s x).d.k (s x).d.x).2
/-- The rounds for call c. -/
def lrun (s : Nat → Sp) (σ : List Nat) (c : Nat) : Nat → List Nat → List Ob → Option (List Nat × List Ob)
  | 0, _, _ => none
  | f + 1, out, T => if c ∈ out then some (out, T) else match lwho s σ out T c with
    | none => none
    | some x => lrun s σ c f (lout s σ out c x) (lheap s T x)
/-- The rounds for the calls l. -/
def lall (s : Nat → Sp) (σ : List Nat) (N : Nat) : List Nat → List Nat → List Ob → Option (List Nat × List Ob)
  | [], out, T => some (out, T)
  | c :: l, out, T => if (s c).t < 0 then some (out, T) else match lrun s σ c N out T with
    | none => none
    | some (out', T') => lall s σ N l out' T'

/-- What is done: each once, all of them calls. -/
def Good (n : Nat) (out : List Nat) : Prop := out.Nodup ∧ ∀ i ∈ out, i < n
theorem Good.len {n : Nat} {out : List Nat} (h : Good n out) : out.length ≤ n := by
  have := h.1.length_le_of_subset (l₂ := List.range n) (fun i hi => List.mem_range.2 (h.2 i hi))
  simpa using this
theorem Good.snoc {n : Nat} {out : List Nat} (h : Good n out) {x : Nat} (hx : x < n) (hn : x ∉ out) : Good n (out ++ [x]) := by
  refine ⟨?_, fun i hi => ?_⟩
  · rw [List.nodup_append]
    exact ⟨h.1, by simp, fun a ha b hb => by rw [List.mem_singleton.1 hb]; rintro rfl; exact hn ha⟩
  · rcases List.mem_append.1 hi with hi | hi
    · exact h.2 i hi
    · rw [List.mem_singleton.1 hi]; exact hx

section
variable {s : Nat → Sp} {σ out : List Nat} {T : List Ob} {c x n : Nat}
theorem badI_mem {i : Nat} (h : i ∈ badI s σ out c) : i ∈ σ ∧ (s i).d = ⟨4, (s c).d.x⟩ ∧ i ∉ out ∧ 0 ≤ (s i).t ∧ (s i).f ≤ (s c).t := by
  obtain ⟨h1, h2⟩ := List.mem_filter.1 h
  obtain ⟨h3, h4⟩ := byL_mem.1 h1
  simp [badB] at h2
  exact ⟨h3, h4, h2.1.1, h2.1.2, h2.2⟩
theorem helpI_mem {i : Nat} (h : helpI s σ out T c = some i) : i ∈ σ ∧ (s i).d = helpK s T c ∧ i ∉ out ∧ (s i).f ≤ (s c).t := by
  have h1 := List.mem_of_find?_eq_some h
  have h2 := List.find?_some h
  obtain ⟨h3, h4⟩ := byL_mem.1 h1
  simp [fitB] at h2
  exact ⟨h3, h4, h2.1, h2.2⟩
theorem lwho_mem (hσ : ∀ i ∈ σ, i < n) (hc : c < n) (hco : c ∉ out) (h : lwho s σ out T c = some x) : x < n ∧ x ∉ out := by
  unfold lwho at h
  split at h
  · have := helpI_mem h
    exact ⟨hσ _ this.1, this.2.2.1⟩
  · cases h; exact ⟨hc, hco⟩
theorem Good.bads (h : Good n out) (hσ : ∀ i ∈ σ, i < n) (hd : σ.Nodup) (c : Nat) : Good n (out ++ badI s σ out c) := by
  refine ⟨?_, fun i hi => ?_⟩
  · rw [List.nodup_append]
    refine ⟨h.1, (hd.sublist List.filter_sublist).sublist List.filter_sublist, fun a ha b hb => ?_⟩
    rintro rfl
    exact (badI_mem hb).2.2.1 ha
  · rcases List.mem_append.1 hi with hi | hi
    · exact h.2 i hi
    · exact hσ _ (badI_mem hi).1
theorem Good.lout (h : Good n out) (hσ : ∀ i ∈ σ, i < n) (hd : σ.Nodup) (c : Nat) (hx : x < n) (hxo : x ∉ out) : Good n (lout s σ out c x) := by
  unfold Ytjaabbjobnfmmaa.lout
  split
  · next hk =>
    refine (h.bads hσ hd c).snoc hx (fun hm => ?_)
    rcases List.mem_append.1 hm with hm | hm
    · exact hxo hm
    · have := (badI_mem hm).2.1
      rw [this] at hk; simp at hk
  · exact h.snoc hx hxo
theorem lout_len : out.length < (lout s σ out c x).length := by
  unfold lout
  split <;> simp <;> omega
theorem lrun_step {f : Nat} (hco : c ∉ out) (h : lwho s σ out T c = some x) : lrun s σ c (f + 1) out T = lrun s σ c f (lout s σ out c x) (lheap s T x) := by
  rw [lrun, if_neg hco, h]
theorem lrun_none {f : Nat} (hco : c ∉ out) (h : lwho s σ out T c = none) : lrun s σ c (f + 1) out T = none := by
  rw [lrun, if_neg hco, h]
theorem lrun_done {f : Nat} (hco : c ∈ out) : lrun s σ c (f + 1) out T = some (out, T) := by
  rw [lrun, if_pos hco]

/-- Where the rounds for c stand, begun at (out0, T0). -/
def RunAt (s : Nat → Sp) (σ : List Nat) (c n : Nat) (out0 : List Nat) (T0 : List Ob) (out : List Nat) (T : List Ob) : Prop :=
  Good n out ∧ ∃ f, n < f + out.length ∧ lrun s σ c (n + 1) out0 T0 = lrun s σ c f out T
theorem RunAt.start (h : Good n out) : RunAt s σ c n out T out T := ⟨h, n + 1, by omega, rfl⟩
theorem RunAt.fuel {out0 : List Nat} {T0 : List Ob} (h : RunAt s σ c n out0 T0 out T) : ∃ f, n < f + 1 + out.length ∧ lrun s σ c (n + 1) out0 T0 = lrun s σ c (f + 1) out T := by
  obtain ⟨hg, f, hf, he⟩ := h
  have := hg.len
  obtain ⟨f', rfl⟩ : ∃ f', f = f' + 1 := ⟨f - 1, by omega⟩
  exact ⟨f', by omega, he⟩
theorem RunAt.step {out0 : List Nat} {T0 : List Ob} (h : RunAt s σ c n out0 T0 out T) (hσ : ∀ i ∈ σ, i < n) (hd : σ.Nodup) (hc : c < n) (hco : c ∉ out) (hx : lwho s σ out T c = some x) : RunAt s σ c n out0 T0 (lout s σ out c x) (lheap s T x) := by
  obtain ⟨f, hf, he⟩ := h.fuel
  obtain ⟨h1, h2⟩ := lwho_mem hσ hc hco hx
  have := lout_len (s := s) (σ := σ) (out := out) (c := c) (x := x)
  exact ⟨h.1.lout hσ hd c h1 h2, f, by omega, by rw [he, lrun_step hco hx]⟩
theorem RunAt.none_ {out0 : List Nat} {T0 : List Ob} (h : RunAt s σ c n out0 T0 out T) (hco : c ∉ out) (hx : lwho s σ out T c = none) : lrun s σ c (n + 1) out0 T0 = none := by
  obtain ⟨f, hf, he⟩ := h.fuel
  rw [he, lrun_none hco hx]
theorem RunAt.done {out0 : List Nat} {T0 : List Ob} (h : RunAt s σ c n out0 T0 out T) (hco : c ∈ out) : lrun s σ c (n + 1) out0 T0 = some (out, T) := by
  obtain ⟨f, hf, he⟩ := h.fuel
  rw [he, lrun_done hco]
end

/-- How many are done, read off the box. -/
def outLen (w : World) (pm : Nat) : Nat := match w.cell? ⟨pm, 3, none⟩ with
  | some (.slice _ n _) => n
  | _ => 0
theorem LineAt.outLen_eq {w0 w : World} {pm hp hb bb : Nat} {s : Nat → Sp} {p : Nat → Nat} {n : Nat} {σ : List Nat} {cs : Value} {out : List Nat} {T : List Ob} (h : LineAt w0 w pm hp hb bb s p n σ cs out T) : outLen w pm = out.length := by
  obtain ⟨ov, b1, b2⟩ := h.box
  have hc : w.cell? ⟨pm, 3, none⟩ = some ov := cell_of_block b1 3
  unfold outLen
  rw [hc]
  obtain ⟨_, ⟨rfl, h0⟩ | ⟨g, cap, cur, rfl, _⟩⟩ := b2
  · exact h0.symm
  · rfl

/-- What Line answers. -/
def LineRes (w w' : World) (e : Ending) : Option (List Nat × List Ob) → Prop
  | none => e = .returned (.tuple #[.slice none 0 0, .int .i64 270])
  | some (out, _) => ∃ v, e = .returned (.tuple #[v, .int .i64 0]) ∧ w'.ownsRow w.heap.size 3 1 v out.length (out.map fun i : Nat => Value.int .i64 i)
end Go.Proofs.Ytjaabbjobnfmmaa

/-
  order.Line: the calls are laid (its first loop): the memory, one call more.
-/
import Derived.Test.YtjaabbjobnfmmaaLineC
import Derived.Test.YtjaabbjobnfmmaaSortNil
namespace Go.Proofs.Ytjaabbjobnfmmaa
open Go.RowKit

/-- Line's memory while it lays its calls: k are laid. -/
structure Grow (w0 w : World) (pm hp hb bb : Nat) (s : Nat → Sp) (p : Nat → Nat) (k : Nat) (cs : Value) : Prop where
  fr : Fr0 w0 w
  box : w.heap[pm]? = some (boxO (.pointer (some ⟨hp, 0, none⟩)) cs (.map (some bb)) (.slice none 0 0))
  heap : HeapIs w hp hb []
  map : MapIs Try.prog 84 w bb []
  calls : ∀ i, i < k → w.heap[p i]? = some (callO (s i) i false)
  inj : ∀ i j, i < k → j < k → p i = p j → i = j
  own : w.ownsRow w0.heap.size 78 1 cs k ((List.range k).map (pv p))
  bpm : w0.heap.size ≤ pm
  bhb : w0.heap.size ≤ hb
  bp : ∀ i, i < k → w0.heap.size ≤ p i
  nbb : hb ≠ bb
  bbb : w0.heap.size ≤ bb

section
variable {w0 w w' : World} {pm hp hb bb k : Nat} {s : Nat → Sp} {p : Nat → Nat} {cs : Value}
theorem Grow.fr0 (h : Grow w0 w pm hp hb bb s p k cs) (hf : Fr0 w w') : Grow w0 w' pm hp hb bb s p k cs :=
  ⟨h.fr.trans0 hf, hf.at h.box id, h.heap.fr0 hf, h.map.block (hf.block bb h.map.lt id), fun i hi => hf.at (h.calls i hi) id, h.inj, own_fr0 h.own hf, h.bpm, h.bhb, h.bp, h.nbb, h.bbb⟩

def p1 (p : Nat → Nat) (k b : Nat) (i : Nat) : Nat := if i = k then b else p i
theorem p1_lt {p : Nat → Nat} {k b i : Nat} (h : i < k) : p1 p k b i = p i := by unfold p1; rw [if_neg (by omega)]
theorem p1_same {p : Nat → Nat} {k b : Nat} : p1 p k b k = b := by simp [p1]

theorem Grow.step (h : Grow w0 w pm hp hb bb s p k cs) {wa w2 : World} {gg cap b : Nat} (hb1 : wa.heap[b]? = some (callO (s k) k false)) (hbn : w.heap.size ≤ b) (ha : Fr0 w wa) (hg : wa.drew.grownBy w2 cs.ownBlock)
    (ho : w2.ownsRow w0.heap.size 78 1 (.slice (some ⟨gg, 0, none⟩) (k + 1) cap) (k + 1) ((List.range k).map (pv p) ++ [.pointer (some ⟨b, 0, none⟩)])) (hat : cs.ownBlock = some gg ∨ gg = wa.heap.size) :
    Grow w0 (w2.setCell ⟨pm, 1, none⟩ (.slice (some ⟨gg, 0, none⟩) (k + 1) cap)) pm hp hb bb s (p1 p k b) (k + 1) (.slice (some ⟨gg, 0, none⟩) (k + 1) cap) := by
  have h' := h.fr0 ha
  have f2 : Fr (fun i => cs.ownBlock = some i) wa w2 := (Fr.refl (fun i => cs.ownBlock = some i) wa).drew.trans (Fr.of_grown hg) (fun i _ h => h.symm)
  have fs : Fr (fun i => i = pm) w2 (w2.setCell ⟨pm, 1, none⟩ (.slice (some ⟨gg, 0, none⟩) (k + 1) cap)) := Fr.setCell (X := fun i => i = pm) (p := ⟨pm, 1, none⟩) (Fr.refl _ w2) (fun _ => rfl) _
  have f3 : Fr (fun i => cs.ownBlock = some i ∨ i = pm) wa (w2.setCell ⟨pm, 1, none⟩ (.slice (some ⟨gg, 0, none⟩) (k + 1) cap)) := (f2.mono (fun i _ h => .inl h)).trans fs (fun i _ h => .inr h)
  have hom := own_ne h'.own h'.box (by decide)
  have hbo : ∀ j, cs.ownBlock = some j → j ≠ b := own_ne h'.own hb1 (by decide)
  have hbm : b ≠ pm := by rintro rfl; rw [h'.box] at hb1; simp [boxO, callO] at hb1
  have hgm : gg ≠ pm := by
    rcases hat with e | e
    · exact hom _ e
    · have := lt_of_block h'.box; omega
  have hm2 := f2.at h'.box (fun e => hom _ e rfl)
  obtain ⟨es, c, hme, _⟩ := h'.heap.2.1.1
  obtain ⟨es2, c2, hme2, _⟩ := id h'.map
  have hmapne : ∀ (i : Nat) (es : Array MapEntry) (c : Nat), wa.heap[i]? = some (.map es c) → ¬ (cs.ownBlock = some i ∨ i = pm) := by
    rintro i es c hi (e | rfl)
    · exact own_ne_map h'.own hi i e rfl
    · rw [h'.box] at hi; simp [boxO] at hi
  have hcne : ∀ (i : Nat) (cur : Array Value) (t : TypeId) (f : Nat × Nat), wa.heap[i]? = some (.cells cur t f) → t ≠ 78 → t ≠ 77 → ¬ (cs.ownBlock = some i ∨ i = pm) := by
    rintro i cur t f hi h1 h2 (e | rfl)
    · exact own_ne h'.own hi (fun e => h1 e.symm) i e rfl
    · rw [h'.box] at hi; simp [boxO] at hi; exact h2 hi.2.1.symm
  refine ⟨h'.fr.trans f3 (fun i hi e => ?_), setCell_block hm2 1 _, h'.heap.fr f3 (hcne _ _ _ _ h'.heap.1 (by decide) (by decide)) (hmapne _ _ _ hme), h'.map.block (f3.block bb h'.map.lt (hmapne _ _ _ hme2)), fun i hi => ?_, fun i j hi hj he => ?_, ?_, h.bpm, h.bhb, fun i hi => ?_, h.nbb, h.bbb⟩
  · rcases e with e | rfl
    · have := (h'.own.lt i e).1; omega
    · have := h.bpm; omega
  · by_cases hik : i = k
    · subst hik
      rw [p1_same]
      exact f3.at hb1 (hcne _ _ _ _ hb1 (by decide) (by decide))
    · rw [p1_lt (by omega)]
      have := h'.calls i (by omega)
      exact f3.at this (hcne _ _ _ _ this (by decide) (by decide))
  · by_cases hik : i = k <;> by_cases hjk : j = k
    · omega
    · subst hik
      rw [p1_same, p1_lt (by omega)] at he
      have := lt_of_block (h.calls j (by omega)); omega
    · subst hjk
      rw [p1_same, p1_lt (by omega)] at he
      have := lt_of_block (h.calls i (by omega)); omega
    · rw [p1_lt (by omega), p1_lt (by omega)] at he
      exact h.inj i j (by omega) (by omega) he
  · have e : (List.range (k + 1)).map (pv (p1 p k b)) = (List.range k).map (pv p) ++ [.pointer (some ⟨b, 0, none⟩)] := by
      rw [List.range_succ, List.map_append]
      congr 1
      · apply List.map_congr_left
        intro i hi
        simp only [pv, p1_lt (List.mem_range.1 hi)]
      · simp [pv, p1_same]
    rw [e]
    exact own_fr ho fs (fun i hi => by
      have : gg = i := by simpa [Value.ownBlock] using hi
      rw [← this]; exact hgm)
  · by_cases hik : i = k
    · subst hik; rw [p1_same]; have := h.fr.size; omega
    · rw [p1_lt (by omega)]; exact h.bp i (by omega)
end

theorem info78 : (Try.prog.info? 78).map (fun i => (i.zero, i.size, i.bytes)) = some (some (.pointer none), 1, 8) := by kernel_rfl
end Go.Proofs.Ytjaabbjobnfmmaa

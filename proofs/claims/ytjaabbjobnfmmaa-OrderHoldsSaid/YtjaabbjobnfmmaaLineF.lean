/-
  order.Line: the calls are sorted; the map of the calls of each deed is filled (its second loop): the memory.
-/
import Derived.Test.YtjaabbjobnfmmaaLineD
namespace Go.Proofs.Ytjaabbjobnfmmaa
open Go.RowKit

/-- Rows of Line's own, apart from each other and from the row cb: to each deed its calls in the order τ. -/
def ByE (w : World) (base : Nat) (s : Nat → Sp) (p : Nat → Nat) (τ : List Nat) (cb : Option Nat) (E : List (Dd × Value)) : Prop :=
  (∀ e ∈ E, w.ownsRow base 78 1 e.2 (byL s τ e.1).length ((byL s τ e.1).map (pv p)) ∧ (∀ g, e.2.ownBlock = some g → cb ≠ some g)) ∧
    E.Pairwise (fun e f => ∀ g, e.2.ownBlock = some g → f.2.ownBlock ≠ some g) ∧ ∀ d, (∀ e ∈ E, e.1 ≠ d) → byL s τ d = []
def kvE (E : List (Dd × Value)) : List (Value × Value) := E.map fun e => (e.1.val, e.2)
/-- The map, each of its rows Line's own, apart from the others and from the row cb. -/
def ByOwn (w : World) (base bb : Nat) (s : Nat → Sp) (p : Nat → Nat) (τ : List Nat) (cb : Option Nat) : Prop :=
  ∃ E : List (Dd × Value), MapIs Try.prog 84 w bb (kvE E) ∧ ByE w base s p τ cb E

/-- Line's memory while it fills the map: the first k of σ are in it. -/
structure Fill (w0 w : World) (pm hp hb bb : Nat) (s : Nat → Sp) (p : Nat → Nat) (n : Nat) (σ : List Nat) (cs : Value) (k : Nat) : Prop where
  fr : Fr0 w0 w
  box : w.heap[pm]? = some (boxO (.pointer (some ⟨hp, 0, none⟩)) cs (.map (some bb)) (.slice none 0 0))
  heap : HeapIs w hp hb []
  calls : ∀ i, i < n → w.heap[p i]? = some (callO (s i) i false)
  inj : ∀ i j, i < n → j < n → p i = p j → i = j
  by_ : ByOwn w w0.heap.size bb s p (σ.take k) cs.ownBlock
  row : PSl w cs p σ
  bpm : w0.heap.size ≤ pm
  bhb : w0.heap.size ≤ hb
  bp : ∀ i, i < n → w0.heap.size ≤ p i
  nbb : hb ≠ bb
  bbb : w0.heap.size ≤ bb

section
variable {w0 w w' : World} {pm hp hb bb k n base : Nat} {s : Nat → Sp} {p : Nat → Nat} {cs : Value} {σ τ : List Nat} {cb : Option Nat}
theorem ByOwn.fr0 (h : ByOwn w base bb s p τ cb) (hf : Fr0 w w') : ByOwn w' base bb s p τ cb := by
  obtain ⟨E, h1, h2, h3, h4⟩ := h
  exact ⟨E, h1.block (hf.block bb h1.lt id), fun e he => ⟨own_fr0 (h2 e he).1 hf, (h2 e he).2⟩, h3, h4⟩
theorem ByE.fr0 {E : List (Dd × Value)} (h : ByE w base s p τ cb E) (hf : Fr0 w w') : ByE w' base s p τ cb E := ⟨fun e he => ⟨own_fr0 (h.1 e he).1 hf, (h.1 e he).2⟩, h.2⟩
theorem byL_snoc (s : Nat → Sp) (τ : List Nat) (c : Nat) (d : Dd) : byL s (τ ++ [c]) d = byL s τ d ++ if (s c).d = d then [c] else [] := by
  unfold byL
  rw [List.filter_append]
  by_cases h : (s c).d = d <;> simp [h]

/-- The entry of a deed, read for writing. -/
theorem ByOwn.entry (h : ByOwn w base bb s p τ cb) (d : Dd) (hd : d.wf) : ∃ (E : List (Dd × Value)) (i : Nat) (v0 : Value), ByE w base s p τ cb E ∧ E[i]? = some (d, v0) ∧ (∀ j e, E[j]? = some e → e.1 = d → j = i) ∧
    ∀ W, Fr0 w W → ∃ W' st, (Instr.mapEntry 74 (.map (some bb)) d.val).run Try.prog W = .ok (.tuple #[v0, .int .i64 st]) W' ∧ MapSt Try.prog 84 W' bb (kvE E) i st ∧ W.mapTurned W' bb := by
  obtain ⟨E, h1, h2, h3, h4⟩ := h
  obtain ⟨kl, hkl⟩ := keyOf84 d hd
  by_cases hin : ∃ e ∈ E, e.1 = d
  · obtain ⟨⟨d', v0⟩, he, rfl⟩ := hin
    obtain ⟨i, hi⟩ := List.getElem?_of_mem he
    have hi' : (kvE E)[i]? = some (d'.val, v0) := by simp [kvE, hi]
    refine ⟨E, i, v0, ⟨h2, h3, h4⟩, hi, fun j e hj hjd => ?_, fun W hW => (h1.block (hW.block bb h1.lt id)).entry_old law84 Try.underlying74 hkl hi'⟩
    have hap := h1.apart
    rw [List.pairwise_iff_getElem] at hap
    have hj' : (kvE E)[j]? = some (d'.val, e.2) := by simp [kvE, hj, show e.1 = d' from hjd]
    obtain ⟨jl, je⟩ := List.getElem?_eq_some_iff.1 hj'
    obtain ⟨il, ie⟩ := List.getElem?_eq_some_iff.1 hi'
    rcases Nat.lt_trichotomy j i with hlt | heq | hgt
    · exact absurd (by rw [je, ie]) (hap j i jl il hlt)
    · exact heq
    · exact absurd (by rw [je, ie]) (hap i j il jl hgt)
  · have hno : ∀ e ∈ E, e.1 ≠ d := fun e he hed => hin ⟨e, he, hed⟩
    refine ⟨E ++ [(d, .slice none 0 0)], E.length, .slice none 0 0, ⟨?_, ?_, ?_⟩, by simp, fun j e hj hjd => ?_, fun W hW => ?_⟩
    · intro e he
      rcases List.mem_append.1 he with he | he
      · exact h2 e he
      · obtain rfl := List.mem_singleton.1 he
        rw [h4 d hno]
        exact ⟨⟨rfl, .inl ⟨rfl, rfl⟩⟩, fun g hg => by simp [Value.ownBlock] at hg⟩
    · rw [List.pairwise_append]
      refine ⟨h3, List.pairwise_singleton _ _, fun e he f hf g hg => ?_⟩
      obtain rfl := List.mem_singleton.1 hf
      simp [Value.ownBlock]
    · intro d' hd'
      exact h4 d' (fun e he => hd' e (List.mem_append_left _ he))
    · obtain ⟨hjl, hje⟩ := List.getElem?_eq_some_iff.1 hj
      by_cases hlt : j < E.length
      · rw [List.getElem_append_left hlt] at hje
        exact absurd hjd (hno e (hje ▸ List.getElem_mem hlt))
      · simp at hjl; omega
    · have hno' : ∀ q ∈ kvE E, q.1 ≠ d.val := by
        intro q hq hqd
        obtain ⟨e, he, rfl⟩ := List.mem_map.1 hq
        exact hno e he (Dd.val_inj hqd)
      have := (h1.block (hW.block bb h1.lt id)).entry_new law84 Try.underlying74 (zero75 W) hkl hno'
      simpa [kvE] using this
theorem Fill.fr0 (h : Fill w0 w pm hp hb bb s p n σ cs k) (hf : Fr0 w w') : Fill w0 w' pm hp hb bb s p n σ cs k :=
  ⟨h.fr.trans0 hf, hf.at h.box id, h.heap.fr0 hf, fun i hi => hf.at (h.calls i hi) id, h.inj, h.by_.fr0 hf, h.row.fr0 hf, h.bpm, h.bhb, h.bp, h.nbb, h.bbb⟩
theorem own_psl {v : Value} {L : List Nat} (h : w.ownsRow base 78 1 v L.length (L.map (pv p))) : PSl w v p L := by
  obtain ⟨_, ⟨rfl, h0⟩ | ⟨g, cap, cur, rfl, _, hg, _, _, _, ht⟩⟩ := h
  · refine ⟨none, 0, by rw [h0], fun h => by omega⟩
  · exact ⟨_, cap, rfl, fun _ => ⟨g, rfl, cur, hg, by simpa using ht⟩⟩

/-- All of σ is in the map. -/
theorem Fill.whole (h : Fill w0 w pm hp hb bb s p n σ cs k) (hk : σ.length ≤ k) (hn : ∀ i ∈ σ, i < n) (hd : σ.Nodup) (hw : ∀ i, i < n → (s i).wf) : LineAt w0 w pm hp hb bb s p n σ cs [] [] := by
  refine ⟨h.fr, ⟨_, h.box, rfl, .inl ⟨rfl, rfl⟩⟩, h.heap, fun i hi => by simpa using h.calls i hi, h.inj, ?_, h.row, h.bpm, h.bhb, h.bp, hn, hw, h.nbb, hd⟩
  obtain ⟨E, h1, h2, _, h4⟩ := h.by_
  rw [List.take_of_length_le hk] at h2 h4
  exact ⟨E, h1, fun e he => own_psl (h2 e he).1, h4⟩

/-- The sort. -/
theorem sort_any (h : Grow w0 w pm hp hb bb s p n cs) (hn : n ≤ 1000) (ht : ∀ i, i < n → -1 ≤ (s i).t) :
    Calls Try.prog 54 #[cs, .func (.func 55) #[] #[]] w fun e w' => e = .returned (.tuple #[]) ∧ ∃ σ : List Nat, σ.Perm (List.range n) ∧ Srt (fun i => (s i).t) σ ∧ Fill w0 w' pm hp hb bb s p n σ cs 0 := by
  have hemp : ∀ W, Fr (fun g => cs.ownBlock = some g) w W → MapIs Try.prog 84 W bb [] := fun W hW => h.map.block (hW.block bb h.map.lt (fun e => by
    obtain ⟨es, c, hme, _⟩ := id h.map
    exact own_ne_map h.own hme bb e rfl))
  obtain ⟨hl, ⟨rfl, h0⟩ | ⟨g, cap, cur, rfl, hb, hg, hnc, hcm, hcs, hcur⟩⟩ := id h.own
  · refine (sort_nil w).mono ?_
    rintro e w' ⟨he, hf⟩
    refine ⟨he, [], by rw [h0]; exact List.Perm.refl _, List.Pairwise.nil, h.fr.trans0 hf, hf.at h.box id, h.heap.fr0 hf, fun i hi => hf.at (h.calls i hi) id, h.inj, ?_, ⟨none, 0, rfl, fun h => by simp at h⟩, h.bpm, h.bhb, h.bp, h.nbb, h.bbb⟩
    exact ⟨[], hemp w' (hf.mono (fun _ _ h => h.elim)), by simp, List.Pairwise.nil, fun d _ => rfl⟩
  · have hrow : PRow w g p (List.range n) := ⟨cur, hg, by simpa using hcur⟩
    have hT : Tos w g p (fun i => (s i).t) n := ⟨fun i hi => cell_of_block (h.calls i hi) 5, fun i hi e => by
      have := h.calls i hi
      rw [e, hg] at this; simp [callO] at this⟩
    refine (sortStable_any g cap p (fun i => (s i).t) n ht (List.range n) List.pairwise_lt_range (fun i hi => List.mem_range.1 hi) n (by simp) (by omega) w hrow hT).mono ?_
    rintro e w' ⟨he, hf, M, hM, hS, hr⟩
    have hlen : M.length = n := by rw [hM.length_eq]; simp
    have hcne : ∀ (i : Nat) (cu : Array Value) (t : TypeId) (f : Nat × Nat), w.heap[i]? = some (.cells cu t f) → t ≠ 78 → i ≠ g := by
      rintro i cu t f hi h1 rfl
      rw [hg] at hi; simp at hi; exact h1 hi.2.1.symm
    have hmne : ∀ (i : Nat) (es : Array MapEntry) (c : Nat), w.heap[i]? = some (.map es c) → i ≠ g := by
      rintro i es c hi rfl
      rw [hg] at hi; simp at hi
    obtain ⟨es, c, hme, _⟩ := h.heap.2.1.1
    refine ⟨he, M, hM, hS, h.fr.trans hf (fun i hi e => by omega), hf.at h.box (hcne _ _ _ _ h.box (by decide)), h.heap.fr hf (hcne _ _ _ _ h.heap.1 (by decide)) (hmne _ _ _ hme), fun i hi => hf.at (h.calls i hi) (hcne _ _ _ _ (h.calls i hi) (by decide)), h.inj, ?_,
      ⟨some ⟨g, 0, none⟩, cap, by rw [hlen], fun _ => ⟨g, rfl, hr⟩⟩, h.bpm, h.bhb, h.bp, h.nbb, h.bbb⟩
    exact ⟨[], hemp w' (hf.mono (fun i _ e => by subst e; rfl)), by simp, List.Pairwise.nil, fun d _ => rfl⟩

theorem pw_ne {E : List (Dd × Value)} (h : E.Pairwise (fun e f => ∀ g, e.2.ownBlock = some g → f.2.ownBlock ≠ some g)) {i j : Nat} {e f : Dd × Value} (he : E[j]? = some e) (hf : E[i]? = some f) (hji : j ≠ i) (g : Nat) (hg : e.2.ownBlock = some g) : f.2.ownBlock ≠ some g := by
  obtain ⟨jl, je⟩ := List.getElem?_eq_some_iff.1 he
  obtain ⟨il, ie⟩ := List.getElem?_eq_some_iff.1 hf
  rw [List.pairwise_iff_getElem] at h
  rcases Nat.lt_or_ge j i with hlt | hge
  · have := h j i jl il hlt
    rw [je, ie] at this
    exact this g hg
  · have := h i j il jl (by omega)
    rw [je, ie] at this
    exact fun hh => this g hh hg

/-- One call more is in the map. -/
theorem Fill.step (h : Fill w0 w pm hp hb bb s p n σ cs k) (hk : k < σ.length) {c : Nat} (hc : σ[k] = c) {E : List (Dd × Value)} {i : Nat} {v0 : Value} (hE : ByE w w0.heap.size s p (σ.take k) cs.ownBlock E) (hi : E[i]? = some ((s c).d, v0))
    (hone : ∀ j e, E[j]? = some e → e.1 = (s c).d → j = i) {W2 W3 W4 : World} {gg cp : Nat} (hf2 : Fr (fun i => i = bb) w W2) (hg : W2.grownBy W3 v0.ownBlock)
    (ho : W3.ownsRow w0.heap.size 78 1 (.slice (some ⟨gg, 0, none⟩) ((byL s (σ.take k) (s c).d).length + 1) cp) ((byL s (σ.take k) (s c).d).length + 1) ((byL s (σ.take k) (s c).d).map (pv p) ++ [pv p c])) (hat : v0.ownBlock = some gg ∨ gg = W2.heap.size)
    (hm4 : MapIs Try.prog 84 W4 bb ((kvE E).set i ((s c).d.val, .slice (some ⟨gg, 0, none⟩) ((byL s (σ.take k) (s c).d).length + 1) cp))) (ht4 : W3.mapTurned W4 bb) :
    Fill w0 W4 pm hp hb bb s p n σ cs (k + 1) := by
  have hil := (List.getElem?_eq_some_iff.1 hi).1
  have hmem : ((s c).d, v0) ∈ E := List.mem_of_getElem? hi
  have hv0 := (hE.1 _ hmem).1
  have hv0c := (hE.1 _ hmem).2
  obtain ⟨E0, hM0, _⟩ := id h.by_
  obtain ⟨es, clk, hbb, _⟩ := id hM0
  have fr4 : Fr (fun i => i = bb ∨ v0.ownBlock = some i) w W4 :=
    ((hf2.mono (fun i _ h => .inl h)).trans (Fr.of_grown hg) (fun i _ h => .inr h.symm)).turned ht4 (fun _ => .inl rfl)
  have f34 : Fr (fun i => i = bb) W3 W4 := (Fr.refl (fun i => i = bb) W3).turned ht4 (fun _ => rfl)
  have hcne : ∀ (i : Nat) (cu : Array Value) (t : TypeId) (f : Nat × Nat), w.heap[i]? = some (.cells cu t f) → t ≠ 78 → ¬ (i = bb ∨ v0.ownBlock = some i) := by
    rintro i cu t f hi h1 (rfl | e)
    · rw [hbb] at hi; simp at hi
    · exact own_ne hv0 hi (fun e => h1 e.symm) i e rfl
  have hmne : ∀ (i : Nat) (es : Array MapEntry) (c : Nat), w.heap[i]? = some (.map es c) → i ≠ bb → ¬ (i = bb ∨ v0.ownBlock = some i) := by
    rintro i es c hi hib (rfl | e)
    · exact hib rfl
    · exact own_ne_map hv0 hi i e rfl
  obtain ⟨es1, c1, hme, _⟩ := h.heap.2.1.1
  have hcs : ∀ g, cs.ownBlock = some g → (∃ cur, w.heap[g]? = some (.cells cur 78 (0, 0))) → ¬ (g = bb ∨ v0.ownBlock = some g) := by
    rintro g hg ⟨cur, hcur⟩ (rfl | e)
    · rw [hbb] at hcur; simp at hcur
    · exact hv0c g e hg
  have hclt : ∀ g, cs.ownBlock = some g → g < w.heap.size := by
    intro g hg
    obtain ⟨a, cap, rfl, hr0⟩ := h.row
    obtain ⟨g', rfl, hr⟩ := hr0 (by omega)
    have : g' = g := by simpa [Value.ownBlock] using hg
    rw [← this]; exact hr.lt
  have htake : σ.take (k + 1) = σ.take k ++ [c] := by rw [take_snoc' σ k hk, hc]
  refine ⟨h.fr.trans fr4 (fun i hi e => ?_), fr4.at h.box (hcne _ _ _ _ h.box (by decide)), h.heap.fr fr4 (hcne _ _ _ _ h.heap.1 (by decide)) (hmne _ _ _ hme h.nbb), fun i hi => fr4.at (h.calls i hi) (hcne _ _ _ _ (h.calls i hi) (by decide)), h.inj, ?_, ?_, h.bpm, h.bhb, h.bp, h.nbb, h.bbb⟩
  · rcases e with e | e
    · have := h.bbb; omega
    · have := (hv0.lt i e).1; omega
  · refine ⟨E.set i ((s c).d, .slice (some ⟨gg, 0, none⟩) ((byL s (σ.take k) (s c).d).length + 1) cp), by simpa [kvE, List.map_set] using hm4, ?_, ?_, ?_⟩
    · intro e he
      obtain ⟨j, hj⟩ := List.getElem?_of_mem he
      rw [htake, byL_snoc]
      by_cases hji : j = i
      · subst hji
        rw [List.getElem?_set_self hil] at hj
        cases hj
        refine ⟨?_, fun g hg => ?_⟩
        · rw [if_pos rfl]
          simp only [List.length_append, List.length_singleton, List.map_append, List.map_cons, List.map_nil]
          refine own_fr ho f34 (fun g hgg => ?_)
          obtain ⟨es3, c3, _, _, hb3, _⟩ := id ht4
          exact own_ne_map ho hb3 g hgg
        · have : gg = g := by simpa [Value.ownBlock] using hg
          subst this
          rcases hat with e | e
          · exact hv0c _ e
          · exact fun hh => absurd (hclt _ hh) (by have := hf2.size; omega)
      · rw [List.getElem?_set_ne (fun e => hji e.symm)] at hj
        have hne : e.1 ≠ (s c).d := fun hed => hji (hone j e hj hed)
        rw [if_neg (fun e => hne e.symm), List.append_nil]
        have he' := hE.1 e (List.mem_of_getElem? hj)
        refine ⟨own_fr he'.1 fr4 ?_, he'.2⟩
        rintro g hg (rfl | e)
        · exact own_ne_map he'.1 hbb _ hg rfl
        · exact pw_ne hE.2.1 hj hi hji g hg e
    · rw [List.pairwise_iff_getElem]
      intro x y hx hy hxy g hgx hgy
      have hx' : x < E.length := by simpa using hx
      have hy' : y < E.length := by simpa using hy
      have gcase : ∀ z (hz : z < E.length), z ≠ i → E[z].2.ownBlock ≠ some gg := by
        intro z hz hzi hh
        have hzz : E[z]? = some E[z] := List.getElem?_eq_getElem hz
        rcases hat with e | e
        · exact pw_ne hE.2.1 hzz hi hzi gg hh e
        · have := ((hE.1 _ (List.getElem_mem hz)).1.lt gg hh).2
          have := hf2.size; omega
      rw [List.getElem_set] at hgx hgy
      by_cases hxi : i = x <;> by_cases hyi : i = y
      · omega
      · rw [if_pos hxi] at hgx
        rw [if_neg hyi] at hgy
        have : gg = g := by simpa [Value.ownBlock] using hgx
        subst this
        exact gcase y hy' (fun e => hyi e.symm) hgy
      · rw [if_neg hxi] at hgx
        rw [if_pos hyi] at hgy
        have : gg = g := by simpa [Value.ownBlock] using hgy
        subst this
        exact gcase x hx' (fun e => hxi e.symm) hgx
      · rw [if_neg hxi] at hgx
        rw [if_neg hyi] at hgy
        exact pw_ne hE.2.1 (List.getElem?_eq_getElem hx') (List.getElem?_eq_getElem hy') (by omega) g hgx hgy
    · intro d' hd'
      rw [htake, byL_snoc, if_neg, List.append_nil]
      · refine hE.2.2 d' (fun e he hed => ?_)
        obtain ⟨j, hj⟩ := List.getElem?_of_mem he
        by_cases hji : j = i
        · subst hji
          rw [hj] at hi
          refine hd' ((s c).d, .slice (some ⟨gg, 0, none⟩) ((byL s (σ.take k) (s c).d).length + 1) cp) (List.mem_of_getElem? (i := j) (List.getElem?_set_self hil)) ?_
          rw [← hed, Option.some.inj hi]
        · exact hd' e (List.mem_of_getElem? (i := j) (by rw [List.getElem?_set_ne (fun e => hji e.symm)]; exact hj)) hed
      · exact hd' ((s c).d, .slice (some ⟨gg, 0, none⟩) ((byL s (σ.take k) (s c).d).length + 1) cp) (List.mem_of_getElem? (i := i) (List.getElem?_set_self hil))
  · obtain ⟨a, cap, rfl, hr0⟩ := h.row
    refine ⟨a, cap, rfl, fun hl => ?_⟩
    obtain ⟨g, rfl, hr⟩ := hr0 hl
    obtain ⟨cur, hcur, _⟩ := id hr
    exact ⟨g, rfl, hr.fr fr4 (hcs g rfl ⟨cur, hcur⟩)⟩
end
end Go.Proofs.Ytjaabbjobnfmmaa

/-
  order.Line's memory behind a call that is done (next), behind a deed of the heap; order.bads.
-/
import Derived.Test.YtjaabbjobnfmmaaLineB
namespace Go.Proofs.Ytjaabbjobnfmmaa
open Go.RowKit

section
variable {w0 w w' : World} {pm hp hb bb : Nat} {s : Nat → Sp} {p : Nat → Nat} {n : Nat} {σ : List Nat} {cs : Value} {out : List Nat} {T : List Ob} {X : Nat → Prop}

theorem PSl.frT {v : Value} {L : List Nat} (h : PSl w v p L) (hf : Fr X w w') (hx : ∀ (g : Nat) (cur : Array Value), w.heap[g]? = some (.cells cur 78 (0, 0)) → ¬ X g) : PSl w' v p L := by
  obtain ⟨a, cap, rfl, h⟩ := h
  refine ⟨a, cap, rfl, fun hl => ?_⟩
  obtain ⟨g, rfl, hr⟩ := h hl
  obtain ⟨cur, hc, _⟩ := id hr
  exact ⟨g, rfl, hr.fr hf (hx g cur hc)⟩
theorem ByIs.frT (h : ByIs w bb s p σ) (hf : Fr X w w') (hb : ¬ X bb) (hx : ∀ (g : Nat) (cur : Array Value), w.heap[g]? = some (.cells cur 78 (0, 0)) → ¬ X g) : ByIs w' bb s p σ := by
  obtain ⟨E, h1, h2, h3⟩ := h
  exact ⟨E, h1.block (hf.block bb h1.lt hb), fun e he => (h2 e he).frT hf hx, h3⟩

/-- A deed of the heap. -/
theorem LineAt.deed (h : LineAt w0 w pm hp hb bb s p n σ cs out T) {T' : List Ob} (hf : Fr (fun i => i = hb) w w') (hT : HeapIs w' hp hb T') : LineAt w0 w' pm hp hb bb s p n σ cs out T' := by
  obtain ⟨ov, b1, b2⟩ := h.box
  obtain ⟨es, clock, hm, _⟩ := h.heap.2.1.1
  have hcell : ∀ (g : Nat) (cur : Array Value) (t : TypeId) (f : Nat × Nat), w.heap[g]? = some (.cells cur t f) → g ≠ hb := by
    rintro g cur t f hg rfl
    rw [hm] at hg; cases hg
  exact ⟨h.fr.trans hf (fun i hi e => by have := h.bhb; omega), ⟨ov, hf.at b1 (hcell _ _ _ _ b1), own_fr b2 hf (own_ne_map b2 hm)⟩, hT,
    fun i hi => hf.at (h.calls i hi) (hcell _ _ _ _ (h.calls i hi)), h.inj, h.by_.frT hf (fun e => h.nbb e.symm) (fun g cur hg => hcell _ _ _ _ hg), h.row.frT hf (fun g cur hg => hcell _ _ _ _ hg),
    h.bpm, h.bhb, h.bp, h.sn, h.wf, h.nbb, h.nd⟩

/-- next. -/
theorem next_any (h : LineAt w0 w pm hp hb bb s p n σ cs out T) (i : Nat) (hi : i < n) (hn : out.length ≤ 100000) :
    Calls Try.prog 58 #[.pointer (some ⟨pm, 0, none⟩), .pointer (some ⟨p i, 0, none⟩)] w fun e w' => e = .returned (.tuple #[]) ∧ LineAt w0 w' pm hp hb bb s p n σ cs (out ++ [i]) T ∧ ∀ v L, PSl w v p L → PSl w' v p L := by
  obtain ⟨ov, b1, b2⟩ := h.box
  refine (next_cell pm (p i) _ _ _ ov (s i) i _ out.length w0.heap.size _ w b1 (h.calls i hi) b2 h.fr.size hn).mono ?_
  rintro e w' ⟨he, ⟨g, cap, c1, c2⟩, c3, hf⟩
  refine ⟨he, ?_⟩
  have hown : ∀ j, ov.ownBlock = some j → w0.heap.size ≤ j := fun j hj => (b2.lt j hj).1
  have hcell : ∀ (k : Nat) (cur : Array Value) (t : TypeId) (f : Nat × Nat), w.heap[k]? = some (.cells cur t f) → t ≠ 77 → t ≠ 80 → t ≠ 3 → ¬ (k = pm ∨ k = p i ∨ ov.ownBlock = some k) := by
    rintro k cur t f hk h1 h2 h3 (rfl | rfl | e)
    · rw [b1] at hk; simp [boxO] at hk; exact h1 hk.2.1.symm
    · rw [h.calls i hi] at hk; simp [callO] at hk; exact h2 hk.2.1.symm
    · exact own_ne b2 hk (fun e => h3 e.symm) k e rfl
  have hmap : ∀ (k : Nat) (es : Array MapEntry) (c : Nat), w.heap[k]? = some (.map es c) → ¬ (k = pm ∨ k = p i ∨ ov.ownBlock = some k) := by
    rintro k es c hk (rfl | rfl | e)
    · rw [b1] at hk; simp [boxO] at hk
    · rw [h.calls i hi] at hk; simp [callO] at hk
    · exact own_ne_map b2 hk k e rfl
  obtain ⟨es, clock, hm, _⟩ := h.heap.2.1.1
  obtain ⟨E, hE, _⟩ := id h.by_
  obtain ⟨es2, clock2, hm2, _⟩ := hE
  refine ⟨⟨h.fr.trans hf (fun k hk e => ?_), ⟨.slice (some ⟨g, 0, none⟩) (out.length + 1) cap, c1, by simpa using c2⟩, h.heap.fr hf (hcell _ _ _ _ h.heap.1 (by decide) (by decide) (by decide)) (hmap _ _ _ hm),
    fun j hj => ?_, h.inj, h.by_.frT hf (hmap _ _ _ hm2) (fun g cur hg => hcell _ _ _ _ hg (by decide) (by decide) (by decide)), h.row.frT hf (fun g cur hg => hcell _ _ _ _ hg (by decide) (by decide) (by decide)),
    h.bpm, h.bhb, h.bp, h.sn, h.wf, h.nbb, h.nd⟩, fun v L hv => hv.frT hf (fun g cur hg => hcell _ _ _ _ hg (by decide) (by decide) (by decide))⟩
  · rcases e with rfl | rfl | e
    · have := h.bpm; omega
    · have := h.bp i hi; omega
    · have := hown k e; omega
  · by_cases hji : j = i
    · subst hji
      simpa using c3
    · have hnx : ¬ (p j = pm ∨ p j = p i ∨ ov.ownBlock = some (p j)) := by
        rintro (e | e | e)
        · have := h.calls j hj; rw [e, b1] at this; simp [boxO, callO] at this
        · exact hji (h.inj j i hj hi e)
        · exact own_ne b2 (h.calls j hj) (by decide) _ e rfl
      have := hf.at (h.calls j hj) hnx
      rw [this]
      simp [hji]
end

/-- A bad call that must be done ahead of an object's being given out. -/
def badB (s : Nat → Sp) (out : List Nat) (c i : Nat) : Bool := (!decide (i ∈ out) && decide (0 ≤ (s i).t)) && decide ((s i).f ≤ (s c).t)
def badI (s : Nat → Sp) (σ : List Nat) (out : List Nat) (c : Nat) : List Nat := (byL s σ ⟨4, (s c).d.x⟩).filter (badB s out c)

theorem filt_skip {α : Type} (L : List α) (f : α → Bool) (k : Nat) (hk : k < L.length) (h : f L[k] = false) : (L.take (k + 1)).filter f = (L.take k).filter f := by
  rw [take_snoc' L k hk, List.filter_append]; simp [h]
theorem filt_hit {α : Type} (L : List α) (f : α → Bool) (k : Nat) (hk : k < L.length) (h : f L[k] = true) : (L.take (k + 1)).filter f = (L.take k).filter f ++ [L[k]] := by
  rw [take_snoc' L k hk, List.filter_append]; simp [h]
theorem not_in_take {L : List Nat} (h : L.Nodup) (k : Nat) (hk : k < L.length) : L[k] ∉ L.take k := by
  have : (L.take (k + 1)).Nodup := h.sublist (List.take_sublist _ _)
  rw [take_snoc' L k hk, List.nodup_append] at this
  intro hm
  exact this.2.2 _ hm _ (List.mem_singleton.2 rfl) rfl

set_option maxRecDepth 100000 in
set_option maxHeartbeats 4000000 in
theorem bads_any (w0 w : World) (pm hp hb bb : Nat) (s : Nat → Sp) (p : Nat → Nat) (n : Nat) (σ : List Nat) (cs : Value) (out : List Nat) (T : List Ob) (h : LineAt w0 w pm hp hb bb s p n σ cs out T) (hσ : σ.length ≤ 1000) (ho : out.length ≤ 1000) (c : Nat) (hc : c < n) :
    Calls Try.prog 57 #[.pointer (some ⟨pm, 0, none⟩), .pointer (some ⟨p c, 0, none⟩)] w fun e w' => e = .returned (.tuple #[]) ∧ LineAt w0 w' pm hp hb bb s p n σ cs (out ++ badI s σ out c) T := by
  unfold badI
  have hwf := h.wf c hc
  have H := hid h
  have HC := hid hc
  have HO := hid ho
  have hdd : (Dd.mk 4 (s c).d.x).wf := ⟨show (Lit.int .i64 4).wf = true by decide, hwf.1.2⟩
  obtain ⟨v, hv, hl⟩ := h.by_.look ⟨4, (s c).d.x⟩ hdd
  have hLl : (byL s σ ⟨4, (s c).d.x⟩).length ≤ 1000 := Nat.le_trans (List.length_filter_le _ _) hσ
  have hLn : Hid (∀ i ∈ byL s σ ⟨4, (s c).d.x⟩, i < n) := hid (fun i hi => H.out.sn i (byL_mem.1 hi).1)
  have hLd : Hid (byL s σ ⟨4, (s c).d.x⟩).Nodup := hid (h.nd.sublist List.filter_sublist)
  obtain ⟨a, cap, hva, hrow⟩ := hv
  subst hva
  have HROW := hid hrow
  clear hrow hwf hdd ho hc
  have e1 : ∀ q : Ext w, q.out.cell? ⟨pm, 2, none⟩ = some (.map (some bb)) := fun q => (H.out.fr0 q.fr).cell2
  have e3 : ∀ q : Ext w, q.out.cell? ⟨p c, 1, none⟩ = some (.int .i64 (s c).d.x.c) := fun q => ((H.out.fr0 q.fr).callc c HC.out).2.1
  have e4 : ∀ q : Ext w, q.out.cell? ⟨p c, 2, none⟩ = some (.int .i64 (s c).d.x.s) := fun q => ((H.out.fr0 q.fr).callc c HC.out).2.2.1
  have e5 : ∀ q : Ext w, q.out.cell? ⟨p c, 3, none⟩ = some (.int .i64 (s c).d.x.o) := fun q => ((H.out.fr0 q.fr).callc c HC.out).2.2.2.1
  have e6 : ∀ q : Ext w, (Instr.lookup 74 (.map (some bb)) (.agg #[.int .i64 4, .int .i64 (s c).d.x.c, .int .i64 (s c).d.x.s, .int .i64 (s c).d.x.o]) false).run Try.prog q.out = .ok (.slice a (byL s σ ⟨4, (s c).d.x⟩).length cap) q.out := fun q => hl _ q.fr
  clear hl h
  generalize byL s σ ⟨4, (s c).d.x⟩ = L at e6 HROW hLl hLn hLd ⊢
  go_enter Try.func57, Try.ntmps57
  go_wp2_with fail
  refine wp_region_ext (by kernel_rfl) (by kernel_rfl) ?_
  repeat (refine wpQuiet_step (fun K hK => ?_); go_simp; (refine hK _ ?_; clear hK K))
  refine wpQuiet_nil ?_
  intro _ hw'
  obtain ⟨q, hw''⟩ := hw'
  subst hw''
  have hW3 := hid q.fr
  generalize q.out = W3 at hW3 ⊢
  clear q e1 e3 e4 e5 e6
  go_wp2_with fail
  go_loopw [19] (fun i wr => ∃ k : Nat, i = .int .i64 k ∧ k ≤ L.length ∧ Hid (PSl wr (.slice a L.length cap) p L ∧ LineAt w0 wr pm hp hb bb s p n σ cs (out ++ (L.take k).filter (badB s out c)) T)) (fun i _ => L.length - (intOf i).toNat)
  case atStart => exact ⟨0, rfl, Nat.zero_le _, hid ⟨PSl.fr0 ⟨a, cap, rfl, HROW.out⟩ hW3.out, by simpa using H.out.fr0 hW3.out⟩⟩
  case round =>
    obtain ⟨k, rfl, hk, hR⟩ := hrel
    clear hW3
    by_cases hlt : k < L.length
    · obtain ⟨a', cap', hva, hr0⟩ := hR.out.1
      obtain ⟨g, hag, hr⟩ := hr0 (by omega)
      obtain ⟨rfl, -, rfl⟩ : a = a' ∧ L.length = L.length ∧ cap = cap' := by simpa using hva
      subst hag
      have hix := fun W => index75 g L.length cap k hlt W
      have hce := hr.cell k hlt
      have hxn := hLn.out _ (List.getElem_mem hlt)
      have hs := hid (filt_skip L (badB s out c) k hlt)
      have hh := hid (filt_hit L (badB s out c) k hlt)
      have hno := not_in_take hLd.out k hlt
      generalize L[k] = x at hce hxn hs hh hno
      have hdk : decide (x ∈ out ++ (L.take k).filter (badB s out c)) = decide (x ∈ out) := by
        have : x ∉ (L.take k).filter (badB s out c) := fun h => hno (List.mem_filter.1 h).1
        simp [this]
      obtain ⟨-, -, -, -, b4, b6, b7⟩ := hR.out.2.callc x hxn
      have b5 := (hR.out.2.callc c HC.out).2.2.2.2.2.1
      have hN := hid (fun W (hW : Fr0 wr W) => next_any (hR.out.2.fr0 hW) x hxn (by
        have h1 := List.length_filter_le (badB s out c) (L.take k)
        have h2 := HO.out
        simp only [List.length_append, List.length_take] at *; omega))
      rw [hdk] at b7
      simp only [pv] at hce
      clear hr hr0 hva hdk hno
      cases hd : decide (x ∈ out) with
      | true =>
        rw [hd] at b7
        have hf0 := hid (show badB s out c x = false by simp [badB, hd])
        clear hd
        go_wp2
        go_quiet (fail)
        go_wp2
        go_roundw
        case rel => exact ⟨k + 1, by go_num, by omega, hid ⟨hR.out.1.fr0 ((Fr.refl _ wr).drewN _), by rw [hs.out hf0.out]; exact hR.out.2.fr0 ((Fr.refl _ wr).drewN _)⟩⟩
        case measure => simp [intOf]; omega
      | false =>
        rw [hd] at b7
        cases h0t : decide (0 ≤ (s x).t) with
        | false =>
          have hf0 := hid (show badB s out c x = false by simp only [badB, hd, h0t]; rfl)
          clear hd
          go_wp2
          go_quiet (fail)
          go_wp2
          go_roundw
          case rel => exact ⟨k + 1, by go_num, by omega, hid ⟨hR.out.1.fr0 ((Fr.refl _ wr).drewN _), by rw [hs.out hf0.out]; exact hR.out.2.fr0 ((Fr.refl _ wr).drewN _)⟩⟩
          case measure => simp [intOf]; omega
        | true =>
          cases hft : decide ((s x).f ≤ (s c).t) with
          | false =>
            have hf0 := hid (show badB s out c x = false by simp only [badB, hd, h0t, hft]; rfl)
            clear hd
            go_wp2
            go_quiet (fail)
            go_wp2
            go_roundw
            case rel => exact ⟨k + 1, by go_num, by omega, hid ⟨hR.out.1.fr0 ((Fr.refl _ wr).drewN _), by rw [hs.out hf0.out]; exact hR.out.2.fr0 ((Fr.refl _ wr).drewN _)⟩⟩
            case measure => simp [intOf]; omega
          | true =>
            have hf0 := hid (show badB s out c x = true by simp only [badB, hd, h0t, hft]; rfl)
            clear hd
            go_wp2
            go_quiet (fail)
            go_wp2_with fail
            refine (hN.out _ ((Fr.refl _ wr).drewN _)).mono ?_
            rintro e w1 ⟨rfl, hL1, hP1⟩
            have HE := hid (show PSl w1 (.slice (some ⟨g, 0, none⟩) L.length cap) p L ∧ LineAt w0 w1 pm hp hb bb s p n σ cs (out ++ (L.take (k + 1)).filter (badB s out c)) T from ⟨hP1 _ _ (hR.out.1.fr0 ((Fr.refl _ wr).drewN _)), by rw [hh.out hf0.out, ← List.append_assoc]; exact hL1⟩)
            clear hL1 hP1 hN
            go_wp2
            go_roundw
            case rel => exact ⟨k + 1, by go_num, by omega, HE⟩
            case measure => simp [intOf]; omega
    · have hkl : k = L.length := by omega
      subst hkl
      go_wp2
      go_end0
      exact ⟨rfl, by simpa using hR.out.2⟩
end Go.Proofs.Ytjaabbjobnfmmaa

/-
  order.Line's memory as a whole; order.helps.
-/
import Derived.Test.YtjaabbjobnfmmaaLineA
import Derived.Test.YtjaabbjobnfmmaaExt
namespace Go.Proofs.Ytjaabbjobnfmmaa
open Go.RowKit

/-- A slice of pointers to the calls L. -/
def PSl (w : World) (v : Value) (p : Nat → Nat) (L : List Nat) : Prop := ∃ a cap, v = .slice a L.length cap ∧ (0 < L.length → ∃ g, a = some ⟨g, 0, none⟩ ∧ PRow w g p L)
theorem PSl.fr {X : Nat → Prop} {w w' : World} {v : Value} {p : Nat → Nat} {L : List Nat} (h : PSl w v p L) (hf : Fr X w w') (hx : ∀ g, v.ownBlock = some g → ¬ X g) : PSl w' v p L := by
  obtain ⟨a, cap, rfl, h⟩ := h
  refine ⟨a, cap, rfl, fun hl => ?_⟩
  obtain ⟨g, rfl, hr⟩ := h hl
  exact ⟨g, rfl, hr.fr hf (hx g rfl)⟩
theorem PSl.fr0 {w w' : World} {v : Value} {p : Nat → Nat} {L : List Nat} (h : PSl w v p L) (hf : Fr0 w w') : PSl w' v p L := h.fr hf (fun _ _ h => h)

/-- The calls of a deed, in the order σ. -/
def byL (s : Nat → Sp) (σ : List Nat) (d : Dd) : List Nat := σ.filter fun i => decide ((s i).d = d)

/-- Map bb holds, for each deed, its calls in the order σ. -/
def ByIs (w : World) (bb : Nat) (s : Nat → Sp) (p : Nat → Nat) (σ : List Nat) : Prop :=
  ∃ E : List (Dd × Value), MapIs Try.prog 84 w bb (E.map fun e => (e.1.val, e.2)) ∧ (∀ e ∈ E, PSl w e.2 p (byL s σ e.1)) ∧ ∀ d, (∀ e ∈ E, e.1 ≠ d) → byL s σ d = []
theorem ByIs.fr0 {w w' : World} {bb : Nat} {s : Nat → Sp} {p : Nat → Nat} {σ : List Nat} (h : ByIs w bb s p σ) (hf : Fr0 w w') : ByIs w' bb s p σ := by
  obtain ⟨E, h1, h2, h3⟩ := h
  exact ⟨E, h1.block (hf.block bb h1.lt id), fun e he => (h2 e he).fr0 hf, h3⟩

theorem key_one {kv : List (Value × Value)} (h : kv.Pairwise (fun p q => p.1 ≠ q.1)) {k v v' : Value} (h1 : (k, v) ∈ kv) (h2 : (k, v') ∈ kv) : v = v' := by
  induction kv with
  | nil => cases h1
  | cons a l ih =>
    rw [List.pairwise_cons] at h
    rcases List.mem_cons.1 h1 with e1 | e1 <;> rcases List.mem_cons.1 h2 with e2 | e2
    · rw [← e1] at e2; exact (Prod.mk.inj e2).2.symm
    · exact absurd (by rw [← e1]) (h.1 _ e2)
    · exact absurd (by rw [← e2]) (h.1 _ e1)
    · exact ih h.2 e1 e2

theorem ByIs.look {w : World} {bb : Nat} {s : Nat → Sp} {p : Nat → Nat} {σ : List Nat} (h : ByIs w bb s p σ) (d : Dd) (hd : d.wf) :
    ∃ v, PSl w v p (byL s σ d) ∧ ∀ W, Fr0 w W → (Instr.lookup 74 (.map (some bb)) d.val false).run Try.prog W = .ok v W := by
  obtain ⟨E, h1, h2, h3⟩ := h
  obtain ⟨kl, hkl⟩ := keyOf84 d hd
  rcases h1.look false law84 Try.underlying74 (zero75 w) hkl with ⟨_, hno⟩ | ⟨v, hv, _⟩
  · refine ⟨.slice none 0 0, ⟨none, 0, ?_, ?_⟩, fun W hW => ?_⟩
    · rw [h3 d (fun e he hed => hno _ (List.mem_map.2 ⟨e, he, rfl⟩) (by rw [hed]))]; rfl
    · rw [h3 d (fun e he hed => hno _ (List.mem_map.2 ⟨e, he, rfl⟩) (by rw [hed]))]; intro h; simp at h
    · rcases (h1.block (hW.block bb h1.lt id)).look false law84 Try.underlying74 (zero75 W) hkl with ⟨hr, _⟩ | ⟨v, hv, _⟩
      · simpa using hr
      · exact absurd rfl (hno _ hv)
  · refine ⟨v, ?_, fun W hW => ?_⟩
    · obtain ⟨e, he, hee⟩ := List.mem_map.1 hv
      have e1 := Dd.val_inj (Prod.mk.inj hee).1
      have e2 := (Prod.mk.inj hee).2
      have := h2 e he
      rw [e1, e2] at this
      exact this
    · rcases (h1.block (hW.block bb h1.lt id)).look false law84 Try.underlying74 (zero75 W) hkl with ⟨_, hno⟩ | ⟨v', hv', hr⟩
      · exact absurd rfl (hno _ hv)
      · rw [key_one h1.apart hv hv']; simpa using hr

/-- Line's memory while it orders: the box pm, the heap (hp, hb) with T out, the calls, the map bb, what is done so far. -/
structure LineAt (w0 w : World) (pm hp hb bb : Nat) (s : Nat → Sp) (p : Nat → Nat) (n : Nat) (σ : List Nat) (cs : Value) (out : List Nat) (T : List Ob) : Prop where
  fr : Fr0 w0 w
  box : ∃ ov, w.heap[pm]? = some (boxO (.pointer (some ⟨hp, 0, none⟩)) cs (.map (some bb)) ov) ∧ w.ownsRow w0.heap.size 3 1 ov out.length (out.map fun i : Nat => Value.int .i64 i)
  heap : HeapIs w hp hb T
  calls : ∀ i, i < n → w.heap[p i]? = some (callO (s i) i (decide (i ∈ out)))
  inj : ∀ i j, i < n → j < n → p i = p j → i = j
  by_ : ByIs w bb s p σ
  row : PSl w cs p σ
  bpm : w0.heap.size ≤ pm
  bhb : w0.heap.size ≤ hb
  bp : ∀ i, i < n → w0.heap.size ≤ p i
  sn : ∀ i ∈ σ, i < n
  wf : ∀ i, i < n → (s i).wf
  nbb : hb ≠ bb
  nd : σ.Nodup

section
variable {w0 w w' : World} {pm hp hb bb : Nat} {s : Nat → Sp} {p : Nat → Nat} {n : Nat} {σ : List Nat} {cs : Value} {out : List Nat} {T : List Ob}
theorem LineAt.fr0 (h : LineAt w0 w pm hp hb bb s p n σ cs out T) (hf : Fr0 w w') : LineAt w0 w' pm hp hb bb s p n σ cs out T := by
  obtain ⟨ov, b1, b2⟩ := h.box
  exact ⟨h.fr.trans0 hf, ⟨ov, hf.at b1 id, own_fr0 b2 hf⟩, h.heap.fr0 hf, fun i hi => hf.at (h.calls i hi) id, h.inj, h.by_.fr0 hf, h.row.fr0 hf, h.bpm, h.bhb, h.bp, h.sn, h.wf, h.nbb, h.nd⟩
theorem LineAt.cell0 (h : LineAt w0 w pm hp hb bb s p n σ cs out T) : w.cell? ⟨pm, 0, none⟩ = some (.pointer (some ⟨hp, 0, none⟩)) := by
  obtain ⟨ov, b1, _⟩ := h.box
  exact cell_of_block b1 0
theorem LineAt.cell1 (h : LineAt w0 w pm hp hb bb s p n σ cs out T) : w.cell? ⟨pm, 1, none⟩ = some cs := by
  obtain ⟨ov, b1, _⟩ := h.box
  exact cell_of_block b1 1
theorem LineAt.cell2 (h : LineAt w0 w pm hp hb bb s p n σ cs out T) : w.cell? ⟨pm, 2, none⟩ = some (.map (some bb)) := by
  obtain ⟨ov, b1, _⟩ := h.box
  exact cell_of_block b1 2
theorem LineAt.callc (h : LineAt w0 w pm hp hb bb s p n σ cs out T) (i : Nat) (hi : i < n) :
    w.cell? ⟨p i, 0, none⟩ = some (.int .i64 (s i).d.k) ∧ w.cell? ⟨p i, 1, none⟩ = some (.int .i64 (s i).d.x.c) ∧ w.cell? ⟨p i, 2, none⟩ = some (.int .i64 (s i).d.x.s) ∧ w.cell? ⟨p i, 3, none⟩ = some (.int .i64 (s i).d.x.o) ∧
    w.cell? ⟨p i, 4, none⟩ = some (.int .i64 (s i).f) ∧ w.cell? ⟨p i, 5, none⟩ = some (.int .i64 (s i).t) ∧ w.cell? ⟨p i, 7, none⟩ = some (.bool (decide (i ∈ out))) :=
  have h0 := h.calls i hi
  ⟨cell_of_block h0 0, cell_of_block h0 1, cell_of_block h0 2, cell_of_block h0 3, cell_of_block h0 4, cell_of_block h0 5, cell_of_block h0 7⟩
theorem byL_mem {i : Nat} {d : Dd} : i ∈ byL s σ d ↔ i ∈ σ ∧ (s i).d = d := by simp [byL]
end

/-- A call that may help. -/
def fitB (s : Nat → Sp) (out : List Nat) (c i : Nat) : Bool := !decide (i ∈ out) && decide ((s i).f ≤ (s c).t)
def helpK (s : Nat → Sp) (T : List Ob) (c : Nat) : Dd := ⟨if (s c).d.x ∈ T then 3 else 1, (s c).d.x⟩
/-- What helps answers. -/
def helpI (s : Nat → Sp) (σ : List Nat) (out : List Nat) (T : List Ob) (c : Nat) : Option Nat := (byL s σ (helpK s T c)).find? (fitB s out c)
def optP (p : Nat → Nat) : Option Nat → Value
  | some i => pv p i
  | none => .pointer none

theorem find_skip {α : Type} (L : List α) (f : α → Bool) (k : Nat) (hk : k < L.length) (h : f L[k] = false) : (L.drop k).find? f = (L.drop (k + 1)).find? f := by
  rw [List.drop_eq_getElem_cons hk, List.find?_cons_of_neg (by simp [h])]
theorem find_hit {α : Type} (L : List α) (f : α → Bool) (k : Nat) (hk : k < L.length) (h : f L[k] = true) : (L.drop k).find? f = some L[k] := by
  rw [List.drop_eq_getElem_cons hk, List.find?_cons_of_pos h]

/-- A fact that stays behind new blocks and draws. -/
theorem ext_of {w : World} {φ : World → Prop} (h : ∀ W, Fr0 w W → φ W) : ∀ q : Ext w, φ q.out := fun q => h q.out q.fr


set_option maxRecDepth 100000 in
set_option maxHeartbeats 4000000 in
theorem helps_any (w0 w : World) (pm hp hb bb : Nat) (s : Nat → Sp) (p : Nat → Nat) (n : Nat) (σ : List Nat) (cs : Value) (out : List Nat) (T : List Ob) (h : LineAt w0 w pm hp hb bb s p n σ cs out T) (hσ : σ.length ≤ 100000) (c : Nat) (hc : c < n) :
    Calls Try.prog 56 #[.pointer (some ⟨pm, 0, none⟩), .pointer (some ⟨p c, 0, none⟩)] w fun e w' => e = .returned (optP p (helpI s σ out T c)) ∧ Fr0 w w' := by
  unfold helpI helpK
  have hwf := h.wf c hc
  have H := hid h
  have HC := hid hc
  obtain ⟨a0, a1, a2, a3, a4, a5, a7⟩ := h.callc c hc
  clear a0 a4 a7 a5
  have HA := hid (alloc_block w (.cells #[.int .i64 1, .int .i64 (s c).d.x.c, .int .i64 (s c).d.x.s, .int .i64 (s c).d.x.o] 84))
  have HF := hid (fr0_alloc w (.cells #[.int .i64 1, .int .i64 (s c).d.x.c, .int .i64 (s c).d.x.s, .int .i64 (s c).d.x.o] 84))
  by_cases hT : (s c).d.x ∈ T
  · rw [if_pos hT]
    have hdd : (Dd.mk 3 (s c).d.x).wf := ⟨show (Lit.int .i64 3).wf = true by decide, hwf.1.2⟩
    have HL := hid (h.by_.look ⟨3, (s c).d.x⟩ hdd)
    have hLl : (byL s σ ⟨3, (s c).d.x⟩).length ≤ 100000 := Nat.le_trans (List.length_filter_le _ _) hσ
    have hLn : Hid (∀ i ∈ byL s σ ⟨3, (s c).d.x⟩, i < n) := hid (fun i hi => H.out.sn i (byL_mem.1 hi).1)
    generalize byL s σ ⟨3, (s c).d.x⟩ = L at HL hLn hLl ⊢
    have HT := hid (decide_eq_true hT)
    have HW := hid hwf.1.2
    clear h hwf hdd hT
    go_enter Try.func56, Try.ntmps56
    go_wp2_with fail
    clear a1 a2 a3
    generalize w.alloc _ = wa at HA HF ⊢
    generalize hkb : w.heap.size = kb at HA ⊢
    have HKB := hid hkb
    clear hkb
    have HH := hid (H.out.fr0 HF.out)
    have HQ : Hid (∀ q : Ext wa, Calls Try.prog 24 #[.pointer (some ⟨hp, 0, none⟩), .agg #[.int .i64 (s c).d.x.c, .int .i64 (s c).d.x.s, .int .i64 (s c).d.x.o]] q.out fun e w' => e = .returned (.bool true) ∧ Fr0 q.out w') := hid (fun q => by
      have := has_any hp hb T (s c).d.x HW.out q.out (HH.out.heap.fr0 q.fr)
      rw [HT.out] at this; exact this)
    have e1 : ∀ q : Ext wa, q.out.cell? ⟨pm, 0, none⟩ = some (.pointer (some ⟨hp, 0, none⟩)) := fun q => (HH.out.fr0 q.fr).cell0
    have e2 : ∀ q : Ext wa, q.out.cell? ⟨p c, 1, none⟩ = some (.int .i64 (s c).d.x.c) := fun q => ((HH.out.fr0 q.fr).callc c HC.out).2.1
    have e3 : ∀ q : Ext wa, q.out.cell? ⟨p c, 2, none⟩ = some (.int .i64 (s c).d.x.s) := fun q => ((HH.out.fr0 q.fr).callc c HC.out).2.2.1
    have e4 : ∀ q : Ext wa, q.out.cell? ⟨p c, 3, none⟩ = some (.int .i64 (s c).d.x.o) := fun q => ((HH.out.fr0 q.fr).callc c HC.out).2.2.2.1
    refine wp_region_ext (by kernel_rfl) (by kernel_rfl) ?_
    repeat (refine wpQuiet_step (fun K hK => ?_); go_simp; first | (refine hK _ ?_; clear hK K) | (apply Exists.intro; refine ⟨fun _ => ?_, hK _ ?_⟩; (go_at_call 24; refine calls_ext (HQ.out _)); clear hK K))
    refine wpQuiet_nil ?_
    intro _ hw'
    obtain ⟨q, hw''⟩ := hw'
    subst hw''
    have hW1 := q.fr
    generalize q.out = W1 at hW1 ⊢
    clear q e1 e2 e3 e4 HQ
    have k0 : W1.cell? ⟨kb, 0, none⟩ = some (.int .i64 1) := cell_of_block (hW1.at HA.out id) 0
    have k1 : W1.frozen? ⟨kb, 0, none⟩ = false := free_of_block (hW1.at HA.out id) 0
    go_wp2_with fail
    clear k0 k1
    have hF2 : Fr0 w (W1.setCell ⟨kb, 0, none⟩ (.int .i64 3)) := Fr.setCell (X := fun _ => False) (p := ⟨kb, 0, none⟩) (HF.out.trans0 hW1) (fun hb => by have := HKB.out; simp at hb; omega) _
    have hK2 : (W1.setCell ⟨kb, 0, none⟩ (.int .i64 3)).heap[kb]? = some (.cells #[.int .i64 3, .int .i64 (s c).d.x.c, .int .i64 (s c).d.x.s, .int .i64 (s c).d.x.o] 84 (0, 0)) := setCell_block (hW1.at HA.out id) 0 _
    generalize W1.setCell ⟨kb, 0, none⟩ (.int .i64 3) = W2 at hF2 hK2 ⊢
    clear hW1 HH
    have HH2 := hid (H.out.fr0 hF2)
    obtain ⟨v, hv, hl⟩ := HL.out
    obtain ⟨a, cap, hva, hrow⟩ := hv
    subst hva
    have e1 : ∀ q : Ext W2, q.out.cell? ⟨pm, 2, none⟩ = some (.map (some bb)) := fun q => (HH2.out.fr0 q.fr).cell2
    have e2 : ∀ q : Ext W2, q.out.cell? ⟨kb, 0, none⟩ = some (.int .i64 3) := fun q => cell_of_block (q.fr.at hK2 id) 0
    have e3 : ∀ q : Ext W2, q.out.cell? ⟨kb, 1, none⟩ = some (.int .i64 (s c).d.x.c) := fun q => cell_of_block (q.fr.at hK2 id) 1
    have e4 : ∀ q : Ext W2, q.out.cell? ⟨kb, 2, none⟩ = some (.int .i64 (s c).d.x.s) := fun q => cell_of_block (q.fr.at hK2 id) 2
    have e5 : ∀ q : Ext W2, q.out.cell? ⟨kb, 3, none⟩ = some (.int .i64 (s c).d.x.o) := fun q => cell_of_block (q.fr.at hK2 id) 3
    have e6 : ∀ q : Ext W2, (Instr.lookup 74 (.map (some bb)) (.agg #[.int .i64 3, .int .i64 (s c).d.x.c, .int .i64 (s c).d.x.s, .int .i64 (s c).d.x.o]) false).run Try.prog q.out = .ok (.slice a L.length cap) q.out := fun q => hl _ (hF2.trans0 q.fr)
    have HROW := hid hrow
    clear hK2 hl HL hrow
    refine wp_region_ext (by kernel_rfl) (by kernel_rfl) ?_
    repeat (refine wpQuiet_step (fun K hK => ?_); go_simp; (refine hK _ ?_; clear hK K))
    refine wpQuiet_nil ?_
    intro _ hw'
    obtain ⟨q, hw''⟩ := hw'
    subst hw''
    have hW3 := hid (hF2.trans0 q.fr)
    generalize q.out = W3 at hW3 ⊢
    clear q e1 e2 e3 e4 e5 e6 hF2 HH2 HA HF HKB HW HT
    go_wp2_with fail
    go_loopw [34] (fun i wr => ∃ k : Nat, i = .int .i64 k ∧ k ≤ L.length ∧ Hid (Fr0 w wr ∧ L.find? (fitB s out c) = (L.drop k).find? (fitB s out c))) (fun i _ => L.length - (intOf i).toNat)
    case atStart => exact ⟨0, rfl, Nat.zero_le _, hid ⟨hW3.out, by simp⟩⟩
    case round =>
      obtain ⟨k, rfl, hk, hR⟩ := hrel
      clear hW3
      by_cases hlt : k < L.length
      · obtain ⟨g, hag, hr⟩ := HROW.out (by omega)
        subst hag
        have hix := fun W => index75 g L.length cap k hlt W
        have hce := (hr.fr hR.out.1 id).cell k hlt
        have hxn := hLn.out _ (List.getElem_mem hlt)
        have hs := find_skip L (fitB s out c) k hlt
        have hh := find_hit L (fitB s out c) k hlt
        generalize L[k] = x at hce hxn hs hh
        obtain ⟨-, -, -, -, b4, -, b7⟩ := (H.out.fr0 hR.out.1).callc x hxn
        have b5 := ((H.out.fr0 hR.out.1).callc c HC.out).2.2.2.2.2.1
        have HS := hid hs
        have HHt := hid hh
        simp only [pv] at hce
        clear hs hh hr hxn
        cases hd : decide (x ∈ out) with
        | true =>
          rw [hd] at b7
          have hf0 := hid (show fitB s out c x = false by simp [fitB, hd])
          clear hd
          go_wp2
          go_quiet (fail)
          go_wp2
          go_roundw
          case rel => exact ⟨k + 1, by go_num, by omega, hid ⟨hR.out.1.drewN _, hR.out.2.trans (HS.out hf0.out)⟩⟩
          case measure => simp [intOf]; omega
        | false =>
          rw [hd] at b7
          cases hft : decide ((s x).f ≤ (s c).t) with
          | true =>
            have hf0 := hid (show fitB s out c x = true by simp only [fitB, hd, hft]; rfl)
            clear hd
            go_wp2
            go_quiet (fail)
            go_wp2
            go_ret
            exact ⟨by rw [hR.out.2, HHt.out hf0.out]; rfl, hR.out.1.drewN _⟩
          | false =>
            have hf0 := hid (show fitB s out c x = false by simp only [fitB, hd, hft]; rfl)
            clear hd
            go_wp2
            go_quiet (fail)
            go_wp2
            go_roundw
            case rel => exact ⟨k + 1, by go_num, by omega, hid ⟨hR.out.1.drewN _, hR.out.2.trans (HS.out hf0.out)⟩⟩
            case measure => simp [intOf]; omega
      · have hkl : k = L.length := by omega
        subst hkl
        go_wp2
        go_ret
        exact ⟨by rw [hR.out.2]; simp [optP], hR.out.1⟩
  · rw [if_neg hT]
    have hdd : (Dd.mk 1 (s c).d.x).wf := ⟨show (Lit.int .i64 1).wf = true by decide, hwf.1.2⟩
    have HL := hid (h.by_.look ⟨1, (s c).d.x⟩ hdd)
    have hLl : (byL s σ ⟨1, (s c).d.x⟩).length ≤ 100000 := Nat.le_trans (List.length_filter_le _ _) hσ
    have hLn : Hid (∀ i ∈ byL s σ ⟨1, (s c).d.x⟩, i < n) := hid (fun i hi => H.out.sn i (byL_mem.1 hi).1)
    generalize byL s σ ⟨1, (s c).d.x⟩ = L at HL hLn hLl ⊢
    have HT := hid (decide_eq_false hT)
    have HW := hid hwf.1.2
    clear h hwf hdd hT
    go_enter Try.func56, Try.ntmps56
    go_wp2_with fail
    clear a1 a2 a3
    generalize w.alloc _ = wa at HA HF ⊢
    generalize hkb : w.heap.size = kb at HA ⊢
    have HKB := hid hkb
    clear hkb
    have HH := hid (H.out.fr0 HF.out)
    have HQ : Hid (∀ q : Ext wa, Calls Try.prog 24 #[.pointer (some ⟨hp, 0, none⟩), .agg #[.int .i64 (s c).d.x.c, .int .i64 (s c).d.x.s, .int .i64 (s c).d.x.o]] q.out fun e w' => e = .returned (.bool false) ∧ Fr0 q.out w') := hid (fun q => by
      have := has_any hp hb T (s c).d.x HW.out q.out (HH.out.heap.fr0 q.fr)
      rw [HT.out] at this; exact this)
    have e1 : ∀ q : Ext wa, q.out.cell? ⟨pm, 0, none⟩ = some (.pointer (some ⟨hp, 0, none⟩)) := fun q => (HH.out.fr0 q.fr).cell0
    have e2 : ∀ q : Ext wa, q.out.cell? ⟨p c, 1, none⟩ = some (.int .i64 (s c).d.x.c) := fun q => ((HH.out.fr0 q.fr).callc c HC.out).2.1
    have e3 : ∀ q : Ext wa, q.out.cell? ⟨p c, 2, none⟩ = some (.int .i64 (s c).d.x.s) := fun q => ((HH.out.fr0 q.fr).callc c HC.out).2.2.1
    have e4 : ∀ q : Ext wa, q.out.cell? ⟨p c, 3, none⟩ = some (.int .i64 (s c).d.x.o) := fun q => ((HH.out.fr0 q.fr).callc c HC.out).2.2.2.1
    refine wp_region_ext (by kernel_rfl) (by kernel_rfl) ?_
    repeat (refine wpQuiet_step (fun K hK => ?_); go_simp; first | (refine hK _ ?_; clear hK K) | (apply Exists.intro; refine ⟨fun _ => ?_, hK _ ?_⟩; (go_at_call 24; refine calls_ext (HQ.out _)); clear hK K))
    refine wpQuiet_nil ?_
    intro _ hw'
    obtain ⟨q, hw''⟩ := hw'
    subst hw''
    have hW1 := q.fr
    generalize q.out = W1 at hW1 ⊢
    clear q e1 e2 e3 e4 HQ
    have k0 : W1.cell? ⟨kb, 0, none⟩ = some (.int .i64 1) := cell_of_block (hW1.at HA.out id) 0
    have k1 : W1.frozen? ⟨kb, 0, none⟩ = false := free_of_block (hW1.at HA.out id) 0
    go_wp2_with fail
    clear k0 k1
    have hF2 : Fr0 w W1 := HF.out.trans0 hW1
    have hK2 := hW1.at HA.out id
    generalize W1 = W2 at hF2 hK2 ⊢
    clear HH
    have HH2 := hid (H.out.fr0 hF2)
    obtain ⟨v, hv, hl⟩ := HL.out
    obtain ⟨a, cap, hva, hrow⟩ := hv
    subst hva
    have e1 : ∀ q : Ext W2, q.out.cell? ⟨pm, 2, none⟩ = some (.map (some bb)) := fun q => (HH2.out.fr0 q.fr).cell2
    have e2 : ∀ q : Ext W2, q.out.cell? ⟨kb, 0, none⟩ = some (.int .i64 1) := fun q => cell_of_block (q.fr.at hK2 id) 0
    have e3 : ∀ q : Ext W2, q.out.cell? ⟨kb, 1, none⟩ = some (.int .i64 (s c).d.x.c) := fun q => cell_of_block (q.fr.at hK2 id) 1
    have e4 : ∀ q : Ext W2, q.out.cell? ⟨kb, 2, none⟩ = some (.int .i64 (s c).d.x.s) := fun q => cell_of_block (q.fr.at hK2 id) 2
    have e5 : ∀ q : Ext W2, q.out.cell? ⟨kb, 3, none⟩ = some (.int .i64 (s c).d.x.o) := fun q => cell_of_block (q.fr.at hK2 id) 3
    have e6 : ∀ q : Ext W2, (Instr.lookup 74 (.map (some bb)) (.agg #[.int .i64 1, .int .i64 (s c).d.x.c, .int .i64 (s c).d.x.s, .int .i64 (s c).d.x.o]) false).run Try.prog q.out = .ok (.slice a L.length cap) q.out := fun q => hl _ (hF2.trans0 q.fr)
    have HROW := hid hrow
    clear hK2 hl HL hrow
    refine wp_region_ext (by kernel_rfl) (by kernel_rfl) ?_
    repeat (refine wpQuiet_step (fun K hK => ?_); go_simp; (refine hK _ ?_; clear hK K))
    refine wpQuiet_nil ?_
    intro _ hw'
    obtain ⟨q, hw''⟩ := hw'
    subst hw''
    have hW3 := hid (hF2.trans0 q.fr)
    generalize q.out = W3 at hW3 ⊢
    clear q e1 e2 e3 e4 e5 e6 hF2 HH2 HA HF HKB HW HT
    go_wp2_with fail
    go_loopw [34] (fun i wr => ∃ k : Nat, i = .int .i64 k ∧ k ≤ L.length ∧ Hid (Fr0 w wr ∧ L.find? (fitB s out c) = (L.drop k).find? (fitB s out c))) (fun i _ => L.length - (intOf i).toNat)
    case atStart => exact ⟨0, rfl, Nat.zero_le _, hid ⟨hW3.out, by simp⟩⟩
    case round =>
      obtain ⟨k, rfl, hk, hR⟩ := hrel
      clear hW3
      by_cases hlt : k < L.length
      · obtain ⟨g, hag, hr⟩ := HROW.out (by omega)
        subst hag
        have hix := fun W => index75 g L.length cap k hlt W
        have hce := (hr.fr hR.out.1 id).cell k hlt
        have hxn := hLn.out _ (List.getElem_mem hlt)
        have hs := find_skip L (fitB s out c) k hlt
        have hh := find_hit L (fitB s out c) k hlt
        generalize L[k] = x at hce hxn hs hh
        obtain ⟨-, -, -, -, b4, -, b7⟩ := (H.out.fr0 hR.out.1).callc x hxn
        have b5 := ((H.out.fr0 hR.out.1).callc c HC.out).2.2.2.2.2.1
        have HS := hid hs
        have HHt := hid hh
        simp only [pv] at hce
        clear hs hh hr hxn
        cases hd : decide (x ∈ out) with
        | true =>
          rw [hd] at b7
          have hf0 := hid (show fitB s out c x = false by simp [fitB, hd])
          clear hd
          go_wp2
          go_quiet (fail)
          go_wp2
          go_roundw
          case rel => exact ⟨k + 1, by go_num, by omega, hid ⟨hR.out.1.drewN _, hR.out.2.trans (HS.out hf0.out)⟩⟩
          case measure => simp [intOf]; omega
        | false =>
          rw [hd] at b7
          cases hft : decide ((s x).f ≤ (s c).t) with
          | true =>
            have hf0 := hid (show fitB s out c x = true by simp only [fitB, hd, hft]; rfl)
            clear hd
            go_wp2
            go_quiet (fail)
            go_wp2
            go_ret
            exact ⟨by rw [hR.out.2, HHt.out hf0.out]; rfl, hR.out.1.drewN _⟩
          | false =>
            have hf0 := hid (show fitB s out c x = false by simp only [fitB, hd, hft]; rfl)
            clear hd
            go_wp2
            go_quiet (fail)
            go_wp2
            go_roundw
            case rel => exact ⟨k + 1, by go_num, by omega, hid ⟨hR.out.1.drewN _, hR.out.2.trans (HS.out hf0.out)⟩⟩
            case measure => simp [intOf]; omega
      · have hkl : k = L.length := by omega
        subst hkl
        go_wp2
        go_ret
        exact ⟨by rw [hR.out.2]; simp [optP], hR.out.1⟩
end Go.Proofs.Ytjaabbjobnfmmaa

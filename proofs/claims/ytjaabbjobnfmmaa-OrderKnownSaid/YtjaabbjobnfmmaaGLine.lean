/-
  order.Line's memory: its calls, its box, what is done; order.next. order.Line's memory as a whole; order.helps. order.Line's memory behind a call that is done (next), behind a deed of the heap; order.bads. order.Line: the calls are laid (its first loop): the memory, one call more. order.Line: the calls are sorted; the map of the calls of each deed is filled (its second loop): the memory. order.Line's third loop, as functions; plain laws.
-/
import Derived.Test.YtjaabbjobnfmmaaGStab
import Derived.Test.YtjaabbjobnfmmaaSpan
import Derived.Test.YtjaabbjobnfmmaaEntry
import Derived.Deep.RegionHeld3
import Derived.Deep.AppendLies
import Derived.Deep.RegionLaw
import Derived.Test.YtjaabbjobnfmmaaExt
namespace Go.Proofs.Ytjaabbjobnfmmaa
open Go.RowKit

/-- A call as it lies in memory. -/
def callO (x : Sp) (i : Nat) (done : Bool) : Obj := .cells #[.int .i64 x.d.k, .int .i64 x.d.x.c, .int .i64 x.d.x.s, .int .i64 x.d.x.o, .int .i64 x.f, .int .i64 x.t, .int .i64 i, .bool done] 80 (0, 0)

theorem info3 : (Try.prog.info? 3).map (fun i => (i.zero, i.size, i.bytes)) = some (some (.int .i64 0), 1, 8) := by kernel_rfl

theorem cells_new1 (w : World) (a : Value) (t : TypeId) : ∀ j u, [a][j]? = some u → (w.alloc (.cells #[a] t)).cell? ((⟨w.heap.size, 0, none⟩ : Addr).add j) = some u := by
  intro j u hu
  exact World.news_of_block (cs := #[a]) (t := t) (fr := (0, 0)) (alloc_block w _) j u hu

def boxO (v0 v1 v2 ov : Value) : Obj := .cells #[v0, v1, v2, ov] 77 (0, 0)

theorem next_end {pm b : Nat} {v0 v1 v2 ov : Value} {x : Sp} {k : Nat} {dn : Bool} {n B : Nat} {xs ys : List Value} {w w1 wa w2 : World} {gg cap : Nat}
    (HH : Hid (w.heap[pm]? = some (boxO v0 v1 v2 ov) ∧ w.heap[b]? = some (callO x k dn) ∧ w.ownsRow B 3 1 ov n xs ∧ (∀ j, ov.ownBlock = some j → j ≠ pm) ∧ (∀ j, ov.ownBlock = some j → j ≠ b)))
    (HF : Hid (Fr (fun i => i = b) w w1)) (H1 : Hid (w1.heap[pm]? = some (boxO v0 v1 v2 ov) ∧ w1.heap[b]? = some (callO x k true) ∧ w1.ownsRow B 3 1 ov n xs))
    (ha : w1.grownBy wa none) (hg : wa.drew.grownBy w2 ov.ownBlock) (ho : w2.ownsRow B 3 1 (.slice (some ⟨gg, 0, none⟩) (n + 1) cap) (n + 1) ys) (hat : ov.ownBlock = some gg ∨ gg = w1.heap.size + 1) :
    (∃ g c', (w2.setCell ⟨pm, 3, none⟩ (.slice (some ⟨gg, 0, none⟩) (n + 1) cap)).heap[pm]? = some (boxO v0 v1 v2 (.slice (some ⟨g, 0, none⟩) (n + 1) c')) ∧ (w2.setCell ⟨pm, 3, none⟩ (.slice (some ⟨gg, 0, none⟩) (n + 1) cap)).ownsRow B 3 1 (.slice (some ⟨g, 0, none⟩) (n + 1) c') (n + 1) ys) ∧
      (w2.setCell ⟨pm, 3, none⟩ (.slice (some ⟨gg, 0, none⟩) (n + 1) cap)).heap[b]? = some (callO x k true) ∧ Fr (fun i => i = pm ∨ i = b ∨ ov.ownBlock = some i) w (w2.setCell ⟨pm, 3, none⟩ (.slice (some ⟨gg, 0, none⟩) (n + 1) cap)) := by
  obtain ⟨hm, hc, hw, hom, hob⟩ := HH.out
  obtain ⟨hm1, hc1, hw1⟩ := H1.out
  have hne : b ≠ pm := by rintro rfl; rw [hm] at hc; simp [boxO, callO] at hc
  have fa : Fr0 w1 wa := (Fr.of_grown ha).mono (fun i _ h => by simp at h)
  have f2 : Fr (fun i => ov.ownBlock = some i) w1 w2 := fa.drew.mono (fun _ _ h => h.elim) |>.trans (Fr.of_grown hg) (fun i _ h => h.symm)
  have hm2 := f2.at hm1 (fun h => hom _ h rfl)
  have hc2 := f2.at hc1 (fun h => hob _ h rfl)
  have hgm : gg ≠ pm := by
    rcases hat with h | h
    · exact hom _ h
    · have := lt_of_block hm1; omega
  have fs : Fr (fun i => i = pm) w2 (w2.setCell ⟨pm, 3, none⟩ (.slice (some ⟨gg, 0, none⟩) (n + 1) cap)) := Fr.setCell (X := fun i => i = pm) (p := ⟨pm, 3, none⟩) (Fr.refl _ w2) (fun _ => rfl) _
  refine ⟨⟨gg, cap, setCell_block hm2 3 _, own_fr ho fs (fun i hi => ?_)⟩, fs.at hc2 hne, ?_⟩
  · have : gg = i := by simpa [Value.ownBlock] using hi
    rw [← this]; exact hgm
  · refine ((HF.out.mono (fun i _ h => .inr (.inl h))).trans f2 (fun i _ h => .inr (.inr h))).trans fs (fun i _ h => .inl h)

set_option maxRecDepth 100000 in
set_option maxHeartbeats 4000000 in
theorem next_cell (pm b : Nat) (v0 v1 v2 ov : Value) (x : Sp) (k : Nat) (dn : Bool) (n B : Nat) (xs : List Value) (w : World)
    (hm : w.heap[pm]? = some (boxO v0 v1 v2 ov)) (hc : w.heap[b]? = some (callO x k dn)) (hown : w.ownsRow B 3 1 ov n xs) (hB : B ≤ w.heap.size) (hn : n ≤ 100000) :
    Calls Try.prog 58 #[.pointer (some ⟨pm, 0, none⟩), .pointer (some ⟨b, 0, none⟩)] w fun e w' => e = .returned (.tuple #[]) ∧
      (∃ g cap, w'.heap[pm]? = some (boxO v0 v1 v2 (.slice (some ⟨g, 0, none⟩) (n + 1) cap)) ∧ w'.ownsRow B 3 1 (.slice (some ⟨g, 0, none⟩) (n + 1) cap) (n + 1) (xs ++ [.int .i64 k])) ∧
      w'.heap[b]? = some (callO x k true) ∧ Fr (fun i => i = pm ∨ i = b ∨ ov.ownBlock = some i) w w' := by
  obtain ⟨i0, hi0, hz0, hz1, hz2⟩ := info_parts info3
  have hne : b ≠ pm := by rintro rfl; rw [hm] at hc; simp [boxO, callO] at hc
  have hom := own_ne hown hm (by decide)
  have hob := own_ne hown hc (by decide)
  have c0 : w.cell? ⟨b, 7, none⟩ = some (.bool dn) := cell_of_block hc 7
  have f0 : w.frozen? ⟨b, 7, none⟩ = false := free_of_block hc 7
  have hm1 : (w.setCell ⟨b, 7, none⟩ (.bool true)).heap[pm]? = some (boxO v0 v1 v2 ov) := (Below.heap_setCell w _ _ pm (fun e => hne e.symm)).trans hm
  have hc1 : (w.setCell ⟨b, 7, none⟩ (.bool true)).heap[b]? = some (callO x k true) := setCell_block hc 7 _
  have hf1 : Fr (fun i => i = b) w (w.setCell ⟨b, 7, none⟩ (.bool true)) := Fr.setCell (X := fun i => i = b) (p := ⟨b, 7, none⟩) (Fr.refl _ w) (fun _ => rfl) _
  have hw1 := own_fr hown hf1 (fun i hi => hob i hi)
  have HH := hid (And.intro hm (And.intro hc (And.intro hown (And.intro hom hob))))
  have HF := hid hf1
  have HZ := hid (And.intro hi0 (And.intro hz0 (And.intro hz1 hz2)))
  have HB := hid hB
  clear hm hc hown hom hob hi0 hz0 hz1 hz2 hB hf1
  go_enter Try.func58, Try.ntmps58
  go_wp2_with fail
  generalize w.setCell ⟨b, 7, none⟩ (.bool true) = w1 at *
  have cm : w1.cell? ⟨pm, 3, none⟩ = some ov := cell_of_block hm1 3
  have fm : w1.frozen? ⟨pm, 3, none⟩ = false := free_of_block hm1 3
  have cb : w1.cell? ⟨b, 6, none⟩ = some (.int .i64 k) := cell_of_block hc1 6
  have lm := lt_of_block hm1
  have lb := lt_of_block hc1
  have em : ov.ownBlock ≠ some pm := fun e => HH.out.2.2.2.1 pm e rfl
  have eb : ov.ownBlock ≠ some b := fun e => HH.out.2.2.2.2 b e rfl
  have fa : ∀ o, (w1.alloc o).drew.cell? ⟨pm, 3, none⟩ = some ov ∧ (w1.alloc o).drew.cell? ⟨b, 6, none⟩ = some (.int .i64 k) ∧ (w1.alloc o).drew.frozen? ⟨pm, 3, none⟩ = false := fun o =>
    ⟨cell_of_block (((Fr.refl (fun _ => False) w1).alloc o).drew.at hm1 id) 3, cell_of_block (((Fr.refl (fun _ => False) w1).alloc o).drew.at hc1 id) 6, free_of_block (((Fr.refl (fun _ => False) w1).alloc o).drew.at hm1 id) 3⟩
  have H1 := hid (And.intro hm1 (And.intro hc1 hw1))
  clear hm1 hc1 hw1 c0 f0
  go_region_law ((refine step_append_lies _ (by rfl) _ _ _ (by rfl) B 3 i0 _ 1 8 Try.underlying46 HZ.out.1 HZ.out.2.1 HZ.out.2.2.1 HZ.out.2.2.2 rfl (by omega) ov n xs (by simp [Act.eval]) ((H1.out.2.2.alloc _).drew) ⟨w1.heap.size, 0, none⟩ 1 1 [.int .i64 k] (by simp [Act.eval]) (by rfl) (World.news_of_block (cs := #[.int .i64 k]) (t := 3) (fr := (0, 0)) (heap_alloc_new w1 _)) (by simp [Value.oneCell']) (by omega) (by simp only [maxLen]; omega) (by omega) (by have := HB.out; have := HF.out.size; simp only [World.drew, World.alloc, Array.size_push]; omega) (w1.heap.size + 1) (by simp) ?_; intro gg cap w2 hown1 hgrow hat hlt; have cm2 : w2.cell? ⟨pm, 3, none⟩ = some ov := (hgrow.cell_far _ (Nat.lt_of_lt_of_le lm (by simp)) (Ne.symm em)).trans (fa _).1; have fm2 : w2.frozen? ⟨pm, 3, none⟩ = false := (hgrow.frozen_far _ (Nat.lt_of_lt_of_le lm (by simp)) (Ne.symm em)).trans (fa _).2.2))
  all_goals
    go_wp2
    go_end0
    refine ⟨rfl, next_end HH HF H1 (World.grownBy_alloc w1 _ none) hgrow hown1 hat⟩
end Go.Proofs.Ytjaabbjobnfmmaa

namespace Go.Proofs.Ytjaabbjobnfmmaa
open Go.RowKit

/-- A slice of pointers to the calls L. -/
def PSl (w : World) (v : Value) (p : Nat → Nat) (L : List Nat) : Prop := ∃ a cap, v = .slice a L.length cap ∧ (0 < L.length → ∃ g, a = some ⟨g, 0, none⟩ ∧ PRow w g p L)
theorem PSl.fr {X : Nat → Prop} {w w' : World} {v : Value} {p : Nat → Nat} {L : List Nat} (h : PSl w v p L) (hf : Fr X w w') (hx : ∀ g, v.ownBlock = some g → ¬ X g) : PSl w' v p L := by
  obtain ⟨a, cap, rfl, h⟩ := h
  refine ⟨a, cap, rfl, fun hl => ?_⟩
  obtain ⟨g, rfl, hr⟩ := h hl
  exact ⟨g, rfl, hr.fr hf (hx g rfl)⟩
theorem PSl.fr0 {w w' : World} {v : Value} {p : Nat → Nat} {L : List Nat} (h : PSl w v p L) (hf : Fr0 w w') : PSl w' v p L := h.fr hf (fun _ _ h => h)

/-- The calls of a deed, in the order σ. -/
def byL (s : Nat → Sp) (σ : List Nat) (d : Dd) : List Nat := σ.filter fun i => decide ((s i).d = d)

/-- Map bb holds, for each deed, its calls in the order σ. -/
def ByIs (w : World) (bb : Nat) (s : Nat → Sp) (p : Nat → Nat) (σ : List Nat) : Prop :=
  ∃ E : List (Dd × Value), MapIs Try.prog 84 w bb (E.map fun e => (e.1.val, e.2)) ∧ (∀ e ∈ E, PSl w e.2 p (byL s σ e.1)) ∧ ∀ d, (∀ e ∈ E, e.1 ≠ d) → byL s σ d = []
theorem ByIs.fr0 {w w' : World} {bb : Nat} {s : Nat → Sp} {p : Nat → Nat} {σ : List Nat} (h : ByIs w bb s p σ) (hf : Fr0 w w') : ByIs w' bb s p σ := by
  obtain ⟨E, h1, h2, h3⟩ := h
  exact ⟨E, h1.block (hf.block bb h1.lt id), fun e he => (h2 e he).fr0 hf, h3⟩

theorem key_one {kv : List (Value × Value)} (h : kv.Pairwise (fun p q => p.1 ≠ q.1)) {k v v' : Value} (h1 : (k, v) ∈ kv) (h2 : (k, v') ∈ kv) : v = v' := by
  induction kv with
  | nil => cases h1
  | cons a l ih =>
    rw [List.pairwise_cons] at h
    rcases List.mem_cons.1 h1 with e1 | e1 <;> rcases List.mem_cons.1 h2 with e2 | e2
    · rw [← e1] at e2; exact (Prod.mk.inj e2).2.symm
    · exact absurd (by rw [← e1]) (h.1 _ e2)
    · exact absurd (by rw [← e2]) (h.1 _ e1)
    · exact ih h.2 e1 e2

theorem ByIs.look {w : World} {bb : Nat} {s : Nat → Sp} {p : Nat → Nat} {σ : List Nat} (h : ByIs w bb s p σ) (d : Dd) (hd : d.wf) :
    ∃ v, PSl w v p (byL s σ d) ∧ ∀ W, Fr0 w W → (Instr.lookup 74 (.map (some bb)) d.val false).run Try.prog W = .ok v W := by
  obtain ⟨E, h1, h2, h3⟩ := h
  obtain ⟨kl, hkl⟩ := keyOf84 d hd
  rcases h1.look false law84 Try.underlying74 (zero75 w) hkl with ⟨_, hno⟩ | ⟨v, hv, _⟩
  · refine ⟨.slice none 0 0, ⟨none, 0, ?_, ?_⟩, fun W hW => ?_⟩
    · rw [h3 d (fun e he hed => hno _ (List.mem_map.2 ⟨e, he, rfl⟩) (by rw [hed]))]; rfl
    · rw [h3 d (fun e he hed => hno _ (List.mem_map.2 ⟨e, he, rfl⟩) (by rw [hed]))]; intro h; simp at h
    · rcases (h1.block (hW.block bb h1.lt id)).look false law84 Try.underlying74 (zero75 W) hkl with ⟨hr, _⟩ | ⟨v, hv, _⟩
      · simpa using hr
      · exact absurd rfl (hno _ hv)
  · refine ⟨v, ?_, fun W hW => ?_⟩
    · obtain ⟨e, he, hee⟩ := List.mem_map.1 hv
      have e1 := Dd.val_inj (Prod.mk.inj hee).1
      have e2 := (Prod.mk.inj hee).2
      have := h2 e he
      rw [e1, e2] at this
      exact this
    · rcases (h1.block (hW.block bb h1.lt id)).look false law84 Try.underlying74 (zero75 W) hkl with ⟨_, hno⟩ | ⟨v', hv', hr⟩
      · exact absurd rfl (hno _ hv)
      · rw [key_one h1.apart hv hv']; simpa using hr

/-- Line's memory while it orders: the box pm, the heap (hp, hb) with T out, the calls, the map bb, what is done so far. -/
structure LineAt (w0 w : World) (pm hp hb bb : Nat) (s : Nat → Sp) (p : Nat → Nat) (n : Nat) (σ : List Nat) (cs : Value) (out : List Nat) (T : List Ob) : Prop where
  fr : Fr0 w0 w
  box : ∃ ov, w.heap[pm]? = some (boxO (.pointer (some ⟨hp, 0, none⟩)) cs (.map (some bb)) ov) ∧ w.ownsRow w0.heap.size 3 1 ov out.length (out.map fun i : Nat => Value.int .i64 i)
  heap : HeapIs w hp hb T
  calls : ∀ i, i < n → w.heap[p i]? = some (callO (s i) i (decide (i ∈ out)))
  inj : ∀ i j, i < n → j < n → p i = p j → i = j
  by_ : ByIs w bb s p σ
  row : PSl w cs p σ
  bpm : w0.heap.size ≤ pm
  bhb : w0.heap.size ≤ hb
  bp : ∀ i, i < n → w0.heap.size ≤ p i
  sn : ∀ i ∈ σ, i < n
  wf : ∀ i, i < n → (s i).wf
  nbb : hb ≠ bb
  nd : σ.Nodup

section
variable {w0 w w' : World} {pm hp hb bb : Nat} {s : Nat → Sp} {p : Nat → Nat} {n : Nat} {σ : List Nat} {cs : Value} {out : List Nat} {T : List Ob}
theorem LineAt.fr0 (h : LineAt w0 w pm hp hb bb s p n σ cs out T) (hf : Fr0 w w') : LineAt w0 w' pm hp hb bb s p n σ cs out T := by
  obtain ⟨ov, b1, b2⟩ := h.box
  exact ⟨h.fr.trans0 hf, ⟨ov, hf.at b1 id, own_fr0 b2 hf⟩, h.heap.fr0 hf, fun i hi => hf.at (h.calls i hi) id, h.inj, h.by_.fr0 hf, h.row.fr0 hf, h.bpm, h.bhb, h.bp, h.sn, h.wf, h.nbb, h.nd⟩
theorem LineAt.cell0 (h : LineAt w0 w pm hp hb bb s p n σ cs out T) : w.cell? ⟨pm, 0, none⟩ = some (.pointer (some ⟨hp, 0, none⟩)) := by
  obtain ⟨ov, b1, _⟩ := h.box
  exact cell_of_block b1 0
theorem LineAt.cell1 (h : LineAt w0 w pm hp hb bb s p n σ cs out T) : w.cell? ⟨pm, 1, none⟩ = some cs := by
  obtain ⟨ov, b1, _⟩ := h.box
  exact cell_of_block b1 1
theorem LineAt.cell2 (h : LineAt w0 w pm hp hb bb s p n σ cs out T) : w.cell? ⟨pm, 2, none⟩ = some (.map (some bb)) := by
  obtain ⟨ov, b1, _⟩ := h.box
  exact cell_of_block b1 2
theorem LineAt.callc (h : LineAt w0 w pm hp hb bb s p n σ cs out T) (i : Nat) (hi : i < n) :
    w.cell? ⟨p i, 0, none⟩ = some (.int .i64 (s i).d.k) ∧ w.cell? ⟨p i, 1, none⟩ = some (.int .i64 (s i).d.x.c) ∧ w.cell? ⟨p i, 2, none⟩ = some (.int .i64 (s i).d.x.s) ∧ w.cell? ⟨p i, 3, none⟩ = some (.int .i64 (s i).d.x.o) ∧
    w.cell? ⟨p i, 4, none⟩ = some (.int .i64 (s i).f) ∧ w.cell? ⟨p i, 5, none⟩ = some (.int .i64 (s i).t) ∧ w.cell? ⟨p i, 7, none⟩ = some (.bool (decide (i ∈ out))) :=
  have h0 := h.calls i hi
  ⟨cell_of_block h0 0, cell_of_block h0 1, cell_of_block h0 2, cell_of_block h0 3, cell_of_block h0 4, cell_of_block h0 5, cell_of_block h0 7⟩
theorem byL_mem {i : Nat} {d : Dd} : i ∈ byL s σ d ↔ i ∈ σ ∧ (s i).d = d := by simp [byL]
end

/-- A call that may help. -/
def fitB (s : Nat → Sp) (out : List Nat) (c i : Nat) : Bool := !decide (i ∈ out) && decide ((s i).f ≤ (s c).t)
def helpK (s : Nat → Sp) (T : List Ob) (c : Nat) : Dd := ⟨if (s c).d.x ∈ T then 3 else 1, (s c).d.x⟩
/-- What helps answers. -/
def helpI (s : Nat → Sp) (σ : List Nat) (out : List Nat) (T : List Ob) (c : Nat) : Option Nat := (byL s σ (helpK s T c)).find? (fitB s out c)
def optP (p : Nat → Nat) : Option Nat → Value
  | some i => pv p i
  | none => .pointer none

theorem find_skip {α : Type} (L : List α) (f : α → Bool) (k : Nat) (hk : k < L.length) (h : f L[k] = false) : (L.drop k).find? f = (L.drop (k + 1)).find? f := by
  rw [List.drop_eq_getElem_cons hk, List.find?_cons_of_neg (by simp [h])]
theorem find_hit {α : Type} (L : List α) (f : α → Bool) (k : Nat) (hk : k < L.length) (h : f L[k] = true) : (L.drop k).find? f = some L[k] := by
  rw [List.drop_eq_getElem_cons hk, List.find?_cons_of_pos h]

/-- A fact that stays behind new blocks and draws. -/
theorem ext_of {w : World} {φ : World → Prop} (h : ∀ W, Fr0 w W → φ W) : ∀ q : Ext w, φ q.out := fun q => h q.out q.fr


set_option maxRecDepth 100000 in
set_option maxHeartbeats 4000000 in
theorem helps_any (w0 w : World) (pm hp hb bb : Nat) (s : Nat → Sp) (p : Nat → Nat) (n : Nat) (σ : List Nat) (cs : Value) (out : List Nat) (T : List Ob) (h : LineAt w0 w pm hp hb bb s p n σ cs out T) (hσ : σ.length ≤ 100000) (c : Nat) (hc : c < n) :
    Calls Try.prog 56 #[.pointer (some ⟨pm, 0, none⟩), .pointer (some ⟨p c, 0, none⟩)] w fun e w' => e = .returned (optP p (helpI s σ out T c)) ∧ Fr0 w w' := by
  unfold helpI helpK
  have hwf := h.wf c hc
  have H := hid h
  have HC := hid hc
  obtain ⟨a0, a1, a2, a3, a4, a5, a7⟩ := h.callc c hc
  clear a0 a4 a7 a5
  have HA := hid (alloc_block w (.cells #[.int .i64 1, .int .i64 (s c).d.x.c, .int .i64 (s c).d.x.s, .int .i64 (s c).d.x.o] 84))
  have HF := hid (fr0_alloc w (.cells #[.int .i64 1, .int .i64 (s c).d.x.c, .int .i64 (s c).d.x.s, .int .i64 (s c).d.x.o] 84))
  by_cases hT : (s c).d.x ∈ T
  · rw [if_pos hT]
    have hdd : (Dd.mk 3 (s c).d.x).wf := ⟨show (Lit.int .i64 3).wf = true by decide, hwf.1.2⟩
    have HL := hid (h.by_.look ⟨3, (s c).d.x⟩ hdd)
    have hLl : (byL s σ ⟨3, (s c).d.x⟩).length ≤ 100000 := Nat.le_trans (List.length_filter_le _ _) hσ
    have hLn : Hid (∀ i ∈ byL s σ ⟨3, (s c).d.x⟩, i < n) := hid (fun i hi => H.out.sn i (byL_mem.1 hi).1)
    generalize byL s σ ⟨3, (s c).d.x⟩ = L at HL hLn hLl ⊢
    have HT := hid (decide_eq_true hT)
    have HW := hid hwf.1.2
    clear h hwf hdd hT
    go_enter Try.func56, Try.ntmps56
    go_wp2_with fail
    clear a1 a2 a3
    generalize w.alloc _ = wa at HA HF ⊢
    generalize hkb : w.heap.size = kb at HA ⊢
    have HKB := hid hkb
    clear hkb
    have HH := hid (H.out.fr0 HF.out)
    have HQ : Hid (∀ q : Ext wa, Calls Try.prog 24 #[.pointer (some ⟨hp, 0, none⟩), .agg #[.int .i64 (s c).d.x.c, .int .i64 (s c).d.x.s, .int .i64 (s c).d.x.o]] q.out fun e w' => e = .returned (.bool true) ∧ Fr0 q.out w') := hid (fun q => by
      have := has_any hp hb T (s c).d.x HW.out q.out (HH.out.heap.fr0 q.fr)
      rw [HT.out] at this; exact this)
    have e1 : ∀ q : Ext wa, q.out.cell? ⟨pm, 0, none⟩ = some (.pointer (some ⟨hp, 0, none⟩)) := fun q => (HH.out.fr0 q.fr).cell0
    have e2 : ∀ q : Ext wa, q.out.cell? ⟨p c, 1, none⟩ = some (.int .i64 (s c).d.x.c) := fun q => ((HH.out.fr0 q.fr).callc c HC.out).2.1
    have e3 : ∀ q : Ext wa, q.out.cell? ⟨p c, 2, none⟩ = some (.int .i64 (s c).d.x.s) := fun q => ((HH.out.fr0 q.fr).callc c HC.out).2.2.1
    have e4 : ∀ q : Ext wa, q.out.cell? ⟨p c, 3, none⟩ = some (.int .i64 (s c).d.x.o) := fun q => ((HH.out.fr0 q.fr).callc c HC.out).2.2.2.1
    refine wp_region_ext (by kernel_rfl) (by kernel_rfl) ?_
    repeat (refine wpQuiet_step (fun K hK => ?_); go_simp; first | (refine hK _ ?_; clear hK K) | (apply Exists.intro; refine ⟨fun _ => ?_, hK _ ?_⟩; (go_at_call 24; refine calls_ext (HQ.out _)); clear hK K))
    refine wpQuiet_nil ?_
    intro _ hw'
    obtain ⟨q, hw''⟩ := hw'
    subst hw''
    have hW1 := q.fr
    generalize q.out = W1 at hW1 ⊢
    clear q e1 e2 e3 e4 HQ
    have k0 : W1.cell? ⟨kb, 0, none⟩ = some (.int .i64 1) := cell_of_block (hW1.at HA.out id) 0
    have k1 : W1.frozen? ⟨kb, 0, none⟩ = false := free_of_block (hW1.at HA.out id) 0
    go_wp2_with fail
    clear k0 k1
    have hF2 : Fr0 w (W1.setCell ⟨kb, 0, none⟩ (.int .i64 3)) := Fr.setCell (X := fun _ => False) (p := ⟨kb, 0, none⟩) (HF.out.trans0 hW1) (fun hb => by have := HKB.out; simp at hb; omega) _
    have hK2 : (W1.setCell ⟨kb, 0, none⟩ (.int .i64 3)).heap[kb]? = some (.cells #[.int .i64 3, .int .i64 (s c).d.x.c, .int .i64 (s c).d.x.s, .int .i64 (s c).d.x.o] 84 (0, 0)) := setCell_block (hW1.at HA.out id) 0 _
    generalize W1.setCell ⟨kb, 0, none⟩ (.int .i64 3) = W2 at hF2 hK2 ⊢
    clear hW1 HH
    have HH2 := hid (H.out.fr0 hF2)
    obtain ⟨v, hv, hl⟩ := HL.out
    obtain ⟨a, cap, hva, hrow⟩ := hv
    subst hva
    have e1 : ∀ q : Ext W2, q.out.cell? ⟨pm, 2, none⟩ = some (.map (some bb)) := fun q => (HH2.out.fr0 q.fr).cell2
    have e2 : ∀ q : Ext W2, q.out.cell? ⟨kb, 0, none⟩ = some (.int .i64 3) := fun q => cell_of_block (q.fr.at hK2 id) 0
    have e3 : ∀ q : Ext W2, q.out.cell? ⟨kb, 1, none⟩ = some (.int .i64 (s c).d.x.c) := fun q => cell_of_block (q.fr.at hK2 id) 1
    have e4 : ∀ q : Ext W2, q.out.cell? ⟨kb, 2, none⟩ = some (.int .i64 (s c).d.x.s) := fun q => cell_of_block (q.fr.at hK2 id) 2
    have e5 : ∀ q : Ext W2, q.out.cell? ⟨kb, 3, none⟩ = some (.int .i64 (s c).d.x.o) := fun q => cell_of_block (q.fr.at hK2 id) 3
    have e6 : ∀ q : Ext W2, (Instr.lookup 74 (.map (some bb)) (.agg #[.int .i64 3, .int .i64 (s c).d.x.c, .int .i64 (s c).d.x.s, .int .i64 (s c).d.x.o]) false).run Try.prog q.out = .ok (.slice a L.length cap) q.out := fun q => hl _ (hF2.trans0 q.fr)
    have HROW := hid hrow
    clear hK2 hl HL hrow
    refine wp_region_ext (by kernel_rfl) (by kernel_rfl) ?_
    repeat (refine wpQuiet_step (fun K hK => ?_); go_simp; (refine hK _ ?_; clear hK K))
    refine wpQuiet_nil ?_
    intro _ hw'
    obtain ⟨q, hw''⟩ := hw'
    subst hw''
    have hW3 := hid (hF2.trans0 q.fr)
    generalize q.out = W3 at hW3 ⊢
    clear q e1 e2 e3 e4 e5 e6 hF2 HH2 HA HF HKB HW HT
    go_wp2_with fail
    go_loopw [34] (fun i wr => ∃ k : Nat, i = .int .i64 k ∧ k ≤ L.length ∧ Hid (Fr0 w wr ∧ L.find? (fitB s out c) = (L.drop k).find? (fitB s out c))) (fun i _ => L.length - (intOf i).toNat)
    case atStart => exact ⟨0, rfl, Nat.zero_le _, hid ⟨hW3.out, by simp⟩⟩
    case round =>
      obtain ⟨k, rfl, hk, hR⟩ := hrel
      clear hW3
      by_cases hlt : k < L.length
      · obtain ⟨g, hag, hr⟩ := HROW.out (by omega)
        subst hag
        have hix := fun W => index75 g L.length cap k hlt W
        have hce := (hr.fr hR.out.1 id).cell k hlt
        have hxn := hLn.out _ (List.getElem_mem hlt)
        have hs := find_skip L (fitB s out c) k hlt
        have hh := find_hit L (fitB s out c) k hlt
        generalize L[k] = x at hce hxn hs hh
        obtain ⟨-, -, -, -, b4, -, b7⟩ := (H.out.fr0 hR.out.1).callc x hxn
        have b5 := ((H.out.fr0 hR.out.1).callc c HC.out).2.2.2.2.2.1
        have HS := hid hs
        have HHt := hid hh
        simp only [pv] at hce
        clear hs hh hr hxn
        cases hd : decide (x ∈ out) with
        | true =>
          rw [hd] at b7
          have hf0 := hid (show fitB s out c x = false by simp [fitB, hd])
          clear hd
          go_wp2
          go_quiet (fail)
          go_wp2
          go_roundw
          case rel => exact ⟨k + 1, by go_num, by omega, hid ⟨hR.out.1.drewN _, hR.out.2.trans (HS.out hf0.out)⟩⟩
          case measure => simp [intOf]; omega
        | false =>
          rw [hd] at b7
          cases hft : decide ((s x).f ≤ (s c).t) with
          | true =>
            have hf0 := hid (show fitB s out c x = true by simp only [fitB, hd, hft]; rfl)
            clear hd
            go_wp2
            go_quiet (fail)
            go_wp2
            go_ret
            exact ⟨by rw [hR.out.2, HHt.out hf0.out]; rfl, hR.out.1.drewN _⟩
          | false =>
            have hf0 := hid (show fitB s out c x = false by simp only [fitB, hd, hft]; rfl)
            clear hd
            go_wp2
            go_quiet (fail)
            go_wp2
            go_roundw
            case rel => exact ⟨k + 1, by go_num, by omega, hid ⟨hR.out.1.drewN _, hR.out.2.trans (HS.out hf0.out)⟩⟩
            case measure => simp [intOf]; omega
      · have hkl : k = L.length := by omega
        subst hkl
        go_wp2
        go_ret
        exact ⟨by rw [hR.out.2]; simp [optP], hR.out.1⟩
  · rw [if_neg hT]
    have hdd : (Dd.mk 1 (s c).d.x).wf := ⟨show (Lit.int .i64 1).wf = true by decide, hwf.1.2⟩
    have HL := hid (h.by_.look ⟨1, (s c).d.x⟩ hdd)
    have hLl : (byL s σ ⟨1, (s c).d.x⟩).length ≤ 100000 := Nat.le_trans (List.length_filter_le _ _) hσ
    have hLn : Hid (∀ i ∈ byL s σ ⟨1, (s c).d.x⟩, i < n) := hid (fun i hi => H.out.sn i (byL_mem.1 hi).1)
    generalize byL s σ ⟨1, (s c).d.x⟩ = L at HL hLn hLl ⊢
    have HT := hid (decide_eq_false hT)
    have HW := hid hwf.1.2
    clear h hwf hdd hT
    go_enter Try.func56, Try.ntmps56
    go_wp2_with fail
    clear a1 a2 a3
    generalize w.alloc _ = wa at HA HF ⊢
    generalize hkb : w.heap.size = kb at HA ⊢
    have HKB := hid hkb
    clear hkb
    have HH := hid (H.out.fr0 HF.out)
    have HQ : Hid (∀ q : Ext wa, Calls Try.prog 24 #[.pointer (some ⟨hp, 0, none⟩), .agg #[.int .i64 (s c).d.x.c, .int .i64 (s c).d.x.s, .int .i64 (s c).d.x.o]] q.out fun e w' => e = .returned (.bool false) ∧ Fr0 q.out w') := hid (fun q => by
      have := has_any hp hb T (s c).d.x HW.out q.out (HH.out.heap.fr0 q.fr)
      rw [HT.out] at this; exact this)
    have e1 : ∀ q : Ext wa, q.out.cell? ⟨pm, 0, none⟩ = some (.pointer (some ⟨hp, 0, none⟩)) := fun q => (HH.out.fr0 q.fr).cell0
    have e2 : ∀ q : Ext wa, q.out.cell? ⟨p c, 1, none⟩ = some (.int .i64 (s c).d.x.c) := fun q => ((HH.out.fr0 q.fr).callc c HC.out).2.1
    have e3 : ∀ q : Ext wa, q.out.cell? ⟨p c, 2, none⟩ = some (.int .i64 (s c).d.x.s) := fun q => ((HH.out.fr0 q.fr).callc c HC.out).2.2.1
    have e4 : ∀ q : Ext wa, q.out.cell? ⟨p c, 3, none⟩ = some (.int .i64 (s c).d.x.o) := fun q => ((HH.out.fr0 q.fr).callc c HC.out).2.2.2.1
    refine wp_region_ext (by kernel_rfl) (by kernel_rfl) ?_
    repeat (refine wpQuiet_step (fun K hK => ?_); go_simp; first | (refine hK _ ?_; clear hK K) | (apply Exists.intro; refine ⟨fun _ => ?_, hK _ ?_⟩; (go_at_call 24; refine calls_ext (HQ.out _)); clear hK K))
    refine wpQuiet_nil ?_
    intro _ hw'
    obtain ⟨q, hw''⟩ := hw'
    subst hw''
    have hW1 := q.fr
    generalize q.out = W1 at hW1 ⊢
    clear q e1 e2 e3 e4 HQ
    have k0 : W1.cell? ⟨kb, 0, none⟩ = some (.int .i64 1) := cell_of_block (hW1.at HA.out id) 0
    have k1 : W1.frozen? ⟨kb, 0, none⟩ = false := free_of_block (hW1.at HA.out id) 0
    go_wp2_with fail
    clear k0 k1
    have hF2 : Fr0 w W1 := HF.out.trans0 hW1
    have hK2 := hW1.at HA.out id
    generalize W1 = W2 at hF2 hK2 ⊢
    clear HH
    have HH2 := hid (H.out.fr0 hF2)
    obtain ⟨v, hv, hl⟩ := HL.out
    obtain ⟨a, cap, hva, hrow⟩ := hv
    subst hva
    have e1 : ∀ q : Ext W2, q.out.cell? ⟨pm, 2, none⟩ = some (.map (some bb)) := fun q => (HH2.out.fr0 q.fr).cell2
    have e2 : ∀ q : Ext W2, q.out.cell? ⟨kb, 0, none⟩ = some (.int .i64 1) := fun q => cell_of_block (q.fr.at hK2 id) 0
    have e3 : ∀ q : Ext W2, q.out.cell? ⟨kb, 1, none⟩ = some (.int .i64 (s c).d.x.c) := fun q => cell_of_block (q.fr.at hK2 id) 1
    have e4 : ∀ q : Ext W2, q.out.cell? ⟨kb, 2, none⟩ = some (.int .i64 (s c).d.x.s) := fun q => cell_of_block (q.fr.at hK2 id) 2
    have e5 : ∀ q : Ext W2, q.out.cell? ⟨kb, 3, none⟩ = some (.int .i64 (s c).d.x.o) := fun q => cell_of_block (q.fr.at hK2 id) 3
    have e6 : ∀ q : Ext W2, (Instr.lookup 74 (.map (some bb)) (.agg #[.int .i64 1, .int .i64 (s c).d.x.c, .int .i64 (s c).d.x.s, .int .i64 (s c).d.x.o]) false).run Try.prog q.out = .ok (.slice a L.length cap) q.out := fun q => hl _ (hF2.trans0 q.fr)
    have HROW := hid hrow
    clear hK2 hl HL hrow
    refine wp_region_ext (by kernel_rfl) (by kernel_rfl) ?_
    repeat (refine wpQuiet_step (fun K hK => ?_); go_simp; (refine hK _ ?_; clear hK K))
    refine wpQuiet_nil ?_
    intro _ hw'
    obtain ⟨q, hw''⟩ := hw'
    subst hw''
    have hW3 := hid (hF2.trans0 q.fr)
    generalize q.out = W3 at hW3 ⊢
    clear q e1 e2 e3 e4 e5 e6 hF2 HH2 HA HF HKB HW HT
    go_wp2_with fail
    go_loopw [34] (fun i wr => ∃ k : Nat, i = .int .i64 k ∧ k ≤ L.length ∧ Hid (Fr0 w wr ∧ L.find? (fitB s out c) = (L.drop k).find? (fitB s out c))) (fun i _ => L.length - (intOf i).toNat)
    case atStart => exact ⟨0, rfl, Nat.zero_le _, hid ⟨hW3.out, by simp⟩⟩
    case round =>
      obtain ⟨k, rfl, hk, hR⟩ := hrel
      clear hW3
      by_cases hlt : k < L.length
      · obtain ⟨g, hag, hr⟩ := HROW.out (by omega)
        subst hag
        have hix := fun W => index75 g L.length cap k hlt W
        have hce := (hr.fr hR.out.1 id).cell k hlt
        have hxn := hLn.out _ (List.getElem_mem hlt)
        have hs := find_skip L (fitB s out c) k hlt
        have hh := find_hit L (fitB s out c) k hlt
        generalize L[k] = x at hce hxn hs hh
        obtain ⟨-, -, -, -, b4, -, b7⟩ := (H.out.fr0 hR.out.1).callc x hxn
        have b5 := ((H.out.fr0 hR.out.1).callc c HC.out).2.2.2.2.2.1
        have HS := hid hs
        have HHt := hid hh
        simp only [pv] at hce
        clear hs hh hr hxn
        cases hd : decide (x ∈ out) with
        | true =>
          rw [hd] at b7
          have hf0 := hid (show fitB s out c x = false by simp [fitB, hd])
          clear hd
          go_wp2
          go_quiet (fail)
          go_wp2
          go_roundw
          case rel => exact ⟨k + 1, by go_num, by omega, hid ⟨hR.out.1.drewN _, hR.out.2.trans (HS.out hf0.out)⟩⟩
          case measure => simp [intOf]; omega
        | false =>
          rw [hd] at b7
          cases hft : decide ((s x).f ≤ (s c).t) with
          | true =>
            have hf0 := hid (show fitB s out c x = true by simp only [fitB, hd, hft]; rfl)
            clear hd
            go_wp2
            go_quiet (fail)
            go_wp2
            go_ret
            exact ⟨by rw [hR.out.2, HHt.out hf0.out]; rfl, hR.out.1.drewN _⟩
          | false =>
            have hf0 := hid (show fitB s out c x = false by simp only [fitB, hd, hft]; rfl)
            clear hd
            go_wp2
            go_quiet (fail)
            go_wp2
            go_roundw
            case rel => exact ⟨k + 1, by go_num, by omega, hid ⟨hR.out.1.drewN _, hR.out.2.trans (HS.out hf0.out)⟩⟩
            case measure => simp [intOf]; omega
      · have hkl : k = L.length := by omega
        subst hkl
        go_wp2
        go_ret
        exact ⟨by rw [hR.out.2]; simp [optP], hR.out.1⟩
end Go.Proofs.Ytjaabbjobnfmmaa

namespace Go.Proofs.Ytjaabbjobnfmmaa
open Go.RowKit

section
variable {w0 w w' : World} {pm hp hb bb : Nat} {s : Nat → Sp} {p : Nat → Nat} {n : Nat} {σ : List Nat} {cs : Value} {out : List Nat} {T : List Ob} {X : Nat → Prop}

theorem PSl.frT {v : Value} {L : List Nat} (h : PSl w v p L) (hf : Fr X w w') (hx : ∀ (g : Nat) (cur : Array Value), w.heap[g]? = some (.cells cur 78 (0, 0)) → ¬ X g) : PSl w' v p L := by
  obtain ⟨a, cap, rfl, h⟩ := h
  refine ⟨a, cap, rfl, fun hl => ?_⟩
  obtain ⟨g, rfl, hr⟩ := h hl
  obtain ⟨cur, hc, _⟩ := id hr
  exact ⟨g, rfl, hr.fr hf (hx g cur hc)⟩
theorem ByIs.frT (h : ByIs w bb s p σ) (hf : Fr X w w') (hb : ¬ X bb) (hx : ∀ (g : Nat) (cur : Array Value), w.heap[g]? = some (.cells cur 78 (0, 0)) → ¬ X g) : ByIs w' bb s p σ := by
  obtain ⟨E, h1, h2, h3⟩ := h
  exact ⟨E, h1.block (hf.block bb h1.lt hb), fun e he => (h2 e he).frT hf hx, h3⟩

/-- A deed of the heap. -/
theorem LineAt.deed (h : LineAt w0 w pm hp hb bb s p n σ cs out T) {T' : List Ob} (hf : Fr (fun i => i = hb) w w') (hT : HeapIs w' hp hb T') : LineAt w0 w' pm hp hb bb s p n σ cs out T' := by
  obtain ⟨ov, b1, b2⟩ := h.box
  obtain ⟨es, clock, hm, _⟩ := h.heap.2.1.1
  have hcell : ∀ (g : Nat) (cur : Array Value) (t : TypeId) (f : Nat × Nat), w.heap[g]? = some (.cells cur t f) → g ≠ hb := by
    rintro g cur t f hg rfl
    rw [hm] at hg; cases hg
  exact ⟨h.fr.trans hf (fun i hi e => by have := h.bhb; omega), ⟨ov, hf.at b1 (hcell _ _ _ _ b1), own_fr b2 hf (own_ne_map b2 hm)⟩, hT,
    fun i hi => hf.at (h.calls i hi) (hcell _ _ _ _ (h.calls i hi)), h.inj, h.by_.frT hf (fun e => h.nbb e.symm) (fun g cur hg => hcell _ _ _ _ hg), h.row.frT hf (fun g cur hg => hcell _ _ _ _ hg),
    h.bpm, h.bhb, h.bp, h.sn, h.wf, h.nbb, h.nd⟩

/-- next. -/
theorem next_any (h : LineAt w0 w pm hp hb bb s p n σ cs out T) (i : Nat) (hi : i < n) (hn : out.length ≤ 100000) :
    Calls Try.prog 58 #[.pointer (some ⟨pm, 0, none⟩), .pointer (some ⟨p i, 0, none⟩)] w fun e w' => e = .returned (.tuple #[]) ∧ LineAt w0 w' pm hp hb bb s p n σ cs (out ++ [i]) T ∧ ∀ v L, PSl w v p L → PSl w' v p L := by
  obtain ⟨ov, b1, b2⟩ := h.box
  refine (next_cell pm (p i) _ _ _ ov (s i) i _ out.length w0.heap.size _ w b1 (h.calls i hi) b2 h.fr.size hn).mono ?_
  rintro e w' ⟨he, ⟨g, cap, c1, c2⟩, c3, hf⟩
  refine ⟨he, ?_⟩
  have hown : ∀ j, ov.ownBlock = some j → w0.heap.size ≤ j := fun j hj => (b2.lt j hj).1
  have hcell : ∀ (k : Nat) (cur : Array Value) (t : TypeId) (f : Nat × Nat), w.heap[k]? = some (.cells cur t f) → t ≠ 77 → t ≠ 80 → t ≠ 3 → ¬ (k = pm ∨ k = p i ∨ ov.ownBlock = some k) := by
    rintro k cur t f hk h1 h2 h3 (rfl | rfl | e)
    · rw [b1] at hk; simp [boxO] at hk; exact h1 hk.2.1.symm
    · rw [h.calls i hi] at hk; simp [callO] at hk; exact h2 hk.2.1.symm
    · exact own_ne b2 hk (fun e => h3 e.symm) k e rfl
  have hmap : ∀ (k : Nat) (es : Array MapEntry) (c : Nat), w.heap[k]? = some (.map es c) → ¬ (k = pm ∨ k = p i ∨ ov.ownBlock = some k) := by
    rintro k es c hk (rfl | rfl | e)
    · rw [b1] at hk; simp [boxO] at hk
    · rw [h.calls i hi] at hk; simp [callO] at hk
    · exact own_ne_map b2 hk k e rfl
  obtain ⟨es, clock, hm, _⟩ := h.heap.2.1.1
  obtain ⟨E, hE, _⟩ := id h.by_
  obtain ⟨es2, clock2, hm2, _⟩ := hE
  refine ⟨⟨h.fr.trans hf (fun k hk e => ?_), ⟨.slice (some ⟨g, 0, none⟩) (out.length + 1) cap, c1, by simpa using c2⟩, h.heap.fr hf (hcell _ _ _ _ h.heap.1 (by decide) (by decide) (by decide)) (hmap _ _ _ hm),
    fun j hj => ?_, h.inj, h.by_.frT hf (hmap _ _ _ hm2) (fun g cur hg => hcell _ _ _ _ hg (by decide) (by decide) (by decide)), h.row.frT hf (fun g cur hg => hcell _ _ _ _ hg (by decide) (by decide) (by decide)),
    h.bpm, h.bhb, h.bp, h.sn, h.wf, h.nbb, h.nd⟩, fun v L hv => hv.frT hf (fun g cur hg => hcell _ _ _ _ hg (by decide) (by decide) (by decide))⟩
  · rcases e with rfl | rfl | e
    · have := h.bpm; omega
    · have := h.bp i hi; omega
    · have := hown k e; omega
  · by_cases hji : j = i
    · subst hji
      simpa using c3
    · have hnx : ¬ (p j = pm ∨ p j = p i ∨ ov.ownBlock = some (p j)) := by
        rintro (e | e | e)
        · have := h.calls j hj; rw [e, b1] at this; simp [boxO, callO] at this
        · exact hji (h.inj j i hj hi e)
        · exact own_ne b2 (h.calls j hj) (by decide) _ e rfl
      have := hf.at (h.calls j hj) hnx
      rw [this]
      simp [hji]
end

/-- A bad call that must be done ahead of an object's being given out. -/
def badB (s : Nat → Sp) (out : List Nat) (c i : Nat) : Bool := (!decide (i ∈ out) && decide (0 ≤ (s i).t)) && decide ((s i).f ≤ (s c).t)
def badI (s : Nat → Sp) (σ : List Nat) (out : List Nat) (c : Nat) : List Nat := (byL s σ ⟨4, (s c).d.x⟩).filter (badB s out c)

theorem filt_skip {α : Type} (L : List α) (f : α → Bool) (k : Nat) (hk : k < L.length) (h : f L[k] = false) : (L.take (k + 1)).filter f = (L.take k).filter f := by
  rw [take_snoc' L k hk, List.filter_append]; simp [h]
theorem filt_hit {α : Type} (L : List α) (f : α → Bool) (k : Nat) (hk : k < L.length) (h : f L[k] = true) : (L.take (k + 1)).filter f = (L.take k).filter f ++ [L[k]] := by
  rw [take_snoc' L k hk, List.filter_append]; simp [h]
theorem not_in_take {L : List Nat} (h : L.Nodup) (k : Nat) (hk : k < L.length) : L[k] ∉ L.take k := by
  have : (L.take (k + 1)).Nodup := h.sublist (List.take_sublist _ _)
  rw [take_snoc' L k hk, List.nodup_append] at this
  intro hm
  exact this.2.2 _ hm _ (List.mem_singleton.2 rfl) rfl

set_option maxRecDepth 100000 in
set_option maxHeartbeats 4000000 in
theorem bads_any (w0 w : World) (pm hp hb bb : Nat) (s : Nat → Sp) (p : Nat → Nat) (n : Nat) (σ : List Nat) (cs : Value) (out : List Nat) (T : List Ob) (h : LineAt w0 w pm hp hb bb s p n σ cs out T) (hσ : σ.length ≤ 1000) (ho : out.length ≤ 1000) (c : Nat) (hc : c < n) :
    Calls Try.prog 57 #[.pointer (some ⟨pm, 0, none⟩), .pointer (some ⟨p c, 0, none⟩)] w fun e w' => e = .returned (.tuple #[]) ∧ LineAt w0 w' pm hp hb bb s p n σ cs (out ++ badI s σ out c) T := by
  unfold badI
  have hwf := h.wf c hc
  have H := hid h
  have HC := hid hc
  have HO := hid ho
  have hdd : (Dd.mk 4 (s c).d.x).wf := ⟨show (Lit.int .i64 4).wf = true by decide, hwf.1.2⟩
  obtain ⟨v, hv, hl⟩ := h.by_.look ⟨4, (s c).d.x⟩ hdd
  have hLl : (byL s σ ⟨4, (s c).d.x⟩).length ≤ 1000 := Nat.le_trans (List.length_filter_le _ _) hσ
  have hLn : Hid (∀ i ∈ byL s σ ⟨4, (s c).d.x⟩, i < n) := hid (fun i hi => H.out.sn i (byL_mem.1 hi).1)
  have hLd : Hid (byL s σ ⟨4, (s c).d.x⟩).Nodup := hid (h.nd.sublist List.filter_sublist)
  obtain ⟨a, cap, hva, hrow⟩ := hv
  subst hva
  have HROW := hid hrow
  clear hrow hwf hdd ho hc
  have e1 : ∀ q : Ext w, q.out.cell? ⟨pm, 2, none⟩ = some (.map (some bb)) := fun q => (H.out.fr0 q.fr).cell2
  have e3 : ∀ q : Ext w, q.out.cell? ⟨p c, 1, none⟩ = some (.int .i64 (s c).d.x.c) := fun q => ((H.out.fr0 q.fr).callc c HC.out).2.1
  have e4 : ∀ q : Ext w, q.out.cell? ⟨p c, 2, none⟩ = some (.int .i64 (s c).d.x.s) := fun q => ((H.out.fr0 q.fr).callc c HC.out).2.2.1
  have e5 : ∀ q : Ext w, q.out.cell? ⟨p c, 3, none⟩ = some (.int .i64 (s c).d.x.o) := fun q => ((H.out.fr0 q.fr).callc c HC.out).2.2.2.1
  have e6 : ∀ q : Ext w, (Instr.lookup 74 (.map (some bb)) (.agg #[.int .i64 4, .int .i64 (s c).d.x.c, .int .i64 (s c).d.x.s, .int .i64 (s c).d.x.o]) false).run Try.prog q.out = .ok (.slice a (byL s σ ⟨4, (s c).d.x⟩).length cap) q.out := fun q => hl _ q.fr
  clear hl h
  generalize byL s σ ⟨4, (s c).d.x⟩ = L at e6 HROW hLl hLn hLd ⊢
  go_enter Try.func57, Try.ntmps57
  go_wp2_with fail
  refine wp_region_ext (by kernel_rfl) (by kernel_rfl) ?_
  repeat (refine wpQuiet_step (fun K hK => ?_); go_simp; (refine hK _ ?_; clear hK K))
  refine wpQuiet_nil ?_
  intro _ hw'
  obtain ⟨q, hw''⟩ := hw'
  subst hw''
  have hW3 := hid q.fr
  generalize q.out = W3 at hW3 ⊢
  clear q e1 e3 e4 e5 e6
  go_wp2_with fail
  go_loopw [19] (fun i wr => ∃ k : Nat, i = .int .i64 k ∧ k ≤ L.length ∧ Hid (PSl wr (.slice a L.length cap) p L ∧ LineAt w0 wr pm hp hb bb s p n σ cs (out ++ (L.take k).filter (badB s out c)) T)) (fun i _ => L.length - (intOf i).toNat)
  case atStart => exact ⟨0, rfl, Nat.zero_le _, hid ⟨PSl.fr0 ⟨a, cap, rfl, HROW.out⟩ hW3.out, by simpa using H.out.fr0 hW3.out⟩⟩
  case round =>
    obtain ⟨k, rfl, hk, hR⟩ := hrel
    clear hW3
    by_cases hlt : k < L.length
    · obtain ⟨a', cap', hva, hr0⟩ := hR.out.1
      obtain ⟨g, hag, hr⟩ := hr0 (by omega)
      obtain ⟨rfl, -, rfl⟩ : a = a' ∧ L.length = L.length ∧ cap = cap' := by simpa using hva
      subst hag
      have hix := fun W => index75 g L.length cap k hlt W
      have hce := hr.cell k hlt
      have hxn := hLn.out _ (List.getElem_mem hlt)
      have hs := hid (filt_skip L (badB s out c) k hlt)
      have hh := hid (filt_hit L (badB s out c) k hlt)
      have hno := not_in_take hLd.out k hlt
      generalize L[k] = x at hce hxn hs hh hno
      have hdk : decide (x ∈ out ++ (L.take k).filter (badB s out c)) = decide (x ∈ out) := by
        have : x ∉ (L.take k).filter (badB s out c) := fun h => hno (List.mem_filter.1 h).1
        simp [this]
      obtain ⟨-, -, -, -, b4, b6, b7⟩ := hR.out.2.callc x hxn
      have b5 := (hR.out.2.callc c HC.out).2.2.2.2.2.1
      have hN := hid (fun W (hW : Fr0 wr W) => next_any (hR.out.2.fr0 hW) x hxn (by
        have h1 := List.length_filter_le (badB s out c) (L.take k)
        have h2 := HO.out
        simp only [List.length_append, List.length_take] at *; omega))
      rw [hdk] at b7
      simp only [pv] at hce
      clear hr hr0 hva hdk hno
      cases hd : decide (x ∈ out) with
      | true =>
        rw [hd] at b7
        have hf0 := hid (show badB s out c x = false by simp [badB, hd])
        clear hd
        go_wp2
        go_quiet (fail)
        go_wp2
        go_roundw
        case rel => exact ⟨k + 1, by go_num, by omega, hid ⟨hR.out.1.fr0 ((Fr.refl _ wr).drewN _), by rw [hs.out hf0.out]; exact hR.out.2.fr0 ((Fr.refl _ wr).drewN _)⟩⟩
        case measure => simp [intOf]; omega
      | false =>
        rw [hd] at b7
        cases h0t : decide (0 ≤ (s x).t) with
        | false =>
          have hf0 := hid (show badB s out c x = false by simp only [badB, hd, h0t]; rfl)
          clear hd
          go_wp2
          go_quiet (fail)
          go_wp2
          go_roundw
          case rel => exact ⟨k + 1, by go_num, by omega, hid ⟨hR.out.1.fr0 ((Fr.refl _ wr).drewN _), by rw [hs.out hf0.out]; exact hR.out.2.fr0 ((Fr.refl _ wr).drewN _)⟩⟩
          case measure => simp [intOf]; omega
        | true =>
          cases hft : decide ((s x).f ≤ (s c).t) with
          | false =>
            have hf0 := hid (show badB s out c x = false by simp only [badB, hd, h0t, hft]; rfl)
            clear hd
            go_wp2
            go_quiet (fail)
            go_wp2
            go_roundw
            case rel => exact ⟨k + 1, by go_num, by omega, hid ⟨hR.out.1.fr0 ((Fr.refl _ wr).drewN _), by rw [hs.out hf0.out]; exact hR.out.2.fr0 ((Fr.refl _ wr).drewN _)⟩⟩
            case measure => simp [intOf]; omega
          | true =>
            have hf0 := hid (show badB s out c x = true by simp only [badB, hd, h0t, hft]; rfl)
            clear hd
            go_wp2
            go_quiet (fail)
            go_wp2_with fail
            refine (hN.out _ ((Fr.refl _ wr).drewN _)).mono ?_
            rintro e w1 ⟨rfl, hL1, hP1⟩
            have HE := hid (show PSl w1 (.slice (some ⟨g, 0, none⟩) L.length cap) p L ∧ LineAt w0 w1 pm hp hb bb s p n σ cs (out ++ (L.take (k + 1)).filter (badB s out c)) T from ⟨hP1 _ _ (hR.out.1.fr0 ((Fr.refl _ wr).drewN _)), by rw [hh.out hf0.out, ← List.append_assoc]; exact hL1⟩)
            clear hL1 hP1 hN
            go_wp2
            go_roundw
            case rel => exact ⟨k + 1, by go_num, by omega, HE⟩
            case measure => simp [intOf]; omega
    · have hkl : k = L.length := by omega
      subst hkl
      go_wp2
      go_end0
      exact ⟨rfl, by simpa using hR.out.2⟩
end Go.Proofs.Ytjaabbjobnfmmaa

namespace Go.Proofs.Ytjaabbjobnfmmaa
open Go.RowKit

/-- Line's memory while it lays its calls: k are laid. -/
structure Grow (w0 w : World) (pm hp hb bb : Nat) (s : Nat → Sp) (p : Nat → Nat) (k : Nat) (cs : Value) : Prop where
  fr : Fr0 w0 w
  box : w.heap[pm]? = some (boxO (.pointer (some ⟨hp, 0, none⟩)) cs (.map (some bb)) (.slice none 0 0))
  heap : HeapIs w hp hb []
  map : MapIs Try.prog 84 w bb []
  calls : ∀ i, i < k → w.heap[p i]? = some (callO (s i) i false)
  inj : ∀ i j, i < k → j < k → p i = p j → i = j
  own : w.ownsRow w0.heap.size 78 1 cs k ((List.range k).map (pv p))
  bpm : w0.heap.size ≤ pm
  bhb : w0.heap.size ≤ hb
  bp : ∀ i, i < k → w0.heap.size ≤ p i
  nbb : hb ≠ bb
  bbb : w0.heap.size ≤ bb

section
variable {w0 w w' : World} {pm hp hb bb k : Nat} {s : Nat → Sp} {p : Nat → Nat} {cs : Value}
theorem Grow.fr0 (h : Grow w0 w pm hp hb bb s p k cs) (hf : Fr0 w w') : Grow w0 w' pm hp hb bb s p k cs :=
  ⟨h.fr.trans0 hf, hf.at h.box id, h.heap.fr0 hf, h.map.block (hf.block bb h.map.lt id), fun i hi => hf.at (h.calls i hi) id, h.inj, own_fr0 h.own hf, h.bpm, h.bhb, h.bp, h.nbb, h.bbb⟩

def p1 (p : Nat → Nat) (k b : Nat) (i : Nat) : Nat := if i = k then b else p i
theorem p1_lt {p : Nat → Nat} {k b i : Nat} (h : i < k) : p1 p k b i = p i := by unfold p1; rw [if_neg (by omega)]
theorem p1_same {p : Nat → Nat} {k b : Nat} : p1 p k b k = b := by simp [p1]

theorem Grow.step (h : Grow w0 w pm hp hb bb s p k cs) {wa w2 : World} {gg cap b : Nat} (hb1 : wa.heap[b]? = some (callO (s k) k false)) (hbn : w.heap.size ≤ b) (ha : Fr0 w wa) (hg : wa.drew.grownBy w2 cs.ownBlock)
    (ho : w2.ownsRow w0.heap.size 78 1 (.slice (some ⟨gg, 0, none⟩) (k + 1) cap) (k + 1) ((List.range k).map (pv p) ++ [.pointer (some ⟨b, 0, none⟩)])) (hat : cs.ownBlock = some gg ∨ gg = wa.heap.size) :
    Grow w0 (w2.setCell ⟨pm, 1, none⟩ (.slice (some ⟨gg, 0, none⟩) (k + 1) cap)) pm hp hb bb s (p1 p k b) (k + 1) (.slice (some ⟨gg, 0, none⟩) (k + 1) cap) := by
  have h' := h.fr0 ha
  have f2 : Fr (fun i => cs.ownBlock = some i) wa w2 := (Fr.refl (fun i => cs.ownBlock = some i) wa).drew.trans (Fr.of_grown hg) (fun i _ h => h.symm)
  have fs : Fr (fun i => i = pm) w2 (w2.setCell ⟨pm, 1, none⟩ (.slice (some ⟨gg, 0, none⟩) (k + 1) cap)) := Fr.setCell (X := fun i => i = pm) (p := ⟨pm, 1, none⟩) (Fr.refl _ w2) (fun _ => rfl) _
  have f3 : Fr (fun i => cs.ownBlock = some i ∨ i = pm) wa (w2.setCell ⟨pm, 1, none⟩ (.slice (some ⟨gg, 0, none⟩) (k + 1) cap)) := (f2.mono (fun i _ h => .inl h)).trans fs (fun i _ h => .inr h)
  have hom := own_ne h'.own h'.box (by decide)
  have hbo : ∀ j, cs.ownBlock = some j → j ≠ b := own_ne h'.own hb1 (by decide)
  have hbm : b ≠ pm := by rintro rfl; rw [h'.box] at hb1; simp [boxO, callO] at hb1
  have hgm : gg ≠ pm := by
    rcases hat with e | e
    · exact hom _ e
    · have := lt_of_block h'.box; omega
  have hm2 := f2.at h'.box (fun e => hom _ e rfl)
  obtain ⟨es, c, hme, _⟩ := h'.heap.2.1.1
  obtain ⟨es2, c2, hme2, _⟩ := id h'.map
  have hmapne : ∀ (i : Nat) (es : Array MapEntry) (c : Nat), wa.heap[i]? = some (.map es c) → ¬ (cs.ownBlock = some i ∨ i = pm) := by
    rintro i es c hi (e | rfl)
    · exact own_ne_map h'.own hi i e rfl
    · rw [h'.box] at hi; simp [boxO] at hi
  have hcne : ∀ (i : Nat) (cur : Array Value) (t : TypeId) (f : Nat × Nat), wa.heap[i]? = some (.cells cur t f) → t ≠ 78 → t ≠ 77 → ¬ (cs.ownBlock = some i ∨ i = pm) := by
    rintro i cur t f hi h1 h2 (e | rfl)
    · exact own_ne h'.own hi (fun e => h1 e.symm) i e rfl
    · rw [h'.box] at hi; simp [boxO] at hi; exact h2 hi.2.1.symm
  refine ⟨h'.fr.trans f3 (fun i hi e => ?_), setCell_block hm2 1 _, h'.heap.fr f3 (hcne _ _ _ _ h'.heap.1 (by decide) (by decide)) (hmapne _ _ _ hme), h'.map.block (f3.block bb h'.map.lt (hmapne _ _ _ hme2)), fun i hi => ?_, fun i j hi hj he => ?_, ?_, h.bpm, h.bhb, fun i hi => ?_, h.nbb, h.bbb⟩
  · rcases e with e | rfl
    · have := (h'.own.lt i e).1; omega
    · have := h.bpm; omega
  · by_cases hik : i = k
    · subst hik
      rw [p1_same]
      exact f3.at hb1 (hcne _ _ _ _ hb1 (by decide) (by decide))
    · rw [p1_lt (by omega)]
      have := h'.calls i (by omega)
      exact f3.at this (hcne _ _ _ _ this (by decide) (by decide))
  · by_cases hik : i = k <;> by_cases hjk : j = k
    · omega
    · subst hik
      rw [p1_same, p1_lt (by omega)] at he
      have := lt_of_block (h.calls j (by omega)); omega
    · subst hjk
      rw [p1_same, p1_lt (by omega)] at he
      have := lt_of_block (h.calls i (by omega)); omega
    · rw [p1_lt (by omega), p1_lt (by omega)] at he
      exact h.inj i j (by omega) (by omega) he
  · have e : (List.range (k + 1)).map (pv (p1 p k b)) = (List.range k).map (pv p) ++ [.pointer (some ⟨b, 0, none⟩)] := by
      rw [List.range_succ, List.map_append]
      congr 1
      · apply List.map_congr_left
        intro i hi
        simp only [pv, p1_lt (List.mem_range.1 hi)]
      · simp [pv, p1_same]
    rw [e]
    exact own_fr ho fs (fun i hi => by
      have : gg = i := by simpa [Value.ownBlock] using hi
      rw [← this]; exact hgm)
  · by_cases hik : i = k
    · subst hik; rw [p1_same]; have := h.fr.size; omega
    · rw [p1_lt (by omega)]; exact h.bp i (by omega)
end

theorem info78 : (Try.prog.info? 78).map (fun i => (i.zero, i.size, i.bytes)) = some (some (.pointer none), 1, 8) := by kernel_rfl
end Go.Proofs.Ytjaabbjobnfmmaa

namespace Go.Proofs.Ytjaabbjobnfmmaa
open Go.RowKit

/-- Rows of Line's own, apart from each other and from the row cb: to each deed its calls in the order τ. -/
def ByE (w : World) (base : Nat) (s : Nat → Sp) (p : Nat → Nat) (τ : List Nat) (cb : Option Nat) (E : List (Dd × Value)) : Prop :=
  (∀ e ∈ E, w.ownsRow base 78 1 e.2 (byL s τ e.1).length ((byL s τ e.1).map (pv p)) ∧ (∀ g, e.2.ownBlock = some g → cb ≠ some g)) ∧
    E.Pairwise (fun e f => ∀ g, e.2.ownBlock = some g → f.2.ownBlock ≠ some g) ∧ ∀ d, (∀ e ∈ E, e.1 ≠ d) → byL s τ d = []
def kvE (E : List (Dd × Value)) : List (Value × Value) := E.map fun e => (e.1.val, e.2)
/-- The map, each of its rows Line's own, apart from the others and from the row cb. -/
def ByOwn (w : World) (base bb : Nat) (s : Nat → Sp) (p : Nat → Nat) (τ : List Nat) (cb : Option Nat) : Prop :=
  ∃ E : List (Dd × Value), MapIs Try.prog 84 w bb (kvE E) ∧ ByE w base s p τ cb E

/-- Line's memory while it fills the map: the first k of σ are in it. -/
structure Fill (w0 w : World) (pm hp hb bb : Nat) (s : Nat → Sp) (p : Nat → Nat) (n : Nat) (σ : List Nat) (cs : Value) (k : Nat) : Prop where
  fr : Fr0 w0 w
  box : w.heap[pm]? = some (boxO (.pointer (some ⟨hp, 0, none⟩)) cs (.map (some bb)) (.slice none 0 0))
  heap : HeapIs w hp hb []
  calls : ∀ i, i < n → w.heap[p i]? = some (callO (s i) i false)
  inj : ∀ i j, i < n → j < n → p i = p j → i = j
  by_ : ByOwn w w0.heap.size bb s p (σ.take k) cs.ownBlock
  row : PSl w cs p σ
  bpm : w0.heap.size ≤ pm
  bhb : w0.heap.size ≤ hb
  bp : ∀ i, i < n → w0.heap.size ≤ p i
  nbb : hb ≠ bb
  bbb : w0.heap.size ≤ bb

section
variable {w0 w w' : World} {pm hp hb bb k n base : Nat} {s : Nat → Sp} {p : Nat → Nat} {cs : Value} {σ τ : List Nat} {cb : Option Nat}
theorem ByOwn.fr0 (h : ByOwn w base bb s p τ cb) (hf : Fr0 w w') : ByOwn w' base bb s p τ cb := by
  obtain ⟨E, h1, h2, h3, h4⟩ := h
  exact ⟨E, h1.block (hf.block bb h1.lt id), fun e he => ⟨own_fr0 (h2 e he).1 hf, (h2 e he).2⟩, h3, h4⟩
theorem ByE.fr0 {E : List (Dd × Value)} (h : ByE w base s p τ cb E) (hf : Fr0 w w') : ByE w' base s p τ cb E := ⟨fun e he => ⟨own_fr0 (h.1 e he).1 hf, (h.1 e he).2⟩, h.2⟩
theorem byL_snoc (s : Nat → Sp) (τ : List Nat) (c : Nat) (d : Dd) : byL s (τ ++ [c]) d = byL s τ d ++ if (s c).d = d then [c] else [] := by
  unfold byL
  rw [List.filter_append]
  by_cases h : (s c).d = d <;> simp [h]

/-- The entry of a deed, read for writing. -/
theorem ByOwn.entry (h : ByOwn w base bb s p τ cb) (d : Dd) (hd : d.wf) : ∃ (E : List (Dd × Value)) (i : Nat) (v0 : Value), ByE w base s p τ cb E ∧ E[i]? = some (d, v0) ∧ (∀ j e, E[j]? = some e → e.1 = d → j = i) ∧
    ∀ W, Fr0 w W → ∃ W' st, (Instr.mapEntry 74 (.map (some bb)) d.val).run Try.prog W = .ok (.tuple #[v0, .int .i64 st]) W' ∧ MapSt Try.prog 84 W' bb (kvE E) i st ∧ W.mapTurned W' bb := by
  obtain ⟨E, h1, h2, h3, h4⟩ := h
  obtain ⟨kl, hkl⟩ := keyOf84 d hd
  by_cases hin : ∃ e ∈ E, e.1 = d
  · obtain ⟨⟨d', v0⟩, he, rfl⟩ := hin
    obtain ⟨i, hi⟩ := List.getElem?_of_mem he
    have hi' : (kvE E)[i]? = some (d'.val, v0) := by simp [kvE, hi]
    refine ⟨E, i, v0, ⟨h2, h3, h4⟩, hi, fun j e hj hjd => ?_, fun W hW => (h1.block (hW.block bb h1.lt id)).entry_old law84 Try.underlying74 hkl hi'⟩
    have hap := h1.apart
    rw [List.pairwise_iff_getElem] at hap
    have hj' : (kvE E)[j]? = some (d'.val, e.2) := by simp [kvE, hj, show e.1 = d' from hjd]
    obtain ⟨jl, je⟩ := List.getElem?_eq_some_iff.1 hj'
    obtain ⟨il, ie⟩ := List.getElem?_eq_some_iff.1 hi'
    rcases Nat.lt_trichotomy j i with hlt | heq | hgt
    · exact absurd (by rw [je, ie]) (hap j i jl il hlt)
    · exact heq
    · exact absurd (by rw [je, ie]) (hap i j il jl hgt)
  · have hno : ∀ e ∈ E, e.1 ≠ d := fun e he hed => hin ⟨e, he, hed⟩
    refine ⟨E ++ [(d, .slice none 0 0)], E.length, .slice none 0 0, ⟨?_, ?_, ?_⟩, by simp, fun j e hj hjd => ?_, fun W hW => ?_⟩
    · intro e he
      rcases List.mem_append.1 he with he | he
      · exact h2 e he
      · obtain rfl := List.mem_singleton.1 he
        rw [h4 d hno]
        exact ⟨⟨rfl, .inl ⟨rfl, rfl⟩⟩, fun g hg => by simp [Value.ownBlock] at hg⟩
    · rw [List.pairwise_append]
      refine ⟨h3, List.pairwise_singleton _ _, fun e he f hf g hg => ?_⟩
      obtain rfl := List.mem_singleton.1 hf
      simp [Value.ownBlock]
    · intro d' hd'
      exact h4 d' (fun e he => hd' e (List.mem_append_left _ he))
    · obtain ⟨hjl, hje⟩ := List.getElem?_eq_some_iff.1 hj
      by_cases hlt : j < E.length
      · rw [List.getElem_append_left hlt] at hje
        exact absurd hjd (hno e (hje ▸ List.getElem_mem hlt))
      · simp at hjl; omega
    · have hno' : ∀ q ∈ kvE E, q.1 ≠ d.val := by
        intro q hq hqd
        obtain ⟨e, he, rfl⟩ := List.mem_map.1 hq
        exact hno e he (Dd.val_inj hqd)
      have := (h1.block (hW.block bb h1.lt id)).entry_new law84 Try.underlying74 (zero75 W) hkl hno'
      simpa [kvE] using this
theorem Fill.fr0 (h : Fill w0 w pm hp hb bb s p n σ cs k) (hf : Fr0 w w') : Fill w0 w' pm hp hb bb s p n σ cs k :=
  ⟨h.fr.trans0 hf, hf.at h.box id, h.heap.fr0 hf, fun i hi => hf.at (h.calls i hi) id, h.inj, h.by_.fr0 hf, h.row.fr0 hf, h.bpm, h.bhb, h.bp, h.nbb, h.bbb⟩
theorem own_psl {v : Value} {L : List Nat} (h : w.ownsRow base 78 1 v L.length (L.map (pv p))) : PSl w v p L := by
  obtain ⟨_, ⟨rfl, h0⟩ | ⟨g, cap, cur, rfl, _, hg, _, _, _, ht⟩⟩ := h
  · refine ⟨none, 0, by rw [h0], fun h => by omega⟩
  · exact ⟨_, cap, rfl, fun _ => ⟨g, rfl, cur, hg, by simpa using ht⟩⟩

/-- All of σ is in the map. -/
theorem Fill.whole (h : Fill w0 w pm hp hb bb s p n σ cs k) (hk : σ.length ≤ k) (hn : ∀ i ∈ σ, i < n) (hd : σ.Nodup) (hw : ∀ i, i < n → (s i).wf) : LineAt w0 w pm hp hb bb s p n σ cs [] [] := by
  refine ⟨h.fr, ⟨_, h.box, rfl, .inl ⟨rfl, rfl⟩⟩, h.heap, fun i hi => by simpa using h.calls i hi, h.inj, ?_, h.row, h.bpm, h.bhb, h.bp, hn, hw, h.nbb, hd⟩
  obtain ⟨E, h1, h2, _, h4⟩ := h.by_
  rw [List.take_of_length_le hk] at h2 h4
  exact ⟨E, h1, fun e he => own_psl (h2 e he).1, h4⟩

/-- The sort. -/
theorem sort_any (h : Grow w0 w pm hp hb bb s p n cs) (hn : n ≤ 1000) (ht : ∀ i, i < n → -1 ≤ (s i).t) :
    Calls Try.prog 54 #[cs, .func (.func 55) #[] #[]] w fun e w' => e = .returned (.tuple #[]) ∧ ∃ σ : List Nat, σ.Perm (List.range n) ∧ Srt (fun i => (s i).t) σ ∧ Fill w0 w' pm hp hb bb s p n σ cs 0 := by
  have hemp : ∀ W, Fr (fun g => cs.ownBlock = some g) w W → MapIs Try.prog 84 W bb [] := fun W hW => h.map.block (hW.block bb h.map.lt (fun e => by
    obtain ⟨es, c, hme, _⟩ := id h.map
    exact own_ne_map h.own hme bb e rfl))
  obtain ⟨hl, ⟨rfl, h0⟩ | ⟨g, cap, cur, rfl, hb, hg, hnc, hcm, hcs, hcur⟩⟩ := id h.own
  · refine (sort_nil w).mono ?_
    rintro e w' ⟨he, hf⟩
    refine ⟨he, [], by rw [h0]; exact List.Perm.refl _, List.Pairwise.nil, h.fr.trans0 hf, hf.at h.box id, h.heap.fr0 hf, fun i hi => hf.at (h.calls i hi) id, h.inj, ?_, ⟨none, 0, rfl, fun h => by simp at h⟩, h.bpm, h.bhb, h.bp, h.nbb, h.bbb⟩
    exact ⟨[], hemp w' (hf.mono (fun _ _ h => h.elim)), by simp, List.Pairwise.nil, fun d _ => rfl⟩
  · have hrow : PRow w g p (List.range n) := ⟨cur, hg, by simpa using hcur⟩
    have hT : Tos w g p (fun i => (s i).t) n := ⟨fun i hi => cell_of_block (h.calls i hi) 5, fun i hi e => by
      have := h.calls i hi
      rw [e, hg] at this; simp [callO] at this⟩
    refine (sortStable_any g cap p (fun i => (s i).t) n ht (List.range n) List.pairwise_lt_range (fun i hi => List.mem_range.1 hi) n (by simp) (by omega) w hrow hT).mono ?_
    rintro e w' ⟨he, hf, M, hM, hS, hr⟩
    have hlen : M.length = n := by rw [hM.length_eq]; simp
    have hcne : ∀ (i : Nat) (cu : Array Value) (t : TypeId) (f : Nat × Nat), w.heap[i]? = some (.cells cu t f) → t ≠ 78 → i ≠ g := by
      rintro i cu t f hi h1 rfl
      rw [hg] at hi; simp at hi; exact h1 hi.2.1.symm
    have hmne : ∀ (i : Nat) (es : Array MapEntry) (c : Nat), w.heap[i]? = some (.map es c) → i ≠ g := by
      rintro i es c hi rfl
      rw [hg] at hi; simp at hi
    obtain ⟨es, c, hme, _⟩ := h.heap.2.1.1
    refine ⟨he, M, hM, hS, h.fr.trans hf (fun i hi e => by omega), hf.at h.box (hcne _ _ _ _ h.box (by decide)), h.heap.fr hf (hcne _ _ _ _ h.heap.1 (by decide)) (hmne _ _ _ hme), fun i hi => hf.at (h.calls i hi) (hcne _ _ _ _ (h.calls i hi) (by decide)), h.inj, ?_,
      ⟨some ⟨g, 0, none⟩, cap, by rw [hlen], fun _ => ⟨g, rfl, hr⟩⟩, h.bpm, h.bhb, h.bp, h.nbb, h.bbb⟩
    exact ⟨[], hemp w' (hf.mono (fun i _ e => by subst e; rfl)), by simp, List.Pairwise.nil, fun d _ => rfl⟩

theorem pw_ne {E : List (Dd × Value)} (h : E.Pairwise (fun e f => ∀ g, e.2.ownBlock = some g → f.2.ownBlock ≠ some g)) {i j : Nat} {e f : Dd × Value} (he : E[j]? = some e) (hf : E[i]? = some f) (hji : j ≠ i) (g : Nat) (hg : e.2.ownBlock = some g) : f.2.ownBlock ≠ some g := by
  obtain ⟨jl, je⟩ := List.getElem?_eq_some_iff.1 he
  obtain ⟨il, ie⟩ := List.getElem?_eq_some_iff.1 hf
  rw [List.pairwise_iff_getElem] at h
  rcases Nat.lt_or_ge j i with hlt | hge
  · have := h j i jl il hlt
    rw [je, ie] at this
    exact this g hg
  · have := h i j il jl (by omega)
    rw [je, ie] at this
    exact fun hh => this g hh hg

/-- One call more is in the map. -/
theorem Fill.step (h : Fill w0 w pm hp hb bb s p n σ cs k) (hk : k < σ.length) {c : Nat} (hc : σ[k] = c) {E : List (Dd × Value)} {i : Nat} {v0 : Value} (hE : ByE w w0.heap.size s p (σ.take k) cs.ownBlock E) (hi : E[i]? = some ((s c).d, v0))
    (hone : ∀ j e, E[j]? = some e → e.1 = (s c).d → j = i) {W2 W3 W4 : World} {gg cp : Nat} (hf2 : Fr (fun i => i = bb) w W2) (hg : W2.grownBy W3 v0.ownBlock)
    (ho : W3.ownsRow w0.heap.size 78 1 (.slice (some ⟨gg, 0, none⟩) ((byL s (σ.take k) (s c).d).length + 1) cp) ((byL s (σ.take k) (s c).d).length + 1) ((byL s (σ.take k) (s c).d).map (pv p) ++ [pv p c])) (hat : v0.ownBlock = some gg ∨ gg = W2.heap.size)
    (hm4 : MapIs Try.prog 84 W4 bb ((kvE E).set i ((s c).d.val, .slice (some ⟨gg, 0, none⟩) ((byL s (σ.take k) (s c).d).length + 1) cp))) (ht4 : W3.mapTurned W4 bb) :
    Fill w0 W4 pm hp hb bb s p n σ cs (k + 1) := by
  have hil := (List.getElem?_eq_some_iff.1 hi).1
  have hmem : ((s c).d, v0) ∈ E := List.mem_of_getElem? hi
  have hv0 := (hE.1 _ hmem).1
  have hv0c := (hE.1 _ hmem).2
  obtain ⟨E0, hM0, _⟩ := id h.by_
  obtain ⟨es, clk, hbb, _⟩ := id hM0
  have fr4 : Fr (fun i => i = bb ∨ v0.ownBlock = some i) w W4 :=
    ((hf2.mono (fun i _ h => .inl h)).trans (Fr.of_grown hg) (fun i _ h => .inr h.symm)).turned ht4 (fun _ => .inl rfl)
  have f34 : Fr (fun i => i = bb) W3 W4 := (Fr.refl (fun i => i = bb) W3).turned ht4 (fun _ => rfl)
  have hcne : ∀ (i : Nat) (cu : Array Value) (t : TypeId) (f : Nat × Nat), w.heap[i]? = some (.cells cu t f) → t ≠ 78 → ¬ (i = bb ∨ v0.ownBlock = some i) := by
    rintro i cu t f hi h1 (rfl | e)
    · rw [hbb] at hi; simp at hi
    · exact own_ne hv0 hi (fun e => h1 e.symm) i e rfl
  have hmne : ∀ (i : Nat) (es : Array MapEntry) (c : Nat), w.heap[i]? = some (.map es c) → i ≠ bb → ¬ (i = bb ∨ v0.ownBlock = some i) := by
    rintro i es c hi hib (rfl | e)
    · exact hib rfl
    · exact own_ne_map hv0 hi i e rfl
  obtain ⟨es1, c1, hme, _⟩ := h.heap.2.1.1
  have hcs : ∀ g, cs.ownBlock = some g → (∃ cur, w.heap[g]? = some (.cells cur 78 (0, 0))) → ¬ (g = bb ∨ v0.ownBlock = some g) := by
    rintro g hg ⟨cur, hcur⟩ (rfl | e)
    · rw [hbb] at hcur; simp at hcur
    · exact hv0c g e hg
  have hclt : ∀ g, cs.ownBlock = some g → g < w.heap.size := by
    intro g hg
    obtain ⟨a, cap, rfl, hr0⟩ := h.row
    obtain ⟨g', rfl, hr⟩ := hr0 (by omega)
    have : g' = g := by simpa [Value.ownBlock] using hg
    rw [← this]; exact hr.lt
  have htake : σ.take (k + 1) = σ.take k ++ [c] := by rw [take_snoc' σ k hk, hc]
  refine ⟨h.fr.trans fr4 (fun i hi e => ?_), fr4.at h.box (hcne _ _ _ _ h.box (by decide)), h.heap.fr fr4 (hcne _ _ _ _ h.heap.1 (by decide)) (hmne _ _ _ hme h.nbb), fun i hi => fr4.at (h.calls i hi) (hcne _ _ _ _ (h.calls i hi) (by decide)), h.inj, ?_, ?_, h.bpm, h.bhb, h.bp, h.nbb, h.bbb⟩
  · rcases e with e | e
    · have := h.bbb; omega
    · have := (hv0.lt i e).1; omega
  · refine ⟨E.set i ((s c).d, .slice (some ⟨gg, 0, none⟩) ((byL s (σ.take k) (s c).d).length + 1) cp), by simpa [kvE, List.map_set] using hm4, ?_, ?_, ?_⟩
    · intro e he
      obtain ⟨j, hj⟩ := List.getElem?_of_mem he
      rw [htake, byL_snoc]
      by_cases hji : j = i
      · subst hji
        rw [List.getElem?_set_self hil] at hj
        cases hj
        refine ⟨?_, fun g hg => ?_⟩
        · rw [if_pos rfl]
          simp only [List.length_append, List.length_singleton, List.map_append, List.map_cons, List.map_nil]
          refine own_fr ho f34 (fun g hgg => ?_)
          obtain ⟨es3, c3, _, _, hb3, _⟩ := id ht4
          exact own_ne_map ho hb3 g hgg
        · have : gg = g := by simpa [Value.ownBlock] using hg
          subst this
          rcases hat with e | e
          · exact hv0c _ e
          · exact fun hh => absurd (hclt _ hh) (by have := hf2.size; omega)
      · rw [List.getElem?_set_ne (fun e => hji e.symm)] at hj
        have hne : e.1 ≠ (s c).d := fun hed => hji (hone j e hj hed)
        rw [if_neg (fun e => hne e.symm), List.append_nil]
        have he' := hE.1 e (List.mem_of_getElem? hj)
        refine ⟨own_fr he'.1 fr4 ?_, he'.2⟩
        rintro g hg (rfl | e)
        · exact own_ne_map he'.1 hbb _ hg rfl
        · exact pw_ne hE.2.1 hj hi hji g hg e
    · rw [List.pairwise_iff_getElem]
      intro x y hx hy hxy g hgx hgy
      have hx' : x < E.length := by simpa using hx
      have hy' : y < E.length := by simpa using hy
      have gcase : ∀ z (hz : z < E.length), z ≠ i → E[z].2.ownBlock ≠ some gg := by
        intro z hz hzi hh
        have hzz : E[z]? = some E[z] := List.getElem?_eq_getElem hz
        rcases hat with e | e
        · exact pw_ne hE.2.1 hzz hi hzi gg hh e
        · have := ((hE.1 _ (List.getElem_mem hz)).1.lt gg hh).2
          have := hf2.size; omega
      rw [List.getElem_set] at hgx hgy
      by_cases hxi : i = x <;> by_cases hyi : i = y
      · omega
      · rw [if_pos hxi] at hgx
        rw [if_neg hyi] at hgy
        have : gg = g := by simpa [Value.ownBlock] using hgx
        subst this
        exact gcase y hy' (fun e => hyi e.symm) hgy
      · rw [if_neg hxi] at hgx
        rw [if_pos hyi] at hgy
        have : gg = g := by simpa [Value.ownBlock] using hgy
        subst this
        exact gcase x hx' (fun e => hxi e.symm) hgx
      · rw [if_neg hxi] at hgx
        rw [if_neg hyi] at hgy
        exact pw_ne hE.2.1 (List.getElem?_eq_getElem hx') (List.getElem?_eq_getElem hy') (by omega) g hgx hgy
    · intro d' hd'
      rw [htake, byL_snoc, if_neg, List.append_nil]
      · refine hE.2.2 d' (fun e he hed => ?_)
        obtain ⟨j, hj⟩ := List.getElem?_of_mem he
        by_cases hji : j = i
        · subst hji
          rw [hj] at hi
          refine hd' ((s c).d, .slice (some ⟨gg, 0, none⟩) ((byL s (σ.take k) (s c).d).length + 1) cp) (List.mem_of_getElem? (i := j) (List.getElem?_set_self hil)) ?_
          rw [← hed, Option.some.inj hi]
        · exact hd' e (List.mem_of_getElem? (i := j) (by rw [List.getElem?_set_ne (fun e => hji e.symm)]; exact hj)) hed
      · exact hd' ((s c).d, .slice (some ⟨gg, 0, none⟩) ((byL s (σ.take k) (s c).d).length + 1) cp) (List.mem_of_getElem? (i := i) (List.getElem?_set_self hil))
  · obtain ⟨a, cap, rfl, hr0⟩ := h.row
    refine ⟨a, cap, rfl, fun hl => ?_⟩
    obtain ⟨g, rfl, hr⟩ := hr0 hl
    obtain ⟨cur, hcur, _⟩ := id hr
    exact ⟨g, rfl, hr.fr fr4 (hcs g rfl ⟨cur, hcur⟩)⟩
end
end Go.Proofs.Ytjaabbjobnfmmaa

namespace Go.Proofs.Ytjaabbjobnfmmaa
open Go.RowKit

/-- Must another call be done ahead of call c? -/
def stuckB (s : Nat → Sp) (T : List Ob) (c : Nat) : Bool := !decide ((s c).d.k = 2) && (decide ((s c).d.x ∈ T) != decide ((s c).d.k = 3))
/-- Which call is done next for call c's sake. -/
def lwho (s : Nat → Sp) (σ : List Nat) (out : List Nat) (T : List Ob) (c : Nat) : Option Nat := if stuckB s T c then helpI s σ out T c else some c
/-- What is done behind call x, which is done for call c's sake. -/
def lout (s : Nat → Sp) (σ : List Nat) (out : List Nat) (c x : Nat) : List Nat := (if (s x).d.k = 1 then out ++ badI s σ out c else out) ++ [x]
def lheap (s : Nat → Sp) (T : List Ob) (x : Nat) : List Ob := (hdo T (s x).d.k (s x).d.x).2
/-- The rounds for call c. -/
def lrun (s : Nat → Sp) (σ : List Nat) (c : Nat) : Nat → List Nat → List Ob → Option (List Nat × List Ob)
  | 0, _, _ => none
  | f + 1, out, T => if c ∈ out then some (out, T) else match lwho s σ out T c with
    | none => none
    | some x => lrun s σ c f (lout s σ out c x) (lheap s T x)
/-- The rounds for the calls l. -/
def lall (s : Nat → Sp) (σ : List Nat) (N : Nat) : List Nat → List Nat → List Ob → Option (List Nat × List Ob)
  | [], out, T => some (out, T)
  | c :: l, out, T => if (s c).t < 0 then some (out, T) else match lrun s σ c N out T with
    | none => none
    | some (out', T') => lall s σ N l out' T'

/-- What is done: each once, all of them calls. -/
def Good (n : Nat) (out : List Nat) : Prop := out.Nodup ∧ ∀ i ∈ out, i < n
theorem Good.len {n : Nat} {out : List Nat} (h : Good n out) : out.length ≤ n := by
  have := h.1.length_le_of_subset (l₂ := List.range n) (fun i hi => List.mem_range.2 (h.2 i hi))
  simpa using this
theorem Good.snoc {n : Nat} {out : List Nat} (h : Good n out) {x : Nat} (hx : x < n) (hn : x ∉ out) : Good n (out ++ [x]) := by
  refine ⟨?_, fun i hi => ?_⟩
  · rw [List.nodup_append]
    exact ⟨h.1, by simp, fun a ha b hb => by rw [List.mem_singleton.1 hb]; rintro rfl; exact hn ha⟩
  · rcases List.mem_append.1 hi with hi | hi
    · exact h.2 i hi
    · rw [List.mem_singleton.1 hi]; exact hx

section
variable {s : Nat → Sp} {σ out : List Nat} {T : List Ob} {c x n : Nat}
theorem badI_mem {i : Nat} (h : i ∈ badI s σ out c) : i ∈ σ ∧ (s i).d = ⟨4, (s c).d.x⟩ ∧ i ∉ out ∧ 0 ≤ (s i).t ∧ (s i).f ≤ (s c).t := by
  obtain ⟨h1, h2⟩ := List.mem_filter.1 h
  obtain ⟨h3, h4⟩ := byL_mem.1 h1
  simp [badB] at h2
  exact ⟨h3, h4, h2.1.1, h2.1.2, h2.2⟩
theorem helpI_mem {i : Nat} (h : helpI s σ out T c = some i) : i ∈ σ ∧ (s i).d = helpK s T c ∧ i ∉ out ∧ (s i).f ≤ (s c).t := by
  have h1 := List.mem_of_find?_eq_some h
  have h2 := List.find?_some h
  obtain ⟨h3, h4⟩ := byL_mem.1 h1
  simp [fitB] at h2
  exact ⟨h3, h4, h2.1, h2.2⟩
theorem lwho_mem (hσ : ∀ i ∈ σ, i < n) (hc : c < n) (hco : c ∉ out) (h : lwho s σ out T c = some x) : x < n ∧ x ∉ out := by
  unfold lwho at h
  split at h
  · have := helpI_mem h
    exact ⟨hσ _ this.1, this.2.2.1⟩
  · cases h; exact ⟨hc, hco⟩
theorem Good.bads (h : Good n out) (hσ : ∀ i ∈ σ, i < n) (hd : σ.Nodup) (c : Nat) : Good n (out ++ badI s σ out c) := by
  refine ⟨?_, fun i hi => ?_⟩
  · rw [List.nodup_append]
    refine ⟨h.1, (hd.sublist List.filter_sublist).sublist List.filter_sublist, fun a ha b hb => ?_⟩
    rintro rfl
    exact (badI_mem hb).2.2.1 ha
  · rcases List.mem_append.1 hi with hi | hi
    · exact h.2 i hi
    · exact hσ _ (badI_mem hi).1
theorem Good.lout (h : Good n out) (hσ : ∀ i ∈ σ, i < n) (hd : σ.Nodup) (c : Nat) (hx : x < n) (hxo : x ∉ out) : Good n (lout s σ out c x) := by
  unfold Ytjaabbjobnfmmaa.lout
  split
  · next hk =>
    refine (h.bads hσ hd c).snoc hx (fun hm => ?_)
    rcases List.mem_append.1 hm with hm | hm
    · exact hxo hm
    · have := (badI_mem hm).2.1
      rw [this] at hk; simp at hk
  · exact h.snoc hx hxo
theorem lout_len : out.length < (lout s σ out c x).length := by
  unfold lout
  split <;> simp <;> omega
theorem lrun_step {f : Nat} (hco : c ∉ out) (h : lwho s σ out T c = some x) : lrun s σ c (f + 1) out T = lrun s σ c f (lout s σ out c x) (lheap s T x) := by
  rw [lrun, if_neg hco, h]
theorem lrun_none {f : Nat} (hco : c ∉ out) (h : lwho s σ out T c = none) : lrun s σ c (f + 1) out T = none := by
  rw [lrun, if_neg hco, h]
theorem lrun_done {f : Nat} (hco : c ∈ out) : lrun s σ c (f + 1) out T = some (out, T) := by
  rw [lrun, if_pos hco]

/-- Where the rounds for c stand, begun at (out0, T0). -/
def RunAt (s : Nat → Sp) (σ : List Nat) (c n : Nat) (out0 : List Nat) (T0 : List Ob) (out : List Nat) (T : List Ob) : Prop :=
  Good n out ∧ ∃ f, n < f + out.length ∧ lrun s σ c (n + 1) out0 T0 = lrun s σ c f out T
theorem RunAt.start (h : Good n out) : RunAt s σ c n out T out T := ⟨h, n + 1, by omega, rfl⟩
theorem RunAt.fuel {out0 : List Nat} {T0 : List Ob} (h : RunAt s σ c n out0 T0 out T) : ∃ f, n < f + 1 + out.length ∧ lrun s σ c (n + 1) out0 T0 = lrun s σ c (f + 1) out T := by
  obtain ⟨hg, f, hf, he⟩ := h
  have := hg.len
  obtain ⟨f', rfl⟩ : ∃ f', f = f' + 1 := ⟨f - 1, by omega⟩
  exact ⟨f', by omega, he⟩
theorem RunAt.step {out0 : List Nat} {T0 : List Ob} (h : RunAt s σ c n out0 T0 out T) (hσ : ∀ i ∈ σ, i < n) (hd : σ.Nodup) (hc : c < n) (hco : c ∉ out) (hx : lwho s σ out T c = some x) : RunAt s σ c n out0 T0 (lout s σ out c x) (lheap s T x) := by
  obtain ⟨f, hf, he⟩ := h.fuel
  obtain ⟨h1, h2⟩ := lwho_mem hσ hc hco hx
  have := lout_len (s := s) (σ := σ) (out := out) (c := c) (x := x)
  exact ⟨h.1.lout hσ hd c h1 h2, f, by omega, by rw [he, lrun_step hco hx]⟩
theorem RunAt.none_ {out0 : List Nat} {T0 : List Ob} (h : RunAt s σ c n out0 T0 out T) (hco : c ∉ out) (hx : lwho s σ out T c = none) : lrun s σ c (n + 1) out0 T0 = none := by
  obtain ⟨f, hf, he⟩ := h.fuel
  rw [he, lrun_none hco hx]
theorem RunAt.done {out0 : List Nat} {T0 : List Ob} (h : RunAt s σ c n out0 T0 out T) (hco : c ∈ out) : lrun s σ c (n + 1) out0 T0 = some (out, T) := by
  obtain ⟨f, hf, he⟩ := h.fuel
  rw [he, lrun_done hco]
end

/-- How many are done, read off the box. -/
def outLen (w : World) (pm : Nat) : Nat := match w.cell? ⟨pm, 3, none⟩ with
  | some (.slice _ n _) => n
  | _ => 0
theorem LineAt.outLen_eq {w0 w : World} {pm hp hb bb : Nat} {s : Nat → Sp} {p : Nat → Nat} {n : Nat} {σ : List Nat} {cs : Value} {out : List Nat} {T : List Ob} (h : LineAt w0 w pm hp hb bb s p n σ cs out T) : outLen w pm = out.length := by
  obtain ⟨ov, b1, b2⟩ := h.box
  have hc : w.cell? ⟨pm, 3, none⟩ = some ov := cell_of_block b1 3
  unfold outLen
  rw [hc]
  obtain ⟨_, ⟨rfl, h0⟩ | ⟨g, cap, cur, rfl, _⟩⟩ := b2
  · exact h0.symm
  · rfl

/-- What Line answers. -/
def LineRes (w w' : World) (e : Ending) : Option (List Nat × List Ob) → Prop
  | none => e = .returned (.tuple #[.slice none 0 0, .int .i64 270])
  | some (out, _) => ∃ v, e = .returned (.tuple #[v, .int .i64 0]) ∧ w'.ownsRow w.heap.size 3 1 v out.length (out.map fun i : Nat => Value.int .i64 i)
end Go.Proofs.Ytjaabbjobnfmmaa

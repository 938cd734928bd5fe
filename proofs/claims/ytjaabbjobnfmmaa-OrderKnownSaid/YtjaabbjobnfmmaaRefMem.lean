/-
  The document's Line: its memory.
-/
import Derived.Test.YtjaabbjobnfmmaaRLaw
import Derived.Test.YtjaabbjobnfmmaaRefOut
namespace Go.Proofs.Ytjaabbjobnfmmaa
open Go.RowKit

theorem RefIs.frT {X : Nat → Prop} {w w' : World} {p B : Nat} {L : List Ob} (h : RefIs w p B L) (hf : Fr X w w') (hp : ¬ X p) (hx : ∀ (i : Nat) (cur : Array Value), w.heap[i]? = some (.cells cur 30 (0, 0)) → ¬ X i) : RefIs w' p B L := by
  obtain ⟨v, h1, h2, h3, h4⟩ := h
  refine ⟨v, hf.at h1 hp, own_fr h2 hf (fun i hi => ?_), h3, h4⟩
  rcases h2.2 with ⟨rfl, _⟩ | ⟨g, cap, cur, rfl, hb, hgg, rest⟩
  · simp [Value.ownBlock] at hi
  · have : g = i := by simpa [Value.ownBlock] using hi
    subst this
    exact hx g cur hgg

theorem LRow.congr {w : World} {g n : Nat} {lf lf' : Nat → Bool} (h : LRow w g n lf) (e : ∀ i, i < n → lf i = lf' i) : LRow w g n lf' := by
  have : (List.range n).map lf = (List.range n).map lf' := List.map_congr_left (fun i hi => e i (List.mem_range.1 hi))
  unfold LRow at *
  rw [← this]; exact h
theorem LRow.put {w : World} {g n : Nat} {lf : Nat → Bool} (h : LRow w g n lf) (i : Nat) (b : Bool) : LRow (w.setCell ⟨g, i, none⟩ (.bool b)) g n (fun j => if j = i then b else lf j) := by
  have := BRow.set h i b
  have e : ((List.range n).map lf).set i b = (List.range n).map (fun j => if j = i then b else lf j) := by
    apply List.ext_getElem (by simp)
    intro j h1 h2
    rw [List.getElem_set]
    by_cases hij : i = j
    · subst hij; simp
    · have : ¬ j = i := fun e => hij e.symm
      simp [hij, this]
  unfold LRow
  rw [← e]
  exact this

/-- The document's Line's memory. -/
structure RLn (w0 w : World) (g p B n : Nat) (lf : Nat → Bool) (L : List Ob) (v : Value) (out : List Nat) : Prop where
  fr : Fr0 w0 w
  row : LRow w g n lf
  ref : RefIs w p B L
  own : w.ownsRow w0.heap.size 3 1 v out.length (out.map fun i : Nat => Value.int .i64 i)
  bg : w0.heap.size ≤ g
  bp : w0.heap.size ≤ p
  bB : B ≤ w.heap.size

section
variable {w0 w w' : World} {g p B n : Nat} {lf : Nat → Bool} {L L' : List Ob} {v : Value} {out : List Nat}
theorem RLn.fr0 (h : RLn w0 w g p B n lf L v out) (hf : Fr0 w w') : RLn w0 w' g p B n lf L v out :=
  ⟨h.fr.trans0 hf, h.row.fr0 hf, h.ref.fr0 hf, own_fr0 h.own hf, h.bg, h.bp, Nat.le_trans h.bB hf.size⟩
theorem RLn.pblock (h : RLn w0 w g p B n lf L v out) : ∃ u, w.heap[p]? = some (.cells #[u] 96 (0, 0)) := by
  obtain ⟨u, h1, _⟩ := h.ref
  exact ⟨u, h1⟩
theorem RLn.gp (h : RLn w0 w g p B n lf L v out) : g ≠ p := by
  intro e
  obtain ⟨u, hu⟩ := h.pblock
  have := h.row
  unfold LRow BRow at this
  rw [e, hu] at this
  simp at this
theorem RLn.deed (h : RLn w0 w g p B n lf L v out) (hf : Fr (· = p) w w') (hL : RefIs w' p B L') : RLn w0 w' g p B n lf L' v out := by
  obtain ⟨u, hu⟩ := h.pblock
  exact ⟨h.fr.trans hf (fun i hi e => by have := h.bp; subst e; omega), h.row.fr hf h.gp, hL, own_fr h.own hf (own_ne h.own hu (by decide)), h.bg, h.bp, Nat.le_trans h.bB hf.size⟩
theorem RLn.put (h : RLn w0 w g p B n lf L v out) (i : Nat) (b : Bool) : RLn w0 (w.setCell ⟨g, i, none⟩ (.bool b)) g p B n (fun j => if j = i then b else lf j) L v out := by
  have hf : Fr (fun j => j = g) w (w.setCell ⟨g, i, none⟩ (.bool b)) := Fr.setCell (X := fun j => j = g) (p := ⟨g, i, none⟩) (Fr.refl _ w) (fun _ => rfl) _
  refine ⟨h.fr.trans hf (fun j hj e => by have := h.bg; omega), h.row.put i b, h.ref.frT hf (fun e => h.gp e.symm) (fun j cur hj e => ?_), own_fr h.own hf (own_ne h.own h.row (by decide)), h.bg, h.bp, Nat.le_trans h.bB hf.size⟩
  have := h.row
  unfold LRow BRow at this
  rw [← e, hj] at this
  simp at this
theorem RLn.congr {lf' : Nat → Bool} (h : RLn w0 w g p B n lf L v out) (e : ∀ i, i < n → lf i = lf' i) : RLn w0 w g p B n lf' L v out :=
  ⟨h.fr, h.row.congr e, h.ref, h.own, h.bg, h.bp, h.bB⟩
theorem RLn.snoc (h : RLn w0 w g p B n lf L v out) {v' : Value} {o : Obj} {x : Nat} (hown : w'.ownsRow w0.heap.size 3 1 v' (out.length + 1) ((out.map fun i : Nat => Value.int .i64 i) ++ [.int .i64 x])) (hg : (w.alloc o).grownBy w' v.ownBlock) :
    RLn w0 w' g p B n lf L v' (out ++ [x]) := by
  have hb : ∀ i, some i = v.ownBlock → w0.heap.size ≤ i := fun i e => (h.own.lt i e.symm).1
  have hf : Fr (fun i => some i = v.ownBlock) w w' := (fr0_alloc w o |>.mono (fun _ _ h => h.elim)).grown hg (fun _ _ h => h)
  obtain ⟨u, hu⟩ := h.pblock
  refine ⟨h.fr.trans hf (fun i hi e => by have := hb i e; omega), h.row.fr hf (fun e => own_ne h.own h.row (by decide) g e.symm rfl), h.ref.frT hf (fun e => own_ne h.own hu (by decide) p e.symm rfl) (fun j cur hj e => own_ne h.own hj (by decide) j e.symm rfl), ?_, h.bg, h.bp, Nat.le_trans h.bB hf.size⟩
  simpa using hown
theorem RLn.cell (h : RLn w0 w g p B n lf L v out) (i : Nat) (hi : i < n) : w.cell? ⟨g, i, none⟩ = some (.bool (lf i)) := h.row.cell i hi
theorem RLn.len (h : RLn w0 w g p B n lf L v out) : ∃ a cap, v = .slice a out.length cap := by
  obtain ⟨a, g, cap, hv, _⟩ := own_form h.own
  exact ⟨a, cap, hv⟩
end
def sliceLen : Value → Nat
  | .slice _ n _ => n
  | _ => 0
theorem lfF_put (out : List Nat) (x i : Nat) : (if i = x then false else lfF out i) = lfF (out ++ [x]) i := by
  unfold lfF
  by_cases e : i = x <;> simp [e]

theorem uI_some {S : List Sp} {out : List Nat} {c : Nat} (h : uI S out = some c) : c < S.length ∧ c ∉ out := by
  refine ⟨best_lt _ h, ?_⟩
  have := best_spec' _ h
  simp [urgP, lfF] at this
  exact this.1

/-- Where the document's rounds stand. -/
structure RAt (S : List Sp) (out : List Nat) (T L : List Ob) (mo : Option Nat) (f : Nat) : Prop where
  good : Good S.length out
  al : Alike T L
  len : L.length ≤ out.length
  mo : mo = uI S out
  fuel : S.length < f + out.length
  run : lineM S = rrun S f out T
section
variable {S : List Sp} {out : List Nat} {T L : List Ob} {f c k : Nat}
theorem RAt.done (h : RAt S out T L none f) : lineM S = some out := by
  have := h.good.len
  have hf := h.fuel
  obtain ⟨f0, rfl⟩ : ∃ f0, f = f0 + 1 := ⟨f - 1, by omega⟩
  rw [h.run, rrun, ← h.mo]
theorem RAt.stop (h : RAt S out T L (some c) f) (hk : rwho S out T c = none) : lineM S = none := by
  have := h.good.len
  have hf := h.fuel
  obtain ⟨f0, rfl⟩ : ∃ f0, f = f0 + 1 := ⟨f - 1, by omega⟩
  rw [h.run, rrun, ← h.mo]
  simp only [hk]
theorem rwho_lt (hmo : uI S out = some c) (hk : rwho S out T c = some k) : k < S.length ∧ k ∉ out := by
  unfold rwho at hk
  split at hk
  · refine ⟨best_lt _ hk, ?_⟩
    have := best_spec' _ hk
    simp [hlpP, lfF] at this
    exact this.1
  · cases hk; exact uI_some hmo
theorem rpick_lt (hmo : uI S out = some c) (hk : rwho S out T c = some k) : rpick S out c k < S.length ∧ rpick S out c k ∉ out := by
  unfold rpick
  split
  · cases hb : bdI S (lfF out) c S.length with
    | none => exact rwho_lt hmo hk
    | some b =>
      refine ⟨best_lt _ hb, ?_⟩
      have := best_spec' _ hb
      simp [bdP, lfF] at this
      exact this.1
  · exact rwho_lt hmo hk
theorem RAt.step (h : RAt S out T L (some c) f) (hk : rwho S out T c = some k) {x : Nat} (hx : rpick S out c k = x) :
    ∃ f', RAt S (out ++ [x]) (lheap (spOf S) T x) (rdo L (spOf S x).d.k (spOf S x).d.x).2 (uI S (out ++ [x])) f' := by
  have := h.good.len
  have hf := h.fuel
  obtain ⟨f0, rfl⟩ : ∃ f0, f = f0 + 1 := ⟨f - 1, by omega⟩
  obtain ⟨h1, h2⟩ := rpick_lt h.mo.symm hk
  rw [hx] at h1 h2
  refine ⟨f0, h.good.snoc h1 h2, (alike_do h.al _ _).2, ?_, rfl, by simp; omega, ?_⟩
  · have h3 := rdo_length L (spOf S x).d.k (spOf S x).d.x
    have h4 := h.len
    simp; omega
  · rw [h.run, rrun, ← h.mo]
    simp only [hk, hx]
end
end Go.Proofs.Ytjaabbjobnfmmaa

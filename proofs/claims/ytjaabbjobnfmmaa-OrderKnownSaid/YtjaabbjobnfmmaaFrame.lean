/-
  A frame: what a call leaves as it was: every block of the elder world but those that are named. Plain laws on worlds; no program of this seat.
-/
import Derived.Maps.OwnSet
import Derived.WalkKit
import Derived.Deep.Draws
namespace Go.Proofs.Ytjaabbjobnfmmaa
open Go.RowKit

/-- A fact kept out of the walk's own rules. -/
theorem hid {p : Prop} (h : p) : Hid p := h

/-- w' is w with new blocks, and with changes in the blocks X alone. -/
structure Fr (X : Nat → Prop) (w w' : World) : Prop where
  os : w'.os = w.os
  tape : w'.tape = w.tape
  output : w'.output = w.output
  size : w.heap.size ≤ w'.heap.size
  block : ∀ k, k < w.heap.size → ¬ X k → w'.heap[k]? = w.heap[k]?

/-- No elder block has changed. -/
abbrev Fr0 (w w' : World) : Prop := Fr (fun _ => False) w w'

variable {X Y : Nat → Prop} {w w' a b c : World}

theorem Fr.refl (X : Nat → Prop) (w : World) : Fr X w w := ⟨rfl, rfl, rfl, Nat.le_refl _, fun _ _ _ => rfl⟩
theorem Fr.trans (h : Fr X a b) (k : Fr Y b c) (hXY : ∀ i, i < a.heap.size → Y i → X i) : Fr X a c :=
  ⟨k.os.trans h.os, k.tape.trans h.tape, k.output.trans h.output, Nat.le_trans h.size k.size,
    fun i hi hx => (k.block i (Nat.lt_of_lt_of_le hi h.size) (fun hy => hx (hXY i hi hy))).trans (h.block i hi hx)⟩
theorem Fr.trans' (h : Fr X a b) (k : Fr X b c) : Fr X a c := h.trans k (fun _ _ h => h)
theorem Fr.trans0 (h : Fr X a b) (k : Fr0 b c) : Fr X a c := h.trans k (fun _ _ h => h.elim)
theorem Fr.mono (h : Fr X w w') (hXY : ∀ i, i < w.heap.size → X i → Y i) : Fr Y w w' :=
  ⟨h.os, h.tape, h.output, h.size, fun i hi hy => h.block i hi (fun hx => hy (hXY i hi hx))⟩
theorem Fr.alloc (h : Fr X a b) (o : Obj) : Fr X a (b.alloc o) :=
  ⟨h.os, h.tape, h.output, by have := h.size; simp; omega, fun i hi hx => (Below.heap_alloc b o i (Nat.lt_of_lt_of_le hi h.size)).trans (h.block i hi hx)⟩
theorem Fr.drew (h : Fr X a b) : Fr X a b.drew := ⟨h.os, h.tape, h.output, h.size, h.block⟩
theorem Fr.drewN (h : Fr X a b) (n : Nat) : Fr X a (b.drewN n) := ⟨h.os, h.tape, h.output, h.size, h.block⟩
theorem Fr.setCell (h : Fr X a b) {p : Addr} (hp : p.block < a.heap.size → X p.block) (u : Value) : Fr X a (b.setCell p u) :=
  ⟨h.os, h.tape, h.output, by have := h.size; simpa using this, fun i hi hx => (Below.heap_setCell b p u i (fun e => hx (e ▸ hp (e ▸ hi)))).trans (h.block i hi hx)⟩
theorem Fr.of_grown {row : Option Nat} (h : w.grownBy w' row) : Fr (fun i => some i = row) w w' := ⟨h.os, h.tape, h.output, h.size, fun i hi hx => h.block i hi hx⟩
theorem Fr.grown (h : Fr X a b) {row : Option Nat} (k : b.grownBy c row) (hr : ∀ i, i < a.heap.size → some i = row → X i) : Fr X a c := h.trans (Fr.of_grown k) hr
theorem Fr.turned (h : Fr X a b) {i : Nat} (k : b.mapTurned c i) (hi : i < a.heap.size → X i) : Fr X a c :=
  h.grown k.grown (fun j hj e => by cases e; exact hi hj)
theorem Fr.below {B : Nat} (h : Fr X w w') (hX : ∀ i, i < B → ¬ X i) (hB : B ≤ w.heap.size) : Below B w w' :=
  ⟨h.os, h.tape, h.output, h.size, fun i hi => h.block i (Nat.lt_of_lt_of_le hi hB) (hX i hi)⟩
theorem Fr.of_below (h : Below w.heap.size w w') : Fr0 w w' := ⟨h.os, h.tape, h.output, h.size, fun i hi _ => h.block i hi⟩
theorem Fr.toBelow (h : Fr0 w w') : Below w.heap.size w w' := h.below (fun _ _ h => h) (Nat.le_refl _)
theorem Fr.cell (h : Fr X w w') {p : Addr} (hp : p.block < w.heap.size) (hx : ¬ X p.block) : w'.cell? p = w.cell? p := World.cell?_of_block (w := w) (h.block p.block hp hx)
theorem Fr.frozen (h : Fr X w w') {p : Addr} (hp : p.block < w.heap.size) (hx : ¬ X p.block) : w'.frozen? p = w.frozen? p := World.frozen?_of_block (w := w) (h.block p.block hp hx)
theorem Fr.lt {i : Nat} (h : Fr X w w') (hi : i < w.heap.size) : i < w'.heap.size := Nat.lt_of_lt_of_le hi h.size
/-- A block that was there stands as it stood. -/
theorem Fr.at (h : Fr X w w') {i : Nat} {o : Obj} (hi : w.heap[i]? = some o) (hx : ¬ X i) : w'.heap[i]? = some o :=
  (h.block i (Array.getElem?_eq_some_iff.1 hi).1 hx).trans hi

theorem lt_of_block {w : World} {i : Nat} {o : Obj} (h : w.heap[i]? = some o) : i < w.heap.size := (Array.getElem?_eq_some_iff.1 h).1
theorem alloc_block (w : World) (o : Obj) : (w.alloc o).heap[w.heap.size]? = some o := (MapKept.heap_alloc w o).1
theorem heap_alloc_get (w : World) (o : Obj) (i : Nat) : (w.alloc o).heap[i]? = if i = w.heap.size then some o else w.heap[i]? := by
  show (w.heap.push o)[i]? = _
  rw [Array.getElem?_push]
theorem cell_of_block {w : World} {i : Nat} {cs : Array Value} {t : TypeId} {f : Nat × Nat} (h : w.heap[i]? = some (.cells cs t f)) (j : Nat) : w.cell? ⟨i, j, none⟩ = cs[j]? := by
  simp [World.cell?, h]
theorem free_of_block {w : World} {i : Nat} {cs : Array Value} {t : TypeId} (h : w.heap[i]? = some (.cells cs t (0, 0))) (j : Nat) : w.frozen? ⟨i, j, none⟩ = false := by
  simp [World.frozen?, h]
theorem setCell_block {w : World} {i : Nat} {cs : Array Value} {t : TypeId} {f : Nat × Nat} (h : w.heap[i]? = some (.cells cs t f)) (j : Nat) (v : Value) :
    (w.setCell ⟨i, j, none⟩ v).heap[i]? = some (.cells (cs.setIfInBounds j v) t f) := by
  simp [World.setCell, Array.getElem?_modify, h]

end Go.Proofs.Ytjaabbjobnfmmaa

/-
  A slice of bools of the call's own: made, read, written.
-/
import Derived.Test.YtjaabbjobnfmmaaRow
import Derived.Test.YtjaabbjobnfmmaaRows
import Derived.Laws.MakeOwn
namespace Go.Proofs.Ytjaabbjobnfmmaa
open Go.RowKit

theorem info4 : (Try.prog.info? 4).map (fun i => (i.zero, i.size, i.bytes)) = some (some (.bool false), 1, 1) := by kernel_rfl

/-- Block g holds a row of bools. -/
def BRow (w : World) (g : Nat) (bs : List Bool) : Prop := w.heap[g]? = some (.cells (bs.map Value.bool).toArray 4 (0, 0))

section
variable {w w' : World} {g : Nat} {bs : List Bool} {X : Nat → Prop}
theorem BRow.lt (h : BRow w g bs) : g < w.heap.size := lt_of_block h
theorem BRow.fr (h : BRow w g bs) (hf : Fr X w w') (hx : ¬ X g) : BRow w' g bs := hf.at h hx
theorem BRow.fr0 (h : BRow w g bs) (hf : Fr0 w w') : BRow w' g bs := hf.at h (fun h => h)
theorem BRow.cell (h : BRow w g bs) (i : Nat) (hi : i < bs.length) : w.cell? ⟨g, i, none⟩ = some (.bool bs[i]) := by
  rw [cell_of_block h]
  simp [hi]
theorem BRow.free (h : BRow w g bs) (i : Nat) : w.frozen? ⟨g, i, none⟩ = false := free_of_block h i
theorem BRow.set (h : BRow w g bs) (i : Nat) (b : Bool) : BRow (w.setCell ⟨g, i, none⟩ (.bool b)) g (bs.set i b) := by
  have := setCell_block h i (.bool b)
  unfold BRow
  rw [this]
  congr 2
  apply Array.ext'
  simp [List.map_set]
end

theorem makeBools (n : Nat) (hn : n ≤ 1000) (w : World) :
    (Instr.makeSlice 60 (.int .i64 n) (.int .i64 n)).run Try.prog w = .ok (.slice (some ⟨w.heap.size, 0, none⟩) n n) (w.alloc (.cells ((List.replicate n false).map Value.bool).toArray 4)) := by
  obtain ⟨i0, hi, hz0, hz1, hz2⟩ := info_parts info4
  have h := run_makeSlice (P := Try.prog) w 60 4 i0 (.bool false) Try.underlying60 hi hz0 .i64 .i64 n n (by omega) (by omega) (by rw [hz1]; omega) (by rw [hz2]; omega) (by omega)
  rw [h]
  have e : madeCells (Value.bool false).cells (n * i0.size) = ((List.replicate n false).map Value.bool).toArray := by
    rw [hz1]
    apply Array.ext'
    simp [madeCells, Value.cells, Nat.mod_one]
    rw [List.map_const']
    simp
  simp only [Int.toNat_natCast, e]

theorem index60 (g n cap k : Nat) (hk : k < n) (W : World) : (Instr.indexAt 60 (.slice (some ⟨g, 0, none⟩) n cap) (.int .i64 k)).run Try.prog W = .ok (.pointer (some ⟨g, k, none⟩)) W := by
  have hs : (sizeOf 4).run Try.prog W = .ok 1 W := by go_simp
  have := index_of0 (n := n) (a := some ⟨g, 0, none⟩) Try.underlying60 W hs (fun _ => rfl) cap k hk
  simpa using this
end Go.Proofs.Ytjaabbjobnfmmaa

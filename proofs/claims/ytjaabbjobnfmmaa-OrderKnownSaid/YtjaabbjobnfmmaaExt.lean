/-
  A region that draws its order, whose operations read, and whose callees make at most new blocks: walked once. The class of worlds: all that come of one world by new blocks and draws alone.
-/
import Derived.Test.YtjaabbjobnfmmaaFrame
import Derived.Deep.QuietTactic
import Derived.BigQuiet
namespace Go.Proofs.Ytjaabbjobnfmmaa
open Go.RowKit

/-- A world that has come of w by new blocks and draws alone. -/
structure Ext (w : World) where
  out : World
  fr : Fr0 w out
instance (w : World) : Inhabited (Ext w) := ⟨⟨w, Fr.refl _ w⟩⟩

theorem wp_region_ext {P : Program} {id : Nat} {Q : Exit → Act → World → Prop} {a : Act} {w : World} {l : List Oper} (hm : P.follows .mixedOrders = true) (hB : Region.lexB .any l.toArray = true)
    (h : wpQuiet P l.toArray (fun w' => ∃ q : Ext w, w' = q.out) (fun a' => ∀ w', (∃ q : Ext w, w' = q.out) → Q .normal a' w') l a) : (Code.region id l.toArray true).wp P Q a w :=
  wp_region_quiet (C := fun w' => ∃ q : Ext w, w' = q.out) hm hB ⟨⟨w.drew, (Fr.refl _ w).drew⟩, rfl⟩ (by simpa using h)

theorem calls_ext {P : Program} {f : FuncId} {args : Array Value} {w : World} {q : Ext w} {v : Value}
    (h : Calls P f args q.out fun e w' => e = .returned v ∧ Fr0 q.out w') : Calls P f args q.out fun e w'' => e = .returned v ∧ ∃ p : Ext w, w'' = p.out :=
  h.mono fun _ w' ⟨he, hf⟩ => ⟨he, ⟨w', q.fr.trans0 hf⟩, rfl⟩

theorem Ext.cell {w : World} (q : Ext w) {a : Addr} {v : Value} (h : w.cell? a = some v) : q.out.cell? a = some v := by
  have hb : a.block < w.heap.size := World.block_lt_of_cell? w a h
  rw [q.fr.cell hb (fun h => h)]; exact h
end Go.Proofs.Ytjaabbjobnfmmaa

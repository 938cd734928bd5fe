/-
  An argument that is a slice: where it has no address its capacity is none.
-/
import Derived.Test.YtjaabbjobnfmmaaOpenB
import Derived.Test.YtjaabbjobnfmmaaOpenC
namespace Go.Proofs.Ytjaabbjobnfmmaa
open Go.ChangeShapes Go.WideShapes Go.ChangeAt Go.RowKit Go.Deep

theorem trod_none {H : Type} {enc : TypeId × Value → H} {P : Program} {W : World} {t e : TypeId} {a0 : Option Addr} {len cap : Nat} {d : DataW H} {p : List MemPlace} {base : Nat} {sp : Nat → Bool} {held : Bool} (ht : P.underlying t = some (.slice e))
    (h : DataW.Trod enc P W base sp held t (.slice a0 len cap) d p) : a0 = none → cap = 0 := by
  obtain ⟨fuel, hf⟩ := h
  intro ha
  rcases open_slice ht hf with ⟨hcs, _⟩ | ⟨a, len', cap', m, n, D, Pl, hcs, _⟩
  · simp [Value.cells] at hcs
    omega
  · simp [Value.cells] at hcs
    rw [ha] at hcs
    simp at hcs
end Go.Proofs.Ytjaabbjobnfmmaa

/-
  No cell of these rows narrows 'for every input' (looked for: loops, veiled, ifaces, maps, wideKeys, modest, calm, conditions, laid).
  DERIVED. THE GIVEN ROWS OF THIS SEAT. 7 by the template 'for every input the law returns true; each argument reads behind the call as it read before'; 0 by the template 'total and deterministic' (their statements: YthbcbnihghmniaaTotals.lean).
  GIVEN WITH THE SEED: the statements are not yours to turn. If you find one false, say at which input.
  Laid BY PROGRAM, IN A SANDBOX (cutbox-rows.mjs): the forced cells as the released guide's own fill.sh prints them over the translation b7bc575da269087d… (all of the seat's roots in one cut). By AI agents, Wed Nov 11 2026. No macro, syntax, notation, axiom, sorry.
-/
import Derived.Test.YthbcbnihghmniaaChecked
import GoSem.Claim
import GoSem.ClaimJoined
import GoSem.ClaimMapViews
import Derived.JoinedTies
import Derived.KernelRfl
namespace Go.Proofs.Ythbcbnihghmniaa
/- THE CELL 'sum', in the pinned program and in every row, IS THE sha256 OF THE DUMP (.gsa) THAT YthbcbnihghmniaaProg.lean LOADS. Nothing in Lean hashes anything: it is a label: what it is worth is what the hold of that sum in a sandbox is worth. -/
noncomputable def Try.pinned : Pinned := { name := "ythbcbnihghmniaa", sum := "b7bc575da269087de1705ae0f855667cf05f9b360f57d475259edb6767ba819f", checked := Try.checked }
namespace Rows
def none {H : Type} : Left H := { results := [], args := [] }

/-- 'wainscotlaw01.SpellNames': WHATEVER THE INPUT: true; the input reads as it did. -/
def spellNamesSpec : ChangeSpec := { name := "spellNames", fn := fun _ => fun
  | [d] => { results := [.lit (.bool true)], args := [d] }
  | _ => none }
def spellNamesRow : OpenClaim := { program := "ythbcbnihghmniaa", sum := "b7bc575da269087de1705ae0f855667cf05f9b360f57d475259edb6767ba819f", func := "wainscot/wainscotlaw01.SpellNames", spec := "spellNames", inPlace := ["internal/abi.NoEscape"], apart := false }
def SpellNamesSaid : Prop := spellNamesRow.holds Try.pinned (OpenSpec.ofChange spellNamesSpec)

/-- ITS FALSE NEIGHBOUR: 'it returns false'. Refute it at one input. -/
def spellNamesWrong : ChangeSpec := { name := "spellNames", fn := fun _ => fun
  | [d] => { results := [.lit (.bool false)], args := [d] }
  | _ => none }
def SpellNamesWrongFalsely : Prop := spellNamesRow.holds Try.pinned (OpenSpec.ofChange spellNamesWrong)

/-- 'wainscotlaw01.SpellPairs': WHATEVER THE INPUT: true; the input reads as it did. -/
def spellPairsSpec : ChangeSpec := { name := "spellPairs", fn := fun _ => fun
  | [d1, d2] => { results := [.lit (.bool true)], args := [d1, d2] }
  | _ => none }
def spellPairsRow : OpenClaim := { program := "ythbcbnihghmniaa", sum := "b7bc575da269087de1705ae0f855667cf05f9b360f57d475259edb6767ba819f", func := "wainscot/wainscotlaw01.SpellPairs", spec := "spellPairs", inPlace := ["internal/abi.NoEscape"], apart := false }
def SpellPairsSaid : Prop := spellPairsRow.holds Try.pinned (OpenSpec.ofChange spellPairsSpec)

/-- ITS FALSE NEIGHBOUR: 'it returns false'. Refute it at one input. -/
def spellPairsWrong : ChangeSpec := { name := "spellPairs", fn := fun _ => fun
  | [d1, d2] => { results := [.lit (.bool false)], args := [d1, d2] }
  | _ => none }
def SpellPairsWrongFalsely : Prop := spellPairsRow.holds Try.pinned (OpenSpec.ofChange spellPairsWrong)

/-- 'wainscotlaw01.SpellCuts': WHATEVER THE INPUT: true; the input reads as it did. -/
def spellCutsSpec : ChangeSpec := { name := "spellCuts", fn := fun _ => fun
  | [d1, d2] => { results := [.lit (.bool true)], args := [d1, d2] }
  | _ => none }
def spellCutsRow : OpenClaim := { program := "ythbcbnihghmniaa", sum := "b7bc575da269087de1705ae0f855667cf05f9b360f57d475259edb6767ba819f", func := "wainscot/wainscotlaw01.SpellCuts", spec := "spellCuts", inPlace := ["internal/abi.NoEscape"], apart := false }
def SpellCutsSaid : Prop := spellCutsRow.holds Try.pinned (OpenSpec.ofChange spellCutsSpec)

/-- ITS FALSE NEIGHBOUR: 'it returns false'. Refute it at one input. -/
def spellCutsWrong : ChangeSpec := { name := "spellCuts", fn := fun _ => fun
  | [d1, d2] => { results := [.lit (.bool false)], args := [d1, d2] }
  | _ => none }
def SpellCutsWrongFalsely : Prop := spellCutsRow.holds Try.pinned (OpenSpec.ofChange spellCutsWrong)

/-- 'wainscotlaw01.SpellFold': WHATEVER THE INPUT: true; the input reads as it did. -/
def spellFoldSpec : ChangeSpec := { name := "spellFold", fn := fun _ => fun
  | [d] => { results := [.lit (.bool true)], args := [d] }
  | _ => none }
def spellFoldRow : OpenClaim := { program := "ythbcbnihghmniaa", sum := "b7bc575da269087de1705ae0f855667cf05f9b360f57d475259edb6767ba819f", func := "wainscot/wainscotlaw01.SpellFold", spec := "spellFold", inPlace := ["internal/abi.NoEscape"], apart := false }
def SpellFoldSaid : Prop := spellFoldRow.holds Try.pinned (OpenSpec.ofChange spellFoldSpec)

/-- ITS FALSE NEIGHBOUR: 'it returns false'. Refute it at one input. -/
def spellFoldWrong : ChangeSpec := { name := "spellFold", fn := fun _ => fun
  | [d] => { results := [.lit (.bool false)], args := [d] }
  | _ => none }
def SpellFoldWrongFalsely : Prop := spellFoldRow.holds Try.pinned (OpenSpec.ofChange spellFoldWrong)

/-- 'wainscotlaw01.SpellOrder': WHATEVER THE INPUT: true; the input reads as it did. -/
def spellOrderSpec : ChangeSpec := { name := "spellOrder", fn := fun _ => fun
  | [d1, d2, d3] => { results := [.lit (.bool true)], args := [d1, d2, d3] }
  | _ => none }
def spellOrderRow : OpenClaim := { program := "ythbcbnihghmniaa", sum := "b7bc575da269087de1705ae0f855667cf05f9b360f57d475259edb6767ba819f", func := "wainscot/wainscotlaw01.SpellOrder", spec := "spellOrder", inPlace := ["internal/abi.NoEscape"], apart := false }
def SpellOrderSaid : Prop := spellOrderRow.holds Try.pinned (OpenSpec.ofChange spellOrderSpec)

/-- ITS FALSE NEIGHBOUR: 'it returns false'. Refute it at one input. -/
def spellOrderWrong : ChangeSpec := { name := "spellOrder", fn := fun _ => fun
  | [d1, d2, d3] => { results := [.lit (.bool false)], args := [d1, d2, d3] }
  | _ => none }
def SpellOrderWrongFalsely : Prop := spellOrderRow.holds Try.pinned (OpenSpec.ofChange spellOrderWrong)

/-- 'wainscotlaw01.SpellCut': WHATEVER THE INPUT: true; the input reads as it did. -/
def spellCutSpec : ChangeSpec := { name := "spellCut", fn := fun _ => fun
  | [d1, d2] => { results := [.lit (.bool true)], args := [d1, d2] }
  | _ => none }
def spellCutRow : OpenClaim := { program := "ythbcbnihghmniaa", sum := "b7bc575da269087de1705ae0f855667cf05f9b360f57d475259edb6767ba819f", func := "wainscot/wainscotlaw01.SpellCut", spec := "spellCut", inPlace := ["internal/abi.NoEscape"], apart := false }
def SpellCutSaid : Prop := spellCutRow.holds Try.pinned (OpenSpec.ofChange spellCutSpec)

/-- ITS FALSE NEIGHBOUR: 'it returns false'. Refute it at one input. -/
def spellCutWrong : ChangeSpec := { name := "spellCut", fn := fun _ => fun
  | [d1, d2] => { results := [.lit (.bool false)], args := [d1, d2] }
  | _ => none }
def SpellCutWrongFalsely : Prop := spellCutRow.holds Try.pinned (OpenSpec.ofChange spellCutWrong)

/-- 'wainscotlaw01.SpellKnown': WHATEVER THE INPUT: true; the input reads as it did. -/
def spellKnownSpec : ChangeSpec := { name := "spellKnown", fn := fun _ => fun
  | [] => { results := [.lit (.bool true)], args := [] }
  | _ => none }
def spellKnownRow : OpenClaim := { program := "ythbcbnihghmniaa", sum := "b7bc575da269087de1705ae0f855667cf05f9b360f57d475259edb6767ba819f", func := "wainscot/wainscotlaw01.SpellKnown", spec := "spellKnown", inPlace := ["internal/abi.NoEscape"], apart := false }
def SpellKnownSaid : Prop := spellKnownRow.holds Try.pinned (OpenSpec.ofChange spellKnownSpec)

/-- ITS FALSE NEIGHBOUR: 'it returns false'. Refute it at one input. -/
def spellKnownWrong : ChangeSpec := { name := "spellKnown", fn := fun _ => fun
  | [] => { results := [.lit (.bool false)], args := [] }
  | _ => none }
def SpellKnownWrongFalsely : Prop := spellKnownRow.holds Try.pinned (OpenSpec.ofChange spellKnownWrong)

/- THE SECOND FORM. 'bulk': how many values and letters a reading holds, each counted each time it is reached (what is shared counts as often as it is met; a slice's spare places count too). A statement '..UptoSaid' is the law's where the arguments, and the package variables that the reading takes, are together of bulk at most 1048576: NARROWER than '..Said'. Prove '..Said' where nothing that the law and all that it calls make is longer than what came in: it says more and counts as full. Else prove '..UptoSaid'. A law counts once. -/
mutual
def uptoBulk {H : Type} : DataW H → Nat
  | .lit (.string bytes) => bytes.length + 1
  | .lit _ => 1
  | .nil => 1
  | .ptr d => uptoBulk d + 1
  | .slice elems spare => uptoBulkAll elems + uptoBulkAll spare + 1
  | .agg parts => uptoBulkAll parts + 1
  | .iface _ d => uptoBulk d + 1
  | .map entries => uptoBulkEntries entries + 1
  | .held _ => 1
def uptoBulkAll {H : Type} : List (DataW H) → Nat
  | [] => 0
  | d :: r => uptoBulk d + uptoBulkAll r
def uptoBulkEntries {H : Type} : List (Lit × DataW H) → Nat
  | [] => 0
  | x :: r => uptoBulkEntry x + uptoBulkEntries r
def uptoBulkEntry {H : Type} : Lit × DataW H → Nat
  | (.string bytes, d) => bytes.length + uptoBulk d + 1
  | (_, d) => uptoBulk d + 1
 end
def uptoSmall : (H : Type) → List (DataW H) → Bool := fun _ ds => decide (uptoBulkAll ds ≤ 1048576)
def OpenSpec.upto (s : _root_.Go.ChangeSpec) : _root_.Go.OpenSpec := { _root_.Go.OpenSpec.ofChange s with cond := some uptoSmall }

/-- 'wainscotlaw01.SpellNames', WHERE WHAT IT READS IS OF BULK AT MOST 1048576: true; the input reads as it did. -/
def spellNamesUptoRow : OpenClaim := { program := "ythbcbnihghmniaa", sum := "b7bc575da269087de1705ae0f855667cf05f9b360f57d475259edb6767ba819f", func := "wainscot/wainscotlaw01.SpellNames", spec := "spellNames", inPlace := ["internal/abi.NoEscape"], apart := false, narrowed := true }
def SpellNamesUptoSaid : Prop := spellNamesUptoRow.holds Try.pinned (OpenSpec.upto spellNamesSpec)

/-- 'wainscotlaw01.SpellPairs', WHERE WHAT IT READS IS OF BULK AT MOST 1048576: true; the input reads as it did. -/
def spellPairsUptoRow : OpenClaim := { program := "ythbcbnihghmniaa", sum := "b7bc575da269087de1705ae0f855667cf05f9b360f57d475259edb6767ba819f", func := "wainscot/wainscotlaw01.SpellPairs", spec := "spellPairs", inPlace := ["internal/abi.NoEscape"], apart := false, narrowed := true }
def SpellPairsUptoSaid : Prop := spellPairsUptoRow.holds Try.pinned (OpenSpec.upto spellPairsSpec)

/-- 'wainscotlaw01.SpellCuts', WHERE WHAT IT READS IS OF BULK AT MOST 1048576: true; the input reads as it did. -/
def spellCutsUptoRow : OpenClaim := { program := "ythbcbnihghmniaa", sum := "b7bc575da269087de1705ae0f855667cf05f9b360f57d475259edb6767ba819f", func := "wainscot/wainscotlaw01.SpellCuts", spec := "spellCuts", inPlace := ["internal/abi.NoEscape"], apart := false, narrowed := true }
def SpellCutsUptoSaid : Prop := spellCutsUptoRow.holds Try.pinned (OpenSpec.upto spellCutsSpec)

/-- 'wainscotlaw01.SpellFold', WHERE WHAT IT READS IS OF BULK AT MOST 1048576: true; the input reads as it did. -/
def spellFoldUptoRow : OpenClaim := { program := "ythbcbnihghmniaa", sum := "b7bc575da269087de1705ae0f855667cf05f9b360f57d475259edb6767ba819f", func := "wainscot/wainscotlaw01.SpellFold", spec := "spellFold", inPlace := ["internal/abi.NoEscape"], apart := false, narrowed := true }
def SpellFoldUptoSaid : Prop := spellFoldUptoRow.holds Try.pinned (OpenSpec.upto spellFoldSpec)

/-- 'wainscotlaw01.SpellOrder', WHERE WHAT IT READS IS OF BULK AT MOST 1048576: true; the input reads as it did. -/
def spellOrderUptoRow : OpenClaim := { program := "ythbcbnihghmniaa", sum := "b7bc575da269087de1705ae0f855667cf05f9b360f57d475259edb6767ba819f", func := "wainscot/wainscotlaw01.SpellOrder", spec := "spellOrder", inPlace := ["internal/abi.NoEscape"], apart := false, narrowed := true }
def SpellOrderUptoSaid : Prop := spellOrderUptoRow.holds Try.pinned (OpenSpec.upto spellOrderSpec)

/-- 'wainscotlaw01.SpellCut', WHERE WHAT IT READS IS OF BULK AT MOST 1048576: true; the input reads as it did. -/
def spellCutUptoRow : OpenClaim := { program := "ythbcbnihghmniaa", sum := "b7bc575da269087de1705ae0f855667cf05f9b360f57d475259edb6767ba819f", func := "wainscot/wainscotlaw01.SpellCut", spec := "spellCut", inPlace := ["internal/abi.NoEscape"], apart := false, narrowed := true }
def SpellCutUptoSaid : Prop := spellCutUptoRow.holds Try.pinned (OpenSpec.upto spellCutSpec)

/-- 'wainscotlaw01.SpellKnown', WHERE WHAT IT READS IS OF BULK AT MOST 1048576: true; the input reads as it did. -/
def spellKnownUptoRow : OpenClaim := { program := "ythbcbnihghmniaa", sum := "b7bc575da269087de1705ae0f855667cf05f9b360f57d475259edb6767ba819f", func := "wainscot/wainscotlaw01.SpellKnown", spec := "spellKnown", inPlace := ["internal/abi.NoEscape"], apart := false, narrowed := true }
def SpellKnownUptoSaid : Prop := spellKnownUptoRow.holds Try.pinned (OpenSpec.upto spellKnownSpec)

end Rows
end Go.Proofs.Ythbcbnihghmniaa

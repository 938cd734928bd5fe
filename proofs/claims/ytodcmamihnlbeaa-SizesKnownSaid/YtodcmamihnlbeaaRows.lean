/-
  No cell of these rows narrows 'for every input' (looked for: loops, veiled, ifaces, maps, wideKeys, modest, calm, conditions, laid).
  DERIVED. THE GIVEN ROWS OF THIS SEAT. 4 by the template 'for every input the law returns true; each argument reads behind the call as it read before'; 0 by the template 'total and deterministic' (their statements: YtodcmamihnlbeaaTotals.lean).
  GIVEN WITH THE SEED: the statements are not yours to turn. If you find one false, say at which input.
  Laid BY PROGRAM, IN A SANDBOX (cutbox-rows.mjs): the forced cells as the released guide's own fill.sh prints them over the translation bf01a73e9bc4d671… (all of the seat's roots in one cut). By AI agents, Wed Nov 11 2026. No macro, syntax, notation, axiom, sorry.
-/
import Derived.Test.YtodcmamihnlbeaaChecked
import GoSem.Claim
import GoSem.ClaimJoined
import GoSem.ClaimMapViews
import Derived.JoinedTies
import Derived.KernelRfl
namespace Go.Proofs.Ytodcmamihnlbeaa
/- THE CELL 'sum', in the pinned program and in every row, IS THE sha256 OF THE DUMP (.gsa) THAT YtodcmamihnlbeaaProg.lean LOADS. Nothing in Lean hashes anything: it is a label: what it is worth is what the hold of that sum in a sandbox is worth. -/
noncomputable def Try.pinned : Pinned := { name := "ytodcmamihnlbeaa", sum := "bf01a73e9bc4d671b17269285866be54e233c89bc4ec3e2601758a0092edecc0", checked := Try.checked }
namespace Rows
def none {H : Type} : Left H := { results := [], args := [] }

/-- 'wainscotlaw19.SizesAnswers': WHATEVER THE INPUT: true; the input reads as it did. -/
def sizesAnswersSpec : ChangeSpec := { name := "sizesAnswers", fn := fun _ => fun
  | [d] => { results := [.lit (.bool true)], args := [d] }
  | _ => none }
def sizesAnswersRow : OpenClaim := { program := "ytodcmamihnlbeaa", sum := "bf01a73e9bc4d671b17269285866be54e233c89bc4ec3e2601758a0092edecc0", func := "wainscot/wainscotlaw19.SizesAnswers", spec := "sizesAnswers", apart := false }
def SizesAnswersSaid : Prop := sizesAnswersRow.holds Try.pinned (OpenSpec.ofChange sizesAnswersSpec)

/-- ITS FALSE NEIGHBOUR: 'it returns false'. Refute it at one input. -/
def sizesAnswersWrong : ChangeSpec := { name := "sizesAnswers", fn := fun _ => fun
  | [d] => { results := [.lit (.bool false)], args := [d] }
  | _ => none }
def SizesAnswersWrongFalsely : Prop := sizesAnswersRow.holds Try.pinned (OpenSpec.ofChange sizesAnswersWrong)

/-- 'wainscotlaw19.SizesFit': WHATEVER THE INPUT: true; the input reads as it did. -/
def sizesFitSpec : ChangeSpec := { name := "sizesFit", fn := fun _ => fun
  | [d1, d2] => { results := [.lit (.bool true)], args := [d1, d2] }
  | _ => none }
def sizesFitRow : OpenClaim := { program := "ytodcmamihnlbeaa", sum := "bf01a73e9bc4d671b17269285866be54e233c89bc4ec3e2601758a0092edecc0", func := "wainscot/wainscotlaw19.SizesFit", spec := "sizesFit", apart := false }
def SizesFitSaid : Prop := sizesFitRow.holds Try.pinned (OpenSpec.ofChange sizesFitSpec)

/-- ITS FALSE NEIGHBOUR: 'it returns false'. Refute it at one input. -/
def sizesFitWrong : ChangeSpec := { name := "sizesFit", fn := fun _ => fun
  | [d1, d2] => { results := [.lit (.bool false)], args := [d1, d2] }
  | _ => none }
def SizesFitWrongFalsely : Prop := sizesFitRow.holds Try.pinned (OpenSpec.ofChange sizesFitWrong)

/-- 'wainscotlaw19.SizesSpecs': WHATEVER THE INPUT: true; the input reads as it did. -/
def sizesSpecsSpec : ChangeSpec := { name := "sizesSpecs", fn := fun _ => fun
  | [d1, d2] => { results := [.lit (.bool true)], args := [d1, d2] }
  | _ => none }
def sizesSpecsRow : OpenClaim := { program := "ytodcmamihnlbeaa", sum := "bf01a73e9bc4d671b17269285866be54e233c89bc4ec3e2601758a0092edecc0", func := "wainscot/wainscotlaw19.SizesSpecs", spec := "sizesSpecs", apart := false }
def SizesSpecsSaid : Prop := sizesSpecsRow.holds Try.pinned (OpenSpec.ofChange sizesSpecsSpec)

/-- ITS FALSE NEIGHBOUR: 'it returns false'. Refute it at one input. -/
def sizesSpecsWrong : ChangeSpec := { name := "sizesSpecs", fn := fun _ => fun
  | [d1, d2] => { results := [.lit (.bool false)], args := [d1, d2] }
  | _ => none }
def SizesSpecsWrongFalsely : Prop := sizesSpecsRow.holds Try.pinned (OpenSpec.ofChange sizesSpecsWrong)

/-- 'wainscotlaw19.SizesKnown': WHATEVER THE INPUT: true; the input reads as it did. -/
def sizesKnownSpec : ChangeSpec := { name := "sizesKnown", fn := fun _ => fun
  | [] => { results := [.lit (.bool true)], args := [] }
  | _ => none }
def sizesKnownRow : OpenClaim := { program := "ytodcmamihnlbeaa", sum := "bf01a73e9bc4d671b17269285866be54e233c89bc4ec3e2601758a0092edecc0", func := "wainscot/wainscotlaw19.SizesKnown", spec := "sizesKnown", apart := false }
def SizesKnownSaid : Prop := sizesKnownRow.holds Try.pinned (OpenSpec.ofChange sizesKnownSpec)

/-- ITS FALSE NEIGHBOUR: 'it returns false'. Refute it at one input. -/
def sizesKnownWrong : ChangeSpec := { name := "sizesKnown", fn := fun _ => fun
  | [] => { results := [.lit (.bool false)], args := [] }
  | _ => none }
def SizesKnownWrongFalsely : Prop := sizesKnownRow.holds Try.pinned (OpenSpec.ofChange sizesKnownWrong)

/- THE SECOND FORM. 'bulk': how many values and letters a reading holds, each counted each time it is reached (what is shared counts as often as it is met; a slice's spare places count too). A statement '..UptoSaid' is the law's where the arguments, and the package variables that the reading takes, are together of bulk at most 1048576: NARROWER than '..Said'. Prove '..Said' where nothing that the law and all that it calls make is longer than what came in: it says more and counts as full. Else prove '..UptoSaid'. A law counts once. -/
mutual
def uptoBulk {H : Type} : DataW H → Nat
  | .lit (.string bytes) => bytes.length + 1
  | .lit _ => 1
  | .nil => 1
  | .ptr d => uptoBulk d + 1
  | .slice elems spare => uptoBulkAll elems + uptoBulkAll spare + 1
  | .agg parts => uptoBulkAll parts + 1
  | .iface _ d => uptoBulk d + 1
  | .map entries => uptoBulkEntries entries + 1
  | .held _ => 1
def uptoBulkAll {H : Type} : List (DataW H) → Nat
  | [] => 0
  | d :: r => uptoBulk d + uptoBulkAll r
def uptoBulkEntries {H : Type} : List (Lit × DataW H) → Nat
  | [] => 0
  | x :: r => uptoBulkEntry x + uptoBulkEntries r
def uptoBulkEntry {H : Type} : Lit × DataW H → Nat
  | (.string bytes, d) => bytes.length + uptoBulk d + 1
  | (_, d) => uptoBulk d + 1
 end
def uptoSmall : (H : Type) → List (DataW H) → Bool := fun _ ds => decide (uptoBulkAll ds ≤ 1048576)
def OpenSpec.upto (s : _root_.Go.ChangeSpec) : _root_.Go.OpenSpec := { _root_.Go.OpenSpec.ofChange s with cond := some uptoSmall }

/-- 'wainscotlaw19.SizesAnswers', WHERE WHAT IT READS IS OF BULK AT MOST 1048576: true; the input reads as it did. -/
def sizesAnswersUptoRow : OpenClaim := { program := "ytodcmamihnlbeaa", sum := "bf01a73e9bc4d671b17269285866be54e233c89bc4ec3e2601758a0092edecc0", func := "wainscot/wainscotlaw19.SizesAnswers", spec := "sizesAnswers", apart := false, narrowed := true }
def SizesAnswersUptoSaid : Prop := sizesAnswersUptoRow.holds Try.pinned (OpenSpec.upto sizesAnswersSpec)

/-- 'wainscotlaw19.SizesFit', WHERE WHAT IT READS IS OF BULK AT MOST 1048576: true; the input reads as it did. -/
def sizesFitUptoRow : OpenClaim := { program := "ytodcmamihnlbeaa", sum := "bf01a73e9bc4d671b17269285866be54e233c89bc4ec3e2601758a0092edecc0", func := "wainscot/wainscotlaw19.SizesFit", spec := "sizesFit", apart := false, narrowed := true }
def SizesFitUptoSaid : Prop := sizesFitUptoRow.holds Try.pinned (OpenSpec.upto sizesFitSpec)

/-- 'wainscotlaw19.SizesSpecs', WHERE WHAT IT READS IS OF BULK AT MOST 1048576: true; the input reads as it did. -/
def sizesSpecsUptoRow : OpenClaim := { program := "ytodcmamihnlbeaa", sum := "bf01a73e9bc4d671b17269285866be54e233c89bc4ec3e2601758a0092edecc0", func := "wainscot/wainscotlaw19.SizesSpecs", spec := "sizesSpecs", apart := false, narrowed := true }
def SizesSpecsUptoSaid : Prop := sizesSpecsUptoRow.holds Try.pinned (OpenSpec.upto sizesSpecsSpec)

/-- 'wainscotlaw19.SizesKnown', WHERE WHAT IT READS IS OF BULK AT MOST 1048576: true; the input reads as it did. -/
def sizesKnownUptoRow : OpenClaim := { program := "ytodcmamihnlbeaa", sum := "bf01a73e9bc4d671b17269285866be54e233c89bc4ec3e2601758a0092edecc0", func := "wainscot/wainscotlaw19.SizesKnown", spec := "sizesKnown", apart := false, narrowed := true }
def SizesKnownUptoSaid : Prop := sizesKnownUptoRow.holds Try.pinned (OpenSpec.upto sizesKnownSpec)

end Rows
end Go.Proofs.Ytodcmamihnlbeaa

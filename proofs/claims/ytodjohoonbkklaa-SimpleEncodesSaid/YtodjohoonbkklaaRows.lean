/-
  No cell of these rows narrows 'for every input' (looked for: loops, veiled, ifaces, maps, wideKeys, modest, calm, conditions, laid).
  DERIVED. THE GIVEN ROWS OF THIS SEAT. 12 by the template 'for every input the law returns true; each argument reads behind the call as it read before'; 0 by the template 'total and deterministic' (their statements: YtodjohoonbkklaaTotals.lean).
  GIVEN WITH THE SEED: the statements are not yours to turn. If you find one false, say at which input.
  Laid BY PROGRAM, IN A SANDBOX (cutbox-rows.mjs): the forced cells as the released guide's own fill.sh prints them over the translation 3b6e4f674e70c356… (all of the seat's roots in one cut). By AI agents, Wed Nov 11 2026. No macro, syntax, notation, axiom, sorry.
-/
import Derived.Test.YtodjohoonbkklaaChecked
import GoSem.Claim
import GoSem.ClaimJoined
import GoSem.ClaimMapViews
import Derived.JoinedTies
import Derived.KernelRfl
namespace Go.Proofs.Ytodjohoonbkklaa
/- THE CELL 'sum', in the pinned program and in every row, IS THE sha256 OF THE DUMP (.gsa) THAT YtodjohoonbkklaaProg.lean LOADS. Nothing in Lean hashes anything: it is a label: what it is worth is what the hold of that sum in a sandbox is worth. -/
noncomputable def Try.pinned : Pinned := { name := "ytodjohoonbkklaa", sum := "3b6e4f674e70c356c54bd4b23a113c8957048aedda2c3ccd8f5699ef222ebc43", checked := Try.checked }
namespace Rows
def none {H : Type} : Left H := { results := [], args := [] }

/-- 'seriflaw12.ComposeDecodes': WHATEVER THE INPUT: true; the input reads as it did. -/
def composeDecodesSpec : ChangeSpec := { name := "composeDecodes", fn := fun _ => fun
  | [d] => { results := [.lit (.bool true)], args := [d] }
  | _ => none }
def composeDecodesRow : OpenClaim := { program := "ytodjohoonbkklaa", sum := "3b6e4f674e70c356c54bd4b23a113c8957048aedda2c3ccd8f5699ef222ebc43", func := "serif/seriflaw12.ComposeDecodes", spec := "composeDecodes", unfollowed := true, recurses := true, apart := false }
def ComposeDecodesSaid : Prop := composeDecodesRow.holds Try.pinned (OpenSpec.ofChange composeDecodesSpec)

/-- ITS FALSE NEIGHBOUR: 'it returns false'. Refute it at one input. -/
def composeDecodesWrong : ChangeSpec := { name := "composeDecodes", fn := fun _ => fun
  | [d] => { results := [.lit (.bool false)], args := [d] }
  | _ => none }
def ComposeDecodesWrongFalsely : Prop := composeDecodesRow.holds Try.pinned (OpenSpec.ofChange composeDecodesWrong)

/-- 'seriflaw12.ComposeEncodes': WHATEVER THE INPUT: true; the input reads as it did. -/
def composeEncodesSpec : ChangeSpec := { name := "composeEncodes", fn := fun _ => fun
  | [d] => { results := [.lit (.bool true)], args := [d] }
  | _ => none }
def composeEncodesRow : OpenClaim := { program := "ytodjohoonbkklaa", sum := "3b6e4f674e70c356c54bd4b23a113c8957048aedda2c3ccd8f5699ef222ebc43", func := "serif/seriflaw12.ComposeEncodes", spec := "composeEncodes", unfollowed := true, recurses := true, apart := false }
def ComposeEncodesSaid : Prop := composeEncodesRow.holds Try.pinned (OpenSpec.ofChange composeEncodesSpec)

/-- ITS FALSE NEIGHBOUR: 'it returns false'. Refute it at one input. -/
def composeEncodesWrong : ChangeSpec := { name := "composeEncodes", fn := fun _ => fun
  | [d] => { results := [.lit (.bool false)], args := [d] }
  | _ => none }
def ComposeEncodesWrongFalsely : Prop := composeEncodesRow.holds Try.pinned (OpenSpec.ofChange composeEncodesWrong)

/-- 'seriflaw12.ComposeBack': WHATEVER THE INPUT: true; the input reads as it did. -/
def composeBackSpec : ChangeSpec := { name := "composeBack", fn := fun _ => fun
  | [d1, d2] => { results := [.lit (.bool true)], args := [d1, d2] }
  | _ => none }
def composeBackRow : OpenClaim := { program := "ytodjohoonbkklaa", sum := "3b6e4f674e70c356c54bd4b23a113c8957048aedda2c3ccd8f5699ef222ebc43", func := "serif/seriflaw12.ComposeBack", spec := "composeBack", unfollowed := true, recurses := true, apart := false }
def ComposeBackSaid : Prop := composeBackRow.holds Try.pinned (OpenSpec.ofChange composeBackSpec)

/-- ITS FALSE NEIGHBOUR: 'it returns false'. Refute it at one input. -/
def composeBackWrong : ChangeSpec := { name := "composeBack", fn := fun _ => fun
  | [d1, d2] => { results := [.lit (.bool false)], args := [d1, d2] }
  | _ => none }
def ComposeBackWrongFalsely : Prop := composeBackRow.holds Try.pinned (OpenSpec.ofChange composeBackWrong)

/-- 'seriflaw12.ComposePlain': WHATEVER THE INPUT: true; the input reads as it did. -/
def composePlainSpec : ChangeSpec := { name := "composePlain", fn := fun _ => fun
  | [d1, d2, d3] => { results := [.lit (.bool true)], args := [d1, d2, d3] }
  | _ => none }
def composePlainRow : OpenClaim := { program := "ytodjohoonbkklaa", sum := "3b6e4f674e70c356c54bd4b23a113c8957048aedda2c3ccd8f5699ef222ebc43", func := "serif/seriflaw12.ComposePlain", spec := "composePlain", unfollowed := true, recurses := true, apart := false }
def ComposePlainSaid : Prop := composePlainRow.holds Try.pinned (OpenSpec.ofChange composePlainSpec)

/-- ITS FALSE NEIGHBOUR: 'it returns false'. Refute it at one input. -/
def composePlainWrong : ChangeSpec := { name := "composePlain", fn := fun _ => fun
  | [d1, d2, d3] => { results := [.lit (.bool false)], args := [d1, d2, d3] }
  | _ => none }
def ComposePlainWrongFalsely : Prop := composePlainRow.holds Try.pinned (OpenSpec.ofChange composePlainWrong)

/-- 'seriflaw10.OutlineChecks': WHATEVER THE INPUT: true; the input reads as it did. -/
def outlineChecksSpec : ChangeSpec := { name := "outlineChecks", fn := fun _ => fun
  | [d] => { results := [.lit (.bool true)], args := [d] }
  | _ => none }
def outlineChecksRow : OpenClaim := { program := "ytodjohoonbkklaa", sum := "3b6e4f674e70c356c54bd4b23a113c8957048aedda2c3ccd8f5699ef222ebc43", func := "serif/seriflaw10.OutlineChecks", spec := "outlineChecks", unfollowed := true, recurses := true, apart := false }
def OutlineChecksSaid : Prop := outlineChecksRow.holds Try.pinned (OpenSpec.ofChange outlineChecksSpec)

/-- ITS FALSE NEIGHBOUR: 'it returns false'. Refute it at one input. -/
def outlineChecksWrong : ChangeSpec := { name := "outlineChecks", fn := fun _ => fun
  | [d] => { results := [.lit (.bool false)], args := [d] }
  | _ => none }
def OutlineChecksWrongFalsely : Prop := outlineChecksRow.holds Try.pinned (OpenSpec.ofChange outlineChecksWrong)

/-- 'seriflaw10.OutlineExplicits': WHATEVER THE INPUT: true; the input reads as it did. -/
def outlineExplicitsSpec : ChangeSpec := { name := "outlineExplicits", fn := fun _ => fun
  | [d] => { results := [.lit (.bool true)], args := [d] }
  | _ => none }
def outlineExplicitsRow : OpenClaim := { program := "ytodjohoonbkklaa", sum := "3b6e4f674e70c356c54bd4b23a113c8957048aedda2c3ccd8f5699ef222ebc43", func := "serif/seriflaw10.OutlineExplicits", spec := "outlineExplicits", unfollowed := true, recurses := true, apart := false }
def OutlineExplicitsSaid : Prop := outlineExplicitsRow.holds Try.pinned (OpenSpec.ofChange outlineExplicitsSpec)

/-- ITS FALSE NEIGHBOUR: 'it returns false'. Refute it at one input. -/
def outlineExplicitsWrong : ChangeSpec := { name := "outlineExplicits", fn := fun _ => fun
  | [d] => { results := [.lit (.bool false)], args := [d] }
  | _ => none }
def OutlineExplicitsWrongFalsely : Prop := outlineExplicitsRow.holds Try.pinned (OpenSpec.ofChange outlineExplicitsWrong)

/-- 'seriflaw10.OutlineCurves': WHATEVER THE INPUT: true; the input reads as it did. -/
def outlineCurvesSpec : ChangeSpec := { name := "outlineCurves", fn := fun _ => fun
  | [d1, d2] => { results := [.lit (.bool true)], args := [d1, d2] }
  | _ => none }
def outlineCurvesRow : OpenClaim := { program := "ytodjohoonbkklaa", sum := "3b6e4f674e70c356c54bd4b23a113c8957048aedda2c3ccd8f5699ef222ebc43", func := "serif/seriflaw10.OutlineCurves", spec := "outlineCurves", unfollowed := true, recurses := true, apart := false }
def OutlineCurvesSaid : Prop := outlineCurvesRow.holds Try.pinned (OpenSpec.ofChange outlineCurvesSpec)

/-- ITS FALSE NEIGHBOUR: 'it returns false'. Refute it at one input. -/
def outlineCurvesWrong : ChangeSpec := { name := "outlineCurves", fn := fun _ => fun
  | [d1, d2] => { results := [.lit (.bool false)], args := [d1, d2] }
  | _ => none }
def OutlineCurvesWrongFalsely : Prop := outlineCurvesRow.holds Try.pinned (OpenSpec.ofChange outlineCurvesWrong)

/-- 'seriflaw10.OutlineJoins': WHATEVER THE INPUT: true; the input reads as it did. -/
def outlineJoinsSpec : ChangeSpec := { name := "outlineJoins", fn := fun _ => fun
  | [d1, d2] => { results := [.lit (.bool true)], args := [d1, d2] }
  | _ => none }
def outlineJoinsRow : OpenClaim := { program := "ytodjohoonbkklaa", sum := "3b6e4f674e70c356c54bd4b23a113c8957048aedda2c3ccd8f5699ef222ebc43", func := "serif/seriflaw10.OutlineJoins", spec := "outlineJoins", unfollowed := true, recurses := true, apart := false }
def OutlineJoinsSaid : Prop := outlineJoinsRow.holds Try.pinned (OpenSpec.ofChange outlineJoinsSpec)

/-- ITS FALSE NEIGHBOUR: 'it returns false'. Refute it at one input. -/
def outlineJoinsWrong : ChangeSpec := { name := "outlineJoins", fn := fun _ => fun
  | [d1, d2] => { results := [.lit (.bool false)], args := [d1, d2] }
  | _ => none }
def OutlineJoinsWrongFalsely : Prop := outlineJoinsRow.holds Try.pinned (OpenSpec.ofChange outlineJoinsWrong)

/-- 'seriflaw11.SimpleDecodes': WHATEVER THE INPUT: true; the input reads as it did. -/
def simpleDecodesSpec : ChangeSpec := { name := "simpleDecodes", fn := fun _ => fun
  | [d] => { results := [.lit (.bool true)], args := [d] }
  | _ => none }
def simpleDecodesRow : OpenClaim := { program := "ytodjohoonbkklaa", sum := "3b6e4f674e70c356c54bd4b23a113c8957048aedda2c3ccd8f5699ef222ebc43", func := "serif/seriflaw11.SimpleDecodes", spec := "simpleDecodes", unfollowed := true, recurses := true, apart := false }
def SimpleDecodesSaid : Prop := simpleDecodesRow.holds Try.pinned (OpenSpec.ofChange simpleDecodesSpec)

/-- ITS FALSE NEIGHBOUR: 'it returns false'. Refute it at one input. -/
def simpleDecodesWrong : ChangeSpec := { name := "simpleDecodes", fn := fun _ => fun
  | [d] => { results := [.lit (.bool false)], args := [d] }
  | _ => none }
def SimpleDecodesWrongFalsely : Prop := simpleDecodesRow.holds Try.pinned (OpenSpec.ofChange simpleDecodesWrong)

/-- 'seriflaw11.SimpleEncodes': WHATEVER THE INPUT: true; the input reads as it did. -/
def simpleEncodesSpec : ChangeSpec := { name := "simpleEncodes", fn := fun _ => fun
  | [d] => { results := [.lit (.bool true)], args := [d] }
  | _ => none }
def simpleEncodesRow : OpenClaim := { program := "ytodjohoonbkklaa", sum := "3b6e4f674e70c356c54bd4b23a113c8957048aedda2c3ccd8f5699ef222ebc43", func := "serif/seriflaw11.SimpleEncodes", spec := "simpleEncodes", unfollowed := true, recurses := true, apart := false }
def SimpleEncodesSaid : Prop := simpleEncodesRow.holds Try.pinned (OpenSpec.ofChange simpleEncodesSpec)

/-- ITS FALSE NEIGHBOUR: 'it returns false'. Refute it at one input. -/
def simpleEncodesWrong : ChangeSpec := { name := "simpleEncodes", fn := fun _ => fun
  | [d] => { results := [.lit (.bool false)], args := [d] }
  | _ => none }
def SimpleEncodesWrongFalsely : Prop := simpleEncodesRow.holds Try.pinned (OpenSpec.ofChange simpleEncodesWrong)

/-- 'seriflaw11.SimpleBack': WHATEVER THE INPUT: true; the input reads as it did. -/
def simpleBackSpec : ChangeSpec := { name := "simpleBack", fn := fun _ => fun
  | [d1, d2] => { results := [.lit (.bool true)], args := [d1, d2] }
  | _ => none }
def simpleBackRow : OpenClaim := { program := "ytodjohoonbkklaa", sum := "3b6e4f674e70c356c54bd4b23a113c8957048aedda2c3ccd8f5699ef222ebc43", func := "serif/seriflaw11.SimpleBack", spec := "simpleBack", unfollowed := true, recurses := true, apart := false }
def SimpleBackSaid : Prop := simpleBackRow.holds Try.pinned (OpenSpec.ofChange simpleBackSpec)

/-- ITS FALSE NEIGHBOUR: 'it returns false'. Refute it at one input. -/
def simpleBackWrong : ChangeSpec := { name := "simpleBack", fn := fun _ => fun
  | [d1, d2] => { results := [.lit (.bool false)], args := [d1, d2] }
  | _ => none }
def SimpleBackWrongFalsely : Prop := simpleBackRow.holds Try.pinned (OpenSpec.ofChange simpleBackWrong)

/-- 'seriflaw11.SimpleCuts': WHATEVER THE INPUT: true; the input reads as it did. -/
def simpleCutsSpec : ChangeSpec := { name := "simpleCuts", fn := fun _ => fun
  | [d1, d2] => { results := [.lit (.bool true)], args := [d1, d2] }
  | _ => none }
def simpleCutsRow : OpenClaim := { program := "ytodjohoonbkklaa", sum := "3b6e4f674e70c356c54bd4b23a113c8957048aedda2c3ccd8f5699ef222ebc43", func := "serif/seriflaw11.SimpleCuts", spec := "simpleCuts", unfollowed := true, recurses := true, apart := false }
def SimpleCutsSaid : Prop := simpleCutsRow.holds Try.pinned (OpenSpec.ofChange simpleCutsSpec)

/-- ITS FALSE NEIGHBOUR: 'it returns false'. Refute it at one input. -/
def simpleCutsWrong : ChangeSpec := { name := "simpleCuts", fn := fun _ => fun
  | [d1, d2] => { results := [.lit (.bool false)], args := [d1, d2] }
  | _ => none }
def SimpleCutsWrongFalsely : Prop := simpleCutsRow.holds Try.pinned (OpenSpec.ofChange simpleCutsWrong)

/- THE SECOND FORM. 'bulk': how many values and letters a reading holds, each counted each time it is reached (what is shared counts as often as it is met; a slice's spare places count too). A statement '..UptoSaid' is the law's where the arguments, and the package variables that the reading takes, are together of bulk at most 1048576: NARROWER than '..Said'. Prove '..Said' where nothing that the law and all that it calls make is longer than what came in: it says more and counts as full. Else prove '..UptoSaid'. A law counts once. -/
mutual
def uptoBulk {H : Type} : DataW H → Nat
  | .lit (.string bytes) => bytes.length + 1
  | .lit _ => 1
  | .nil => 1
  | .ptr d => uptoBulk d + 1
  | .slice elems spare => uptoBulkAll elems + uptoBulkAll spare + 1
  | .agg parts => uptoBulkAll parts + 1
  | .iface _ d => uptoBulk d + 1
  | .map entries => uptoBulkEntries entries + 1
  | .held _ => 1
def uptoBulkAll {H : Type} : List (DataW H) → Nat
  | [] => 0
  | d :: r => uptoBulk d + uptoBulkAll r
def uptoBulkEntries {H : Type} : List (Lit × DataW H) → Nat
  | [] => 0
  | x :: r => uptoBulkEntry x + uptoBulkEntries r
def uptoBulkEntry {H : Type} : Lit × DataW H → Nat
  | (.string bytes, d) => bytes.length + uptoBulk d + 1
  | (_, d) => uptoBulk d + 1
 end
def uptoSmall : (H : Type) → List (DataW H) → Bool := fun _ ds => decide (uptoBulkAll ds ≤ 1048576)
def OpenSpec.upto (s : _root_.Go.ChangeSpec) : _root_.Go.OpenSpec := { _root_.Go.OpenSpec.ofChange s with cond := some uptoSmall }

/-- 'seriflaw12.ComposeDecodes', WHERE WHAT IT READS IS OF BULK AT MOST 1048576: true; the input reads as it did. -/
def composeDecodesUptoRow : OpenClaim := { program := "ytodjohoonbkklaa", sum := "3b6e4f674e70c356c54bd4b23a113c8957048aedda2c3ccd8f5699ef222ebc43", func := "serif/seriflaw12.ComposeDecodes", spec := "composeDecodes", unfollowed := true, recurses := true, apart := false, narrowed := true }
def ComposeDecodesUptoSaid : Prop := composeDecodesUptoRow.holds Try.pinned (OpenSpec.upto composeDecodesSpec)

/-- 'seriflaw12.ComposeEncodes', WHERE WHAT IT READS IS OF BULK AT MOST 1048576: true; the input reads as it did. -/
def composeEncodesUptoRow : OpenClaim := { program := "ytodjohoonbkklaa", sum := "3b6e4f674e70c356c54bd4b23a113c8957048aedda2c3ccd8f5699ef222ebc43", func := "serif/seriflaw12.ComposeEncodes", spec := "composeEncodes", unfollowed := true, recurses := true, apart := false, narrowed := true }
def ComposeEncodesUptoSaid : Prop := composeEncodesUptoRow.holds Try.pinned (OpenSpec.upto composeEncodesSpec)

/-- 'seriflaw12.ComposeBack', WHERE WHAT IT READS IS OF BULK AT MOST 1048576: true; the input reads as it did. -/
def composeBackUptoRow : OpenClaim := { program := "ytodjohoonbkklaa", sum := "3b6e4f674e70c356c54bd4b23a113c8957048aedda2c3ccd8f5699ef222ebc43", func := "serif/seriflaw12.ComposeBack", spec := "composeBack", unfollowed := true, recurses := true, apart := false, narrowed := true }
def ComposeBackUptoSaid : Prop := composeBackUptoRow.holds Try.pinned (OpenSpec.upto composeBackSpec)

/-- 'seriflaw12.ComposePlain', WHERE WHAT IT READS IS OF BULK AT MOST 1048576: true; the input reads as it did. -/
def composePlainUptoRow : OpenClaim := { program := "ytodjohoonbkklaa", sum := "3b6e4f674e70c356c54bd4b23a113c8957048aedda2c3ccd8f5699ef222ebc43", func := "serif/seriflaw12.ComposePlain", spec := "composePlain", unfollowed := true, recurses := true, apart := false, narrowed := true }
def ComposePlainUptoSaid : Prop := composePlainUptoRow.holds Try.pinned (OpenSpec.upto composePlainSpec)

/-- 'seriflaw10.OutlineChecks', WHERE WHAT IT READS IS OF BULK AT MOST 1048576: true; the input reads as it did. -/
def outlineChecksUptoRow : OpenClaim := { program := "ytodjohoonbkklaa", sum := "3b6e4f674e70c356c54bd4b23a113c8957048aedda2c3ccd8f5699ef222ebc43", func := "serif/seriflaw10.OutlineChecks", spec := "outlineChecks", unfollowed := true, recurses := true, apart := false, narrowed := true }
def OutlineChecksUptoSaid : Prop := outlineChecksUptoRow.holds Try.pinned (OpenSpec.upto outlineChecksSpec)

/-- 'seriflaw10.OutlineExplicits', WHERE WHAT IT READS IS OF BULK AT MOST 1048576: true; the input reads as it did. -/
def outlineExplicitsUptoRow : OpenClaim := { program := "ytodjohoonbkklaa", sum := "3b6e4f674e70c356c54bd4b23a113c8957048aedda2c3ccd8f5699ef222ebc43", func := "serif/seriflaw10.OutlineExplicits", spec := "outlineExplicits", unfollowed := true, recurses := true, apart := false, narrowed := true }
def OutlineExplicitsUptoSaid : Prop := outlineExplicitsUptoRow.holds Try.pinned (OpenSpec.upto outlineExplicitsSpec)

/-- 'seriflaw10.OutlineCurves', WHERE WHAT IT READS IS OF BULK AT MOST 1048576: true; the input reads as it did. -/
def outlineCurvesUptoRow : OpenClaim := { program := "ytodjohoonbkklaa", sum := "3b6e4f674e70c356c54bd4b23a113c8957048aedda2c3ccd8f5699ef222ebc43", func := "serif/seriflaw10.OutlineCurves", spec := "outlineCurves", unfollowed := true, recurses := true, apart := false, narrowed := true }
def OutlineCurvesUptoSaid : Prop := outlineCurvesUptoRow.holds Try.pinned (OpenSpec.upto outlineCurvesSpec)

/-- 'seriflaw10.OutlineJoins', WHERE WHAT IT READS IS OF BULK AT MOST 1048576: true; the input reads as it did. -/
def outlineJoinsUptoRow : OpenClaim := { program := "ytodjohoonbkklaa", sum := "3b6e4f674e70c356c54bd4b23a113c8957048aedda2c3ccd8f5699ef222ebc43", func := "serif/seriflaw10.OutlineJoins", spec := "outlineJoins", unfollowed := true, recurses := true, apart := false, narrowed := true }
def OutlineJoinsUptoSaid : Prop := outlineJoinsUptoRow.holds Try.pinned (OpenSpec.upto outlineJoinsSpec)

/-- 'seriflaw11.SimpleDecodes', WHERE WHAT IT READS IS OF BULK AT MOST 1048576: true; the input reads as it did. -/
def simpleDecodesUptoRow : OpenClaim := { program := "ytodjohoonbkklaa", sum := "3b6e4f674e70c356c54bd4b23a113c8957048aedda2c3ccd8f5699ef222ebc43", func := "serif/seriflaw11.SimpleDecodes", spec := "simpleDecodes", unfollowed := true, recurses := true, apart := false, narrowed := true }
def SimpleDecodesUptoSaid : Prop := simpleDecodesUptoRow.holds Try.pinned (OpenSpec.upto simpleDecodesSpec)

/-- 'seriflaw11.SimpleEncodes', WHERE WHAT IT READS IS OF BULK AT MOST 1048576: true; the input reads as it did. -/
def simpleEncodesUptoRow : OpenClaim := { program := "ytodjohoonbkklaa", sum := "3b6e4f674e70c356c54bd4b23a113c8957048aedda2c3ccd8f5699ef222ebc43", func := "serif/seriflaw11.SimpleEncodes", spec := "simpleEncodes", unfollowed := true, recurses := true, apart := false, narrowed := true }
def SimpleEncodesUptoSaid : Prop := simpleEncodesUptoRow.holds Try.pinned (OpenSpec.upto simpleEncodesSpec)

/-- 'seriflaw11.SimpleBack', WHERE WHAT IT READS IS OF BULK AT MOST 1048576: true; the input reads as it did. -/
def simpleBackUptoRow : OpenClaim := { program := "ytodjohoonbkklaa", sum := "3b6e4f674e70c356c54bd4b23a113c8957048aedda2c3ccd8f5699ef222ebc43", func := "serif/seriflaw11.SimpleBack", spec := "simpleBack", unfollowed := true, recurses := true, apart := false, narrowed := true }
def SimpleBackUptoSaid : Prop := simpleBackUptoRow.holds Try.pinned (OpenSpec.upto simpleBackSpec)

/-- 'seriflaw11.SimpleCuts', WHERE WHAT IT READS IS OF BULK AT MOST 1048576: true; the input reads as it did. -/
def simpleCutsUptoRow : OpenClaim := { program := "ytodjohoonbkklaa", sum := "3b6e4f674e70c356c54bd4b23a113c8957048aedda2c3ccd8f5699ef222ebc43", func := "serif/seriflaw11.SimpleCuts", spec := "simpleCuts", unfollowed := true, recurses := true, apart := false, narrowed := true }
def SimpleCutsUptoSaid : Prop := simpleCutsUptoRow.holds Try.pinned (OpenSpec.upto simpleCutsSpec)

end Rows
end Go.Proofs.Ytodjohoonbkklaa

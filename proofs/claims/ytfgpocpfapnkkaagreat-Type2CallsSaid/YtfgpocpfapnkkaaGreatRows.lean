/-
  No cell of these rows narrows 'for every input' (looked for: loops, veiled, ifaces, maps, wideKeys, modest, calm, conditions, laid).
  DERIVED. THE GIVEN ROWS OF THIS SEAT. 5 by the template 'for every input the law returns true; each argument reads behind the call as it read before'; 0 by the template 'total and deterministic' (their statements: YtfgpocpfapnkkaaGreatTotals.lean).
  GIVEN WITH THE SEED: the statements are not yours to turn. If you find one false, say at which input.
  Laid BY PROGRAM, IN A SANDBOX (cutbox-rows.mjs): the forced cells as the released guide's own fill.sh prints them over the translation deab081c1d009bf1… (all of the seat's roots in one cut). By AI agents, Wed Nov 11 2026. No macro, syntax, notation, axiom, sorry.
-/
import Derived.Test.YtfgpocpfapnkkaaGreatChecked
import GoSem.Claim
import GoSem.ClaimJoined
import GoSem.ClaimMapViews
import Derived.JoinedTies
import Derived.KernelRfl
namespace Go.Proofs.YtfgpocpfapnkkaaGreat
/- THE CELL 'sum', in the pinned program and in every row, IS THE sha256 OF THE DUMP (.gsa) THAT YtfgpocpfapnkkaaGreatProg.lean LOADS. Nothing in Lean hashes anything: it is a label: what it is worth is what the hold of that sum in a sandbox is worth. -/
noncomputable def Tryz.pinned : Pinned := { name := "ytfgpocpfapnkkaagreat", sum := "deab081c1d009bf1f714471986e089e4f9c4244c3c0131c34cb73f19d89e33c6", checked := Tryz.checked }
namespace Rows
def none {H : Type} : Left H := { results := [], args := [] }

/-- 'seriflaw18.Type2Draws': WHATEVER THE INPUT: true; the input reads as it did. -/
def type2DrawsSpec : ChangeSpec := { name := "type2Draws", fn := fun _ => fun
  | [d] => { results := [.lit (.bool true)], args := [d] }
  | _ => none }
def type2DrawsRow : OpenClaim := { program := "ytfgpocpfapnkkaagreat", sum := "deab081c1d009bf1f714471986e089e4f9c4244c3c0131c34cb73f19d89e33c6", func := "serif/seriflaw18.Type2Draws", spec := "type2Draws", unfollowed := true, recurses := true, named := ["math/bits.divideError", "math/bits.overflowError"], apart := false }
def Type2DrawsSaid : Prop := type2DrawsRow.holds Tryz.pinned (OpenSpec.ofChange type2DrawsSpec)

/-- ITS FALSE NEIGHBOUR: 'it returns false'. Refute it at one input. -/
def type2DrawsWrong : ChangeSpec := { name := "type2Draws", fn := fun _ => fun
  | [d] => { results := [.lit (.bool false)], args := [d] }
  | _ => none }
def Type2DrawsWrongFalsely : Prop := type2DrawsRow.holds Tryz.pinned (OpenSpec.ofChange type2DrawsWrong)

/-- 'seriflaw18.Type2Calls': WHATEVER THE INPUT: true; the input reads as it did. -/
def type2CallsSpec : ChangeSpec := { name := "type2Calls", fn := fun _ => fun
  | [d1, d2] => { results := [.lit (.bool true)], args := [d1, d2] }
  | _ => none }
def type2CallsRow : OpenClaim := { program := "ytfgpocpfapnkkaagreat", sum := "deab081c1d009bf1f714471986e089e4f9c4244c3c0131c34cb73f19d89e33c6", func := "serif/seriflaw18.Type2Calls", spec := "type2Calls", unfollowed := true, recurses := true, named := ["math/bits.divideError", "math/bits.overflowError"], apart := false }
def Type2CallsSaid : Prop := type2CallsRow.holds Tryz.pinned (OpenSpec.ofChange type2CallsSpec)

/-- ITS FALSE NEIGHBOUR: 'it returns false'. Refute it at one input. -/
def type2CallsWrong : ChangeSpec := { name := "type2Calls", fn := fun _ => fun
  | [d1, d2] => { results := [.lit (.bool false)], args := [d1, d2] }
  | _ => none }
def Type2CallsWrongFalsely : Prop := type2CallsRow.holds Tryz.pinned (OpenSpec.ofChange type2CallsWrong)

/-- 'seriflaw18.Type2Loops': WHATEVER THE INPUT: true; the input reads as it did. -/
def type2LoopsSpec : ChangeSpec := { name := "type2Loops", fn := fun _ => fun
  | [d1, d2] => { results := [.lit (.bool true)], args := [d1, d2] }
  | _ => none }
def type2LoopsRow : OpenClaim := { program := "ytfgpocpfapnkkaagreat", sum := "deab081c1d009bf1f714471986e089e4f9c4244c3c0131c34cb73f19d89e33c6", func := "serif/seriflaw18.Type2Loops", spec := "type2Loops", unfollowed := true, recurses := true, named := ["math/bits.divideError", "math/bits.overflowError"], apart := false }
def Type2LoopsSaid : Prop := type2LoopsRow.holds Tryz.pinned (OpenSpec.ofChange type2LoopsSpec)

/-- ITS FALSE NEIGHBOUR: 'it returns false'. Refute it at one input. -/
def type2LoopsWrong : ChangeSpec := { name := "type2Loops", fn := fun _ => fun
  | [d1, d2] => { results := [.lit (.bool false)], args := [d1, d2] }
  | _ => none }
def Type2LoopsWrongFalsely : Prop := type2LoopsRow.holds Tryz.pinned (OpenSpec.ofChange type2LoopsWrong)

/-- 'seriflaw18.Type2Steps': WHATEVER THE INPUT: true; the input reads as it did. -/
def type2StepsSpec : ChangeSpec := { name := "type2Steps", fn := fun _ => fun
  | [d] => { results := [.lit (.bool true)], args := [d] }
  | _ => none }
def type2StepsRow : OpenClaim := { program := "ytfgpocpfapnkkaagreat", sum := "deab081c1d009bf1f714471986e089e4f9c4244c3c0131c34cb73f19d89e33c6", func := "serif/seriflaw18.Type2Steps", spec := "type2Steps", unfollowed := true, recurses := true, named := ["math/bits.divideError", "math/bits.overflowError"], apart := false }
def Type2StepsSaid : Prop := type2StepsRow.holds Tryz.pinned (OpenSpec.ofChange type2StepsSpec)

/-- ITS FALSE NEIGHBOUR: 'it returns false'. Refute it at one input. -/
def type2StepsWrong : ChangeSpec := { name := "type2Steps", fn := fun _ => fun
  | [d] => { results := [.lit (.bool false)], args := [d] }
  | _ => none }
def Type2StepsWrongFalsely : Prop := type2StepsRow.holds Tryz.pinned (OpenSpec.ofChange type2StepsWrong)

/-- 'seriflaw18.Type2Biases': WHATEVER THE INPUT: true; the input reads as it did. -/
def type2BiasesSpec : ChangeSpec := { name := "type2Biases", fn := fun _ => fun
  | [d] => { results := [.lit (.bool true)], args := [d] }
  | _ => none }
def type2BiasesRow : OpenClaim := { program := "ytfgpocpfapnkkaagreat", sum := "deab081c1d009bf1f714471986e089e4f9c4244c3c0131c34cb73f19d89e33c6", func := "serif/seriflaw18.Type2Biases", spec := "type2Biases", unfollowed := true, recurses := true, named := ["math/bits.divideError", "math/bits.overflowError"], apart := false }
def Type2BiasesSaid : Prop := type2BiasesRow.holds Tryz.pinned (OpenSpec.ofChange type2BiasesSpec)

/-- ITS FALSE NEIGHBOUR: 'it returns false'. Refute it at one input. -/
def type2BiasesWrong : ChangeSpec := { name := "type2Biases", fn := fun _ => fun
  | [d] => { results := [.lit (.bool false)], args := [d] }
  | _ => none }
def Type2BiasesWrongFalsely : Prop := type2BiasesRow.holds Tryz.pinned (OpenSpec.ofChange type2BiasesWrong)

/- THE SECOND FORM. 'bulk': how many values and letters a reading holds, each counted each time it is reached (what is shared counts as often as it is met; a slice's spare places count too). A statement '..UptoSaid' is the law's where the arguments, and the package variables that the reading takes, are together of bulk at most 1048576: NARROWER than '..Said'. Prove '..Said' where nothing that the law and all that it calls make is longer than what came in: it says more and counts as full. Else prove '..UptoSaid'. A law counts once. -/
mutual
def uptoBulk {H : Type} : DataW H → Nat
  | .lit (.string bytes) => bytes.length + 1
  | .lit _ => 1
  | .nil => 1
  | .ptr d => uptoBulk d + 1
  | .slice elems spare => uptoBulkAll elems + uptoBulkAll spare + 1
  | .agg parts => uptoBulkAll parts + 1
  | .iface _ d => uptoBulk d + 1
  | .map entries => uptoBulkEntries entries + 1
  | .held _ => 1
def uptoBulkAll {H : Type} : List (DataW H) → Nat
  | [] => 0
  | d :: r => uptoBulk d + uptoBulkAll r
def uptoBulkEntries {H : Type} : List (Lit × DataW H) → Nat
  | [] => 0
  | x :: r => uptoBulkEntry x + uptoBulkEntries r
def uptoBulkEntry {H : Type} : Lit × DataW H → Nat
  | (.string bytes, d) => bytes.length + uptoBulk d + 1
  | (_, d) => uptoBulk d + 1
 end
def uptoSmall : (H : Type) → List (DataW H) → Bool := fun _ ds => decide (uptoBulkAll ds ≤ 1048576)
def OpenSpec.upto (s : _root_.Go.ChangeSpec) : _root_.Go.OpenSpec := { _root_.Go.OpenSpec.ofChange s with cond := some uptoSmall }

/-- 'seriflaw18.Type2Draws', WHERE WHAT IT READS IS OF BULK AT MOST 1048576: true; the input reads as it did. -/
def type2DrawsUptoRow : OpenClaim := { program := "ytfgpocpfapnkkaagreat", sum := "deab081c1d009bf1f714471986e089e4f9c4244c3c0131c34cb73f19d89e33c6", func := "serif/seriflaw18.Type2Draws", spec := "type2Draws", unfollowed := true, recurses := true, named := ["math/bits.divideError", "math/bits.overflowError"], apart := false, narrowed := true }
def Type2DrawsUptoSaid : Prop := type2DrawsUptoRow.holds Tryz.pinned (OpenSpec.upto type2DrawsSpec)

/-- 'seriflaw18.Type2Calls', WHERE WHAT IT READS IS OF BULK AT MOST 1048576: true; the input reads as it did. -/
def type2CallsUptoRow : OpenClaim := { program := "ytfgpocpfapnkkaagreat", sum := "deab081c1d009bf1f714471986e089e4f9c4244c3c0131c34cb73f19d89e33c6", func := "serif/seriflaw18.Type2Calls", spec := "type2Calls", unfollowed := true, recurses := true, named := ["math/bits.divideError", "math/bits.overflowError"], apart := false, narrowed := true }
def Type2CallsUptoSaid : Prop := type2CallsUptoRow.holds Tryz.pinned (OpenSpec.upto type2CallsSpec)

/-- 'seriflaw18.Type2Loops', WHERE WHAT IT READS IS OF BULK AT MOST 1048576: true; the input reads as it did. -/
def type2LoopsUptoRow : OpenClaim := { program := "ytfgpocpfapnkkaagreat", sum := "deab081c1d009bf1f714471986e089e4f9c4244c3c0131c34cb73f19d89e33c6", func := "serif/seriflaw18.Type2Loops", spec := "type2Loops", unfollowed := true, recurses := true, named := ["math/bits.divideError", "math/bits.overflowError"], apart := false, narrowed := true }
def Type2LoopsUptoSaid : Prop := type2LoopsUptoRow.holds Tryz.pinned (OpenSpec.upto type2LoopsSpec)

/-- 'seriflaw18.Type2Steps', WHERE WHAT IT READS IS OF BULK AT MOST 1048576: true; the input reads as it did. -/
def type2StepsUptoRow : OpenClaim := { program := "ytfgpocpfapnkkaagreat", sum := "deab081c1d009bf1f714471986e089e4f9c4244c3c0131c34cb73f19d89e33c6", func := "serif/seriflaw18.Type2Steps", spec := "type2Steps", unfollowed := true, recurses := true, named := ["math/bits.divideError", "math/bits.overflowError"], apart := false, narrowed := true }
def Type2StepsUptoSaid : Prop := type2StepsUptoRow.holds Tryz.pinned (OpenSpec.upto type2StepsSpec)

/-- 'seriflaw18.Type2Biases', WHERE WHAT IT READS IS OF BULK AT MOST 1048576: true; the input reads as it did. -/
def type2BiasesUptoRow : OpenClaim := { program := "ytfgpocpfapnkkaagreat", sum := "deab081c1d009bf1f714471986e089e4f9c4244c3c0131c34cb73f19d89e33c6", func := "serif/seriflaw18.Type2Biases", spec := "type2Biases", unfollowed := true, recurses := true, named := ["math/bits.divideError", "math/bits.overflowError"], apart := false, narrowed := true }
def Type2BiasesUptoSaid : Prop := type2BiasesUptoRow.holds Tryz.pinned (OpenSpec.upto type2BiasesSpec)

end Rows
end Go.Proofs.YtfgpocpfapnkkaaGreat

/-
  No cell of these rows narrows 'for every input' (looked for: loops, veiled, ifaces, maps, wideKeys, modest, calm, conditions, laid).
  DERIVED. THE GIVEN ROWS OF THIS SEAT. 7 by the template 'for every input the law returns true; each argument reads behind the call as it read before'; 0 by the template 'total and deterministic' (their statements: YtjondbiajnjcnaaTotals.lean).
  GIVEN WITH THE SEED: the statements are not yours to turn. If you find one false, say at which input.
  Laid BY PROGRAM, IN A SANDBOX (cutbox-rows.mjs): the forced cells as the released guide's own fill.sh prints them over the translation c36523d74bee8b2a… (all of the seat's roots in one cut). By AI agents, Wed Nov 11 2026. No macro, syntax, notation, axiom, sorry.
-/
import Derived.Test.YtjondbiajnjcnaaChecked
import GoSem.Claim
import GoSem.ClaimJoined
import GoSem.ClaimMapViews
import Derived.JoinedTies
import Derived.KernelRfl
namespace Go.Proofs.Ytjondbiajnjcnaa
/- THE CELL 'sum', in the pinned program and in every row, IS THE sha256 OF THE DUMP (.gsa) THAT YtjondbiajnjcnaaProg.lean LOADS. Nothing in Lean hashes anything: it is a label: what it is worth is what the hold of that sum in a sandbox is worth. -/
noncomputable def Try.pinned : Pinned := { name := "ytjondbiajnjcnaa", sum := "c36523d74bee8b2a62956a902538673a9991c9abc5373057768cc2ae44585d20", checked := Try.checked }
namespace Rows
def none {H : Type} : Left H := { results := [], args := [] }

/-- 'seriflaw01.FixedMuls': WHATEVER THE INPUT: true; the input reads as it did. -/
def fixedMulsSpec : ChangeSpec := { name := "fixedMuls", fn := fun _ => fun
  | [d1, d2] => { results := [.lit (.bool true)], args := [d1, d2] }
  | _ => none }
def fixedMulsRow : OpenClaim := { program := "ytjondbiajnjcnaa", sum := "c36523d74bee8b2a62956a902538673a9991c9abc5373057768cc2ae44585d20", func := "serif/seriflaw01.FixedMuls", spec := "fixedMuls", unfollowed := true, recurses := true, named := ["math/bits.divideError", "math/bits.overflowError"], apart := false }
def FixedMulsSaid : Prop := fixedMulsRow.holds Try.pinned (OpenSpec.ofChange fixedMulsSpec)

/-- ITS FALSE NEIGHBOUR: 'it returns false'. Refute it at one input. -/
def fixedMulsWrong : ChangeSpec := { name := "fixedMuls", fn := fun _ => fun
  | [d1, d2] => { results := [.lit (.bool false)], args := [d1, d2] }
  | _ => none }
def FixedMulsWrongFalsely : Prop := fixedMulsRow.holds Try.pinned (OpenSpec.ofChange fixedMulsWrong)

/-- 'seriflaw01.FixedDivs': WHATEVER THE INPUT: true; the input reads as it did. -/
def fixedDivsSpec : ChangeSpec := { name := "fixedDivs", fn := fun _ => fun
  | [d1, d2] => { results := [.lit (.bool true)], args := [d1, d2] }
  | _ => none }
def fixedDivsRow : OpenClaim := { program := "ytjondbiajnjcnaa", sum := "c36523d74bee8b2a62956a902538673a9991c9abc5373057768cc2ae44585d20", func := "serif/seriflaw01.FixedDivs", spec := "fixedDivs", unfollowed := true, recurses := true, named := ["math/bits.divideError", "math/bits.overflowError"], apart := false }
def FixedDivsSaid : Prop := fixedDivsRow.holds Try.pinned (OpenSpec.ofChange fixedDivsSpec)

/-- ITS FALSE NEIGHBOUR: 'it returns false'. Refute it at one input. -/
def fixedDivsWrong : ChangeSpec := { name := "fixedDivs", fn := fun _ => fun
  | [d1, d2] => { results := [.lit (.bool false)], args := [d1, d2] }
  | _ => none }
def FixedDivsWrongFalsely : Prop := fixedDivsRow.holds Try.pinned (OpenSpec.ofChange fixedDivsWrong)

/-- 'seriflaw01.FixedMulDivs': WHATEVER THE INPUT: true; the input reads as it did. -/
def fixedMulDivsSpec : ChangeSpec := { name := "fixedMulDivs", fn := fun _ => fun
  | [d1, d2, d3] => { results := [.lit (.bool true)], args := [d1, d2, d3] }
  | _ => none }
def fixedMulDivsRow : OpenClaim := { program := "ytjondbiajnjcnaa", sum := "c36523d74bee8b2a62956a902538673a9991c9abc5373057768cc2ae44585d20", func := "serif/seriflaw01.FixedMulDivs", spec := "fixedMulDivs", unfollowed := true, recurses := true, named := ["math/bits.divideError", "math/bits.overflowError"], apart := false }
def FixedMulDivsSaid : Prop := fixedMulDivsRow.holds Try.pinned (OpenSpec.ofChange fixedMulDivsSpec)

/-- ITS FALSE NEIGHBOUR: 'it returns false'. Refute it at one input. -/
def fixedMulDivsWrong : ChangeSpec := { name := "fixedMulDivs", fn := fun _ => fun
  | [d1, d2, d3] => { results := [.lit (.bool false)], args := [d1, d2, d3] }
  | _ => none }
def FixedMulDivsWrongFalsely : Prop := fixedMulDivsRow.holds Try.pinned (OpenSpec.ofChange fixedMulDivsWrong)

/-- 'seriflaw01.FixedRoots': WHATEVER THE INPUT: true; the input reads as it did. -/
def fixedRootsSpec : ChangeSpec := { name := "fixedRoots", fn := fun _ => fun
  | [d] => { results := [.lit (.bool true)], args := [d] }
  | _ => none }
def fixedRootsRow : OpenClaim := { program := "ytjondbiajnjcnaa", sum := "c36523d74bee8b2a62956a902538673a9991c9abc5373057768cc2ae44585d20", func := "serif/seriflaw01.FixedRoots", spec := "fixedRoots", unfollowed := true, recurses := true, named := ["math/bits.divideError", "math/bits.overflowError"], apart := false }
def FixedRootsSaid : Prop := fixedRootsRow.holds Try.pinned (OpenSpec.ofChange fixedRootsSpec)

/-- ITS FALSE NEIGHBOUR: 'it returns false'. Refute it at one input. -/
def fixedRootsWrong : ChangeSpec := { name := "fixedRoots", fn := fun _ => fun
  | [d] => { results := [.lit (.bool false)], args := [d] }
  | _ => none }
def FixedRootsWrongFalsely : Prop := fixedRootsRow.holds Try.pinned (OpenSpec.ofChange fixedRootsWrong)

/-- 'seriflaw01.FixedAdds': WHATEVER THE INPUT: true; the input reads as it did. -/
def fixedAddsSpec : ChangeSpec := { name := "fixedAdds", fn := fun _ => fun
  | [d1, d2] => { results := [.lit (.bool true)], args := [d1, d2] }
  | _ => none }
def fixedAddsRow : OpenClaim := { program := "ytjondbiajnjcnaa", sum := "c36523d74bee8b2a62956a902538673a9991c9abc5373057768cc2ae44585d20", func := "serif/seriflaw01.FixedAdds", spec := "fixedAdds", unfollowed := true, recurses := true, named := ["math/bits.divideError", "math/bits.overflowError"], apart := false }
def FixedAddsSaid : Prop := fixedAddsRow.holds Try.pinned (OpenSpec.ofChange fixedAddsSpec)

/-- ITS FALSE NEIGHBOUR: 'it returns false'. Refute it at one input. -/
def fixedAddsWrong : ChangeSpec := { name := "fixedAdds", fn := fun _ => fun
  | [d1, d2] => { results := [.lit (.bool false)], args := [d1, d2] }
  | _ => none }
def FixedAddsWrongFalsely : Prop := fixedAddsRow.holds Try.pinned (OpenSpec.ofChange fixedAddsWrong)

/-- 'seriflaw01.FixedNears': WHATEVER THE INPUT: true; the input reads as it did. -/
def fixedNearsSpec : ChangeSpec := { name := "fixedNears", fn := fun _ => fun
  | [d1, d2] => { results := [.lit (.bool true)], args := [d1, d2] }
  | _ => none }
def fixedNearsRow : OpenClaim := { program := "ytjondbiajnjcnaa", sum := "c36523d74bee8b2a62956a902538673a9991c9abc5373057768cc2ae44585d20", func := "serif/seriflaw01.FixedNears", spec := "fixedNears", unfollowed := true, recurses := true, named := ["math/bits.divideError", "math/bits.overflowError"], apart := false }
def FixedNearsSaid : Prop := fixedNearsRow.holds Try.pinned (OpenSpec.ofChange fixedNearsSpec)

/-- ITS FALSE NEIGHBOUR: 'it returns false'. Refute it at one input. -/
def fixedNearsWrong : ChangeSpec := { name := "fixedNears", fn := fun _ => fun
  | [d1, d2] => { results := [.lit (.bool false)], args := [d1, d2] }
  | _ => none }
def FixedNearsWrongFalsely : Prop := fixedNearsRow.holds Try.pinned (OpenSpec.ofChange fixedNearsWrong)

/-- 'seriflaw01.FixedRounds': WHATEVER THE INPUT: true; the input reads as it did. -/
def fixedRoundsSpec : ChangeSpec := { name := "fixedRounds", fn := fun _ => fun
  | [d] => { results := [.lit (.bool true)], args := [d] }
  | _ => none }
def fixedRoundsRow : OpenClaim := { program := "ytjondbiajnjcnaa", sum := "c36523d74bee8b2a62956a902538673a9991c9abc5373057768cc2ae44585d20", func := "serif/seriflaw01.FixedRounds", spec := "fixedRounds", unfollowed := true, recurses := true, named := ["math/bits.divideError", "math/bits.overflowError"], apart := false }
def FixedRoundsSaid : Prop := fixedRoundsRow.holds Try.pinned (OpenSpec.ofChange fixedRoundsSpec)

/-- ITS FALSE NEIGHBOUR: 'it returns false'. Refute it at one input. -/
def fixedRoundsWrong : ChangeSpec := { name := "fixedRounds", fn := fun _ => fun
  | [d] => { results := [.lit (.bool false)], args := [d] }
  | _ => none }
def FixedRoundsWrongFalsely : Prop := fixedRoundsRow.holds Try.pinned (OpenSpec.ofChange fixedRoundsWrong)

/- THE SECOND FORM. 'bulk': how many values and letters a reading holds, each counted each time it is reached (what is shared counts as often as it is met; a slice's spare places count too). A statement '..UptoSaid' is the law's where the arguments, and the package variables that the reading takes, are together of bulk at most 1048576: NARROWER than '..Said'. Prove '..Said' where nothing that the law and all that it calls make is longer than what came in: it says more and counts as full. Else prove '..UptoSaid'. A law counts once. -/
mutual
def uptoBulk {H : Type} : DataW H → Nat
  | .lit (.string bytes) => bytes.length + 1
  | .lit _ => 1
  | .nil => 1
  | .ptr d => uptoBulk d + 1
  | .slice elems spare => uptoBulkAll elems + uptoBulkAll spare + 1
  | .agg parts => uptoBulkAll parts + 1
  | .iface _ d => uptoBulk d + 1
  | .map entries => uptoBulkEntries entries + 1
  | .held _ => 1
def uptoBulkAll {H : Type} : List (DataW H) → Nat
  | [] => 0
  | d :: r => uptoBulk d + uptoBulkAll r
def uptoBulkEntries {H : Type} : List (Lit × DataW H) → Nat
  | [] => 0
  | x :: r => uptoBulkEntry x + uptoBulkEntries r
def uptoBulkEntry {H : Type} : Lit × DataW H → Nat
  | (.string bytes, d) => bytes.length + uptoBulk d + 1
  | (_, d) => uptoBulk d + 1
 end
def uptoSmall : (H : Type) → List (DataW H) → Bool := fun _ ds => decide (uptoBulkAll ds ≤ 1048576)
def OpenSpec.upto (s : _root_.Go.ChangeSpec) : _root_.Go.OpenSpec := { _root_.Go.OpenSpec.ofChange s with cond := some uptoSmall }

/-- 'seriflaw01.FixedMuls', WHERE WHAT IT READS IS OF BULK AT MOST 1048576: true; the input reads as it did. -/
def fixedMulsUptoRow : OpenClaim := { program := "ytjondbiajnjcnaa", sum := "c36523d74bee8b2a62956a902538673a9991c9abc5373057768cc2ae44585d20", func := "serif/seriflaw01.FixedMuls", spec := "fixedMuls", unfollowed := true, recurses := true, named := ["math/bits.divideError", "math/bits.overflowError"], apart := false, narrowed := true }
def FixedMulsUptoSaid : Prop := fixedMulsUptoRow.holds Try.pinned (OpenSpec.upto fixedMulsSpec)

/-- 'seriflaw01.FixedDivs', WHERE WHAT IT READS IS OF BULK AT MOST 1048576: true; the input reads as it did. -/
def fixedDivsUptoRow : OpenClaim := { program := "ytjondbiajnjcnaa", sum := "c36523d74bee8b2a62956a902538673a9991c9abc5373057768cc2ae44585d20", func := "serif/seriflaw01.FixedDivs", spec := "fixedDivs", unfollowed := true, recurses := true, named := ["math/bits.divideError", "math/bits.overflowError"], apart := false, narrowed := true }
def FixedDivsUptoSaid : Prop := fixedDivsUptoRow.holds Try.pinned (OpenSpec.upto fixedDivsSpec)

/-- 'seriflaw01.FixedMulDivs', WHERE WHAT IT READS IS OF BULK AT MOST 1048576: true; the input reads as it did. -/
def fixedMulDivsUptoRow : OpenClaim := { program := "ytjondbiajnjcnaa", sum := "c36523d74bee8b2a62956a902538673a9991c9abc5373057768cc2ae44585d20", func := "serif/seriflaw01.FixedMulDivs", spec := "fixedMulDivs", unfollowed := true, recurses := true, named := ["math/bits.divideError", "math/bits.overflowError"], apart := false, narrowed := true }
def FixedMulDivsUptoSaid : Prop := fixedMulDivsUptoRow.holds Try.pinned (OpenSpec.upto fixedMulDivsSpec)

/-- 'seriflaw01.FixedRoots', WHERE WHAT IT READS IS OF BULK AT MOST 1048576: true; the input reads as it did. -/
def fixedRootsUptoRow : OpenClaim := { program := "ytjondbiajnjcnaa", sum := "c36523d74bee8b2a62956a902538673a9991c9abc5373057768cc2ae44585d20", func := "serif/seriflaw01.FixedRoots", spec := "fixedRoots", unfollowed := true, recurses := true, named := ["math/bits.divideError", "math/bits.overflowError"], apart := false, narrowed := true }
def FixedRootsUptoSaid : Prop := fixedRootsUptoRow.holds Try.pinned (OpenSpec.upto fixedRootsSpec)

/-- 'seriflaw01.FixedAdds', WHERE WHAT IT READS IS OF BULK AT MOST 1048576: true; the input reads as it did. -/
def fixedAddsUptoRow : OpenClaim := { program := "ytjondbiajnjcnaa", sum := "c36523d74bee8b2a62956a902538673a9991c9abc5373057768cc2ae44585d20", func := "serif/seriflaw01.FixedAdds", spec := "fixedAdds", unfollowed := true, recurses := true, named := ["math/bits.divideError", "math/bits.overflowError"], apart := false, narrowed := true }
def FixedAddsUptoSaid : Prop := fixedAddsUptoRow.holds Try.pinned (OpenSpec.upto fixedAddsSpec)

/-- 'seriflaw01.FixedNears', WHERE WHAT IT READS IS OF BULK AT MOST 1048576: true; the input reads as it did. -/
def fixedNearsUptoRow : OpenClaim := { program := "ytjondbiajnjcnaa", sum := "c36523d74bee8b2a62956a902538673a9991c9abc5373057768cc2ae44585d20", func := "serif/seriflaw01.FixedNears", spec := "fixedNears", unfollowed := true, recurses := true, named := ["math/bits.divideError", "math/bits.overflowError"], apart := false, narrowed := true }
def FixedNearsUptoSaid : Prop := fixedNearsUptoRow.holds Try.pinned (OpenSpec.upto fixedNearsSpec)

/-- 'seriflaw01.FixedRounds', WHERE WHAT IT READS IS OF BULK AT MOST 1048576: true; the input reads as it did. -/
def fixedRoundsUptoRow : OpenClaim := { program := "ytjondbiajnjcnaa", sum := "c36523d74bee8b2a62956a902538673a9991c9abc5373057768cc2ae44585d20", func := "serif/seriflaw01.FixedRounds", spec := "fixedRounds", unfollowed := true, recurses := true, named := ["math/bits.divideError", "math/bits.overflowError"], apart := false, narrowed := true }
def FixedRoundsUptoSaid : Prop := fixedRoundsUptoRow.holds Try.pinned (OpenSpec.upto fixedRoundsSpec)

end Rows
end Go.Proofs.Ytjondbiajnjcnaa

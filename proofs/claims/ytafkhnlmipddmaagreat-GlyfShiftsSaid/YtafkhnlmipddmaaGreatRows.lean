/-
  No cell of these rows narrows 'for every input' (looked for: loops, veiled, ifaces, maps, wideKeys, modest, calm, conditions, laid).
  DERIVED. THE GIVEN ROWS OF THIS SEAT. 5 by the template 'for every input the law returns true; each argument reads behind the call as it read before'; 0 by the template 'total and deterministic' (their statements: YtafkhnlmipddmaaGreatTotals.lean).
  GIVEN WITH THE SEED: the statements are not yours to turn. If you find one false, say at which input.
  Laid BY PROGRAM, IN A SANDBOX (cutbox-rows.mjs): the forced cells as the released guide's own fill.sh prints them over the translation 42ea85cf88dd7bb8… (all of the seat's roots in one cut). By AI agents, Wed Nov 11 2026. No macro, syntax, notation, axiom, sorry.
-/
import Derived.Test.YtafkhnlmipddmaaGreatChecked
import GoSem.Claim
import GoSem.ClaimJoined
import GoSem.ClaimMapViews
import Derived.JoinedTies
import Derived.KernelRfl
namespace Go.Proofs.YtafkhnlmipddmaaGreat
/- THE CELL 'sum', in the pinned program and in every row, IS THE sha256 OF THE DUMP (.gsa) THAT YtafkhnlmipddmaaGreatProg.lean LOADS. Nothing in Lean hashes anything: it is a label: what it is worth is what the hold of that sum in a sandbox is worth. -/
noncomputable def Tryz.pinned : Pinned := { name := "ytafkhnlmipddmaagreat", sum := "42ea85cf88dd7bb8f0b3d6ae773e586b159781dfac9c91752087051441ac56c8", checked := Tryz.checked }
namespace Rows
def none {H : Type} : Left H := { results := [], args := [] }

/-- 'seriflaw13.GlyfShifts': WHATEVER THE INPUT: true; the input reads as it did. -/
def glyfShiftsSpec : ChangeSpec := { name := "glyfShifts", fn := fun _ => fun
  | [d1, d2, d3] => { results := [.lit (.bool true)], args := [d1, d2, d3] }
  | _ => none }
def glyfShiftsRow : OpenClaim := { program := "ytafkhnlmipddmaagreat", sum := "42ea85cf88dd7bb8f0b3d6ae773e586b159781dfac9c91752087051441ac56c8", func := "serif/seriflaw13.GlyfShifts", spec := "glyfShifts", unfollowed := true, recurses := true, apart := false }
def GlyfShiftsSaid : Prop := glyfShiftsRow.holds Tryz.pinned (OpenSpec.ofChange glyfShiftsSpec)

/-- ITS FALSE NEIGHBOUR: 'it returns false'. Refute it at one input. -/
def glyfShiftsWrong : ChangeSpec := { name := "glyfShifts", fn := fun _ => fun
  | [d1, d2, d3] => { results := [.lit (.bool false)], args := [d1, d2, d3] }
  | _ => none }
def GlyfShiftsWrongFalsely : Prop := glyfShiftsRow.holds Tryz.pinned (OpenSpec.ofChange glyfShiftsWrong)

/-- 'seriflaw13.GlyfDeep': WHATEVER THE INPUT: true; the input reads as it did. -/
def glyfDeepSpec : ChangeSpec := { name := "glyfDeep", fn := fun _ => fun
  | [d1, d2] => { results := [.lit (.bool true)], args := [d1, d2] }
  | _ => none }
def glyfDeepRow : OpenClaim := { program := "ytafkhnlmipddmaagreat", sum := "42ea85cf88dd7bb8f0b3d6ae773e586b159781dfac9c91752087051441ac56c8", func := "serif/seriflaw13.GlyfDeep", spec := "glyfDeep", unfollowed := true, recurses := true, apart := false }
def GlyfDeepSaid : Prop := glyfDeepRow.holds Tryz.pinned (OpenSpec.ofChange glyfDeepSpec)

/-- ITS FALSE NEIGHBOUR: 'it returns false'. Refute it at one input. -/
def glyfDeepWrong : ChangeSpec := { name := "glyfDeep", fn := fun _ => fun
  | [d1, d2] => { results := [.lit (.bool false)], args := [d1, d2] }
  | _ => none }
def GlyfDeepWrongFalsely : Prop := glyfDeepRow.holds Tryz.pinned (OpenSpec.ofChange glyfDeepWrong)

/-- 'seriflaw13.GlyfVisits': WHATEVER THE INPUT: true; the input reads as it did. -/
def glyfVisitsSpec : ChangeSpec := { name := "glyfVisits", fn := fun _ => fun
  | [d1, d2] => { results := [.lit (.bool true)], args := [d1, d2] }
  | _ => none }
def glyfVisitsRow : OpenClaim := { program := "ytafkhnlmipddmaagreat", sum := "42ea85cf88dd7bb8f0b3d6ae773e586b159781dfac9c91752087051441ac56c8", func := "serif/seriflaw13.GlyfVisits", spec := "glyfVisits", unfollowed := true, recurses := true, apart := false }
def GlyfVisitsSaid : Prop := glyfVisitsRow.holds Tryz.pinned (OpenSpec.ofChange glyfVisitsSpec)

/-- ITS FALSE NEIGHBOUR: 'it returns false'. Refute it at one input. -/
def glyfVisitsWrong : ChangeSpec := { name := "glyfVisits", fn := fun _ => fun
  | [d1, d2] => { results := [.lit (.bool false)], args := [d1, d2] }
  | _ => none }
def GlyfVisitsWrongFalsely : Prop := glyfVisitsRow.holds Tryz.pinned (OpenSpec.ofChange glyfVisitsWrong)

/-- 'seriflaw13.GlyfBuilds': WHATEVER THE INPUT: true; the input reads as it did. -/
def glyfBuildsSpec : ChangeSpec := { name := "glyfBuilds", fn := fun _ => fun
  | [d] => { results := [.lit (.bool true)], args := [d] }
  | _ => none }
def glyfBuildsRow : OpenClaim := { program := "ytafkhnlmipddmaagreat", sum := "42ea85cf88dd7bb8f0b3d6ae773e586b159781dfac9c91752087051441ac56c8", func := "serif/seriflaw13.GlyfBuilds", spec := "glyfBuilds", unfollowed := true, recurses := true, apart := false }
def GlyfBuildsSaid : Prop := glyfBuildsRow.holds Tryz.pinned (OpenSpec.ofChange glyfBuildsSpec)

/-- ITS FALSE NEIGHBOUR: 'it returns false'. Refute it at one input. -/
def glyfBuildsWrong : ChangeSpec := { name := "glyfBuilds", fn := fun _ => fun
  | [d] => { results := [.lit (.bool false)], args := [d] }
  | _ => none }
def GlyfBuildsWrongFalsely : Prop := glyfBuildsRow.holds Tryz.pinned (OpenSpec.ofChange glyfBuildsWrong)

/-- 'seriflaw13.GlyfNobody': WHATEVER THE INPUT: true; the input reads as it did. -/
def glyfNobodySpec : ChangeSpec := { name := "glyfNobody", fn := fun _ => fun
  | [d1, d2] => { results := [.lit (.bool true)], args := [d1, d2] }
  | _ => none }
def glyfNobodyRow : OpenClaim := { program := "ytafkhnlmipddmaagreat", sum := "42ea85cf88dd7bb8f0b3d6ae773e586b159781dfac9c91752087051441ac56c8", func := "serif/seriflaw13.GlyfNobody", spec := "glyfNobody", unfollowed := true, recurses := true, apart := false }
def GlyfNobodySaid : Prop := glyfNobodyRow.holds Tryz.pinned (OpenSpec.ofChange glyfNobodySpec)

/-- ITS FALSE NEIGHBOUR: 'it returns false'. Refute it at one input. -/
def glyfNobodyWrong : ChangeSpec := { name := "glyfNobody", fn := fun _ => fun
  | [d1, d2] => { results := [.lit (.bool false)], args := [d1, d2] }
  | _ => none }
def GlyfNobodyWrongFalsely : Prop := glyfNobodyRow.holds Tryz.pinned (OpenSpec.ofChange glyfNobodyWrong)

/- THE SECOND FORM. 'bulk': how many values and letters a reading holds, each counted each time it is reached (what is shared counts as often as it is met; a slice's spare places count too). A statement '..UptoSaid' is the law's where the arguments, and the package variables that the reading takes, are together of bulk at most 1048576: NARROWER than '..Said'. Prove '..Said' where nothing that the law and all that it calls make is longer than what came in: it says more and counts as full. Else prove '..UptoSaid'. A law counts once. -/
mutual
def uptoBulk {H : Type} : DataW H → Nat
  | .lit (.string bytes) => bytes.length + 1
  | .lit _ => 1
  | .nil => 1
  | .ptr d => uptoBulk d + 1
  | .slice elems spare => uptoBulkAll elems + uptoBulkAll spare + 1
  | .agg parts => uptoBulkAll parts + 1
  | .iface _ d => uptoBulk d + 1
  | .map entries => uptoBulkEntries entries + 1
  | .held _ => 1
def uptoBulkAll {H : Type} : List (DataW H) → Nat
  | [] => 0
  | d :: r => uptoBulk d + uptoBulkAll r
def uptoBulkEntries {H : Type} : List (Lit × DataW H) → Nat
  | [] => 0
  | x :: r => uptoBulkEntry x + uptoBulkEntries r
def uptoBulkEntry {H : Type} : Lit × DataW H → Nat
  | (.string bytes, d) => bytes.length + uptoBulk d + 1
  | (_, d) => uptoBulk d + 1
 end
def uptoSmall : (H : Type) → List (DataW H) → Bool := fun _ ds => decide (uptoBulkAll ds ≤ 1048576)
def OpenSpec.upto (s : _root_.Go.ChangeSpec) : _root_.Go.OpenSpec := { _root_.Go.OpenSpec.ofChange s with cond := some uptoSmall }

/-- 'seriflaw13.GlyfShifts', WHERE WHAT IT READS IS OF BULK AT MOST 1048576: true; the input reads as it did. -/
def glyfShiftsUptoRow : OpenClaim := { program := "ytafkhnlmipddmaagreat", sum := "42ea85cf88dd7bb8f0b3d6ae773e586b159781dfac9c91752087051441ac56c8", func := "serif/seriflaw13.GlyfShifts", spec := "glyfShifts", unfollowed := true, recurses := true, apart := false, narrowed := true }
def GlyfShiftsUptoSaid : Prop := glyfShiftsUptoRow.holds Tryz.pinned (OpenSpec.upto glyfShiftsSpec)

/-- 'seriflaw13.GlyfDeep', WHERE WHAT IT READS IS OF BULK AT MOST 1048576: true; the input reads as it did. -/
def glyfDeepUptoRow : OpenClaim := { program := "ytafkhnlmipddmaagreat", sum := "42ea85cf88dd7bb8f0b3d6ae773e586b159781dfac9c91752087051441ac56c8", func := "serif/seriflaw13.GlyfDeep", spec := "glyfDeep", unfollowed := true, recurses := true, apart := false, narrowed := true }
def GlyfDeepUptoSaid : Prop := glyfDeepUptoRow.holds Tryz.pinned (OpenSpec.upto glyfDeepSpec)

/-- 'seriflaw13.GlyfVisits', WHERE WHAT IT READS IS OF BULK AT MOST 1048576: true; the input reads as it did. -/
def glyfVisitsUptoRow : OpenClaim := { program := "ytafkhnlmipddmaagreat", sum := "42ea85cf88dd7bb8f0b3d6ae773e586b159781dfac9c91752087051441ac56c8", func := "serif/seriflaw13.GlyfVisits", spec := "glyfVisits", unfollowed := true, recurses := true, apart := false, narrowed := true }
def GlyfVisitsUptoSaid : Prop := glyfVisitsUptoRow.holds Tryz.pinned (OpenSpec.upto glyfVisitsSpec)

/-- 'seriflaw13.GlyfBuilds', WHERE WHAT IT READS IS OF BULK AT MOST 1048576: true; the input reads as it did. -/
def glyfBuildsUptoRow : OpenClaim := { program := "ytafkhnlmipddmaagreat", sum := "42ea85cf88dd7bb8f0b3d6ae773e586b159781dfac9c91752087051441ac56c8", func := "serif/seriflaw13.GlyfBuilds", spec := "glyfBuilds", unfollowed := true, recurses := true, apart := false, narrowed := true }
def GlyfBuildsUptoSaid : Prop := glyfBuildsUptoRow.holds Tryz.pinned (OpenSpec.upto glyfBuildsSpec)

/-- 'seriflaw13.GlyfNobody', WHERE WHAT IT READS IS OF BULK AT MOST 1048576: true; the input reads as it did. -/
def glyfNobodyUptoRow : OpenClaim := { program := "ytafkhnlmipddmaagreat", sum := "42ea85cf88dd7bb8f0b3d6ae773e586b159781dfac9c91752087051441ac56c8", func := "serif/seriflaw13.GlyfNobody", spec := "glyfNobody", unfollowed := true, recurses := true, apart := false, narrowed := true }
def GlyfNobodyUptoSaid : Prop := glyfNobodyUptoRow.holds Tryz.pinned (OpenSpec.upto glyfNobodySpec)

end Rows
end Go.Proofs.YtafkhnlmipddmaaGreat

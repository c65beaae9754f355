/-
  No cell of these rows narrows 'for every input' (looked for: loops, veiled, ifaces, maps, wideKeys, modest, calm, conditions, laid).
  DERIVED. THE GIVEN ROWS OF THIS SEAT. 9 by the template 'for every input the law returns true; each argument reads behind the call as it read before'; 0 by the template 'total and deterministic' (their statements: YthmokldmdcjklaaTotals.lean).
  GIVEN WITH THE SEED: the statements are not yours to turn. If you find one false, say at which input.
  Laid BY PROGRAM, IN A SANDBOX (cutbox-rows.mjs): the forced cells as the released guide's own fill.sh prints them over the translation 3cce559227ccc490… (all of the seat's roots in one cut). By AI agents, Wed Nov 11 2026. No macro, syntax, notation, axiom, sorry.
-/
import Derived.Test.YthmokldmdcjklaaChecked
import GoSem.Claim
import GoSem.ClaimJoined
import GoSem.ClaimMapViews
import Derived.JoinedTies
import Derived.KernelRfl
namespace Go.Proofs.Ythmokldmdcjklaa
/- THE CELL 'sum', in the pinned program and in every row, IS THE sha256 OF THE DUMP (.gsa) THAT YthmokldmdcjklaaProg.lean LOADS. Nothing in Lean hashes anything: it is a label: what it is worth is what the hold of that sum in a sandbox is worth. -/
noncomputable def Try.pinned : Pinned := { name := "ythmokldmdcjklaa", sum := "3cce559227ccc490a170619228c6866cabff27614fb30db257677a5cc96e9e39", checked := Try.checked }
namespace Rows
def none {H : Type} : Left H := { results := [], args := [] }

/-- 'seriflaw16.CharsetLoads': WHATEVER THE INPUT: true; the input reads as it did. -/
def charsetLoadsSpec : ChangeSpec := { name := "charsetLoads", fn := fun _ => fun
  | [d1, d2, d3] => { results := [.lit (.bool true)], args := [d1, d2, d3] }
  | _ => none }
def charsetLoadsRow : OpenClaim := { program := "ythmokldmdcjklaa", sum := "3cce559227ccc490a170619228c6866cabff27614fb30db257677a5cc96e9e39", func := "serif/seriflaw16.CharsetLoads", spec := "charsetLoads", unfollowed := true, recurses := true, apart := false }
def CharsetLoadsSaid : Prop := charsetLoadsRow.holds Try.pinned (OpenSpec.ofChange charsetLoadsSpec)

/-- ITS FALSE NEIGHBOUR: 'it returns false'. Refute it at one input. -/
def charsetLoadsWrong : ChangeSpec := { name := "charsetLoads", fn := fun _ => fun
  | [d1, d2, d3] => { results := [.lit (.bool false)], args := [d1, d2, d3] }
  | _ => none }
def CharsetLoadsWrongFalsely : Prop := charsetLoadsRow.holds Try.pinned (OpenSpec.ofChange charsetLoadsWrong)

/-- 'seriflaw16.CharsetPuts': WHATEVER THE INPUT: true; the input reads as it did. -/
def charsetPutsSpec : ChangeSpec := { name := "charsetPuts", fn := fun _ => fun
  | [d1, d2, d3] => { results := [.lit (.bool true)], args := [d1, d2, d3] }
  | _ => none }
def charsetPutsRow : OpenClaim := { program := "ythmokldmdcjklaa", sum := "3cce559227ccc490a170619228c6866cabff27614fb30db257677a5cc96e9e39", func := "serif/seriflaw16.CharsetPuts", spec := "charsetPuts", unfollowed := true, recurses := true, apart := false }
def CharsetPutsSaid : Prop := charsetPutsRow.holds Try.pinned (OpenSpec.ofChange charsetPutsSpec)

/-- ITS FALSE NEIGHBOUR: 'it returns false'. Refute it at one input. -/
def charsetPutsWrong : ChangeSpec := { name := "charsetPuts", fn := fun _ => fun
  | [d1, d2, d3] => { results := [.lit (.bool false)], args := [d1, d2, d3] }
  | _ => none }
def CharsetPutsWrongFalsely : Prop := charsetPutsRow.holds Try.pinned (OpenSpec.ofChange charsetPutsWrong)

/-- 'seriflaw16.CharsetSelects': WHATEVER THE INPUT: true; the input reads as it did. -/
def charsetSelectsSpec : ChangeSpec := { name := "charsetSelects", fn := fun _ => fun
  | [d1, d2, d3] => { results := [.lit (.bool true)], args := [d1, d2, d3] }
  | _ => none }
def charsetSelectsRow : OpenClaim := { program := "ythmokldmdcjklaa", sum := "3cce559227ccc490a170619228c6866cabff27614fb30db257677a5cc96e9e39", func := "serif/seriflaw16.CharsetSelects", spec := "charsetSelects", unfollowed := true, recurses := true, apart := false }
def CharsetSelectsSaid : Prop := charsetSelectsRow.holds Try.pinned (OpenSpec.ofChange charsetSelectsSpec)

/-- ITS FALSE NEIGHBOUR: 'it returns false'. Refute it at one input. -/
def charsetSelectsWrong : ChangeSpec := { name := "charsetSelects", fn := fun _ => fun
  | [d1, d2, d3] => { results := [.lit (.bool false)], args := [d1, d2, d3] }
  | _ => none }
def CharsetSelectsWrongFalsely : Prop := charsetSelectsRow.holds Try.pinned (OpenSpec.ofChange charsetSelectsWrong)

/-- 'seriflaw16.CharsetSelectPuts': WHATEVER THE INPUT: true; the input reads as it did. -/
def charsetSelectPutsSpec : ChangeSpec := { name := "charsetSelectPuts", fn := fun _ => fun
  | [d1, d2, d3, d4] => { results := [.lit (.bool true)], args := [d1, d2, d3, d4] }
  | _ => none }
def charsetSelectPutsRow : OpenClaim := { program := "ythmokldmdcjklaa", sum := "3cce559227ccc490a170619228c6866cabff27614fb30db257677a5cc96e9e39", func := "serif/seriflaw16.CharsetSelectPuts", spec := "charsetSelectPuts", unfollowed := true, recurses := true, apart := false }
def CharsetSelectPutsSaid : Prop := charsetSelectPutsRow.holds Try.pinned (OpenSpec.ofChange charsetSelectPutsSpec)

/-- ITS FALSE NEIGHBOUR: 'it returns false'. Refute it at one input. -/
def charsetSelectPutsWrong : ChangeSpec := { name := "charsetSelectPuts", fn := fun _ => fun
  | [d1, d2, d3, d4] => { results := [.lit (.bool false)], args := [d1, d2, d3, d4] }
  | _ => none }
def CharsetSelectPutsWrongFalsely : Prop := charsetSelectPutsRow.holds Try.pinned (OpenSpec.ofChange charsetSelectPutsWrong)

/-- 'seriflaw06.MetricPuts': WHATEVER THE INPUT: true; the input reads as it did. -/
def metricPutsSpec : ChangeSpec := { name := "metricPuts", fn := fun _ => fun
  | [d1, d2, d3, d4] => { results := [.lit (.bool true)], args := [d1, d2, d3, d4] }
  | _ => none }
def metricPutsRow : OpenClaim := { program := "ythmokldmdcjklaa", sum := "3cce559227ccc490a170619228c6866cabff27614fb30db257677a5cc96e9e39", func := "serif/seriflaw06.MetricPuts", spec := "metricPuts", unfollowed := true, recurses := true, apart := false }
def MetricPutsSaid : Prop := metricPutsRow.holds Try.pinned (OpenSpec.ofChange metricPutsSpec)

/-- ITS FALSE NEIGHBOUR: 'it returns false'. Refute it at one input. -/
def metricPutsWrong : ChangeSpec := { name := "metricPuts", fn := fun _ => fun
  | [d1, d2, d3, d4] => { results := [.lit (.bool false)], args := [d1, d2, d3, d4] }
  | _ => none }
def MetricPutsWrongFalsely : Prop := metricPutsRow.holds Try.pinned (OpenSpec.ofChange metricPutsWrong)

/-- 'seriflaw06.MetricLoads': WHATEVER THE INPUT: true; the input reads as it did. -/
def metricLoadsSpec : ChangeSpec := { name := "metricLoads", fn := fun _ => fun
  | [d1, d2, d3, d4] => { results := [.lit (.bool true)], args := [d1, d2, d3, d4] }
  | _ => none }
def metricLoadsRow : OpenClaim := { program := "ythmokldmdcjklaa", sum := "3cce559227ccc490a170619228c6866cabff27614fb30db257677a5cc96e9e39", func := "serif/seriflaw06.MetricLoads", spec := "metricLoads", unfollowed := true, recurses := true, apart := false }
def MetricLoadsSaid : Prop := metricLoadsRow.holds Try.pinned (OpenSpec.ofChange metricLoadsSpec)

/-- ITS FALSE NEIGHBOUR: 'it returns false'. Refute it at one input. -/
def metricLoadsWrong : ChangeSpec := { name := "metricLoads", fn := fun _ => fun
  | [d1, d2, d3, d4] => { results := [.lit (.bool false)], args := [d1, d2, d3, d4] }
  | _ => none }
def MetricLoadsWrongFalsely : Prop := metricLoadsRow.holds Try.pinned (OpenSpec.ofChange metricLoadsWrong)

/-- 'seriflaw06.MetricPlaces': WHATEVER THE INPUT: true; the input reads as it did. -/
def metricPlacesSpec : ChangeSpec := { name := "metricPlaces", fn := fun _ => fun
  | [d1, d2, d3, d4] => { results := [.lit (.bool true)], args := [d1, d2, d3, d4] }
  | _ => none }
def metricPlacesRow : OpenClaim := { program := "ythmokldmdcjklaa", sum := "3cce559227ccc490a170619228c6866cabff27614fb30db257677a5cc96e9e39", func := "serif/seriflaw06.MetricPlaces", spec := "metricPlaces", unfollowed := true, recurses := true, apart := false }
def MetricPlacesSaid : Prop := metricPlacesRow.holds Try.pinned (OpenSpec.ofChange metricPlacesSpec)

/-- ITS FALSE NEIGHBOUR: 'it returns false'. Refute it at one input. -/
def metricPlacesWrong : ChangeSpec := { name := "metricPlaces", fn := fun _ => fun
  | [d1, d2, d3, d4] => { results := [.lit (.bool false)], args := [d1, d2, d3, d4] }
  | _ => none }
def MetricPlacesWrongFalsely : Prop := metricPlacesRow.holds Try.pinned (OpenSpec.ofChange metricPlacesWrong)

/-- 'seriflaw06.MetricPlaceLoads': WHATEVER THE INPUT: true; the input reads as it did. -/
def metricPlaceLoadsSpec : ChangeSpec := { name := "metricPlaceLoads", fn := fun _ => fun
  | [d1, d2, d3, d4] => { results := [.lit (.bool true)], args := [d1, d2, d3, d4] }
  | _ => none }
def metricPlaceLoadsRow : OpenClaim := { program := "ythmokldmdcjklaa", sum := "3cce559227ccc490a170619228c6866cabff27614fb30db257677a5cc96e9e39", func := "serif/seriflaw06.MetricPlaceLoads", spec := "metricPlaceLoads", unfollowed := true, recurses := true, apart := false }
def MetricPlaceLoadsSaid : Prop := metricPlaceLoadsRow.holds Try.pinned (OpenSpec.ofChange metricPlaceLoadsSpec)

/-- ITS FALSE NEIGHBOUR: 'it returns false'. Refute it at one input. -/
def metricPlaceLoadsWrong : ChangeSpec := { name := "metricPlaceLoads", fn := fun _ => fun
  | [d1, d2, d3, d4] => { results := [.lit (.bool false)], args := [d1, d2, d3, d4] }
  | _ => none }
def MetricPlaceLoadsWrongFalsely : Prop := metricPlaceLoadsRow.holds Try.pinned (OpenSpec.ofChange metricPlaceLoadsWrong)

/-- 'seriflaw06.MetricNobody': WHATEVER THE INPUT: true; the input reads as it did. -/
def metricNobodySpec : ChangeSpec := { name := "metricNobody", fn := fun _ => fun
  | [d] => { results := [.lit (.bool true)], args := [d] }
  | _ => none }
def metricNobodyRow : OpenClaim := { program := "ythmokldmdcjklaa", sum := "3cce559227ccc490a170619228c6866cabff27614fb30db257677a5cc96e9e39", func := "serif/seriflaw06.MetricNobody", spec := "metricNobody", unfollowed := true, recurses := true, apart := false }
def MetricNobodySaid : Prop := metricNobodyRow.holds Try.pinned (OpenSpec.ofChange metricNobodySpec)

/-- ITS FALSE NEIGHBOUR: 'it returns false'. Refute it at one input. -/
def metricNobodyWrong : ChangeSpec := { name := "metricNobody", fn := fun _ => fun
  | [d] => { results := [.lit (.bool false)], args := [d] }
  | _ => none }
def MetricNobodyWrongFalsely : Prop := metricNobodyRow.holds Try.pinned (OpenSpec.ofChange metricNobodyWrong)

/- THE SECOND FORM. 'bulk': how many values and letters a reading holds, each counted each time it is reached (what is shared counts as often as it is met; a slice's spare places count too). A statement '..UptoSaid' is the law's where the arguments, and the package variables that the reading takes, are together of bulk at most 1048576: NARROWER than '..Said'. Prove '..Said' where nothing that the law and all that it calls make is longer than what came in: it says more and counts as full. Else prove '..UptoSaid'. A law counts once. -/
mutual
def uptoBulk {H : Type} : DataW H → Nat
  | .lit (.string bytes) => bytes.length + 1
  | .lit _ => 1
  | .nil => 1
  | .ptr d => uptoBulk d + 1
  | .slice elems spare => uptoBulkAll elems + uptoBulkAll spare + 1
  | .agg parts => uptoBulkAll parts + 1
  | .iface _ d => uptoBulk d + 1
  | .map entries => uptoBulkEntries entries + 1
  | .held _ => 1
def uptoBulkAll {H : Type} : List (DataW H) → Nat
  | [] => 0
  | d :: r => uptoBulk d + uptoBulkAll r
def uptoBulkEntries {H : Type} : List (Lit × DataW H) → Nat
  | [] => 0
  | x :: r => uptoBulkEntry x + uptoBulkEntries r
def uptoBulkEntry {H : Type} : Lit × DataW H → Nat
  | (.string bytes, d) => bytes.length + uptoBulk d + 1
  | (_, d) => uptoBulk d + 1
 end
def uptoSmall : (H : Type) → List (DataW H) → Bool := fun _ ds => decide (uptoBulkAll ds ≤ 1048576)
def OpenSpec.upto (s : _root_.Go.ChangeSpec) : _root_.Go.OpenSpec := { _root_.Go.OpenSpec.ofChange s with cond := some uptoSmall }

/-- 'seriflaw16.CharsetLoads', WHERE WHAT IT READS IS OF BULK AT MOST 1048576: true; the input reads as it did. -/
def charsetLoadsUptoRow : OpenClaim := { program := "ythmokldmdcjklaa", sum := "3cce559227ccc490a170619228c6866cabff27614fb30db257677a5cc96e9e39", func := "serif/seriflaw16.CharsetLoads", spec := "charsetLoads", unfollowed := true, recurses := true, apart := false, narrowed := true }
def CharsetLoadsUptoSaid : Prop := charsetLoadsUptoRow.holds Try.pinned (OpenSpec.upto charsetLoadsSpec)

/-- 'seriflaw16.CharsetPuts', WHERE WHAT IT READS IS OF BULK AT MOST 1048576: true; the input reads as it did. -/
def charsetPutsUptoRow : OpenClaim := { program := "ythmokldmdcjklaa", sum := "3cce559227ccc490a170619228c6866cabff27614fb30db257677a5cc96e9e39", func := "serif/seriflaw16.CharsetPuts", spec := "charsetPuts", unfollowed := true, recurses := true, apart := false, narrowed := true }
def CharsetPutsUptoSaid : Prop := charsetPutsUptoRow.holds Try.pinned (OpenSpec.upto charsetPutsSpec)

/-- 'seriflaw16.CharsetSelects', WHERE WHAT IT READS IS OF BULK AT MOST 1048576: true; the input reads as it did. -/
def charsetSelectsUptoRow : OpenClaim := { program := "ythmokldmdcjklaa", sum := "3cce559227ccc490a170619228c6866cabff27614fb30db257677a5cc96e9e39", func := "serif/seriflaw16.CharsetSelects", spec := "charsetSelects", unfollowed := true, recurses := true, apart := false, narrowed := true }
def CharsetSelectsUptoSaid : Prop := charsetSelectsUptoRow.holds Try.pinned (OpenSpec.upto charsetSelectsSpec)

/-- 'seriflaw16.CharsetSelectPuts', WHERE WHAT IT READS IS OF BULK AT MOST 1048576: true; the input reads as it did. -/
def charsetSelectPutsUptoRow : OpenClaim := { program := "ythmokldmdcjklaa", sum := "3cce559227ccc490a170619228c6866cabff27614fb30db257677a5cc96e9e39", func := "serif/seriflaw16.CharsetSelectPuts", spec := "charsetSelectPuts", unfollowed := true, recurses := true, apart := false, narrowed := true }
def CharsetSelectPutsUptoSaid : Prop := charsetSelectPutsUptoRow.holds Try.pinned (OpenSpec.upto charsetSelectPutsSpec)

/-- 'seriflaw06.MetricPuts', WHERE WHAT IT READS IS OF BULK AT MOST 1048576: true; the input reads as it did. -/
def metricPutsUptoRow : OpenClaim := { program := "ythmokldmdcjklaa", sum := "3cce559227ccc490a170619228c6866cabff27614fb30db257677a5cc96e9e39", func := "serif/seriflaw06.MetricPuts", spec := "metricPuts", unfollowed := true, recurses := true, apart := false, narrowed := true }
def MetricPutsUptoSaid : Prop := metricPutsUptoRow.holds Try.pinned (OpenSpec.upto metricPutsSpec)

/-- 'seriflaw06.MetricLoads', WHERE WHAT IT READS IS OF BULK AT MOST 1048576: true; the input reads as it did. -/
def metricLoadsUptoRow : OpenClaim := { program := "ythmokldmdcjklaa", sum := "3cce559227ccc490a170619228c6866cabff27614fb30db257677a5cc96e9e39", func := "serif/seriflaw06.MetricLoads", spec := "metricLoads", unfollowed := true, recurses := true, apart := false, narrowed := true }
def MetricLoadsUptoSaid : Prop := metricLoadsUptoRow.holds Try.pinned (OpenSpec.upto metricLoadsSpec)

/-- 'seriflaw06.MetricPlaces', WHERE WHAT IT READS IS OF BULK AT MOST 1048576: true; the input reads as it did. -/
def metricPlacesUptoRow : OpenClaim := { program := "ythmokldmdcjklaa", sum := "3cce559227ccc490a170619228c6866cabff27614fb30db257677a5cc96e9e39", func := "serif/seriflaw06.MetricPlaces", spec := "metricPlaces", unfollowed := true, recurses := true, apart := false, narrowed := true }
def MetricPlacesUptoSaid : Prop := metricPlacesUptoRow.holds Try.pinned (OpenSpec.upto metricPlacesSpec)

/-- 'seriflaw06.MetricPlaceLoads', WHERE WHAT IT READS IS OF BULK AT MOST 1048576: true; the input reads as it did. -/
def metricPlaceLoadsUptoRow : OpenClaim := { program := "ythmokldmdcjklaa", sum := "3cce559227ccc490a170619228c6866cabff27614fb30db257677a5cc96e9e39", func := "serif/seriflaw06.MetricPlaceLoads", spec := "metricPlaceLoads", unfollowed := true, recurses := true, apart := false, narrowed := true }
def MetricPlaceLoadsUptoSaid : Prop := metricPlaceLoadsUptoRow.holds Try.pinned (OpenSpec.upto metricPlaceLoadsSpec)

/-- 'seriflaw06.MetricNobody', WHERE WHAT IT READS IS OF BULK AT MOST 1048576: true; the input reads as it did. -/
def metricNobodyUptoRow : OpenClaim := { program := "ythmokldmdcjklaa", sum := "3cce559227ccc490a170619228c6866cabff27614fb30db257677a5cc96e9e39", func := "serif/seriflaw06.MetricNobody", spec := "metricNobody", unfollowed := true, recurses := true, apart := false, narrowed := true }
def MetricNobodyUptoSaid : Prop := metricNobodyUptoRow.holds Try.pinned (OpenSpec.upto metricNobodySpec)

end Rows
end Go.Proofs.Ythmokldmdcjklaa

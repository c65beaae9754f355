/- Closed facts of the row: the table of types. -/
import Derived.Test.YtolnkhkjpgmgbaaGreatRows
import Derived.SizedLaws
import Derived.WalkKit
import Derived.Below
import Derived.ProofKit
import Derived.OpenShut
import Derived.ShutString
import Derived.ChangeOld
import Derived.ClosedOfChecked
namespace Go.Proofs.YtolnkhkjpgmgbaaGreat.fontNobody
open Go.ChangeShapes Go.WideShapes Go.ChangeAt Go.RowKit
theorem hty : Tryz.checked.prog.types = Tryz.checked.src.types := by kernel_rfl
theorem hrest : (Tryz.checked.prog.globals.all (fun g => decide (g.type < Tryz.checked.prog.types.size)) && Tryz.checked.prog.funcs.all (fun f => f.params.all fun t => decide (t < Tryz.checked.prog.types.size))) = true := by kernel_rfl
theorem laidOut : laidOutB Tryz.prog = true := ClosedOfChecked.laidOutB_of (ClosedOfChecked.allSpec_of Tryz.checked.wellFormed hty) hrest
theorem mapsR : mapsRowed Tryz.prog = true := ClosedOfChecked.mapsRowed_of (ClosedOfChecked.allSpec_of Tryz.checked.wellFormed hty)
end Go.Proofs.YtolnkhkjpgmgbaaGreat.fontNobody

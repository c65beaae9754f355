/- A closed fact of the row. -/
import Derived.Test.YtolnkhkjpgmgbaaGreatRows
import Derived.SizedLaws
import Derived.WalkKit
import Derived.Below
import Derived.ProofKit
import Derived.OpenShut
import Derived.ShutString
import Derived.ChangeOld
import Derived.ClosedOfChecked
namespace Go.Proofs.YtolnkhkjpgmgbaaGreat.fontNobody
open Go.ChangeShapes Go.WideShapes Go.ChangeAt Go.RowKit
theorem f_may : Tryz.pinned.checked.prog.mayEnter = true := by kernel_rfl
end Go.Proofs.YtolnkhkjpgmgbaaGreat.fontNobody

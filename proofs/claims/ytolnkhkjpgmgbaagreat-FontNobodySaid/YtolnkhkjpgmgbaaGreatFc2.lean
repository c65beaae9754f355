/- A closed fact of the row. -/
import Derived.Test.YtolnkhkjpgmgbaaGreatRows
import Derived.SizedLaws
import Derived.WalkKit
import Derived.Below
import Derived.ProofKit
import Derived.OpenShut
import Derived.ShutString
import Derived.ChangeOld
import Derived.ClosedOfChecked
namespace Go.Proofs.YtolnkhkjpgmgbaaGreat.fontNobody
open Go.ChangeShapes Go.WideShapes Go.ChangeAt Go.RowKit
theorem f_unf : (Rows.fontNobodyRow.unfollowed == Tryz.pinned.checked.prog.unfollowed 3) = true := by kernel_rfl
end Go.Proofs.YtolnkhkjpgmgbaaGreat.fontNobody

/- The contracts of the layer fixed: floors, shifts, the nearest; and those of its reference. -/
import Derived.Test.YtfgpocpfapnkkaaGreatFixC
import Derived.Test.YtfgpocpfapnkkaaGreatBits
namespace Go.Proofs.YtfgpocpfapnkkaaGreat
open Go.RowKit
set_option linter.unusedVariables false
def ceil64 (x : Int) : Int := if 64 * (x / 64) = x then x / 64 else x / 64 + 1
end Go.Proofs.YtfgpocpfapnkkaaGreat

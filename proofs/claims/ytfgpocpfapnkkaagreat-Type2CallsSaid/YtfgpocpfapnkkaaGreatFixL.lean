/- The walks of the statements of layer 1: 'lives', and the seven laws. -/
import Derived.Test.YtfgpocpfapnkkaaGreatFixE
namespace Go.Proofs.YtfgpocpfapnkkaaGreat
open Go.RowKit
set_option linter.unusedVariables false
theorem one_times (a : Int) : nearQ (a * 65536) 65536 = a := by unfold nearQ; rw [if_pos (by omega)]; omega
end Go.Proofs.YtfgpocpfapnkkaaGreat

/- the kernel's tables. -/
import Derived.Test.YtolnkhkjpgmgbaaGreatEvT
import Derived.Test.YtolnkhkjpgmgbaaGreatMem
namespace Go.Proofs.YtolnkhkjpgmgbaaGreat
open Go.RowKit
noncomputable def env0 : Ev.Env := Ev.mkEnv Tryz.prog []
theorem env0_ok : Ev.EnvOk Tryz.prog env0 := Ev.mkEnv_ok Tryz.prog (fun e h => by cases h)
theorem noNum : (Tryz.prog.funcs.toList.all fun fn => !(fn.name == "runtime.NumGoroutine")) = true := by kernel_rfl
end Go.Proofs.YtolnkhkjpgmgbaaGreat

/- cff: the law's own example, and a nil font: worked out by the kernel. -/
import Derived.Test.YtlhkaoccnpgkeaaGreatEvT
import Derived.Test.YtlhkaoccnpgkeaaGreatMem
namespace Go.Proofs.YtlhkaoccnpgkeaaGreat
open Go.RowKit
set_option linter.unusedVariables false
noncomputable def env : Ev.Env := Ev.mkEnv Tryz.prog []
theorem noNum : (Tryz.prog.funcs.toList.all fun fn => !(fn.name == "runtime.NumGoroutine")) = true := by kernel_rfl
theorem ev_nobody : Ev.isT (Ev.evF env 1000000 5 [Ev.top]) = true := by kernel_rfl
theorem law_CffNobody (n : Int) (w : World) : Calls Tryz.prog 5 #[.int .i64 n] w fun e w' => e = .returned (.bool true) ∧ Kp [] w w' := by
  refine (Ev.law_calls (P := Tryz.prog) (Ev.mkEnv_ok Tryz.prog (fun e h => by cases h)) noNum (by rfl) [.int .i64 n] ev_nobody (fun σ => .cons (.top _) .nil) w).mono ?_
  rintro e w' ⟨h1, h2, h3, h4, h5, h6⟩
  exact ⟨h1, h2, h3, h4, h5, fun k hk _ => h6 k hk⟩
end Go.Proofs.YtlhkaoccnpgkeaaGreat

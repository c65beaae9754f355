/- The walks of the statements FixedAdds, FixedNears, FixedRounds. -/
import Derived.Test.YtfgpocpfapnkkaaGreatFixL
import Derived.OpenShut
namespace Go.Proofs.YtfgpocpfapnkkaaGreat
open Go.RowKit
set_option linter.unusedVariables false
theorem near_close (a b : Int) (h : 1 ≤ b) : 0 ≤ 2 * a + b - 2 * ((2 * a + b) / (2 * b) * b) ∧ 2 * a + b - 2 * ((2 * a + b) / (2 * b) * b) < 2 * b := by
  obtain ⟨h1, h2, _, _⟩ := rest_bounds (2 * a + b) (2 * b) (by omega)
  have e : (2 * a + b) / (2 * b) * (2 * b) = 2 * ((2 * a + b) / (2 * b) * b) := by rw [← Int.mul_assoc, Int.mul_comm _ 2, Int.mul_assoc]
  omega
theorem op_in (x k : Int) (h : mayB x = true) (h2 : mayB k = true) : opV k [x] = k ∧ opE k [x] = 0 := by
  have hh : [x].all mayB = true := by simp [h]
  unfold opV opE outV outE; rw [if_pos hh, if_pos hh, if_pos h2, if_pos h2]; exact ⟨rfl, rfl⟩
theorem op_out (x k : Int) (h : mayB x = false ∨ mayB k = false) : opV k [x] = 0 ∧ opE k [x] = 10 := by
  unfold opV opE outV outE
  cases hx : mayB x <;> cases hk : mayB k <;> simp_all
theorem may_in {x : Int} (h : -2147483648 ≤ x ∧ x ≤ 2147483648) : mayB x = true := by simp [mayB]; omega
theorem may_out {x : Int} (h : x < -2147483648 ∨ 2147483648 < x) : mayB x = false := by simp [mayB]; omega
end Go.Proofs.YtfgpocpfapnkkaaGreat

/- The walk of the statement MetricNobody. -/
import Derived.Test.YthmokldmdcjklaaMtN
namespace Go.Proofs.Ythmokldmdcjklaa
open Go.RowKit
set_option linter.unusedVariables false
set_option linter.unusedSimpArgs false
set_option maxRecDepth 100000 in
theorem law_MetricNobody (glyph : Int) (w : World) :
    Calls Try.prog 11 #[.int .i64 glyph] w fun e w' => e = .returned (.bool true) ∧ Kp [] w w' := by
  go_enter Try.func11, Try.ntmps11
  go_wp2_with fail
  refine (metat_nil glyph _).mono ?_; rintro e w1 ⟨rfl, hk1⟩
  go_wp2_with fail
  have hk2 : Kp [] w1 (w1.alloc (.cells #[.int .i64 0, .int .i64 0] 68)) := (Kp.refl _ _).alloc _
  refine (plat_nil glyph _).mono ?_; rintro e w3 ⟨rfl, hk3⟩
  go_wp2_with fail
  refine (lives06_calls _).mono ?_; rintro e w4 ⟨rfl, hk4⟩
  have hk := ((hk1.trans hk2).trans hk3).trans hk4
  have c0 : w4.cell? ⟨w1.heap.size, 0, none⟩ = some (.int .i64 0) := (hk3.trans hk4).cell (by go_simp) (by simp)
  have c1 : w4.cell? ⟨w1.heap.size, 1, none⟩ = some (.int .i64 0) := (hk3.trans hk4).cell (by go_simp) (by simp)
  go_wp2_with fail
  refine (metlen_nil _).mono ?_; rintro e w9 ⟨rfl, rfl⟩
  go_wp2_with fail
  refine (pllen_nil _).mono ?_; rintro e w9 ⟨rfl, rfl⟩
  go_wp2_with fail
  go_ret
  exact ⟨by first | rfl | simp, hk⟩
end Go.Proofs.Ythmokldmdcjklaa

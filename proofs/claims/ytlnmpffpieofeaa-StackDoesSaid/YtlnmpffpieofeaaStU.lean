/- stack: serifref17's need, IsOp, flag. (Written by wip/stack/genstu.py.) -/
import Derived.Test.YtlnmpffpieofeaaStL
namespace Go.Proofs.Ytlnmpffpieofeaa
open Go.RowKit
set_option linter.unusedVariables false
set_option linter.unusedSimpArgs false
def rneed (op : Int) : Int := if isNum op ∨ isMov op then needM op else -1
set_option maxRecDepth 100000 in
set_option maxHeartbeats 1000000 in
theorem rneed_calls (op : Int) (w : World) : Calls Try.prog 28 #[.int .i64 op] w fun e w' => e = .returned (.int .i64 (rneed op)) ∧ w = w' := by
  by_cases hop : isNum op ∨ isMov op
  · rcases hop with hop | hop
    · rcases hop with rfl | rfl | rfl | rfl | rfl | rfl | rfl | rfl | rfl | rfl | rfl
      · (go_enter Try.func28, Try.ntmps28; go_wp2_with fail; go_ret; exact ⟨rfl, rfl⟩)
      · (go_enter Try.func28, Try.ntmps28; go_wp2_with fail; go_ret; exact ⟨rfl, rfl⟩)
      · (go_enter Try.func28, Try.ntmps28; go_wp2_with fail; go_ret; exact ⟨rfl, rfl⟩)
      · (go_enter Try.func28, Try.ntmps28; go_wp2_with fail; go_ret; exact ⟨rfl, rfl⟩)
      · (go_enter Try.func28, Try.ntmps28; go_wp2_with fail; go_ret; exact ⟨rfl, rfl⟩)
      · (go_enter Try.func28, Try.ntmps28; go_wp2_with fail; go_ret; exact ⟨rfl, rfl⟩)
      · (go_enter Try.func28, Try.ntmps28; go_wp2_with fail; go_ret; exact ⟨rfl, rfl⟩)
      · (go_enter Try.func28, Try.ntmps28; go_wp2_with fail; go_ret; exact ⟨rfl, rfl⟩)
      · (go_enter Try.func28, Try.ntmps28; go_wp2_with fail; go_ret; exact ⟨rfl, rfl⟩)
      · (go_enter Try.func28, Try.ntmps28; go_wp2_with fail; go_ret; exact ⟨rfl, rfl⟩)
      · (go_enter Try.func28, Try.ntmps28; go_wp2_with fail; go_ret; exact ⟨rfl, rfl⟩)
    · rcases hop with rfl | rfl | rfl | rfl | rfl | rfl | rfl | rfl | rfl
      · (go_enter Try.func28, Try.ntmps28; go_wp2_with fail; go_ret; exact ⟨rfl, rfl⟩)
      · (go_enter Try.func28, Try.ntmps28; go_wp2_with fail; go_ret; exact ⟨rfl, rfl⟩)
      · (go_enter Try.func28, Try.ntmps28; go_wp2_with fail; go_ret; exact ⟨rfl, rfl⟩)
      · (go_enter Try.func28, Try.ntmps28; go_wp2_with fail; go_ret; exact ⟨rfl, rfl⟩)
      · (go_enter Try.func28, Try.ntmps28; go_wp2_with fail; go_ret; exact ⟨rfl, rfl⟩)
      · (go_enter Try.func28, Try.ntmps28; go_wp2_with fail; go_ret; exact ⟨rfl, rfl⟩)
      · (go_enter Try.func28, Try.ntmps28; go_wp2_with fail; go_ret; exact ⟨rfl, rfl⟩)
      · (go_enter Try.func28, Try.ntmps28; go_wp2_with fail; go_ret; exact ⟨rfl, rfl⟩)
      · (go_enter Try.func28, Try.ntmps28; go_wp2_with fail; go_ret; exact ⟨rfl, rfl⟩)
  · have hr : rneed op = -1 := by unfold rneed; rw [if_neg hop]
    rw [hr]
    simp only [isNum, isMov, not_or] at hop
    obtain ⟨⟨n1, n2, n3, n4, n5, n6, n7, n8, n9, n10, n11⟩, m1, m2, m3, m4, m5, m6, m7, m8, m9⟩ := hop
    go_enter Try.func28, Try.ntmps28
    go_wp2_with fail
    go_ret
    exact ⟨rfl, rfl⟩
theorem rneed_pos (op : Int) : decide ((0 : Int) ≤ rneed op) = decide (isNum op ∨ isMov op) := by
  by_cases hop : isNum op ∨ isMov op
  · rw [decide_eq_true hop]; unfold rneed; rw [if_pos hop]; exact decide_eq_true (by omega)
  · rw [decide_eq_false hop]; unfold rneed; rw [if_neg hop]; rfl
theorem risop_calls (op : Int) (w : World) : Calls Try.prog 22 #[.int .i64 op] w fun e w' => e = .returned (.bool (decide (isNum op ∨ isMov op))) ∧ w = w' := by
  rw [← rneed_pos]
  go_enter Try.func22, Try.ntmps22
  go_wp2_with fail
  refine (rneed_calls _ _).mono ?_; rintro e w1 ⟨rfl, rfl⟩
  go_wp2_with fail
  go_ret
  exact ⟨by first | rfl | simp, rfl⟩
end Go.Proofs.Ytlnmpffpieofeaa

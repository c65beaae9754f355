/- stack: IsOp at every number. (Written by wip/stack/genstt.py.) -/
import Derived.Test.YtfgpocpfapnkkaaGreatStP
import Derived.Test.YtfgpocpfapnkkaaGreatStQ
namespace Go.Proofs.YtfgpocpfapnkkaaGreat
open Go.RowKit
set_option linter.unusedVariables false
set_option linter.unusedSimpArgs false
set_option maxHeartbeats 1000000 in
theorem isop_calls (op : Int) (w : World) : Calls Tryz.prog 53 #[.int .i64 op] w fun e w' => e = .returned (.bool (decide (isNum op ∨ isMov op))) ∧ Kp [] w w' := by
  by_cases hop : isNum op ∨ isMov op
  · rw [decide_eq_true hop]
    rcases hop with hop | hop
    · rcases hop with rfl | rfl | rfl | rfl | rfl | rfl | rfl | rfl | rfl | rfl | rfl
      · exact isop_of 9 1 true w ((find_9 w).mono fun e w' ⟨fv, he, ⟨k, _, hc⟩, hk⟩ => ⟨fv, .nilFunc, he, (by rcases hc with ⟨rfl, _⟩ | ⟨B, opx, rfl, _, _⟩; exact ⟨_, _, .inl ⟨rfl, rfl⟩⟩; exact ⟨_, _, .inl ⟨rfl, rfl⟩⟩), hk⟩)
      · exact isop_of 14 1 true w ((find_14 w).mono fun e w' ⟨fv, he, ⟨k, _, hc⟩, hk⟩ => ⟨fv, .nilFunc, he, (by rcases hc with ⟨rfl, _⟩ | ⟨B, opx, rfl, _, _⟩; exact ⟨_, _, .inl ⟨rfl, rfl⟩⟩; exact ⟨_, _, .inl ⟨rfl, rfl⟩⟩), hk⟩)
      · exact isop_of 26 1 true w ((find_26 w).mono fun e w' ⟨fv, he, ⟨k, _, hc⟩, hk⟩ => ⟨fv, .nilFunc, he, (by rcases hc with ⟨rfl, _⟩ | ⟨B, opx, rfl, _, _⟩; exact ⟨_, _, .inl ⟨rfl, rfl⟩⟩; exact ⟨_, _, .inl ⟨rfl, rfl⟩⟩), hk⟩)
      · exact isop_of 5 1 true w ((find_5 w).mono fun e w' ⟨fv, he, ⟨k, _, hc⟩, hk⟩ => ⟨fv, .nilFunc, he, (by rcases hc with ⟨rfl, _⟩ | ⟨B, opx, rfl, _, _⟩; exact ⟨_, _, .inl ⟨rfl, rfl⟩⟩; exact ⟨_, _, .inl ⟨rfl, rfl⟩⟩), hk⟩)
      · exact isop_of 10 2 true w ((find_10 w).mono fun e w' ⟨fv, he, ⟨k, _, hc⟩, hk⟩ => ⟨fv, .nilFunc, he, (by rcases hc with ⟨rfl, _⟩ | ⟨B, opx, rfl, _, _⟩; exact ⟨_, _, .inl ⟨rfl, rfl⟩⟩; exact ⟨_, _, .inl ⟨rfl, rfl⟩⟩), hk⟩)
      · exact isop_of 11 2 true w ((find_11 w).mono fun e w' ⟨fv, he, ⟨k, _, hc⟩, hk⟩ => ⟨fv, .nilFunc, he, (by rcases hc with ⟨rfl, _⟩ | ⟨B, opx, rfl, _, _⟩; exact ⟨_, _, .inl ⟨rfl, rfl⟩⟩; exact ⟨_, _, .inl ⟨rfl, rfl⟩⟩), hk⟩)
      · exact isop_of 24 2 true w ((find_24 w).mono fun e w' ⟨fv, he, ⟨k, _, hc⟩, hk⟩ => ⟨fv, .nilFunc, he, (by rcases hc with ⟨rfl, _⟩ | ⟨B, opx, rfl, _, _⟩; exact ⟨_, _, .inl ⟨rfl, rfl⟩⟩; exact ⟨_, _, .inl ⟨rfl, rfl⟩⟩), hk⟩)
      · exact isop_of 12 2 true w ((find_12 w).mono fun e w' ⟨fv, he, ⟨k, _, hc⟩, hk⟩ => ⟨fv, .nilFunc, he, (by rcases hc with ⟨rfl, _⟩ | ⟨B, opx, rfl, _, _⟩; exact ⟨_, _, .inl ⟨rfl, rfl⟩⟩; exact ⟨_, _, .inl ⟨rfl, rfl⟩⟩), hk⟩)
      · exact isop_of 3 2 true w ((find_3 w).mono fun e w' ⟨fv, he, ⟨k, _, hc⟩, hk⟩ => ⟨fv, .nilFunc, he, (by rcases hc with ⟨rfl, _⟩ | ⟨B, opx, rfl, _, _⟩; exact ⟨_, _, .inl ⟨rfl, rfl⟩⟩; exact ⟨_, _, .inl ⟨rfl, rfl⟩⟩), hk⟩)
      · exact isop_of 4 2 true w ((find_4 w).mono fun e w' ⟨fv, he, ⟨k, _, hc⟩, hk⟩ => ⟨fv, .nilFunc, he, (by rcases hc with ⟨rfl, _⟩ | ⟨B, opx, rfl, _, _⟩; exact ⟨_, _, .inl ⟨rfl, rfl⟩⟩; exact ⟨_, _, .inl ⟨rfl, rfl⟩⟩), hk⟩)
      · exact isop_of 15 2 true w ((find_15 w).mono fun e w' ⟨fv, he, ⟨k, _, hc⟩, hk⟩ => ⟨fv, .nilFunc, he, (by rcases hc with ⟨rfl, _⟩ | ⟨B, opx, rfl, _, _⟩; exact ⟨_, _, .inl ⟨rfl, rfl⟩⟩; exact ⟨_, _, .inl ⟨rfl, rfl⟩⟩), hk⟩)
    · rcases hop with rfl | rfl | rfl | rfl | rfl | rfl | rfl | rfl | rfl
      · exact isop_of 18 1 true w ((find_18 w).mono fun e w' ⟨he, hk⟩ => ⟨_, _, he, ⟨_, _, .inr (.inl ⟨rfl, rfl⟩)⟩, hk⟩)
      · exact isop_of 27 1 true w ((find_27 w).mono fun e w' ⟨he, hk⟩ => ⟨_, _, he, ⟨_, _, .inr (.inl ⟨rfl, rfl⟩)⟩, hk⟩)
      · exact isop_of 29 1 true w ((find_29 w).mono fun e w' ⟨he, hk⟩ => ⟨_, _, he, ⟨_, _, .inr (.inl ⟨rfl, rfl⟩)⟩, hk⟩)
      · exact isop_of 21 1 true w ((find_21 w).mono fun e w' ⟨he, hk⟩ => ⟨_, _, he, ⟨_, _, .inr (.inl ⟨rfl, rfl⟩)⟩, hk⟩)
      · exact isop_of 28 2 true w ((find_28 w).mono fun e w' ⟨he, hk⟩ => ⟨_, _, he, ⟨_, _, .inr (.inl ⟨rfl, rfl⟩)⟩, hk⟩)
      · exact isop_of 30 2 true w ((find_30 w).mono fun e w' ⟨he, hk⟩ => ⟨_, _, he, ⟨_, _, .inr (.inl ⟨rfl, rfl⟩)⟩, hk⟩)
      · exact isop_of 20 2 true w ((find_20 w).mono fun e w' ⟨he, hk⟩ => ⟨_, _, he, ⟨_, _, .inr (.inl ⟨rfl, rfl⟩)⟩, hk⟩)
      · exact isop_of 22 4 true w ((find_22 w).mono fun e w' ⟨he, hk⟩ => ⟨_, _, he, ⟨_, _, .inr (.inl ⟨rfl, rfl⟩)⟩, hk⟩)
      · exact isop_of 23 0 true w ((find_23 w).mono fun e w' ⟨he, hk⟩ => ⟨_, _, he, ⟨_, _, .inr (.inl ⟨rfl, rfl⟩)⟩, hk⟩)
  · rw [decide_eq_false hop]
    exact isop_of op 1 false w ((find_no op (fun x => hop (.inl x)) (fun x => hop (.inr x)) w).mono fun e w' ⟨he, hk⟩ => ⟨_, _, he, ⟨.func 0, #[], .inr (.inr ⟨rfl, rfl⟩)⟩, hk⟩)
end Go.Proofs.YtfgpocpfapnkkaaGreat

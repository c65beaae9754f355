/- compose: places, at four numbers. -/
import Derived.Test.YtodjohoonbkklaaCpE
import Derived.Deep.RegionHeld3
namespace Go.Proofs.Ytodjohoonbkklaa
open Go.RowKit
set_option linter.unusedVariables false
set_option linter.unusedSimpArgs false
set_option maxRecDepth 100000 in
set_option maxHeartbeats 16000000 in
theorem places_128 (B : Nat) (f : Int) (hY : bits .and .i64 f 200 = 128) (w : World) : Calls Try.prog 113 #[.pointer (some ⟨B, 1, none⟩), .int .i64 f] w fun e w' => ∃ v, e = .returned (.tuple #[v, .bool (okM 128)]) ∧ IsPl w.heap.size w' v B (plM 128) ∧ Kp [] w w' := by
  rw [show plM 128 = [[1], [2], [3], [4]] from rfl]
  go_enter Try.func113, Try.ntmps113
  go_wp2_with fail
  go_region_held3 (fun _ => True) (trivial) (fail)
  all_goals
    go_wp2_with fail
    go_ret2
    refine ⟨_, rfl, .inr ⟨_, rfl, by omega, fun j hj => ?_⟩, by (repeat (first | exact Kp.refl _ _ | assumption | refine Kp.drew ?_ | refine Kp.drewN ?_ _ | refine Kp.alloc ?_ _ | (refine Kp.setCell ?_ (by first | (left; simp; done) | (right; simp; try omega)) _) | (refine Kp.trans' ?_ (by assumption) (by simp; try omega))))⟩
    have hj : j < 4 := hj
    match j, hj with
    | 0, _ =>
      refine ⟨_, by go_simp; first | rfl | exact ⟨rfl, rfl⟩, by omega, fun i hi => ?_⟩
      have hi : i < 1 := hi
      match i, hi with
      | 0, _ => (go_simp; first | done | rfl)
    | 1, _ =>
      refine ⟨_, by go_simp; first | rfl | exact ⟨rfl, rfl⟩, by omega, fun i hi => ?_⟩
      have hi : i < 1 := hi
      match i, hi with
      | 0, _ => (go_simp; first | done | rfl)
    | 2, _ =>
      refine ⟨_, by go_simp; first | rfl | exact ⟨rfl, rfl⟩, by omega, fun i hi => ?_⟩
      have hi : i < 1 := hi
      match i, hi with
      | 0, _ => (go_simp; first | done | rfl)
    | 3, _ =>
      refine ⟨_, by go_simp; first | rfl | exact ⟨rfl, rfl⟩, by omega, fun i hi => ?_⟩
      have hi : i < 1 := hi
      match i, hi with
      | 0, _ => (go_simp; first | done | rfl)

end Go.Proofs.Ytodjohoonbkklaa

/- compose: places. -/
import Derived.Test.YtodjohoonbkklaaCpF
import Derived.Deep.RegionHeld3
namespace Go.Proofs.Ytodjohoonbkklaa
open Go.RowKit
set_option linter.unusedVariables false
set_option linter.unusedSimpArgs false
set_option maxRecDepth 100000 in
set_option maxHeartbeats 2000000 in
theorem places_calls (B : Nat) (f Y : Int) (hY : bits .and .i64 f 200 = Y) (w : World) : Calls Try.prog 113 #[.pointer (some ⟨B, 1, none⟩), .int .i64 f] w fun e w' => ∃ v, e = .returned (.tuple #[v, .bool (okM Y)]) ∧ IsPl w.heap.size w' v B (plM Y) ∧ Kp [] w w' := by
  by_cases h0 : Y = 0
  · subst h0
    go_enter Try.func113, Try.ntmps113
    go_wp2_with fail
    go_ret2
    exact ⟨_, rfl, .inl ⟨rfl, rfl⟩, Kp.refl _ _⟩
  by_cases h8 : Y = 8
  · subst h8
    rw [show plM 8 = [[1, 4]] from rfl]
    clear h0
    go_enter Try.func113, Try.ntmps113
    go_wp2_with fail
    go_region_held3 (fun _ => True) (trivial) (fail)
    all_goals
      go_wp2_with fail
      go_ret2
      refine ⟨_, rfl, .inr ⟨_, rfl, by omega, fun j hj => ?_⟩, by (repeat (first | exact Kp.refl _ _ | assumption | refine Kp.drew ?_ | refine Kp.drewN ?_ _ | refine Kp.alloc ?_ _ | (refine Kp.setCell ?_ (by first | (left; simp; done) | (right; simp; try omega)) _) | (refine Kp.trans' ?_ (by assumption) (by simp; try omega))))⟩
      have hj : j < 1 := hj
      match j, hj with
      | 0, _ =>
        refine ⟨_, by go_simp; first | rfl | exact ⟨rfl, rfl⟩, by omega, fun i hi => ?_⟩
        have hi : i < 2 := hi
        match i, hi with
        | 0, _ => (go_simp; first | done | rfl)
        | 1, _ => (go_simp; first | done | rfl)
  by_cases h64 : Y = 64
  · subst h64
    rw [show plM 64 = [[1], [4]] from rfl]
    clear h0 h8
    go_enter Try.func113, Try.ntmps113
    go_wp2_with fail
    go_region_held3 (fun _ => True) (trivial) (fail)
    all_goals
      go_wp2_with fail
      go_ret2
      refine ⟨_, rfl, .inr ⟨_, rfl, by omega, fun j hj => ?_⟩, by (repeat (first | exact Kp.refl _ _ | assumption | refine Kp.drew ?_ | refine Kp.drewN ?_ _ | refine Kp.alloc ?_ _ | (refine Kp.setCell ?_ (by first | (left; simp; done) | (right; simp; try omega)) _) | (refine Kp.trans' ?_ (by assumption) (by simp; try omega))))⟩
      have hj : j < 2 := hj
      match j, hj with
      | 0, _ =>
        refine ⟨_, by go_simp; first | rfl | exact ⟨rfl, rfl⟩, by omega, fun i hi => ?_⟩
        have hi : i < 1 := hi
        match i, hi with
        | 0, _ => (go_simp; first | done | rfl)
      | 1, _ =>
        refine ⟨_, by go_simp; first | rfl | exact ⟨rfl, rfl⟩, by omega, fun i hi => ?_⟩
        have hi : i < 1 := hi
        match i, hi with
        | 0, _ => (go_simp; first | done | rfl)
  by_cases h128 : Y = 128
  · subst h128
    exact places_128 B f hY w
  · have HE : Hid (okM Y = false ∧ plM Y = []) := by show _ ∧ _; simp [okM, plM, h0, h8, h64, h128]
    go_enter Try.func113, Try.ntmps113
    go_wp2_with fail
    go_ret2
    exact ⟨_, by rw [HE.out.1]; rfl, .inl ⟨rfl, HE.out.2⟩, Kp.refl _ _⟩
end Go.Proofs.Ytodjohoonbkklaa

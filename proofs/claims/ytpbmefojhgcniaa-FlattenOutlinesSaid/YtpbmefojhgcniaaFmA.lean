/- flatten: scales · flatten: the dot of a point; how far the pen moves · flatten: flat outlines, as they are read and as they are built · curve: the places of a bow, one after the other (the iterator of Dots); the seat has no laws of chapter 20. (Out of CuL and CuM.) · flatten: the reference's Dot · flatten: the iterator over all dots · flatten: which flat outlines may be. (Merged by wip/tools/mergetpl.py out of FlA, FlB, FlC, FlD, FlE, FlF, FlG.) -/
import Derived.Test.YtpbmefojhgcniaaQuiet
import Derived.Test.YtpbmefojhgcniaaCuA
import Derived.Test.YtpbmefojhgcniaaOmA
import Derived.BigQuiet
import Derived.Deep.DeepCutAuto
import Derived.Test.YtpbmefojhgcniaaFixD
import Derived.Test.YtpbmefojhgcniaaOmD
import Derived.Test.YtpbmefojhgcniaaPair
import Derived.Test.YtpbmefojhgcniaaProg
import Derived.Test.YtpbmefojhgcniaaApp
import Derived.Deep.AppendLies
import Derived.Test.YtpbmefojhgcniaaCuH
import Derived.RangeFuncNested
import Derived.RangeFuncBound
import Derived.RangeFuncCalls
import Derived.RangeFuncLeaves
import Derived.RangeFuncBox
import Derived.RangeFuncFrom
import Derived.Shelf.Abstract
import Derived.WalkKit
import Derived.OwnWalkIn
import Derived.TacticsInMore
import Derived.LoopNIn
import Derived.LoopIn
import Derived.Test.YtpbmefojhgcniaaRnd
namespace Go.Proofs.Ytpbmefojhgcniaa
open Go.RowKit
set_option linter.unusedVariables false
set_option linter.unusedSimpArgs false
/-- A scale: units, pixels, phases. -/
structure Sc where
  u : Int
  p : Int
  fx : Int
  fy : Int
deriving DecidableEq
def scV (s : Sc) : Value := .agg #[.int .i64 s.u, .int .i64 s.p, .int .i64 s.fx, .int .i64 s.fy]

def mayS (s : Sc) : Bool := decide (16 ≤ s.u) && (decide (s.u ≤ 16384) && (decide (1 ≤ s.p) && (decide (s.p ≤ 2048) && (decide (0 ≤ s.fx) && (decide (s.fx < 64) && (decide (0 ≤ s.fy) && (decide (s.fy < 64))))))))
theorem mayS_facts {s : Sc} (h : mayS s = true) : (16 ≤ s.u ∧ s.u ≤ 16384) ∧ (1 ≤ s.p ∧ s.p ≤ 2048) ∧ (0 ≤ s.fx ∧ s.fx < 64) ∧ 0 ≤ s.fy ∧ s.fy < 64 := by
  unfold mayS at h
  simp only [Bool.and_eq_true, decide_eq_true_eq] at h
  omega
set_option maxRecDepth 100000 in
set_option maxHeartbeats 2000000 in
theorem mayscale_calls (s : Sc) (w : World) : Calls Try.prog 28 #[scV s] w fun e w' => e = .returned (.bool (mayS s)) ∧ Kp [] w w' := by
  obtain ⟨B, hB⟩ : ∃ B, mayS s = B := ⟨_, rfl⟩
  have HB := Lib.hid hB
  rw [hB]
  clear hB
  cases h0 : decide (16 ≤ s.u) with
  | false =>
    have HE : Hid (B = false) := by show _ = _; rw [← HB.out]; unfold mayS; rw [h0]; rfl
    rw [HE.out]
    clear HE HB
    unfold scV
    go_enter Try.func28, Try.ntmps28
    go_wp2_with fail
    go_ret
    exact ⟨rfl, by (repeat (first | exact Kp.refl _ _ | assumption | refine Kp.drew ?_ | refine Kp.drewN ?_ _ | refine Kp.alloc ?_ _ | (refine Kp.setCell ?_ (by first | (left; simp; done) | (right; simp; try omega)) _) | (refine Kp.trans' ?_ (by assumption) (by simp; try omega))))⟩
  | true =>
    cases h1 : decide (s.u ≤ 16384) with
    | false =>
      have HE : Hid (B = false) := by show _ = _; rw [← HB.out]; unfold mayS; rw [h0, h1]; rfl
      rw [HE.out]
      clear HE HB
      unfold scV
      go_enter Try.func28, Try.ntmps28
      go_wp2_with fail
      go_ret
      exact ⟨rfl, by (repeat (first | exact Kp.refl _ _ | assumption | refine Kp.drew ?_ | refine Kp.drewN ?_ _ | refine Kp.alloc ?_ _ | (refine Kp.setCell ?_ (by first | (left; simp; done) | (right; simp; try omega)) _) | (refine Kp.trans' ?_ (by assumption) (by simp; try omega))))⟩
    | true =>
      cases h2 : decide (1 ≤ s.p) with
      | false =>
        have HE : Hid (B = false) := by show _ = _; rw [← HB.out]; unfold mayS; rw [h0, h1, h2]; rfl
        rw [HE.out]
        clear HE HB
        unfold scV
        go_enter Try.func28, Try.ntmps28
        go_wp2_with fail
        go_ret
        exact ⟨rfl, by (repeat (first | exact Kp.refl _ _ | assumption | refine Kp.drew ?_ | refine Kp.drewN ?_ _ | refine Kp.alloc ?_ _ | (refine Kp.setCell ?_ (by first | (left; simp; done) | (right; simp; try omega)) _) | (refine Kp.trans' ?_ (by assumption) (by simp; try omega))))⟩
      | true =>
        cases h3 : decide (s.p ≤ 2048) with
        | false =>
          have HE : Hid (B = false) := by show _ = _; rw [← HB.out]; unfold mayS; rw [h0, h1, h2, h3]; rfl
          rw [HE.out]
          clear HE HB
          unfold scV
          go_enter Try.func28, Try.ntmps28
          go_wp2_with fail
          go_ret
          exact ⟨rfl, by (repeat (first | exact Kp.refl _ _ | assumption | refine Kp.drew ?_ | refine Kp.drewN ?_ _ | refine Kp.alloc ?_ _ | (refine Kp.setCell ?_ (by first | (left; simp; done) | (right; simp; try omega)) _) | (refine Kp.trans' ?_ (by assumption) (by simp; try omega))))⟩
        | true =>
          cases h4 : decide (0 ≤ s.fx) with
          | false =>
            have HE : Hid (B = false) := by show _ = _; rw [← HB.out]; unfold mayS; rw [h0, h1, h2, h3, h4]; rfl
            rw [HE.out]
            clear HE HB
            unfold scV
            go_enter Try.func28, Try.ntmps28
            go_wp2_with fail
            go_ret
            exact ⟨rfl, by (repeat (first | exact Kp.refl _ _ | assumption | refine Kp.drew ?_ | refine Kp.drewN ?_ _ | refine Kp.alloc ?_ _ | (refine Kp.setCell ?_ (by first | (left; simp; done) | (right; simp; try omega)) _) | (refine Kp.trans' ?_ (by assumption) (by simp; try omega))))⟩
          | true =>
            cases h5 : decide (s.fx < 64) with
            | false =>
              have HE : Hid (B = false) := by show _ = _; rw [← HB.out]; unfold mayS; rw [h0, h1, h2, h3, h4, h5]; rfl
              rw [HE.out]
              clear HE HB
              unfold scV
              go_enter Try.func28, Try.ntmps28
              go_wp2_with fail
              go_ret
              exact ⟨rfl, by (repeat (first | exact Kp.refl _ _ | assumption | refine Kp.drew ?_ | refine Kp.drewN ?_ _ | refine Kp.alloc ?_ _ | (refine Kp.setCell ?_ (by first | (left; simp; done) | (right; simp; try omega)) _) | (refine Kp.trans' ?_ (by assumption) (by simp; try omega))))⟩
            | true =>
              cases h6 : decide (0 ≤ s.fy) with
              | false =>
                have HE : Hid (B = false) := by show _ = _; rw [← HB.out]; unfold mayS; rw [h0, h1, h2, h3, h4, h5, h6]; rfl
                rw [HE.out]
                clear HE HB
                unfold scV
                go_enter Try.func28, Try.ntmps28
                go_wp2_with fail
                go_ret
                exact ⟨rfl, by (repeat (first | exact Kp.refl _ _ | assumption | refine Kp.drew ?_ | refine Kp.drewN ?_ _ | refine Kp.alloc ?_ _ | (refine Kp.setCell ?_ (by first | (left; simp; done) | (right; simp; try omega)) _) | (refine Kp.trans' ?_ (by assumption) (by simp; try omega))))⟩
              | true =>
                cases h7 : decide (s.fy < 64) with
                | false =>
                  have HE : Hid (B = false) := by show _ = _; rw [← HB.out]; unfold mayS; rw [h0, h1, h2, h3, h4, h5, h6, h7]; rfl
                  rw [HE.out]
                  clear HE HB
                  unfold scV
                  go_enter Try.func28, Try.ntmps28
                  go_wp2_with fail
                  go_ret
                  exact ⟨rfl, by (repeat (first | exact Kp.refl _ _ | assumption | refine Kp.drew ?_ | refine Kp.drewN ?_ _ | refine Kp.alloc ?_ _ | (refine Kp.setCell ?_ (by first | (left; simp; done) | (right; simp; try omega)) _) | (refine Kp.trans' ?_ (by assumption) (by simp; try omega))))⟩
                | true =>
                  have HE : Hid (B = true) := by show _ = _; rw [← HB.out]; unfold mayS; rw [h0, h1, h2, h3, h4, h5, h6, h7]; rfl
                  rw [HE.out]
                  clear HE HB
                  unfold scV
                  go_enter Try.func28, Try.ntmps28
                  go_wp2_with fail
                  go_ret
                  exact ⟨rfl, by (repeat (first | exact Kp.refl _ _ | assumption | refine Kp.drew ?_ | refine Kp.drewN ?_ _ | refine Kp.alloc ?_ _ | (refine Kp.setCell ?_ (by first | (left; simp; done) | (right; simp; try omega)) _) | (refine Kp.trans' ?_ (by assumption) (by simp; try omega))))⟩
set_option maxRecDepth 100000 in
set_option maxHeartbeats 2000000 in
theorem rmayscale_calls (s : Sc) (w : World) : Calls Try.prog 11 #[scV s] w fun e w' => e = .returned (.bool (mayS s)) ∧ Kp [] w w' := by
  obtain ⟨B, hB⟩ : ∃ B, mayS s = B := ⟨_, rfl⟩
  have HB := Lib.hid hB
  rw [hB]
  clear hB
  cases h0 : decide (16 ≤ s.u) with
  | false =>
    have HE : Hid (B = false) := by show _ = _; rw [← HB.out]; unfold mayS; rw [h0]; rfl
    rw [HE.out]
    clear HE HB
    unfold scV
    go_enter Try.func11, Try.ntmps11
    go_wp2_with fail
    go_ret
    exact ⟨rfl, by (repeat (first | exact Kp.refl _ _ | assumption | refine Kp.drew ?_ | refine Kp.drewN ?_ _ | refine Kp.alloc ?_ _ | (refine Kp.setCell ?_ (by first | (left; simp; done) | (right; simp; try omega)) _) | (refine Kp.trans' ?_ (by assumption) (by simp; try omega))))⟩
  | true =>
    cases h1 : decide (s.u ≤ 16384) with
    | false =>
      have HE : Hid (B = false) := by show _ = _; rw [← HB.out]; unfold mayS; rw [h0, h1]; rfl
      rw [HE.out]
      clear HE HB
      unfold scV
      go_enter Try.func11, Try.ntmps11
      go_wp2_with fail
      go_ret
      exact ⟨rfl, by (repeat (first | exact Kp.refl _ _ | assumption | refine Kp.drew ?_ | refine Kp.drewN ?_ _ | refine Kp.alloc ?_ _ | (refine Kp.setCell ?_ (by first | (left; simp; done) | (right; simp; try omega)) _) | (refine Kp.trans' ?_ (by assumption) (by simp; try omega))))⟩
    | true =>
      cases h2 : decide (1 ≤ s.p) with
      | false =>
        have HE : Hid (B = false) := by show _ = _; rw [← HB.out]; unfold mayS; rw [h0, h1, h2]; rfl
        rw [HE.out]
        clear HE HB
        unfold scV
        go_enter Try.func11, Try.ntmps11
        go_wp2_with fail
        go_ret
        exact ⟨rfl, by (repeat (first | exact Kp.refl _ _ | assumption | refine Kp.drew ?_ | refine Kp.drewN ?_ _ | refine Kp.alloc ?_ _ | (refine Kp.setCell ?_ (by first | (left; simp; done) | (right; simp; try omega)) _) | (refine Kp.trans' ?_ (by assumption) (by simp; try omega))))⟩
      | true =>
        cases h3 : decide (s.p ≤ 2048) with
        | false =>
          have HE : Hid (B = false) := by show _ = _; rw [← HB.out]; unfold mayS; rw [h0, h1, h2, h3]; rfl
          rw [HE.out]
          clear HE HB
          unfold scV
          go_enter Try.func11, Try.ntmps11
          go_wp2_with fail
          go_ret
          exact ⟨rfl, by (repeat (first | exact Kp.refl _ _ | assumption | refine Kp.drew ?_ | refine Kp.drewN ?_ _ | refine Kp.alloc ?_ _ | (refine Kp.setCell ?_ (by first | (left; simp; done) | (right; simp; try omega)) _) | (refine Kp.trans' ?_ (by assumption) (by simp; try omega))))⟩
        | true =>
          cases h4 : decide (0 ≤ s.fx) with
          | false =>
            have HE : Hid (B = false) := by show _ = _; rw [← HB.out]; unfold mayS; rw [h0, h1, h2, h3, h4]; rfl
            rw [HE.out]
            clear HE HB
            unfold scV
            go_enter Try.func11, Try.ntmps11
            go_wp2_with fail
            go_ret
            exact ⟨rfl, by (repeat (first | exact Kp.refl _ _ | assumption | refine Kp.drew ?_ | refine Kp.drewN ?_ _ | refine Kp.alloc ?_ _ | (refine Kp.setCell ?_ (by first | (left; simp; done) | (right; simp; try omega)) _) | (refine Kp.trans' ?_ (by assumption) (by simp; try omega))))⟩
          | true =>
            cases h5 : decide (s.fx < 64) with
            | false =>
              have HE : Hid (B = false) := by show _ = _; rw [← HB.out]; unfold mayS; rw [h0, h1, h2, h3, h4, h5]; rfl
              rw [HE.out]
              clear HE HB
              unfold scV
              go_enter Try.func11, Try.ntmps11
              go_wp2_with fail
              go_ret
              exact ⟨rfl, by (repeat (first | exact Kp.refl _ _ | assumption | refine Kp.drew ?_ | refine Kp.drewN ?_ _ | refine Kp.alloc ?_ _ | (refine Kp.setCell ?_ (by first | (left; simp; done) | (right; simp; try omega)) _) | (refine Kp.trans' ?_ (by assumption) (by simp; try omega))))⟩
            | true =>
              cases h6 : decide (0 ≤ s.fy) with
              | false =>
                have HE : Hid (B = false) := by show _ = _; rw [← HB.out]; unfold mayS; rw [h0, h1, h2, h3, h4, h5, h6]; rfl
                rw [HE.out]
                clear HE HB
                unfold scV
                go_enter Try.func11, Try.ntmps11
                go_wp2_with fail
                go_ret
                exact ⟨rfl, by (repeat (first | exact Kp.refl _ _ | assumption | refine Kp.drew ?_ | refine Kp.drewN ?_ _ | refine Kp.alloc ?_ _ | (refine Kp.setCell ?_ (by first | (left; simp; done) | (right; simp; try omega)) _) | (refine Kp.trans' ?_ (by assumption) (by simp; try omega))))⟩
              | true =>
                cases h7 : decide (s.fy < 64) with
                | false =>
                  have HE : Hid (B = false) := by show _ = _; rw [← HB.out]; unfold mayS; rw [h0, h1, h2, h3, h4, h5, h6, h7]; rfl
                  rw [HE.out]
                  clear HE HB
                  unfold scV
                  go_enter Try.func11, Try.ntmps11
                  go_wp2_with fail
                  go_ret
                  exact ⟨rfl, by (repeat (first | exact Kp.refl _ _ | assumption | refine Kp.drew ?_ | refine Kp.drewN ?_ _ | refine Kp.alloc ?_ _ | (refine Kp.setCell ?_ (by first | (left; simp; done) | (right; simp; try omega)) _) | (refine Kp.trans' ?_ (by assumption) (by simp; try omega))))⟩
                | true =>
                  have HE : Hid (B = true) := by show _ = _; rw [← HB.out]; unfold mayS; rw [h0, h1, h2, h3, h4, h5, h6, h7]; rfl
                  rw [HE.out]
                  clear HE HB
                  unfold scV
                  go_enter Try.func11, Try.ntmps11
                  go_wp2_with fail
                  go_ret
                  exact ⟨rfl, by (repeat (first | exact Kp.refl _ _ | assumption | refine Kp.drew ?_ | refine Kp.drewN ?_ _ | refine Kp.alloc ?_ _ | (refine Kp.setCell ?_ (by first | (left; simp; done) | (right; simp; try omega)) _) | (refine Kp.trans' ?_ (by assumption) (by simp; try omega))))⟩
theorem fwithin_calls (x : Int) (w : World) : Calls Try.prog 49 #[.int .i64 x] w fun e w' => e = .returned (.bool (inD x)) ∧ Kp [] w w' := by
  by_cases h1 : -1048576 ≤ x
  · by_cases h2 : x ≤ 1048576
    · rw [inD_iff.2 ⟨h1, h2⟩]
      go_enter Try.func49, Try.ntmps49
      go_wp2_with fail
      go_ret
      exact ⟨rfl, by (repeat (first | exact Kp.refl _ _ | assumption | refine Kp.drew ?_ | refine Kp.drewN ?_ _ | refine Kp.alloc ?_ _ | (refine Kp.setCell ?_ (by first | (left; simp; done) | (right; simp; try omega)) _) | (refine Kp.trans' ?_ (by assumption) (by simp; try omega))))⟩
    · rw [show inD x = false by unfold inD; simp [h2]]
      go_enter Try.func49, Try.ntmps49
      go_wp2_with fail
      go_ret
      exact ⟨rfl, by (repeat (first | exact Kp.refl _ _ | assumption | refine Kp.drew ?_ | refine Kp.drewN ?_ _ | refine Kp.alloc ?_ _ | (refine Kp.setCell ?_ (by first | (left; simp; done) | (right; simp; try omega)) _) | (refine Kp.trans' ?_ (by assumption) (by simp; try omega))))⟩
  · rw [show inD x = false by unfold inD; simp [h1]]
    go_enter Try.func49, Try.ntmps49
    go_wp2_with fail
    go_ret
    exact ⟨rfl, by (repeat (first | exact Kp.refl _ _ | assumption | refine Kp.drew ?_ | refine Kp.drewN ?_ _ | refine Kp.alloc ?_ _ | (refine Kp.setCell ?_ (by first | (left; simp; done) | (right; simp; try omega)) _) | (refine Kp.trans' ?_ (by assumption) (by simp; try omega))))⟩
theorem rfits_calls (x : Int) (w : World) : Calls Try.prog 34 #[.int .i64 x] w fun e w' => e = .returned (.bool (inD x)) ∧ Kp [] w w' := by
  by_cases h1 : -1048576 ≤ x
  · by_cases h2 : x ≤ 1048576
    · rw [inD_iff.2 ⟨h1, h2⟩]
      go_enter Try.func34, Try.ntmps34
      go_wp2_with fail
      go_ret
      exact ⟨rfl, by (repeat (first | exact Kp.refl _ _ | assumption | refine Kp.drew ?_ | refine Kp.drewN ?_ _ | refine Kp.alloc ?_ _ | (refine Kp.setCell ?_ (by first | (left; simp; done) | (right; simp; try omega)) _) | (refine Kp.trans' ?_ (by assumption) (by simp; try omega))))⟩
    · rw [show inD x = false by unfold inD; simp [h2]]
      go_enter Try.func34, Try.ntmps34
      go_wp2_with fail
      go_ret
      exact ⟨rfl, by (repeat (first | exact Kp.refl _ _ | assumption | refine Kp.drew ?_ | refine Kp.drewN ?_ _ | refine Kp.alloc ?_ _ | (refine Kp.setCell ?_ (by first | (left; simp; done) | (right; simp; try omega)) _) | (refine Kp.trans' ?_ (by assumption) (by simp; try omega))))⟩
  · rw [show inD x = false by unfold inD; simp [h1]]
    go_enter Try.func34, Try.ntmps34
    go_wp2_with fail
    go_ret
    exact ⟨rfl, by (repeat (first | exact Kp.refl _ _ | assumption | refine Kp.drew ?_ | refine Kp.drewN ?_ _ | refine Kp.alloc ?_ _ | (refine Kp.setCell ?_ (by first | (left; simp; done) | (right; simp; try omega)) _) | (refine Kp.trans' ?_ (by assumption) (by simp; try omega))))⟩
end Go.Proofs.Ytpbmefojhgcniaa
namespace Go.Proofs.Ytpbmefojhgcniaa
open Go.RowKit
set_option linter.unusedVariables false
set_option linter.unusedSimpArgs false
theorem kpOf {w w' : World} (h : Bel w w') : Kp [] w w' := ⟨h.os, h.tape, h.output, h.size, fun k hk _ => h.block k hk⟩
def nxP (s : Sc) (p : Pn) : Int := nearQ (p.x * s.p * 64) (65536 * s.u) + s.fx
def nyP (s : Sc) (p : Pn) : Int := nearQ (-p.y * s.p * 64) (65536 * s.u) + s.fy
/-- A point's dot, by a scale that may be. -/
def dotP (s : Sc) (p : Pn) : (Int × Int) × Int := if (numF p.x && numF p.y) = true then (if dotQ (nxP s p, nyP s p) = true then ((nxP s p, nyP s p), 0) else ((0, 0), 10)) else ((0, 0), 10)
def dotS (s : Sc) (p : Pn) : (Int × Int) × Int := if mayS s = true then dotP s p else ((0, 0), 210)
def ScAt (W : World) (B : Nat) (s : Sc) : Prop := W.heap[B]? = some (.cells #[.int .i64 s.u, .int .i64 s.p, .int .i64 s.fx, .int .i64 s.fy] 23 (0, 0))
def PnAt (W : World) (B : Nat) (p : Pn) : Prop := W.heap[B]? = some (.cells #[.int .i64 p.x, .int .i64 p.y, .int .i64 p.k] 25 (0, 0))
def DtAt (W : World) (B : Nat) (x y : Int) : Prop := W.heap[B]? = some (.cells #[.int .i64 x, .int .i64 y] 27 (0, 0))
theorem ScAt.cells {W : World} {B : Nat} {s : Sc} (h : ScAt W B s) : W.cell? ⟨B, 0, none⟩ = some (.int .i64 s.u) ∧ W.cell? ⟨B, 1, none⟩ = some (.int .i64 s.p) ∧ W.cell? ⟨B, 2, none⟩ = some (.int .i64 s.fx) ∧ W.cell? ⟨B, 3, none⟩ = some (.int .i64 s.fy) :=
  ⟨by rw [cell_of_row W B 0 _ _ _ h]; rfl, by rw [cell_of_row W B 1 _ _ _ h]; rfl, by rw [cell_of_row W B 2 _ _ _ h]; rfl, by rw [cell_of_row W B 3 _ _ _ h]; rfl⟩
theorem PnAt.cells {W : World} {B : Nat} {p : Pn} (h : PnAt W B p) : W.cell? ⟨B, 0, none⟩ = some (.int .i64 p.x) ∧ W.cell? ⟨B, 1, none⟩ = some (.int .i64 p.y) ∧ W.cell? ⟨B, 2, none⟩ = some (.int .i64 p.k) :=
  ⟨by rw [cell_of_row W B 0 _ _ _ h]; rfl, by rw [cell_of_row W B 1 _ _ _ h]; rfl, by rw [cell_of_row W B 2 _ _ _ h]; rfl⟩
theorem DtAt.cells {W : World} {B : Nat} {x y : Int} (h : DtAt W B x y) : W.cell? ⟨B, 0, none⟩ = some (.int .i64 x) ∧ W.cell? ⟨B, 1, none⟩ = some (.int .i64 y) ∧ W.frozen? ⟨B, 0, none⟩ = false ∧ W.frozen? ⟨B, 1, none⟩ = false :=
  ⟨by rw [cell_of_row W B 0 _ _ _ h]; rfl, by rw [cell_of_row W B 1 _ _ _ h]; rfl, frozen_of_row W B 0 _ _ h, frozen_of_row W B 1 _ _ h⟩
theorem ScAt.kp0 {W W' : World} {B : Nat} {s : Sc} (h : ScAt W B s) (hk : Kp [] W W') : ScAt W' B s := hk.heap h (by simp)
theorem PnAt.kp0 {W W' : World} {B : Nat} {p : Pn} (h : PnAt W B p) (hk : Kp [] W W') : PnAt W' B p := hk.heap h (by simp)
theorem DtAt.kp0 {W W' : World} {B : Nat} {x y : Int} (h : DtAt W B x y) (hk : Kp [] W W') : DtAt W' B x y := hk.heap h (by simp)
theorem DtAt.set {W : World} {B : Nat} {a b : Int} (h : DtAt W B a b) (x y : Int) : DtAt ((W.setCell ⟨B, 0, none⟩ (.int .i64 x)).setCell ⟨B, 1, none⟩ (.int .i64 y)) B x y :=
  heap_setCell_same _ B 1 _ _ _ (heap_setCell_same W B 0 _ _ _ h)
theorem wrI (x : Int) (h0 : -9223372036854775808 ≤ x) (h1 : x ≤ 9223372036854775807) : IntKind.i64.wrap x = x := by rw [IntKind.wrap_i64]; omega
theorem near_small (a b : Int) (h1 : 1 ≤ b) (h2 : b ≤ 1073741824) (h3 : -562949953421312 ≤ a) (h4 : a ≤ 562949953421312) : -2251799813685248 ≤ nearQ a b ∧ nearQ a b ≤ 2251799813685248 := by
  unfold nearQ
  rw [if_pos (by omega)]
  by_cases h : 0 ≤ 2 * a + b
  · have := ediv_bounds (2 * a + b) (2 * b) h (by omega)
    omega
  · have g1 : (2 * a + b) / (2 * b) < 0 := Int.ediv_neg_of_neg_of_pos (by omega) (by omega)
    have g2 : 2 * a + b ≤ (2 * a + b) / (2 * b) := by
      rw [Int.le_ediv_iff_mul_le (by omega)]
      have : (2 * a + b) * (2 * b) ≤ (2 * a + b) * 1 := Int.mul_le_mul_of_nonpos_left (by omega) (by omega)
      omega
    omega
theorem mul_small (x p : Int) (h : -2147483648 ≤ x ∧ x ≤ 2147483648) (hp : 1 ≤ p ∧ p ≤ 2048) : (-4398046511104 ≤ x * p ∧ x * p ≤ 4398046511104) := by
  have a1 : x * p ≤ 2147483648 * 2048 := by
    by_cases h0 : 0 ≤ x
    · exact Int.mul_le_mul h.2 hp.2 (by omega) (by omega)
    · have : x * p ≤ 0 := Int.mul_nonpos_of_nonpos_of_nonneg (by omega) (by omega)
      omega
  have a2 : (-x) * p ≤ 2147483648 * 2048 := by
    by_cases h0 : 0 ≤ -x
    · exact Int.mul_le_mul (by omega) hp.2 (by omega) (by omega)
    · have : (-x) * p ≤ 0 := Int.mul_nonpos_of_nonpos_of_nonneg (by omega) (by omega)
      omega
  rw [Int.neg_mul] at a2
  omega
/-- All that Dot reckons with stays within 64 bits. -/
theorem dot_facts {s : Sc} (hs : mayS s = true) {p : Pn} (hx : numF p.x = true) (hy : numF p.y = true) :
    (IntKind.i64.wrap (65536 * s.u) = 65536 * s.u ∧ 1 ≤ 65536 * s.u ∧ 65536 * s.u ≤ 1073741824) ∧
    (IntKind.i64.wrap (p.x * s.p) = p.x * s.p ∧ IntKind.i64.wrap (p.x * s.p * 64) = p.x * s.p * 64 ∧ -562949953421312 ≤ p.x * s.p * 64 ∧ p.x * s.p * 64 ≤ 562949953421312) ∧
    (IntKind.i64.wrap (-p.y) = -p.y ∧ IntKind.i64.wrap (-p.y * s.p) = -p.y * s.p ∧ IntKind.i64.wrap (-p.y * s.p * 64) = -p.y * s.p * 64 ∧ -562949953421312 ≤ -p.y * s.p * 64 ∧ -p.y * s.p * 64 ≤ 562949953421312) ∧
    (IntKind.i64.wrap (nxP s p) = nxP s p ∧ IntKind.i64.wrap (nyP s p) = nyP s p) := by
  obtain ⟨h1, h2, h3, h4⟩ := mayS_facts hs
  have m1 := mul_small p.x s.p ((numF_iff _).1 hx) h2
  have m2 := mul_small (-p.y) s.p (by have := (numF_iff _).1 hy; omega) h2
  have n1 := near_small (p.x * s.p * 64) (65536 * s.u) (by omega) (by omega) (by omega) (by omega)
  have n2 := near_small (-p.y * s.p * 64) (65536 * s.u) (by omega) (by omega) (by omega) (by omega)
  have hy2 := (numF_iff _).1 hy
  refine ⟨⟨wrI _ (by omega) (by omega), by omega, by omega⟩, ⟨wrI _ (by omega) (by omega), wrI _ (by omega) (by omega), by omega, by omega⟩, ⟨wrI _ (by omega) (by omega), wrI _ (by omega) (by omega), wrI _ (by omega) (by omega), by omega, by omega⟩, wrI _ ?_ ?_, wrI _ ?_ ?_⟩
  all_goals (first | unfold nxP | unfold nyP); omega
theorem fmaydot_calls (x y : Int) (w : World) : Calls Try.prog 31 #[.agg #[.int .i64 x, .int .i64 y]] w fun e w' => e = .returned (.bool (dotQ (x, y))) ∧ Kp [] w w' := by
  cases hx : inD x
  · have HX : Hid _ := hx
    have HE : Hid (dotQ (x, y) = false) := by unfold Hid dotQ; rw [hx]; rfl
    clear hx
    go_enter Try.func31, Try.ntmps31
    go_wp2_with fail
    refine (fwithin_calls x _).mono ?_; rintro e w1 ⟨rfl, hk⟩
    rw [HX.out]
    go_wp2_with fail
    go_ret
    exact ⟨by rw [HE.out]; first | done | rfl | simp, by (repeat (first | exact Kp.refl _ _ | assumption | refine Kp.drew ?_ | refine Kp.drewN ?_ _ | refine Kp.alloc ?_ _ | (refine Kp.setCell ?_ (by first | (left; simp; done) | (right; simp; try omega)) _) | (refine Kp.trans' ?_ (by assumption) (by simp; try omega))))⟩
  · have HX : Hid _ := hx
    have HE : Hid (dotQ (x, y) = inD y) := by unfold Hid dotQ; rw [hx]; rfl
    clear hx
    go_enter Try.func31, Try.ntmps31
    go_wp2_with fail
    refine (fwithin_calls x _).mono ?_; rintro e w1 ⟨rfl, hk⟩
    rw [HX.out]
    obtain ⟨cb0, cb1⟩ := box2 hk
    go_wp2_with fail
    refine (fwithin_calls y _).mono ?_; rintro e w2 ⟨rfl, hk2⟩
    go_wp2_with fail
    go_ret
    exact ⟨by rw [HE.out]; first | done | rfl | simp, by (repeat (first | exact Kp.refl _ _ | assumption | refine Kp.drew ?_ | refine Kp.drewN ?_ _ | refine Kp.alloc ?_ _ | (refine Kp.setCell ?_ (by first | (left; simp; done) | (right; simp; try omega)) _) | (refine Kp.trans' ?_ (by assumption) (by simp; try omega))))⟩

theorem may_numF (x : Int) : mayB x = numF x := rfl
theorem nearS_calls (a b : Int) (h1 : 1 ≤ b) (h2 : b ≤ 2305843009213693952) (h3 : -2305843009213693952 ≤ a) (h4 : a ≤ 2305843009213693952) (w : World) :
    Calls Try.prog 30 #[.int .i64 a, .int .i64 b] w fun e w' => e = .returned (.tuple #[.int .i64 (nearQ a b), .int .i64 0]) ∧ Kp [] w w' := by
  have e1 : nearQ a b = (2 * a + b) / (2 * b) := by unfold nearQ; rw [if_pos (by omega)]
  rw [e1]
  exact (near_calls a b h1 h2 h3 h4 w).mono fun e w' ⟨h, k⟩ => ⟨h, kpOf k⟩
theorem rnearS_calls (a b : Int) (h1 : 1 ≤ b) (h2 : b ≤ 2305843009213693952) (h3 : -2305843009213693952 ≤ a) (h4 : a ≤ 2305843009213693952) (w : World) :
    Calls Try.prog 13 #[.int .i64 a, .int .i64 b] w fun e w' => e = .returned (.int .i64 (nearQ a b)) ∧ Kp [] w w' := by
  have e1 : nearQ a b = (2 * a + b) / (2 * b) := by unfold nearQ; rw [if_pos (by omega)]
  rw [e1]
  exact (rnear2_calls a b h1 h2 h3 h4 w).mono fun e w' ⟨h, k⟩ => ⟨h, kpOf k⟩
set_option maxRecDepth 100000 in
set_option maxHeartbeats 4000000 in
theorem fdot_no (s : Sc) (p : Pn) (hs : mayS s = false) (w : World) : Calls Try.prog 8 #[scV s, pnV p] w fun e w' => e = .returned (.tuple #[dotV (0, 0), .int .i64 210]) ∧ Kp [] w w' := by
  have HM := Lib.hid (fun W => mayscale_calls s W)
  rw [hs] at HM
  unfold scV at HM
  clear hs
  rw [show pnV p = .agg #[.int .i64 p.x, .int .i64 p.y, .int .i64 p.k] from rfl]
  unfold scV dotV
  go_enter Try.func8, Try.ntmps8
  go_wp2_with fail
  obtain ⟨q1, q2, q3⟩ := three_heap (w := w) (A := .cells #[.int .i64 s.u, .int .i64 s.p, .int .i64 s.fx, .int .i64 s.fy] 23) (B := .cells #[.int .i64 p.x, .int .i64 p.y, .int .i64 p.k] 25) (C := .cells #[.int .i64 0, .int .i64 0] 27) rfl
  refine (HM.out _).mono ?_; rintro e w1 ⟨rfl, hk⟩
  have HS : Hid (ScAt w1 w.heap.size s) := hk.heap q1 (by simp)
  have HP : Hid (PnAt w1 (w.heap.size + 1) p) := hk.heap q2 (by simp)
  have HD : Hid (DtAt w1 (w.heap.size + 1 + 1) 0 0) := hk.heap q3 (by simp)
  have HK : Hid (Kp [] w w1) := Kp.trans (by (repeat (first | exact Kp.refl _ _ | assumption | refine Kp.drew ?_ | refine Kp.drewN ?_ _ | refine Kp.alloc ?_ _ | (refine Kp.setCell ?_ (by first | (left; simp; done) | (right; simp; try omega)) _) | (refine Kp.trans' ?_ (by assumption) (by simp; try omega))))) hk
  clear hk q1 q2 q3
  obtain ⟨s0, s1, s2, s3⟩ := HS.out.cells
  obtain ⟨p0, p1, p2⟩ := HP.out.cells
  obtain ⟨d0, d1, d2, d3⟩ := HD.out.cells
  go_wp2_with fail
  obtain ⟨r0, r1, _, _⟩ := (HD.out.set (0) (0)).cells
  refine bodyPost_ret (v := .tuple #[.agg #[.int .i64 (0), .int .i64 (0)], .int .i64 210]) (by simp [results, Try.results8, go_sem, r0, r1]) rfl ⟨rfl, ?_⟩
  exact (HK.out.setCell (.inr (by show _ ≤ w.heap.size + 1 + 1; omega)) _).setCell (.inr (by show _ ≤ w.heap.size + 1 + 1; omega)) _
set_option maxRecDepth 100000 in
set_option maxHeartbeats 4000000 in
theorem fdot_x (s : Sc) (p : Pn) (hs : mayS s = true) (hf : numF p.x = false) (w : World) : Calls Try.prog 8 #[scV s, pnV p] w fun e w' => e = .returned (.tuple #[dotV (0, 0), .int .i64 10]) ∧ Kp [] w w' := by
  have HM := Lib.hid (fun W => mayscale_calls s W)
  have HX := Lib.hid (fun W => fmay_calls p.x W)
  have HY := Lib.hid (fun W => fmay_calls p.y W)
  rw [hs] at HM
  rw [hf] at HX
  unfold scV at HM
  clear hs hf
  rw [show pnV p = .agg #[.int .i64 p.x, .int .i64 p.y, .int .i64 p.k] from rfl]
  unfold scV dotV
  go_enter Try.func8, Try.ntmps8
  go_wp2_with fail
  obtain ⟨q1, q2, q3⟩ := three_heap (w := w) (A := .cells #[.int .i64 s.u, .int .i64 s.p, .int .i64 s.fx, .int .i64 s.fy] 23) (B := .cells #[.int .i64 p.x, .int .i64 p.y, .int .i64 p.k] 25) (C := .cells #[.int .i64 0, .int .i64 0] 27) rfl
  refine (HM.out _).mono ?_; rintro e w1 ⟨rfl, hk⟩
  have HS : Hid (ScAt w1 w.heap.size s) := hk.heap q1 (by simp)
  have HP : Hid (PnAt w1 (w.heap.size + 1) p) := hk.heap q2 (by simp)
  have HD : Hid (DtAt w1 (w.heap.size + 1 + 1) 0 0) := hk.heap q3 (by simp)
  have HK : Hid (Kp [] w w1) := Kp.trans (by (repeat (first | exact Kp.refl _ _ | assumption | refine Kp.drew ?_ | refine Kp.drewN ?_ _ | refine Kp.alloc ?_ _ | (refine Kp.setCell ?_ (by first | (left; simp; done) | (right; simp; try omega)) _) | (refine Kp.trans' ?_ (by assumption) (by simp; try omega))))) hk
  clear hk q1 q2 q3
  obtain ⟨s0, s1, s2, s3⟩ := HS.out.cells
  obtain ⟨p0, p1, p2⟩ := HP.out.cells
  obtain ⟨d0, d1, d2, d3⟩ := HD.out.cells
  go_wp2_with fail
  refine (HX.out _).mono ?_; rintro e w2 ⟨rfl, hwe⟩
  subst hwe
  go_wp2_with fail
  obtain ⟨r0, r1, _, _⟩ := (HD.out.set (0) (0)).cells
  refine bodyPost_ret (v := .tuple #[.agg #[.int .i64 (0), .int .i64 (0)], .int .i64 10]) (by simp [results, Try.results8, go_sem, r0, r1]) rfl ⟨rfl, ?_⟩
  exact (HK.out.setCell (.inr (by show _ ≤ w.heap.size + 1 + 1; omega)) _).setCell (.inr (by show _ ≤ w.heap.size + 1 + 1; omega)) _
set_option maxRecDepth 100000 in
set_option maxHeartbeats 4000000 in
theorem fdot_y (s : Sc) (p : Pn) (hs : mayS s = true) (hf : numF p.x = true ∧ numF p.y = false) (w : World) : Calls Try.prog 8 #[scV s, pnV p] w fun e w' => e = .returned (.tuple #[dotV (0, 0), .int .i64 10]) ∧ Kp [] w w' := by
  have HM := Lib.hid (fun W => mayscale_calls s W)
  have HX := Lib.hid (fun W => fmay_calls p.x W)
  have HY := Lib.hid (fun W => fmay_calls p.y W)
  rw [hs] at HM
  rw [hf.1] at HX
  rw [hf.2] at HY
  unfold scV at HM
  clear hs hf
  rw [show pnV p = .agg #[.int .i64 p.x, .int .i64 p.y, .int .i64 p.k] from rfl]
  unfold scV dotV
  go_enter Try.func8, Try.ntmps8
  go_wp2_with fail
  obtain ⟨q1, q2, q3⟩ := three_heap (w := w) (A := .cells #[.int .i64 s.u, .int .i64 s.p, .int .i64 s.fx, .int .i64 s.fy] 23) (B := .cells #[.int .i64 p.x, .int .i64 p.y, .int .i64 p.k] 25) (C := .cells #[.int .i64 0, .int .i64 0] 27) rfl
  refine (HM.out _).mono ?_; rintro e w1 ⟨rfl, hk⟩
  have HS : Hid (ScAt w1 w.heap.size s) := hk.heap q1 (by simp)
  have HP : Hid (PnAt w1 (w.heap.size + 1) p) := hk.heap q2 (by simp)
  have HD : Hid (DtAt w1 (w.heap.size + 1 + 1) 0 0) := hk.heap q3 (by simp)
  have HK : Hid (Kp [] w w1) := Kp.trans (by (repeat (first | exact Kp.refl _ _ | assumption | refine Kp.drew ?_ | refine Kp.drewN ?_ _ | refine Kp.alloc ?_ _ | (refine Kp.setCell ?_ (by first | (left; simp; done) | (right; simp; try omega)) _) | (refine Kp.trans' ?_ (by assumption) (by simp; try omega))))) hk
  clear hk q1 q2 q3
  obtain ⟨s0, s1, s2, s3⟩ := HS.out.cells
  obtain ⟨p0, p1, p2⟩ := HP.out.cells
  obtain ⟨d0, d1, d2, d3⟩ := HD.out.cells
  go_wp2_with fail
  refine (HX.out _).mono ?_; rintro e w2 ⟨rfl, hwe⟩
  subst hwe
  go_wp2_with fail
  refine (HY.out _).mono ?_; rintro e w2 ⟨rfl, hwe⟩
  subst hwe
  go_wp2_with fail
  obtain ⟨r0, r1, _, _⟩ := (HD.out.set (0) (0)).cells
  refine bodyPost_ret (v := .tuple #[.agg #[.int .i64 (0), .int .i64 (0)], .int .i64 10]) (by simp [results, Try.results8, go_sem, r0, r1]) rfl ⟨rfl, ?_⟩
  exact (HK.out.setCell (.inr (by show _ ≤ w.heap.size + 1 + 1; omega)) _).setCell (.inr (by show _ ≤ w.heap.size + 1 + 1; omega)) _
set_option maxRecDepth 100000 in
set_option maxHeartbeats 4000000 in
theorem fdot_far (s : Sc) (p : Pn) (hs : mayS s = true) (hx : numF p.x = true) (hy : numF p.y = true) (hd : dotQ (nxP s p, nyP s p) = false) (w : World) : Calls Try.prog 8 #[scV s, pnV p] w fun e w' => e = .returned (.tuple #[dotV (0, 0), .int .i64 10]) ∧ Kp [] w w' := by
  have HM := Lib.hid (fun W => mayscale_calls s W)
  have HX := Lib.hid (fun W => fmay_calls p.x W)
  have HY := Lib.hid (fun W => fmay_calls p.y W)
  rw [hs] at HM
  rw [hx] at HX
  rw [hy] at HY
  obtain ⟨⟨f0, f1, f2⟩, ⟨f3, f4, f5, f6⟩, ⟨f7, f8, f9, f10, f11⟩, f12, f13⟩ := dot_facts hs hx hy
  have HN1 := Lib.hid (fun W => nearS_calls (p.x * s.p * 64) (65536 * s.u) f1 (by omega) (by omega) (by omega) W)
  have HN2 := Lib.hid (fun W => nearS_calls (-p.y * s.p * 64) (65536 * s.u) f1 (by omega) (by omega) (by omega) W)
  have HQ := Lib.hid (fun W => fmaydot_calls (nxP s p) (nyP s p) W)
  rw [hd] at HQ
  unfold scV at HM
  obtain ⟨X, hX⟩ : ∃ X, nearQ (p.x * s.p * 64) (65536 * s.u) = X := ⟨_, rfl⟩
  obtain ⟨Y, hY⟩ : ∃ Y, nearQ (-p.y * s.p * 64) (65536 * s.u) = Y := ⟨_, rfl⟩
  have eX : nxP s p = X + s.fx := by unfold nxP; rw [hX]
  have eY : nyP s p = Y + s.fy := by unfold nyP; rw [hY]
  rw [hX] at HN1
  rw [hY] at HN2
  rw [eX] at HQ f12
  rw [eY] at HQ f13
  clear hs hx hy hd hX hY eX eY f1 f2 f5 f6 f10 f11
  rw [show pnV p = .agg #[.int .i64 p.x, .int .i64 p.y, .int .i64 p.k] from rfl]
  unfold scV dotV
  go_enter Try.func8, Try.ntmps8
  go_wp2_with fail
  obtain ⟨q1, q2, q3⟩ := three_heap (w := w) (A := .cells #[.int .i64 s.u, .int .i64 s.p, .int .i64 s.fx, .int .i64 s.fy] 23) (B := .cells #[.int .i64 p.x, .int .i64 p.y, .int .i64 p.k] 25) (C := .cells #[.int .i64 0, .int .i64 0] 27) rfl
  refine (HM.out _).mono ?_; rintro e w1 ⟨rfl, hk⟩
  have HS : Hid (ScAt w1 w.heap.size s) := hk.heap q1 (by simp)
  have HP : Hid (PnAt w1 (w.heap.size + 1) p) := hk.heap q2 (by simp)
  have HD : Hid (DtAt w1 (w.heap.size + 1 + 1) 0 0) := hk.heap q3 (by simp)
  have HK : Hid (Kp [] w w1) := Kp.trans (by (repeat (first | exact Kp.refl _ _ | assumption | refine Kp.drew ?_ | refine Kp.drewN ?_ _ | refine Kp.alloc ?_ _ | (refine Kp.setCell ?_ (by first | (left; simp; done) | (right; simp; try omega)) _) | (refine Kp.trans' ?_ (by assumption) (by simp; try omega))))) hk
  clear hk q1 q2 q3
  obtain ⟨s0, s1, s2, s3⟩ := HS.out.cells
  obtain ⟨p0, p1, p2⟩ := HP.out.cells
  obtain ⟨d0, d1, d2, d3⟩ := HD.out.cells
  go_wp2_with fail
  refine (HX.out _).mono ?_; rintro e w2 ⟨rfl, hwe⟩
  subst hwe
  go_wp2_with fail
  refine (HY.out _).mono ?_; rintro e w2 ⟨rfl, hwe⟩
  subst hwe
  clear HX HY HM
  go_wp2_with fail
  refine (HN1.out _).mono ?_; rintro e w2 ⟨rfl, hk⟩
  clear s0 s1 s2 s3 p0 p1 p2 d0 d1 d2 d3
  replace HS : Hid (ScAt w2 w.heap.size s) := HS.out.kp0 (Kp.trans (by (repeat (first | exact Kp.refl _ _ | assumption | refine Kp.drew ?_ | refine Kp.drewN ?_ _ | refine Kp.alloc ?_ _ | (refine Kp.setCell ?_ (by first | (left; simp; done) | (right; simp; try omega)) _) | (refine Kp.trans' ?_ (by assumption) (by simp; try omega))))) hk)
  replace HP : Hid (PnAt w2 (w.heap.size + 1) p) := HP.out.kp0 (Kp.trans (by (repeat (first | exact Kp.refl _ _ | assumption | refine Kp.drew ?_ | refine Kp.drewN ?_ _ | refine Kp.alloc ?_ _ | (refine Kp.setCell ?_ (by first | (left; simp; done) | (right; simp; try omega)) _) | (refine Kp.trans' ?_ (by assumption) (by simp; try omega))))) hk)
  replace HD : Hid (DtAt w2 (w.heap.size + 1 + 1) 0 0) := HD.out.kp0 (Kp.trans (by (repeat (first | exact Kp.refl _ _ | assumption | refine Kp.drew ?_ | refine Kp.drewN ?_ _ | refine Kp.alloc ?_ _ | (refine Kp.setCell ?_ (by first | (left; simp; done) | (right; simp; try omega)) _) | (refine Kp.trans' ?_ (by assumption) (by simp; try omega))))) hk)
  replace HK : Hid (Kp [] w w2) := HK.out.trans (Kp.trans (by (repeat (first | exact Kp.refl _ _ | assumption | refine Kp.drew ?_ | refine Kp.drewN ?_ _ | refine Kp.alloc ?_ _ | (refine Kp.setCell ?_ (by first | (left; simp; done) | (right; simp; try omega)) _) | (refine Kp.trans' ?_ (by assumption) (by simp; try omega))))) hk)
  clear hk
  obtain ⟨s0, s1, s2, s3⟩ := HS.out.cells
  obtain ⟨p0, p1, p2⟩ := HP.out.cells
  obtain ⟨d0, d1, d2, d3⟩ := HD.out.cells
  go_wp2_with fail
  refine (HN2.out _).mono ?_; rintro e w3 ⟨rfl, hk⟩
  clear s0 s1 s2 s3 p0 p1 p2 d0 d1 d2 d3
  replace HS : Hid (ScAt w3 w.heap.size s) := HS.out.kp0 (Kp.trans (by (repeat (first | exact Kp.refl _ _ | assumption | refine Kp.drew ?_ | refine Kp.drewN ?_ _ | refine Kp.alloc ?_ _ | (refine Kp.setCell ?_ (by first | (left; simp; done) | (right; simp; try omega)) _) | (refine Kp.trans' ?_ (by assumption) (by simp; try omega))))) hk)
  replace HP : Hid (PnAt w3 (w.heap.size + 1) p) := HP.out.kp0 (Kp.trans (by (repeat (first | exact Kp.refl _ _ | assumption | refine Kp.drew ?_ | refine Kp.drewN ?_ _ | refine Kp.alloc ?_ _ | (refine Kp.setCell ?_ (by first | (left; simp; done) | (right; simp; try omega)) _) | (refine Kp.trans' ?_ (by assumption) (by simp; try omega))))) hk)
  replace HD : Hid (DtAt w3 (w.heap.size + 1 + 1) 0 0) := HD.out.kp0 (Kp.trans (by (repeat (first | exact Kp.refl _ _ | assumption | refine Kp.drew ?_ | refine Kp.drewN ?_ _ | refine Kp.alloc ?_ _ | (refine Kp.setCell ?_ (by first | (left; simp; done) | (right; simp; try omega)) _) | (refine Kp.trans' ?_ (by assumption) (by simp; try omega))))) hk)
  replace HK : Hid (Kp [] w w3) := HK.out.trans (Kp.trans (by (repeat (first | exact Kp.refl _ _ | assumption | refine Kp.drew ?_ | refine Kp.drewN ?_ _ | refine Kp.alloc ?_ _ | (refine Kp.setCell ?_ (by first | (left; simp; done) | (right; simp; try omega)) _) | (refine Kp.trans' ?_ (by assumption) (by simp; try omega))))) hk)
  clear hk
  obtain ⟨s0, s1, s2, s3⟩ := HS.out.cells
  obtain ⟨p0, p1, p2⟩ := HP.out.cells
  obtain ⟨d0, d1, d2, d3⟩ := HD.out.cells
  clear HN1 HN2
  go_wp2_with fail
  refine (HQ.out _).mono ?_; rintro e w4 ⟨rfl, hk⟩
  clear s0 s1 s2 s3 p0 p1 p2 d0 d1 d2 d3
  replace HS : Hid (ScAt w4 w.heap.size s) := HS.out.kp0 (Kp.trans (by (repeat (first | exact Kp.refl _ _ | assumption | refine Kp.drew ?_ | refine Kp.drewN ?_ _ | refine Kp.alloc ?_ _ | (refine Kp.setCell ?_ (by first | (left; simp; done) | (right; simp; try omega)) _) | (refine Kp.trans' ?_ (by assumption) (by simp; try omega))))) hk)
  replace HP : Hid (PnAt w4 (w.heap.size + 1) p) := HP.out.kp0 (Kp.trans (by (repeat (first | exact Kp.refl _ _ | assumption | refine Kp.drew ?_ | refine Kp.drewN ?_ _ | refine Kp.alloc ?_ _ | (refine Kp.setCell ?_ (by first | (left; simp; done) | (right; simp; try omega)) _) | (refine Kp.trans' ?_ (by assumption) (by simp; try omega))))) hk)
  replace HD : Hid (DtAt w4 (w.heap.size + 1 + 1) 0 0) := HD.out.kp0 (Kp.trans (by (repeat (first | exact Kp.refl _ _ | assumption | refine Kp.drew ?_ | refine Kp.drewN ?_ _ | refine Kp.alloc ?_ _ | (refine Kp.setCell ?_ (by first | (left; simp; done) | (right; simp; try omega)) _) | (refine Kp.trans' ?_ (by assumption) (by simp; try omega))))) hk)
  replace HK : Hid (Kp [] w w4) := HK.out.trans (Kp.trans (by (repeat (first | exact Kp.refl _ _ | assumption | refine Kp.drew ?_ | refine Kp.drewN ?_ _ | refine Kp.alloc ?_ _ | (refine Kp.setCell ?_ (by first | (left; simp; done) | (right; simp; try omega)) _) | (refine Kp.trans' ?_ (by assumption) (by simp; try omega))))) hk)
  clear hk
  obtain ⟨s0, s1, s2, s3⟩ := HS.out.cells
  obtain ⟨p0, p1, p2⟩ := HP.out.cells
  obtain ⟨d0, d1, d2, d3⟩ := HD.out.cells
  go_wp2_with fail
  obtain ⟨r0, r1, _, _⟩ := (HD.out.set (0) (0)).cells
  refine bodyPost_ret (v := .tuple #[.agg #[.int .i64 (0), .int .i64 (0)], .int .i64 10]) (by simp [results, Try.results8, go_sem, r0, r1]) rfl ⟨rfl, ?_⟩
  exact (HK.out.setCell (.inr (by show _ ≤ w.heap.size + 1 + 1; omega)) _).setCell (.inr (by show _ ≤ w.heap.size + 1 + 1; omega)) _
set_option maxRecDepth 100000 in
set_option maxHeartbeats 4000000 in
theorem fdot_ok (s : Sc) (p : Pn) (hs : mayS s = true) (hx : numF p.x = true) (hy : numF p.y = true) (hd : dotQ (nxP s p, nyP s p) = true) (w : World) : Calls Try.prog 8 #[scV s, pnV p] w fun e w' => e = .returned (.tuple #[dotV (nxP s p, nyP s p), .int .i64 0]) ∧ Kp [] w w' := by
  have HM := Lib.hid (fun W => mayscale_calls s W)
  have HX := Lib.hid (fun W => fmay_calls p.x W)
  have HY := Lib.hid (fun W => fmay_calls p.y W)
  rw [hs] at HM
  rw [hx] at HX
  rw [hy] at HY
  obtain ⟨⟨f0, f1, f2⟩, ⟨f3, f4, f5, f6⟩, ⟨f7, f8, f9, f10, f11⟩, f12, f13⟩ := dot_facts hs hx hy
  have HN1 := Lib.hid (fun W => nearS_calls (p.x * s.p * 64) (65536 * s.u) f1 (by omega) (by omega) (by omega) W)
  have HN2 := Lib.hid (fun W => nearS_calls (-p.y * s.p * 64) (65536 * s.u) f1 (by omega) (by omega) (by omega) W)
  have HQ := Lib.hid (fun W => fmaydot_calls (nxP s p) (nyP s p) W)
  rw [hd] at HQ
  unfold scV at HM
  obtain ⟨X, hX⟩ : ∃ X, nearQ (p.x * s.p * 64) (65536 * s.u) = X := ⟨_, rfl⟩
  obtain ⟨Y, hY⟩ : ∃ Y, nearQ (-p.y * s.p * 64) (65536 * s.u) = Y := ⟨_, rfl⟩
  have eX : nxP s p = X + s.fx := by unfold nxP; rw [hX]
  have eY : nyP s p = Y + s.fy := by unfold nyP; rw [hY]
  rw [hX] at HN1
  rw [hY] at HN2
  rw [eX] at HQ f12 ⊢
  rw [eY] at HQ f13 ⊢
  clear hs hx hy hd hX hY eX eY f1 f2 f5 f6 f10 f11
  rw [show pnV p = .agg #[.int .i64 p.x, .int .i64 p.y, .int .i64 p.k] from rfl]
  unfold scV dotV
  go_enter Try.func8, Try.ntmps8
  go_wp2_with fail
  obtain ⟨q1, q2, q3⟩ := three_heap (w := w) (A := .cells #[.int .i64 s.u, .int .i64 s.p, .int .i64 s.fx, .int .i64 s.fy] 23) (B := .cells #[.int .i64 p.x, .int .i64 p.y, .int .i64 p.k] 25) (C := .cells #[.int .i64 0, .int .i64 0] 27) rfl
  refine (HM.out _).mono ?_; rintro e w1 ⟨rfl, hk⟩
  have HS : Hid (ScAt w1 w.heap.size s) := hk.heap q1 (by simp)
  have HP : Hid (PnAt w1 (w.heap.size + 1) p) := hk.heap q2 (by simp)
  have HD : Hid (DtAt w1 (w.heap.size + 1 + 1) 0 0) := hk.heap q3 (by simp)
  have HK : Hid (Kp [] w w1) := Kp.trans (by (repeat (first | exact Kp.refl _ _ | assumption | refine Kp.drew ?_ | refine Kp.drewN ?_ _ | refine Kp.alloc ?_ _ | (refine Kp.setCell ?_ (by first | (left; simp; done) | (right; simp; try omega)) _) | (refine Kp.trans' ?_ (by assumption) (by simp; try omega))))) hk
  clear hk q1 q2 q3
  obtain ⟨s0, s1, s2, s3⟩ := HS.out.cells
  obtain ⟨p0, p1, p2⟩ := HP.out.cells
  obtain ⟨d0, d1, d2, d3⟩ := HD.out.cells
  go_wp2_with fail
  refine (HX.out _).mono ?_; rintro e w2 ⟨rfl, hwe⟩
  subst hwe
  go_wp2_with fail
  refine (HY.out _).mono ?_; rintro e w2 ⟨rfl, hwe⟩
  subst hwe
  clear HX HY HM
  go_wp2_with fail
  refine (HN1.out _).mono ?_; rintro e w2 ⟨rfl, hk⟩
  clear s0 s1 s2 s3 p0 p1 p2 d0 d1 d2 d3
  replace HS : Hid (ScAt w2 w.heap.size s) := HS.out.kp0 (Kp.trans (by (repeat (first | exact Kp.refl _ _ | assumption | refine Kp.drew ?_ | refine Kp.drewN ?_ _ | refine Kp.alloc ?_ _ | (refine Kp.setCell ?_ (by first | (left; simp; done) | (right; simp; try omega)) _) | (refine Kp.trans' ?_ (by assumption) (by simp; try omega))))) hk)
  replace HP : Hid (PnAt w2 (w.heap.size + 1) p) := HP.out.kp0 (Kp.trans (by (repeat (first | exact Kp.refl _ _ | assumption | refine Kp.drew ?_ | refine Kp.drewN ?_ _ | refine Kp.alloc ?_ _ | (refine Kp.setCell ?_ (by first | (left; simp; done) | (right; simp; try omega)) _) | (refine Kp.trans' ?_ (by assumption) (by simp; try omega))))) hk)
  replace HD : Hid (DtAt w2 (w.heap.size + 1 + 1) 0 0) := HD.out.kp0 (Kp.trans (by (repeat (first | exact Kp.refl _ _ | assumption | refine Kp.drew ?_ | refine Kp.drewN ?_ _ | refine Kp.alloc ?_ _ | (refine Kp.setCell ?_ (by first | (left; simp; done) | (right; simp; try omega)) _) | (refine Kp.trans' ?_ (by assumption) (by simp; try omega))))) hk)
  replace HK : Hid (Kp [] w w2) := HK.out.trans (Kp.trans (by (repeat (first | exact Kp.refl _ _ | assumption | refine Kp.drew ?_ | refine Kp.drewN ?_ _ | refine Kp.alloc ?_ _ | (refine Kp.setCell ?_ (by first | (left; simp; done) | (right; simp; try omega)) _) | (refine Kp.trans' ?_ (by assumption) (by simp; try omega))))) hk)
  clear hk
  obtain ⟨s0, s1, s2, s3⟩ := HS.out.cells
  obtain ⟨p0, p1, p2⟩ := HP.out.cells
  obtain ⟨d0, d1, d2, d3⟩ := HD.out.cells
  go_wp2_with fail
  refine (HN2.out _).mono ?_; rintro e w3 ⟨rfl, hk⟩
  clear s0 s1 s2 s3 p0 p1 p2 d0 d1 d2 d3
  replace HS : Hid (ScAt w3 w.heap.size s) := HS.out.kp0 (Kp.trans (by (repeat (first | exact Kp.refl _ _ | assumption | refine Kp.drew ?_ | refine Kp.drewN ?_ _ | refine Kp.alloc ?_ _ | (refine Kp.setCell ?_ (by first | (left; simp; done) | (right; simp; try omega)) _) | (refine Kp.trans' ?_ (by assumption) (by simp; try omega))))) hk)
  replace HP : Hid (PnAt w3 (w.heap.size + 1) p) := HP.out.kp0 (Kp.trans (by (repeat (first | exact Kp.refl _ _ | assumption | refine Kp.drew ?_ | refine Kp.drewN ?_ _ | refine Kp.alloc ?_ _ | (refine Kp.setCell ?_ (by first | (left; simp; done) | (right; simp; try omega)) _) | (refine Kp.trans' ?_ (by assumption) (by simp; try omega))))) hk)
  replace HD : Hid (DtAt w3 (w.heap.size + 1 + 1) 0 0) := HD.out.kp0 (Kp.trans (by (repeat (first | exact Kp.refl _ _ | assumption | refine Kp.drew ?_ | refine Kp.drewN ?_ _ | refine Kp.alloc ?_ _ | (refine Kp.setCell ?_ (by first | (left; simp; done) | (right; simp; try omega)) _) | (refine Kp.trans' ?_ (by assumption) (by simp; try omega))))) hk)
  replace HK : Hid (Kp [] w w3) := HK.out.trans (Kp.trans (by (repeat (first | exact Kp.refl _ _ | assumption | refine Kp.drew ?_ | refine Kp.drewN ?_ _ | refine Kp.alloc ?_ _ | (refine Kp.setCell ?_ (by first | (left; simp; done) | (right; simp; try omega)) _) | (refine Kp.trans' ?_ (by assumption) (by simp; try omega))))) hk)
  clear hk
  obtain ⟨s0, s1, s2, s3⟩ := HS.out.cells
  obtain ⟨p0, p1, p2⟩ := HP.out.cells
  obtain ⟨d0, d1, d2, d3⟩ := HD.out.cells
  clear HN1 HN2
  go_wp2_with fail
  refine (HQ.out _).mono ?_; rintro e w4 ⟨rfl, hk⟩
  clear s0 s1 s2 s3 p0 p1 p2 d0 d1 d2 d3
  obtain ⟨b0, b1⟩ := box2 hk
  replace HS : Hid (ScAt w4 w.heap.size s) := HS.out.kp0 (Kp.trans (by (repeat (first | exact Kp.refl _ _ | assumption | refine Kp.drew ?_ | refine Kp.drewN ?_ _ | refine Kp.alloc ?_ _ | (refine Kp.setCell ?_ (by first | (left; simp; done) | (right; simp; try omega)) _) | (refine Kp.trans' ?_ (by assumption) (by simp; try omega))))) hk)
  replace HP : Hid (PnAt w4 (w.heap.size + 1) p) := HP.out.kp0 (Kp.trans (by (repeat (first | exact Kp.refl _ _ | assumption | refine Kp.drew ?_ | refine Kp.drewN ?_ _ | refine Kp.alloc ?_ _ | (refine Kp.setCell ?_ (by first | (left; simp; done) | (right; simp; try omega)) _) | (refine Kp.trans' ?_ (by assumption) (by simp; try omega))))) hk)
  replace HD : Hid (DtAt w4 (w.heap.size + 1 + 1) 0 0) := HD.out.kp0 (Kp.trans (by (repeat (first | exact Kp.refl _ _ | assumption | refine Kp.drew ?_ | refine Kp.drewN ?_ _ | refine Kp.alloc ?_ _ | (refine Kp.setCell ?_ (by first | (left; simp; done) | (right; simp; try omega)) _) | (refine Kp.trans' ?_ (by assumption) (by simp; try omega))))) hk)
  replace HK : Hid (Kp [] w w4) := HK.out.trans (Kp.trans (by (repeat (first | exact Kp.refl _ _ | assumption | refine Kp.drew ?_ | refine Kp.drewN ?_ _ | refine Kp.alloc ?_ _ | (refine Kp.setCell ?_ (by first | (left; simp; done) | (right; simp; try omega)) _) | (refine Kp.trans' ?_ (by assumption) (by simp; try omega))))) hk)
  clear hk
  obtain ⟨s0, s1, s2, s3⟩ := HS.out.cells
  obtain ⟨p0, p1, p2⟩ := HP.out.cells
  obtain ⟨d0, d1, d2, d3⟩ := HD.out.cells
  go_wp2_with fail
  obtain ⟨r0, r1, _, _⟩ := (HD.out.set (X + s.fx) (Y + s.fy)).cells
  refine bodyPost_ret (v := .tuple #[.agg #[.int .i64 (X + s.fx), .int .i64 (Y + s.fy)], .int .i64 0]) (by simp [results, Try.results8, go_sem, r0, r1]) rfl ⟨rfl, ?_⟩
  exact (HK.out.setCell (.inr (by show _ ≤ w.heap.size + 1 + 1; omega)) _).setCell (.inr (by show _ ≤ w.heap.size + 1 + 1; omega)) _
theorem fdot_calls (s : Sc) (p : Pn) (w : World) : Calls Try.prog 8 #[scV s, pnV p] w fun e w' => e = .returned (.tuple #[dotV (dotS s p).1, .int .i64 (dotS s p).2]) ∧ Kp [] w w' := by
  unfold dotS dotP
  cases hs : mayS s with
  | false => exact fdot_no s p hs w
  | true =>
    cases hx : numF p.x with
    | false => exact fdot_x s p hs hx w
    | true =>
      cases hy : numF p.y with
      | false => exact fdot_y s p hs ⟨hx, hy⟩ w
      | true =>
        cases hd : dotQ (nxP s p, nyP s p) with
        | false => simpa using fdot_far s p hs hx hy hd w
        | true => simpa using fdot_ok s p hs hx hy hd w
end Go.Proofs.Ytpbmefojhgcniaa
namespace Go.Proofs.Ytpbmefojhgcniaa
open Go.RowKit
set_option linter.unusedVariables false
set_option linter.unusedSimpArgs false
theorem infoDt : (Try.prog.info? 27).map (fun i => (i.zero, i.size, i.bytes)) = some (some (.agg #[.int .i64 0, .int .i64 0]), 2, 16) := by kernel_rfl
theorem oneCell_pairs (l : List (Int × Int)) : ∀ u ∈ pairCells l, u.oneCell' = true := by
  intro u hu; simp only [pairCells, List.mem_flatMap] at hu
  obtain ⟨p, _, hp⟩ := hu
  simp only [List.mem_cons, List.not_mem_nil, or_false] at hp
  rcases hp with rfl | rfl <;> rfl
theorem IsPairs.kp0 {w w' : World} {v : Value} {l : List (Int × Int)} (h : IsPairs w v l) (hk : Kp [] w w') : IsPairs w' v l := h.kp hk (by simp)
theorem IsPairs.nil (w : World) (a : Option Addr) : IsPairs w (.slice a 0 0) [] := ⟨rfl, .inl ⟨⟨a, rfl⟩, rfl⟩⟩
/-- A dot of a line lies in two cells. -/
theorem IsPairs.row {w : World} {v : Value} {l : List (Int × Int)} (h : IsPairs w v l) {i : Nat} (hi : i < l.length) : ∃ g off c, v = .slice (some ⟨g, off, none⟩) l.length c ∧ l.length ≤ c ∧ c ≤ maxLen ∧ w.cell? ⟨g, off + i * 2, none⟩ = some (.int .i64 (l.getD i (0, 0)).1) ∧ w.cell? ⟨g, off + i * 2 + 1, none⟩ = some (.int .i64 (l.getD i (0, 0)).2) := by
  rcases h.cases with ⟨ad, rfl, rfl⟩ | ⟨g, off, c, rfl, h1, h2, h3⟩
  · simp at hi
  · exact ⟨g, off, c, rfl, h1, h2, (h3 i hi).1, (h3 i hi).2⟩
/-- A flat outline: a slice whose cells are contours. -/
def IsFl (w : World) (v : Value) (o : List (List (Int × Int))) : Prop :=
  ∃ vs : List Value, Reads 1 w v o.length vs ∧ ∀ i, i < o.length → IsPairs w (vs.getD i (.slice none 0 0)) (o.getD i [])
theorem IsFl.kp0 {w w' : World} {v : Value} {o : List (List (Int × Int))} (h : IsFl w v o) (hk : Kp [] w w') : IsFl w' v o := by
  obtain ⟨vs, h1, h2⟩ := h
  exact ⟨vs, Reads.kp h1 hk (by simp), fun i hi => (h2 i hi).kp0 hk⟩
theorem IsFl.nil (w : World) (a : Option Addr) : IsFl w (.slice a 0 0) [] := ⟨[], ⟨rfl, .inl ⟨⟨a, rfl⟩, rfl⟩⟩, fun i hi => by simp at hi⟩
theorem IsFl.form {w : World} {v : Value} {o : List (List (Int × Int))} (h : IsFl w v o) : ∃ p c, v = .slice p o.length c := by
  obtain ⟨vs, h1, _⟩ := h
  rcases h1.2 with ⟨⟨ad, rfl⟩, h0⟩ | ⟨g, off, c, rfl, _⟩
  · exact ⟨_, 0, by rw [h0]⟩
  · exact ⟨_, c, rfl⟩
theorem IsFl.le {w : World} {v : Value} {o : List (List (Int × Int))} (h : IsFl w v o) : o.length ≤ maxLen := by
  obtain ⟨vs, h1, _⟩ := h
  rcases h1.2 with ⟨⟨ad, rfl⟩, h0⟩ | ⟨g, off, c, rfl, h2, h3, _⟩
  · rw [h0]; simp
  · omega
/-- A contour of a flat outline lies in one cell. -/
theorem IsFl.row {w : World} {v : Value} {o : List (List (Int × Int))} (h : IsFl w v o) {i : Nat} (hi : i < o.length) : ∃ g off c p cv, v = .slice (some ⟨g, off, none⟩) o.length c ∧ o.length ≤ c ∧ c ≤ maxLen ∧ w.cell? ⟨g, off + i, none⟩ = some (.slice p (o.getD i []).length cv) ∧ IsPairs w (.slice p (o.getD i []).length cv) (o.getD i []) := by
  obtain ⟨vs, h1, h2⟩ := h
  have hp := h2 i hi
  obtain ⟨p, cv, hv⟩ := hp.form
  rcases h1.2 with ⟨⟨ad, rfl⟩, h0⟩ | ⟨g, off, c, rfl, h3, h4, h5⟩
  · omega
  · refine ⟨g, off, c, p, cv, rfl, h3, h4, ?_, by rw [← hv]; exact hp⟩
    have hl : i < vs.length := by have := h1.1; omega
    have := h5 i _ (List.getElem?_eq_getElem hl)
    rw [this, ← hv, List.getD_eq_getElem?_getD, List.getElem?_eq_getElem hl]; rfl
/-- How many points there are ahead of contour j. -/
def fcntTo (o : List (List (Int × Int))) : Nat → Nat
  | 0 => 0
  | j + 1 => fcntTo o j + (o.getD j []).length
def fcnt (o : List (List (Int × Int))) : Nat := fcntTo o o.length
theorem fcntTo_mono (o : List (List (Int × Int))) : ∀ (d j : Nat), fcntTo o j ≤ fcntTo o (j + d) := by
  intro d
  induction d with
  | zero => intro j; exact Nat.le_refl _
  | succ d ih => intro j; have := ih j; rw [← Nat.add_assoc, fcntTo]; omega
theorem fcntTo_le (o : List (List (Int × Int))) {j : Nat} (h : j ≤ o.length) : fcntTo o j ≤ fcnt o := by
  obtain ⟨d, hd⟩ : ∃ d, o.length = j + d := ⟨o.length - j, by omega⟩
  unfold fcnt; rw [hd]; exact fcntTo_mono o d j
theorem infoDs : (Try.prog.info? 61).map (fun i => (i.zero, i.size, i.bytes)) = some (some (.slice none 0 0), 1, 24) := by kernel_rfl
/-- The contours of a flat outline that is being built: the outer row is the call's own, no contour lies in it. -/
def WFs (w : World) (base : Nat) (v : Value) (vs : List Value) (o : List (List (Int × Int))) : Prop :=
  w.ownsRow base 61 1 v o.length vs ∧ ∀ i, i < o.length → IsPairs w (vs.getD i (.slice none 0 0)) (o.getD i []) ∧ ∀ b, blockOf (vs.getD i (.slice none 0 0)) = some b → v.ownBlock ≠ some b ∧ b < w.heap.size ∧ base ≤ b
def WFl (w : World) (base : Nat) (v : Value) (o : List (List (Int × Int))) : Prop := ∃ vs, WFs w base v vs o
theorem WFs.kp0 {w w' : World} {base : Nat} {v : Value} {vs : List Value} {o : List (List (Int × Int))} (h : WFs w base v vs o) (hk : Kp [] w w') : WFs w' base v vs o :=
  ⟨hk.row h.1 (by simp), fun i hi => ⟨(h.2 i hi).1.kp0 hk, fun b hb => ⟨((h.2 i hi).2 b hb).1, Nat.lt_of_lt_of_le ((h.2 i hi).2 b hb).2.1 hk.size, ((h.2 i hi).2 b hb).2.2⟩⟩⟩
theorem WFl.kp0 {w w' : World} {base : Nat} {v : Value} {o : List (List (Int × Int))} (h : WFl w base v o) (hk : Kp [] w w') : WFl w' base v o := by
  obtain ⟨vs, h⟩ := h; exact ⟨vs, h.kp0 hk⟩
theorem WFl.nil (w : World) (base : Nat) : WFl w base (.slice none 0 0) [] := ⟨[], World.ownsRow_nil _ _ _ _, fun i hi => by simp at hi⟩
theorem WFl.out {w : World} {base : Nat} {v : Value} {o : List (List (Int × Int))} (h : WFl w base v o) : IsFl w v o := by
  obtain ⟨vs, h1, h2⟩ := h
  exact ⟨vs, Reads.owned h1, fun i hi => (h2 i hi).1⟩
theorem WFs.push {w w4 : World} {base : Nat} {v cv : Value} {vs : List Value} {o : List (List (Int × Int))} {c : List (Int × Int)} {g4 c4 H : Nat} (h : WFs w base v vs o) (hc : IsPairs w cv c) (hcb : ∀ b, blockOf cv = some b → v.ownBlock ≠ some b ∧ b < w.heap.size ∧ base ≤ b)
    (hown : w4.ownsRow base 61 1 (.slice (some ⟨g4, 0, none⟩) (o.length + 1) c4) (o.length + 1) (vs ++ [cv])) (hgr : w.grownBy w4 v.ownBlock) (hat : v.ownBlock = some g4 ∨ g4 = H) (hH : w.heap.size ≤ H) :
    WFs w4 base (.slice (some ⟨g4, 0, none⟩) (o.length + 1) c4) (vs ++ [cv]) (o ++ [c]) := by
  have hvl : vs.length = o.length := by have := h.1.1; omega
  have hk : Kp v.ownBlock.toList w w4 := Kp.grown (Kp.refl _ _) hgr (fun k hk => .inl (by rw [hk]; simp))
  have key : ∀ (u : Value) (d : List (Int × Int)), IsPairs w u d → (∀ b, blockOf u = some b → v.ownBlock ≠ some b ∧ b < w.heap.size ∧ base ≤ b) → IsPairs w4 u d ∧ ∀ b, blockOf u = some b → (Value.slice (some ⟨g4, 0, none⟩) (o.length + 1) c4).ownBlock ≠ some b ∧ b < w4.heap.size ∧ base ≤ b := by
    intro u d hu hb
    refine ⟨hu.kp hk (fun s hs e => ?_), fun b hbb => ⟨fun e => ?_, Nat.lt_of_lt_of_le (hb b hbb).2.1 hk.size, (hb b hbb).2.2⟩⟩
    · exact (hb s e).1 (by simpa using hs)
    · simp [Value.ownBlock] at e
      subst e
      rcases hat with h1 | h1
      · exact (hb _ hbb).1 h1
      · have := (hb _ hbb).2.1; omega
  refine ⟨by simpa using hown, fun i hi => ?_⟩
  by_cases e : i < o.length
  · rw [List.getD_eq_getElem?_getD, List.getElem?_append_left (by omega), ← List.getD_eq_getElem?_getD, List.getD_eq_getElem?_getD (l := o ++ [c]), List.getElem?_append_left e, ← List.getD_eq_getElem?_getD]
    exact key _ _ (h.2 i e).1 (h.2 i e).2
  · obtain rfl : i = o.length := by simp at hi; omega
    rw [List.getD_eq_getElem?_getD, List.getElem?_append_right (by omega), hvl, Nat.sub_self, List.getD_eq_getElem?_getD (l := o ++ [c]), List.getElem?_append_right (Nat.le_refl _), Nat.sub_self]
    exact key cv c hc hcb
/-- No contour is long, nor are there many. -/
def fewF (o : List (List (Int × Int))) : Prop := o.length ≤ 1048576 ∧ ∀ j, j < o.length → (o.getD j []).length ≤ 1048576
end Go.Proofs.Ytpbmefojhgcniaa
namespace Go.Proofs.Ytpbmefojhgcniaa
open Go.RowKit Go.Shelf
set_option linter.unusedVariables false
set_option linter.unusedSimpArgs false
attribute [local go_sem] Oper.semAt_some
theorem cdots_calls (q : Bw) (w : World) : Calls Try.prog 59 #[bowV q] w fun e w' => e = .returned (.func (.func 78) #[] #[.pointer (some ⟨w.heap.size, 0, none⟩)]) ∧ w' = (w.alloc (.cells #[.int .i64 q.k, .int .i64 q.a.1, .int .i64 q.a.2, .int .i64 q.b.1, .int .i64 q.b.2, .int .i64 q.c.1, .int .i64 q.c.2, .int .i64 q.d.1, .int .i64 q.d.2] 71)) := by
  show Calls Try.prog 59 #[.agg #[.int .i64 q.k, .int .i64 q.a.1, .int .i64 q.a.2, .int .i64 q.b.1, .int .i64 q.b.2, .int .i64 q.c.1, .int .i64 q.c.2, .int .i64 q.d.1, .int .i64 q.d.2]] w _
  go_enter Try.func59, Try.ntmps59
  go_wp2_with fail
  go_ret
  exact ⟨rfl, rfl⟩
/-- What has come when k rounds are over. -/
def uptoF {α : Type} (f : Nat → α) (k : Nat) : List α := (List.range k).map f
theorem uptoF_succ {α : Type} (f : Nat → α) (k : Nat) : uptoF f (k + 1) = uptoF f k ++ [f k] := by simp [uptoF, List.range_succ]
theorem uptoF_length {α : Type} (f : Nat → α) (k : Nat) : (uptoF f k).length = k := by simp [uptoF]
theorem Kp.growC {w w' : World} (h : Kp [] w w') : w.grownBy w' none := ⟨h.os, h.tape, h.output, h.size, fun k hk _ => h.block k hk (by simp)⟩
theorem abidesC {β : Type} {B : Nat} {J : β → World → Prop} (hJ : AbidesFrom B J) {s : β} {w w' : World} (h : J s w) (hk : Kp [] w w') : J s w' := hJ s w w' none h hk.growC (by simp)
/-- A bow's block. -/
def BowAt (W : World) (B : Nat) (q : Bw) : Prop := W.heap[B]? = some (.cells #[.int .i64 q.k, .int .i64 q.a.1, .int .i64 q.a.2, .int .i64 q.b.1, .int .i64 q.b.2, .int .i64 q.c.1, .int .i64 q.c.2, .int .i64 q.d.1, .int .i64 q.d.2] 71 (0, 0))
theorem BowAt.below {W W' : World} {n₀ B : Nat} {q : Bw} (h : BowAt W B q) (hb : B < n₀) (hk : Below n₀ W W') : BowAt W' B q := (hk.block B hb).trans h
set_option maxRecDepth 100000 in
set_option maxHeartbeats 4000000 in
/-- The closure of Dots: for every loop body that keeps what lay below n₀. -/
theorem dots1_in (m : Nat) (hm : 1 ≤ m) (l Bc n₀ : Nat) (q : Bw) (M : Nat) (hM : M ≤ 512) (f : Nat → Int × Int)
    (hP : ∀ W, Calls Try.prog 79 #[bowV q] W fun e w' => e = .returned (.int .i64 M) ∧ Kp [] W w')
    (hA : ∀ k, k < M → ∀ W, Calls Try.prog 80 #[bowV q, .int .i64 ((k : Int) + 1), .int .i64 M] W fun e w' => e = .returned (dotV (f k)) ∧ Kp [] W w')
    (hb : Bc < n₀) (J Jx : List (Int × Int) → World → Prop) (W : World) (hn₀ : n₀ ≤ W.heap.size) (hJ : AbidesFrom W.heap.size J)
    (hY : ∀ pre x W, J pre W → pre.length < M → YieldAt Fence.wide (m - 1) Try.prog l #[dotV x] W fun e W' =>
      (e = .returned (.bool true) ∧ J (pre ++ [x]) W' ∧ Below n₀ W W') ∨ (e = .returned (.bool false) ∧ Jx (pre ++ [x]) W'))
    (hB : BowAt W Bc q) (h0 : J [] W) :
    CallsIn Fence.wide m Try.prog 78 #[.func (.yield l) #[] #[], .pointer (some ⟨Bc, 0, none⟩)] W fun e W' => (∃ v, e = .returned v) ∧
      ((∃ ys, ys = uptoF f M ∧ J ys W') ∨ (∃ pre, (∃ k, k ≤ M ∧ pre = uptoF f k) ∧ Jx pre W')) := by
  have HP : Hid (∀ W, Calls Try.prog 79 #[.agg #[.int .i64 q.k, .int .i64 q.a.1, .int .i64 q.a.2, .int .i64 q.b.1, .int .i64 q.b.2, .int .i64 q.c.1, .int .i64 q.c.2, .int .i64 q.d.1, .int .i64 q.d.2]] W fun e w' => e = .returned (.int .i64 M) ∧ Kp [] W w') := hP
  have HA : Hid (∀ k, k < M → ∀ W, Calls Try.prog 80 #[.agg #[.int .i64 q.k, .int .i64 q.a.1, .int .i64 q.a.2, .int .i64 q.b.1, .int .i64 q.b.2, .int .i64 q.c.1, .int .i64 q.c.2, .int .i64 q.d.1, .int .i64 q.d.2], .int .i64 ((k : Int) + 1), .int .i64 M] W fun e w' => e = .returned (.agg #[.int .i64 (f k).1, .int .i64 (f k).2]) ∧ Kp [] W w') := hA
  have HB := Lib.hid hB
  have HJ := Lib.hid hJ
  have HY := Lib.hid hY
  have H0 := Lib.hid h0
  clear hP hA hB hJ hY h0
  obtain ⟨b0, b1, b2, b3, b4, b5, b6, b7, b8⟩ : W.cell? ⟨Bc, 0, none⟩ = some (.int .i64 q.k) ∧ W.cell? ⟨Bc, 1, none⟩ = some (.int .i64 q.a.1) ∧ W.cell? ⟨Bc, 2, none⟩ = some (.int .i64 q.a.2) ∧ W.cell? ⟨Bc, 3, none⟩ = some (.int .i64 q.b.1) ∧ W.cell? ⟨Bc, 4, none⟩ = some (.int .i64 q.b.2) ∧ W.cell? ⟨Bc, 5, none⟩ = some (.int .i64 q.c.1) ∧ W.cell? ⟨Bc, 6, none⟩ = some (.int .i64 q.c.2) ∧ W.cell? ⟨Bc, 7, none⟩ = some (.int .i64 q.d.1) ∧ W.cell? ⟨Bc, 8, none⟩ = some (.int .i64 q.d.2) := by
    refine ⟨?_, ?_, ?_, ?_, ?_, ?_, ?_, ?_, ?_⟩ <;> (rw [cell_of_row W Bc _ _ _ _ HB.out]; rfl)
  refine callsIn_of_wp Try.func78 rfl trivial ?_ rfl
  simp only [Try.ntmps78, List.size_toArray, List.length_cons, List.length_nil, Nat.reduceAdd, Nat.reduceSub, Array.replicate_succ, Array.replicate_zero, List.push_toArray, List.append_toArray, List.nil_append, List.cons_append]
  gi_wp2_with (refine ⟨trivial, ?_⟩; gi_at_call 79; refine (callsIn_wide.2 (HP.out _)).mono ?_; rintro e w1 ⟨rfl, hk1⟩)
  have hJ1 := Lib.hid (abidesC HJ.out H0.out hk1)
  have hW1 : Hid (Below n₀ W w1) := hk1.bel0.mono hn₀
  clear hk1 b0 b1 b2 b3 b4 b5 b6 b7 b8 HP H0
  gi_wp2
  gi_loopw [4, 8] (fun _ i wr => ∃ k : Nat, k ≤ M ∧ i = .int .i64 k ∧ Hid (J (uptoF f k) wr ∧ Below n₀ W wr)) (fun _ i _ => M - (intOf i).toNat)
  case atStart => exact ⟨0, Nat.zero_le _, rfl, hJ1.out, hW1.out⟩
  case round =>
    obtain ⟨k, hk, rfl, HR⟩ := hrel
    clear hJ1 hW1
    by_cases hlt : k < M
    · obtain ⟨b0, b1, b2, b3, b4, b5, b6, b7, b8⟩ : wr.cell? ⟨Bc, 0, none⟩ = some (.int .i64 q.k) ∧ wr.cell? ⟨Bc, 1, none⟩ = some (.int .i64 q.a.1) ∧ wr.cell? ⟨Bc, 2, none⟩ = some (.int .i64 q.a.2) ∧ wr.cell? ⟨Bc, 3, none⟩ = some (.int .i64 q.b.1) ∧ wr.cell? ⟨Bc, 4, none⟩ = some (.int .i64 q.b.2) ∧ wr.cell? ⟨Bc, 5, none⟩ = some (.int .i64 q.c.1) ∧ wr.cell? ⟨Bc, 6, none⟩ = some (.int .i64 q.c.2) ∧ wr.cell? ⟨Bc, 7, none⟩ = some (.int .i64 q.d.1) ∧ wr.cell? ⟨Bc, 8, none⟩ = some (.int .i64 q.d.2) := by
        refine ⟨?_, ?_, ?_, ?_, ?_, ?_, ?_, ?_, ?_⟩ <;> (rw [cell_of_row wr Bc _ _ _ _ (HB.out.below hb HR.out.2)]; rfl)
      have HK := Lib.hid (HA.out k hlt)
      gi_wp2_with (refine ⟨trivial, ?_⟩; gi_at_call 80; refine (callsIn_wide.2 (HK.out _)).mono ?_; rintro e w2 ⟨rfl, hk2⟩)
      have HJ2 := Lib.hid (abidesC HJ.out HR.out.1 hk2)
      have HW2 : Hid (Below n₀ W w2) := HR.out.2.trans (hk2.bel0.mono (Nat.le_trans hn₀ HR.out.2.size))
      obtain ⟨fn, tmps, assign, body, hy, hR⟩ := HY.out _ (f k) w2 HJ2.out (by rw [uptoF_length]; exact hlt)
      rw [show dotV (f k) = .agg #[.int .i64 (f k).1, .int .i64 (f k).2] from rfl] at hy
      clear hk2 b0 b1 b2 b3 b4 b5 b6 b7 b8
      gi_wp2
      rw [hy]
      gi_wp2
      refine hR.mono ?_
      rintro e W3 (⟨rfl, hJ3, hk3⟩ | ⟨rfl, hJx3⟩)
      · have H3 : Hid (J (uptoF f (k + 1)) W3 ∧ Below n₀ W W3) := ⟨by rw [uptoF_succ]; exact hJ3, HW2.out.trans hk3⟩
        clear hJ3 hk3
        gi_wp2
        go_roundw
        case rel => first | exact ⟨k + 1, by omega, by simp, H3⟩ | ((repeat apply Exists.intro); exact ⟨⟨k + 1, by omega, by simp, H3⟩, rfl⟩)
        case measure => simp [intOf]; omega
      · have H3 : Hid (Jx (uptoF f (k + 1)) W3) := by show Jx _ _; rw [uptoF_succ]; exact hJx3
        clear hJx3
        gi_wp2
        refine bodyPost_ret (results_none rfl _ _ _) rfl ?_
        exact ⟨⟨_, rfl⟩, .inr ⟨_, ⟨k + 1, by omega, rfl⟩, H3.out⟩⟩
    · obtain rfl : k = M := by omega
      gi_wp2
      go_end0
      exact ⟨⟨_, rfl⟩, .inl ⟨_, rfl, HR.out.1⟩⟩
theorem uptoF_take {α : Type} (f : Nat → α) {k M : Nat} (hk : k ≤ M) : uptoF f k <+: uptoF f M := by
  obtain ⟨d, rfl⟩ : ∃ d, M = k + d := ⟨M - k, by omega⟩
  unfold uptoF
  rw [List.range_add, List.map_append]
  exact List.prefix_append _ _
/-- Dots hands back a value that goes over these places, or over a beginning of them. -/
theorem dots_stops (m : Nat) (hm : 1 ≤ m) (Bc n₀ : Nat) (q : Bw) (M : Nat) (hM : M ≤ 512) (f : Nat → Int × Int)
    (hP : ∀ W, Calls Try.prog 79 #[bowV q] W fun e w' => e = .returned (.int .i64 M) ∧ Kp [] W w')
    (hA : ∀ k, k < M → ∀ W, Calls Try.prog 80 #[bowV q, .int .i64 ((k : Int) + 1), .int .i64 M] W fun e w' => e = .returned (dotV (f k)) ∧ Kp [] W w')
    (w : World) (hb : Bc < n₀) (hn₀ : n₀ ≤ w.heap.size) (hB : BowAt w Bc q) :
    SeqStopsK Fence.wide m Try.prog 78 #[.pointer (some ⟨Bc, 0, none⟩)] (fun x : Int × Int => #[dotV x]) (Below n₀) (fun ys => ys = uptoF f M) (fun pre => pre <+: uptoF f M) M w := fun l J Jx W hW hJ _ hY h0 => by
  refine (dots1_in m hm l Bc n₀ q M hM f hP hA hb J Jx W (Nat.le_trans hn₀ hW.size) hJ hY (hB.below (by omega) hW) h0).mono ?_
  rintro e W' ⟨he, ⟨ys, rfl, hj⟩ | ⟨pre, ⟨k, hk, rfl⟩, hj⟩⟩
  · exact ⟨he, .inl ⟨_, rfl, hj⟩⟩
  · exact ⟨he, .inr ⟨_, uptoF_take f hk, hj⟩⟩
end Go.Proofs.Ytpbmefojhgcniaa
namespace Go.Proofs.Ytpbmefojhgcniaa
open Go.RowKit
set_option linter.unusedVariables false
set_option linter.unusedSimpArgs false
theorem rmayF_calls (x : Int) (w : World) : Calls Try.prog 33 #[.int .i64 x] w fun e w' => e = .returned (.bool (numF x)) ∧ w = w' := rmay_calls x w
set_option maxRecDepth 100000 in
set_option maxHeartbeats 4000000 in
theorem rfdot_x (s : Sc) (p : Pn) (hf : numF p.x = false) (w : World) : Calls Try.prog 12 #[scV s, pnV p] w fun e w' => e = .returned (.tuple #[dotV (0, 0), .int .i64 10]) ∧ Kp [] w w' := by
  have HX := Lib.hid (fun W => rmayF_calls p.x W)
  have HY := Lib.hid (fun W => rmayF_calls p.y W)
  rw [hf] at HX
  clear hf
  rw [show pnV p = .agg #[.int .i64 p.x, .int .i64 p.y, .int .i64 p.k] from rfl]
  unfold scV dotV
  go_enter Try.func12, Try.ntmps12
  go_wp2_with fail
  obtain ⟨q1, q2, q3⟩ := three_heap (w := w) (A := .cells #[.int .i64 s.u, .int .i64 s.p, .int .i64 s.fx, .int .i64 s.fy] 23) (B := .cells #[.int .i64 p.x, .int .i64 p.y, .int .i64 p.k] 25) (C := .cells #[.int .i64 0, .int .i64 0] 27) rfl
  have hk : Kp [] w (((w.alloc (.cells #[.int .i64 s.u, .int .i64 s.p, .int .i64 s.fx, .int .i64 s.fy] 23)).alloc (.cells #[.int .i64 p.x, .int .i64 p.y, .int .i64 p.k] 25)).alloc (.cells #[.int .i64 0, .int .i64 0] 27)) := by (repeat (first | exact Kp.refl _ _ | assumption | refine Kp.drew ?_ | refine Kp.drewN ?_ _ | refine Kp.alloc ?_ _ | (refine Kp.setCell ?_ (by first | (left; simp; done) | (right; simp; try omega)) _) | (refine Kp.trans' ?_ (by assumption) (by simp; try omega))))
  generalize (((w.alloc (.cells #[.int .i64 s.u, .int .i64 s.p, .int .i64 s.fx, .int .i64 s.fy] 23)).alloc (.cells #[.int .i64 p.x, .int .i64 p.y, .int .i64 p.k] 25)).alloc (.cells #[.int .i64 0, .int .i64 0] 27)) = W0 at *
  have HS : Hid (ScAt W0 w.heap.size s) := q1
  have HP : Hid (PnAt W0 (w.heap.size + 1) p) := q2
  have HD : Hid (DtAt W0 (w.heap.size + 1 + 1) 0 0) := q3
  have HK := Lib.hid hk
  clear hk q1 q2 q3
  obtain ⟨s0, s1, s2, s3⟩ := HS.out.cells
  obtain ⟨p0, p1, p2⟩ := HP.out.cells
  obtain ⟨d0, d1, d2, d3⟩ := HD.out.cells
  refine (HX.out _).mono ?_; rintro e w2 ⟨rfl, hwe⟩
  subst hwe
  go_wp2_with fail
  obtain ⟨r0, r1, _, _⟩ := (HD.out.set (0) (0)).cells
  refine bodyPost_ret (v := .tuple #[.agg #[.int .i64 (0), .int .i64 (0)], .int .i64 10]) (by simp [results, Try.results12, go_sem, r0, r1]) rfl ⟨rfl, ?_⟩
  exact (HK.out.setCell (.inr (by show _ ≤ w.heap.size + 1 + 1; omega)) _).setCell (.inr (by show _ ≤ w.heap.size + 1 + 1; omega)) _
set_option maxRecDepth 100000 in
set_option maxHeartbeats 4000000 in
theorem rfdot_y (s : Sc) (p : Pn) (hf : numF p.x = true ∧ numF p.y = false) (w : World) : Calls Try.prog 12 #[scV s, pnV p] w fun e w' => e = .returned (.tuple #[dotV (0, 0), .int .i64 10]) ∧ Kp [] w w' := by
  have HX := Lib.hid (fun W => rmayF_calls p.x W)
  have HY := Lib.hid (fun W => rmayF_calls p.y W)
  rw [hf.1] at HX
  rw [hf.2] at HY
  clear hf
  rw [show pnV p = .agg #[.int .i64 p.x, .int .i64 p.y, .int .i64 p.k] from rfl]
  unfold scV dotV
  go_enter Try.func12, Try.ntmps12
  go_wp2_with fail
  obtain ⟨q1, q2, q3⟩ := three_heap (w := w) (A := .cells #[.int .i64 s.u, .int .i64 s.p, .int .i64 s.fx, .int .i64 s.fy] 23) (B := .cells #[.int .i64 p.x, .int .i64 p.y, .int .i64 p.k] 25) (C := .cells #[.int .i64 0, .int .i64 0] 27) rfl
  have hk : Kp [] w (((w.alloc (.cells #[.int .i64 s.u, .int .i64 s.p, .int .i64 s.fx, .int .i64 s.fy] 23)).alloc (.cells #[.int .i64 p.x, .int .i64 p.y, .int .i64 p.k] 25)).alloc (.cells #[.int .i64 0, .int .i64 0] 27)) := by (repeat (first | exact Kp.refl _ _ | assumption | refine Kp.drew ?_ | refine Kp.drewN ?_ _ | refine Kp.alloc ?_ _ | (refine Kp.setCell ?_ (by first | (left; simp; done) | (right; simp; try omega)) _) | (refine Kp.trans' ?_ (by assumption) (by simp; try omega))))
  generalize (((w.alloc (.cells #[.int .i64 s.u, .int .i64 s.p, .int .i64 s.fx, .int .i64 s.fy] 23)).alloc (.cells #[.int .i64 p.x, .int .i64 p.y, .int .i64 p.k] 25)).alloc (.cells #[.int .i64 0, .int .i64 0] 27)) = W0 at *
  have HS : Hid (ScAt W0 w.heap.size s) := q1
  have HP : Hid (PnAt W0 (w.heap.size + 1) p) := q2
  have HD : Hid (DtAt W0 (w.heap.size + 1 + 1) 0 0) := q3
  have HK := Lib.hid hk
  clear hk q1 q2 q3
  obtain ⟨s0, s1, s2, s3⟩ := HS.out.cells
  obtain ⟨p0, p1, p2⟩ := HP.out.cells
  obtain ⟨d0, d1, d2, d3⟩ := HD.out.cells
  refine (HX.out _).mono ?_; rintro e w2 ⟨rfl, hwe⟩
  subst hwe
  go_wp2_with fail
  refine (HY.out _).mono ?_; rintro e w2 ⟨rfl, hwe⟩
  subst hwe
  go_wp2_with fail
  obtain ⟨r0, r1, _, _⟩ := (HD.out.set (0) (0)).cells
  refine bodyPost_ret (v := .tuple #[.agg #[.int .i64 (0), .int .i64 (0)], .int .i64 10]) (by simp [results, Try.results12, go_sem, r0, r1]) rfl ⟨rfl, ?_⟩
  exact (HK.out.setCell (.inr (by show _ ≤ w.heap.size + 1 + 1; omega)) _).setCell (.inr (by show _ ≤ w.heap.size + 1 + 1; omega)) _
set_option maxRecDepth 100000 in
set_option maxHeartbeats 4000000 in
theorem rfdot_fx (s : Sc) (p : Pn) (hs : mayS s = true) (hx : numF p.x = true) (hy : numF p.y = true) (hd : inD (nxP s p) = false) (w : World) : Calls Try.prog 12 #[scV s, pnV p] w fun e w' => e = .returned (.tuple #[dotV (0, 0), .int .i64 10]) ∧ Kp [] w w' := by
  have HX := Lib.hid (fun W => rmayF_calls p.x W)
  have HY := Lib.hid (fun W => rmayF_calls p.y W)
  rw [hx] at HX
  rw [hy] at HY
  obtain ⟨⟨f0, f1, f2⟩, ⟨f3, f4, f5, f6⟩, ⟨f7, f8, f9, f10, f11⟩, f12, f13⟩ := dot_facts hs hx hy
  have HN1 := Lib.hid (fun W => rnearS_calls (p.x * s.p * 64) (65536 * s.u) f1 (by omega) (by omega) (by omega) W)
  have HN2 := Lib.hid (fun W => rnearS_calls (-p.y * s.p * 64) (65536 * s.u) f1 (by omega) (by omega) (by omega) W)
  have HQ1 := Lib.hid (fun W => rfits_calls (nxP s p) W)
  have HQ2 := Lib.hid (fun W => rfits_calls (nyP s p) W)
  rw [hd] at HQ1
  obtain ⟨X, hX⟩ : ∃ X, nearQ (p.x * s.p * 64) (65536 * s.u) = X := ⟨_, rfl⟩
  obtain ⟨Y, hY⟩ : ∃ Y, nearQ (-p.y * s.p * 64) (65536 * s.u) = Y := ⟨_, rfl⟩
  have eX : nxP s p = X + s.fx := by unfold nxP; rw [hX]
  have eY : nyP s p = Y + s.fy := by unfold nyP; rw [hY]
  rw [hX] at HN1
  rw [hY] at HN2
  rw [eX] at HQ1 f12
  rw [eY] at HQ2 f13
  clear hs hx hy hd hX hY eX eY f1 f2 f5 f6 f10 f11
  rw [show pnV p = .agg #[.int .i64 p.x, .int .i64 p.y, .int .i64 p.k] from rfl]
  unfold scV dotV
  go_enter Try.func12, Try.ntmps12
  go_wp2_with fail
  obtain ⟨q1, q2, q3⟩ := three_heap (w := w) (A := .cells #[.int .i64 s.u, .int .i64 s.p, .int .i64 s.fx, .int .i64 s.fy] 23) (B := .cells #[.int .i64 p.x, .int .i64 p.y, .int .i64 p.k] 25) (C := .cells #[.int .i64 0, .int .i64 0] 27) rfl
  have hk : Kp [] w (((w.alloc (.cells #[.int .i64 s.u, .int .i64 s.p, .int .i64 s.fx, .int .i64 s.fy] 23)).alloc (.cells #[.int .i64 p.x, .int .i64 p.y, .int .i64 p.k] 25)).alloc (.cells #[.int .i64 0, .int .i64 0] 27)) := by (repeat (first | exact Kp.refl _ _ | assumption | refine Kp.drew ?_ | refine Kp.drewN ?_ _ | refine Kp.alloc ?_ _ | (refine Kp.setCell ?_ (by first | (left; simp; done) | (right; simp; try omega)) _) | (refine Kp.trans' ?_ (by assumption) (by simp; try omega))))
  generalize (((w.alloc (.cells #[.int .i64 s.u, .int .i64 s.p, .int .i64 s.fx, .int .i64 s.fy] 23)).alloc (.cells #[.int .i64 p.x, .int .i64 p.y, .int .i64 p.k] 25)).alloc (.cells #[.int .i64 0, .int .i64 0] 27)) = W0 at *
  have HS : Hid (ScAt W0 w.heap.size s) := q1
  have HP : Hid (PnAt W0 (w.heap.size + 1) p) := q2
  have HD : Hid (DtAt W0 (w.heap.size + 1 + 1) 0 0) := q3
  have HK := Lib.hid hk
  clear hk q1 q2 q3
  obtain ⟨s0, s1, s2, s3⟩ := HS.out.cells
  obtain ⟨p0, p1, p2⟩ := HP.out.cells
  obtain ⟨d0, d1, d2, d3⟩ := HD.out.cells
  refine (HX.out _).mono ?_; rintro e w2 ⟨rfl, hwe⟩
  subst hwe
  go_wp2_with fail
  refine (HY.out _).mono ?_; rintro e w2 ⟨rfl, hwe⟩
  subst hwe
  clear HX HY
  go_wp2_with fail
  have c0 := KW.cell s0
  have c1 := KW.cell s1
  have c2 := KW.cell s2
  have c4 := KW.cell p0
  clear s0 s1 s2 s3 p0 p1 p2 d0 d1 d2 d3
  refine wp_region_kq (by kernel_rfl) (by kernel_rfl) ?_
  repeat (go_big_quiet_step ((go_at_call 13; exact Calls.kq (HN1.out _))))
  refine wpQuiet_nil ?_
  intro w2 hw'
  obtain ⟨⟨_, hkw2⟩, rfl⟩ := hw'
  clear c0 c1 c2 c4
  replace HS : Hid (ScAt w2 w.heap.size s) := HS.out.kp0 hkw2
  replace HP : Hid (PnAt w2 (w.heap.size + 1) p) := HP.out.kp0 hkw2
  replace HD : Hid (DtAt w2 (w.heap.size + 1 + 1) 0 0) := HD.out.kp0 hkw2
  replace HK : Hid (Kp [] w w2) := HK.out.trans hkw2
  obtain ⟨s0, s1, s2, s3⟩ := HS.out.cells
  obtain ⟨p0, p1, p2⟩ := HP.out.cells
  obtain ⟨d0, d1, d2, d3⟩ := HD.out.cells
  have hkA := hkw2
  clear hkw2
  go_wp2_with fail
  have c0 := KW.cell s0
  have c1 := KW.cell s1
  have c3 := KW.cell s3
  have c4 := KW.cell p1
  clear s0 s1 s2 s3 p0 p1 p2 d0 d1 d2 d3
  refine wp_region_kq (by kernel_rfl) (by kernel_rfl) ?_
  repeat (go_big_quiet_step ((go_at_call 13; exact Calls.kq (HN2.out _))))
  refine wpQuiet_nil ?_
  intro w3 hw'
  obtain ⟨⟨_, hkw3⟩, rfl⟩ := hw'
  clear c0 c1 c3 c4
  replace HS : Hid (ScAt w3 w.heap.size s) := HS.out.kp0 hkw3
  replace HP : Hid (PnAt w3 (w.heap.size + 1) p) := HP.out.kp0 hkw3
  replace HD : Hid (DtAt w3 (w.heap.size + 1 + 1) 0 0) := HD.out.kp0 hkw3
  replace HK : Hid (Kp [] w w3) := HK.out.trans hkw3
  obtain ⟨s0, s1, s2, s3⟩ := HS.out.cells
  obtain ⟨p0, p1, p2⟩ := HP.out.cells
  obtain ⟨d0, d1, d2, d3⟩ := HD.out.cells
  clear hkw3 HN1 HN2
  go_wp2_with fail
  refine (HQ1.out _).mono ?_; rintro e w4 ⟨rfl, hk⟩
  clear s0 s1 s2 s3 p0 p1 p2 d0 d1 d2 d3
  replace HS : Hid (ScAt w4 w.heap.size s) := HS.out.kp0 (Kp.trans (by (repeat (first | exact Kp.refl _ _ | assumption | refine Kp.drew ?_ | refine Kp.drewN ?_ _ | refine Kp.alloc ?_ _ | (refine Kp.setCell ?_ (by first | (left; simp; done) | (right; simp; try omega)) _) | (refine Kp.trans' ?_ (by assumption) (by simp; try omega))))) hk)
  replace HP : Hid (PnAt w4 (w.heap.size + 1) p) := HP.out.kp0 (Kp.trans (by (repeat (first | exact Kp.refl _ _ | assumption | refine Kp.drew ?_ | refine Kp.drewN ?_ _ | refine Kp.alloc ?_ _ | (refine Kp.setCell ?_ (by first | (left; simp; done) | (right; simp; try omega)) _) | (refine Kp.trans' ?_ (by assumption) (by simp; try omega))))) hk)
  replace HD : Hid (DtAt w4 (w.heap.size + 1 + 1) 0 0) := HD.out.kp0 (Kp.trans (by (repeat (first | exact Kp.refl _ _ | assumption | refine Kp.drew ?_ | refine Kp.drewN ?_ _ | refine Kp.alloc ?_ _ | (refine Kp.setCell ?_ (by first | (left; simp; done) | (right; simp; try omega)) _) | (refine Kp.trans' ?_ (by assumption) (by simp; try omega))))) hk)
  replace HK : Hid (Kp [] w w4) := HK.out.trans (Kp.trans (by (repeat (first | exact Kp.refl _ _ | assumption | refine Kp.drew ?_ | refine Kp.drewN ?_ _ | refine Kp.alloc ?_ _ | (refine Kp.setCell ?_ (by first | (left; simp; done) | (right; simp; try omega)) _) | (refine Kp.trans' ?_ (by assumption) (by simp; try omega))))) hk)
  obtain ⟨s0, s1, s2, s3⟩ := HS.out.cells
  obtain ⟨p0, p1, p2⟩ := HP.out.cells
  obtain ⟨d0, d1, d2, d3⟩ := HD.out.cells
  clear hk
  go_wp2_with fail
  obtain ⟨r0, r1, _, _⟩ := (HD.out.set (0) (0)).cells
  refine bodyPost_ret (v := .tuple #[.agg #[.int .i64 (0), .int .i64 (0)], .int .i64 10]) (by simp [results, Try.results12, go_sem, r0, r1]) rfl ⟨rfl, ?_⟩
  exact (HK.out.setCell (.inr (by show _ ≤ w.heap.size + 1 + 1; omega)) _).setCell (.inr (by show _ ≤ w.heap.size + 1 + 1; omega)) _
set_option maxRecDepth 100000 in
set_option maxHeartbeats 4000000 in
theorem rfdot_fy (s : Sc) (p : Pn) (hs : mayS s = true) (hx : numF p.x = true) (hy : numF p.y = true) (hd : inD (nxP s p) = true ∧ inD (nyP s p) = false) (w : World) : Calls Try.prog 12 #[scV s, pnV p] w fun e w' => e = .returned (.tuple #[dotV (0, 0), .int .i64 10]) ∧ Kp [] w w' := by
  have HX := Lib.hid (fun W => rmayF_calls p.x W)
  have HY := Lib.hid (fun W => rmayF_calls p.y W)
  rw [hx] at HX
  rw [hy] at HY
  obtain ⟨⟨f0, f1, f2⟩, ⟨f3, f4, f5, f6⟩, ⟨f7, f8, f9, f10, f11⟩, f12, f13⟩ := dot_facts hs hx hy
  have HN1 := Lib.hid (fun W => rnearS_calls (p.x * s.p * 64) (65536 * s.u) f1 (by omega) (by omega) (by omega) W)
  have HN2 := Lib.hid (fun W => rnearS_calls (-p.y * s.p * 64) (65536 * s.u) f1 (by omega) (by omega) (by omega) W)
  have HQ1 := Lib.hid (fun W => rfits_calls (nxP s p) W)
  have HQ2 := Lib.hid (fun W => rfits_calls (nyP s p) W)
  rw [hd.1] at HQ1
  rw [hd.2] at HQ2
  obtain ⟨X, hX⟩ : ∃ X, nearQ (p.x * s.p * 64) (65536 * s.u) = X := ⟨_, rfl⟩
  obtain ⟨Y, hY⟩ : ∃ Y, nearQ (-p.y * s.p * 64) (65536 * s.u) = Y := ⟨_, rfl⟩
  have eX : nxP s p = X + s.fx := by unfold nxP; rw [hX]
  have eY : nyP s p = Y + s.fy := by unfold nyP; rw [hY]
  rw [hX] at HN1
  rw [hY] at HN2
  rw [eX] at HQ1 f12
  rw [eY] at HQ2 f13
  clear hs hx hy hd hX hY eX eY f1 f2 f5 f6 f10 f11
  rw [show pnV p = .agg #[.int .i64 p.x, .int .i64 p.y, .int .i64 p.k] from rfl]
  unfold scV dotV
  go_enter Try.func12, Try.ntmps12
  go_wp2_with fail
  obtain ⟨q1, q2, q3⟩ := three_heap (w := w) (A := .cells #[.int .i64 s.u, .int .i64 s.p, .int .i64 s.fx, .int .i64 s.fy] 23) (B := .cells #[.int .i64 p.x, .int .i64 p.y, .int .i64 p.k] 25) (C := .cells #[.int .i64 0, .int .i64 0] 27) rfl
  have hk : Kp [] w (((w.alloc (.cells #[.int .i64 s.u, .int .i64 s.p, .int .i64 s.fx, .int .i64 s.fy] 23)).alloc (.cells #[.int .i64 p.x, .int .i64 p.y, .int .i64 p.k] 25)).alloc (.cells #[.int .i64 0, .int .i64 0] 27)) := by (repeat (first | exact Kp.refl _ _ | assumption | refine Kp.drew ?_ | refine Kp.drewN ?_ _ | refine Kp.alloc ?_ _ | (refine Kp.setCell ?_ (by first | (left; simp; done) | (right; simp; try omega)) _) | (refine Kp.trans' ?_ (by assumption) (by simp; try omega))))
  generalize (((w.alloc (.cells #[.int .i64 s.u, .int .i64 s.p, .int .i64 s.fx, .int .i64 s.fy] 23)).alloc (.cells #[.int .i64 p.x, .int .i64 p.y, .int .i64 p.k] 25)).alloc (.cells #[.int .i64 0, .int .i64 0] 27)) = W0 at *
  have HS : Hid (ScAt W0 w.heap.size s) := q1
  have HP : Hid (PnAt W0 (w.heap.size + 1) p) := q2
  have HD : Hid (DtAt W0 (w.heap.size + 1 + 1) 0 0) := q3
  have HK := Lib.hid hk
  clear hk q1 q2 q3
  obtain ⟨s0, s1, s2, s3⟩ := HS.out.cells
  obtain ⟨p0, p1, p2⟩ := HP.out.cells
  obtain ⟨d0, d1, d2, d3⟩ := HD.out.cells
  refine (HX.out _).mono ?_; rintro e w2 ⟨rfl, hwe⟩
  subst hwe
  go_wp2_with fail
  refine (HY.out _).mono ?_; rintro e w2 ⟨rfl, hwe⟩
  subst hwe
  clear HX HY
  go_wp2_with fail
  have c0 := KW.cell s0
  have c1 := KW.cell s1
  have c2 := KW.cell s2
  have c4 := KW.cell p0
  clear s0 s1 s2 s3 p0 p1 p2 d0 d1 d2 d3
  refine wp_region_kq (by kernel_rfl) (by kernel_rfl) ?_
  repeat (go_big_quiet_step ((go_at_call 13; exact Calls.kq (HN1.out _))))
  refine wpQuiet_nil ?_
  intro w2 hw'
  obtain ⟨⟨_, hkw2⟩, rfl⟩ := hw'
  clear c0 c1 c2 c4
  replace HS : Hid (ScAt w2 w.heap.size s) := HS.out.kp0 hkw2
  replace HP : Hid (PnAt w2 (w.heap.size + 1) p) := HP.out.kp0 hkw2
  replace HD : Hid (DtAt w2 (w.heap.size + 1 + 1) 0 0) := HD.out.kp0 hkw2
  replace HK : Hid (Kp [] w w2) := HK.out.trans hkw2
  obtain ⟨s0, s1, s2, s3⟩ := HS.out.cells
  obtain ⟨p0, p1, p2⟩ := HP.out.cells
  obtain ⟨d0, d1, d2, d3⟩ := HD.out.cells
  have hkA := hkw2
  clear hkw2
  go_wp2_with fail
  have c0 := KW.cell s0
  have c1 := KW.cell s1
  have c3 := KW.cell s3
  have c4 := KW.cell p1
  clear s0 s1 s2 s3 p0 p1 p2 d0 d1 d2 d3
  refine wp_region_kq (by kernel_rfl) (by kernel_rfl) ?_
  repeat (go_big_quiet_step ((go_at_call 13; exact Calls.kq (HN2.out _))))
  refine wpQuiet_nil ?_
  intro w3 hw'
  obtain ⟨⟨_, hkw3⟩, rfl⟩ := hw'
  clear c0 c1 c3 c4
  replace HS : Hid (ScAt w3 w.heap.size s) := HS.out.kp0 hkw3
  replace HP : Hid (PnAt w3 (w.heap.size + 1) p) := HP.out.kp0 hkw3
  replace HD : Hid (DtAt w3 (w.heap.size + 1 + 1) 0 0) := HD.out.kp0 hkw3
  replace HK : Hid (Kp [] w w3) := HK.out.trans hkw3
  obtain ⟨s0, s1, s2, s3⟩ := HS.out.cells
  obtain ⟨p0, p1, p2⟩ := HP.out.cells
  obtain ⟨d0, d1, d2, d3⟩ := HD.out.cells
  clear hkw3 HN1 HN2
  go_wp2_with fail
  refine (HQ1.out _).mono ?_; rintro e w4 ⟨rfl, hk⟩
  clear s0 s1 s2 s3 p0 p1 p2 d0 d1 d2 d3
  replace HS : Hid (ScAt w4 w.heap.size s) := HS.out.kp0 (Kp.trans (by (repeat (first | exact Kp.refl _ _ | assumption | refine Kp.drew ?_ | refine Kp.drewN ?_ _ | refine Kp.alloc ?_ _ | (refine Kp.setCell ?_ (by first | (left; simp; done) | (right; simp; try omega)) _) | (refine Kp.trans' ?_ (by assumption) (by simp; try omega))))) hk)
  replace HP : Hid (PnAt w4 (w.heap.size + 1) p) := HP.out.kp0 (Kp.trans (by (repeat (first | exact Kp.refl _ _ | assumption | refine Kp.drew ?_ | refine Kp.drewN ?_ _ | refine Kp.alloc ?_ _ | (refine Kp.setCell ?_ (by first | (left; simp; done) | (right; simp; try omega)) _) | (refine Kp.trans' ?_ (by assumption) (by simp; try omega))))) hk)
  replace HD : Hid (DtAt w4 (w.heap.size + 1 + 1) 0 0) := HD.out.kp0 (Kp.trans (by (repeat (first | exact Kp.refl _ _ | assumption | refine Kp.drew ?_ | refine Kp.drewN ?_ _ | refine Kp.alloc ?_ _ | (refine Kp.setCell ?_ (by first | (left; simp; done) | (right; simp; try omega)) _) | (refine Kp.trans' ?_ (by assumption) (by simp; try omega))))) hk)
  replace HK : Hid (Kp [] w w4) := HK.out.trans (Kp.trans (by (repeat (first | exact Kp.refl _ _ | assumption | refine Kp.drew ?_ | refine Kp.drewN ?_ _ | refine Kp.alloc ?_ _ | (refine Kp.setCell ?_ (by first | (left; simp; done) | (right; simp; try omega)) _) | (refine Kp.trans' ?_ (by assumption) (by simp; try omega))))) hk)
  obtain ⟨s0, s1, s2, s3⟩ := HS.out.cells
  obtain ⟨p0, p1, p2⟩ := HP.out.cells
  obtain ⟨d0, d1, d2, d3⟩ := HD.out.cells
  clear hk
  go_wp2_with fail
  refine (HQ2.out _).mono ?_; rintro e w5 ⟨rfl, hk⟩
  clear s0 s1 s2 s3 p0 p1 p2 d0 d1 d2 d3
  replace HS : Hid (ScAt w5 w.heap.size s) := HS.out.kp0 (Kp.trans (by (repeat (first | exact Kp.refl _ _ | assumption | refine Kp.drew ?_ | refine Kp.drewN ?_ _ | refine Kp.alloc ?_ _ | (refine Kp.setCell ?_ (by first | (left; simp; done) | (right; simp; try omega)) _) | (refine Kp.trans' ?_ (by assumption) (by simp; try omega))))) hk)
  replace HP : Hid (PnAt w5 (w.heap.size + 1) p) := HP.out.kp0 (Kp.trans (by (repeat (first | exact Kp.refl _ _ | assumption | refine Kp.drew ?_ | refine Kp.drewN ?_ _ | refine Kp.alloc ?_ _ | (refine Kp.setCell ?_ (by first | (left; simp; done) | (right; simp; try omega)) _) | (refine Kp.trans' ?_ (by assumption) (by simp; try omega))))) hk)
  replace HD : Hid (DtAt w5 (w.heap.size + 1 + 1) 0 0) := HD.out.kp0 (Kp.trans (by (repeat (first | exact Kp.refl _ _ | assumption | refine Kp.drew ?_ | refine Kp.drewN ?_ _ | refine Kp.alloc ?_ _ | (refine Kp.setCell ?_ (by first | (left; simp; done) | (right; simp; try omega)) _) | (refine Kp.trans' ?_ (by assumption) (by simp; try omega))))) hk)
  replace HK : Hid (Kp [] w w5) := HK.out.trans (Kp.trans (by (repeat (first | exact Kp.refl _ _ | assumption | refine Kp.drew ?_ | refine Kp.drewN ?_ _ | refine Kp.alloc ?_ _ | (refine Kp.setCell ?_ (by first | (left; simp; done) | (right; simp; try omega)) _) | (refine Kp.trans' ?_ (by assumption) (by simp; try omega))))) hk)
  obtain ⟨s0, s1, s2, s3⟩ := HS.out.cells
  obtain ⟨p0, p1, p2⟩ := HP.out.cells
  obtain ⟨d0, d1, d2, d3⟩ := HD.out.cells
  clear hk
  go_wp2_with fail
  obtain ⟨r0, r1, _, _⟩ := (HD.out.set (0) (0)).cells
  refine bodyPost_ret (v := .tuple #[.agg #[.int .i64 (0), .int .i64 (0)], .int .i64 10]) (by simp [results, Try.results12, go_sem, r0, r1]) rfl ⟨rfl, ?_⟩
  exact (HK.out.setCell (.inr (by show _ ≤ w.heap.size + 1 + 1; omega)) _).setCell (.inr (by show _ ≤ w.heap.size + 1 + 1; omega)) _
set_option maxRecDepth 100000 in
set_option maxHeartbeats 4000000 in
theorem rfdot_ok (s : Sc) (p : Pn) (hs : mayS s = true) (hx : numF p.x = true) (hy : numF p.y = true) (hd : inD (nxP s p) = true ∧ inD (nyP s p) = true) (w : World) : Calls Try.prog 12 #[scV s, pnV p] w fun e w' => e = .returned (.tuple #[dotV (nxP s p, nyP s p), .int .i64 0]) ∧ Kp [] w w' := by
  have HX := Lib.hid (fun W => rmayF_calls p.x W)
  have HY := Lib.hid (fun W => rmayF_calls p.y W)
  rw [hx] at HX
  rw [hy] at HY
  obtain ⟨⟨f0, f1, f2⟩, ⟨f3, f4, f5, f6⟩, ⟨f7, f8, f9, f10, f11⟩, f12, f13⟩ := dot_facts hs hx hy
  have HN1 := Lib.hid (fun W => rnearS_calls (p.x * s.p * 64) (65536 * s.u) f1 (by omega) (by omega) (by omega) W)
  have HN2 := Lib.hid (fun W => rnearS_calls (-p.y * s.p * 64) (65536 * s.u) f1 (by omega) (by omega) (by omega) W)
  have HQ1 := Lib.hid (fun W => rfits_calls (nxP s p) W)
  have HQ2 := Lib.hid (fun W => rfits_calls (nyP s p) W)
  rw [hd.1] at HQ1
  rw [hd.2] at HQ2
  obtain ⟨X, hX⟩ : ∃ X, nearQ (p.x * s.p * 64) (65536 * s.u) = X := ⟨_, rfl⟩
  obtain ⟨Y, hY⟩ : ∃ Y, nearQ (-p.y * s.p * 64) (65536 * s.u) = Y := ⟨_, rfl⟩
  have eX : nxP s p = X + s.fx := by unfold nxP; rw [hX]
  have eY : nyP s p = Y + s.fy := by unfold nyP; rw [hY]
  rw [hX] at HN1
  rw [hY] at HN2
  rw [eX] at HQ1 f12 ⊢
  rw [eY] at HQ2 f13 ⊢
  clear hs hx hy hd hX hY eX eY f1 f2 f5 f6 f10 f11
  rw [show pnV p = .agg #[.int .i64 p.x, .int .i64 p.y, .int .i64 p.k] from rfl]
  unfold scV dotV
  go_enter Try.func12, Try.ntmps12
  go_wp2_with fail
  obtain ⟨q1, q2, q3⟩ := three_heap (w := w) (A := .cells #[.int .i64 s.u, .int .i64 s.p, .int .i64 s.fx, .int .i64 s.fy] 23) (B := .cells #[.int .i64 p.x, .int .i64 p.y, .int .i64 p.k] 25) (C := .cells #[.int .i64 0, .int .i64 0] 27) rfl
  have hk : Kp [] w (((w.alloc (.cells #[.int .i64 s.u, .int .i64 s.p, .int .i64 s.fx, .int .i64 s.fy] 23)).alloc (.cells #[.int .i64 p.x, .int .i64 p.y, .int .i64 p.k] 25)).alloc (.cells #[.int .i64 0, .int .i64 0] 27)) := by (repeat (first | exact Kp.refl _ _ | assumption | refine Kp.drew ?_ | refine Kp.drewN ?_ _ | refine Kp.alloc ?_ _ | (refine Kp.setCell ?_ (by first | (left; simp; done) | (right; simp; try omega)) _) | (refine Kp.trans' ?_ (by assumption) (by simp; try omega))))
  generalize (((w.alloc (.cells #[.int .i64 s.u, .int .i64 s.p, .int .i64 s.fx, .int .i64 s.fy] 23)).alloc (.cells #[.int .i64 p.x, .int .i64 p.y, .int .i64 p.k] 25)).alloc (.cells #[.int .i64 0, .int .i64 0] 27)) = W0 at *
  have HS : Hid (ScAt W0 w.heap.size s) := q1
  have HP : Hid (PnAt W0 (w.heap.size + 1) p) := q2
  have HD : Hid (DtAt W0 (w.heap.size + 1 + 1) 0 0) := q3
  have HK := Lib.hid hk
  clear hk q1 q2 q3
  obtain ⟨s0, s1, s2, s3⟩ := HS.out.cells
  obtain ⟨p0, p1, p2⟩ := HP.out.cells
  obtain ⟨d0, d1, d2, d3⟩ := HD.out.cells
  refine (HX.out _).mono ?_; rintro e w2 ⟨rfl, hwe⟩
  subst hwe
  go_wp2_with fail
  refine (HY.out _).mono ?_; rintro e w2 ⟨rfl, hwe⟩
  subst hwe
  clear HX HY
  go_wp2_with fail
  have c0 := KW.cell s0
  have c1 := KW.cell s1
  have c2 := KW.cell s2
  have c4 := KW.cell p0
  clear s0 s1 s2 s3 p0 p1 p2 d0 d1 d2 d3
  refine wp_region_kq (by kernel_rfl) (by kernel_rfl) ?_
  repeat (go_big_quiet_step ((go_at_call 13; exact Calls.kq (HN1.out _))))
  refine wpQuiet_nil ?_
  intro w2 hw'
  obtain ⟨⟨_, hkw2⟩, rfl⟩ := hw'
  clear c0 c1 c2 c4
  replace HS : Hid (ScAt w2 w.heap.size s) := HS.out.kp0 hkw2
  replace HP : Hid (PnAt w2 (w.heap.size + 1) p) := HP.out.kp0 hkw2
  replace HD : Hid (DtAt w2 (w.heap.size + 1 + 1) 0 0) := HD.out.kp0 hkw2
  replace HK : Hid (Kp [] w w2) := HK.out.trans hkw2
  obtain ⟨s0, s1, s2, s3⟩ := HS.out.cells
  obtain ⟨p0, p1, p2⟩ := HP.out.cells
  obtain ⟨d0, d1, d2, d3⟩ := HD.out.cells
  have hkA := hkw2
  clear hkw2
  go_wp2_with fail
  have c0 := KW.cell s0
  have c1 := KW.cell s1
  have c3 := KW.cell s3
  have c4 := KW.cell p1
  clear s0 s1 s2 s3 p0 p1 p2 d0 d1 d2 d3
  refine wp_region_kq (by kernel_rfl) (by kernel_rfl) ?_
  repeat (go_big_quiet_step ((go_at_call 13; exact Calls.kq (HN2.out _))))
  refine wpQuiet_nil ?_
  intro w3 hw'
  obtain ⟨⟨_, hkw3⟩, rfl⟩ := hw'
  clear c0 c1 c3 c4
  replace HS : Hid (ScAt w3 w.heap.size s) := HS.out.kp0 hkw3
  replace HP : Hid (PnAt w3 (w.heap.size + 1) p) := HP.out.kp0 hkw3
  replace HD : Hid (DtAt w3 (w.heap.size + 1 + 1) 0 0) := HD.out.kp0 hkw3
  replace HK : Hid (Kp [] w w3) := HK.out.trans hkw3
  obtain ⟨s0, s1, s2, s3⟩ := HS.out.cells
  obtain ⟨p0, p1, p2⟩ := HP.out.cells
  obtain ⟨d0, d1, d2, d3⟩ := HD.out.cells
  clear hkw3 HN1 HN2
  go_wp2_with fail
  refine (HQ1.out _).mono ?_; rintro e w4 ⟨rfl, hk⟩
  clear s0 s1 s2 s3 p0 p1 p2 d0 d1 d2 d3
  replace HS : Hid (ScAt w4 w.heap.size s) := HS.out.kp0 (Kp.trans (by (repeat (first | exact Kp.refl _ _ | assumption | refine Kp.drew ?_ | refine Kp.drewN ?_ _ | refine Kp.alloc ?_ _ | (refine Kp.setCell ?_ (by first | (left; simp; done) | (right; simp; try omega)) _) | (refine Kp.trans' ?_ (by assumption) (by simp; try omega))))) hk)
  replace HP : Hid (PnAt w4 (w.heap.size + 1) p) := HP.out.kp0 (Kp.trans (by (repeat (first | exact Kp.refl _ _ | assumption | refine Kp.drew ?_ | refine Kp.drewN ?_ _ | refine Kp.alloc ?_ _ | (refine Kp.setCell ?_ (by first | (left; simp; done) | (right; simp; try omega)) _) | (refine Kp.trans' ?_ (by assumption) (by simp; try omega))))) hk)
  replace HD : Hid (DtAt w4 (w.heap.size + 1 + 1) 0 0) := HD.out.kp0 (Kp.trans (by (repeat (first | exact Kp.refl _ _ | assumption | refine Kp.drew ?_ | refine Kp.drewN ?_ _ | refine Kp.alloc ?_ _ | (refine Kp.setCell ?_ (by first | (left; simp; done) | (right; simp; try omega)) _) | (refine Kp.trans' ?_ (by assumption) (by simp; try omega))))) hk)
  replace HK : Hid (Kp [] w w4) := HK.out.trans (Kp.trans (by (repeat (first | exact Kp.refl _ _ | assumption | refine Kp.drew ?_ | refine Kp.drewN ?_ _ | refine Kp.alloc ?_ _ | (refine Kp.setCell ?_ (by first | (left; simp; done) | (right; simp; try omega)) _) | (refine Kp.trans' ?_ (by assumption) (by simp; try omega))))) hk)
  obtain ⟨s0, s1, s2, s3⟩ := HS.out.cells
  obtain ⟨p0, p1, p2⟩ := HP.out.cells
  obtain ⟨d0, d1, d2, d3⟩ := HD.out.cells
  clear hk
  go_wp2_with fail
  refine (HQ2.out _).mono ?_; rintro e w5 ⟨rfl, hk⟩
  clear s0 s1 s2 s3 p0 p1 p2 d0 d1 d2 d3
  replace HS : Hid (ScAt w5 w.heap.size s) := HS.out.kp0 (Kp.trans (by (repeat (first | exact Kp.refl _ _ | assumption | refine Kp.drew ?_ | refine Kp.drewN ?_ _ | refine Kp.alloc ?_ _ | (refine Kp.setCell ?_ (by first | (left; simp; done) | (right; simp; try omega)) _) | (refine Kp.trans' ?_ (by assumption) (by simp; try omega))))) hk)
  replace HP : Hid (PnAt w5 (w.heap.size + 1) p) := HP.out.kp0 (Kp.trans (by (repeat (first | exact Kp.refl _ _ | assumption | refine Kp.drew ?_ | refine Kp.drewN ?_ _ | refine Kp.alloc ?_ _ | (refine Kp.setCell ?_ (by first | (left; simp; done) | (right; simp; try omega)) _) | (refine Kp.trans' ?_ (by assumption) (by simp; try omega))))) hk)
  replace HD : Hid (DtAt w5 (w.heap.size + 1 + 1) 0 0) := HD.out.kp0 (Kp.trans (by (repeat (first | exact Kp.refl _ _ | assumption | refine Kp.drew ?_ | refine Kp.drewN ?_ _ | refine Kp.alloc ?_ _ | (refine Kp.setCell ?_ (by first | (left; simp; done) | (right; simp; try omega)) _) | (refine Kp.trans' ?_ (by assumption) (by simp; try omega))))) hk)
  replace HK : Hid (Kp [] w w5) := HK.out.trans (Kp.trans (by (repeat (first | exact Kp.refl _ _ | assumption | refine Kp.drew ?_ | refine Kp.drewN ?_ _ | refine Kp.alloc ?_ _ | (refine Kp.setCell ?_ (by first | (left; simp; done) | (right; simp; try omega)) _) | (refine Kp.trans' ?_ (by assumption) (by simp; try omega))))) hk)
  obtain ⟨s0, s1, s2, s3⟩ := HS.out.cells
  obtain ⟨p0, p1, p2⟩ := HP.out.cells
  obtain ⟨d0, d1, d2, d3⟩ := HD.out.cells
  clear hk
  go_wp2_with fail
  obtain ⟨r0, r1, _, _⟩ := (HD.out.set (X + s.fx) (Y + s.fy)).cells
  refine bodyPost_ret (v := .tuple #[.agg #[.int .i64 (X + s.fx), .int .i64 (Y + s.fy)], .int .i64 0]) (by simp [results, Try.results12, go_sem, r0, r1]) rfl ⟨rfl, ?_⟩
  exact (HK.out.setCell (.inr (by show _ ≤ w.heap.size + 1 + 1; omega)) _).setCell (.inr (by show _ ≤ w.heap.size + 1 + 1; omega)) _
theorem rfdot_calls (s : Sc) (p : Pn) (hs : mayS s = true) (w : World) : Calls Try.prog 12 #[scV s, pnV p] w fun e w' => e = .returned (.tuple #[dotV (dotP s p).1, .int .i64 (dotP s p).2]) ∧ Kp [] w w' := by
  unfold dotP
  cases hx : numF p.x with
  | false => exact rfdot_x s p hx w
  | true =>
    cases hy : numF p.y with
    | false => exact rfdot_y s p ⟨hx, hy⟩ w
    | true =>
      unfold dotQ
      cases h1 : inD (nxP s p) with
      | false => simpa [h1] using rfdot_fx s p hs hx hy h1 w
      | true =>
        cases h2 : inD (nyP s p) with
        | false => simpa [h1, h2] using rfdot_fy s p hs hx hy ⟨h1, h2⟩ w
        | true => simpa [h1, h2] using rfdot_ok s p hs hx hy ⟨h1, h2⟩ w
end Go.Proofs.Ytpbmefojhgcniaa
namespace Go.Proofs.Ytpbmefojhgcniaa
open Go.RowKit Go.Shelf
set_option linter.unusedVariables false
set_option linter.unusedSimpArgs false
attribute [local go_sem] Oper.semAt_some
def flTo (L : List (List (Int × Int))) (j : Nat) : List (Int × Int) := (L.take j).flatten
theorem flTo_succ (L : List (List (Int × Int))) (j : Nat) (h : j < L.length) : flTo L (j + 1) = flTo L j ++ L.getD j [] := by
  unfold flTo
  rw [List.take_succ_eq_append_getElem h, List.flatten_append, List.getD_eq_getElem?_getD, List.getElem?_eq_getElem h]
  simp
theorem flTo_pre (L : List (List (Int × Int))) (j n : Nat) (h : j < L.length) (hn : n ≤ (L.getD j []).length) : flTo L j ++ (L.getD j []).take n <+: flTo L L.length := by
  have h1 : flTo L j ++ (L.getD j []).take n <+: flTo L (j + 1) := by
    rw [flTo_succ L j h]
    exact (List.prefix_append_right_inj _).2 (List.take_prefix _ _)
  refine h1.trans ?_
  unfold flTo
  have : L.take L.length = L.take (j + 1) ++ L.drop (j + 1) := by rw [List.take_length, List.take_append_drop]
  rw [this, List.flatten_append]
  exact List.prefix_append _ _
set_option maxRecDepth 100000 in
set_option maxHeartbeats 4000000 in
/-- The closure of all: for every loop body that keeps the outline (which can be read at w0). -/
theorem all1_in (m : Nat) (hm : 1 ≤ m) (l Bc : Nat) (v : Value) (L : List (List (Int × Int))) (w0 : World) (hv : IsFl w0 v L) (R : World → World → Prop) (hR : ∀ A B : World, Kp [] w0 A → R A B → Kp [] w0 B)
    (J Jx : List (Int × Int) → World → Prop) (W : World) (hbW : W.cell? ⟨Bc, 0, none⟩ = some v) (hkW : Kp [] w0 W) (hJ : AbidesFrom W.heap.size J)
    (hY : ∀ pre x W, J pre W → pre.length < (flTo L L.length).length → YieldAt Fence.wide (m - 1) Try.prog l #[dotV x] W fun e W' =>
      (e = .returned (.bool true) ∧ J (pre ++ [x]) W' ∧ R W W') ∨ (e = .returned (.bool false) ∧ Jx (pre ++ [x]) W'))
    (h0 : J [] W) :
    CallsIn Fence.wide m Try.prog 65 #[.func (.yield l) #[] #[], .pointer (some ⟨Bc, 0, none⟩)] W fun e W' => (∃ v, e = .returned v) ∧
      (J (flTo L L.length) W' ∨ (∃ pre, pre <+: flTo L L.length ∧ Jx pre W')) := by
  have hle := hv.le
  unfold maxLen at hle
  have HLE : Hid (∀ j, j < L.length → (L.getD j []).length ≤ 9223372036854775807) := fun j hj => by
    obtain ⟨_, _, _, _, _, _, _, _, _, hp⟩ := hv.row hj
    have := hp.le
    unfold maxLen at this; omega
  obtain ⟨pa, ca, rfl⟩ := hv.form
  have HV := Lib.hid hv
  have HJ := Lib.hid hJ
  have HY := Lib.hid hY
  have HPR := Lib.hid (flTo_pre L)
  have HSU := Lib.hid (flTo_succ L)
  obtain ⟨T, hT⟩ : ∃ T, flTo L L.length = T := ⟨_, rfl⟩
  have HT := Lib.hid hT
  rw [hT] at HY HPR ⊢
  obtain ⟨N, hN⟩ : ∃ N, L.length = N := ⟨_, rfl⟩
  have HN := Lib.hid hN
  rw [hN] at HLE HPR HSU hle hbW HV HT
  have HK0 : Hid (J (flTo L 0) W ∧ Kp [] w0 W) := ⟨h0, hkW⟩
  have HMO : Hid (∀ A B : World, Kp [] w0 A → R A B → Kp [] w0 B) := hR
  clear hv hJ hY hT hN h0 hkW hR
  refine callsIn_of_wp Try.func65 rfl trivial ?_ rfl
  simp only [Try.ntmps65, List.size_toArray, List.length_cons, List.length_nil, Nat.reduceAdd, Nat.reduceSub, Array.replicate_succ, Array.replicate_zero, List.push_toArray, List.append_toArray, List.nil_append, List.cons_append]
  gi_wp2
  gi_loopw [4, 6, 9] (fun _ _ i wr => ∃ j : Nat, j ≤ N ∧ i = .int .i64 j ∧ Hid (J (flTo L j) wr ∧ Kp [] w0 wr)) (fun _ _ i _ => N - (intOf i).toNat)
  case atStart => exact ⟨0, Nat.zero_le _, rfl, HK0.out.1, HK0.out.2⟩
  case round =>
    obtain ⟨j, hj, rfl, HR⟩ := hrel
    clear HK0
    by_cases hlt : j < N
    · have hjo : j < L.length := by rw [HN.out]; exact hlt
      obtain ⟨g1, o1, cc, pe, ce, e1, _, _, h1w, hp⟩ := HV.out.row hjo
      rw [HN.out] at e1
      cases e1
      have h1 := HR.out.2.cell h1w (by simp)
      have hL := HLE.out j hlt
      have HP : Hid (∀ W', Kp [] w0 W' → IsPairs W' (.slice pe (L.getD j []).length ce) (L.getD j [])) := fun W' hW' => hp.kp0 hW'
      have HPRE : Hid (∀ m, m ≤ (L.getD j []).length → flTo L j ++ (L.getD j []).take m <+: T) := fun m hm => HPR.out j m hlt hm
      have HST : Hid (flTo L (j + 1) = flTo L j ++ L.getD j []) := HSU.out j hlt
      have HJ0 : Hid (J (flTo L j ++ (L.getD j []).take 0) wr ∧ Kp [] w0 wr) := by
        show _ ∧ _
        rw [List.take_zero, List.append_nil]; exact HR.out
      generalize flTo L j = A at *
      generalize L.getD j [] = e at *
      clear hp HR hjo h1w
      obtain ⟨K, hcl⟩ : ∃ K, e.length = K := ⟨_, rfl⟩
      have HEL := Lib.hid hcl
      rw [hcl] at h1 hL HP HPRE
      clear hcl
      gi_wp2
      gi_loopw [6, 15] (fun _ k wr2 => ∃ m : Nat, m ≤ K ∧ k = .int .i64 m ∧ Hid (J (A ++ e.take m) wr2 ∧ Kp [] w0 wr2)) (fun _ k _ => K - (intOf k).toNat)
      case atStart => exact ⟨0, by omega, rfl, HJ0.out⟩
      case round =>
        obtain ⟨m2, hm2, rfl, HI⟩ := hrel
        clear HJ0 h1
        by_cases hml : m2 < K
        · obtain ⟨g2, o2, c2, e2, _, _, x1, y1⟩ := (HP.out _ HI.out.2).row (i := m2) (by rw [HEL.out]; exact hml)
          rw [HEL.out] at e2
          cases e2
          have HNX : Hid (A ++ e.take (m2 + 1) = A ++ e.take m2 ++ [e.getD m2 (0, 0)]) := by
            have hme : m2 < e.length := by rw [HEL.out]; exact hml
            show _ = _
            rw [List.append_assoc, List.take_succ_eq_append_getElem hme, List.getD_eq_getElem?_getD, List.getElem?_eq_getElem hme]; rfl
          have HLT : Hid ((A ++ e.take m2).length < T.length) := by
            have h5 := (HPRE.out (m2 + 1) (by omega)).length_le
            rw [HNX.out, List.length_append] at h5
            have h6 : ([e.getD m2 (0, 0)] : List (Int × Int)).length = 1 := rfl
            show _ < _
            omega
          generalize e.getD m2 (0, 0) = q at *
          obtain ⟨qx, qy⟩ := q
          have hk3 : Kp [] wr (wr.alloc (.cells #[.int .i64 qx, .int .i64 qy] 27)) := (Kp.refl _ _).alloc _
          have HK3 := Lib.hid hk3
          obtain ⟨fn, tmps, assign, body, hy, hR⟩ := HY.out _ (qx, qy) _ (abidesC HJ.out HI.out.1 hk3) HLT.out
          rw [show dotV (qx, qy) = .agg #[.int .i64 qx, .int .i64 qy] from rfl] at hy
          have HKW : Hid (Kp [] w0 wr) := HI.out.2
          clear hk3 HI
          gi_wp2
          refine hR.mono ?_
          rintro e3 W3 (⟨rfl, hJ3, hk3⟩ | ⟨rfl, hJx3⟩)
          · have H3 : Hid (J (A ++ e.take (m2 + 1)) W3 ∧ Kp [] w0 W3) := ⟨by rw [HNX.out]; exact hJ3, HMO.out _ _ (HKW.out.trans HK3.out) hk3⟩
            clear hJ3 hk3 hy hR
            gi_wp2
            go_roundw
            case rel => first | exact ⟨m2 + 1, by omega, by simp, H3⟩ | ((repeat apply Exists.intro); exact ⟨⟨m2 + 1, by omega, by simp, H3⟩, rfl⟩)
            case measure => simp [intOf]; omega
          · have H3 : Hid (∃ pre, pre <+: T ∧ Jx pre W3) := ⟨_, by rw [← HNX.out]; exact HPRE.out (m2 + 1) (by omega), hJx3⟩
            clear hJx3 hy hR
            gi_wp2
            refine bodyPost_ret (results_none rfl _ _ _) rfl ?_
            exact ⟨⟨_, rfl⟩, .inr H3.out⟩
        · obtain rfl : m2 = K := by omega
          have HF : Hid (J (flTo L (j + 1)) wr ∧ Kp [] w0 wr) := by
            show _ ∧ _
            have h := HI.out
            rw [List.take_of_length_le (by rw [HEL.out]; exact Nat.le_refl _)] at h
            rw [HST.out]; exact h
          clear HI
          gi_wp2
          go_roundw
          case rel => first | exact ⟨j + 1, by omega, by simp, HF⟩ | ((repeat apply Exists.intro); exact ⟨⟨j + 1, by omega, by simp, HF⟩, rfl⟩)
          case measure => simp [intOf] <;> omega
    · obtain rfl : j = N := by omega
      rw [HT.out] at HR
      gi_wp2
      go_end0
      exact ⟨⟨_, rfl⟩, .inl HR.out.1⟩
/-- all hands back a value that goes over these dots, or over a beginning of them. -/
theorem all_stopsR (m : Nat) (hm : 1 ≤ m) (Bc : Nat) (v : Value) (L : List (List (Int × Int))) (wA w : World) (hv : IsFl wA v L) (hkA : Kp [] wA w) (hB : w.cell? ⟨Bc, 0, none⟩ = some v) (R : World → World → Prop) (hR : ∀ A B : World, Kp [] wA A → R A B → Kp [] wA B) :
    SeqStopsK Fence.wide m Try.prog 65 #[.pointer (some ⟨Bc, 0, none⟩)] (fun x : Int × Int => #[dotV x]) R (fun ys => ys = flTo L L.length) (fun pre => pre <+: flTo L L.length) (flTo L L.length).length w := fun l J Jx W hW hJ _ hY h0 => by
  have hk : Kp [] w W := Kp.of_below hW
  refine (all1_in m hm l Bc v L wA hv R hR J Jx W (hk.cell hB (by simp)) (hkA.trans hk) hJ hY h0).mono ?_
  rintro e W' ⟨he, hj | ⟨pre, hp, hj⟩⟩
  · exact ⟨he, .inl ⟨_, rfl, hj⟩⟩
  · exact ⟨he, .inr ⟨_, hp, hj⟩⟩
theorem all_stops (m : Nat) (hm : 1 ≤ m) (Bc n₀ : Nat) (v : Value) (L : List (List (Int × Int))) (w : World) (hv : IsFl w v L) (hB : w.cell? ⟨Bc, 0, none⟩ = some v) (hn₀ : n₀ = w.heap.size) :
    SeqStopsK Fence.wide m Try.prog 65 #[.pointer (some ⟨Bc, 0, none⟩)] (fun x : Int × Int => #[dotV x]) (Below n₀) (fun ys => ys = flTo L L.length) (fun pre => pre <+: flTo L L.length) (flTo L L.length).length w := by
  subst hn₀
  exact all_stopsR m hm Bc v L w w hv (Kp.refl _ _) hB _ (fun A B hA hAB => ⟨hAB.os.trans hA.os, hAB.tape.trans hA.tape, hAB.output.trans hA.output, Nat.le_trans hA.size hAB.size, fun k hk hs => (hAB.block k hk).trans (hA.block k hk hs)⟩)
theorem all_calls (v : Value) (w : World) (p : Option Addr) (n c : Nat) (hv : v = .slice p n c) : Calls Try.prog 44 #[v] w fun e w' => e = .returned (.func (.func 65) #[] #[.pointer (some ⟨w.heap.size, 0, none⟩)]) ∧ w' = w.alloc (.cells #[v] 39) := by
  subst hv
  go_enter Try.func44, Try.ntmps44
  go_wp2_with fail
  go_ret
  exact ⟨rfl, rfl⟩
end Go.Proofs.Ytpbmefojhgcniaa
namespace Go.Proofs.Ytpbmefojhgcniaa
open Go.RowKit Go.Shelf
set_option linter.unusedVariables false
set_option linter.unusedSimpArgs false
attribute [local go_sem] Oper.semAt_some
/-- May a flat outline be? -/
def mayF (L : List (List (Int × Int))) : Int := if 65536 < fcnt L then 3 else if (flTo L L.length).all dotQ = true then 0 else 10
def smF (L : List (List (Int × Int))) : Prop := ∀ j, j < L.length → (L.getD j []).length ≤ 1125899906842624
theorem Boxed.kp {W W' : World} {B : Nat} {t : TypeId} {v : Value} (h : Boxed W B t v) (hk : Kp [] W W') : Boxed W' B t v := hk.heap h (by simp)
def DotAt (W : World) (B : Nat) (x : Int × Int) : Prop := W.heap[B]? = some (.cells #[.int .i64 x.1, .int .i64 x.2] 27 (0, 0))
theorem notCells {W W' : World} {row : Option Nat} {B : Nat} (hr : ∀ r, row = some r → B ≤ r ∧ ∃ o : Obj, W.heap[r]? = some o ∧ o.isCells = false) {k : Nat} {cs : Array Value} {t : TypeId} (hk : W.heap[k]? = some (.cells cs t (0, 0))) : some k ≠ row := by
  intro e
  obtain ⟨_, o, ho, hc⟩ := hr k e.symm
  rw [hk] at ho; cases ho; simp [Obj.isCells] at hc
theorem blkKept {W W' : World} {row : Option Nat} {B : Nat} (hg : W.grownBy W' row) (hr : ∀ r, row = some r → B ≤ r ∧ ∃ o : Obj, W.heap[r]? = some o ∧ o.isCells = false) {k : Nat} {cs : Array Value} {t : TypeId} (hk : W.heap[k]? = some (.cells cs t (0, 0))) : W'.heap[k]? = some (.cells cs t (0, 0)) :=
  (hg.block _ (Array.getElem?_eq_some_iff.1 hk).1 (notCells (W' := W') hr hk)).trans hk
theorem Kp.keeps {w w' : World} (h : Kp [] w w') : KeepsOthers w w' := ⟨h.size, fun k o ho _ => h.heap ho (by simp)⟩
theorem Kp.ended {w W : World} {b D : Nat} {v : Value} (h : Kp [] w W) (hb : w.heap.size ≤ b) (hD : w.heap.size ≤ D) : Kp [] w ((W.setCell ⟨b, 0, none⟩ v).putObj D (.deferred none)) :=
  Kp.grown (h.setCell (.inr hb) _) (grownBy_putObj' _ D (.deferred none)) (fun k hk => .inr (by cases hk; exact hD))
theorem Kp.ended0 {w W : World} {D : Nat} (h : Kp [] w W) (hD : w.heap.size ≤ D) : Kp [] w (W.putObj D (.deferred none)) :=
  Kp.grown h (grownBy_putObj' _ D (.deferred none)) (fun k hk => .inr (by cases hk; exact hD))
/-- What May keeps: its result, and the outline that is gone over. -/
def MfSt (w W : World) (A : Nat) (v : Value) (e : Int) : Prop := A = w.heap.size ∧ Boxed W A 28 (.int .i64 e) ∧ Boxed W (A + 1) 39 v ∧ Kp [] w W
theorem MfSt.kp {w W W' : World} {A : Nat} {v : Value} {e : Int} (h : MfSt w W A v e) (hk : Kp [] W W') : MfSt w W' A v e := ⟨h.1, Boxed.kp h.2.1 hk, Boxed.kp h.2.2.1 hk, h.2.2.2.trans hk⟩
theorem MfSt.own {w : World} {A B : Nat} {v : Value} {e : Int} (hB : w.heap.size ≤ B) (p : List (Int × Int) → Prop) : OwnFrom (β := List (Int × Int)) B (fun pre W => p pre ∧ MfSt w W A v e) := by
  intro s W W' row hs hg hr
  obtain ⟨h0, h1, h2, h3, h4⟩ := hs
  exact ⟨h0, h1, blkKept hg hr h2, blkKept hg hr h3, Kp.grown h4 hg (fun k hk => .inr (Nat.le_trans hB (hr k hk).1))⟩
theorem fcnt_app (L : List (List (Int × Int))) (j : Nat) (h : j < L.length) : fcntTo L (j + 1) = fcntTo L j + (L.getD j []).length := rfl
set_option maxRecDepth 100000 in
set_option maxHeartbeats 4000000 in
theorem fmay_flat (v : Value) (L : List (List (Int × Int))) (w : World) (hv : IsFl w v L) (hs : smF L) : Calls Try.prog 19 #[v] w fun e w' => e = .returned (.int .i64 (mayF L)) ∧ Kp [] w w' := by
  have hle := hv.le
  unfold maxLen at hle
  have HS := Lib.hid hs
  have HV := Lib.hid hv
  have HST := Lib.hid (all_stops 4 (by decide) (w.heap.size + 1) (w.heap.size + 1 + 1) v L)
  obtain ⟨pa, ca, rfl⟩ := hv.form
  have HML : Hid (65536 < fcnt L → mayF L = 3) := fun h => if_pos h
  have HM0 : Hid (¬ 65536 < fcnt L → (flTo L L.length).all dotQ = true → mayF L = 0) := fun h h2 => by unfold mayF; rw [if_neg h, if_pos h2]
  have HM1 : Hid (¬ 65536 < fcnt L → (flTo L L.length).all dotQ = false → mayF L = 10) := fun h h2 => by unfold mayF; rw [if_neg h, if_neg (by simp [h2])]
  have HCM : Hid (∀ j, j ≤ L.length → fcntTo L j ≤ fcnt L) := fun j hj => fcntTo_le L hj
  have HCE : Hid (fcntTo L L.length = fcnt L) := rfl
  obtain ⟨N, hN⟩ : ∃ N, L.length = N := ⟨_, rfl⟩
  have HN := Lib.hid hN
  rw [hN] at HV HM0 HM1 HCM HCE hle HST ⊢
  generalize mayF L = RES at *
  generalize flTo L N = T at *
  clear hv hs hN
  refine (callsIn_wide (n := 5)).1 ?_
  refine callsIn_of_wp_marks Try.func19 rfl trivial ?_ rfl
  simp only [Try.ntmps19, List.size_toArray, List.length_cons, List.length_nil, Nat.reduceAdd, Nat.reduceSub, Array.replicate_succ, Array.replicate_zero, List.push_toArray, List.append_toArray, List.nil_append, List.cons_append]
  gi_wp2
  gi_loopw [3, 5, 9] (fun n _ i wr => ∃ j : Nat, j ≤ N ∧ i = .int .i64 j ∧ n = .int .i64 (fcntTo L j : Nat) ∧ fcntTo L j ≤ 65536 ∧ wr = w.alloc (.cells #[.int .i64 0] 28)) (fun _ _ i _ => N - (intOf i).toNat)
  case atStart => exact ⟨0, Nat.zero_le _, rfl, rfl, by simp [fcntTo], rfl⟩
  case round =>
    obtain ⟨j, hj, rfl, rfl, hc, rfl⟩ := hrel
    by_cases hlt : j < N
    · have hjo : j < L.length := by rw [HN.out]; exact hlt
      obtain ⟨g1, o1, cc, pe, ce, e1, _, _, h1w, hp⟩ := (HV.out.kp0 ((Kp.refl _ _).alloc (.cells #[.int .i64 0] 28))).row hjo
      rw [HN.out] at e1
      cases e1
      have hb := HS.out j hjo
      have HC1 : Hid (fcntTo L (j + 1) = fcntTo L j + (L.getD j []).length) := rfl
      have HC2 := Lib.hid (HCM.out (j + 1) (by omega))
      obtain ⟨K, hK⟩ : ∃ K, (L.getD j []).length = K := ⟨_, rfl⟩
      rw [hK] at h1w hb HC1
      generalize fcntTo L j = C at *
      clear hp hK
      by_cases hg : 65536 < C + K
      · have hd : decide (65536 < C + K) = true := decide_eq_true hg
        have hgc : 65536 < fcnt L := by have := HC1.out; have := HC2.out; omega
        have HR := Lib.hid (HML.out hgc)
        gi_wp2
        refine ⟨.int .i64 3, by simp [results, Try.f19, go_sem], by rw [HR.out], by (repeat (first | exact Kp.refl _ _ | assumption | refine Kp.drew ?_ | refine Kp.drewN ?_ _ | refine Kp.alloc ?_ _ | (refine Kp.setCell ?_ (by first | (left; simp; done) | (right; simp; try omega)) _) | (refine Kp.trans' ?_ (by assumption) (by simp; try omega))))⟩
      · have hd : decide (65536 < C + K) = false := decide_eq_false hg
        gi_wp2
        go_roundw
        case rel => first | exact ⟨j + 1, by omega, by simp, by rw [HC1.out]; simp, by have := HC1.out; omega, rfl⟩ | exact ⟨j + 1, by omega, by simp, by rw [HC1.out]; simp, by have := HC1.out; omega, trivial⟩ | ((repeat apply Exists.intro); exact ⟨⟨j + 1, by omega, by simp, by rw [HC1.out]; simp, by have := HC1.out; omega, trivial⟩, rfl⟩)
        case measure => simp [intOf]; omega
    · obtain rfl : j = N := by omega
      have hcf : ¬ 65536 < fcnt L := by rw [← HCE.out]; omega
      have HR0 := Lib.hid (HM0.out hcf)
      have HR1 := Lib.hid (HM1.out hcf)
      clear HM0 HM1 HML HCM HCE HS
      gi_wp2_with (refine ⟨trivial, ?_⟩; gi_at_call 44; refine (callsIn_wide.2 (all_calls _ _ _ _ _ rfl)).mono ?_; rintro e w1 ⟨rfl, hw1⟩; have HW1 := Lib.hid hw1; clear hw1)
      have hw1 := HW1.out
      have b0 := Boxed.new w 28 (.int .i64 0)
      have b1 := Boxed.new (w.alloc (.cells #[.int .i64 0] 28)) 39 (.slice pa j ca)
      simp only [World.size_alloc] at b1
      have hk1 : Kp [] (w.alloc (.cells #[.int .i64 0] 28)) w1 := by rw [hw1]; exact (Kp.refl _ _).alloc _
      have hsz1 : w1.heap.size = w.heap.size + 1 + 1 := by rw [hw1]; simp
      have HM0 : Hid (MfSt w w1 w.heap.size (.slice pa j ca) 0) := by
        show MfSt _ _ _ _ _
        refine ⟨rfl, Boxed.kp b0 hk1, by rw [hw1]; exact b1, Kp.trans (by (repeat (first | exact Kp.refl _ _ | assumption | refine Kp.drew ?_ | refine Kp.drewN ?_ _ | refine Kp.alloc ?_ _ | (refine Kp.setCell ?_ (by first | (left; simp; done) | (right; simp; try omega)) _) | (refine Kp.trans' ?_ (by assumption) (by simp; try omega))))) hk1⟩
      have HV1 := Lib.hid (HV.out.kp0 HM0.out.2.2.2)
      have HST1 := Lib.hid (HST.out w1 HV1.out (HM0.out.2.2.1.cell) hsz1.symm)
      have HQ := Lib.hid fmaydot_calls
      clear hw1 HW1 b0 b1 hk1 HST HV HV1
      generalize hA : w.heap.size = A at *
      have HA := Lib.hid hA
      refine wpIn_rangeFunc_ownH rfl (by decide) (gf := 65) (lb := #[.pointer (some ⟨A + 1, 0, none⟩)]) rfl trivial (enters_of Try.func65 (by kernel_rfl) rfl)
        HST1.out belowK_t (belowK_b (by omega)) (Below.refl _ _) (fun _ => rfl)
        (fun pre W => pre.all dotQ = true ∧ MfSt w W A (.slice pa j ca) 0) (fun c pre W => (c = .ret ∧ pre.all dotQ = false) ∧ MfSt w W A (.slice pa j ca) 10) (MfSt.own (by omega) _) (fun c => MfSt.own (by omega) _) ⟨rfl, HM0.out⟩
        (fun x a' W => ∃ Bx, w1.heap.size ≤ Bx ∧ DotAt W Bx x ∧ a' = { tmps := #[.slice pa j ca, undef, .pointer (some ⟨A, 0, none⟩), .int .i64 (fcntTo L j : Nat), undef, u5, .pointer (some ⟨Bx, 0, none⟩), .slice pa j ca, .int .i64 j, .int .i64 j, .bool false, u11, u12, u13, u14, u15, u16, u17, u18, u19, .slice pa j ca, .func (.func 65) #[] #[.pointer (some ⟨A + 1, 0, none⟩)], .agg #[.int .i64 x.1, .int .i64 x.2], undef, undef, undef], defers := [] })
        (fun x a' s W W' row hs hg hr => by obtain ⟨Bx, h1, h2, h3⟩ := hs; exact ⟨Bx, h1, blkKept hg hr h2, h3⟩) ?assign ?body ?done ?stop
      case assign =>
        intro l pre x W K hi hK
        have HI := Lib.hid hi
        have hszW : w1.heap.size ≤ W.heap.size := by have := hi.2.2.2.1; have := lt_of_block this; omega
        clear hi
        simp only [dotV]
        gi_wp2
        exact hK _ _ ((KeepsOthers.alloc _ _).from _) ((Below.refl _ W).alloc (by omega) _) ⟨HI.out.1, HI.out.2.kp ((Kp.refl _ _).alloc _)⟩ ⟨W.heap.size, hszW, heap_alloc_new W _, rfl⟩
      case body =>
        rintro l pre x a' W hl ⟨rr, hr⟩ hI ⟨Bx, hBx, hD, rfl⟩ hlt
        obtain ⟨x1, x2⟩ := x
        have HI := Lib.hid hI
        obtain ⟨c0, c1, _, _⟩ := DtAt.cells (show DtAt W Bx x1 x2 from hD)
        have HW := Lib.hid hI.2
        cases hq : dotQ (x1, x2) with
        | true =>
          have hq2 := HQ.out x1 x2
          rw [hq] at hq2
          have HQ2 := Lib.hid hq2
          clear hq2
          gi_wp2_with (refine ⟨trivial, ?_⟩; gi_at_call 31; refine (callsIn_wide.2 (HQ2.out _)).mono ?_; rintro e w3 ⟨rfl, hk3⟩)
          exact ⟨hk3.keeps.from _, hk3.bel0.mono (by have := lt_of_block HW.out.2.2.1; omega), by rw [List.all_append, HI.out.1]; simp [hq], HW.out.kp hk3⟩
        | false =>
          have hq2 := HQ.out x1 x2
          rw [hq] at hq2
          have HQ2 := Lib.hid hq2
          clear hq2
          gi_wp2_with (refine ⟨trivial, ?_⟩; gi_at_call 31; refine (callsIn_wide.2 (HQ2.out _)).mono ?_; rintro e w3 ⟨rfl, hk3⟩; have HK3 := Lib.hid hk3; have ga := (Boxed.kp HW.out.2.1 hk3).cell; have gf := (Boxed.kp HW.out.2.1 hk3).frozen; clear hk3)
          have h3 := HW.out.kp HK3.out
          refine ⟨(HK3.out.keeps.trans (KeepsOthers.setCell _ _ _)).from _, ⟨rfl, by rw [List.all_append]; simp [hq]⟩, h3.1, heap_setCell_same w3 A 0 _ _ _ h3.2.1, ?_, h3.2.2.2.setCell (.inr (by show _ ≤ A; omega)) _⟩
          exact Boxed.other h3.2.2.1 (by omega) _
      case done =>
        rintro D ys W hD rfl hI hK
        have hc := hI.2.2.1.cell
        have hf := hI.2.2.1.frozen
        have HI := Lib.hid hI
        have hK' := (KeepsOthers.setCell W ⟨A, 0, none⟩ (.int .i64 0)).same D _ hK rfl
        have HR := Lib.hid (HR0.out hI.1)
        clear hI hK
        gi_wp2
        refine ⟨by simp, .inl ⟨_, _, rfl, run_takeDeferred hK', ?_⟩⟩
        have hc5 := cell_kept (World.cell?_setCell_same' W ⟨A, 0, none⟩ (.int .i64 0) (by rw [hc]; rfl)) (grownBy_putObj' _ D (.deferred none)) (fun r e => by cases e; exact ⟨_, hK', rfl⟩)
        refine ⟨.int .i64 0, ?_, by rw [HR.out], HI.out.2.2.2.2.ended (by have := HA.out; omega) (by omega)⟩
        simp [results, Try.f19, go_sem, hc5]
      case stop =>
        rintro D c pre W hD hpre ⟨⟨rfl, hf⟩, hI⟩ hK
        have hc := hI.2.1.cell
        have HI := Lib.hid hI
        have HR : Hid (RES = 10) := HR1.out (by
          obtain ⟨t, ht⟩ := hpre
          rw [← ht, List.all_append, hf]; rfl)
        have hc5 := cell_kept hc (grownBy_putObj' _ D (.deferred none)) (fun r e => by cases e; exact ⟨_, hK, rfl⟩)
        clear hI
        gi_wp2
        refine ⟨by simp, .inl ⟨_, _, rfl, run_takeDeferred hK, ?_⟩⟩
        refine ⟨.int .i64 10, ?_, by rw [HR.out], HI.out.2.2.2.ended0 (by have := HA.out; omega)⟩
        simp [results, Try.f19, go_sem, hc5]
end Go.Proofs.Ytpbmefojhgcniaa

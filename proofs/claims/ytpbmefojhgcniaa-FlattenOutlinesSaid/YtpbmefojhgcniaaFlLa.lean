/- flatten: the laws FlattenDots and FlattenBoxes. (Written by wip/flatten/genflla.py.) -/
import Derived.Test.YtpbmefojhgcniaaFlLv
import Derived.Deep.RegionHeld
import Derived.Deep.RegionHeld3
namespace Go.Proofs.Ytpbmefojhgcniaa
open Go.RowKit
set_option linter.unusedVariables false
set_option linter.unusedSimpArgs false
set_option maxRecDepth 100000 in
set_option maxHeartbeats 8000000 in
theorem dots_no (s : Sc) (p : Pn) (u : Int) (w : World) (hs : mayS s = false) :
    Calls Try.prog 3 #[scV s, pnV p, .int .i64 u] w fun e w' => e = .returned (.bool true) ∧ Kp [] w w' := by
  have HD := Lib.hid (fun W => fdot_calls s p W)
  have HA := Lib.hid (fun W => fadv_calls s u W)
  have HM := Lib.hid (fun W => rmayscale_calls s W)
  have HL := Lib.hid (fun W => lives21_calls W)
  rw [hs] at HM
  rw [show pnV p = .agg #[.int .i64 p.x, .int .i64 p.y, .int .i64 p.k] from rfl] at *
  rw [show dotS s p = ((0, 0), 210) from by unfold dotS; rw [hs]; rfl] at HD
  rw [show advS s u = (0, 210) from by unfold advS; rw [hs]; rfl] at HA
  rw [show dotV (0, 0) = .agg #[.int .i64 0, .int .i64 0] from rfl] at HD
  clear hs
  unfold scV at *
  go_enter Try.func3, Try.ntmps3
  go_wp2_with fail
  obtain ⟨q1, q2⟩ := two_heap (w := w) (A := .cells #[.int .i64 s.u, .int .i64 s.p, .int .i64 s.fx, .int .i64 s.fy] 23) (B := .cells #[.int .i64 p.x, .int .i64 p.y, .int .i64 p.k] 25) rfl
  have hk : Kp [] w ((w.alloc (.cells #[.int .i64 s.u, .int .i64 s.p, .int .i64 s.fx, .int .i64 s.fy] 23)).alloc (.cells #[.int .i64 p.x, .int .i64 p.y, .int .i64 p.k] 25)) := by (repeat (first | exact Kp.refl _ _ | assumption | refine Kp.drew ?_ | refine Kp.drewN ?_ _ | refine Kp.alloc ?_ _ | (refine Kp.setCell ?_ (by first | (left; simp; done) | (right; simp; try omega)) _) | (refine Kp.trans' ?_ (by assumption) (by simp; try omega))))
  generalize ((w.alloc (.cells #[.int .i64 s.u, .int .i64 s.p, .int .i64 s.fx, .int .i64 s.fy] 23)).alloc (.cells #[.int .i64 p.x, .int .i64 p.y, .int .i64 p.k] 25)) = W0 at *
  have HS : Hid (ScAt W0 w.heap.size s) := q1
  have HP : Hid (PnAt W0 (w.heap.size + 1) p) := q2
  have HK := Lib.hid hk
  clear hk q1 q2
  refine (HD.out _).mono ?_; rintro e w1 ⟨rfl, hk1⟩
  replace HS : Hid (ScAt w1 w.heap.size s) := HS.out.kp0 hk1
  replace HP : Hid (PnAt w1 (w.heap.size + 1) p) := HP.out.kp0 hk1
  replace HK : Hid (Kp [] w w1) := HK.out.trans hk1
  clear hk1
  go_upto_region 2 with fail
  refine wp_gen ?_; intro W1 hW1
  obtain ⟨D1, hD1⟩ : ∃ B, w1.heap.size = B := ⟨_, rfl⟩
  have hka : Kp [] w1 W1 := by rw [hW1]; exact (Kp.refl _ _).alloc _
  have HD1 : Hid (DtAt W1 D1 0 0) := by show DtAt _ _ _ _; rw [hW1, ← hD1]; exact heap_alloc_new _ _
  rw [hD1]
  replace HS : Hid (ScAt W1 w.heap.size s) := HS.out.kp0 hka
  replace HP : Hid (PnAt W1 (w.heap.size + 1) p) := HP.out.kp0 hka
  replace HK : Hid (Kp [] w W1) := HK.out.trans hka
  clear hka hW1 hD1
  obtain ⟨s0, s1, s2, s3⟩ := HS.out.cells
  go_wp2_with fail
  refine (HA.out _).mono ?_; rintro e w2 ⟨rfl, hk2⟩
  clear s0 s1 s2 s3
  replace HS : Hid (ScAt w2 w.heap.size s) := HS.out.kp0 hk2
  replace HP : Hid (PnAt w2 (w.heap.size + 1) p) := HP.out.kp0 hk2
  replace HK : Hid (Kp [] w w2) := HK.out.trans hk2
  replace HD1 : Hid (DtAt w2 D1 _ _) := HD1.out.kp0 hk2
  clear hk2
  go_wp2_with fail
  refine (HL.out _).mono ?_; rintro e w3 ⟨rfl, hk3⟩
  replace HS : Hid (ScAt w3 w.heap.size s) := HS.out.kp0 hk3
  replace HP : Hid (PnAt w3 (w.heap.size + 1) p) := HP.out.kp0 hk3
  replace HK : Hid (Kp [] w w3) := HK.out.trans hk3
  replace HD1 : Hid (DtAt w3 D1 _ _) := HD1.out.kp0 hk3
  clear hk3
  obtain ⟨s0, s1, s2, s3⟩ := HS.out.cells
  go_wp2_with fail
  refine (HM.out _).mono ?_; rintro e w4 ⟨rfl, hk4⟩
  clear s0 s1 s2 s3
  replace HS : Hid (ScAt w4 w.heap.size s) := HS.out.kp0 hk4
  replace HP : Hid (PnAt w4 (w.heap.size + 1) p) := HP.out.kp0 hk4
  replace HK : Hid (Kp [] w w4) := HK.out.trans hk4
  replace HD1 : Hid (DtAt w4 D1 _ _) := HD1.out.kp0 hk4
  clear hk4
  obtain ⟨d0, d1, _, _⟩ := HD1.out.cells
  go_wp2_with fail
  go_ret
  exact ⟨rfl, HK.out⟩
set_option maxRecDepth 100000 in
set_option maxHeartbeats 8000000 in
theorem dots_far (s : Sc) (p : Pn) (u : Int) (w : World) (hs : mayS s = true) (hu : u < -65536 ∨ 65536 < u) :
    Calls Try.prog 3 #[scV s, pnV p, .int .i64 u] w fun e w' => e = .returned (.bool true) ∧ Kp [] w w' := by
  have HD := Lib.hid (fun W => fdot_calls s p W)
  have HA := Lib.hid (fun W => fadv_calls s u W)
  have HM := Lib.hid (fun W => rmayscale_calls s W)
  have HL := Lib.hid (fun W => lives21_calls W)
  rw [hs] at HM
  rw [show pnV p = .agg #[.int .i64 p.x, .int .i64 p.y, .int .i64 p.k] from rfl] at *
  rw [show advS s u = (0, 10) from by unfold advS; rw [if_pos hs, if_pos hu]] at HA
  have HR := Lib.hid (fun W => rfdot_calls s p hs W)
  rw [show pnV p = .agg #[.int .i64 p.x, .int .i64 p.y, .int .i64 p.k] from rfl] at HR
  rw [show dotS s p = dotP s p from by unfold dotS; rw [if_pos hs]] at HD
  obtain ⟨⟨⟨X, Y⟩, E⟩, hX⟩ : ∃ q, dotP s p = q := ⟨_, rfl⟩
  rw [hX] at HD HR
  dsimp only [dotV] at HD HR
  clear hX hs
  unfold scV at *
  go_enter Try.func3, Try.ntmps3
  go_wp2_with fail
  obtain ⟨q1, q2⟩ := two_heap (w := w) (A := .cells #[.int .i64 s.u, .int .i64 s.p, .int .i64 s.fx, .int .i64 s.fy] 23) (B := .cells #[.int .i64 p.x, .int .i64 p.y, .int .i64 p.k] 25) rfl
  have hk : Kp [] w ((w.alloc (.cells #[.int .i64 s.u, .int .i64 s.p, .int .i64 s.fx, .int .i64 s.fy] 23)).alloc (.cells #[.int .i64 p.x, .int .i64 p.y, .int .i64 p.k] 25)) := by (repeat (first | exact Kp.refl _ _ | assumption | refine Kp.drew ?_ | refine Kp.drewN ?_ _ | refine Kp.alloc ?_ _ | (refine Kp.setCell ?_ (by first | (left; simp; done) | (right; simp; try omega)) _) | (refine Kp.trans' ?_ (by assumption) (by simp; try omega))))
  generalize ((w.alloc (.cells #[.int .i64 s.u, .int .i64 s.p, .int .i64 s.fx, .int .i64 s.fy] 23)).alloc (.cells #[.int .i64 p.x, .int .i64 p.y, .int .i64 p.k] 25)) = W0 at *
  have HS : Hid (ScAt W0 w.heap.size s) := q1
  have HP : Hid (PnAt W0 (w.heap.size + 1) p) := q2
  have HK := Lib.hid hk
  clear hk q1 q2
  refine (HD.out _).mono ?_; rintro e w1 ⟨rfl, hk1⟩
  replace HS : Hid (ScAt w1 w.heap.size s) := HS.out.kp0 hk1
  replace HP : Hid (PnAt w1 (w.heap.size + 1) p) := HP.out.kp0 hk1
  replace HK : Hid (Kp [] w w1) := HK.out.trans hk1
  clear hk1
  go_upto_region 2 with fail
  refine wp_gen ?_; intro W1 hW1
  obtain ⟨D1, hD1⟩ : ∃ B, w1.heap.size = B := ⟨_, rfl⟩
  have hka : Kp [] w1 W1 := by rw [hW1]; exact (Kp.refl _ _).alloc _
  have HD1 : Hid (DtAt W1 D1 X Y) := by show DtAt _ _ _ _; rw [hW1, ← hD1]; exact heap_alloc_new _ _
  rw [hD1]
  replace HS : Hid (ScAt W1 w.heap.size s) := HS.out.kp0 hka
  replace HP : Hid (PnAt W1 (w.heap.size + 1) p) := HP.out.kp0 hka
  replace HK : Hid (Kp [] w W1) := HK.out.trans hka
  clear hka hW1 hD1
  obtain ⟨s0, s1, s2, s3⟩ := HS.out.cells
  go_wp2_with fail
  refine (HA.out _).mono ?_; rintro e w2 ⟨rfl, hk2⟩
  clear s0 s1 s2 s3
  replace HS : Hid (ScAt w2 w.heap.size s) := HS.out.kp0 hk2
  replace HP : Hid (PnAt w2 (w.heap.size + 1) p) := HP.out.kp0 hk2
  replace HK : Hid (Kp [] w w2) := HK.out.trans hk2
  replace HD1 : Hid (DtAt w2 D1 _ _) := HD1.out.kp0 hk2
  clear hk2
  go_wp2_with fail
  refine (HL.out _).mono ?_; rintro e w3 ⟨rfl, hk3⟩
  replace HS : Hid (ScAt w3 w.heap.size s) := HS.out.kp0 hk3
  replace HP : Hid (PnAt w3 (w.heap.size + 1) p) := HP.out.kp0 hk3
  replace HK : Hid (Kp [] w w3) := HK.out.trans hk3
  replace HD1 : Hid (DtAt w3 D1 _ _) := HD1.out.kp0 hk3
  clear hk3
  obtain ⟨s0, s1, s2, s3⟩ := HS.out.cells
  go_wp2_with fail
  refine (HM.out _).mono ?_; rintro e w4 ⟨rfl, hk4⟩
  clear s0 s1 s2 s3
  replace HS : Hid (ScAt w4 w.heap.size s) := HS.out.kp0 hk4
  replace HP : Hid (PnAt w4 (w.heap.size + 1) p) := HP.out.kp0 hk4
  replace HK : Hid (Kp [] w w4) := HK.out.trans hk4
  replace HD1 : Hid (DtAt w4 D1 _ _) := HD1.out.kp0 hk4
  clear hk4
  obtain ⟨s0, s1, s2, s3⟩ := HS.out.cells
  obtain ⟨p0, p1, p2⟩ := HP.out.cells
  go_wp2_with fail
  refine (HR.out _).mono ?_; rintro e w5 ⟨rfl, hk5⟩
  clear s0 s1 s2 s3 p0 p1 p2
  replace HS : Hid (ScAt w5 w.heap.size s) := HS.out.kp0 hk5
  replace HP : Hid (PnAt w5 (w.heap.size + 1) p) := HP.out.kp0 hk5
  replace HK : Hid (Kp [] w w5) := HK.out.trans hk5
  replace HD1 : Hid (DtAt w5 D1 _ _) := HD1.out.kp0 hk5
  clear hk5
  go_upto_region 8 with fail
  refine wp_gen ?_; intro W5 hW5
  obtain ⟨D2, hD2⟩ : ∃ B, w5.heap.size = B := ⟨_, rfl⟩
  have hka : Kp [] w5 W5 := by rw [hW5]; exact (Kp.refl _ _).alloc _
  have HD2 : Hid (DtAt W5 D2 X Y) := by show DtAt _ _ _ _; rw [hW5, ← hD2]; exact heap_alloc_new _ _
  rw [hD2]
  replace HS : Hid (ScAt W5 w.heap.size s) := HS.out.kp0 hka
  replace HP : Hid (PnAt W5 (w.heap.size + 1) p) := HP.out.kp0 hka
  replace HK : Hid (Kp [] w W5) := HK.out.trans hka
  replace HD1 : Hid (DtAt W5 D1 _ _) := HD1.out.kp0 hka
  clear hka hW5 hD2
  obtain ⟨d0, d1, _, _⟩ := HD1.out.cells
  obtain ⟨f0, f1, _, _⟩ := HD2.out.cells
  rcases hu with hu | hu
  · have d1 : decide (u < -65536) = true := decide_eq_true hu
    go_wp2_with fail
    go_ret
    exact ⟨rfl, HK.out⟩
  · have d1 : decide (u < -65536) = false := decide_eq_false (by omega)
    have d2 : decide (65536 < u) = true := decide_eq_true hu
    go_wp2_with fail
    go_ret
    exact ⟨rfl, HK.out⟩
set_option maxRecDepth 100000 in
set_option maxHeartbeats 8000000 in
theorem dots_ok (s : Sc) (p : Pn) (u : Int) (w : World) (hs : mayS s = true) (hu : -65536 ≤ u ∧ u ≤ 65536) :
    Calls Try.prog 3 #[scV s, pnV p, .int .i64 u] w fun e w' => e = .returned (.bool true) ∧ Kp [] w w' := by
  have HD := Lib.hid (fun W => fdot_calls s p W)
  have HA := Lib.hid (fun W => fadv_calls s u W)
  have HM := Lib.hid (fun W => rmayscale_calls s W)
  have HL := Lib.hid (fun W => lives21_calls W)
  rw [hs] at HM
  rw [show pnV p = .agg #[.int .i64 p.x, .int .i64 p.y, .int .i64 p.k] from rfl] at *
  rw [show advS s u = (nearQ (u * s.p * 64) s.u, 0) from by unfold advS; rw [if_pos hs, if_neg (by omega)]] at HA
  obtain ⟨⟨a1, a2⟩, ⟨b1, b2⟩, _⟩ := mayS_facts hs
  have hmm := mul_small u s.p (by omega) ⟨b1, b2⟩
  have e1 : IntKind.i64.wrap (u * s.p) = u * s.p := wrI _ (by omega) (by omega)
  have e2 : IntKind.i64.wrap (u * s.p * 64) = u * s.p * 64 := wrI _ (by omega) (by omega)
  have HN := Lib.hid (fun W => rnearS_calls (u * s.p * 64) s.u (by omega) (by omega) (by omega) (by omega) W)
  generalize nearQ (u * s.p * 64) s.u = NQ at *
  have HE1 := Lib.hid e1
  have HE2 := Lib.hid e2
  have d1 : decide (u < -65536) = false := decide_eq_false (by omega)
  have d2 : decide (65536 < u) = false := decide_eq_false (by omega)
  clear a1 a2 b1 b2 hmm hu e1 e2
  have HR := Lib.hid (fun W => rfdot_calls s p hs W)
  rw [show pnV p = .agg #[.int .i64 p.x, .int .i64 p.y, .int .i64 p.k] from rfl] at HR
  rw [show dotS s p = dotP s p from by unfold dotS; rw [if_pos hs]] at HD
  obtain ⟨⟨⟨X, Y⟩, E⟩, hX⟩ : ∃ q, dotP s p = q := ⟨_, rfl⟩
  rw [hX] at HD HR
  dsimp only [dotV] at HD HR
  clear hX hs
  unfold scV at *
  go_enter Try.func3, Try.ntmps3
  go_wp2_with fail
  obtain ⟨q1, q2⟩ := two_heap (w := w) (A := .cells #[.int .i64 s.u, .int .i64 s.p, .int .i64 s.fx, .int .i64 s.fy] 23) (B := .cells #[.int .i64 p.x, .int .i64 p.y, .int .i64 p.k] 25) rfl
  have hk : Kp [] w ((w.alloc (.cells #[.int .i64 s.u, .int .i64 s.p, .int .i64 s.fx, .int .i64 s.fy] 23)).alloc (.cells #[.int .i64 p.x, .int .i64 p.y, .int .i64 p.k] 25)) := by (repeat (first | exact Kp.refl _ _ | assumption | refine Kp.drew ?_ | refine Kp.drewN ?_ _ | refine Kp.alloc ?_ _ | (refine Kp.setCell ?_ (by first | (left; simp; done) | (right; simp; try omega)) _) | (refine Kp.trans' ?_ (by assumption) (by simp; try omega))))
  generalize ((w.alloc (.cells #[.int .i64 s.u, .int .i64 s.p, .int .i64 s.fx, .int .i64 s.fy] 23)).alloc (.cells #[.int .i64 p.x, .int .i64 p.y, .int .i64 p.k] 25)) = W0 at *
  have HS : Hid (ScAt W0 w.heap.size s) := q1
  have HP : Hid (PnAt W0 (w.heap.size + 1) p) := q2
  have HK := Lib.hid hk
  clear hk q1 q2
  refine (HD.out _).mono ?_; rintro e w1 ⟨rfl, hk1⟩
  replace HS : Hid (ScAt w1 w.heap.size s) := HS.out.kp0 hk1
  replace HP : Hid (PnAt w1 (w.heap.size + 1) p) := HP.out.kp0 hk1
  replace HK : Hid (Kp [] w w1) := HK.out.trans hk1
  clear hk1
  go_upto_region 2 with fail
  refine wp_gen ?_; intro W1 hW1
  obtain ⟨D1, hD1⟩ : ∃ B, w1.heap.size = B := ⟨_, rfl⟩
  have hka : Kp [] w1 W1 := by rw [hW1]; exact (Kp.refl _ _).alloc _
  have HD1 : Hid (DtAt W1 D1 X Y) := by show DtAt _ _ _ _; rw [hW1, ← hD1]; exact heap_alloc_new _ _
  rw [hD1]
  replace HS : Hid (ScAt W1 w.heap.size s) := HS.out.kp0 hka
  replace HP : Hid (PnAt W1 (w.heap.size + 1) p) := HP.out.kp0 hka
  replace HK : Hid (Kp [] w W1) := HK.out.trans hka
  clear hka hW1 hD1
  obtain ⟨s0, s1, s2, s3⟩ := HS.out.cells
  go_wp2_with fail
  refine (HA.out _).mono ?_; rintro e w2 ⟨rfl, hk2⟩
  clear s0 s1 s2 s3
  replace HS : Hid (ScAt w2 w.heap.size s) := HS.out.kp0 hk2
  replace HP : Hid (PnAt w2 (w.heap.size + 1) p) := HP.out.kp0 hk2
  replace HK : Hid (Kp [] w w2) := HK.out.trans hk2
  replace HD1 : Hid (DtAt w2 D1 _ _) := HD1.out.kp0 hk2
  clear hk2
  go_wp2_with fail
  refine (HL.out _).mono ?_; rintro e w3 ⟨rfl, hk3⟩
  replace HS : Hid (ScAt w3 w.heap.size s) := HS.out.kp0 hk3
  replace HP : Hid (PnAt w3 (w.heap.size + 1) p) := HP.out.kp0 hk3
  replace HK : Hid (Kp [] w w3) := HK.out.trans hk3
  replace HD1 : Hid (DtAt w3 D1 _ _) := HD1.out.kp0 hk3
  clear hk3
  obtain ⟨s0, s1, s2, s3⟩ := HS.out.cells
  go_wp2_with fail
  refine (HM.out _).mono ?_; rintro e w4 ⟨rfl, hk4⟩
  clear s0 s1 s2 s3
  replace HS : Hid (ScAt w4 w.heap.size s) := HS.out.kp0 hk4
  replace HP : Hid (PnAt w4 (w.heap.size + 1) p) := HP.out.kp0 hk4
  replace HK : Hid (Kp [] w w4) := HK.out.trans hk4
  replace HD1 : Hid (DtAt w4 D1 _ _) := HD1.out.kp0 hk4
  clear hk4
  obtain ⟨s0, s1, s2, s3⟩ := HS.out.cells
  obtain ⟨p0, p1, p2⟩ := HP.out.cells
  go_wp2_with fail
  refine (HR.out _).mono ?_; rintro e w5 ⟨rfl, hk5⟩
  clear s0 s1 s2 s3 p0 p1 p2
  replace HS : Hid (ScAt w5 w.heap.size s) := HS.out.kp0 hk5
  replace HP : Hid (PnAt w5 (w.heap.size + 1) p) := HP.out.kp0 hk5
  replace HK : Hid (Kp [] w w5) := HK.out.trans hk5
  replace HD1 : Hid (DtAt w5 D1 _ _) := HD1.out.kp0 hk5
  clear hk5
  go_upto_region 8 with fail
  refine wp_gen ?_; intro W5 hW5
  obtain ⟨D2, hD2⟩ : ∃ B, w5.heap.size = B := ⟨_, rfl⟩
  have hka : Kp [] w5 W5 := by rw [hW5]; exact (Kp.refl _ _).alloc _
  have HD2 : Hid (DtAt W5 D2 X Y) := by show DtAt _ _ _ _; rw [hW5, ← hD2]; exact heap_alloc_new _ _
  rw [hD2]
  replace HS : Hid (ScAt W5 w.heap.size s) := HS.out.kp0 hka
  replace HP : Hid (PnAt W5 (w.heap.size + 1) p) := HP.out.kp0 hka
  replace HK : Hid (Kp [] w W5) := HK.out.trans hka
  replace HD1 : Hid (DtAt W5 D1 _ _) := HD1.out.kp0 hka
  clear hka hW5 hD2
  obtain ⟨d0, d1, _, _⟩ := HD1.out.cells
  obtain ⟨f0, f1, _, _⟩ := HD2.out.cells
  go_upto_region 12 with fail
  clear d0 d1 f0 f1
  obtain ⟨s0, s1, s2, s3⟩ := HS.out.cells
  have e1 := HE1.out
  have e2 := HE2.out
  go_wp2_with fail
  refine (HN.out _).mono ?_; rintro e w6 ⟨rfl, hk6⟩
  go_wp2_with fail
  go_ret
  exact ⟨rfl, HK.out.trans hk6⟩
theorem law_FlattenDots (s : Sc) (p : Pn) (u : Int) (w : World) : Calls Try.prog 3 #[scV s, pnV p, .int .i64 u] w fun e w' => e = .returned (.bool true) ∧ Kp [] w w' := by
  cases hs : mayS s with
  | false => exact dots_no s p u w hs
  | true =>
    by_cases hu : u < -65536 ∨ 65536 < u
    · exact dots_far s p u w hs hu
    · exact dots_ok s p u w hs (by omega)
theorem notMany {L : List (List (Int × Int))} (h : ¬ 70000 < fcnt L) (h5 : ¬ 5000 < L.length) : L.length ≤ 5000 := by omega
set_option maxRecDepth 100000 in
set_option maxHeartbeats 8000000 in
theorem boxes_large (v : Value) (L : List (List (Int × Int))) (w : World) (hv : IsFl w v L) (hs : smF L) (hl : 5000 < L.length ∨ (L.length ≤ 5000 ∧ 70000 < fcnt L)) :
    Calls Try.prog 5 #[v] w fun e w' => e = .returned (.bool true) ∧ Kp [] w w' := by
  have HL := Lib.hid (fun W => lives21_calls W)
  have hle := hv.le
  unfold maxLen at hle
  rcases hl with hl | ⟨hl, hc⟩
  · have HC := Lib.hid (rfcount_any v L w hv)
    obtain ⟨pa, ca, rfl⟩ := hv.form
    have d5 : decide ((5000 : Int) < (L.length : Int)) = true := decide_eq_true (by omega)
    generalize L.length = N at *
    clear hv hs
    go_enter Try.func5, Try.ntmps5
    go_wp2_with fail
    refine HC.out.mono ?_; rintro e w1 ⟨⟨n, rfl⟩, hk1⟩
    cases hn : decide ((70000 : Int) < n)
    · go_wp2_with fail
      refine (HL.out _).mono ?_; rintro e w2 ⟨rfl, hk2⟩
      go_wp2_with fail
      go_ret
      exact ⟨rfl, hk1.trans hk2⟩
    · go_wp2_with fail
      refine (HL.out _).mono ?_; rintro e w2 ⟨rfl, hk2⟩
      go_wp2_with fail
      go_ret
      exact ⟨rfl, hk1.trans hk2⟩
  · have HC := Lib.hid (rfcount_few v L w hv hs hl)
    obtain ⟨pa, ca, rfl⟩ := hv.form
    have d5 : decide ((70000 : Int) < (fcnt L : Int)) = true := decide_eq_true (by omega)
    generalize L.length = N at *
    generalize fcnt L = F at *
    clear hv hs
    go_enter Try.func5, Try.ntmps5
    go_wp2_with fail
    refine HC.out.mono ?_; rintro e w1 ⟨rfl, hk1⟩
    go_wp2_with fail
    refine (HL.out _).mono ?_; rintro e w2 ⟨rfl, hk2⟩
    go_wp2_with fail
    go_ret
    exact ⟨rfl, hk1.trans hk2⟩
set_option maxRecDepth 100000 in
set_option maxHeartbeats 8000000 in
theorem boxes_no (v : Value) (L : List (List (Int × Int))) (w : World) (hv : IsFl w v L) (hs : smF L) (hl : L.length ≤ 5000) (hc : ¬ 70000 < fcnt L) (E : Int) (hm : mayF L = E) (hE : E ≠ 0) :
    Calls Try.prog 5 #[v] w fun e w' => e = .returned (.bool true) ∧ Kp [] w w' := by
  have HL := Lib.hid (fun W => lives21_calls W)
  have HV : Hid (∀ W, Kp [] w W → IsFl W v L) := fun W hW => hv.kp0 hW
  have HC := Lib.hid (rfcount_few v L w hv hs hl)
  have HB := Lib.hid (fun W hW => fbox_calls v L W (HV.out W hW) hs)
  have HA := Lib.hid (fun W hW => farea_calls v L W (HV.out W hW) hs)
  have HM := Lib.hid (fun W hW => rflmay_calls v L W (HV.out W hW) hs hl)
  have HF := Lib.hid (fun W hW => fmay_flat v L W (HV.out W hW) hs)
  have eb : boxF L = (⟨0, 0, 0, 0⟩, E) := by unfold boxF; rw [if_pos (by rw [hm]; exact hE), hm]
  have ea : areaF L = (0, E) := by unfold areaF; rw [if_pos (by rw [hm]; exact hE), hm]
  have hEb : (E != 0) = true := by simpa using hE
  rw [hm] at HM HF
  rw [eb] at HB
  rw [ea] at HA
  rw [show bxV ⟨0, 0, 0, 0⟩ = .agg #[.int .i64 0, .int .i64 0, .int .i64 0, .int .i64 0] from rfl] at *
  have d7 : decide ((70000 : Int) < (fcnt L : Int)) = false := decide_eq_false (by omega)
  have d5 : decide ((5000 : Int) < (L.length : Int)) = false := decide_eq_false (by omega)
  obtain ⟨pa, ca, rfl⟩ := hv.form
  generalize L.length = N at *
  generalize fcnt L = F at *
  clear hv hs hm hE
  go_enter Try.func5, Try.ntmps5
  go_wp2_with fail
  refine HC.out.mono ?_; rintro e w1 ⟨rfl, hk1⟩
  have HK1 := Lib.hid hk1
  clear hk1
  go_wp2_with fail
  refine (HB.out _ HK1.out).mono ?_; rintro e w2 ⟨rfl, hk2⟩
  have HK2 : Hid (Kp [] w w2) := HK1.out.trans hk2
  clear hk2
  go_upto_region 4 with fail
  refine wp_gen ?_; intro W2 hW2
  obtain ⟨D, hD⟩ : ∃ B, w2.heap.size = B := ⟨_, rfl⟩
  have HX : Hid (BxAt W2 D ⟨0, 0, 0, 0⟩) := by show BxAt _ _ _; rw [hW2, ← hD]; exact heap_alloc_new _ _
  have HKW : Hid (Kp [] w W2) := by show Kp _ _ _; rw [hW2]; exact HK2.out.alloc _
  rw [hD]
  clear hW2 hD
  go_wp2_with fail
  refine (HA.out _ HKW.out).mono ?_; rintro e w3 ⟨rfl, hk3⟩
  have HK3 : Hid (Kp [] W2 w3) := hk3
  clear hk3
  go_wp2_with fail
  refine (HM.out _ (HKW.out.trans HK3.out)).mono ?_; rintro e w4 ⟨rfl, hk4⟩
  have HK4 : Hid (Kp [] W2 w4) := HK3.out.trans hk4
  clear hk4
  go_wp2_with fail
  refine (HL.out _).mono ?_; rintro e w5 ⟨rfl, hk5⟩
  have HK5 : Hid (Kp [] W2 w5) := HK4.out.trans hk5
  clear hk5
  go_wp2_with fail
  refine (HF.out _ (HKW.out.trans HK5.out)).mono ?_; rintro e w6 ⟨rfl, hk6⟩
  have HK6 : Hid (Kp [] W2 w6) := HK5.out.trans hk6
  clear hk6
  obtain ⟨x0, x1, x2, x3⟩ := (HX.out.kp HK6.out (by simp)).cells
  go_wp2_with fail
  go_ret
  exact ⟨rfl, HKW.out.trans HK6.out⟩
set_option maxRecDepth 100000 in
set_option maxHeartbeats 8000000 in
theorem boxes_ok (v : Value) (L : List (List (Int × Int))) (w : World) (hv : IsFl w v L) (hs : smF L) (hl : L.length ≤ 5000) (hc : ¬ 70000 < fcnt L) (hm : mayF L = 0) :
    Calls Try.prog 5 #[v] w fun e w' => e = .returned (.bool true) ∧ Kp [] w w' := by
  have HL := Lib.hid (fun W => lives21_calls W)
  have HV : Hid (∀ W, Kp [] w W → IsFl W v L) := fun W hW => hv.kp0 hW
  have HC := Lib.hid (rfcount_few v L w hv hs hl)
  have HB := Lib.hid (fun W hW => fbox_calls v L W (HV.out W hW) hs)
  have HA := Lib.hid (fun W hW => farea_calls v L W (HV.out W hW) hs)
  have HM := Lib.hid (fun W hW => rflmay_calls v L W (HV.out W hW) hs hl)
  have HF := Lib.hid (fun W hW => fmay_flat v L W (HV.out W hW) hs)
  have HRB := Lib.hid (fun W hW => rfbox_calls v L W (HV.out W hW) hm)
  have HRA := Lib.hid (fun W hW => rfarea_calls v L W (HV.out W hW) hm)
  have eb : (boxF L).2 = 0 := by rw [box_is hm]
  have ea : areaF L = (areaTo L L.length, 0) := by unfold areaF; rw [if_neg (by simp [hm])]
  rw [hm] at HM HF
  rw [eb] at HB
  rw [ea] at HA
  obtain ⟨⟨b0, b1, b2, b3⟩, hb⟩ : ∃ q, (boxF L).1 = q := ⟨_, rfl⟩
  rw [hb] at HB HRB
  generalize areaTo L L.length = A at *
  rw [show bxV ⟨b0, b1, b2, b3⟩ = .agg #[.int .i64 b0, .int .i64 b1, .int .i64 b2, .int .i64 b3] from rfl] at *
  have d7 : decide ((70000 : Int) < (fcnt L : Int)) = false := decide_eq_false (by omega)
  have d5 : decide ((5000 : Int) < (L.length : Int)) = false := decide_eq_false (by omega)
  obtain ⟨pa, ca, rfl⟩ := hv.form
  generalize L.length = N at *
  generalize fcnt L = F at *
  clear hv hs hm eb ea hb
  go_enter Try.func5, Try.ntmps5
  go_wp2_with fail
  refine HC.out.mono ?_; rintro e w1 ⟨rfl, hk1⟩
  have HK1 := Lib.hid hk1
  clear hk1
  go_wp2_with fail
  refine (HB.out _ HK1.out).mono ?_; rintro e w2 ⟨rfl, hk2⟩
  have HK2 : Hid (Kp [] w w2) := HK1.out.trans hk2
  clear hk2
  go_upto_region 4 with fail
  refine wp_gen ?_; intro W2 hW2
  obtain ⟨D, hD⟩ : ∃ B, w2.heap.size = B := ⟨_, rfl⟩
  have HX : Hid (BxAt W2 D ⟨b0, b1, b2, b3⟩) := by show BxAt _ _ _; rw [hW2, ← hD]; exact heap_alloc_new _ _
  have HKW : Hid (Kp [] w W2) := by show Kp _ _ _; rw [hW2]; exact HK2.out.alloc _
  rw [hD]
  clear hW2 hD
  go_wp2_with fail
  refine (HA.out _ HKW.out).mono ?_; rintro e w3 ⟨rfl, hk3⟩
  have HK3 : Hid (Kp [] W2 w3) := hk3
  clear hk3
  go_wp2_with fail
  refine (HM.out _ (HKW.out.trans HK3.out)).mono ?_; rintro e w4 ⟨rfl, hk4⟩
  have HK4 : Hid (Kp [] W2 w4) := HK3.out.trans hk4
  clear hk4
  go_wp2_with fail
  refine (HL.out _).mono ?_; rintro e w5 ⟨rfl, hk5⟩
  have HK5 : Hid (Kp [] W2 w5) := HK4.out.trans hk5
  clear hk5
  go_wp2_with fail
  refine (HF.out _ (HKW.out.trans HK5.out)).mono ?_; rintro e w6 ⟨rfl, hk6⟩
  have HK6 : Hid (Kp [] W2 w6) := HK5.out.trans hk6
  clear hk6
  obtain ⟨x0, x1, x2, x3⟩ := (HX.out.kp HK6.out (by simp)).cells
  go_upto_region 10 with fail
  have hkw := HKW.out.trans HK6.out
  clear x0 x1 x2 x3
  have u0 := fun n : KW w6 => KW.cell (HX.out.kp HK6.out (by simp)).cells.1 n
  have u1 := fun n : KW w6 => KW.cell (HX.out.kp HK6.out (by simp)).cells.2.1 n
  have u2 := fun n : KW w6 => KW.cell (HX.out.kp HK6.out (by simp)).cells.2.2.1 n
  have u3 := fun n : KW w6 => KW.cell (HX.out.kp HK6.out (by simp)).cells.2.2.2 n
  refine wp_region_kq (by kernel_rfl) (by kernel_rfl) ?_
  repeat (go_big_quiet_step ((first | (go_at_call 24; with_reducible exact Calls.kq (HRB.out _ (hkw.trans (KW.h _)))) | (go_at_call 25; with_reducible exact Calls.kq (HRA.out _ (hkw.trans (KW.h _)))))))
  refine wpQuiet_nil ?_
  intro w7 hw'
  obtain ⟨⟨_, hkw7⟩, rfl⟩ := hw'
  go_wp2_with fail
  go_ret
  exact ⟨by simp, hkw.trans hkw7⟩
theorem law_FlattenBoxes (v : Value) (L : List (List (Int × Int))) (w : World) (hv : IsFl w v L) (hs : smF L) : Calls Try.prog 5 #[v] w fun e w' => e = .returned (.bool true) ∧ Kp [] w w' := by
  by_cases h5 : 5000 < L.length
  · exact boxes_large v L w hv hs (.inl h5)
  · by_cases h7 : 70000 < fcnt L
    · exact boxes_large v L w hv hs (.inr ⟨by omega, h7⟩)
    · by_cases hm : mayF L = 0
      · exact boxes_ok v L w hv hs (by omega) h7 hm
      · exact boxes_no v L w hv hs (by omega) h7 _ rfl hm
end Go.Proofs.Ytpbmefojhgcniaa

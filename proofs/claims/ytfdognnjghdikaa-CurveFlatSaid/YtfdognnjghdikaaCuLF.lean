/- The walk of CurveFlat. (Written by wip/curve/gencul.py.) -/
import Derived.Test.YtfdognnjghdikaaCuL
namespace Go.Proofs.Ytfdognnjghdikaa
open Go.RowKit
set_option linter.unusedVariables false
set_option linter.unusedSimpArgs false
theorem pieces_bounds (needs : Int) : 1 ≤ piecesQ needs ∧ piecesQ needs ≤ 256 := by
  have h : ∀ (f n : Nat), n ≤ 256 → n ≤ piecesFrom needs f n ∧ piecesFrom needs f n ≤ 256 := by
    intro f
    induction f with
    | zero => intro n hn; unfold piecesFrom; omega
    | succ f ih =>
      intro n hn
      unfold piecesFrom
      split
      · rename_i h
        have := ih (n + 1) (by omega)
        omega
      · omega
  exact h 256 1 (by decide)
theorem nearQ_bound (p c M : Int) (hc : 1 ≤ c) (hM : 0 ≤ M) (h1 : -M ≤ p) (h2 : p ≤ M) : -(M + 1) ≤ nearQ p c ∧ nearQ p c ≤ M + 1 := by
  have hm : M * 1 ≤ M * c := Int.mul_le_mul_of_nonneg_left hc hM
  rw [nearQ_pos _ _ (by omega)]
  constructor
  · refine Int.le_ediv_of_mul_le (by omega) ?_
    rw [show -(M + 1) * (2 * c) = -(2 * (M * c) + 2 * c) by grind]
    omega
  · refine Int.ediv_le_of_le_mul (by omega) ?_
    rw [show (M + 1) * (2 * c) = 2 * (M * c) + 2 * c by grind]
    omega
theorem at_bounds (q : Bw) (hm : mayW q = true) (i n : Int) (hn : 1 ≤ n) (hn2 : n ≤ 512) (hi : 0 ≤ i) (hin : i ≤ n) :
    (-2251799813685248 ≤ (atQ q i n).1 ∧ (atQ q i n).1 ≤ 2251799813685248) ∧ -2251799813685248 ≤ (atQ q i n).2 ∧ (atQ q i n).2 ≤ 2251799813685248 := by
  have hi2 : i ≤ 512 := by omega
  have f1 : 0 ≤ n - i := by omega
  have f2 : n - i ≤ 512 := by omega
  have g20 : 1 ≤ n * n := Int.mul_pos (show 0 < n by omega) (show 0 < n by omega)
  have g30 : 1 ≤ n * n * n := Int.mul_pos (Int.mul_pos (show 0 < n by omega) (show 0 < n by omega)) (show 0 < n by omega)
  obtain ⟨k, ⟨a1, a2⟩, ⟨b1, b2⟩, ⟨c1, c2⟩, ⟨d1, d2⟩⟩ := q
  rcases may_kind hm with h | h | h
  · rw [may_1 h] at hm
    simp only [Bool.and_eq_true, dotQ_iff] at hm
    obtain ⟨⟨⟨xa1, xa2⟩, xa3, xa4⟩, ⟨xd1, xd2⟩, xd3, xd4⟩ := hm
    rw [atQ_1 h]
    have m1 := mulB a1 f1 f2 xa1 xa2
    have m2 := mulB a2 f1 f2 xa3 xa4
    have m3 := mulB d1 hi hi2 xd1 xd2
    have m4 := mulB d2 hi hi2 xd3 xd4
    have e1 := nearQ_bound (sum1 i (n - i) a1 d1) n 2251799813685247 hn (by decide) (by unfold sum1; omega) (by unfold sum1; omega)
    have e2 := nearQ_bound (sum1 i (n - i) a2 d2) n 2251799813685247 hn (by decide) (by unfold sum1; omega) (by unfold sum1; omega)
    exact ⟨⟨by simpa using e1.1, by simpa using e1.2⟩, by simpa using e2.1, by simpa using e2.2⟩
  · rw [may_2 h] at hm
    simp only [Bool.and_eq_true, dotQ_iff] at hm
    obtain ⟨⟨⟨xa1, xa2⟩, xa3, xa4⟩, ⟨⟨xb1, xb2⟩, xb3, xb4⟩, ⟨xd1, xd2⟩, xd3, xd4⟩ := hm
    rw [atQ_2 h]
    obtain ⟨g1, g2⟩ := mul_upTo f1 f2 f1 f2
    obtain ⟨g3, g4⟩ := cubeB (show (0 : Int) ≤ 2 by omega) (Int.le_refl 2) hi hi2 f1 f2
    obtain ⟨g5, g6⟩ := mul_upTo hi hi2 hi hi2
    have m1 := mulB a1 g1 g2 xa1 xa2
    have m2 := mulB a2 g1 g2 xa3 xa4
    have m3 := mulB d1 g5 g6 xd1 xd2
    have m4 := mulB d2 g5 g6 xd3 xd4
    have m5 := mulB b1 g3 g4 xb1 xb2
    have m6 := mulB b2 g3 g4 xb3 xb4
    have e1 := nearQ_bound (sum2 i (n - i) a1 b1 d1) (n * n) 2251799813685247 g20 (by decide) (by unfold sum2; omega) (by unfold sum2; omega)
    have e2 := nearQ_bound (sum2 i (n - i) a2 b2 d2) (n * n) 2251799813685247 g20 (by decide) (by unfold sum2; omega) (by unfold sum2; omega)
    exact ⟨⟨by simpa using e1.1, by simpa using e1.2⟩, by simpa using e2.1, by simpa using e2.2⟩
  · rw [may_3 h] at hm
    simp only [Bool.and_eq_true, dotQ_iff] at hm
    obtain ⟨⟨⟨xa1, xa2⟩, xa3, xa4⟩, ⟨⟨xb1, xb2⟩, xb3, xb4⟩, ⟨⟨xc1, xc2⟩, xc3, xc4⟩, ⟨xd1, xd2⟩, xd3, xd4⟩ := hm
    rw [atQ_3 h]
    obtain ⟨g1, g2⟩ := cubeB f1 f2 f1 f2 f1 f2
    obtain ⟨g3, g4⟩ := cubeB (show (0 : Int) ≤ 3 by omega) (Int.le_refl 3) hi hi2 f1 f2
    obtain ⟨g5, g6⟩ := mul_upTo g3 g4 f1 f2
    obtain ⟨g7, g8⟩ := cubeB (show (0 : Int) ≤ 3 by omega) (Int.le_refl 3) hi hi2 hi hi2
    obtain ⟨g9, g10⟩ := mul_upTo g7 g8 f1 f2
    obtain ⟨g11, g12⟩ := cubeB hi hi2 hi hi2 hi hi2
    have m1 := mulB a1 g1 g2 xa1 xa2
    have m2 := mulB a2 g1 g2 xa3 xa4
    have m3 := mulB d1 g11 g12 xd1 xd2
    have m4 := mulB d2 g11 g12 xd3 xd4
    have m5 := mulB b1 g5 g6 xb1 xb2
    have m6 := mulB b2 g5 g6 xb3 xb4
    have m7 := mulB c1 g9 g10 xc1 xc2
    have m8 := mulB c2 g9 g10 xc3 xc4
    have e1 := nearQ_bound (sum3 i (n - i) a1 b1 c1 d1) (n * n * n) 2251799813685247 g30 (by decide) (by unfold sum3; omega) (by unfold sum3; omega)
    have e2 := nearQ_bound (sum3 i (n - i) a2 b2 c2 d2) (n * n * n) 2251799813685247 g30 (by decide) (by unfold sum3; omega) (by unfold sum3; omega)
    exact ⟨⟨by simpa using e1.1, by simpa using e1.2⟩, by simpa using e2.1, by simpa using e2.2⟩
theorem near6_calls (x : Int) (h1 : -6 ≤ x) (h2 : x ≤ 6) (w : World) : Calls Try.prog 21 #[.int .i64 x] w fun e w' => e = .returned (.bool true) ∧ Kp [] w w' := by
  go_enter Try.func21, Try.ntmps21
  go_wp2
  go_ret
  exact ⟨by first | rfl | simp, by (repeat (first | exact Kp.refl _ _ | assumption | refine Kp.drew ?_ | refine Kp.drewN ?_ _ | refine Kp.alloc ?_ _ | (refine Kp.setCell ?_ (by first | (left; simp; done) | (right; simp; try omega)) _) | (refine Kp.trans' ?_ (by assumption) (by simp; try omega))))⟩
set_option maxRecDepth 100000 in
set_option maxHeartbeats 4000000 in
theorem law_CurveFlat (q : Bw) (i : Int) (w : World) : Calls Try.prog 6 #[bowV q, .int .i64 i] w fun e w' => e = .returned (.bool true) ∧ Kp [] w w' := by
  show Calls Try.prog 6 #[.agg #[.int .i64 q.k, .int .i64 q.a.1, .int .i64 q.a.2, .int .i64 q.b.1, .int .i64 q.b.2, .int .i64 q.c.1, .int .i64 q.c.2, .int .i64 q.d.1, .int .i64 q.d.2], .int .i64 i] w _
  cases hm : mayW q
  · have HLI := Lib.hid lives20_calls
    have HRM : Hid (∀ w : World, Calls Try.prog 12 #[.agg #[.int .i64 q.k, .int .i64 q.a.1, .int .i64 q.a.2, .int .i64 q.b.1, .int .i64 q.b.2, .int .i64 q.c.1, .int .i64 q.c.2, .int .i64 q.d.1, .int .i64 q.d.2]] w fun e w' => e = .returned (.bool false) ∧ Kp [] w w') := fun w => by have := rmayw_calls q w; rw [hm] at this; exact this
    clear hm
    have hKW : Kp [] w (w.alloc (.cells #[.int .i64 q.k, .int .i64 q.a.1, .int .i64 q.a.2, .int .i64 q.b.1, .int .i64 q.b.2, .int .i64 q.c.1, .int .i64 q.c.2, .int .i64 q.d.1, .int .i64 q.d.2] 25)) := (Kp.refl _ _).alloc _
    have hcb := box9 (Kp.refl [] (w.alloc (.cells #[.int .i64 q.k, .int .i64 q.a.1, .int .i64 q.a.2, .int .i64 q.b.1, .int .i64 q.b.2, .int .i64 q.c.1, .int .i64 q.c.2, .int .i64 q.d.1, .int .i64 q.d.2] 25)))
    go_enter Try.func6, Try.ntmps6
    go_wp2_with fail
    generalize (w.alloc (.cells #[.int .i64 q.k, .int .i64 q.a.1, .int .i64 q.a.2, .int .i64 q.b.1, .int .i64 q.b.2, .int .i64 q.c.1, .int .i64 q.c.2, .int .i64 q.d.1, .int .i64 q.d.2] 25)) = WB at *
    generalize w.heap.size = BX at *
    have HCB := Lib.hid hcb
    clear hcb
    have Z_WB : Kp [] w WB := hKW
    have K_WB_WB : Kp [] WB WB := Kp.refl _ _
    obtain ⟨cb0, cb1, cb2, cb3, cb4, cb5, cb6, cb7, cb8⟩ := HCB.out
    refine (HRM.out _).mono ?_; rintro e v1 ⟨rfl, hkv1⟩
    clear cb0 cb1 cb2 cb3 cb4 cb5 cb6 cb7 cb8
    have Z_v1 : Kp [] w v1 := by first | exact Z_WB.trans hkv1 | exact Z_WB.trans (((Kp.refl _ _).alloc _).trans hkv1) | exact Z_WB.trans ((Kp.refl _ _).drew.trans hkv1)
    have K_WB_v1 : Kp [] WB v1 := by first | exact K_WB_WB.trans hkv1 | exact K_WB_WB.trans (((Kp.refl _ _).alloc _).trans hkv1) | exact K_WB_WB.trans ((Kp.refl _ _).drew.trans hkv1)
    obtain ⟨cb0, cb1, cb2, cb3, cb4, cb5, cb6, cb7, cb8⟩ := box9k K_WB_v1 HCB.out
    go_wp2_with fail
    refine (HLI.out _).mono ?_; rintro e v2 ⟨rfl, hkv2⟩
    clear cb0 cb1 cb2 cb3 cb4 cb5 cb6 cb7 cb8
    have Z_v2 : Kp [] w v2 := by first | exact Z_v1.trans hkv2 | exact Z_v1.trans (((Kp.refl _ _).alloc _).trans hkv2) | exact Z_v1.trans ((Kp.refl _ _).drew.trans hkv2)
    have K_WB_v2 : Kp [] WB v2 := by first | exact K_WB_v1.trans hkv2 | exact K_WB_v1.trans (((Kp.refl _ _).alloc _).trans hkv2) | exact K_WB_v1.trans ((Kp.refl _ _).drew.trans hkv2)
    obtain ⟨cb0, cb1, cb2, cb3, cb4, cb5, cb6, cb7, cb8⟩ := box9k K_WB_v2 HCB.out
    go_wp2_with fail
    go_ret
    exact ⟨by first | rfl | simp, by first | exact Z_v2 | exact Z_v2.alloc _ | exact Z_v2.drew | exact Z_v2.drewN _⟩
  · obtain ⟨S, hS, s1, s2, hw1, hw3, hw4⟩ := pfacts (piecesQ (needsQ q)) (pieces_bounds _).2
    by_cases hc : S < needsQ q
    · have HLI := Lib.hid lives20_calls
      have HRM : Hid (∀ w : World, Calls Try.prog 12 #[.agg #[.int .i64 q.k, .int .i64 q.a.1, .int .i64 q.a.2, .int .i64 q.b.1, .int .i64 q.b.2, .int .i64 q.c.1, .int .i64 q.c.2, .int .i64 q.d.1, .int .i64 q.d.2]] w fun e w' => e = .returned (.bool true) ∧ Kp [] w w') := fun w => by have := rmayw_calls q w; rw [hm] at this; exact this
      obtain ⟨hp1, hp2⟩ := pieces_bounds (needsQ q)
      have HPC : Hid (∀ w : World, Calls Try.prog 9 #[.agg #[.int .i64 q.k, .int .i64 q.a.1, .int .i64 q.a.2, .int .i64 q.b.1, .int .i64 q.b.2, .int .i64 q.c.1, .int .i64 q.c.2, .int .i64 q.d.1, .int .i64 q.d.2]] w fun e w' => e = .returned (.int .i64 (piecesQ (needsQ q))) ∧ Kp [] w w') := fun w => cpieces_calls q hm w
      have HNE : Hid (∀ w : World, Calls Try.prog 20 #[.agg #[.int .i64 q.k, .int .i64 q.a.1, .int .i64 q.a.2, .int .i64 q.b.1, .int .i64 q.b.2, .int .i64 q.c.1, .int .i64 q.c.2, .int .i64 q.d.1, .int .i64 q.d.2]] w fun e w' => e = .returned (.int .i64 (needsQ q)) ∧ Kp [] w w') := fun w => rneeds_calls q hm w
      have hq1 : decide ((piecesQ (needsQ q) : Int) < 1) = false := decide_eq_false (by omega)
      have hq2 : decide ((256 : Int) < (piecesQ (needsQ q) : Int)) = false := decide_eq_false (by omega)
      have hq3 : (1 : Int) ≤ piecesQ (needsQ q) := by omega
      have hq4 : (piecesQ (needsQ q) : Int) ≤ 256 := by omega
      clear hm hS
      generalize piecesQ (needsQ q) = P at *
      generalize needsQ q = NE at *
      have hKW : Kp [] w (w.alloc (.cells #[.int .i64 q.k, .int .i64 q.a.1, .int .i64 q.a.2, .int .i64 q.b.1, .int .i64 q.b.2, .int .i64 q.c.1, .int .i64 q.c.2, .int .i64 q.d.1, .int .i64 q.d.2] 25)) := (Kp.refl _ _).alloc _
      have hcb := box9 (Kp.refl [] (w.alloc (.cells #[.int .i64 q.k, .int .i64 q.a.1, .int .i64 q.a.2, .int .i64 q.b.1, .int .i64 q.b.2, .int .i64 q.c.1, .int .i64 q.c.2, .int .i64 q.d.1, .int .i64 q.d.2] 25)))
      go_enter Try.func6, Try.ntmps6
      go_wp2_with fail
      generalize (w.alloc (.cells #[.int .i64 q.k, .int .i64 q.a.1, .int .i64 q.a.2, .int .i64 q.b.1, .int .i64 q.b.2, .int .i64 q.c.1, .int .i64 q.c.2, .int .i64 q.d.1, .int .i64 q.d.2] 25)) = WB at *
      generalize w.heap.size = BX at *
      have HCB := Lib.hid hcb
      clear hcb
      have Z_WB : Kp [] w WB := hKW
      have K_WB_WB : Kp [] WB WB := Kp.refl _ _
      obtain ⟨cb0, cb1, cb2, cb3, cb4, cb5, cb6, cb7, cb8⟩ := HCB.out
      refine (HRM.out _).mono ?_; rintro e v1 ⟨rfl, hkv1⟩
      clear cb0 cb1 cb2 cb3 cb4 cb5 cb6 cb7 cb8
      have Z_v1 : Kp [] w v1 := by first | exact Z_WB.trans hkv1 | exact Z_WB.trans (((Kp.refl _ _).alloc _).trans hkv1) | exact Z_WB.trans ((Kp.refl _ _).drew.trans hkv1)
      have K_WB_v1 : Kp [] WB v1 := by first | exact K_WB_WB.trans hkv1 | exact K_WB_WB.trans (((Kp.refl _ _).alloc _).trans hkv1) | exact K_WB_WB.trans ((Kp.refl _ _).drew.trans hkv1)
      obtain ⟨cb0, cb1, cb2, cb3, cb4, cb5, cb6, cb7, cb8⟩ := box9k K_WB_v1 HCB.out
      go_wp2_with fail
      refine (HPC.out _).mono ?_; rintro e v2 ⟨rfl, hkv2⟩
      clear cb0 cb1 cb2 cb3 cb4 cb5 cb6 cb7 cb8
      have Z_v2 : Kp [] w v2 := by first | exact Z_v1.trans hkv2 | exact Z_v1.trans (((Kp.refl _ _).alloc _).trans hkv2) | exact Z_v1.trans ((Kp.refl _ _).drew.trans hkv2)
      have K_WB_v2 : Kp [] WB v2 := by first | exact K_WB_v1.trans hkv2 | exact K_WB_v1.trans (((Kp.refl _ _).alloc _).trans hkv2) | exact K_WB_v1.trans ((Kp.refl _ _).drew.trans hkv2)
      obtain ⟨cb0, cb1, cb2, cb3, cb4, cb5, cb6, cb7, cb8⟩ := box9k K_WB_v2 HCB.out
      go_wp2_with fail
      refine (HLI.out _).mono ?_; rintro e v3 ⟨rfl, hkv3⟩
      clear cb0 cb1 cb2 cb3 cb4 cb5 cb6 cb7 cb8
      have Z_v3 : Kp [] w v3 := by first | exact Z_v2.trans hkv3 | exact Z_v2.trans (((Kp.refl _ _).alloc _).trans hkv3) | exact Z_v2.trans ((Kp.refl _ _).drew.trans hkv3)
      have K_WB_v3 : Kp [] WB v3 := by first | exact K_WB_v2.trans hkv3 | exact K_WB_v2.trans (((Kp.refl _ _).alloc _).trans hkv3) | exact K_WB_v2.trans ((Kp.refl _ _).drew.trans hkv3)
      obtain ⟨cb0, cb1, cb2, cb3, cb4, cb5, cb6, cb7, cb8⟩ := box9k K_WB_v3 HCB.out
      go_wp2_with fail
      refine (HNE.out _).mono ?_; rintro e v4 ⟨rfl, hkv4⟩
      clear cb0 cb1 cb2 cb3 cb4 cb5 cb6 cb7 cb8
      have Z_v4 : Kp [] w v4 := by first | exact Z_v3.trans hkv4 | exact Z_v3.trans (((Kp.refl _ _).alloc _).trans hkv4) | exact Z_v3.trans ((Kp.refl _ _).drew.trans hkv4)
      have K_WB_v4 : Kp [] WB v4 := by first | exact K_WB_v3.trans hkv4 | exact K_WB_v3.trans (((Kp.refl _ _).alloc _).trans hkv4) | exact K_WB_v3.trans ((Kp.refl _ _).drew.trans hkv4)
      obtain ⟨cb0, cb1, cb2, cb3, cb4, cb5, cb6, cb7, cb8⟩ := box9k K_WB_v4 HCB.out
      go_wp2_with fail
      refine (HLI.out _).mono ?_; rintro e v5 ⟨rfl, hkv5⟩
      clear cb0 cb1 cb2 cb3 cb4 cb5 cb6 cb7 cb8
      have Z_v5 : Kp [] w v5 := by first | exact Z_v4.trans hkv5 | exact Z_v4.trans (((Kp.refl _ _).alloc _).trans hkv5) | exact Z_v4.trans ((Kp.refl _ _).drew.trans hkv5)
      have K_WB_v5 : Kp [] WB v5 := by first | exact K_WB_v4.trans hkv5 | exact K_WB_v4.trans (((Kp.refl _ _).alloc _).trans hkv5) | exact K_WB_v4.trans ((Kp.refl _ _).drew.trans hkv5)
      obtain ⟨cb0, cb1, cb2, cb3, cb4, cb5, cb6, cb7, cb8⟩ := box9k K_WB_v5 HCB.out
      go_wp2_with fail
      go_ret
      exact ⟨by first | rfl | simp, by first | exact Z_v5 | exact Z_v5.alloc _ | exact Z_v5.drew | exact Z_v5.drewN _⟩
    · by_cases hi0 : i < 0
      · have HLI := Lib.hid lives20_calls
        have HRM : Hid (∀ w : World, Calls Try.prog 12 #[.agg #[.int .i64 q.k, .int .i64 q.a.1, .int .i64 q.a.2, .int .i64 q.b.1, .int .i64 q.b.2, .int .i64 q.c.1, .int .i64 q.c.2, .int .i64 q.d.1, .int .i64 q.d.2]] w fun e w' => e = .returned (.bool true) ∧ Kp [] w w') := fun w => by have := rmayw_calls q w; rw [hm] at this; exact this
        obtain ⟨hp1, hp2⟩ := pieces_bounds (needsQ q)
        have HPC : Hid (∀ w : World, Calls Try.prog 9 #[.agg #[.int .i64 q.k, .int .i64 q.a.1, .int .i64 q.a.2, .int .i64 q.b.1, .int .i64 q.b.2, .int .i64 q.c.1, .int .i64 q.c.2, .int .i64 q.d.1, .int .i64 q.d.2]] w fun e w' => e = .returned (.int .i64 (piecesQ (needsQ q))) ∧ Kp [] w w') := fun w => cpieces_calls q hm w
        have HNE : Hid (∀ w : World, Calls Try.prog 20 #[.agg #[.int .i64 q.k, .int .i64 q.a.1, .int .i64 q.a.2, .int .i64 q.b.1, .int .i64 q.b.2, .int .i64 q.c.1, .int .i64 q.c.2, .int .i64 q.d.1, .int .i64 q.d.2]] w fun e w' => e = .returned (.int .i64 (needsQ q)) ∧ Kp [] w w') := fun w => rneeds_calls q hm w
        have hc1 : decide (S < needsQ q) = false := decide_eq_false hc
        have hq1 : decide ((piecesQ (needsQ q) : Int) < 1) = false := decide_eq_false (by omega)
        have hq2 : decide ((256 : Int) < (piecesQ (needsQ q) : Int)) = false := decide_eq_false (by omega)
        have hq3 : (1 : Int) ≤ piecesQ (needsQ q) := by omega
        have hq4 : (piecesQ (needsQ q) : Int) ≤ 256 := by omega
        clear hm hS
        generalize piecesQ (needsQ q) = P at *
        generalize needsQ q = NE at *
        have hKW : Kp [] w (w.alloc (.cells #[.int .i64 q.k, .int .i64 q.a.1, .int .i64 q.a.2, .int .i64 q.b.1, .int .i64 q.b.2, .int .i64 q.c.1, .int .i64 q.c.2, .int .i64 q.d.1, .int .i64 q.d.2] 25)) := (Kp.refl _ _).alloc _
        have hcb := box9 (Kp.refl [] (w.alloc (.cells #[.int .i64 q.k, .int .i64 q.a.1, .int .i64 q.a.2, .int .i64 q.b.1, .int .i64 q.b.2, .int .i64 q.c.1, .int .i64 q.c.2, .int .i64 q.d.1, .int .i64 q.d.2] 25)))
        go_enter Try.func6, Try.ntmps6
        go_wp2_with fail
        generalize (w.alloc (.cells #[.int .i64 q.k, .int .i64 q.a.1, .int .i64 q.a.2, .int .i64 q.b.1, .int .i64 q.b.2, .int .i64 q.c.1, .int .i64 q.c.2, .int .i64 q.d.1, .int .i64 q.d.2] 25)) = WB at *
        generalize w.heap.size = BX at *
        have HCB := Lib.hid hcb
        clear hcb
        have Z_WB : Kp [] w WB := hKW
        have K_WB_WB : Kp [] WB WB := Kp.refl _ _
        obtain ⟨cb0, cb1, cb2, cb3, cb4, cb5, cb6, cb7, cb8⟩ := HCB.out
        refine (HRM.out _).mono ?_; rintro e v1 ⟨rfl, hkv1⟩
        clear cb0 cb1 cb2 cb3 cb4 cb5 cb6 cb7 cb8
        have Z_v1 : Kp [] w v1 := by first | exact Z_WB.trans hkv1 | exact Z_WB.trans (((Kp.refl _ _).alloc _).trans hkv1) | exact Z_WB.trans ((Kp.refl _ _).drew.trans hkv1)
        have K_WB_v1 : Kp [] WB v1 := by first | exact K_WB_WB.trans hkv1 | exact K_WB_WB.trans (((Kp.refl _ _).alloc _).trans hkv1) | exact K_WB_WB.trans ((Kp.refl _ _).drew.trans hkv1)
        obtain ⟨cb0, cb1, cb2, cb3, cb4, cb5, cb6, cb7, cb8⟩ := box9k K_WB_v1 HCB.out
        go_wp2_with fail
        refine (HPC.out _).mono ?_; rintro e v2 ⟨rfl, hkv2⟩
        clear cb0 cb1 cb2 cb3 cb4 cb5 cb6 cb7 cb8
        have Z_v2 : Kp [] w v2 := by first | exact Z_v1.trans hkv2 | exact Z_v1.trans (((Kp.refl _ _).alloc _).trans hkv2) | exact Z_v1.trans ((Kp.refl _ _).drew.trans hkv2)
        have K_WB_v2 : Kp [] WB v2 := by first | exact K_WB_v1.trans hkv2 | exact K_WB_v1.trans (((Kp.refl _ _).alloc _).trans hkv2) | exact K_WB_v1.trans ((Kp.refl _ _).drew.trans hkv2)
        obtain ⟨cb0, cb1, cb2, cb3, cb4, cb5, cb6, cb7, cb8⟩ := box9k K_WB_v2 HCB.out
        go_wp2_with fail
        refine (HLI.out _).mono ?_; rintro e v3 ⟨rfl, hkv3⟩
        clear cb0 cb1 cb2 cb3 cb4 cb5 cb6 cb7 cb8
        have Z_v3 : Kp [] w v3 := by first | exact Z_v2.trans hkv3 | exact Z_v2.trans (((Kp.refl _ _).alloc _).trans hkv3) | exact Z_v2.trans ((Kp.refl _ _).drew.trans hkv3)
        have K_WB_v3 : Kp [] WB v3 := by first | exact K_WB_v2.trans hkv3 | exact K_WB_v2.trans (((Kp.refl _ _).alloc _).trans hkv3) | exact K_WB_v2.trans ((Kp.refl _ _).drew.trans hkv3)
        obtain ⟨cb0, cb1, cb2, cb3, cb4, cb5, cb6, cb7, cb8⟩ := box9k K_WB_v3 HCB.out
        go_wp2_with fail
        refine (HNE.out _).mono ?_; rintro e v4 ⟨rfl, hkv4⟩
        clear cb0 cb1 cb2 cb3 cb4 cb5 cb6 cb7 cb8
        have Z_v4 : Kp [] w v4 := by first | exact Z_v3.trans hkv4 | exact Z_v3.trans (((Kp.refl _ _).alloc _).trans hkv4) | exact Z_v3.trans ((Kp.refl _ _).drew.trans hkv4)
        have K_WB_v4 : Kp [] WB v4 := by first | exact K_WB_v3.trans hkv4 | exact K_WB_v3.trans (((Kp.refl _ _).alloc _).trans hkv4) | exact K_WB_v3.trans ((Kp.refl _ _).drew.trans hkv4)
        obtain ⟨cb0, cb1, cb2, cb3, cb4, cb5, cb6, cb7, cb8⟩ := box9k K_WB_v4 HCB.out
        go_wp2_with fail
        refine (HLI.out _).mono ?_; rintro e v5 ⟨rfl, hkv5⟩
        clear cb0 cb1 cb2 cb3 cb4 cb5 cb6 cb7 cb8
        have Z_v5 : Kp [] w v5 := by first | exact Z_v4.trans hkv5 | exact Z_v4.trans (((Kp.refl _ _).alloc _).trans hkv5) | exact Z_v4.trans ((Kp.refl _ _).drew.trans hkv5)
        have K_WB_v5 : Kp [] WB v5 := by first | exact K_WB_v4.trans hkv5 | exact K_WB_v4.trans (((Kp.refl _ _).alloc _).trans hkv5) | exact K_WB_v4.trans ((Kp.refl _ _).drew.trans hkv5)
        obtain ⟨cb0, cb1, cb2, cb3, cb4, cb5, cb6, cb7, cb8⟩ := box9k K_WB_v5 HCB.out
        go_wp2_with fail
        go_ret
        exact ⟨by first | rfl | simp, by first | exact Z_v5 | exact Z_v5.alloc _ | exact Z_v5.drew | exact Z_v5.drewN _⟩
      · have hi : 0 ≤ i := by omega
        by_cases hin : i < (piecesQ (needsQ q) : Int)
        · clear hi0
          have HLI := Lib.hid lives20_calls
          have HRM : Hid (∀ w : World, Calls Try.prog 12 #[.agg #[.int .i64 q.k, .int .i64 q.a.1, .int .i64 q.a.2, .int .i64 q.b.1, .int .i64 q.b.2, .int .i64 q.c.1, .int .i64 q.c.2, .int .i64 q.d.1, .int .i64 q.d.2]] w fun e w' => e = .returned (.bool true) ∧ Kp [] w w') := fun w => by have := rmayw_calls q w; rw [hm] at this; exact this
          obtain ⟨hp1, hp2⟩ := pieces_bounds (needsQ q)
          have HPC : Hid (∀ w : World, Calls Try.prog 9 #[.agg #[.int .i64 q.k, .int .i64 q.a.1, .int .i64 q.a.2, .int .i64 q.b.1, .int .i64 q.b.2, .int .i64 q.c.1, .int .i64 q.c.2, .int .i64 q.d.1, .int .i64 q.d.2]] w fun e w' => e = .returned (.int .i64 (piecesQ (needsQ q))) ∧ Kp [] w w') := fun w => cpieces_calls q hm w
          have HNE : Hid (∀ w : World, Calls Try.prog 20 #[.agg #[.int .i64 q.k, .int .i64 q.a.1, .int .i64 q.a.2, .int .i64 q.b.1, .int .i64 q.b.2, .int .i64 q.c.1, .int .i64 q.c.2, .int .i64 q.d.1, .int .i64 q.d.2]] w fun e w' => e = .returned (.int .i64 (needsQ q)) ∧ Kp [] w w') := fun w => rneeds_calls q hm w
          obtain ⟨p1, p2, hp⟩ : ∃ p1 p2 : Int, atQ q i (piecesQ (needsQ q)) = (p1, p2) := ⟨_, _, rfl⟩
          obtain ⟨r1, r2, hr⟩ : ∃ p1 p2 : Int, atQ q (i + 1) (piecesQ (needsQ q)) = (p1, p2) := ⟨_, _, rfl⟩
          obtain ⟨m1, m2, hmm⟩ : ∃ p1 p2 : Int, atQ q (2 * i + 1) (2 * (piecesQ (needsQ q) : Int)) = (p1, p2) := ⟨_, _, rfl⟩
          have hfl := at_flat q hm i (piecesQ (needsQ q)) hi hin (by rw [← hS]; omega)
          have bp := at_bounds q hm i (piecesQ (needsQ q)) (by omega) (by omega) hi (by omega)
          have br := at_bounds q hm (i + 1) (piecesQ (needsQ q)) (by omega) (by omega) (by omega) (by omega)
          have bm := at_bounds q hm (2 * i + 1) (2 * (piecesQ (needsQ q) : Int)) (by omega) (by omega) (by omega) (by omega)
          rw [hp, hr, hmm] at hfl
          rw [hp] at bp
          rw [hr] at br
          rw [hmm] at bm
          have HA1 : Hid (∀ w : World, Calls Try.prog 17 #[.agg #[.int .i64 q.k, .int .i64 q.a.1, .int .i64 q.a.2, .int .i64 q.b.1, .int .i64 q.b.2, .int .i64 q.c.1, .int .i64 q.c.2, .int .i64 q.d.1, .int .i64 q.d.2], .int .i64 i, .int .i64 (piecesQ (needsQ q))] w fun e w' => e = .returned (.tuple #[.agg #[.int .i64 p1, .int .i64 p2], .int .i64 0]) ∧ Kp [] w w') := fun w => by have := cat_ok q hm i (piecesQ (needsQ q)) (by omega) (by omega) hi (by omega) w; rw [hp] at this; exact this
          have HA2 : Hid (∀ w : World, Calls Try.prog 17 #[.agg #[.int .i64 q.k, .int .i64 q.a.1, .int .i64 q.a.2, .int .i64 q.b.1, .int .i64 q.b.2, .int .i64 q.c.1, .int .i64 q.c.2, .int .i64 q.d.1, .int .i64 q.d.2], .int .i64 (i + 1), .int .i64 (piecesQ (needsQ q))] w fun e w' => e = .returned (.tuple #[.agg #[.int .i64 r1, .int .i64 r2], .int .i64 0]) ∧ Kp [] w w') := fun w => by have := cat_ok q hm (i + 1) (piecesQ (needsQ q)) (by omega) (by omega) (by omega) (by omega) w; rw [hr] at this; exact this
          have HA3 : Hid (∀ w : World, Calls Try.prog 17 #[.agg #[.int .i64 q.k, .int .i64 q.a.1, .int .i64 q.a.2, .int .i64 q.b.1, .int .i64 q.b.2, .int .i64 q.c.1, .int .i64 q.c.2, .int .i64 q.d.1, .int .i64 q.d.2], .int .i64 (2 * i + 1), .int .i64 (2 * (piecesQ (needsQ q) : Int))] w fun e w' => e = .returned (.tuple #[.agg #[.int .i64 m1, .int .i64 m2], .int .i64 0]) ∧ Kp [] w w') := fun w => by have := cat_ok q hm (2 * i + 1) (2 * (piecesQ (needsQ q) : Int)) (by omega) (by omega) (by omega) (by omega) w; rw [hmm] at this; exact this
          obtain ⟨⟨f1, f2⟩, f3, f4⟩ := hfl
          obtain ⟨⟨bp1, bp2⟩, bp3, bp4⟩ := bp
          obtain ⟨⟨br1, br2⟩, br3, br4⟩ := br
          obtain ⟨⟨bm1, bm2⟩, bm3, bm4⟩ := bm
          have HN1 := Lib.hid (near6_calls (2 * m1 - p1 - r1) f1 f2)
          have HN2 := Lib.hid (near6_calls (2 * m2 - p2 - r2) f3 f4)
          clear hp hr hmm f1 f2 f3 f4
          have hc1 : decide (S < needsQ q) = false := decide_eq_false hc
          have hc2 : decide (i < 0) = false := decide_eq_false (by omega)
          have hc3 : decide ((piecesQ (needsQ q) : Int) ≤ i) = false := decide_eq_false (by omega)
          have hq1 : decide ((piecesQ (needsQ q) : Int) < 1) = false := decide_eq_false (by omega)
          have hq2 : decide ((256 : Int) < (piecesQ (needsQ q) : Int)) = false := decide_eq_false (by omega)
          have hq3 : (1 : Int) ≤ piecesQ (needsQ q) := by omega
          have hq4 : (piecesQ (needsQ q) : Int) ≤ 256 := by omega
          clear hm hS
          generalize piecesQ (needsQ q) = P at *
          generalize needsQ q = NE at *
          have hKW : Kp [] w (w.alloc (.cells #[.int .i64 q.k, .int .i64 q.a.1, .int .i64 q.a.2, .int .i64 q.b.1, .int .i64 q.b.2, .int .i64 q.c.1, .int .i64 q.c.2, .int .i64 q.d.1, .int .i64 q.d.2] 25)) := (Kp.refl _ _).alloc _
          have hcb := box9 (Kp.refl [] (w.alloc (.cells #[.int .i64 q.k, .int .i64 q.a.1, .int .i64 q.a.2, .int .i64 q.b.1, .int .i64 q.b.2, .int .i64 q.c.1, .int .i64 q.c.2, .int .i64 q.d.1, .int .i64 q.d.2] 25)))
          go_enter Try.func6, Try.ntmps6
          go_wp2_with fail
          generalize (w.alloc (.cells #[.int .i64 q.k, .int .i64 q.a.1, .int .i64 q.a.2, .int .i64 q.b.1, .int .i64 q.b.2, .int .i64 q.c.1, .int .i64 q.c.2, .int .i64 q.d.1, .int .i64 q.d.2] 25)) = WB at *
          generalize w.heap.size = BX at *
          have HCB := Lib.hid hcb
          clear hcb
          have Z_WB : Kp [] w WB := hKW
          have K_WB_WB : Kp [] WB WB := Kp.refl _ _
          obtain ⟨cb0, cb1, cb2, cb3, cb4, cb5, cb6, cb7, cb8⟩ := HCB.out
          refine (HRM.out _).mono ?_; rintro e v1 ⟨rfl, hkv1⟩
          clear cb0 cb1 cb2 cb3 cb4 cb5 cb6 cb7 cb8
          have Z_v1 : Kp [] w v1 := by first | exact Z_WB.trans hkv1 | exact Z_WB.trans (((Kp.refl _ _).alloc _).trans hkv1) | exact Z_WB.trans ((Kp.refl _ _).drew.trans hkv1)
          have K_WB_v1 : Kp [] WB v1 := by first | exact K_WB_WB.trans hkv1 | exact K_WB_WB.trans (((Kp.refl _ _).alloc _).trans hkv1) | exact K_WB_WB.trans ((Kp.refl _ _).drew.trans hkv1)
          obtain ⟨cb0, cb1, cb2, cb3, cb4, cb5, cb6, cb7, cb8⟩ := box9k K_WB_v1 HCB.out
          go_wp2_with fail
          refine (HPC.out _).mono ?_; rintro e v2 ⟨rfl, hkv2⟩
          clear cb0 cb1 cb2 cb3 cb4 cb5 cb6 cb7 cb8
          have Z_v2 : Kp [] w v2 := by first | exact Z_v1.trans hkv2 | exact Z_v1.trans (((Kp.refl _ _).alloc _).trans hkv2) | exact Z_v1.trans ((Kp.refl _ _).drew.trans hkv2)
          have K_WB_v2 : Kp [] WB v2 := by first | exact K_WB_v1.trans hkv2 | exact K_WB_v1.trans (((Kp.refl _ _).alloc _).trans hkv2) | exact K_WB_v1.trans ((Kp.refl _ _).drew.trans hkv2)
          obtain ⟨cb0, cb1, cb2, cb3, cb4, cb5, cb6, cb7, cb8⟩ := box9k K_WB_v2 HCB.out
          go_wp2_with fail
          refine (HLI.out _).mono ?_; rintro e v3 ⟨rfl, hkv3⟩
          clear cb0 cb1 cb2 cb3 cb4 cb5 cb6 cb7 cb8
          have Z_v3 : Kp [] w v3 := by first | exact Z_v2.trans hkv3 | exact Z_v2.trans (((Kp.refl _ _).alloc _).trans hkv3) | exact Z_v2.trans ((Kp.refl _ _).drew.trans hkv3)
          have K_WB_v3 : Kp [] WB v3 := by first | exact K_WB_v2.trans hkv3 | exact K_WB_v2.trans (((Kp.refl _ _).alloc _).trans hkv3) | exact K_WB_v2.trans ((Kp.refl _ _).drew.trans hkv3)
          obtain ⟨cb0, cb1, cb2, cb3, cb4, cb5, cb6, cb7, cb8⟩ := box9k K_WB_v3 HCB.out
          go_wp2_with fail
          refine (HNE.out _).mono ?_; rintro e v4 ⟨rfl, hkv4⟩
          clear cb0 cb1 cb2 cb3 cb4 cb5 cb6 cb7 cb8
          have Z_v4 : Kp [] w v4 := by first | exact Z_v3.trans hkv4 | exact Z_v3.trans (((Kp.refl _ _).alloc _).trans hkv4) | exact Z_v3.trans ((Kp.refl _ _).drew.trans hkv4)
          have K_WB_v4 : Kp [] WB v4 := by first | exact K_WB_v3.trans hkv4 | exact K_WB_v3.trans (((Kp.refl _ _).alloc _).trans hkv4) | exact K_WB_v3.trans ((Kp.refl _ _).drew.trans hkv4)
          obtain ⟨cb0, cb1, cb2, cb3, cb4, cb5, cb6, cb7, cb8⟩ := box9k K_WB_v4 HCB.out
          go_wp2_with fail
          refine (HA1.out _).mono ?_; rintro e v5 ⟨rfl, hkv5⟩
          clear cb0 cb1 cb2 cb3 cb4 cb5 cb6 cb7 cb8
          have Z_v5 : Kp [] w v5 := by first | exact Z_v4.trans hkv5 | exact Z_v4.trans (((Kp.refl _ _).alloc _).trans hkv5) | exact Z_v4.trans ((Kp.refl _ _).drew.trans hkv5)
          have K_WB_v5 : Kp [] WB v5 := by first | exact K_WB_v4.trans hkv5 | exact K_WB_v4.trans (((Kp.refl _ _).alloc _).trans hkv5) | exact K_WB_v4.trans ((Kp.refl _ _).drew.trans hkv5)
          obtain ⟨cb0, cb1, cb2, cb3, cb4, cb5, cb6, cb7, cb8⟩ := box9k K_WB_v5 HCB.out
          clear cb0 cb1 cb2 cb3 cb4 cb5 cb6 cb7 cb8
          have hkv5a : Kp [] v5 (v5.alloc (.cells #[.int .i64 p1, .int .i64 p2] 23)) := (Kp.refl _ _).alloc _
          have hcb := box2 (Kp.refl [] (v5.alloc (.cells #[.int .i64 p1, .int .i64 p2] 23)))
          have Z_v5a : Kp [] w (v5.alloc (.cells #[.int .i64 p1, .int .i64 p2] 23)) := Z_v5.trans hkv5a
          have K_WB_v5a : Kp [] WB (v5.alloc (.cells #[.int .i64 p1, .int .i64 p2] 23)) := K_WB_v5.trans hkv5a
          obtain ⟨cb0, cb1, cb2, cb3, cb4, cb5, cb6, cb7, cb8⟩ := box9k K_WB_v5a HCB.out
          go_wp2_with fail
          generalize v5.alloc (.cells #[.int .i64 p1, .int .i64 p2] 23) = v5a at *
          generalize v5.heap.size = Bv5 at *
          have Hv5 := Lib.hid hcb
          clear hcb
          have K_v5a_v5a : Kp [] v5a v5a := Kp.refl _ _
          obtain ⟨e5_0, e5_1⟩ := Hv5.out
          refine (HA2.out _).mono ?_; rintro e v6 ⟨rfl, hkv6⟩
          clear cb0 cb1 cb2 cb3 cb4 cb5 cb6 cb7 cb8 e5_0 e5_1
          have Z_v6 : Kp [] w v6 := by first | exact Z_v5a.trans hkv6 | exact Z_v5a.trans (((Kp.refl _ _).alloc _).trans hkv6) | exact Z_v5a.trans ((Kp.refl _ _).drew.trans hkv6)
          have K_WB_v6 : Kp [] WB v6 := by first | exact K_WB_v5a.trans hkv6 | exact K_WB_v5a.trans (((Kp.refl _ _).alloc _).trans hkv6) | exact K_WB_v5a.trans ((Kp.refl _ _).drew.trans hkv6)
          obtain ⟨cb0, cb1, cb2, cb3, cb4, cb5, cb6, cb7, cb8⟩ := box9k K_WB_v6 HCB.out
          have K_v5a_v6 : Kp [] v5a v6 := by first | exact K_v5a_v5a.trans hkv6 | exact K_v5a_v5a.trans (((Kp.refl _ _).alloc _).trans hkv6) | exact K_v5a_v5a.trans ((Kp.refl _ _).drew.trans hkv6)
          obtain ⟨e5_0, e5_1⟩ := box2k K_v5a_v6 Hv5.out
          clear cb0 cb1 cb2 cb3 cb4 cb5 cb6 cb7 cb8 e5_0 e5_1
          have hkv6a : Kp [] v6 (v6.alloc (.cells #[.int .i64 r1, .int .i64 r2] 23)) := (Kp.refl _ _).alloc _
          have hcb := box2 (Kp.refl [] (v6.alloc (.cells #[.int .i64 r1, .int .i64 r2] 23)))
          have Z_v6a : Kp [] w (v6.alloc (.cells #[.int .i64 r1, .int .i64 r2] 23)) := Z_v6.trans hkv6a
          have K_WB_v6a : Kp [] WB (v6.alloc (.cells #[.int .i64 r1, .int .i64 r2] 23)) := K_WB_v6.trans hkv6a
          obtain ⟨cb0, cb1, cb2, cb3, cb4, cb5, cb6, cb7, cb8⟩ := box9k K_WB_v6a HCB.out
          have K_v5a_v6a : Kp [] v5a (v6.alloc (.cells #[.int .i64 r1, .int .i64 r2] 23)) := K_v5a_v6.trans hkv6a
          obtain ⟨e5_0, e5_1⟩ := box2k K_v5a_v6a Hv5.out
          go_wp2_with fail
          generalize v6.alloc (.cells #[.int .i64 r1, .int .i64 r2] 23) = v6a at *
          generalize v6.heap.size = Bv6 at *
          have Hv6 := Lib.hid hcb
          clear hcb
          have K_v6a_v6a : Kp [] v6a v6a := Kp.refl _ _
          obtain ⟨e6_0, e6_1⟩ := Hv6.out
          refine (HA3.out _).mono ?_; rintro e v7 ⟨rfl, hkv7⟩
          clear cb0 cb1 cb2 cb3 cb4 cb5 cb6 cb7 cb8 e5_0 e5_1 e6_0 e6_1
          have Z_v7 : Kp [] w v7 := by first | exact Z_v6a.trans hkv7 | exact Z_v6a.trans (((Kp.refl _ _).alloc _).trans hkv7) | exact Z_v6a.trans ((Kp.refl _ _).drew.trans hkv7)
          have K_WB_v7 : Kp [] WB v7 := by first | exact K_WB_v6a.trans hkv7 | exact K_WB_v6a.trans (((Kp.refl _ _).alloc _).trans hkv7) | exact K_WB_v6a.trans ((Kp.refl _ _).drew.trans hkv7)
          obtain ⟨cb0, cb1, cb2, cb3, cb4, cb5, cb6, cb7, cb8⟩ := box9k K_WB_v7 HCB.out
          have K_v5a_v7 : Kp [] v5a v7 := by first | exact K_v5a_v6a.trans hkv7 | exact K_v5a_v6a.trans (((Kp.refl _ _).alloc _).trans hkv7) | exact K_v5a_v6a.trans ((Kp.refl _ _).drew.trans hkv7)
          obtain ⟨e5_0, e5_1⟩ := box2k K_v5a_v7 Hv5.out
          have K_v6a_v7 : Kp [] v6a v7 := by first | exact K_v6a_v6a.trans hkv7 | exact K_v6a_v6a.trans (((Kp.refl _ _).alloc _).trans hkv7) | exact K_v6a_v6a.trans ((Kp.refl _ _).drew.trans hkv7)
          obtain ⟨e6_0, e6_1⟩ := box2k K_v6a_v7 Hv6.out
          clear cb0 cb1 cb2 cb3 cb4 cb5 cb6 cb7 cb8 e5_0 e5_1 e6_0 e6_1
          have hkv7a : Kp [] v7 (v7.alloc (.cells #[.int .i64 m1, .int .i64 m2] 23)) := (Kp.refl _ _).alloc _
          have hcb := box2 (Kp.refl [] (v7.alloc (.cells #[.int .i64 m1, .int .i64 m2] 23)))
          have Z_v7a : Kp [] w (v7.alloc (.cells #[.int .i64 m1, .int .i64 m2] 23)) := Z_v7.trans hkv7a
          have K_WB_v7a : Kp [] WB (v7.alloc (.cells #[.int .i64 m1, .int .i64 m2] 23)) := K_WB_v7.trans hkv7a
          obtain ⟨cb0, cb1, cb2, cb3, cb4, cb5, cb6, cb7, cb8⟩ := box9k K_WB_v7a HCB.out
          have K_v5a_v7a : Kp [] v5a (v7.alloc (.cells #[.int .i64 m1, .int .i64 m2] 23)) := K_v5a_v7.trans hkv7a
          obtain ⟨e5_0, e5_1⟩ := box2k K_v5a_v7a Hv5.out
          have K_v6a_v7a : Kp [] v6a (v7.alloc (.cells #[.int .i64 m1, .int .i64 m2] 23)) := K_v6a_v7.trans hkv7a
          obtain ⟨e6_0, e6_1⟩ := box2k K_v6a_v7a Hv6.out
          go_wp2_with fail
          generalize v7.alloc (.cells #[.int .i64 m1, .int .i64 m2] 23) = v7a at *
          generalize v7.heap.size = Bv7 at *
          have Hv7 := Lib.hid hcb
          clear hcb
          have K_v7a_v7a : Kp [] v7a v7a := Kp.refl _ _
          obtain ⟨e7_0, e7_1⟩ := Hv7.out
          refine (HN1.out _).mono ?_; rintro e v8 ⟨rfl, hkv8⟩
          clear cb0 cb1 cb2 cb3 cb4 cb5 cb6 cb7 cb8 e5_0 e5_1 e6_0 e6_1 e7_0 e7_1
          have Z_v8 : Kp [] w v8 := by first | exact Z_v7a.trans hkv8 | exact Z_v7a.trans (((Kp.refl _ _).alloc _).trans hkv8) | exact Z_v7a.trans ((Kp.refl _ _).drew.trans hkv8)
          have K_WB_v8 : Kp [] WB v8 := by first | exact K_WB_v7a.trans hkv8 | exact K_WB_v7a.trans (((Kp.refl _ _).alloc _).trans hkv8) | exact K_WB_v7a.trans ((Kp.refl _ _).drew.trans hkv8)
          obtain ⟨cb0, cb1, cb2, cb3, cb4, cb5, cb6, cb7, cb8⟩ := box9k K_WB_v8 HCB.out
          have K_v5a_v8 : Kp [] v5a v8 := by first | exact K_v5a_v7a.trans hkv8 | exact K_v5a_v7a.trans (((Kp.refl _ _).alloc _).trans hkv8) | exact K_v5a_v7a.trans ((Kp.refl _ _).drew.trans hkv8)
          obtain ⟨e5_0, e5_1⟩ := box2k K_v5a_v8 Hv5.out
          have K_v6a_v8 : Kp [] v6a v8 := by first | exact K_v6a_v7a.trans hkv8 | exact K_v6a_v7a.trans (((Kp.refl _ _).alloc _).trans hkv8) | exact K_v6a_v7a.trans ((Kp.refl _ _).drew.trans hkv8)
          obtain ⟨e6_0, e6_1⟩ := box2k K_v6a_v8 Hv6.out
          have K_v7a_v8 : Kp [] v7a v8 := by first | exact K_v7a_v7a.trans hkv8 | exact K_v7a_v7a.trans (((Kp.refl _ _).alloc _).trans hkv8) | exact K_v7a_v7a.trans ((Kp.refl _ _).drew.trans hkv8)
          obtain ⟨e7_0, e7_1⟩ := box2k K_v7a_v8 Hv7.out
          go_wp2_with fail
          refine (HN2.out _).mono ?_; rintro e v9 ⟨rfl, hkv9⟩
          clear cb0 cb1 cb2 cb3 cb4 cb5 cb6 cb7 cb8 e5_0 e5_1 e6_0 e6_1 e7_0 e7_1
          have Z_v9 : Kp [] w v9 := by first | exact Z_v8.trans hkv9 | exact Z_v8.trans (((Kp.refl _ _).alloc _).trans hkv9) | exact Z_v8.trans ((Kp.refl _ _).drew.trans hkv9)
          have K_WB_v9 : Kp [] WB v9 := by first | exact K_WB_v8.trans hkv9 | exact K_WB_v8.trans (((Kp.refl _ _).alloc _).trans hkv9) | exact K_WB_v8.trans ((Kp.refl _ _).drew.trans hkv9)
          obtain ⟨cb0, cb1, cb2, cb3, cb4, cb5, cb6, cb7, cb8⟩ := box9k K_WB_v9 HCB.out
          have K_v5a_v9 : Kp [] v5a v9 := by first | exact K_v5a_v8.trans hkv9 | exact K_v5a_v8.trans (((Kp.refl _ _).alloc _).trans hkv9) | exact K_v5a_v8.trans ((Kp.refl _ _).drew.trans hkv9)
          obtain ⟨e5_0, e5_1⟩ := box2k K_v5a_v9 Hv5.out
          have K_v6a_v9 : Kp [] v6a v9 := by first | exact K_v6a_v8.trans hkv9 | exact K_v6a_v8.trans (((Kp.refl _ _).alloc _).trans hkv9) | exact K_v6a_v8.trans ((Kp.refl _ _).drew.trans hkv9)
          obtain ⟨e6_0, e6_1⟩ := box2k K_v6a_v9 Hv6.out
          have K_v7a_v9 : Kp [] v7a v9 := by first | exact K_v7a_v8.trans hkv9 | exact K_v7a_v8.trans (((Kp.refl _ _).alloc _).trans hkv9) | exact K_v7a_v8.trans ((Kp.refl _ _).drew.trans hkv9)
          obtain ⟨e7_0, e7_1⟩ := box2k K_v7a_v9 Hv7.out
          go_wp2_with fail
          go_ret
          exact ⟨by first | rfl | simp, by first | exact Z_v9 | exact Z_v9.alloc _ | exact Z_v9.drew | exact Z_v9.drewN _⟩
        · have HLI := Lib.hid lives20_calls
          have HRM : Hid (∀ w : World, Calls Try.prog 12 #[.agg #[.int .i64 q.k, .int .i64 q.a.1, .int .i64 q.a.2, .int .i64 q.b.1, .int .i64 q.b.2, .int .i64 q.c.1, .int .i64 q.c.2, .int .i64 q.d.1, .int .i64 q.d.2]] w fun e w' => e = .returned (.bool true) ∧ Kp [] w w') := fun w => by have := rmayw_calls q w; rw [hm] at this; exact this
          obtain ⟨hp1, hp2⟩ := pieces_bounds (needsQ q)
          have HPC : Hid (∀ w : World, Calls Try.prog 9 #[.agg #[.int .i64 q.k, .int .i64 q.a.1, .int .i64 q.a.2, .int .i64 q.b.1, .int .i64 q.b.2, .int .i64 q.c.1, .int .i64 q.c.2, .int .i64 q.d.1, .int .i64 q.d.2]] w fun e w' => e = .returned (.int .i64 (piecesQ (needsQ q))) ∧ Kp [] w w') := fun w => cpieces_calls q hm w
          have HNE : Hid (∀ w : World, Calls Try.prog 20 #[.agg #[.int .i64 q.k, .int .i64 q.a.1, .int .i64 q.a.2, .int .i64 q.b.1, .int .i64 q.b.2, .int .i64 q.c.1, .int .i64 q.c.2, .int .i64 q.d.1, .int .i64 q.d.2]] w fun e w' => e = .returned (.int .i64 (needsQ q)) ∧ Kp [] w w') := fun w => rneeds_calls q hm w
          have hc1 : decide (S < needsQ q) = false := decide_eq_false hc
          have hc2 : decide (i < 0) = false := decide_eq_false (by omega)
          have hin' : (piecesQ (needsQ q) : Int) ≤ i := by omega
          have hq1 : decide ((piecesQ (needsQ q) : Int) < 1) = false := decide_eq_false (by omega)
          have hq2 : decide ((256 : Int) < (piecesQ (needsQ q) : Int)) = false := decide_eq_false (by omega)
          have hq3 : (1 : Int) ≤ piecesQ (needsQ q) := by omega
          have hq4 : (piecesQ (needsQ q) : Int) ≤ 256 := by omega
          clear hm hS
          generalize piecesQ (needsQ q) = P at *
          generalize needsQ q = NE at *
          have hKW : Kp [] w (w.alloc (.cells #[.int .i64 q.k, .int .i64 q.a.1, .int .i64 q.a.2, .int .i64 q.b.1, .int .i64 q.b.2, .int .i64 q.c.1, .int .i64 q.c.2, .int .i64 q.d.1, .int .i64 q.d.2] 25)) := (Kp.refl _ _).alloc _
          have hcb := box9 (Kp.refl [] (w.alloc (.cells #[.int .i64 q.k, .int .i64 q.a.1, .int .i64 q.a.2, .int .i64 q.b.1, .int .i64 q.b.2, .int .i64 q.c.1, .int .i64 q.c.2, .int .i64 q.d.1, .int .i64 q.d.2] 25)))
          go_enter Try.func6, Try.ntmps6
          go_wp2_with fail
          generalize (w.alloc (.cells #[.int .i64 q.k, .int .i64 q.a.1, .int .i64 q.a.2, .int .i64 q.b.1, .int .i64 q.b.2, .int .i64 q.c.1, .int .i64 q.c.2, .int .i64 q.d.1, .int .i64 q.d.2] 25)) = WB at *
          generalize w.heap.size = BX at *
          have HCB := Lib.hid hcb
          clear hcb
          have Z_WB : Kp [] w WB := hKW
          have K_WB_WB : Kp [] WB WB := Kp.refl _ _
          obtain ⟨cb0, cb1, cb2, cb3, cb4, cb5, cb6, cb7, cb8⟩ := HCB.out
          refine (HRM.out _).mono ?_; rintro e v1 ⟨rfl, hkv1⟩
          clear cb0 cb1 cb2 cb3 cb4 cb5 cb6 cb7 cb8
          have Z_v1 : Kp [] w v1 := by first | exact Z_WB.trans hkv1 | exact Z_WB.trans (((Kp.refl _ _).alloc _).trans hkv1) | exact Z_WB.trans ((Kp.refl _ _).drew.trans hkv1)
          have K_WB_v1 : Kp [] WB v1 := by first | exact K_WB_WB.trans hkv1 | exact K_WB_WB.trans (((Kp.refl _ _).alloc _).trans hkv1) | exact K_WB_WB.trans ((Kp.refl _ _).drew.trans hkv1)
          obtain ⟨cb0, cb1, cb2, cb3, cb4, cb5, cb6, cb7, cb8⟩ := box9k K_WB_v1 HCB.out
          go_wp2_with fail
          refine (HPC.out _).mono ?_; rintro e v2 ⟨rfl, hkv2⟩
          clear cb0 cb1 cb2 cb3 cb4 cb5 cb6 cb7 cb8
          have Z_v2 : Kp [] w v2 := by first | exact Z_v1.trans hkv2 | exact Z_v1.trans (((Kp.refl _ _).alloc _).trans hkv2) | exact Z_v1.trans ((Kp.refl _ _).drew.trans hkv2)
          have K_WB_v2 : Kp [] WB v2 := by first | exact K_WB_v1.trans hkv2 | exact K_WB_v1.trans (((Kp.refl _ _).alloc _).trans hkv2) | exact K_WB_v1.trans ((Kp.refl _ _).drew.trans hkv2)
          obtain ⟨cb0, cb1, cb2, cb3, cb4, cb5, cb6, cb7, cb8⟩ := box9k K_WB_v2 HCB.out
          go_wp2_with fail
          refine (HLI.out _).mono ?_; rintro e v3 ⟨rfl, hkv3⟩
          clear cb0 cb1 cb2 cb3 cb4 cb5 cb6 cb7 cb8
          have Z_v3 : Kp [] w v3 := by first | exact Z_v2.trans hkv3 | exact Z_v2.trans (((Kp.refl _ _).alloc _).trans hkv3) | exact Z_v2.trans ((Kp.refl _ _).drew.trans hkv3)
          have K_WB_v3 : Kp [] WB v3 := by first | exact K_WB_v2.trans hkv3 | exact K_WB_v2.trans (((Kp.refl _ _).alloc _).trans hkv3) | exact K_WB_v2.trans ((Kp.refl _ _).drew.trans hkv3)
          obtain ⟨cb0, cb1, cb2, cb3, cb4, cb5, cb6, cb7, cb8⟩ := box9k K_WB_v3 HCB.out
          go_wp2_with fail
          refine (HNE.out _).mono ?_; rintro e v4 ⟨rfl, hkv4⟩
          clear cb0 cb1 cb2 cb3 cb4 cb5 cb6 cb7 cb8
          have Z_v4 : Kp [] w v4 := by first | exact Z_v3.trans hkv4 | exact Z_v3.trans (((Kp.refl _ _).alloc _).trans hkv4) | exact Z_v3.trans ((Kp.refl _ _).drew.trans hkv4)
          have K_WB_v4 : Kp [] WB v4 := by first | exact K_WB_v3.trans hkv4 | exact K_WB_v3.trans (((Kp.refl _ _).alloc _).trans hkv4) | exact K_WB_v3.trans ((Kp.refl _ _).drew.trans hkv4)
          obtain ⟨cb0, cb1, cb2, cb3, cb4, cb5, cb6, cb7, cb8⟩ := box9k K_WB_v4 HCB.out
          go_wp2_with fail
          refine (HLI.out _).mono ?_; rintro e v5 ⟨rfl, hkv5⟩
          clear cb0 cb1 cb2 cb3 cb4 cb5 cb6 cb7 cb8
          have Z_v5 : Kp [] w v5 := by first | exact Z_v4.trans hkv5 | exact Z_v4.trans (((Kp.refl _ _).alloc _).trans hkv5) | exact Z_v4.trans ((Kp.refl _ _).drew.trans hkv5)
          have K_WB_v5 : Kp [] WB v5 := by first | exact K_WB_v4.trans hkv5 | exact K_WB_v4.trans (((Kp.refl _ _).alloc _).trans hkv5) | exact K_WB_v4.trans ((Kp.refl _ _).drew.trans hkv5)
          obtain ⟨cb0, cb1, cb2, cb3, cb4, cb5, cb6, cb7, cb8⟩ := box9k K_WB_v5 HCB.out
          go_wp2_with fail
          go_ret
          exact ⟨by first | rfl | simp, by first | exact Z_v5 | exact Z_v5.alloc _ | exact Z_v5.drew | exact Z_v5.drewN _⟩
end Go.Proofs.Ytfdognnjghdikaa

/- The reference's At. (Written by wip/curve/gencur.py.) -/
import Derived.Test.YtpbmefojhgcniaaCuC
namespace Go.Proofs.Ytpbmefojhgcniaa
open Go.RowKit
set_option linter.unusedVariables false
set_option linter.unusedSimpArgs false
theorem mulB {x m : Int} (y : Int) (h1 : 0 ≤ x) (h2 : x ≤ m) (h3 : -1048576 ≤ y) (h4 : y ≤ 1048576) : -(m * 1048576) ≤ x * y ∧ x * y ≤ m * 1048576 := by
  have e1 := Int.mul_le_mul_of_nonneg_left h4 h1
  have e2 := Int.mul_le_mul_of_nonneg_left h3 h1
  omega
theorem blk2 {w : World} {B : Nat} {t : TypeId} {v0 v1 : Value} (h : w.heap[B]? = some (.cells #[v0, v1] t (0, 0))) :
    w.cell? ⟨B, 0, none⟩ = some v0 ∧ w.cell? ⟨B, 1, none⟩ = some v1 ∧ w.frozen? ⟨B, 0, none⟩ = false ∧ w.frozen? ⟨B, 1, none⟩ = false :=
  ⟨by rw [cell_of_row w B 0 _ _ _ h]; rfl, by rw [cell_of_row w B 1 _ _ _ h]; rfl, frozen_of_row w B 0 _ _ h, frozen_of_row w B 1 _ _ h⟩
theorem box4 {w W : World} {t : TypeId} {v0 v1 v2 v3 : Value} (hk : Kp [] (w.alloc (.cells #[v0, v1, v2, v3] t)) W) :
    W.cell? ⟨w.heap.size, 0, none⟩ = some v0 ∧ W.cell? ⟨w.heap.size, 1, none⟩ = some v1 ∧ W.cell? ⟨w.heap.size, 2, none⟩ = some v2 ∧ W.cell? ⟨w.heap.size, 3, none⟩ = some v3 :=
  have g := fun (j : Nat) => cell_of_row (w.alloc (.cells #[v0, v1, v2, v3] t)) w.heap.size j _ t (0, 0) (heap_alloc_new w _)
  ⟨hk.cell (g 0) (by simp), hk.cell (g 1) (by simp), hk.cell (g 2) (by simp), hk.cell (g 3) (by simp)⟩
theorem cubeB {x y z a b c : Int} (x0 : 0 ≤ x) (x1 : x ≤ a) (y0 : 0 ≤ y) (y1 : y ≤ b) (z0 : 0 ≤ z) (z1 : z ≤ c) : 0 ≤ x * y * z ∧ x * y * z ≤ a * b * c :=
  have h := mul_upTo x0 x1 y0 y1
  mul_upTo h.1 h.2 z0 z1
set_option maxRecDepth 100000 in
set_option maxHeartbeats 4000000 in
theorem rat_1 (a1 a2 b1 b2 c1 c2 d1 d2 : Int) (hm : mayW ⟨1, (a1, a2), (b1, b2), (c1, c2), (d1, d2)⟩ = true) (i n : Int) (hn : 1 ≤ n) (hn2 : n ≤ 512) (hi : 0 ≤ i) (hin : i ≤ n) (w : World) :
    Calls Try.prog 43 #[.agg #[.int .i64 1, .int .i64 a1, .int .i64 a2, .int .i64 b1, .int .i64 b2, .int .i64 c1, .int .i64 c2, .int .i64 d1, .int .i64 d2], .int .i64 i, .int .i64 n] w fun e w' => e = .returned (dotV (atQ ⟨1, (a1, a2), (b1, b2), (c1, c2), (d1, d2)⟩ i n)) ∧ Kp [] w w' := by
  have hi2 : i ≤ 512 := by omega
  rw [may_1 rfl] at hm
  simp only [Bool.and_eq_true, dotQ_iff] at hm
  obtain ⟨⟨⟨xa1, xa2⟩, xa3, xa4⟩, ⟨⟨xd1, xd2⟩, xd3, xd4⟩⟩ := hm
  try simp only at xa1 xa2 xa3 xa4 xd1 xd2 xd3 xd4
  have f1 : 0 ≤ n - i := by omega
  have f2 : n - i ≤ 512 := by omega
  have HE : Hid (dotV (atQ ⟨1, (a1, a2), (b1, b2), (c1, c2), (d1, d2)⟩ i n) = .agg #[.int .i64 (nearQ ((n - i) * a1 + 0 * 0 + 0 * 0 + i * d1) n), .int .i64 (nearQ ((n - i) * a2 + 0 * 0 + 0 * 0 + i * d2) n)]) := by
    have e1 : nearQ ((n - i) * a1 + 0 * 0 + 0 * 0 + i * d1) n = nearQ (sum1 i (n - i) a1 d1) n := by unfold sum1; simp
    have e2 : nearQ ((n - i) * a2 + 0 * 0 + 0 * 0 + i * d2) n = nearQ (sum1 i (n - i) a2 d2) n := by unfold sum1; simp
    rw [Hid, e1, e2]; rfl
  have Ha1 : Hid (-1125899906842624 ≤ (n - i) * a1 ∧ (n - i) * a1 ≤ 1125899906842624) := by have := mulB a1 f1 f2 (by omega) (by omega); constructor <;> omega
  have Hd1 : Hid (-1125899906842624 ≤ i * d1 ∧ i * d1 ≤ 1125899906842624) := by have := mulB d1 hi hi2 (by omega) (by omega); constructor <;> omega
  have Ha2 : Hid (-1125899906842624 ≤ (n - i) * a2 ∧ (n - i) * a2 ≤ 1125899906842624) := by have := mulB a2 f1 f2 (by omega) (by omega); constructor <;> omega
  have Hd2 : Hid (-1125899906842624 ≤ i * d2 ∧ i * d2 ≤ 1125899906842624) := by have := mulB d2 hi hi2 (by omega) (by omega); constructor <;> omega
  have HN : Hid (1 ≤ n ∧ n ≤ 1073741824) := ⟨hn, by omega⟩
  have hKW : Kp [] w (((w.alloc (.cells #[.int .i64 1, .int .i64 a1, .int .i64 a2, .int .i64 0, .int .i64 0, .int .i64 0, .int .i64 0, .int .i64 d1, .int .i64 d2] 71)).alloc (.cells #[.int .i64 0, .int .i64 0] 27)).alloc (.cells #[.int .i64 (n - i), .int .i64 0, .int .i64 0, .int .i64 i] 97)) := (((Kp.refl _ _).alloc _).alloc _).alloc _
  have K9 : Kp [] (w.alloc (.cells #[.int .i64 1, .int .i64 a1, .int .i64 a2, .int .i64 0, .int .i64 0, .int .i64 0, .int .i64 0, .int .i64 d1, .int .i64 d2] 71)) (((w.alloc (.cells #[.int .i64 1, .int .i64 a1, .int .i64 a2, .int .i64 0, .int .i64 0, .int .i64 0, .int .i64 0, .int .i64 d1, .int .i64 d2] 71)).alloc (.cells #[.int .i64 0, .int .i64 0] 27)).alloc (.cells #[.int .i64 (n - i), .int .i64 0, .int .i64 0, .int .i64 i] 97)) := ((Kp.refl _ _).alloc _).alloc _
  have K2 : Kp [] ((w.alloc (.cells #[.int .i64 1, .int .i64 a1, .int .i64 a2, .int .i64 0, .int .i64 0, .int .i64 0, .int .i64 0, .int .i64 d1, .int .i64 d2] 71)).alloc (.cells #[.int .i64 0, .int .i64 0] 27)) (((w.alloc (.cells #[.int .i64 1, .int .i64 a1, .int .i64 a2, .int .i64 0, .int .i64 0, .int .i64 0, .int .i64 0, .int .i64 d1, .int .i64 d2] 71)).alloc (.cells #[.int .i64 0, .int .i64 0] 27)).alloc (.cells #[.int .i64 (n - i), .int .i64 0, .int .i64 0, .int .i64 i] 97)) := (Kp.refl _ _).alloc _
  obtain ⟨cb0, cb1, cb2, cb3, cb4, cb5, cb6, cb7, cb8⟩ := box9 K9
  have hblk := K2.heap (heap_alloc_new (w.alloc (.cells #[.int .i64 1, .int .i64 a1, .int .i64 a2, .int .i64 0, .int .i64 0, .int .i64 0, .int .i64 0, .int .i64 d1, .int .i64 d2] 71)) (.cells #[.int .i64 0, .int .i64 0] 27)) (by simp)
  obtain ⟨cw0, cw1, cw2, cw3⟩ := box4 (Kp.refl [] (((w.alloc (.cells #[.int .i64 1, .int .i64 a1, .int .i64 a2, .int .i64 0, .int .i64 0, .int .i64 0, .int .i64 0, .int .i64 d1, .int .i64 d2] 71)).alloc (.cells #[.int .i64 0, .int .i64 0] 27)).alloc (.cells #[.int .i64 (n - i), .int .i64 0, .int .i64 0, .int .i64 i] 97)))
  rw [show (w.alloc (.cells #[.int .i64 1, .int .i64 a1, .int .i64 a2, .int .i64 0, .int .i64 0, .int .i64 0, .int .i64 0, .int .i64 d1, .int .i64 d2] 71)).heap.size = w.heap.size + 1 by simp] at hblk
  rw [show ((w.alloc (.cells #[.int .i64 1, .int .i64 a1, .int .i64 a2, .int .i64 0, .int .i64 0, .int .i64 0, .int .i64 0, .int .i64 d1, .int .i64 d2] 71)).alloc (.cells #[.int .i64 0, .int .i64 0] 27)).heap.size = w.heap.size + 1 + 1 by simp] at cw0 cw1 cw2 cw3
  clear K9 K2 cb0
  go_enter Try.func43, Try.ntmps43
  go_wp2_with fail
  generalize (((w.alloc (.cells #[.int .i64 1, .int .i64 a1, .int .i64 a2, .int .i64 0, .int .i64 0, .int .i64 0, .int .i64 0, .int .i64 d1, .int .i64 d2] 71)).alloc (.cells #[.int .i64 0, .int .i64 0] 27)).alloc (.cells #[.int .i64 (n - i), .int .i64 0, .int .i64 0, .int .i64 i] 97)) = WB at *
  have ccb1 := KW.cell cb1
  have ccb2 := KW.cell cb2
  have ccb3 := KW.cell cb3
  have ccb4 := KW.cell cb4
  have ccb5 := KW.cell cb5
  have ccb6 := KW.cell cb6
  have ccb7 := KW.cell cb7
  have ccb8 := KW.cell cb8
  have ccw0 := KW.cell cw0
  have ccw1 := KW.cell cw1
  have ccw2 := KW.cell cw2
  have ccw3 := KW.cell cw3
  clear cb1 cb2 cb3 cb4 cb5 cb6 cb7 cb8 cw0 cw1 cw2 cw3
  refine wp_region_kqt 31 (by kernel_rfl) (by kernel_rfl) ?_
  simp only [List.take_succ_cons, List.take_zero, List.drop_succ_cons, List.drop_zero]
  repeat (go_big_quiet_step ((go_at_call 64; refine Calls.kq (rweigh_calls _ _ _ _ _ _ _ _ _ ?_ ?_ ?_ ?_ ?_ ?_ _) <;> first | exact HN.out.1 | exact HN.out.2 | exact Ha1.out | exact Hd1.out | exact Ha2.out | exact Hd2.out | (constructor <;> simp))))
  refine wpQuiet_nil ?_
  intro u1 hw'
  obtain ⟨⟨_, hku1⟩, rfl⟩ := hw'
  try dsimp only
  clear ccb1 ccb2 ccb3 ccb4 ccb5 ccb6 ccb7 ccb8 ccw0 ccw1 ccw2 ccw3
  obtain ⟨rr2, rr3, rf2, rf3⟩ := blk2 (hku1.heap hblk (by simp))
  have hk1 := hKW.trans hku1
  clear hKW hku1 hblk
  go_wp2_with fail
  refine bodyPost_ret (v := .agg #[.int .i64 (nearQ ((n - i) * a1 + 0 * 0 + 0 * 0 + i * d1) n), .int .i64 (nearQ ((n - i) * a2 + 0 * 0 + 0 * 0 + i * d2) n)]) (by simp [results, Try.results43, go_sem, rr2, rr3]) rfl ⟨by rw [HE.out], by (repeat (first | exact Kp.refl _ _ | assumption | refine Kp.drew ?_ | refine Kp.drewN ?_ _ | refine Kp.alloc ?_ _ | (refine Kp.setCell ?_ (by first | (left; simp; done) | (right; simp; try omega)) _) | (refine Kp.trans' ?_ (by assumption) (by simp; try omega))))⟩
set_option maxRecDepth 100000 in
set_option maxHeartbeats 4000000 in
theorem rat_2 (a1 a2 b1 b2 c1 c2 d1 d2 : Int) (hm : mayW ⟨2, (a1, a2), (b1, b2), (c1, c2), (d1, d2)⟩ = true) (i n : Int) (hn : 1 ≤ n) (hn2 : n ≤ 512) (hi : 0 ≤ i) (hin : i ≤ n) (w : World) :
    Calls Try.prog 43 #[.agg #[.int .i64 2, .int .i64 a1, .int .i64 a2, .int .i64 b1, .int .i64 b2, .int .i64 c1, .int .i64 c2, .int .i64 d1, .int .i64 d2], .int .i64 i, .int .i64 n] w fun e w' => e = .returned (dotV (atQ ⟨2, (a1, a2), (b1, b2), (c1, c2), (d1, d2)⟩ i n)) ∧ Kp [] w w' := by
  have hi2 : i ≤ 512 := by omega
  rw [may_2 rfl] at hm
  simp only [Bool.and_eq_true, dotQ_iff] at hm
  obtain ⟨⟨⟨xa1, xa2⟩, xa3, xa4⟩, ⟨⟨xb1, xb2⟩, xb3, xb4⟩, ⟨⟨xd1, xd2⟩, xd3, xd4⟩⟩ := hm
  try simp only at xa1 xa2 xa3 xa4 xb1 xb2 xb3 xb4 xd1 xd2 xd3 xd4
  have f1 : 0 ≤ n - i := by omega
  have f2 : n - i ≤ 512 := by omega
  obtain ⟨g1, g2⟩ := mul_upTo f1 f2 f1 f2
  obtain ⟨g3, g4⟩ := cubeB (show (0 : Int) ≤ 2 by omega) (Int.le_refl 2) hi hi2 f1 f2
  obtain ⟨g5, g6⟩ := mul_upTo hi hi2 hi hi2
  obtain ⟨g7, g8⟩ := mul_upTo (show (0 : Int) ≤ n by omega) hn2 (show (0 : Int) ≤ n by omega) hn2
  have g9 : 1 ≤ n * n := Int.mul_pos (show 0 < n by omega) (show 0 < n by omega)
  have q1 := wrapI ((n - i) * (n - i)) (by omega) (by omega)
  have q2 := wrapI (2 * i * (n - i)) (by omega) (by omega)
  have q3 := wrapI (i * i) (by omega) (by omega)
  have q4 := wrapI (n * n) (by omega) (by omega)
  have HE : Hid (dotV (atQ ⟨2, (a1, a2), (b1, b2), (c1, c2), (d1, d2)⟩ i n) = .agg #[.int .i64 (nearQ ((n - i) * (n - i) * a1 + 2 * i * (n - i) * b1 + 0 * 0 + i * i * d1) (n * n)), .int .i64 (nearQ ((n - i) * (n - i) * a2 + 2 * i * (n - i) * b2 + 0 * 0 + i * i * d2) (n * n))]) := by
    have e1 : nearQ ((n - i) * (n - i) * a1 + 2 * i * (n - i) * b1 + 0 * 0 + i * i * d1) (n * n) = nearQ (sum2 i (n - i) a1 b1 d1) (n * n) := by unfold sum2; simp
    have e2 : nearQ ((n - i) * (n - i) * a2 + 2 * i * (n - i) * b2 + 0 * 0 + i * i * d2) (n * n) = nearQ (sum2 i (n - i) a2 b2 d2) (n * n) := by unfold sum2; simp
    rw [Hid, e1, e2]; rfl
  have Ha1 : Hid (-1125899906842624 ≤ (n - i) * (n - i) * a1 ∧ (n - i) * (n - i) * a1 ≤ 1125899906842624) := by have := mulB a1 g1 g2 (by omega) (by omega); constructor <;> omega
  have Hb1 : Hid (-1125899906842624 ≤ 2 * i * (n - i) * b1 ∧ 2 * i * (n - i) * b1 ≤ 1125899906842624) := by have := mulB b1 g3 g4 (by omega) (by omega); constructor <;> omega
  have Hd1 : Hid (-1125899906842624 ≤ i * i * d1 ∧ i * i * d1 ≤ 1125899906842624) := by have := mulB d1 g5 g6 (by omega) (by omega); constructor <;> omega
  have Ha2 : Hid (-1125899906842624 ≤ (n - i) * (n - i) * a2 ∧ (n - i) * (n - i) * a2 ≤ 1125899906842624) := by have := mulB a2 g1 g2 (by omega) (by omega); constructor <;> omega
  have Hb2 : Hid (-1125899906842624 ≤ 2 * i * (n - i) * b2 ∧ 2 * i * (n - i) * b2 ≤ 1125899906842624) := by have := mulB b2 g3 g4 (by omega) (by omega); constructor <;> omega
  have Hd2 : Hid (-1125899906842624 ≤ i * i * d2 ∧ i * i * d2 ≤ 1125899906842624) := by have := mulB d2 g5 g6 (by omega) (by omega); constructor <;> omega
  have HN : Hid (1 ≤ n * n ∧ n * n ≤ 1073741824) := ⟨g9, by omega⟩
  have hKW : Kp [] w (((w.alloc (.cells #[.int .i64 2, .int .i64 a1, .int .i64 a2, .int .i64 b1, .int .i64 b2, .int .i64 0, .int .i64 0, .int .i64 d1, .int .i64 d2] 71)).alloc (.cells #[.int .i64 0, .int .i64 0] 27)).alloc (.cells #[.int .i64 ((n - i) * (n - i)), .int .i64 (2 * i * (n - i)), .int .i64 0, .int .i64 (i * i)] 97)) := (((Kp.refl _ _).alloc _).alloc _).alloc _
  have K9 : Kp [] (w.alloc (.cells #[.int .i64 2, .int .i64 a1, .int .i64 a2, .int .i64 b1, .int .i64 b2, .int .i64 0, .int .i64 0, .int .i64 d1, .int .i64 d2] 71)) (((w.alloc (.cells #[.int .i64 2, .int .i64 a1, .int .i64 a2, .int .i64 b1, .int .i64 b2, .int .i64 0, .int .i64 0, .int .i64 d1, .int .i64 d2] 71)).alloc (.cells #[.int .i64 0, .int .i64 0] 27)).alloc (.cells #[.int .i64 ((n - i) * (n - i)), .int .i64 (2 * i * (n - i)), .int .i64 0, .int .i64 (i * i)] 97)) := ((Kp.refl _ _).alloc _).alloc _
  have K2 : Kp [] ((w.alloc (.cells #[.int .i64 2, .int .i64 a1, .int .i64 a2, .int .i64 b1, .int .i64 b2, .int .i64 0, .int .i64 0, .int .i64 d1, .int .i64 d2] 71)).alloc (.cells #[.int .i64 0, .int .i64 0] 27)) (((w.alloc (.cells #[.int .i64 2, .int .i64 a1, .int .i64 a2, .int .i64 b1, .int .i64 b2, .int .i64 0, .int .i64 0, .int .i64 d1, .int .i64 d2] 71)).alloc (.cells #[.int .i64 0, .int .i64 0] 27)).alloc (.cells #[.int .i64 ((n - i) * (n - i)), .int .i64 (2 * i * (n - i)), .int .i64 0, .int .i64 (i * i)] 97)) := (Kp.refl _ _).alloc _
  obtain ⟨cb0, cb1, cb2, cb3, cb4, cb5, cb6, cb7, cb8⟩ := box9 K9
  have hblk := K2.heap (heap_alloc_new (w.alloc (.cells #[.int .i64 2, .int .i64 a1, .int .i64 a2, .int .i64 b1, .int .i64 b2, .int .i64 0, .int .i64 0, .int .i64 d1, .int .i64 d2] 71)) (.cells #[.int .i64 0, .int .i64 0] 27)) (by simp)
  obtain ⟨cw0, cw1, cw2, cw3⟩ := box4 (Kp.refl [] (((w.alloc (.cells #[.int .i64 2, .int .i64 a1, .int .i64 a2, .int .i64 b1, .int .i64 b2, .int .i64 0, .int .i64 0, .int .i64 d1, .int .i64 d2] 71)).alloc (.cells #[.int .i64 0, .int .i64 0] 27)).alloc (.cells #[.int .i64 ((n - i) * (n - i)), .int .i64 (2 * i * (n - i)), .int .i64 0, .int .i64 (i * i)] 97)))
  rw [show (w.alloc (.cells #[.int .i64 2, .int .i64 a1, .int .i64 a2, .int .i64 b1, .int .i64 b2, .int .i64 0, .int .i64 0, .int .i64 d1, .int .i64 d2] 71)).heap.size = w.heap.size + 1 by simp] at hblk
  rw [show ((w.alloc (.cells #[.int .i64 2, .int .i64 a1, .int .i64 a2, .int .i64 b1, .int .i64 b2, .int .i64 0, .int .i64 0, .int .i64 d1, .int .i64 d2] 71)).alloc (.cells #[.int .i64 0, .int .i64 0] 27)).heap.size = w.heap.size + 1 + 1 by simp] at cw0 cw1 cw2 cw3
  clear K9 K2 cb0
  go_enter Try.func43, Try.ntmps43
  go_wp2_with fail
  generalize (((w.alloc (.cells #[.int .i64 2, .int .i64 a1, .int .i64 a2, .int .i64 b1, .int .i64 b2, .int .i64 0, .int .i64 0, .int .i64 d1, .int .i64 d2] 71)).alloc (.cells #[.int .i64 0, .int .i64 0] 27)).alloc (.cells #[.int .i64 ((n - i) * (n - i)), .int .i64 (2 * i * (n - i)), .int .i64 0, .int .i64 (i * i)] 97)) = WB at *
  have ccb1 := KW.cell cb1
  have ccb2 := KW.cell cb2
  have ccb3 := KW.cell cb3
  have ccb4 := KW.cell cb4
  have ccb5 := KW.cell cb5
  have ccb6 := KW.cell cb6
  have ccb7 := KW.cell cb7
  have ccb8 := KW.cell cb8
  have ccw0 := KW.cell cw0
  have ccw1 := KW.cell cw1
  have ccw2 := KW.cell cw2
  have ccw3 := KW.cell cw3
  clear cb1 cb2 cb3 cb4 cb5 cb6 cb7 cb8 cw0 cw1 cw2 cw3
  refine wp_region_kqt 31 (by kernel_rfl) (by kernel_rfl) ?_
  simp only [List.take_succ_cons, List.take_zero, List.drop_succ_cons, List.drop_zero]
  repeat (go_big_quiet_step ((go_at_call 64; refine Calls.kq (rweigh_calls _ _ _ _ _ _ _ _ _ ?_ ?_ ?_ ?_ ?_ ?_ _) <;> first | exact HN.out.1 | exact HN.out.2 | exact Ha1.out | exact Hb1.out | exact Hd1.out | exact Ha2.out | exact Hb2.out | exact Hd2.out | (constructor <;> simp))))
  refine wpQuiet_nil ?_
  intro u1 hw'
  obtain ⟨⟨_, hku1⟩, rfl⟩ := hw'
  try dsimp only
  clear ccb1 ccb2 ccb3 ccb4 ccb5 ccb6 ccb7 ccb8 ccw0 ccw1 ccw2 ccw3
  obtain ⟨rr2, rr3, rf2, rf3⟩ := blk2 (hku1.heap hblk (by simp))
  have hk1 := hKW.trans hku1
  clear hKW hku1 hblk
  go_wp2_with fail
  refine bodyPost_ret (v := .agg #[.int .i64 (nearQ ((n - i) * (n - i) * a1 + 2 * i * (n - i) * b1 + 0 * 0 + i * i * d1) (n * n)), .int .i64 (nearQ ((n - i) * (n - i) * a2 + 2 * i * (n - i) * b2 + 0 * 0 + i * i * d2) (n * n))]) (by simp [results, Try.results43, go_sem, rr2, rr3]) rfl ⟨by rw [HE.out], by (repeat (first | exact Kp.refl _ _ | assumption | refine Kp.drew ?_ | refine Kp.drewN ?_ _ | refine Kp.alloc ?_ _ | (refine Kp.setCell ?_ (by first | (left; simp; done) | (right; simp; try omega)) _) | (refine Kp.trans' ?_ (by assumption) (by simp; try omega))))⟩
set_option maxRecDepth 100000 in
set_option maxHeartbeats 4000000 in
theorem rat_3 (a1 a2 b1 b2 c1 c2 d1 d2 : Int) (hm : mayW ⟨3, (a1, a2), (b1, b2), (c1, c2), (d1, d2)⟩ = true) (i n : Int) (hn : 1 ≤ n) (hn2 : n ≤ 512) (hi : 0 ≤ i) (hin : i ≤ n) (w : World) :
    Calls Try.prog 43 #[.agg #[.int .i64 3, .int .i64 a1, .int .i64 a2, .int .i64 b1, .int .i64 b2, .int .i64 c1, .int .i64 c2, .int .i64 d1, .int .i64 d2], .int .i64 i, .int .i64 n] w fun e w' => e = .returned (dotV (atQ ⟨3, (a1, a2), (b1, b2), (c1, c2), (d1, d2)⟩ i n)) ∧ Kp [] w w' := by
  have hi2 : i ≤ 512 := by omega
  rw [may_3 rfl] at hm
  simp only [Bool.and_eq_true, dotQ_iff] at hm
  obtain ⟨⟨⟨xa1, xa2⟩, xa3, xa4⟩, ⟨⟨xb1, xb2⟩, xb3, xb4⟩, ⟨⟨xc1, xc2⟩, xc3, xc4⟩, ⟨⟨xd1, xd2⟩, xd3, xd4⟩⟩ := hm
  try simp only at xa1 xa2 xa3 xa4 xb1 xb2 xb3 xb4 xc1 xc2 xc3 xc4 xd1 xd2 xd3 xd4
  have f1 : 0 ≤ n - i := by omega
  have f2 : n - i ≤ 512 := by omega
  obtain ⟨g1, g2⟩ := cubeB f1 f2 f1 f2 f1 f2
  obtain ⟨g3, g4⟩ := cubeB (show (0 : Int) ≤ 3 by omega) (Int.le_refl 3) hi hi2 f1 f2
  obtain ⟨g5, g6⟩ := mul_upTo g3 g4 f1 f2
  obtain ⟨g7, g8⟩ := cubeB (show (0 : Int) ≤ 3 by omega) (Int.le_refl 3) hi hi2 hi hi2
  obtain ⟨g9, g10⟩ := mul_upTo g7 g8 f1 f2
  obtain ⟨g11, g12⟩ := cubeB hi hi2 hi hi2 hi hi2
  obtain ⟨g13, g14⟩ := cubeB (show (0 : Int) ≤ n by omega) hn2 (show (0 : Int) ≤ n by omega) hn2 (show (0 : Int) ≤ n by omega) hn2
  have g15 : 1 ≤ n * n * n := Int.mul_pos (Int.mul_pos (show 0 < n by omega) (show 0 < n by omega)) (show 0 < n by omega)
  obtain ⟨g16, g17⟩ := mul_upTo f1 f2 f1 f2
  obtain ⟨g18, g19⟩ := mul_upTo hi hi2 hi hi2
  obtain ⟨g20, g21⟩ := mul_upTo (show (0 : Int) ≤ n by omega) hn2 (show (0 : Int) ≤ n by omega) hn2
  have q1 := wrapI ((n - i) * (n - i)) (by omega) (by omega)
  have q2 := wrapI ((n - i) * (n - i) * (n - i)) (by omega) (by omega)
  have q3 := wrapI (3 * i * (n - i)) (by omega) (by omega)
  have q4 := wrapI (3 * i * (n - i) * (n - i)) (by omega) (by omega)
  have q5 := wrapI (3 * i * i) (by omega) (by omega)
  have q6 := wrapI (3 * i * i * (n - i)) (by omega) (by omega)
  have q7 := wrapI (i * i) (by omega) (by omega)
  have q8 := wrapI (i * i * i) (by omega) (by omega)
  have q9 := wrapI (n * n) (by omega) (by omega)
  have q10 := wrapI (n * n * n) (by omega) (by omega)
  have HE : Hid (dotV (atQ ⟨3, (a1, a2), (b1, b2), (c1, c2), (d1, d2)⟩ i n) = .agg #[.int .i64 (nearQ ((n - i) * (n - i) * (n - i) * a1 + 3 * i * (n - i) * (n - i) * b1 + 3 * i * i * (n - i) * c1 + i * i * i * d1) (n * n * n)), .int .i64 (nearQ ((n - i) * (n - i) * (n - i) * a2 + 3 * i * (n - i) * (n - i) * b2 + 3 * i * i * (n - i) * c2 + i * i * i * d2) (n * n * n))]) := by
    have e1 : nearQ ((n - i) * (n - i) * (n - i) * a1 + 3 * i * (n - i) * (n - i) * b1 + 3 * i * i * (n - i) * c1 + i * i * i * d1) (n * n * n) = nearQ (sum3 i (n - i) a1 b1 c1 d1) (n * n * n) := by unfold sum3; simp
    have e2 : nearQ ((n - i) * (n - i) * (n - i) * a2 + 3 * i * (n - i) * (n - i) * b2 + 3 * i * i * (n - i) * c2 + i * i * i * d2) (n * n * n) = nearQ (sum3 i (n - i) a2 b2 c2 d2) (n * n * n) := by unfold sum3; simp
    rw [Hid, e1, e2]; rfl
  have Ha1 : Hid (-1125899906842624 ≤ (n - i) * (n - i) * (n - i) * a1 ∧ (n - i) * (n - i) * (n - i) * a1 ≤ 1125899906842624) := by have := mulB a1 g1 g2 (by omega) (by omega); constructor <;> omega
  have Hb1 : Hid (-1125899906842624 ≤ 3 * i * (n - i) * (n - i) * b1 ∧ 3 * i * (n - i) * (n - i) * b1 ≤ 1125899906842624) := by have := mulB b1 g5 g6 (by omega) (by omega); constructor <;> omega
  have Hc1 : Hid (-1125899906842624 ≤ 3 * i * i * (n - i) * c1 ∧ 3 * i * i * (n - i) * c1 ≤ 1125899906842624) := by have := mulB c1 g9 g10 (by omega) (by omega); constructor <;> omega
  have Hd1 : Hid (-1125899906842624 ≤ i * i * i * d1 ∧ i * i * i * d1 ≤ 1125899906842624) := by have := mulB d1 g11 g12 (by omega) (by omega); constructor <;> omega
  have Ha2 : Hid (-1125899906842624 ≤ (n - i) * (n - i) * (n - i) * a2 ∧ (n - i) * (n - i) * (n - i) * a2 ≤ 1125899906842624) := by have := mulB a2 g1 g2 (by omega) (by omega); constructor <;> omega
  have Hb2 : Hid (-1125899906842624 ≤ 3 * i * (n - i) * (n - i) * b2 ∧ 3 * i * (n - i) * (n - i) * b2 ≤ 1125899906842624) := by have := mulB b2 g5 g6 (by omega) (by omega); constructor <;> omega
  have Hc2 : Hid (-1125899906842624 ≤ 3 * i * i * (n - i) * c2 ∧ 3 * i * i * (n - i) * c2 ≤ 1125899906842624) := by have := mulB c2 g9 g10 (by omega) (by omega); constructor <;> omega
  have Hd2 : Hid (-1125899906842624 ≤ i * i * i * d2 ∧ i * i * i * d2 ≤ 1125899906842624) := by have := mulB d2 g11 g12 (by omega) (by omega); constructor <;> omega
  have HN : Hid (1 ≤ n * n * n ∧ n * n * n ≤ 1073741824) := ⟨g15, by omega⟩
  have hKW : Kp [] w (((w.alloc (.cells #[.int .i64 3, .int .i64 a1, .int .i64 a2, .int .i64 b1, .int .i64 b2, .int .i64 c1, .int .i64 c2, .int .i64 d1, .int .i64 d2] 71)).alloc (.cells #[.int .i64 0, .int .i64 0] 27)).alloc (.cells #[.int .i64 ((n - i) * (n - i) * (n - i)), .int .i64 (3 * i * (n - i) * (n - i)), .int .i64 (3 * i * i * (n - i)), .int .i64 (i * i * i)] 97)) := (((Kp.refl _ _).alloc _).alloc _).alloc _
  have K9 : Kp [] (w.alloc (.cells #[.int .i64 3, .int .i64 a1, .int .i64 a2, .int .i64 b1, .int .i64 b2, .int .i64 c1, .int .i64 c2, .int .i64 d1, .int .i64 d2] 71)) (((w.alloc (.cells #[.int .i64 3, .int .i64 a1, .int .i64 a2, .int .i64 b1, .int .i64 b2, .int .i64 c1, .int .i64 c2, .int .i64 d1, .int .i64 d2] 71)).alloc (.cells #[.int .i64 0, .int .i64 0] 27)).alloc (.cells #[.int .i64 ((n - i) * (n - i) * (n - i)), .int .i64 (3 * i * (n - i) * (n - i)), .int .i64 (3 * i * i * (n - i)), .int .i64 (i * i * i)] 97)) := ((Kp.refl _ _).alloc _).alloc _
  have K2 : Kp [] ((w.alloc (.cells #[.int .i64 3, .int .i64 a1, .int .i64 a2, .int .i64 b1, .int .i64 b2, .int .i64 c1, .int .i64 c2, .int .i64 d1, .int .i64 d2] 71)).alloc (.cells #[.int .i64 0, .int .i64 0] 27)) (((w.alloc (.cells #[.int .i64 3, .int .i64 a1, .int .i64 a2, .int .i64 b1, .int .i64 b2, .int .i64 c1, .int .i64 c2, .int .i64 d1, .int .i64 d2] 71)).alloc (.cells #[.int .i64 0, .int .i64 0] 27)).alloc (.cells #[.int .i64 ((n - i) * (n - i) * (n - i)), .int .i64 (3 * i * (n - i) * (n - i)), .int .i64 (3 * i * i * (n - i)), .int .i64 (i * i * i)] 97)) := (Kp.refl _ _).alloc _
  obtain ⟨cb0, cb1, cb2, cb3, cb4, cb5, cb6, cb7, cb8⟩ := box9 K9
  have hblk := K2.heap (heap_alloc_new (w.alloc (.cells #[.int .i64 3, .int .i64 a1, .int .i64 a2, .int .i64 b1, .int .i64 b2, .int .i64 c1, .int .i64 c2, .int .i64 d1, .int .i64 d2] 71)) (.cells #[.int .i64 0, .int .i64 0] 27)) (by simp)
  obtain ⟨cw0, cw1, cw2, cw3⟩ := box4 (Kp.refl [] (((w.alloc (.cells #[.int .i64 3, .int .i64 a1, .int .i64 a2, .int .i64 b1, .int .i64 b2, .int .i64 c1, .int .i64 c2, .int .i64 d1, .int .i64 d2] 71)).alloc (.cells #[.int .i64 0, .int .i64 0] 27)).alloc (.cells #[.int .i64 ((n - i) * (n - i) * (n - i)), .int .i64 (3 * i * (n - i) * (n - i)), .int .i64 (3 * i * i * (n - i)), .int .i64 (i * i * i)] 97)))
  rw [show (w.alloc (.cells #[.int .i64 3, .int .i64 a1, .int .i64 a2, .int .i64 b1, .int .i64 b2, .int .i64 c1, .int .i64 c2, .int .i64 d1, .int .i64 d2] 71)).heap.size = w.heap.size + 1 by simp] at hblk
  rw [show ((w.alloc (.cells #[.int .i64 3, .int .i64 a1, .int .i64 a2, .int .i64 b1, .int .i64 b2, .int .i64 c1, .int .i64 c2, .int .i64 d1, .int .i64 d2] 71)).alloc (.cells #[.int .i64 0, .int .i64 0] 27)).heap.size = w.heap.size + 1 + 1 by simp] at cw0 cw1 cw2 cw3
  clear K9 K2 cb0
  go_enter Try.func43, Try.ntmps43
  go_wp2_with fail
  generalize (((w.alloc (.cells #[.int .i64 3, .int .i64 a1, .int .i64 a2, .int .i64 b1, .int .i64 b2, .int .i64 c1, .int .i64 c2, .int .i64 d1, .int .i64 d2] 71)).alloc (.cells #[.int .i64 0, .int .i64 0] 27)).alloc (.cells #[.int .i64 ((n - i) * (n - i) * (n - i)), .int .i64 (3 * i * (n - i) * (n - i)), .int .i64 (3 * i * i * (n - i)), .int .i64 (i * i * i)] 97)) = WB at *
  have ccb1 := KW.cell cb1
  have ccb2 := KW.cell cb2
  have ccb3 := KW.cell cb3
  have ccb4 := KW.cell cb4
  have ccb5 := KW.cell cb5
  have ccb6 := KW.cell cb6
  have ccb7 := KW.cell cb7
  have ccb8 := KW.cell cb8
  have ccw0 := KW.cell cw0
  have ccw1 := KW.cell cw1
  have ccw2 := KW.cell cw2
  have ccw3 := KW.cell cw3
  clear cb1 cb2 cb3 cb4 cb5 cb6 cb7 cb8 cw0 cw1 cw2 cw3
  refine wp_region_kqt 31 (by kernel_rfl) (by kernel_rfl) ?_
  simp only [List.take_succ_cons, List.take_zero, List.drop_succ_cons, List.drop_zero]
  repeat (go_big_quiet_step ((go_at_call 64; refine Calls.kq (rweigh_calls _ _ _ _ _ _ _ _ _ ?_ ?_ ?_ ?_ ?_ ?_ _) <;> first | exact HN.out.1 | exact HN.out.2 | exact Ha1.out | exact Hb1.out | exact Hc1.out | exact Hd1.out | exact Ha2.out | exact Hb2.out | exact Hc2.out | exact Hd2.out | (constructor <;> simp))))
  refine wpQuiet_nil ?_
  intro u1 hw'
  obtain ⟨⟨_, hku1⟩, rfl⟩ := hw'
  try dsimp only
  clear ccb1 ccb2 ccb3 ccb4 ccb5 ccb6 ccb7 ccb8 ccw0 ccw1 ccw2 ccw3
  obtain ⟨rr2, rr3, rf2, rf3⟩ := blk2 (hku1.heap hblk (by simp))
  have hk1 := hKW.trans hku1
  clear hKW hku1 hblk
  go_wp2_with fail
  refine bodyPost_ret (v := .agg #[.int .i64 (nearQ ((n - i) * (n - i) * (n - i) * a1 + 3 * i * (n - i) * (n - i) * b1 + 3 * i * i * (n - i) * c1 + i * i * i * d1) (n * n * n)), .int .i64 (nearQ ((n - i) * (n - i) * (n - i) * a2 + 3 * i * (n - i) * (n - i) * b2 + 3 * i * i * (n - i) * c2 + i * i * i * d2) (n * n * n))]) (by simp [results, Try.results43, go_sem, rr2, rr3]) rfl ⟨by rw [HE.out], by (repeat (first | exact Kp.refl _ _ | assumption | refine Kp.drew ?_ | refine Kp.drewN ?_ _ | refine Kp.alloc ?_ _ | (refine Kp.setCell ?_ (by first | (left; simp; done) | (right; simp; try omega)) _) | (refine Kp.trans' ?_ (by assumption) (by simp; try omega))))⟩
theorem rat_calls (q : Bw) (hm : mayW q = true) (i n : Int) (hn : 1 ≤ n) (hn2 : n ≤ 512) (hi : 0 ≤ i) (hin : i ≤ n) (w : World) :
    Calls Try.prog 43 #[bowV q, .int .i64 i, .int .i64 n] w fun e w' => e = .returned (dotV (atQ q i n)) ∧ Kp [] w w' := by
  have hk := may_kind hm
  obtain ⟨k, ⟨a1, a2⟩, ⟨b1, b2⟩, ⟨c1, c2⟩, ⟨d1, d2⟩⟩ := q
  rcases hk with h | h | h
  · obtain rfl : k = 1 := h
    exact rat_1 a1 a2 b1 b2 c1 c2 d1 d2 hm i n hn hn2 hi hin w
  · obtain rfl : k = 2 := h
    exact rat_2 a1 a2 b1 b2 c1 c2 d1 d2 hm i n hn hn2 hi hin w
  · obtain rfl : k = 3 := h
    exact rat_3 a1 a2 b1 b2 c1 c2 d1 d2 hm i n hn hn2 hi hin w
end Go.Proofs.Ytpbmefojhgcniaa

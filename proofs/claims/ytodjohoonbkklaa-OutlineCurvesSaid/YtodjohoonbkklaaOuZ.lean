/- outline: the reference's hull of numbers. (Written by wip/outline/genouz.py.) -/
import Derived.Test.YtodjohoonbkklaaOuY
namespace Go.Proofs.Ytodjohoonbkklaa
open Go.RowKit
set_option linter.unusedVariables false
set_option linter.unusedSimpArgs false
set_option maxRecDepth 100000 in
set_option maxHeartbeats 8000000 in
theorem rahull_calls (vx vy : Value) (xs ys : List Int) (w : World) (hx : IsInts .i64 w vx xs) (hy : IsInts .i64 w vy ys) (hl : xs.length = ys.length) :
    Calls Try.prog 83 #[vx, vy] w fun e w' => e = .returned (bxV (hullB xs ys xs.length)) ∧ Kp [] w w' := by
  have hle := hx.le
  unfold maxLen at hle
  obtain ⟨px, cx, rfl⟩ := ints_form hx
  obtain ⟨py, cy, rfl⟩ := ints_form hy
  have HX := Lib.hid hx
  have HY := Lib.hid hy
  obtain ⟨N, hN⟩ : ∃ N, xs.length = N := ⟨_, rfl⟩
  have HN := Lib.hid hN
  have HM : Hid (ys.length = N) := by show _ = _; omega
  rw [hN] at HX hle ⊢
  rw [HM.out] at HY ⊢
  clear hx hy hN hl
  go_enter Try.func83, Try.ntmps83
  go_wp2_with fail
  refine wp_gen ?_; intro W hW
  obtain ⟨hA, hB⟩ := two_heap hW
  have HS0 : Hid (HuSt w W ⟨0, 0, 0, 0⟩) := ⟨hA, hB, by rw [hW]; (repeat (first | exact Kp.refl _ _ | assumption | refine Kp.drew ?_ | refine Kp.drewN ?_ _ | refine Kp.alloc ?_ _ | (refine Kp.setCell ?_ (by first | (left; simp; done) | (right; simp; try omega)) _) | (refine Kp.trans' ?_ (by assumption) (by simp; try omega))))⟩
  clear hA hB hW
  go_loopw [6] (fun i wr => ∃ j : Nat, j ≤ N ∧ i = .int .i64 j ∧ Hid (HuSt w wr (hullB xs ys j))) (fun i _ => N - (intOf i).toNat)
  case atStart => exact ⟨0, by omega, rfl, HS0.out⟩
  case round =>
    obtain ⟨j, hj, rfl, HJ⟩ := hrel
    clear HS0
    by_cases hlt : j < N
    · obtain ⟨gx, ox, cx', ex, xj⟩ := ints_row HX.out (i := j) (by rw [HN.out]; exact hlt)
      obtain ⟨gy, oy, cy', ey, yj⟩ := ints_row HY.out (i := j) (by rw [HM.out]; exact hlt)
      rw [HN.out] at ex
      rw [HM.out] at ey
      cases ex; cases ey
      have HH1 := Lib.hid (hullB_one xs ys)
      have HHS := Lib.hid (hullB_succ xs ys j)
      have n0 : (0 : Int) ≤ (j : Int) := by omega
      have n1 : (j : Int) < (N : Int) := by omega
      have n2 : ¬ ((j : Int) < 0) := by omega
      have HC : Hid (∀ W, Kp [] w W → W.cell? ⟨gx, ox + j, none⟩ = some (.int .i64 (xs.getD j 0)) ∧ W.cell? ⟨gy, oy + j, none⟩ = some (.int .i64 (ys.getD j 0))) := fun W hW => ⟨hW.cell xj (by simp), hW.cell yj (by simp)⟩
      clear xj yj
      by_cases hj0 : j = 0
      · subst hj0
        generalize xs.getD 0 0 = x at *
        generalize ys.getD 0 0 = y at *
        generalize hullB xs ys 0 = b at *
        rw [Nat.add_zero, Nat.add_zero] at HC
        have hNp : (0 : Int) < (N : Int) := by omega
        obtain ⟨xj, yj⟩ := HC.out wr HJ.out.2.2
        have q0 := KW.cell xj
        have q1 := KW.cell yj
        clear HHS xj yj
        go_wp2_with fail
        refine wp_region_kqt 13 (by kernel_rfl) (by kernel_rfl) ?_
        simp only [List.take_succ_cons, List.take_zero, List.drop_succ_cons, List.drop_zero]
        repeat (go_big_quiet_step (fail))
        refine wpQuiet_nil ?_
        intro w1 hw'
        obtain ⟨⟨_, hkw1⟩, rfl⟩ := hw'
        try dsimp only
        have HJ1 := Lib.hid (HJ.out.kp hkw1)
        obtain ⟨b0, b1, b2, b3⟩ := HJ1.out.2.1.cells
        obtain ⟨f0, f1, f2, f3⟩ := HJ1.out.2.1.frozen
        clear q0 q1 hkw1 HJ
        go_wp2_with fail
        refine wp_gen ?_; intro W2 hW2
        have HJ22 : Hid (HuSt w W2 ⟨x, y, x, y⟩) := by rw [hW2]; exact HJ1.out.put x y x y
        clear hW2 b0 b1 b2 b3 f0 f1 f2 f3 HJ1
        have HJ2 := Lib.hid HJ22.out
        obtain ⟨b0, b1, b2, b3⟩ := HJ2.out.2.1.cells
        obtain ⟨xq, yq⟩ := HC.out W2 HJ2.out.2.2
        have q0 := KW.cell b0
        have q1 := KW.cell b1
        have q2 := KW.cell b2
        have q3 := KW.cell b3
        have q4 := KW.cell xq
        have q5 := KW.cell yq
        clear b0 b1 b2 b3 xq yq
        refine wp_region_kqt 29 (by kernel_rfl) (by kernel_rfl) ?_
        simp only [List.take_succ_cons, List.take_zero, List.drop_succ_cons, List.drop_zero]
        repeat (go_big_quiet_step ((first | (go_at_call 133; exact Calls.kq (rleast_calls _ _ _)) | (go_at_call 134; exact Calls.kq (rmost_calls _ _ _)))))
        refine wpQuiet_nil ?_
        intro w3 hw'
        obtain ⟨⟨_, hkw3⟩, rfl⟩ := hw'
        try dsimp only
        have HJ3 := Lib.hid (HJ2.out.kp hkw3)
        obtain ⟨b0, b1, b2, b3⟩ := HJ3.out.2.1.cells
        obtain ⟨f0, f1, f2, f3⟩ := HJ3.out.2.1.frozen
        have HF := Lib.hid (HJ3.out.put x y x y)
        rw [← HH1.out] at HF
        clear q0 q1 q2 q3 q4 q5 hkw3 HJ2 HJ3
        go_wp2_with fail
        go_roundw
        case rel => first | exact ⟨0 + 1, by omega, int_eq' (by omega), HF.out⟩ | ((repeat apply Exists.intro); exact ⟨⟨0 + 1, by omega, int_eq' (by omega), HF.out⟩, rfl⟩)
        case measure => simp [intOf] <;> omega
      · have hjb : ((j : Int) == 0) = false := by simpa using hj0
        have HHS1 := Lib.hid (HHS.out hj0)
        generalize xs.getD j 0 = x at *
        generalize ys.getD j 0 = y at *
        generalize hullB xs ys j = b at *
        clear HHS HH1
        go_wp2_with fail
        refine wp_gen ?_; intro W2 hW2
        have HJ22 : Hid (HuSt w W2 b) := by rw [hW2]; exact HJ.out
        clear hW2 HJ
        have HJ2 := Lib.hid HJ22.out
        obtain ⟨b0, b1, b2, b3⟩ := HJ2.out.2.1.cells
        obtain ⟨xq, yq⟩ := HC.out W2 HJ2.out.2.2
        have q0 := KW.cell b0
        have q1 := KW.cell b1
        have q2 := KW.cell b2
        have q3 := KW.cell b3
        have q4 := KW.cell xq
        have q5 := KW.cell yq
        clear b0 b1 b2 b3 xq yq
        refine wp_region_kqt 29 (by kernel_rfl) (by kernel_rfl) ?_
        simp only [List.take_succ_cons, List.take_zero, List.drop_succ_cons, List.drop_zero]
        repeat (go_big_quiet_step ((first | (go_at_call 133; exact Calls.kq (rleast_calls _ _ _)) | (go_at_call 134; exact Calls.kq (rmost_calls _ _ _)))))
        refine wpQuiet_nil ?_
        intro w3 hw'
        obtain ⟨⟨_, hkw3⟩, rfl⟩ := hw'
        try dsimp only
        have HJ3 := Lib.hid (HJ2.out.kp hkw3)
        obtain ⟨b0, b1, b2, b3⟩ := HJ3.out.2.1.cells
        obtain ⟨f0, f1, f2, f3⟩ := HJ3.out.2.1.frozen
        have HF := Lib.hid (HJ3.out.put (min b.x0 x) (min b.y0 y) (max b.x1 x) (max b.y1 y))
        rw [← HHS1.out] at HF
        clear q0 q1 q2 q3 q4 q5 hkw3 HJ2 HJ3
        go_wp2_with fail
        go_roundw
        case rel => first | exact ⟨j + 1, by omega, int_eq' (by omega), HF.out⟩ | ((repeat apply Exists.intro); exact ⟨⟨j + 1, by omega, int_eq' (by omega), HF.out⟩, rfl⟩)
        case measure => simp [intOf] <;> omega
    · obtain rfl : j = N := by omega
      obtain ⟨b, hb⟩ : ∃ b, hullB xs ys j = b := ⟨_, rfl⟩
      rw [hb] at HJ
      have HE := Lib.hid HJ.out
      have HB := Lib.hid hb
      clear HJ hb
      obtain ⟨r0, r1, r2, r3⟩ := HE.out.1.cells
      obtain ⟨s0, s1, s2, s3⟩ := HE.out.1.frozen
      obtain ⟨b0, b1, b2, b3⟩ := HE.out.2.1.cells
      have hk := HE.out.2.2
      go_wp2_with fail
      refine bodyPost_ret (v := bxV b) (by simp [results, Try.results83, go_sem, bxV, r0, r1, r2, r3]) rfl ⟨by rw [HB.out], by (repeat (first | exact Kp.refl _ _ | assumption | refine Kp.drew ?_ | refine Kp.drewN ?_ _ | refine Kp.alloc ?_ _ | (refine Kp.setCell ?_ (by first | (left; simp; done) | (right; simp; try omega)) _) | (refine Kp.trans' ?_ (by assumption) (by simp; try omega))))⟩
end Go.Proofs.Ytodjohoonbkklaa

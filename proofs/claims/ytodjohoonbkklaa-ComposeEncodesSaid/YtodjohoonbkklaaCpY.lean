/- The walk of the statement ComposeEncodes. (Written by wip/compose/gencpy.py.) -/
import Derived.Test.YtodjohoonbkklaaCpW
import Derived.Test.YtodjohoonbkklaaStr
namespace Go.Proofs.Ytodjohoonbkklaa
open Go.RowKit
set_option linter.unusedVariables false
set_option linter.unusedSimpArgs false
set_option maxRecDepth 100000 in
set_option maxHeartbeats 4000000 in
theorem law_ComposeEncodes (v : Value) (l : List Pt) (w : World) (hz : IsPts w v l) : Calls Try.prog 4 #[v] w fun e w' => e = .returned (.bool true) ∧ Kp [] w w' := by
  have hle := hz.le
  unfold maxLen at hle
  obtain ⟨pa, ca, rfl⟩ := hz.form
  have HZ := Lib.hid hz
  clear hz
  obtain ⟨N, hN⟩ : ∃ N, l.length = N := ⟨_, rfl⟩
  have HN := Lib.hid hN
  rw [hN] at HZ hle ⊢
  clear hN
  by_cases h3 : 300 < N
  · go_enter Try.func4, Try.ntmps4
    go_wp2_with fail
    refine (lives12_calls _).mono ?_; rintro e w1 ⟨rfl, hk⟩
    go_wp2_with fail
    go_ret
    exact ⟨rfl, hk⟩
  go_enter Try.func4, Try.ntmps4
  go_wp2_with (at_builtin; refine wpList_app rfl _ _ 23 rfl w.heap.size 36 (.agg #[.int .i64 0, .int .i64 0, .int .i64 0, .int .i64 0, .int .i64 0, .bool false, .int .i64 0, .int .i64 0, .bool false, .int .i64 0, .int .i64 0]) 11 88 Try.underlying23 infoPt rfl (by decide) (by decide) (.slice (some ⟨w.heap.size, 0, none⟩) 0 0) 0 [] rfl ?hown (.slice pa N ca) N (ptsCells l) rfl ?hsrc (oneCell_pts _) ?hb1 ?hb2 ?hk)
  case hown => exact own_empty _ _ _ _ _ rfl (by omega)
  case hsrc => have h := HZ.out.kp (S := []) ((Kp.refl _ _).alloc (.cells #[] 36)) (by simp); unfold IsPts at h; rw [HN.out] at h; exact h
  case hb1 => omega
  case hb2 => simp
  case hk =>
  intro v1 w1 hown hgr
  try simp only [Nat.zero_add, List.nil_append] at hown
  have HK1 : Hid (Kp [] w w1) := Kp.grown ((Kp.refl _ _).alloc _) hgr (by intro k hk; right; simp [Value.ownBlock] at hk; omega)
  have HI1 : Hid (IsPts w1 v1 l) := IsPts.owned HN.out.symm hown
  obtain ⟨p1, c1, hv1⟩ := slice_own hown
  subst hv1
  clear hown hgr
  go_wp2_with fail
  refine (encode_calls _ l _ HI1.out).mono ?_; rintro e w2 ⟨v2, rfl, hi2, hk2, hb2⟩
  have HK2 : Hid (Kp [] w w2) := HK1.out.trans hk2
  obtain ⟨p2, c2, hv2⟩ : ∃ p c, v2 = .slice p (encM l).1.length c := by
    rcases hi2 with ⟨⟨ad, rfl⟩, e⟩ | ⟨g, off, c, rfl, _⟩
    · exact ⟨_, 0, by rw [e]; rfl⟩
    · exact ⟨_, c, rfl⟩
  subst hv2
  have HI2 := Lib.hid hi2
  clear hi2 hk2 hb2 HK1 HI1
  go_wp2_with fail
  refine (rencode_calls _ l _ (HZ.out.kp HK2.out (by simp))).mono ?_; rintro e w3 ⟨v3, rfl, hi3, hk3⟩
  obtain ⟨p3, c3, hv3⟩ : ∃ p c, v3 = .slice p (encM l).1.length c := by
    rcases hi3 with ⟨⟨ad, rfl⟩, e⟩ | ⟨g, off, c, rfl, _⟩
    · exact ⟨_, 0, by rw [e]; rfl⟩
    · exact ⟨_, c, rfl⟩
  subst hv3
  have HI3 := Lib.hid hi3
  have HI2' : Hid (IsInts .u8 w3 _ (encM l).1) := HI2.out.kp hk3 (by simp)
  have HK3 : Hid (Kp [] w w3) := HK2.out.trans hk3
  clear hi3 hk3 HI2 HK2
  generalize (encM l).1 = R at *
  generalize (encM l).2 = E at *
  go_wp2_with fail
  go_loopw [7] (fun i wr => ∃ j : Nat, j ≤ N ∧ i = .int .i64 j ∧ Hid (Kp [] w3 wr)) (fun i _ => N - (intOf i).toNat)
  case atStart => exact ⟨0, by omega, rfl, (Kp.refl _ _ : Kp [] w3 w3)⟩
  case round =>
    obtain ⟨j, hj, rfl, HJ⟩ := hrel
    by_cases hlt : j < N
    · obtain ⟨g1, o1, c1, e1, _, _, h1⟩ := (HZ.out.kp (HK3.out.trans HJ.out) (by simp)).rowJ (i := j) (by rw [HN.out]; exact hlt)
      rw [HN.out] at e1
      cases e1
      generalize l.getD j pt0 = p at *
      have h1_0 := h1 0 (.int .i64 p.g) rfl
      have h1_1 := h1 1 (.int .i64 p.xx) rfl
      have h1_2 := h1 2 (.int .i64 p.xy) rfl
      have h1_3 := h1 3 (.int .i64 p.yx) rfl
      have h1_4 := h1 4 (.int .i64 p.yy) rfl
      have h1_5 := h1 5 (.bool p.m) rfl
      have h1_6 := h1 6 (.int .i64 p.dx) rfl
      have h1_7 := h1 7 (.int .i64 p.dy) rfl
      have h1_8 := h1 8 (.bool p.t) rfl
      have h1_9 := h1 9 (.int .i64 p.pa) rfl
      have h1_10 := h1 10 (.int .i64 p.ch) rfl
      simp only [Nat.add_zero] at h1_0
      clear h1
      have HM : Hid (∀ W, Calls Try.prog 21 #[.agg #[.int .i64 p.g, .int .i64 p.xx, .int .i64 p.xy, .int .i64 p.yx, .int .i64 p.yy, .bool p.m, .int .i64 p.dx, .int .i64 p.dy, .bool p.t, .int .i64 p.pa, .int .i64 p.ch]] W fun e w' => e = .returned (.bool (mayPt p)) ∧ Kp [] W w') := fun W => cmay_calls p W
      have HR : Hid (∀ W, Calls Try.prog 22 #[.agg #[.int .i64 p.g, .int .i64 p.xx, .int .i64 p.xy, .int .i64 p.yx, .int .i64 p.yy, .bool p.m, .int .i64 p.dx, .int .i64 p.dy, .bool p.t, .int .i64 p.pa, .int .i64 p.ch]] W fun e w' => e = .returned (.bool (mayPt p)) ∧ Kp [] W w') := fun W => rmay12_calls p W
      generalize mayPt p = X at *
      go_wp2_with fail
      have q0 := fun n : KW wr => KW.cell h1_0 n
      have q1 := fun n : KW wr => KW.cell h1_1 n
      have q2 := fun n : KW wr => KW.cell h1_2 n
      have q3 := fun n : KW wr => KW.cell h1_3 n
      have q4 := fun n : KW wr => KW.cell h1_4 n
      have q5 := fun n : KW wr => KW.cell h1_5 n
      have q6 := fun n : KW wr => KW.cell h1_6 n
      have q7 := fun n : KW wr => KW.cell h1_7 n
      have q8 := fun n : KW wr => KW.cell h1_8 n
      have q9 := fun n : KW wr => KW.cell h1_9 n
      have q10 := fun n : KW wr => KW.cell h1_10 n
      clear h1_0 h1_1 h1_2 h1_3 h1_4 h1_5 h1_6 h1_7 h1_8 h1_9 h1_10
      refine wp_region_kq (by kernel_rfl) (by kernel_rfl) ?_
      repeat (go_big_quiet_step ((first | (go_at_call 21; exact Calls.kq (HM.out _)) | (go_at_call 22; exact Calls.kq (HR.out _)))))
      refine wpQuiet_nil ?_
      intro w6 hw'
      obtain ⟨⟨_, hkw6⟩, rfl⟩ := hw'
      have HJ6 : Hid (Kp [] w3 w6) := HJ.out.trans hkw6
      clear q0 q1 q2 q3 q4 q5 q6 q7 q8 q9 q10 hkw6
      go_wp2_with fail
      go_roundw
      case rel => first | exact ⟨j + 1, by omega, int_eq' (by omega), HJ6⟩ | ((repeat apply Exists.intro); exact ⟨⟨j + 1, by omega, int_eq' (by omega), HJ6⟩, rfl⟩)
      case measure => simp [intOf]; omega
    · obtain rfl : j = N := by omega
      go_wp2_with fail
      refine (lives12_calls _).mono ?_; rintro e w4 ⟨rfl, hk4⟩
      have HK4 : Hid (Kp [] w w4) := HK3.out.trans (HJ.out.trans hk4)
      have hs1 := run_str _ _ _ (HI2'.out.kp (HJ.out.trans hk4) (by simp))
      have hs2 := run_str _ _ _ (HI3.out.kp (HJ.out.trans hk4) (by simp))
      generalize toStr R = T at *
      clear hk4
      go_wp2_with fail
      go_ret
      exact ⟨by simp, HK4.out⟩
end Go.Proofs.Ytodjohoonbkklaa

/- compose: lives. -/
import Derived.Test.YtodjohoonbkklaaCpV
import Derived.Test.YtodjohoonbkklaaCpK
import Derived.Test.YtodjohoonbkklaaCpO
import Derived.Test.YtodjohoonbkklaaQuiet
import Derived.KernelRfl
namespace Go.Proofs.Ytodjohoonbkklaa
open Go.RowKit
set_option linter.unusedVariables false
set_option linter.unusedSimpArgs false
def liveB : List Int := [255, 255, 0, 0, 0, 0, 0, 0, 0, 0, 16, 2, 0, 3, 10, 236]
theorem live_enc : encM [plainPt 3 10 (-20)] = (liveB, 0) := by kernel_rfl
theorem live_dec : decM liveB = ([plainPt 3 10 (-20)], 0) := by kernel_rfl
theorem live_nil : decM [] = ([], 110) := by kernel_rfl
theorem live_may : mayPt (plainPt 3 10 (-20)) = true := by kernel_rfl
theorem live_in : ∀ c ∈ liveB, 0 ≤ c ∧ c ≤ 255 := by decide
theorem IsInts.blk {k : IntKind} {w : World} {v : Value} {zs : List Int} (h : IsInts k w v zs) (h0 : 0 < zs.length) : ∀ b, blockOf v = some b → b < w.heap.size := by
  intro b hb
  rcases h with ⟨⟨ad, rfl⟩, rfl⟩ | ⟨g, off, c, rfl, h1, h2, h3⟩
  · simp at h0
  · obtain ⟨_, rfl⟩ := (blockOf_some _ _ _ _ _ _).1 hb
    exact World.block_lt_of_cell? w _ (h3 0 h0)
set_option maxRecDepth 100000 in
set_option maxHeartbeats 4000000 in
theorem lives12_calls (w : World) : Calls Try.prog 17 #[] w fun e w' => e = .returned (.bool true) ∧ Kp [] w w' := by
  have HP : Hid (∀ W, Calls Try.prog 23 #[.int .i64 3, .int .i64 10, .int .i64 (-20)] W fun e w' => e = .returned (.agg #[.int .i64 3, .int .i64 16384, .int .i64 0, .int .i64 0, .int .i64 16384, .bool false, .int .i64 10, .int .i64 (-20), .bool false, .int .i64 0, .int .i64 0]) ∧ Kp [] W w') := fun W => plain_calls 3 10 (-20) W
  have HM : Hid (∀ W, Calls Try.prog 21 #[.agg #[.int .i64 3, .int .i64 16384, .int .i64 0, .int .i64 0, .int .i64 16384, .bool false, .int .i64 10, .int .i64 (-20), .bool false, .int .i64 0, .int .i64 0]] W fun e w' => e = .returned (.bool true) ∧ Kp [] W w') := fun W => by have h := cmay_calls (plainPt 3 10 (-20)) W; rw [live_may] at h; exact h
  go_enter Try.func17, Try.ntmps17
  go_wp2_with fail
  refine (HP.out _).mono ?_; rintro e w1 ⟨rfl, hk1⟩
  have HK1 := Lib.hid hk1
  clear hk1
  go_wp2_with fail
  refine (encode_calls _ [plainPt 3 10 (-20)] _ (Reads.made w1 _ 11 1 _ 36 rfl (by rfl) (by decide))).mono ?_
  rintro e w2 ⟨v2, rfl, hi2, hk2, hb2⟩
  rw [live_enc] at hi2 ⊢
  dsimp only at hi2 ⊢
  have HI2 : Hid (IsInts .u8 w2 v2 liveB) := hi2
  have HK2 : Hid (Kp [] w w2) := HK1.out.trans (Kp.trans ((Kp.refl _ _).alloc _) hk2)
  obtain ⟨p2, c2, hv2⟩ : ∃ p c, v2 = .slice p 16 c := by
    rcases hi2 with ⟨⟨ad, rfl⟩, e⟩ | ⟨g, off, c, rfl, _⟩
    · cases e
    · exact ⟨_, c, rfl⟩
  subst hv2
  clear hi2 hk2 hb2 HK1
  go_wp2_with fail
  refine (decode_calls HI2.out live_in (HI2.out.blk (by decide))).mono ?_; rintro e w3 ⟨v3, rfl, hi3, hk3⟩
  rw [live_dec] at hi3 ⊢
  dsimp only at hi3 ⊢
  have HI3 : Hid (IsPts w3 v3 [plainPt 3 10 (-20)]) := hi3
  have HK3 : Hid (Kp [] w w3) := HK2.out.trans hk3
  obtain ⟨p3, c3, rfl⟩ := hi3.form
  clear hi3 hk3 HI2 HK2
  go_wp2_with fail
  refine (decode_calls (w := w3) (v := .slice none 0 0) (zs := []) (IsInts.nil _ _) (by simp) (by simp)).mono ?_; rintro e w4 ⟨v4, rfl, hi4, hk4⟩
  rw [live_nil] at hi4 ⊢
  dsimp only at hi4 ⊢
  have HI4 : Hid (IsPts w4 (.slice p3 1 c3) [plainPt 3 10 (-20)]) := HI3.out.kp hk4 (by simp)
  have HK4 : Hid (Kp [] w w4) := HK3.out.trans hk4
  obtain ⟨p4, c4, rfl⟩ := hi4.form
  clear hi4 hk4 HI3 HK3
  obtain ⟨g, off, c, e, hc1, hc2, h1⟩ := HI4.out.rowJ (i := 0) (by decide)
  cases e
  have h1_0 := h1 0 (.int .i64 3) rfl
  have h1_1 := h1 1 (.int .i64 16384) rfl
  have h1_2 := h1 2 (.int .i64 0) rfl
  have h1_3 := h1 3 (.int .i64 0) rfl
  have h1_4 := h1 4 (.int .i64 16384) rfl
  have h1_5 := h1 5 (.bool false) rfl
  have h1_6 := h1 6 (.int .i64 10) rfl
  have h1_7 := h1 7 (.int .i64 (-20)) rfl
  have h1_8 := h1 8 (.bool false) rfl
  have h1_9 := h1 9 (.int .i64 0) rfl
  have h1_10 := h1 10 (.int .i64 0) rfl
  simp only [Nat.zero_mul, Nat.add_zero] at h1_0 h1_1 h1_2 h1_3 h1_4 h1_5 h1_6 h1_7 h1_8 h1_9 h1_10
  clear h1 hc1 hc2
  have q0 := fun n : KW w4 => KW.cell h1_0 n
  have q1 := fun n : KW w4 => KW.cell h1_1 n
  have q2 := fun n : KW w4 => KW.cell h1_2 n
  have q3 := fun n : KW w4 => KW.cell h1_3 n
  have q4 := fun n : KW w4 => KW.cell h1_4 n
  have q5 := fun n : KW w4 => KW.cell h1_5 n
  have q6 := fun n : KW w4 => KW.cell h1_6 n
  have q7 := fun n : KW w4 => KW.cell h1_7 n
  have q8 := fun n : KW w4 => KW.cell h1_8 n
  have q9 := fun n : KW w4 => KW.cell h1_9 n
  have q10 := fun n : KW w4 => KW.cell h1_10 n
  clear h1_0 h1_1 h1_2 h1_3 h1_4 h1_5 h1_6 h1_7 h1_8 h1_9 h1_10
  go_wp2_with fail
  refine wp_region_kq (by kernel_rfl) (by kernel_rfl) ?_
  repeat (go_big_quiet_step ((first | (go_at_call 24; exact Calls.kq (rone_calls _)) | (go_at_call 21; exact Calls.kq (HM.out _)))))
  refine wpQuiet_nil ?_
  intro w5 hw'
  obtain ⟨⟨_, hkw5⟩, rfl⟩ := hw'
  go_wp2_with fail
  go_ret
  exact ⟨rfl, HK4.out.trans hkw5⟩
end Go.Proofs.Ytodjohoonbkklaa

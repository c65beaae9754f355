/- The contracts of the layer fixed: floors, shifts, the nearest; and those of its reference. -/
import Derived.Test.YtpbmefojhgcniaaFixC
import Derived.Test.YtpbmefojhgcniaaBits
namespace Go.Proofs.Ytpbmefojhgcniaa
open Go.RowKit
set_option linter.unusedVariables false
theorem floor26_calls (x : Int) (w : World) : Calls Try.prog 46 #[.int .i64 x] w fun e w' => e = .returned (.int .i64 (x / 64)) ∧ w = w' := by
  go_enter Try.func46, Try.ntmps46
  go_wp2
  go_ret
  exact ⟨rfl, rfl⟩
def ceil64 (x : Int) : Int := if 64 * (x / 64) = x then x / 64 else x / 64 + 1
theorem ceil26_calls (x : Int) (h1 : -9223372036854775808 ≤ x) (h2 : x ≤ 9223372036854775807) (w : World) : Calls Try.prog 47 #[.int .i64 x] w fun e w' => e = .returned (.int .i64 (ceil64 x)) ∧ w = w' := by
  have hb := i64_and63 x
  by_cases h : x % 64 = 0
  · have h3 : (x % 64 != 0) = false := by rw [bne_eq_false_iff_eq]; exact h
    have hf : Hid (64 * (x / 64) = x) := by unfold Hid; omega
    clear h
    go_enter Try.func47, Try.ntmps47
    go_wp2
    go_ret
    exact ⟨by unfold ceil64; rw [if_pos hf.out]; simp, rfl⟩
  · have h3 : (x % 64 != 0) = true := by rw [bne_iff_ne]; exact h
    have hf : Hid (¬ 64 * (x / 64) = x) := by unfold Hid; omega
    go_enter Try.func47, Try.ntmps47
    go_wp2
    go_ret
    exact ⟨by unfold ceil64; rw [if_neg hf.out]; simp, rfl⟩
theorem near_calls (a b : Int) (h1 : 1 ≤ b) (h2 : b ≤ 2305843009213693952) (h3 : -2305843009213693952 ≤ a) (h4 : a ≤ 2305843009213693952) (w : World) :
    Calls Try.prog 30 #[.int .i64 a, .int .i64 b] w fun e w' => e = .returned (.tuple #[.int .i64 ((2 * a + b) / (2 * b)), .int .i64 0]) ∧ Bel w w' := by
  have hf : Hid (nearQ (a * 1) b = (2 * a + b) / (2 * b)) := by unfold Hid nearQ; rw [if_pos (by omega), Int.mul_one]
  have h5 := abs_prod (a := a) (b := 1) (m := 2305843009213693952) (n := 1) (by omega) (by omega)
  go_enter Try.func30, Try.ntmps30
  go_wp2_with fail
  refine (ratio_calls _ _ _ (by omega) (by omega) (by omega) (by omega) (by omega) (by omega) (by omega) (by omega) _).mono ?_; rintro e w1 ⟨rfl, hd⟩
  have hd := hd.bel
  rw [hf.out]
  clear hf h5
  go_wp2_with fail
  go_ret2
  exact ⟨by simp, hd⟩
theorem near_arg (a b : Int) (h1 : b < 1) (w : World) :
    Calls Try.prog 30 #[.int .i64 a, .int .i64 b] w fun e w' => e = .returned (.tuple #[.int .i64 0, .int .i64 1]) ∧ w = w' := by
  go_enter Try.func30, Try.ntmps30
  go_wp2_with fail
  go_ret2
  exact ⟨by simp, rfl⟩
theorem near_over (a b : Int) (h1 : ¬ b < 1) (h2 : a < -2305843009213693952 ∨ 2305843009213693952 < a ∨ 2305843009213693952 < b) (w : World) :
    Calls Try.prog 30 #[.int .i64 a, .int .i64 b] w fun e w' => e = .returned (.tuple #[.int .i64 0, .int .i64 10]) ∧ w = w' := by
  by_cases g1 : a < -2305843009213693952
  · go_enter Try.func30, Try.ntmps30
    go_wp2_with fail
    go_ret2
    exact ⟨by simp, rfl⟩
  · by_cases g2 : 2305843009213693952 < a
    · go_enter Try.func30, Try.ntmps30
      go_wp2_with fail
      go_ret2
      exact ⟨by simp, rfl⟩
    · have g3 : 2305843009213693952 < b := by omega
      clear h2
      go_enter Try.func30, Try.ntmps30
      go_wp2_with fail
      go_ret2
      exact ⟨by simp, rfl⟩
theorem rnear2_calls (a b : Int) (h1 : 1 ≤ b) (h2 : b ≤ 2305843009213693952) (h3 : -2305843009213693952 ≤ a) (h4 : a ≤ 2305843009213693952) (w : World) :
    Calls Try.prog 13 #[.int .i64 a, .int .i64 b] w fun e w' => e = .returned (.int .i64 ((2 * a + b) / (2 * b))) ∧ Bel w w' := by
  obtain ⟨_, _, q3, q4⟩ := rest_bounds (2 * a + b) (2 * b) (by omega)
  go_enter Try.func13, Try.ntmps13
  go_wp2_with fail
  refine (rfloor_calls _ _ (by omega) (by omega) (by omega) (by omega) (by omega) _).mono ?_; rintro e w1 ⟨rfl, hd⟩
  go_wp2_with fail
  go_ret
  exact ⟨by simp, hd⟩
end Go.Proofs.Ytpbmefojhgcniaa

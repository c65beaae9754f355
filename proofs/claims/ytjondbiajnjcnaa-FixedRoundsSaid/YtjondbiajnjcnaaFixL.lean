/- The walks of the statements of layer 1: 'lives', and the seven laws. -/
import Derived.Test.YtjondbiajnjcnaaFixE
namespace Go.Proofs.Ytjondbiajnjcnaa
open Go.RowKit
set_option linter.unusedVariables false
set_option maxRecDepth 100000 in
set_option maxHeartbeats 1000000 in
theorem lives_calls (w : World) : Calls Try.prog 12 #[] w fun e w' => e = .returned (.bool true) ∧ Bel w w' := by
  have m1 : mayB 5 = true := by decide
  have m2 : mayB 1099511627776 = false := by decide
  have c1 : ceil64 65 = 2 := by decide
  go_enter Try.func12, Try.ntmps12
  go_wp2_with fail
  refine (add_calls 3 4 _).mono ?_; rintro e w1 ⟨rfl, hb1⟩
  rw [show opV (3 + 4) [3, 4] = 7 by decide, show opE (3 + 4) [3, 4] = 0 by decide]
  go_wp2_with fail
  refine (mul_calls 98304 2 _).mono ?_; rintro e w2 ⟨rfl, hb2⟩
  rw [show opV (nearQ (98304 * 2) 65536) [98304, 2] = 3 by decide, show opE (nearQ (98304 * 2) 65536) [98304, 2] = 0 by decide]
  go_wp2_with fail
  refine (div_calls 65536 196608 _).mono ?_; rintro e w3 ⟨rfl, hb3⟩
  rw [show mdV 65536 65536 196608 = 21845 by decide, show mdE 65536 65536 196608 = 0 by decide]
  go_wp2_with fail
  refine (div_calls 1 0 _).mono ?_; rintro e w4 ⟨rfl, hb4⟩
  rw [show mdV 1 65536 0 = 0 by decide, show mdE 1 65536 0 = 1 by decide]
  go_wp2_with fail
  refine (root_calls 131072 (by decide) (by decide) _).mono ?_; rintro e w5 ⟨rfl, rfl⟩
  rw [show rootV (131072 * 65536) = 92681 from rootV_of _ _ (by unfold IsRoot; decide)]
  go_wp2_with (first | (go_at_call 24; refine (may_calls _ _).mono ?_; rintro e w' ⟨rfl, rfl⟩) | (go_at_call 32; refine (round26_calls _ (by omega) (by omega) _).mono ?_; rintro e w' ⟨rfl, rfl⟩) | (go_at_call 31; refine (ceil26_calls _ (by omega) (by omega) _).mono ?_; rintro e w' ⟨rfl, rfl⟩) | fail)
  go_ret
  exact ⟨by simp, ((hb1.trans hb2).trans hb3).trans hb4⟩

theorem law_FixedDivs (a b : Int) (w : World) : Calls Try.prog 4 #[.int .i64 a, .int .i64 b] w fun e w' => e = .returned (.bool true) ∧ Bel w w' := by
  go_enter Try.func4, Try.ntmps4
  go_wp2_with fail
  refine (div_calls _ _ _).mono ?_; rintro e w1 ⟨rfl, hb1⟩
  go_wp2_with fail
  refine (rdiv_calls _ _ _).mono ?_; rintro e w2 ⟨rfl, hb2⟩
  generalize mdV a 65536 b = v
  generalize mdE a 65536 b = u
  go_wp2_with fail
  refine (lives_calls _).mono ?_; rintro e w3 ⟨rfl, hb3⟩
  go_wp2_with fail
  go_ret
  exact ⟨by simp, (hb1.trans hb2).trans hb3⟩
theorem law_FixedMulDivs (a b c : Int) (w : World) : Calls Try.prog 5 #[.int .i64 a, .int .i64 b, .int .i64 c] w fun e w' => e = .returned (.bool true) ∧ Bel w w' := by
  go_enter Try.func5, Try.ntmps5
  go_wp2_with fail
  refine (muldiv_calls _ _ _ _).mono ?_; rintro e w1 ⟨rfl, hb1⟩
  go_wp2_with fail
  refine (rmuldiv_calls _ _ _ _).mono ?_; rintro e w2 ⟨rfl, hb2⟩
  generalize mdV a b c = v
  generalize mdE a b c = u
  go_wp2_with fail
  refine (lives_calls _).mono ?_; rintro e w3 ⟨rfl, hb3⟩
  go_wp2_with fail
  go_ret
  exact ⟨by simp, (hb1.trans hb2).trans hb3⟩
theorem one_times (a : Int) : nearQ (a * 65536) 65536 = a := by unfold nearQ; rw [if_pos (by omega)]; omega
theorem law_FixedMuls (a b : Int) (w : World) : Calls Try.prog 3 #[.int .i64 a, .int .i64 b] w fun e w' => e = .returned (.bool true) ∧ Bel w w' := by
  have c1 : Hid (opV (nearQ (b * a) 65536) [b, a] = opV (nearQ (a * b) 65536) [a, b]) := by unfold Hid opV; rw [Int.mul_comm b a]; simp [Bool.and_comm]
  have c2 : Hid (opE (nearQ (b * a) 65536) [b, a] = opE (nearQ (a * b) 65536) [a, b]) := by unfold Hid opE; rw [Int.mul_comm b a]; simp [Bool.and_comm]
  by_cases h : mayB a = true
  · have c3 : Hid (opV (nearQ (a * 65536) 65536) [a, 65536] = a) := by unfold Hid; rw [one_times]; unfold opV outV; simp [h, show mayB 65536 = true by decide]
    have c4 : Hid (opE (nearQ (a * 65536) 65536) [a, 65536] = 0) := by unfold Hid; rw [one_times]; unfold opE outE; simp [h, show mayB 65536 = true by decide]
    go_enter Try.func3, Try.ntmps3
    go_wp2_with fail
    refine (mul_calls _ _ _).mono ?_; rintro e w1 ⟨rfl, hb1⟩
    go_wp2_with fail
    refine (rmul_calls _ _ _).mono ?_; rintro e w2 ⟨rfl, hb2⟩
    go_wp2_with fail
    refine (mul_calls _ _ _).mono ?_; rintro e w3 ⟨rfl, hb3⟩
    rw [c1.out, c2.out]
    go_wp2_with fail
    refine (mul_calls _ _ _).mono ?_; rintro e w4 ⟨rfl, hb4⟩
    rw [c3.out, c4.out]
    clear c1 c2 c3 c4
    generalize opV (nearQ (a * b) 65536) [a, b] = v
    generalize opE (nearQ (a * b) 65536) [a, b] = u
    go_wp2_with fail
    refine (lives_calls _).mono ?_; rintro e w5 ⟨rfl, hb5⟩
    go_wp2_with (first | (go_at_call 13; refine (rmay_calls _ _).mono ?_; rintro e w' ⟨rfl, rfl⟩) | fail)
    go_ret
    exact ⟨by simp, (((hb1.trans hb2).trans hb3).trans hb4).trans hb5⟩
  · have h' : mayB a = false := by simpa using h
    go_enter Try.func3, Try.ntmps3
    go_wp2_with fail
    refine (mul_calls _ _ _).mono ?_; rintro e w1 ⟨rfl, hb1⟩
    go_wp2_with fail
    refine (rmul_calls _ _ _).mono ?_; rintro e w2 ⟨rfl, hb2⟩
    go_wp2_with fail
    refine (mul_calls _ _ _).mono ?_; rintro e w3 ⟨rfl, hb3⟩
    rw [c1.out, c2.out]
    go_wp2_with fail
    refine (mul_calls _ _ _).mono ?_; rintro e w4 ⟨rfl, hb4⟩
    clear c1 c2
    generalize opV (nearQ (a * b) 65536) [a, b] = v
    generalize opE (nearQ (a * b) 65536) [a, b] = u
    go_wp2_with fail
    refine (lives_calls _).mono ?_; rintro e w5 ⟨rfl, hb5⟩
    go_wp2_with (first | (go_at_call 13; refine (rmay_calls _ _).mono ?_; rintro e w' ⟨rfl, rfl⟩) | fail)
    go_ret
    exact ⟨by simp, (((hb1.trans hb2).trans hb3).trans hb4).trans hb5⟩
theorem law_FixedRoots (a : Int) (w : World) : Calls Try.prog 6 #[.int .i64 a] w fun e w' => e = .returned (.bool true) ∧ Bel w w' := by
  by_cases h : mayB a = true
  · by_cases h0 : a < 0
    · go_enter Try.func6, Try.ntmps6
      go_wp2_with fail
      refine (root_neg _ h h0 _).mono ?_; rintro e w1 ⟨rfl, rfl⟩
      go_wp2_with fail
      refine (rroot_neg _ h h0 _).mono ?_; rintro e w2 ⟨rfl, rfl⟩
      go_wp2_with fail
      refine (lives_calls _).mono ?_; rintro e w3 ⟨rfl, hb3⟩
      go_wp2_with fail
      go_ret
      exact ⟨by simp, hb3⟩
    · have hm := may_le h
      go_enter Try.func6, Try.ntmps6
      go_wp2_with fail
      refine (root_calls _ (by omega) (by omega) _).mono ?_; rintro e w1 ⟨rfl, rfl⟩
      go_wp2_with fail
      refine (rroot_calls _ (by omega) (by omega) _).mono ?_; rintro e w2 ⟨rfl, rfl⟩
      generalize rootV (a * 65536) = v
      go_wp2_with fail
      refine (lives_calls _).mono ?_; rintro e w3 ⟨rfl, hb3⟩
      go_wp2_with fail
      go_ret
      exact ⟨by simp, hb3⟩
  · have h' : mayB a = false := by simpa using h
    go_enter Try.func6, Try.ntmps6
    go_wp2_with fail
    refine (root_over _ h' _).mono ?_; rintro e w1 ⟨rfl, rfl⟩
    go_wp2_with fail
    refine (rroot_over _ h' _).mono ?_; rintro e w2 ⟨rfl, rfl⟩
    go_wp2_with fail
    refine (lives_calls _).mono ?_; rintro e w3 ⟨rfl, hb3⟩
    go_wp2_with fail
    go_ret
    exact ⟨by simp, hb3⟩
end Go.Proofs.Ytjondbiajnjcnaa

/- The walks of the statements FixedAdds, FixedNears, FixedRounds. -/
import Derived.Test.YtjondbiajnjcnaaFixL
import Derived.OpenShut
namespace Go.Proofs.Ytjondbiajnjcnaa
open Go.RowKit
set_option linter.unusedVariables false
theorem law_FixedAdds (a b : Int) (w : World) : Calls Try.prog 7 #[.int .i64 a, .int .i64 b] w fun e w' => e = .returned (.bool true) ∧ Bel w w' := by
  by_cases h : opE (a + b) [a, b] = 0
  · have hb : (opE (a + b) [a, b] == 0) = true := by rw [beq_iff_eq]; exact h
    have hh : [a, b].all mayB = true := by
      cases hx : [a, b].all mayB
      · unfold opE at h; rw [hx] at h; simp at h
      · rfl
    have hs : mayB (a + b) = true := by
      unfold opE at h; rw [if_pos hh] at h; unfold outE at h
      cases hx : mayB (a + b)
      · rw [hx] at h; simp at h
      · rfl
    have ha : mayB a = true := by simp at hh; exact hh.1
    have hb2 : mayB b = true := by simp at hh; exact hh.2
    have v1 : Hid (opV (a + b) [a, b] = a + b) := by unfold Hid opV outV; rw [if_pos hh, if_pos hs]
    have v2 : Hid (opE (a + b) [a, b] = 0) := h
    have hh2 : [a + b, b].all mayB = true := by simp [hs, hb2]
    have v3 : Hid (opV (a + b - b) [a + b, b] = a) := by unfold Hid opV outV; rw [if_pos hh2, Int.add_sub_cancel, if_pos ha]
    have v4 : Hid (opE (a + b - b) [a + b, b] = 0) := by unfold Hid opE outE; rw [if_pos hh2, Int.add_sub_cancel, if_pos ha]
    have m1 := may_le ha
    have m2 := may_le hb2
    clear h hb hh hs ha hh2 hb2
    go_enter Try.func7, Try.ntmps7
    go_wp2_with fail
    refine (add_calls _ _ _).mono ?_; rintro e w1 ⟨rfl, hb1⟩
    rw [v1.out, v2.out]
    go_wp2_with fail
    refine (sub_calls _ _ _).mono ?_; rintro e w2 ⟨rfl, hb2⟩
    go_wp2_with fail
    refine (radd_calls _ _ _).mono ?_; rintro e w3 ⟨rfl, hb3⟩
    rw [v1.out, v2.out]
    go_wp2_with fail
    refine (rsub_calls _ _ _).mono ?_; rintro e w4 ⟨rfl, hb4⟩
    generalize opV (a - b) [a, b] = p
    generalize opE (a - b) [a, b] = q
    go_wp2_with (first | (go_at_call 13; refine (rmay_calls _ _).mono ?_; rintro e w' ⟨rfl, rfl⟩) | (go_at_call 24; refine (may_calls _ _).mono ?_; rintro e w' ⟨rfl, rfl⟩) | (go_at_call 12; refine (lives_calls _).mono ?_; rintro e w5 ⟨rfl, hb5⟩) | fail)
    refine (sub_calls _ _ _).mono ?_; rintro e w6 ⟨rfl, hb6⟩
    rw [v3.out, v4.out]
    go_wp2_with fail
    go_ret
    exact ⟨by simp, ((((hb1.trans hb2).trans hb3).trans hb4).trans hb5).trans hb6⟩
  · have hb : (opE (a + b) [a, b] != 0) = true := by rw [bne_iff_ne]; exact h
    clear h
    go_enter Try.func7, Try.ntmps7
    go_wp2_with fail
    refine (add_calls _ _ _).mono ?_; rintro e w1 ⟨rfl, hb1⟩
    go_wp2_with fail
    refine (sub_calls _ _ _).mono ?_; rintro e w2 ⟨rfl, hb2⟩
    go_wp2_with fail
    refine (radd_calls _ _ _).mono ?_; rintro e w3 ⟨rfl, hb3⟩
    go_wp2_with fail
    refine (rsub_calls _ _ _).mono ?_; rintro e w4 ⟨rfl, hb4⟩
    generalize opV (a - b) [a, b] = p
    generalize opE (a - b) [a, b] = q
    generalize opV (a + b) [a, b] = r
    generalize opE (a + b) [a, b] = s at *
    go_wp2_with (first | (go_at_call 13; refine (rmay_calls _ _).mono ?_; rintro e w' ⟨rfl, rfl⟩) | (go_at_call 24; refine (may_calls _ _).mono ?_; rintro e w' ⟨rfl, rfl⟩) | (go_at_call 12; refine (lives_calls _).mono ?_; rintro e w5 ⟨rfl, hb5⟩) | fail)
    go_ret
    exact ⟨by simp, (((hb1.trans hb2).trans hb3).trans hb4).trans hb5⟩
theorem near_close (a b : Int) (h : 1 ≤ b) : 0 ≤ 2 * a + b - 2 * ((2 * a + b) / (2 * b) * b) ∧ 2 * a + b - 2 * ((2 * a + b) / (2 * b) * b) < 2 * b := by
  obtain ⟨h1, h2, _, _⟩ := rest_bounds (2 * a + b) (2 * b) (by omega)
  have e : (2 * a + b) / (2 * b) * (2 * b) = 2 * ((2 * a + b) / (2 * b) * b) := by rw [← Int.mul_assoc, Int.mul_comm _ 2, Int.mul_assoc]
  omega
theorem law_FixedNears (a b : Int) (w : World) : Calls Try.prog 8 #[.int .i64 a, .int .i64 b] w fun e w' => e = .returned (.bool true) ∧ Bel w w' := by
  by_cases h : b < 1
  · go_enter Try.func8, Try.ntmps8
    go_wp2_with fail
    refine (near_arg _ _ h _).mono ?_; rintro e w1 ⟨rfl, rfl⟩
    go_wp2_with (go_at_call 12; refine (lives_calls _).mono ?_; rintro e w5 ⟨rfl, hb5⟩)
    go_ret
    exact ⟨by simp, hb5⟩
  · by_cases h2 : a < -2305843009213693952 ∨ 2305843009213693952 < a ∨ 2305843009213693952 < b
    · rcases h2 with h2 | h2 | h2
      · go_enter Try.func8, Try.ntmps8
        go_wp2_with fail
        refine (near_over _ _ (by omega) (by omega) _).mono ?_; rintro e w1 ⟨rfl, rfl⟩
        go_wp2_with (go_at_call 12; refine (lives_calls _).mono ?_; rintro e w5 ⟨rfl, hb5⟩)
        go_ret
        exact ⟨by simp, hb5⟩
      · have h3 : ¬ a < -2305843009213693952 := by omega
        go_enter Try.func8, Try.ntmps8
        go_wp2_with fail
        refine (near_over _ _ (by omega) (by omega) _).mono ?_; rintro e w1 ⟨rfl, rfl⟩
        go_wp2_with (go_at_call 12; refine (lives_calls _).mono ?_; rintro e w5 ⟨rfl, hb5⟩)
        go_ret
        exact ⟨by simp, hb5⟩
      · by_cases h3 : a < -2305843009213693952 <;> by_cases h4 : 2305843009213693952 < a
        all_goals try (exfalso; omega)
        all_goals
          go_enter Try.func8, Try.ntmps8
          go_wp2_with fail
          refine (near_over _ _ (by omega) (by omega) _).mono ?_; rintro e w1 ⟨rfl, rfl⟩
          go_wp2_with (go_at_call 12; refine (lives_calls _).mono ?_; rintro e w5 ⟨rfl, hb5⟩)
          go_ret
          exact ⟨by simp, hb5⟩
    · have h3 : -2305843009213693952 ≤ a := by omega
      have h4 : a ≤ 2305843009213693952 := by omega
      have h5 : b ≤ 2305843009213693952 := by omega
      have h6 : 1 ≤ b := by omega
      obtain ⟨n1, n2⟩ := near_close a b h6
      have n3 : 2 * (a - (2 * a + b) / (2 * b) * b) < b := by omega
      clear h h2
      go_enter Try.func8, Try.ntmps8
      go_wp2_with fail
      refine (near_calls _ _ h6 h5 h3 h4 _).mono ?_; rintro e w1 ⟨rfl, hb1⟩
      go_wp2_with (first | (go_at_call 12; refine (lives_calls _).mono ?_; rintro e w5 ⟨rfl, hb5⟩) | (go_at_call 26; refine (rnear2_calls _ _ h6 h5 h3 h4 _).mono ?_; rintro e w6 ⟨rfl, hb6⟩))
      go_ret
      exact ⟨by simp, (hb1.trans hb5).trans hb6⟩
theorem op_in (x k : Int) (h : mayB x = true) (h2 : mayB k = true) : opV k [x] = k ∧ opE k [x] = 0 := by
  have hh : [x].all mayB = true := by simp [h]
  unfold opV opE outV outE; rw [if_pos hh, if_pos hh, if_pos h2, if_pos h2]; exact ⟨rfl, rfl⟩
theorem op_out (x k : Int) (h : mayB x = false ∨ mayB k = false) : opV k [x] = 0 ∧ opE k [x] = 10 := by
  unfold opV opE outV outE
  cases hx : mayB x <;> cases hk : mayB k <;> simp_all
theorem may_in {x : Int} (h : -2147483648 ≤ x ∧ x ≤ 2147483648) : mayB x = true := by simp [mayB]; omega
theorem may_out {x : Int} (h : x < -2147483648 ∨ 2147483648 < x) : mayB x = false := by simp [mayB]; omega
set_option maxHeartbeats 4000000 in
set_option maxRecDepth 100000 in
theorem law_FixedRounds (x : Int) (h1 : -9223372036854775808 ≤ x) (h2 : x ≤ 9223372036854775807) (w : World) : Calls Try.prog 9 #[.int .i64 x] w fun e w' => e = .returned (.bool true) ∧ Bel w w' := by
  have H1 : (x < -2097152 ∧ Hid (opV (x * 1024) [x] = 0 ∧ opE (x * 1024) [x] = 10)) ∨ ((-2097152 ≤ x ∧ 2097152 < x) ∧ Hid (opV (x * 1024) [x] = 0 ∧ opE (x * 1024) [x] = 10)) ∨ ((-2097152 ≤ x ∧ x ≤ 2097152) ∧ Hid (opV (x * 1024) [x] = x * 1024 ∧ opE (x * 1024) [x] = 0)) := by
    by_cases g1 : x < -2097152
    · exact .inl ⟨g1, op_out _ _ (by by_cases g : x < -2147483648; exact .inl (may_out (.inl g)); exact .inr (may_out (by omega)))⟩
    · by_cases g2 : 2097152 < x
      · exact .inr (.inl ⟨⟨by omega, g2⟩, op_out _ _ (by by_cases g : 2147483648 < x; exact .inl (may_out (.inr g)); exact .inr (may_out (by omega)))⟩)
      · exact .inr (.inr ⟨⟨by omega, by omega⟩, op_in _ _ (may_in (by omega)) (may_in (by omega))⟩)
  have H2 : (x < -32768 ∧ Hid (opV (x * 65536) [x] = 0 ∧ opE (x * 65536) [x] = 10)) ∨ ((-32768 ≤ x ∧ 32768 < x) ∧ Hid (opV (x * 65536) [x] = 0 ∧ opE (x * 65536) [x] = 10)) ∨ ((-32768 ≤ x ∧ x ≤ 32768) ∧ Hid (opV (x * 65536) [x] = x * 65536 ∧ opE (x * 65536) [x] = 0)) := by
    by_cases g1 : x < -32768
    · exact .inl ⟨g1, op_out _ _ (by by_cases g : x < -2147483648; exact .inl (may_out (.inl g)); exact .inr (may_out (by omega)))⟩
    · by_cases g2 : 32768 < x
      · exact .inr (.inl ⟨⟨by omega, g2⟩, op_out _ _ (by by_cases g : 2147483648 < x; exact .inl (may_out (.inr g)); exact .inr (may_out (by omega)))⟩)
      · exact .inr (.inr ⟨⟨by omega, by omega⟩, op_in _ _ (may_in (by omega)) (may_in (by omega))⟩)
  have H3 : (Hid (ceil64 x = x / 64) ∧ Hid ((64 * (x / 64) != x) = false)) ∨ (Hid (ceil64 x = x / 64 + 1) ∧ Hid ((64 * (x / 64) != x) = true)) := by
    by_cases g : 64 * (x / 64) = x
    · exact .inl ⟨if_pos g, by unfold Hid; rw [bne_eq_false_iff_eq]; exact g⟩
    · exact .inr ⟨if_neg g, by unfold Hid; rw [bne_iff_ne]; exact g⟩
  rcases H3 with ⟨e1, e2⟩ | ⟨e1, e2⟩ <;> rcases H1 with ⟨a1, a2⟩ | ⟨a1, a2⟩ | ⟨a1, a2⟩ <;> rcases H2 with ⟨b1, b2⟩ | ⟨b1, b2⟩ | ⟨b1, b2⟩
  all_goals try (exfalso; omega)
  all_goals
    have e2 := e2.out
    go_enter Try.func9, Try.ntmps9
    go_wp2_with fail
    refine (rfloor_calls _ _ (by omega) (by omega) (by omega) (by omega) (by omega) _).mono ?_; rintro e w1 ⟨rfl, hb1⟩
    go_wp2_with fail
    refine (to16_calls _ _).mono ?_; rintro e w2 ⟨rfl, rfl⟩
    rw [a2.out.1, a2.out.2]
    go_wp2_with fail
    refine (whole_calls _ _).mono ?_; rintro e w2 ⟨rfl, rfl⟩
    rw [b2.out.1, b2.out.2]
    go_wp2_with fail
    refine (lives_calls _).mono ?_; rintro e w3 ⟨rfl, hb3⟩
    go_wp2_with fail
    refine (floor26_calls _ _).mono ?_; rintro e w' ⟨rfl, rfl⟩
    go_wp2_with fail
    refine (ceil26_calls _ h1 h2 _).mono ?_; rintro e w' ⟨rfl, rfl⟩
    rw [e1.out]
    go_wp2_with fail
    refine (round26_calls _ h1 h2 _).mono ?_; rintro e w' ⟨rfl, rfl⟩
    go_wp2_with fail
    refine (rround26_calls _ h1 h2 _).mono ?_; rintro e w4 ⟨rfl, hb4⟩
    go_wp2_with fail
    refine (to26_calls _ h1 h2 _).mono ?_; rintro e w' ⟨rfl, rfl⟩
    go_wp2_with fail
    refine (rto26_calls _ h1 h2 _).mono ?_; rintro e w5 ⟨rfl, hb5⟩
    go_wp2_with fail
    go_ret
    exact ⟨by simp; try omega, ((hb1.trans hb3).trans hb4).trans hb5⟩
end Go.Proofs.Ytjondbiajnjcnaa

/- The reference's Bend, Needs, Pieces, At. (Written by wip/curve/gencuc.py.) -/
import Derived.Test.YtpbmefojhgcniaaCuA
import Derived.Test.YtpbmefojhgcniaaFixD
import Derived.Test.YtpbmefojhgcniaaQuiet
namespace Go.Proofs.Ytpbmefojhgcniaa
open Go.RowKit
set_option linter.unusedVariables false
set_option linter.unusedSimpArgs false
set_option maxRecDepth 100000 in
set_option maxHeartbeats 2000000 in
theorem rbend_calls (q : Bw) (hm : mayW q = true) (w : World) : Calls Try.prog 82 #[bowV q] w fun e w' => e = .returned (.int .i64 (bendQ q)) ∧ Kp [] w w' := by
  obtain ⟨k, ⟨a1, a2⟩, ⟨b1, b2⟩, ⟨c1, c2⟩, ⟨d1, d2⟩⟩ := q
  show Calls Try.prog 82 #[.agg #[.int .i64 k, .int .i64 a1, .int .i64 a2, .int .i64 b1, .int .i64 b2, .int .i64 c1, .int .i64 c2, .int .i64 d1, .int .i64 d2]] w _
  have hk := may_kind hm
  rcases hk with h | h | h
  · obtain rfl : k = 1 := h
    go_enter Try.func82, Try.ntmps82
    go_wp2_with fail
    go_ret
    exact ⟨rfl, by (repeat (first | exact Kp.refl _ _ | assumption | refine Kp.drew ?_ | refine Kp.drewN ?_ _ | refine Kp.alloc ?_ _ | (refine Kp.setCell ?_ (by first | (left; simp; done) | (right; simp; try omega)) _) | (refine Kp.trans' ?_ (by assumption) (by simp; try omega))))⟩
  · obtain rfl : k = 2 := h
    rw [may_2 rfl] at hm
    simp only [Bool.and_eq_true] at hm
    obtain ⟨m1, m2, m3⟩ := hm
    have HE : Hid (bendQ ⟨2, (a1, a2), (b1, b2), (c1, c2), (d1, d2)⟩ = secQ (a1, a2) (b1, b2) (d1, d2)) := rfl
    have M := Lib.hid (And.intro m1 (And.intro m2 m3))
    clear m1 m2 m3
    go_enter Try.func82, Try.ntmps82
    go_wp2_with fail
    refine (second_calls _ _ _ _ _ _ M.out.1 M.out.2.1 M.out.2.2 _).mono ?_; rintro e w1 ⟨rfl, hk1⟩
    go_wp2_with fail
    go_ret
    exact ⟨by rw [HE.out]; first | done | rfl | simp, by (repeat (first | exact Kp.refl _ _ | assumption | refine Kp.drew ?_ | refine Kp.drewN ?_ _ | refine Kp.alloc ?_ _ | (refine Kp.setCell ?_ (by first | (left; simp; done) | (right; simp; try omega)) _) | (refine Kp.trans' ?_ (by assumption) (by simp; try omega))))⟩
  · obtain rfl : k = 3 := h
    rw [may_3 rfl] at hm
    simp only [Bool.and_eq_true] at hm
    obtain ⟨m1, m2, m3, m4⟩ := hm
    have HE : Hid (bendQ ⟨3, (a1, a2), (b1, b2), (c1, c2), (d1, d2)⟩ = max (secQ (a1, a2) (b1, b2) (c1, c2)) (secQ (b1, b2) (c1, c2) (d1, d2))) := rfl
    have M := Lib.hid (And.intro m1 (And.intro m2 (And.intro m3 m4)))
    clear m1 m2 m3 m4
    go_enter Try.func82, Try.ntmps82
    go_wp2_with fail
    have hKW : Kp [] w (w.alloc (.cells #[.int .i64 3, .int .i64 a1, .int .i64 a2, .int .i64 b1, .int .i64 b2, .int .i64 c1, .int .i64 c2, .int .i64 d1, .int .i64 d2] 71)) := (Kp.refl _ _).alloc _
    obtain ⟨cb0, cb1, cb2, cb3, cb4, cb5, cb6, cb7, cb8⟩ := box9 (Kp.refl [] (w.alloc (.cells #[.int .i64 3, .int .i64 a1, .int .i64 a2, .int .i64 b1, .int .i64 b2, .int .i64 c1, .int .i64 c2, .int .i64 d1, .int .i64 d2] 71)))
    generalize (w.alloc (.cells #[.int .i64 3, .int .i64 a1, .int .i64 a2, .int .i64 b1, .int .i64 b2, .int .i64 c1, .int .i64 c2, .int .i64 d1, .int .i64 d2] 71)) = W0 at *
    generalize w.heap.size = BX at *
    have cq1 := KW.cell cb1
    have cq2 := KW.cell cb2
    have cq3 := KW.cell cb3
    have cq4 := KW.cell cb4
    have cq5 := KW.cell cb5
    have cq6 := KW.cell cb6
    have cq7 := KW.cell cb7
    have cq8 := KW.cell cb8
    clear cb0 cb1 cb2 cb3 cb4 cb5 cb6 cb7 cb8
    refine wp_region_kq (by kernel_rfl) (by kernel_rfl) ?_
    repeat (go_big_quiet_step (first | (go_at_call 93; refine Calls.kq (second_calls _ _ _ _ _ _ ?_ ?_ ?_ _) <;> first | exact M.out.1 | exact M.out.2.1 | exact M.out.2.2.1 | exact M.out.2.2.2) | (go_at_call 94; exact Calls.kq0 (most_calls _ _ _))))
    refine wpQuiet_nil ?_
    intro w1 hw'
    obtain ⟨⟨_, hkw1⟩, rfl⟩ := hw'
    clear cq1 cq2 cq3 cq4 cq5 cq6 cq7 cq8
    have hk1 := hKW.trans hkw1
    go_wp2_with fail
    go_ret
    exact ⟨by rw [HE.out]; first | done | rfl | simp, by (repeat (first | exact Kp.refl _ _ | assumption | refine Kp.drew ?_ | refine Kp.drewN ?_ _ | refine Kp.alloc ?_ _ | (refine Kp.setCell ?_ (by first | (left; simp; done) | (right; simp; try omega)) _) | (refine Kp.trans' ?_ (by assumption) (by simp; try omega))))⟩
theorem rneeds_calls (q : Bw) (hm : mayW q = true) (w : World) : Calls Try.prog 63 #[bowV q] w fun e w' => e = .returned (.int .i64 (needsQ q)) ∧ Kp [] w w' := by
  have hb := Lib.hid (rbend_calls q hm)
  obtain ⟨e1, e2⟩ := bend_bounds hm
  obtain ⟨k, ⟨a1, a2⟩, ⟨b1, b2⟩, ⟨c1, c2⟩, ⟨d1, d2⟩⟩ := q
  show Calls Try.prog 63 #[.agg #[.int .i64 k, .int .i64 a1, .int .i64 a2, .int .i64 b1, .int .i64 b2, .int .i64 c1, .int .i64 c2, .int .i64 d1, .int .i64 d2]] w _
  by_cases h : k = 3
  · subst h
    have HE : Hid (needsQ ⟨3, (a1, a2), (b1, b2), (c1, c2), (d1, d2)⟩ = 3 * bendQ ⟨3, (a1, a2), (b1, b2), (c1, c2), (d1, d2)⟩) := rfl
    generalize bendQ ⟨3, (a1, a2), (b1, b2), (c1, c2), (d1, d2)⟩ = B at *
    clear hm
    go_enter Try.func63, Try.ntmps63
    go_wp2_with fail
    refine (hb.out _).mono ?_; rintro e w1 ⟨rfl, hk1⟩
    go_wp2_with fail
    go_ret
    exact ⟨by rw [HE.out]; first | done | rfl | simp, by (repeat (first | exact Kp.refl _ _ | assumption | refine Kp.drew ?_ | refine Kp.drewN ?_ _ | refine Kp.alloc ?_ _ | (refine Kp.setCell ?_ (by first | (left; simp; done) | (right; simp; try omega)) _) | (refine Kp.trans' ?_ (by assumption) (by simp; try omega))))⟩
  · have h' : (k == 3) = false := beq_eq_false_iff_ne.2 h
    have HE : Hid (needsQ ⟨k, (a1, a2), (b1, b2), (c1, c2), (d1, d2)⟩ = bendQ ⟨k, (a1, a2), (b1, b2), (c1, c2), (d1, d2)⟩) := if_neg h
    generalize bendQ ⟨k, (a1, a2), (b1, b2), (c1, c2), (d1, d2)⟩ = B at *
    clear hm h
    go_enter Try.func63, Try.ntmps63
    go_wp2_with fail
    refine (hb.out _).mono ?_; rintro e w1 ⟨rfl, hk1⟩
    go_wp2_with fail
    go_ret
    exact ⟨by rw [HE.out]; first | done | rfl | simp, by (repeat (first | exact Kp.refl _ _ | assumption | refine Kp.drew ?_ | refine Kp.drewN ?_ _ | refine Kp.alloc ?_ _ | (refine Kp.setCell ?_ (by first | (left; simp; done) | (right; simp; try omega)) _) | (refine Kp.trans' ?_ (by assumption) (by simp; try omega))))⟩
theorem sq_bounds (n : Nat) (h : n ≤ 256) : 0 ≤ 8 * (n : Int) * n ∧ 8 * (n : Int) * n ≤ 524288 := by
  have := sq_mono n 256 h
  have h0 := sq_mono 0 n (Nat.zero_le _)
  simp at this h0; omega
set_option maxRecDepth 100000 in
set_option maxHeartbeats 2000000 in
theorem rpieces_calls (q : Bw) (hm : mayW q = true) (w : World) : Calls Try.prog 42 #[bowV q] w fun e w' => e = .returned (.int .i64 (piecesQ (needsQ q))) ∧ Kp [] w w' := by
  have hb := Lib.hid (rneeds_calls q hm)
  have hp := Lib.hid (piecesQ_is (needsQ q))
  generalize piecesQ (needsQ q) = P at *
  generalize needsQ q = N at *
  clear hm
  obtain ⟨k, ⟨a1, a2⟩, ⟨b1, b2⟩, ⟨c1, c2⟩, ⟨d1, d2⟩⟩ := q
  show Calls Try.prog 42 #[.agg #[.int .i64 k, .int .i64 a1, .int .i64 a2, .int .i64 b1, .int .i64 b2, .int .i64 c1, .int .i64 c2, .int .i64 d1, .int .i64 d2]] w _
  go_enter Try.func42, Try.ntmps42
  go_wp2_with fail
  go_loopw [3] (fun i wr => ∃ n : Nat, 1 ≤ n ∧ n ≤ 256 ∧ i = .int .i64 n ∧ Kp [] (w.alloc (.cells #[.int .i64 k, .int .i64 a1, .int .i64 a2, .int .i64 b1, .int .i64 b2, .int .i64 c1, .int .i64 c2, .int .i64 d1, .int .i64 d2] 71)) wr ∧ Hid (∀ t : Nat, 1 ≤ t → t < n → 8 * (t : Int) * t < N)) (fun i _ => 256 - (intOf i).toNat)
  case atStart => exact ⟨1, by omega, by omega, rfl, Kp.refl _ _, fun t h1 h2 => by omega⟩
  case round =>
    obtain ⟨n, n1, n2, rfl, hk, HT⟩ := hrel
    obtain ⟨cb0, cb1, cb2, cb3, cb4, cb5, cb6, cb7, cb8⟩ := box9 hk
    by_cases hlt : n < 256
    · have hltI : (n : Int) < 256 := by omega
      obtain ⟨s1, s2⟩ := sq_bounds n n2
      by_cases hc : 8 * (n : Int) * n < N
      · have HT2 : Hid (∀ t : Nat, 1 ≤ t → t < n + 1 → 8 * (t : Int) * t < N) := fun t h1 h2 => by
          by_cases e : t = n
          · subst e; exact hc
          · exact HT.out t h1 (by omega)
        generalize hS : 8 * (n : Int) * n = S at *
        have HS : Hid _ := hS
        go_wp2_with fail
        refine (hb.out _).mono ?_; rintro e w1 ⟨rfl, hk1⟩
        go_wp2_with fail
        go_roundw
        case rel => first | exact ⟨n + 1, by omega, by omega, int_eq' (by omega), hk.trans hk1, HT2.out⟩ | ((repeat apply Exists.intro); exact ⟨⟨n + 1, by omega, by omega, int_eq' (by omega), hk.trans hk1, HT2.out⟩, rfl⟩)
        case measure => simp [intOf]; omega
      · have hc' : decide (8 * (n : Int) * n < N) = false := decide_eq_false hc
        have HE : Hid (P = n) := hp.out n n1 n2 HT.out (.inr (by omega))
        go_wp2_with fail
        refine (hb.out _).mono ?_; rintro e w1 ⟨rfl, hk1⟩
        go_wp2_with fail
        go_ret
        exact ⟨by rw [HE.out]; first | done | rfl | simp, ((Kp.refl [] w).alloc _).trans (hk.trans hk1)⟩
    · have hltI : decide ((n : Int) < 256) = false := decide_eq_false (by omega)
      have HE : Hid (P = n) := hp.out n n1 n2 HT.out (.inl (by omega))
      go_wp2_with fail
      go_ret
      exact ⟨by rw [HE.out]; first | done | rfl | simp, ((Kp.refl [] w).alloc _).trans (hk)⟩
theorem nearQ_pos (p c : Int) (h : 0 < c) : nearQ p c = (2 * p + c) / (2 * c) := if_pos h
theorem wrapI (x : Int) (h1 : -1152921504606846976 ≤ x) (h2 : x ≤ 1152921504606846976) : IntKind.i64.wrap x = x := by rw [IntKind.wrap_i64]; omega
set_option maxRecDepth 100000 in
set_option maxHeartbeats 2000000 in
theorem rweigh_calls (w0 w1 w2 w3 a b c d n : Int) (p0 : -1125899906842624 ≤ w0 * a ∧ w0 * a ≤ 1125899906842624) (p1 : -1125899906842624 ≤ w1 * b ∧ w1 * b ≤ 1125899906842624) (p2 : -1125899906842624 ≤ w2 * c ∧ w2 * c ≤ 1125899906842624) (p3 : -1125899906842624 ≤ w3 * d ∧ w3 * d ≤ 1125899906842624)
    (n1 : 1 ≤ n) (n2 : n ≤ 1073741824) (w : World) :
    Calls Try.prog 64 #[.agg #[.int .i64 w0, .int .i64 w1, .int .i64 w2, .int .i64 w3], .int .i64 a, .int .i64 b, .int .i64 c, .int .i64 d, .int .i64 n] w fun e w' => e = .returned (.int .i64 (nearQ (w0 * a + w1 * b + w2 * c + w3 * d) n)) ∧ Kp [] w w' := by
  have HE : Hid (nearQ (w0 * a + w1 * b + w2 * c + w3 * d) n = (2 * (w0 * a + w1 * b + w2 * c + w3 * d) + n) / (2 * n)) := nearQ_pos _ _ (by omega)
  have i0 : ∀ w, (Instr.index 97 (.agg #[.int .i64 w0, .int .i64 w1, .int .i64 w2, .int .i64 w3]) (.int .i64 0)).run Try.prog w = .ok (.int .i64 w0) w := fun _ => by kernel_rfl
  have i1 : ∀ w, (Instr.index 97 (.agg #[.int .i64 w0, .int .i64 w1, .int .i64 w2, .int .i64 w3]) (.int .i64 1)).run Try.prog w = .ok (.int .i64 w1) w := fun _ => by kernel_rfl
  have i2 : ∀ w, (Instr.index 97 (.agg #[.int .i64 w0, .int .i64 w1, .int .i64 w2, .int .i64 w3]) (.int .i64 2)).run Try.prog w = .ok (.int .i64 w2) w := fun _ => by kernel_rfl
  have i3 : ∀ w, (Instr.index 97 (.agg #[.int .i64 w0, .int .i64 w1, .int .i64 w2, .int .i64 w3]) (.int .i64 3)).run Try.prog w = .ok (.int .i64 w3) w := fun _ => by kernel_rfl
  have q0 := wrapI (w0 * a) (by omega) (by omega)
  have q1 := wrapI (w1 * b) (by omega) (by omega)
  have q2 := wrapI (w2 * c) (by omega) (by omega)
  have q3 := wrapI (w3 * d) (by omega) (by omega)
  have q4 := wrapI (w0 * a + w1 * b) (by omega) (by omega)
  have q5 := wrapI (w0 * a + w1 * b + w2 * c) (by omega) (by omega)
  have q6 := wrapI (w0 * a + w1 * b + w2 * c + w3 * d) (by omega) (by omega)
  have b1 : -2305843009213693952 ≤ w0 * a + w1 * b + w2 * c + w3 * d := by omega
  have b2 : w0 * a + w1 * b + w2 * c + w3 * d ≤ 2305843009213693952 := by omega
  clear p0 p1 p2 p3
  go_enter Try.func64, Try.ntmps64
  go_wp2_with fail
  refine (rnear2_calls _ _ n1 (by omega) b1 b2 _).mono ?_; rintro e w1 ⟨rfl, hd⟩
  have hk := Kp.of_below hd
  clear hd
  go_wp2_with fail
  go_ret
  exact ⟨by rw [HE.out]; first | done | rfl | simp, by first | exact hk | exact ((Kp.refl _ _).alloc _).trans hk⟩
end Go.Proofs.Ytpbmefojhgcniaa

/- curve: May, Bend, Pieces. (Written by wip/curve/gencud.py.) -/
import Derived.Test.YtpbmefojhgcniaaCuC
namespace Go.Proofs.Ytpbmefojhgcniaa
open Go.RowKit
set_option linter.unusedVariables false
set_option linter.unusedSimpArgs false
theorem dotsL_len (q : Bw) : (dotsL q).length ≤ 4 := by unfold dotsL; (repeat' split) <;> simp
theorem all_false (l : List (Int × Int)) (f : Int × Int → Bool) (j : Nat) (hj : j < l.length) (h : f (l.getD j (0, 0)) = false) : l.all f = false := by
  rw [← Bool.not_eq_true]; intro e
  have := List.all_eq_true.1 e (l.getD j (0, 0)) (by rw [List.getD_eq_getElem?_getD, List.getElem?_eq_getElem hj]; exact List.getElem_mem _)
  rw [h] at this; cases this
theorem all_true (l : List (Int × Int)) (f : Int × Int → Bool) (h : ∀ t, t < l.length → f (l.getD t (0, 0)) = true) : l.all f = true := by
  refine List.all_eq_true.2 fun p hp => ?_
  obtain ⟨i, hi, he⟩ := List.mem_iff_getElem.1 hp
  have := h i hi
  rw [List.getD_eq_getElem?_getD, List.getElem?_eq_getElem hi] at this
  simpa [he] using this
set_option maxRecDepth 100000 in
set_option maxHeartbeats 2000000 in
theorem cmay_calls (q : Bw) (w : World) : Calls Try.prog 87 #[bowV q] w fun e w' => e = .returned (.bool (mayW q)) ∧ Kp [] w w' := by
  have hd := Lib.hid (dots_calls q)
  have HM : Hid (mayW q = (decide (0 < (dotsL q).length) && (dotsL q).all dotQ)) := rfl
  have hlen := dotsL_len q
  generalize dotsL q = l at *
  generalize mayW q = M at *
  obtain ⟨k, ⟨a1, a2⟩, ⟨b1, b2⟩, ⟨c1, c2⟩, ⟨d1, d2⟩⟩ := q
  show Calls Try.prog 87 #[.agg #[.int .i64 k, .int .i64 a1, .int .i64 a2, .int .i64 b1, .int .i64 b2, .int .i64 c1, .int .i64 c2, .int .i64 d1, .int .i64 d2]] w _
  go_enter Try.func87, Try.ntmps87
  go_wp2_with fail
  refine (hd.out _).mono ?_; rintro e w1 ⟨v, rfl, hp, hk1, hb⟩
  clear hd hb
  rcases hp.cases with ⟨ad, rfl, rfl⟩ | ⟨g, off, c, rfl, p1, p2, p3⟩
  · have HE : Hid (M = false) := by rw [Hid, HM.out]; rfl
    clear hp
    go_wp2_with fail
    go_loopw [5, 10] (fun _ i wr => i = .int .i64 0 ∧ Kp [] w wr) (fun _ i _ => 0)
    case atStart => exact ⟨rfl, by (repeat (first | exact Kp.refl _ _ | assumption | refine Kp.drew ?_ | refine Kp.drewN ?_ _ | refine Kp.alloc ?_ _ | (refine Kp.setCell ?_ (by first | (left; simp; done) | (right; simp; try omega)) _) | (refine Kp.trans' ?_ (by assumption) (by simp; try omega))))⟩
    case round =>
      obtain ⟨rfl, hk⟩ := hrel
      go_wp2_with fail
      go_ret
      exact ⟨by rw [HE.out]; rfl, by (repeat (first | exact Kp.refl _ _ | assumption | refine Kp.drew ?_ | refine Kp.drewN ?_ _ | refine Kp.alloc ?_ _ | (refine Kp.setCell ?_ (by first | (left; simp; done) | (right; simp; try omega)) _) | (refine Kp.trans' ?_ (by assumption) (by simp; try omega))))⟩
  · have HC : Hid _ := p3
    clear p3 hp
    go_wp2_with fail
    go_loopw [5, 10] (fun _ i wr => ∃ j : Nat, j ≤ l.length ∧ i = .int .i64 j ∧ Kp [] w1 wr ∧ Hid (∀ t, t < j → dotQ (l.getD t (0, 0)) = true)) (fun _ i _ => l.length - (intOf i).toNat)
    case atStart => exact ⟨0, by omega, rfl, Kp.refl _ _, fun t ht => by omega⟩
    case round =>
      obtain ⟨j, hj, rfl, hk, HT⟩ := hrel
      by_cases hlt : j < l.length
      · have hcx := hk.cell (HC.out j hlt).1 (by simp)
        have hcy := hk.cell (HC.out j hlt).2 (by simp)
        have hpe : dotQ (l.getD j (0, 0)) = dotQ ((l.getD j (0, 0)).1, (l.getD j (0, 0)).2) := rfl
        have hbad := Lib.hid (all_false l dotQ j hlt)
        have hlI : (j : Int) < l.length := by omega
        have HPE : Hid _ := hpe
        have HTT : Hid (dotQ ((l.getD j (0, 0)).1, (l.getD j (0, 0)).2) = true → ∀ t, t < j + 1 → dotQ (l.getD t (0, 0)) = true) := fun h t ht => by
          by_cases e : t = j
          · subst e; exact h
          · exact HT.out t (by omega)
        have HBD : Hid (dotQ ((l.getD j (0, 0)).1, (l.getD j (0, 0)).2) = false → M = false) := fun h => by rw [HM.out, all_false l dotQ j hlt h]; simp
        clear hpe hbad HPE
        generalize (l.getD j (0, 0)).1 = x at *
        generalize (l.getD j (0, 0)).2 = y at *
        cases hxy : dotQ (x, y)
        · have HE : Hid (M = false) := HBD.out hxy
          have HX : Hid _ := hxy
          clear hxy HTT HBD
          go_wp2_with fail
          refine (maydot_calls _ _ _).mono ?_; rintro e w3 ⟨rfl, hk3⟩
          rw [HX.out]
          go_wp2_with fail
          go_ret
          exact ⟨by rw [HE.out]; first | done | rfl | simp, by (repeat (first | exact Kp.refl _ _ | assumption | refine Kp.drew ?_ | refine Kp.drewN ?_ _ | refine Kp.alloc ?_ _ | (refine Kp.setCell ?_ (by first | (left; simp; done) | (right; simp; try omega)) _) | (refine Kp.trans' ?_ (by assumption) (by simp; try omega))))⟩
        · have HN : Hid (∀ t, t < j + 1 → dotQ (l.getD t (0, 0)) = true) := HTT.out hxy
          have HX : Hid _ := hxy
          clear hxy HTT HBD
          go_wp2_with fail
          refine (maydot_calls _ _ _).mono ?_; rintro e w3 ⟨rfl, hk3⟩
          rw [HX.out]
          go_wp2_with fail
          go_roundw
          case rel => first | exact ⟨j + 1, by omega, int_eq' (by omega), by (repeat (first | exact Kp.refl _ _ | assumption | refine Kp.drew ?_ | refine Kp.drewN ?_ _ | refine Kp.alloc ?_ _ | (refine Kp.setCell ?_ (by first | (left; simp; done) | (right; simp; try omega)) _) | (refine Kp.trans' ?_ (by assumption) (by simp; try omega)))), HN.out⟩ | ((repeat apply Exists.intro); exact ⟨⟨j + 1, by omega, int_eq' (by omega), by (repeat (first | exact Kp.refl _ _ | assumption | refine Kp.drew ?_ | refine Kp.drewN ?_ _ | refine Kp.alloc ?_ _ | (refine Kp.setCell ?_ (by first | (left; simp; done) | (right; simp; try omega)) _) | (refine Kp.trans' ?_ (by assumption) (by simp; try omega)))), HN.out⟩, rfl⟩)
          case measure => simp [intOf]; omega
      · obtain rfl : j = l.length := by omega
        have HE : Hid (M = decide (0 < l.length)) := by rw [Hid, HM.out, all_true l dotQ (fun t ht => HT.out t ht), Bool.and_true]
        go_wp2_with fail
        go_ret
        exact ⟨by rw [HE.out]; simp, by (repeat (first | exact Kp.refl _ _ | assumption | refine Kp.drew ?_ | refine Kp.drewN ?_ _ | refine Kp.alloc ?_ _ | (refine Kp.setCell ?_ (by first | (left; simp; done) | (right; simp; try omega)) _) | (refine Kp.trans' ?_ (by assumption) (by simp; try omega))))⟩
/-- How far so many places bend. -/
def bendTo (l : List (Int × Int)) : Nat → Int
  | 0 => 0
  | t + 1 => max (bendTo l t) (secQ (l.getD t (0, 0)) (l.getD (t + 1) (0, 0)) (l.getD (t + 2) (0, 0)))
theorem bendTo_bounds (l : List (Int × Int)) (h : ∀ t, t < l.length → dotQ (l.getD t (0, 0)) = true) (t : Nat) (ht : t + 2 ≤ l.length ∨ t = 0) : 0 ≤ bendTo l t ∧ bendTo l t ≤ 4194304 := by
  induction t with
  | zero => simp [bendTo]
  | succ t ih =>
    have := ih (by omega)
    have e := sec_bounds (l.getD t (0, 0)) (l.getD (t + 1) (0, 0)) (l.getD (t + 2) (0, 0)) (h _ (by omega)) (h _ (by omega)) (h _ (by omega))
    unfold bendTo; omega
theorem bendTo_is (q : Bw) (hm : mayW q = true) : bendTo (dotsL q) ((dotsL q).length - 2) = bendQ q := by
  rcases may_kind hm with h | h | h
  · simp [dotsL, bendQ, h, bendTo]
  · rw [may_2 h] at hm
    simp only [Bool.and_eq_true] at hm
    have e := sec_bounds _ _ _ hm.1 hm.2.1 hm.2.2
    simp [dotsL, bendQ, h, bendTo]; omega
  · rw [may_3 h] at hm
    simp only [Bool.and_eq_true] at hm
    have e := sec_bounds _ _ _ hm.1 hm.2.1 hm.2.2.1
    simp [dotsL, bendQ, h, bendTo]; omega
theorem may_dots {q : Bw} (hm : mayW q = true) : 2 ≤ (dotsL q).length ∧ ∀ t, t < (dotsL q).length → dotQ ((dotsL q).getD t (0, 0)) = true := by
  have h : (dotsL q).all dotQ = true := by unfold mayW at hm; exact ((Bool.and_eq_true _ _).mp hm).2
  refine ⟨?_, fun t ht => List.all_eq_true.1 h _ (by rw [List.getD_eq_getElem?_getD, List.getElem?_eq_getElem ht]; exact List.getElem_mem _)⟩
  rcases may_kind hm with h | h | h <;> simp [dotsL, h]
theorem wrap64_in (x : Int) (h1 : -1152921504606846976 ≤ x) (h2 : x ≤ 1152921504606846976) : wrap64 x = x := by unfold wrap64; omega
theorem pfacts (n : Nat) (h : n ≤ 256) : ∃ S : Int, S = 8 * (n : Int) * n ∧ 0 ≤ S ∧ S ≤ 524288 ∧ IntKind.i64.wrap (8 * (n : Int)) = 8 * (n : Int) ∧ wrap64 (8 * (n : Int) * n) = S ∧ IntKind.i64.wrap (8 * (n : Int) * n) = S := by
  obtain ⟨s1, s2⟩ := sq_bounds n h
  refine ⟨_, rfl, s1, s2, wrapI _ (by omega) (by omega), wrap64_in _ ?_ ?_, wrapI _ ?_ ?_⟩
  · exact Int.le_trans (by decide) s1
  · exact Int.le_trans s2 (by decide)
  · exact Int.le_trans (by decide) s1
  · exact Int.le_trans s2 (by decide)
theorem sq_all (n : Nat) (N S : Int) (hS : S = 8 * (n : Int) * n) (hc : ¬ N ≤ S) (t : Nat) (h1 : 1 ≤ t) (h2 : t < n + 1) : 8 * (t : Int) * t < N := by
  have := sq_mono t n (by omega)
  exact Int.lt_of_le_of_lt this (by rw [← hS]; exact Int.not_le.1 hc)
theorem imax (a b : Int) : (if b > a then b else a) = max a b := by split <;> omega
theorem run_max_int5 (P : Program) (w : World) (ts : Array TypeId) (t : TypeId) (k : IntKind) (a b c d e : Int) : (Builtin.max_ ts t #[.int k a, .int k b, .int k c, .int k d, .int k e]).run P w = .ok (.int k (max (max (max (max a b) c) d) e)) w := by
  simp [Builtin.max_, Builtin.max2, ← imax, go_sem]
theorem max5 (m x y : Int) : max (max (max (max m x) (-x)) y) (-y) = max m (max (absI x) (absI y)) := by rw [absI_max, absI_max]; omega
set_option maxRecDepth 100000 in
set_option maxHeartbeats 4000000 in
theorem cbend_calls (q : Bw) (hm : mayW q = true) (w : World) : Calls Try.prog 88 #[bowV q] w fun e w' => e = .returned (.int .i64 (bendQ q)) ∧ Kp [] w w' := by
  have hd := Lib.hid (dots_calls q)
  have hcm := Lib.hid (cmay_calls q)
  have HM : Hid (mayW q = true) := hm
  have HB : Hid (bendTo (dotsL q) ((dotsL q).length - 2) = bendQ q) := bendTo_is q hm
  have hlen := dotsL_len q
  obtain ⟨hl2, hall⟩ := may_dots hm
  have HALL : Hid _ := hall
  clear hm hall
  generalize dotsL q = l at *
  generalize mayW q = M at *
  generalize bendQ q = R at *
  obtain ⟨k, ⟨a1, a2⟩, ⟨b1, b2⟩, ⟨c1, c2⟩, ⟨d1, d2⟩⟩ := q
  show Calls Try.prog 88 #[.agg #[.int .i64 k, .int .i64 a1, .int .i64 a2, .int .i64 b1, .int .i64 b2, .int .i64 c1, .int .i64 c2, .int .i64 d1, .int .i64 d2]] w _
  go_enter Try.func88, Try.ntmps88
  go_wp2_with fail
  refine (hcm.out _).mono ?_; rintro e w0 ⟨rfl, hk0⟩
  rw [HM.out]
  have K_w0 : Kp [] (w.alloc (.cells #[.int .i64 k, .int .i64 a1, .int .i64 a2, .int .i64 b1, .int .i64 b2, .int .i64 c1, .int .i64 c2, .int .i64 d1, .int .i64 d2] 71)) w0 := hk0
  obtain ⟨cb0, cb1, cb2, cb3, cb4, cb5, cb6, cb7, cb8⟩ := box9 K_w0
  go_wp2_with fail
  refine (hd.out _).mono ?_; rintro e w1 ⟨v, rfl, hp, hk1, hb⟩
  clear hd hb hcm
  rcases hp.cases with ⟨ad, rfl, rfl⟩ | ⟨g, off, c, rfl, p1, p2, p3⟩
  · simp at hl2
  have HC : Hid _ := p3
  have hkw : Kp [] w w1 := by (repeat (first | exact Kp.refl _ _ | assumption | refine Kp.drew ?_ | refine Kp.drewN ?_ _ | refine Kp.alloc ?_ _ | (refine Kp.setCell ?_ (by first | (left; simp; done) | (right; simp; try omega)) _) | (refine Kp.trans' ?_ (by assumption) (by simp; try omega))))
  clear p3 hp hk0 hk1
  go_wp2_with fail
  go_loopw [4, 5, 6, 7] (fun m i _ _ wr => ∃ t : Nat, t + 2 ≤ l.length ∧ i = .int .i64 ((t : Int) + 2) ∧ m = .int .i64 (bendTo l t) ∧ Kp [] w1 wr) (fun _ i _ _ _ => l.length - (intOf i).toNat)
  case atStart => exact ⟨0, by omega, rfl, rfl, Kp.refl _ _⟩
  case round =>
    obtain ⟨t, ht, rfl, rfl, hk⟩ := hrel
    obtain ⟨q1, q2⟩ := bendTo_bounds l HALL.out t (.inl ht)
    by_cases hlt : t + 2 < l.length
    · have hx0 := hk.cell (HC.out t (by omega)).1 (by simp)
      have hy0 := hk.cell (HC.out t (by omega)).2 (by simp)
      have hx1 := hk.cell (HC.out (t + 1) (by omega)).1 (by simp)
      have hy1 := hk.cell (HC.out (t + 1) (by omega)).2 (by simp)
      have hx2 := hk.cell (HC.out (t + 2) hlt).1 (by simp)
      have hy2 := hk.cell (HC.out (t + 2) hlt).2 (by simp)
      have b0 := HALL.out t (by omega)
      have b1 := HALL.out (t + 1) (by omega)
      have b2 := HALL.out (t + 2) hlt
      rw [dotQ_iff] at b0 b1 b2
      obtain ⟨⟨r1, r2⟩, r3, r4⟩ := b0
      obtain ⟨⟨s1, s2⟩, s3, s4⟩ := b1
      obtain ⟨⟨u1, u2⟩, u3, u4⟩ := b2
      have HS : Hid (bendTo l (t + 1) = max (bendTo l t) (max (absI ((l.getD t (0, 0)).1 - 2 * (l.getD (t + 1) (0, 0)).1 + (l.getD (t + 2) (0, 0)).1)) (absI ((l.getD t (0, 0)).2 - 2 * (l.getD (t + 1) (0, 0)).2 + (l.getD (t + 2) (0, 0)).2)))) := rfl
      have hlI : (t : Int) + 2 < l.length := by omega
      have hlJ : (t : Int) + 1 < l.length := by omega
      have hlK : (t : Int) < l.length := by omega
      have hT1 : ((t : Int) + 1).toNat = t + 1 := by omega
      have hT2 : ((t : Int) + 2).toNat = t + 2 := by omega
      generalize bendTo l t = m at *
      generalize (l.getD t (0, 0)).1 = x0 at *
      generalize (l.getD t (0, 0)).2 = y0 at *
      generalize (l.getD (t + 1) (0, 0)).1 = x1 at *
      generalize (l.getD (t + 1) (0, 0)).2 = y1 at *
      generalize (l.getD (t + 2) (0, 0)).1 = x2 at *
      generalize (l.getD (t + 2) (0, 0)).2 = y2 at *
      rw [← max5] at HS
      go_wp2_with fail
      go_quiet (fail)
      go_wp2_with fail
      go_quiet (fail)
      go_wp2_with fail
      rw [run_max_int5]
      go_wp2_with fail
      go_roundw
      case rel => first | exact ⟨t + 1, by omega, int_eq' (by omega), int_eq' (by rw [HS.out]; first | done | rfl | simp only [Int.max_assoc] | omega), by (repeat (first | exact Kp.refl _ _ | assumption | refine Kp.drew ?_ | refine Kp.drewN ?_ _ | refine Kp.alloc ?_ _ | (refine Kp.setCell ?_ (by first | (left; simp; done) | (right; simp; try omega)) _) | (refine Kp.trans' ?_ (by assumption) (by simp; try omega))))⟩ | ((repeat apply Exists.intro); exact ⟨⟨t + 1, by omega, int_eq' (by omega), int_eq' (by rw [HS.out]; first | done | rfl | simp only [Int.max_assoc] | omega), by (repeat (first | exact Kp.refl _ _ | assumption | refine Kp.drew ?_ | refine Kp.drewN ?_ _ | refine Kp.alloc ?_ _ | (refine Kp.setCell ?_ (by first | (left; simp; done) | (right; simp; try omega)) _) | (refine Kp.trans' ?_ (by assumption) (by simp; try omega))))⟩, rfl⟩)
      case measure => simp [intOf]; omega
    · have HE : Hid (R = bendTo l t) := by rw [Hid, ← HB.out, show l.length - 2 = t by omega]
      have hlI : ¬ ((t : Int) + 2 < l.length) := by omega
      go_wp2_with fail
      go_ret
      exact ⟨by rw [HE.out]; first | done | rfl | simp, by (repeat (first | exact Kp.refl _ _ | assumption | refine Kp.drew ?_ | refine Kp.drewN ?_ _ | refine Kp.alloc ?_ _ | (refine Kp.setCell ?_ (by first | (left; simp; done) | (right; simp; try omega)) _) | (refine Kp.trans' ?_ (by assumption) (by simp; try omega))))⟩
theorem cbend_no (q : Bw) (hm : mayW q = false) (w : World) : Calls Try.prog 88 #[bowV q] w fun e w' => e = .returned (.int .i64 0) ∧ Kp [] w w' := by
  have hcm := Lib.hid (cmay_calls q)
  have HM : Hid (mayW q = false) := hm
  clear hm
  generalize mayW q = M at *
  obtain ⟨k, ⟨a1, a2⟩, ⟨b1, b2⟩, ⟨c1, c2⟩, ⟨d1, d2⟩⟩ := q
  show Calls Try.prog 88 #[.agg #[.int .i64 k, .int .i64 a1, .int .i64 a2, .int .i64 b1, .int .i64 b2, .int .i64 c1, .int .i64 c2, .int .i64 d1, .int .i64 d2]] w _
  go_enter Try.func88, Try.ntmps88
  go_wp2_with fail
  refine (hcm.out _).mono ?_; rintro e w0 ⟨rfl, hk0⟩
  rw [HM.out]
  go_wp2_with fail
  go_ret
  exact ⟨rfl, by (repeat (first | exact Kp.refl _ _ | assumption | refine Kp.drew ?_ | refine Kp.drewN ?_ _ | refine Kp.alloc ?_ _ | (refine Kp.setCell ?_ (by first | (left; simp; done) | (right; simp; try omega)) _) | (refine Kp.trans' ?_ (by assumption) (by simp; try omega))))⟩
theorem cpieces_no (q : Bw) (hm : mayW q = false) (w : World) : Calls Try.prog 79 #[bowV q] w fun e w' => e = .returned (.int .i64 0) ∧ Kp [] w w' := by
  have hcm := Lib.hid (cmay_calls q)
  have HM : Hid (mayW q = false) := hm
  clear hm
  generalize mayW q = M at *
  obtain ⟨k, ⟨a1, a2⟩, ⟨b1, b2⟩, ⟨c1, c2⟩, ⟨d1, d2⟩⟩ := q
  show Calls Try.prog 79 #[.agg #[.int .i64 k, .int .i64 a1, .int .i64 a2, .int .i64 b1, .int .i64 b2, .int .i64 c1, .int .i64 c2, .int .i64 d1, .int .i64 d2]] w _
  go_enter Try.func79, Try.ntmps79
  go_wp2_with fail
  refine (hcm.out _).mono ?_; rintro e w0 ⟨rfl, hk0⟩
  rw [HM.out]
  go_wp2_with fail
  go_ret
  exact ⟨rfl, by (repeat (first | exact Kp.refl _ _ | assumption | refine Kp.drew ?_ | refine Kp.drewN ?_ _ | refine Kp.alloc ?_ _ | (refine Kp.setCell ?_ (by first | (left; simp; done) | (right; simp; try omega)) _) | (refine Kp.trans' ?_ (by assumption) (by simp; try omega))))⟩
set_option maxRecDepth 100000 in
set_option maxHeartbeats 4000000 in
theorem cpieces_calls (q : Bw) (hm : mayW q = true) (w : World) : Calls Try.prog 79 #[bowV q] w fun e w' => e = .returned (.int .i64 (piecesQ (needsQ q))) ∧ Kp [] w w' := by
  have hcm := Lib.hid (cmay_calls q)
  have hcb := Lib.hid (cbend_calls q hm)
  have HM : Hid (mayW q = true) := hm
  obtain ⟨e1, e2⟩ := bend_bounds hm
  have HN : Hid (needsQ q = if q.k = 3 then 3 * bendQ q else bendQ q) := rfl
  have hp := Lib.hid (piecesQ_is (needsQ q))
  generalize piecesQ (needsQ q) = P at *
  generalize needsQ q = N at *
  generalize bendQ q = B at *
  clear hm
  generalize mayW q = M at *
  obtain ⟨k, ⟨a1, a2⟩, ⟨b1, b2⟩, ⟨c1, c2⟩, ⟨d1, d2⟩⟩ := q
  show Calls Try.prog 79 #[.agg #[.int .i64 k, .int .i64 a1, .int .i64 a2, .int .i64 b1, .int .i64 b2, .int .i64 c1, .int .i64 c2, .int .i64 d1, .int .i64 d2]] w _
  have hloop : ∀ (wl : World), Kp [] w wl → True := fun _ _ => trivial
  by_cases hk3 : k = 3
  · subst hk3
    obtain rfl : N = B * 3 := by have := HN.out; simp at this; omega
    clear hloop HN
    go_enter Try.func79, Try.ntmps79
    go_wp2_with fail
    refine (hcm.out _).mono ?_; rintro e w0 ⟨rfl, hk0⟩
    rw [HM.out]
    have K_w0 : Kp [] (w.alloc (.cells #[.int .i64 3, .int .i64 a1, .int .i64 a2, .int .i64 b1, .int .i64 b2, .int .i64 c1, .int .i64 c2, .int .i64 d1, .int .i64 d2] 71)) w0 := hk0
    obtain ⟨cb0, cb1, cb2, cb3, cb4, cb5, cb6, cb7, cb8⟩ := box9 K_w0
    go_wp2_with fail
    refine (hcb.out _).mono ?_; rintro e w1 ⟨rfl, hk1⟩
    clear cb0 cb1 cb2 cb3 cb4 cb5 cb6 cb7 cb8
    have K_w1 : Kp [] (w.alloc (.cells #[.int .i64 3, .int .i64 a1, .int .i64 a2, .int .i64 b1, .int .i64 b2, .int .i64 c1, .int .i64 c2, .int .i64 d1, .int .i64 d2] 71)) w1 := K_w0.trans hk1
    obtain ⟨cb0, cb1, cb2, cb3, cb4, cb5, cb6, cb7, cb8⟩ := box9 K_w1
    have hkw : Kp [] w w1 := by (repeat (first | exact Kp.refl _ _ | assumption | refine Kp.drew ?_ | refine Kp.drewN ?_ _ | refine Kp.alloc ?_ _ | (refine Kp.setCell ?_ (by first | (left; simp; done) | (right; simp; try omega)) _) | (refine Kp.trans' ?_ (by assumption) (by simp; try omega))))
    clear hk0 hk1 hcm hcb
    go_wp2_with fail
    generalize hNd : B * 3 = N2 at *
    clear hNd
    go_loopw [4, 5, 6] (fun lo hi _ wr => ∃ a b : Nat, 1 ≤ a ∧ a ≤ b ∧ b ≤ 256 ∧ lo = .int .i64 a ∧ hi = .int .i64 b ∧ Kp [] w wr ∧ Hid (∀ t : Nat, 1 ≤ t → t < a → 8 * (t : Int) * t < N2) ∧ Hid (b = 256 ∨ N2 ≤ 8 * (b : Int) * b)) (fun lo hi _ _ => (intOf hi).toNat - (intOf lo).toNat)
    case atStart => exact ⟨1, 256, by omega, by omega, by omega, rfl, rfl, by (repeat (first | exact Kp.refl _ _ | assumption | refine Kp.drew ?_ | refine Kp.drewN ?_ _ | refine Kp.alloc ?_ _ | (refine Kp.setCell ?_ (by first | (left; simp; done) | (right; simp; try omega)) _) | (refine Kp.trans' ?_ (by assumption) (by simp; try omega)))), fun t h1 h2 => by omega, .inl rfl⟩
    case round =>
      obtain ⟨a, b, a1, a2, a3, rfl, rfl, hk, HT, HU⟩ := hrel
      by_cases hlt : a < b
      · obtain ⟨n, hn⟩ : ∃ n : Nat, n = (a + b) / 2 := ⟨_, rfl⟩
        have hnI : ((a : Int) + b) / 2 = n := by omega
        have hnD : Int.tdiv ((a : Int) + b) 2 = n := by rw [Int.tdiv_eq_ediv_of_nonneg (by omega)]; omega
        have hn1 : a ≤ n := by omega
        have hn2 : n < b := by omega
        have hltI : (a : Int) < b := by omega
        obtain ⟨S, hS, s1, s2, hw1, hw3, hw4⟩ := pfacts n (by omega)
        by_cases hc : N2 ≤ S
        · have HU2 : Hid (n = 256 ∨ N2 ≤ 8 * (n : Int) * n) := .inr (by rw [← hS]; exact hc)
          clear hS hn
          go_wp2_with fail
          go_roundw
          case rel => first | exact ⟨a, n, a1, hn1, by omega, rfl, int_eq' (by omega), by (repeat (first | exact Kp.refl _ _ | assumption | refine Kp.drew ?_ | refine Kp.drewN ?_ _ | refine Kp.alloc ?_ _ | (refine Kp.setCell ?_ (by first | (left; simp; done) | (right; simp; try omega)) _) | (refine Kp.trans' ?_ (by assumption) (by simp; try omega)))), HT.out, HU2.out⟩ | ((repeat apply Exists.intro); exact ⟨⟨a, n, a1, hn1, by omega, rfl, int_eq' (by omega), by (repeat (first | exact Kp.refl _ _ | assumption | refine Kp.drew ?_ | refine Kp.drewN ?_ _ | refine Kp.alloc ?_ _ | (refine Kp.setCell ?_ (by first | (left; simp; done) | (right; simp; try omega)) _) | (refine Kp.trans' ?_ (by assumption) (by simp; try omega)))), HT.out, HU2.out⟩, rfl⟩)
          case measure => simp [intOf]; omega
        · have hc' : decide (N2 ≤ S) = false := decide_eq_false hc
          have HT2 : Hid (∀ t : Nat, 1 ≤ t → t < n + 1 → 8 * (t : Int) * t < N2) := sq_all n N2 S hS hc
          clear hn hS
          go_wp2_with fail
          go_roundw
          case rel => first | exact ⟨n + 1, b, by omega, by omega, a3, int_eq' (by omega), rfl, by (repeat (first | exact Kp.refl _ _ | assumption | refine Kp.drew ?_ | refine Kp.drewN ?_ _ | refine Kp.alloc ?_ _ | (refine Kp.setCell ?_ (by first | (left; simp; done) | (right; simp; try omega)) _) | (refine Kp.trans' ?_ (by assumption) (by simp; try omega)))), HT2.out, HU.out⟩ | ((repeat apply Exists.intro); exact ⟨⟨n + 1, b, by omega, by omega, a3, int_eq' (by omega), rfl, by (repeat (first | exact Kp.refl _ _ | assumption | refine Kp.drew ?_ | refine Kp.drewN ?_ _ | refine Kp.alloc ?_ _ | (refine Kp.setCell ?_ (by first | (left; simp; done) | (right; simp; try omega)) _) | (refine Kp.trans' ?_ (by assumption) (by simp; try omega)))), HT2.out, HU.out⟩, rfl⟩)
          case measure => simp [intOf]; omega
      · obtain rfl : a = b := by omega
        have HE : Hid (P = a) := hp.out a a1 a3 HT.out HU.out
        go_wp2_with fail
        go_ret
        exact ⟨by rw [HE.out]; first | done | rfl | simp, by (repeat (first | exact Kp.refl _ _ | assumption | refine Kp.drew ?_ | refine Kp.drewN ?_ _ | refine Kp.alloc ?_ _ | (refine Kp.setCell ?_ (by first | (left; simp; done) | (right; simp; try omega)) _) | (refine Kp.trans' ?_ (by assumption) (by simp; try omega))))⟩
  · have hk3' : (k == 3) = false := beq_eq_false_iff_ne.2 hk3
    obtain rfl : N = B := by have := HN.out; simp only [if_neg hk3] at this; exact this
    clear hloop HN hk3
    go_enter Try.func79, Try.ntmps79
    go_wp2_with fail
    refine (hcm.out _).mono ?_; rintro e w0 ⟨rfl, hk0⟩
    rw [HM.out]
    have K_w0 : Kp [] (w.alloc (.cells #[.int .i64 k, .int .i64 a1, .int .i64 a2, .int .i64 b1, .int .i64 b2, .int .i64 c1, .int .i64 c2, .int .i64 d1, .int .i64 d2] 71)) w0 := hk0
    obtain ⟨cb0, cb1, cb2, cb3, cb4, cb5, cb6, cb7, cb8⟩ := box9 K_w0
    go_wp2_with fail
    refine (hcb.out _).mono ?_; rintro e w1 ⟨rfl, hk1⟩
    clear cb0 cb1 cb2 cb3 cb4 cb5 cb6 cb7 cb8
    have K_w1 : Kp [] (w.alloc (.cells #[.int .i64 k, .int .i64 a1, .int .i64 a2, .int .i64 b1, .int .i64 b2, .int .i64 c1, .int .i64 c2, .int .i64 d1, .int .i64 d2] 71)) w1 := K_w0.trans hk1
    obtain ⟨cb0, cb1, cb2, cb3, cb4, cb5, cb6, cb7, cb8⟩ := box9 K_w1
    have hkw : Kp [] w w1 := by (repeat (first | exact Kp.refl _ _ | assumption | refine Kp.drew ?_ | refine Kp.drewN ?_ _ | refine Kp.alloc ?_ _ | (refine Kp.setCell ?_ (by first | (left; simp; done) | (right; simp; try omega)) _) | (refine Kp.trans' ?_ (by assumption) (by simp; try omega))))
    clear hk0 hk1 hcm hcb
    go_wp2_with fail
    generalize hNd : N = N2 at *
    clear hNd
    go_loopw [4, 5, 6] (fun lo hi _ wr => ∃ a b : Nat, 1 ≤ a ∧ a ≤ b ∧ b ≤ 256 ∧ lo = .int .i64 a ∧ hi = .int .i64 b ∧ Kp [] w wr ∧ Hid (∀ t : Nat, 1 ≤ t → t < a → 8 * (t : Int) * t < N2) ∧ Hid (b = 256 ∨ N2 ≤ 8 * (b : Int) * b)) (fun lo hi _ _ => (intOf hi).toNat - (intOf lo).toNat)
    case atStart => exact ⟨1, 256, by omega, by omega, by omega, rfl, rfl, by (repeat (first | exact Kp.refl _ _ | assumption | refine Kp.drew ?_ | refine Kp.drewN ?_ _ | refine Kp.alloc ?_ _ | (refine Kp.setCell ?_ (by first | (left; simp; done) | (right; simp; try omega)) _) | (refine Kp.trans' ?_ (by assumption) (by simp; try omega)))), fun t h1 h2 => by omega, .inl rfl⟩
    case round =>
      obtain ⟨a, b, a1, a2, a3, rfl, rfl, hk, HT, HU⟩ := hrel
      by_cases hlt : a < b
      · obtain ⟨n, hn⟩ : ∃ n : Nat, n = (a + b) / 2 := ⟨_, rfl⟩
        have hnI : ((a : Int) + b) / 2 = n := by omega
        have hnD : Int.tdiv ((a : Int) + b) 2 = n := by rw [Int.tdiv_eq_ediv_of_nonneg (by omega)]; omega
        have hn1 : a ≤ n := by omega
        have hn2 : n < b := by omega
        have hltI : (a : Int) < b := by omega
        obtain ⟨S, hS, s1, s2, hw1, hw3, hw4⟩ := pfacts n (by omega)
        by_cases hc : N2 ≤ S
        · have HU2 : Hid (n = 256 ∨ N2 ≤ 8 * (n : Int) * n) := .inr (by rw [← hS]; exact hc)
          clear hS hn
          go_wp2_with fail
          go_roundw
          case rel => first | exact ⟨a, n, a1, hn1, by omega, rfl, int_eq' (by omega), by (repeat (first | exact Kp.refl _ _ | assumption | refine Kp.drew ?_ | refine Kp.drewN ?_ _ | refine Kp.alloc ?_ _ | (refine Kp.setCell ?_ (by first | (left; simp; done) | (right; simp; try omega)) _) | (refine Kp.trans' ?_ (by assumption) (by simp; try omega)))), HT.out, HU2.out⟩ | ((repeat apply Exists.intro); exact ⟨⟨a, n, a1, hn1, by omega, rfl, int_eq' (by omega), by (repeat (first | exact Kp.refl _ _ | assumption | refine Kp.drew ?_ | refine Kp.drewN ?_ _ | refine Kp.alloc ?_ _ | (refine Kp.setCell ?_ (by first | (left; simp; done) | (right; simp; try omega)) _) | (refine Kp.trans' ?_ (by assumption) (by simp; try omega)))), HT.out, HU2.out⟩, rfl⟩)
          case measure => simp [intOf]; omega
        · have hc' : decide (N2 ≤ S) = false := decide_eq_false hc
          have HT2 : Hid (∀ t : Nat, 1 ≤ t → t < n + 1 → 8 * (t : Int) * t < N2) := sq_all n N2 S hS hc
          clear hn hS
          go_wp2_with fail
          go_roundw
          case rel => first | exact ⟨n + 1, b, by omega, by omega, a3, int_eq' (by omega), rfl, by (repeat (first | exact Kp.refl _ _ | assumption | refine Kp.drew ?_ | refine Kp.drewN ?_ _ | refine Kp.alloc ?_ _ | (refine Kp.setCell ?_ (by first | (left; simp; done) | (right; simp; try omega)) _) | (refine Kp.trans' ?_ (by assumption) (by simp; try omega)))), HT2.out, HU.out⟩ | ((repeat apply Exists.intro); exact ⟨⟨n + 1, b, by omega, by omega, a3, int_eq' (by omega), rfl, by (repeat (first | exact Kp.refl _ _ | assumption | refine Kp.drew ?_ | refine Kp.drewN ?_ _ | refine Kp.alloc ?_ _ | (refine Kp.setCell ?_ (by first | (left; simp; done) | (right; simp; try omega)) _) | (refine Kp.trans' ?_ (by assumption) (by simp; try omega)))), HT2.out, HU.out⟩, rfl⟩)
          case measure => simp [intOf]; omega
      · obtain rfl : a = b := by omega
        have HE : Hid (P = a) := hp.out a a1 a3 HT.out HU.out
        go_wp2_with fail
        go_ret
        exact ⟨by rw [HE.out]; first | done | rfl | simp, by (repeat (first | exact Kp.refl _ _ | assumption | refine Kp.drew ?_ | refine Kp.drewN ?_ _ | refine Kp.alloc ?_ _ | (refine Kp.setCell ?_ (by first | (left; simp; done) | (right; simp; try omega)) _) | (refine Kp.trans' ?_ (by assumption) (by simp; try omega))))⟩
end Go.Proofs.Ytpbmefojhgcniaa

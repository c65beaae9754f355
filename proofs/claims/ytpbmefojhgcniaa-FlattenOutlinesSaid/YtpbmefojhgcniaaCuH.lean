/- curve: at, At, Dots. (Written by wip/curve/gencuh.py.) -/
import Derived.Test.YtpbmefojhgcniaaCuG
namespace Go.Proofs.Ytpbmefojhgcniaa
open Go.RowKit
set_option linter.unusedVariables false
set_option linter.unusedSimpArgs false
theorem at_is (q : Bw) (hm : mayW q = true) (i n : Int) :
    ((nearQ (wsum (wts i (n - i) ((dotsL q).length - 1)) ((dotsL q).map (·.1)) (dotsL q).length) (powN n ((dotsL q).length - 1)), nearQ (wsum (wts i (n - i) ((dotsL q).length - 1)) ((dotsL q).map (·.2)) (dotsL q).length) (powN n ((dotsL q).length - 1))) : Int × Int) = atQ q i n := by
  rcases may_kind hm with h | h | h
  · have e : dotsL q = [q.a, q.d] := by simp [dotsL, h]
    rw [e, atQ_1 h]
    show (nearQ (wsum (wts i (n - i) 1) [q.a.1, q.d.1] 2) (powN n 1), nearQ (wsum (wts i (n - i) 1) [q.a.2, q.d.2] 2) (powN n 1)) = _
    rw [wsum_1, wsum_1, powN_1]
  · have e : dotsL q = [q.a, q.b, q.d] := by simp [dotsL, h]
    rw [e, atQ_2 h]
    show (nearQ (wsum (wts i (n - i) 2) [q.a.1, q.b.1, q.d.1] 3) (powN n 2), nearQ (wsum (wts i (n - i) 2) [q.a.2, q.b.2, q.d.2] 3) (powN n 2)) = _
    rw [wsum_2, wsum_2, powN_2]
  · have e : dotsL q = [q.a, q.b, q.c, q.d] := by simp [dotsL, h]
    rw [e, atQ_3 h]
    show (nearQ (wsum (wts i (n - i) 3) [q.a.1, q.b.1, q.c.1, q.d.1] 4) (powN n 3), nearQ (wsum (wts i (n - i) 3) [q.a.2, q.b.2, q.c.2, q.d.2] 4) (powN n 3)) = _
    rw [wsum_3, wsum_3, powN_3]
theorem powN_le {n : Int} (h0 : 1 ≤ n) (h1 : n ≤ 512) (s : Nat) (hs : s ≤ 3) : 1 ≤ powN n s ∧ powN n s ≤ 134217728 := by
  by_cases h : s ≤ 2
  · have := powN_bounds h0 h1 s h; omega
  · obtain rfl : s = 3 := by omega
    have e := powN_bounds h0 h1 2 (by omega)
    have := mul_upTo (show 0 ≤ powN n 2 by omega) e.2 (show (0 : Int) ≤ n by omega) h1
    have e2 : 1 ≤ powN n 2 * n := Int.mul_pos (by omega) (by omega)
    show 1 ≤ powN n 2 * n ∧ powN n 2 * n ≤ 134217728
    omega
set_option maxRecDepth 100000 in
set_option maxHeartbeats 2000000 in
theorem cat_calls (q : Bw) (hm : mayW q = true) (i n : Int) (hi : 0 ≤ i) (hin : i ≤ n) (hn : 1 ≤ n) (hn2 : n ≤ 512) (w : World) :
    Calls Try.prog 80 #[bowV q, .int .i64 i, .int .i64 n] w fun e w' => e = .returned (dotV (atQ q i n)) ∧ Kp [] w w' := by
  have hd := Lib.hid (dots_calls q)
  have HA := Lib.hid (at_is q hm i n)
  obtain ⟨hl2, hall⟩ := may_dots hm
  have HALL : Hid _ := hall
  have hl4 := dotsL_len q
  have HPW := Lib.hid (powN_le hn hn2 ((dotsL q).length - 1) (by omega))
  have HUP : Hid (upTo 1073741824 (wts i (n - i) ((dotsL q).length - 1))) := fun x hx => by
    have h := wts_upTo (show 0 ≤ i ∧ i ≤ 512 by omega) (show 0 ≤ n - i ∧ n - i ≤ 512 by omega) ((dotsL q).length - 1) x hx
    have : (1024 ^ ((dotsL q).length - 1) : Nat) ≤ 1073741824 := Nat.le_trans (Nat.pow_le_pow_right (by decide) (show (dotsL q).length - 1 ≤ 3 by omega)) (by decide)
    omega
  have HWL := Lib.hid (wts_length i (n - i) ((dotsL q).length - 1))
  clear hall
  generalize dotsL q = l at *
  generalize atQ q i n = R at *
  clear hm
  obtain ⟨k, ⟨a1, a2⟩, ⟨b1, b2⟩, ⟨c1, c2⟩, ⟨d1, d2⟩⟩ := q
  show Calls Try.prog 80 #[.agg #[.int .i64 k, .int .i64 a1, .int .i64 a2, .int .i64 b1, .int .i64 b2, .int .i64 c1, .int .i64 c2, .int .i64 d1, .int .i64 d2], .int .i64 i, .int .i64 n] w _
  have hKW : Kp [] w ((w.alloc (.cells #[.int .i64 k, .int .i64 a1, .int .i64 a2, .int .i64 b1, .int .i64 b2, .int .i64 c1, .int .i64 c2, .int .i64 d1, .int .i64 d2] 71)).alloc (.cells #[.int .i64 0, .int .i64 0] 27)) := ((Kp.refl _ _).alloc _).alloc _
  have K9 : Kp [] (w.alloc (.cells #[.int .i64 k, .int .i64 a1, .int .i64 a2, .int .i64 b1, .int .i64 b2, .int .i64 c1, .int .i64 c2, .int .i64 d1, .int .i64 d2] 71)) ((w.alloc (.cells #[.int .i64 k, .int .i64 a1, .int .i64 a2, .int .i64 b1, .int .i64 b2, .int .i64 c1, .int .i64 c2, .int .i64 d1, .int .i64 d2] 71)).alloc (.cells #[.int .i64 0, .int .i64 0] 27)) := (Kp.refl _ _).alloc _
  have hblk := heap_alloc_new (w.alloc (.cells #[.int .i64 k, .int .i64 a1, .int .i64 a2, .int .i64 b1, .int .i64 b2, .int .i64 c1, .int .i64 c2, .int .i64 d1, .int .i64 d2] 71)) (.cells #[.int .i64 0, .int .i64 0] 27)
  rw [show (w.alloc (.cells #[.int .i64 k, .int .i64 a1, .int .i64 a2, .int .i64 b1, .int .i64 b2, .int .i64 c1, .int .i64 c2, .int .i64 d1, .int .i64 d2] 71)).heap.size = w.heap.size + 1 by simp] at hblk
  go_enter Try.func80, Try.ntmps80
  go_wp2_with fail
  generalize ((w.alloc (.cells #[.int .i64 k, .int .i64 a1, .int .i64 a2, .int .i64 b1, .int .i64 b2, .int .i64 c1, .int .i64 c2, .int .i64 d1, .int .i64 d2] 71)).alloc (.cells #[.int .i64 0, .int .i64 0] 27)) = WB at *
  refine (hd.out _).mono ?_; rintro e w1 ⟨v, rfl, hp, hk1, hb⟩
  clear hd hb
  have HP1 : Hid (IsPairs w1 v l) := hp
  obtain ⟨pa, ca, rfl⟩ := hp.form
  clear hp
  go_wp2_with fail
  refine (weights_calls (l.length - 1) _ (by omega) (by omega) i n hi hin hn hn2 _).mono ?_; rintro e w2 ⟨v2, rfl, hi2, hk2⟩
  have HI2 : Hid _ := hi2
  have HP2 : Hid (IsPairs w2 (.slice pa l.length ca) l) := HP1.out.kp hk2 (by simp)
  clear hi2
  go_wp2_with fail
  refine (place_calls _ v2 l _ _ _ HP2.out HI2.out (by rw [HWL.out]; omega) (by omega) hl4 HUP.out HALL.out HPW.out.1 (by have := HPW.out.2; omega)).mono ?_; rintro e w3 ⟨rfl, hk3⟩
  rw [HA.out]
  obtain ⟨r1, r2⟩ := R
  unfold dotV
  obtain ⟨rr2, rr3, rf2, rf3⟩ := blk2 (((hk1.trans hk2).trans hk3).heap hblk (by simp))
  have hk4 := hKW.trans ((hk1.trans hk2).trans hk3)
  clear hKW K9 hblk hk1 hk2 hk3
  go_wp2_with fail
  refine bodyPost_ret (v := .agg #[.int .i64 r1, .int .i64 r2]) (by simp [results, Try.results80, go_sem, rr2, rr3]) rfl ⟨rfl, by (repeat (first | exact Kp.refl _ _ | assumption | refine Kp.drew ?_ | refine Kp.drewN ?_ _ | refine Kp.alloc ?_ _ | (refine Kp.setCell ?_ (by first | (left; simp; done) | (right; simp; try omega)) _) | (refine Kp.trans' ?_ (by assumption) (by simp; try omega))))⟩
end Go.Proofs.Ytpbmefojhgcniaa

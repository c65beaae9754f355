/- stack: serifref17.flag, plain. -/
import Derived.Test.YtlnmpffpieofeaaStL
import Derived.Test.YtlnmpffpieofeaaStU
import Derived.Test.YtlnmpffpieofeaaFixM
namespace Go.Proofs.Ytlnmpffpieofeaa
open Go.RowKit
set_option linter.unusedVariables false
set_option linter.unusedSimpArgs false
theorem rflag_calls (b : Bool) (w : World) : Calls Try.prog 35 #[.bool b] w fun e w' => e = .returned (.int .i64 (flagQ b)) ∧ w = w' := by
  cases b
  all_goals
    go_enter Try.func35, Try.ntmps35
    go_wp2_with fail
    go_ret
    exact ⟨rfl, rfl⟩
theorem rroot_any (x : Int) (hm : mayB x = true) (w : World) : Calls Try.prog 40 #[.int .i64 x] w fun e w' => e = .returned (.tuple #[.int .i64 (rtV x), .int .i64 (rtE x)]) ∧ Bel w w' := by
  have hb := may_le hm
  by_cases h : x < 0
  · have := rroot_neg x hm h w
    rw [rtV, rtE, if_pos h, if_pos h]; exact this.mono fun e w' ⟨h1, h2⟩ => ⟨h1, Bel.of_eq h2.symm⟩
  · have := rroot_calls x (by omega) hb.2 w
    rw [rtV, rtE, if_neg h, if_neg h]; exact this.mono fun e w' ⟨h1, h2⟩ => ⟨h1, Bel.of_eq h2.symm⟩
set_option maxRecDepth 100000 in
set_option maxHeartbeats 2000000 in
theorem rplain_num (op a b : Int) (hop : isNum op) (ha : mayB a = true) (w : World) :
    Calls Try.prog 29 #[.int .i64 op, .int .i64 a, .int .i64 b] w fun e w' => e = .returned (.tuple #[.int .i64 (numF op a b).1, .int .i64 (numF op a b).2, .bool true]) ∧ Kp [] w w' := by
  have hb := may_le ha
  have HM := Lib.hid ha
  clear ha
  have wneg : IntKind.i64.wrap (-a) = -a := by rw [IntKind.wrap_i64]; omega
  obtain ⟨b1, b2⟩ := hb
  rcases hop with rfl | rfl | rfl | rfl | rfl | rfl | rfl | rfl | rfl | rfl | rfl
  · by_cases h : a < 0
    · have HE : Hid (numF 9 a b = (-a, 0)) := by show (max a (-a), (0 : Int)) = _; rw [show max a (-a) = -a by omega]
      go_enter Try.func29, Try.ntmps29
      go_wp2_with fail
      go_ret3
      exact ⟨by rw [HE.out]; first | done | rfl, Kp.refl _ _⟩
    · have HE : Hid (numF 9 a b = (a, 0)) := by show (max a (-a), (0 : Int)) = _; rw [show max a (-a) = a by omega]
      go_enter Try.func29, Try.ntmps29
      go_wp2_with fail
      go_ret3
      exact ⟨by rw [HE.out]; first | done | rfl, Kp.refl _ _⟩
  · have HE : Hid (numF 14 a b = (-a, 0)) := rfl
    go_enter Try.func29, Try.ntmps29
    go_wp2_with fail
    go_ret3
    exact ⟨by rw [HE.out]; first | done | rfl, Kp.refl _ _⟩
  · have HE : Hid (numF 26 a b = (rtV a, rtE a)) := rfl
    go_enter Try.func29, Try.ntmps29
    go_wp2_with fail
    refine (rroot_any a HM.out _).mono ?_; rintro e w1 ⟨rfl, hb1⟩
    have HB := Lib.hid hb1
    clear hb1
    go_wp2_with fail
    go_ret3
    exact ⟨by rw [HE.out]; first | done | rfl, Kp.of_below HB.out⟩
  · have HE : Hid (numF 5 a b = (flagQ (a == 0), 0)) := rfl
    go_enter Try.func29, Try.ntmps29
    go_wp2_with fail
    refine (rflag_calls _ _).mono ?_; rintro e w1 ⟨rfl, rfl⟩
    go_wp2_with fail
    go_ret3
    exact ⟨by rw [HE.out]; first | done | rfl | simp, Kp.refl _ _⟩
  · have HE : Hid (numF 10 a b = (opV (a + b) [a, b], opE (a + b) [a, b])) := rfl
    go_enter Try.func29, Try.ntmps29
    go_wp2_with fail
    refine (radd_calls a b _).mono ?_; rintro e w1 ⟨rfl, hb1⟩
    have HB := Lib.hid hb1
    clear hb1
    go_wp2_with fail
    go_ret3
    exact ⟨by rw [HE.out]; first | done | rfl, Kp.of_below HB.out⟩
  · have HE : Hid (numF 11 a b = (opV (a - b) [a, b], opE (a - b) [a, b])) := rfl
    go_enter Try.func29, Try.ntmps29
    go_wp2_with fail
    refine (rsub_calls a b _).mono ?_; rintro e w1 ⟨rfl, hb1⟩
    have HB := Lib.hid hb1
    clear hb1
    go_wp2_with fail
    go_ret3
    exact ⟨by rw [HE.out]; first | done | rfl, Kp.of_below HB.out⟩
  · have HE : Hid (numF 24 a b = (opV (nearQ (a * b) 65536) [a, b], opE (nearQ (a * b) 65536) [a, b])) := rfl
    go_enter Try.func29, Try.ntmps29
    go_wp2_with fail
    refine (rmul_calls a b _).mono ?_; rintro e w1 ⟨rfl, hb1⟩
    have HB := Lib.hid hb1
    clear hb1
    go_wp2_with fail
    go_ret3
    exact ⟨by rw [HE.out]; first | done | rfl, Kp.of_below HB.out⟩
  · have HE : Hid (numF 12 a b = (mdV a 65536 b, mdE a 65536 b)) := rfl
    go_enter Try.func29, Try.ntmps29
    go_wp2_with fail
    refine (rdiv_calls a b _).mono ?_; rintro e w1 ⟨rfl, hb1⟩
    have HB := Lib.hid hb1
    clear hb1
    go_wp2_with fail
    go_ret3
    exact ⟨by rw [HE.out]; first | done | rfl, Kp.of_below HB.out⟩
  · have HE : Hid (numF 3 a b = (flagQ (a != 0 && b != 0), 0)) := rfl
    by_cases h : a = 0
    · go_enter Try.func29, Try.ntmps29
      go_wp2_with fail
      refine (rflag_calls _ _).mono ?_; rintro e w1 ⟨rfl, rfl⟩
      go_wp2_with fail
      go_ret3
      exact ⟨by rw [HE.out]; first | done | rfl | (rw [show (a != 0 || b != 0) = true by simp [h]]; done) | (rw [show (a != 0 || b != 0) = true by simp [h]]; rfl) | (simp [h]; done), Kp.refl _ _⟩
    · go_enter Try.func29, Try.ntmps29
      go_wp2_with fail
      refine (rflag_calls _ _).mono ?_; rintro e w1 ⟨rfl, rfl⟩
      go_wp2_with fail
      go_ret3
      exact ⟨by rw [HE.out]; first | done | rfl | (rw [show (a != 0 || b != 0) = true by simp [h]]; done) | (rw [show (a != 0 || b != 0) = true by simp [h]]; rfl) | (simp [h]; done), Kp.refl _ _⟩
  · have HE : Hid (numF 4 a b = (flagQ (a != 0 || b != 0), 0)) := rfl
    by_cases h : a = 0
    · go_enter Try.func29, Try.ntmps29
      go_wp2_with fail
      refine (rflag_calls _ _).mono ?_; rintro e w1 ⟨rfl, rfl⟩
      go_wp2_with fail
      go_ret3
      exact ⟨by rw [HE.out]; first | done | rfl | (rw [show (a != 0 || b != 0) = true by simp [h]]; done) | (rw [show (a != 0 || b != 0) = true by simp [h]]; rfl) | (simp [h]; done), Kp.refl _ _⟩
    · go_enter Try.func29, Try.ntmps29
      go_wp2_with fail
      refine (rflag_calls _ _).mono ?_; rintro e w1 ⟨rfl, rfl⟩
      go_wp2_with fail
      go_ret3
      exact ⟨by rw [HE.out]; first | done | rfl | (rw [show (a != 0 || b != 0) = true by simp [h]]; done) | (rw [show (a != 0 || b != 0) = true by simp [h]]; rfl) | (simp [h]; done), Kp.refl _ _⟩
  · have HE : Hid (numF 15 a b = (flagQ (a == b), 0)) := rfl
    go_enter Try.func29, Try.ntmps29
    go_wp2_with fail
    refine (rflag_calls _ _).mono ?_; rintro e w1 ⟨rfl, rfl⟩
    go_wp2_with fail
    go_ret3
    exact ⟨by rw [HE.out]; first | done | rfl | simp, Kp.refl _ _⟩
theorem rplain_mov (op a b : Int) (hop : isMov op) (w : World) :
    Calls Try.prog 29 #[.int .i64 op, .int .i64 a, .int .i64 b] w fun e w' => e = .returned (.tuple #[.int .i64 0, .int .i64 0, .bool false]) ∧ Kp [] w w' := by
  rcases hop with rfl | rfl | rfl | rfl | rfl | rfl | rfl | rfl | rfl
  · (go_enter Try.func29, Try.ntmps29; go_wp2_with fail; go_ret3; exact ⟨rfl, Kp.refl _ _⟩)
  · (go_enter Try.func29, Try.ntmps29; go_wp2_with fail; go_ret3; exact ⟨rfl, Kp.refl _ _⟩)
  · (go_enter Try.func29, Try.ntmps29; go_wp2_with fail; go_ret3; exact ⟨rfl, Kp.refl _ _⟩)
  · (go_enter Try.func29, Try.ntmps29; go_wp2_with fail; go_ret3; exact ⟨rfl, Kp.refl _ _⟩)
  · (go_enter Try.func29, Try.ntmps29; go_wp2_with fail; go_ret3; exact ⟨rfl, Kp.refl _ _⟩)
  · (go_enter Try.func29, Try.ntmps29; go_wp2_with fail; go_ret3; exact ⟨rfl, Kp.refl _ _⟩)
  · (go_enter Try.func29, Try.ntmps29; go_wp2_with fail; go_ret3; exact ⟨rfl, Kp.refl _ _⟩)
  · (go_enter Try.func29, Try.ntmps29; go_wp2_with fail; go_ret3; exact ⟨rfl, Kp.refl _ _⟩)
  · (go_enter Try.func29, Try.ntmps29; go_wp2_with fail; go_ret3; exact ⟨rfl, Kp.refl _ _⟩)
end Go.Proofs.Ytlnmpffpieofeaa

/- compose: a part's numbers (Pt), its cells; May, Plain, One, of the program and of the reference. (Written by wip/compose/gencpa.py.) -/
import Derived.Test.YtodjohoonbkklaaApp
import Derived.Test.YtodjohoonbkklaaQuiet
import Derived.Test.YtodjohoonbkklaaWireE
import Derived.Lib.Hide
import Derived.Lib.MinMax
import Derived.WalkKit
import Derived.ProofKit
import Derived.OwnWalk
namespace Go.Proofs.Ytodjohoonbkklaa
open Go.RowKit
set_option linter.unusedVariables false
set_option linter.unusedSimpArgs false
/-- A part of a composite glyph. -/
structure Pt where
  g : Int
  xx : Int
  xy : Int
  yx : Int
  yy : Int
  m : Bool
  dx : Int
  dy : Int
  t : Bool
  pa : Int
  ch : Int
def ptCells (p : Pt) : Array Value := #[.int .i64 p.g, .int .i64 p.xx, .int .i64 p.xy, .int .i64 p.yx, .int .i64 p.yy, .bool p.m, .int .i64 p.dx, .int .i64 p.dy, .bool p.t, .int .i64 p.pa, .int .i64 p.ch]
def wordB (x : Int) : Bool := decide (0 ≤ x) && decide (x < 65536)
def s16B (x : Int) : Bool := decide (-32768 ≤ x) && decide (x < 32768)
def fitsM (a b c d : Int) : Bool := s16B a && (s16B b && (s16B c && s16B d))
def mayPt (p : Pt) : Bool := wordB p.g && (fitsM p.xx p.xy p.yx p.yy && (if p.m then wordB p.pa && wordB p.ch && decide (p.dx = 0) && decide (p.dy = 0) && !p.t else s16B p.dx && s16B p.dy && decide (p.pa = 0) && decide (p.ch = 0)))
def bothB (a b lo hi : Int) : Bool := decide (lo ≤ min a b) && decide (max a b ≤ hi)

theorem both_calls (a b lo hi : Int) (w : World) : Calls Try.prog 69 #[.int .i64 a, .int .i64 b, .int .i64 lo, .int .i64 hi] w fun e w' => e = .returned (.bool (bothB a b lo hi)) ∧ w = w' := by
  by_cases h1 : lo ≤ min a b
  · by_cases h2 : max a b ≤ hi
    · have HE : Hid (bothB a b lo hi = true) := by show _ = _; unfold bothB; rw [decide_eq_true h1, decide_eq_true h2]; rfl
      rw [HE.out]
      go_enter Try.func69, Try.ntmps69
      go_wp2_with fail
      go_ret
      exact ⟨rfl, rfl⟩
    · have HE : Hid (bothB a b lo hi = false) := by show _ = _; unfold bothB; rw [decide_eq_true h1, decide_eq_false h2]; rfl
      rw [HE.out]
      go_enter Try.func69, Try.ntmps69
      go_wp2_with fail
      go_ret
      exact ⟨rfl, rfl⟩
  · have HE : Hid (bothB a b lo hi = false) := by show _ = _; unfold bothB; rw [decide_eq_false h1]; rfl
    rw [HE.out]
    go_enter Try.func69, Try.ntmps69
    go_wp2_with fail
    go_ret
    exact ⟨rfl, rfl⟩
theorem word_calls (x : Int) (w : World) : Calls Try.prog 71 #[.int .i64 x] w fun e w' => e = .returned (.bool (wordB x)) ∧ w = w' := by
  by_cases h1 : 0 ≤ x
  · by_cases h2 : x < 65536
    · have HE : Hid (wordB x = true) := by show _ = _; unfold wordB; rw [decide_eq_true h1, decide_eq_true h2]; rfl
      rw [HE.out]
      have h3 : x < 65536 := by omega
      go_enter Try.func71, Try.ntmps71
      go_wp2_with fail
      go_ret
      exact ⟨rfl, rfl⟩
    · have HE : Hid (wordB x = false) := by show _ = _; unfold wordB; rw [decide_eq_true h1, decide_eq_false h2]; rfl
      rw [HE.out]
      have h3 : ¬ (x < 65536) := by omega
      go_enter Try.func71, Try.ntmps71
      go_wp2_with fail
      go_ret
      exact ⟨rfl, rfl⟩
  · have HE : Hid (wordB x = false) := by show _ = _; unfold wordB; rw [decide_eq_false h1]; rfl
    rw [HE.out]
    go_enter Try.func71, Try.ntmps71
    go_wp2_with fail
    go_ret
    exact ⟨rfl, rfl⟩
theorem signed_calls (x : Int) (w : World) : Calls Try.prog 73 #[.int .i64 x] w fun e w' => e = .returned (.bool (s16B x)) ∧ w = w' := by
  by_cases h1 : -32768 ≤ x
  · by_cases h2 : x < 32768
    · have HE : Hid (s16B x = true) := by show _ = _; unfold s16B; rw [decide_eq_true h1, decide_eq_true h2]; rfl
      rw [HE.out]
      have h3 : x < 32768 := by omega
      go_enter Try.func73, Try.ntmps73
      go_wp2_with fail
      go_ret
      exact ⟨rfl, rfl⟩
    · have HE : Hid (s16B x = false) := by show _ = _; unfold s16B; rw [decide_eq_true h1, decide_eq_false h2]; rfl
      rw [HE.out]
      have h3 : ¬ (x < 32768) := by omega
      go_enter Try.func73, Try.ntmps73
      go_wp2_with fail
      go_ret
      exact ⟨rfl, rfl⟩
  · have HE : Hid (s16B x = false) := by show _ = _; unfold s16B; rw [decide_eq_false h1]; rfl
    rw [HE.out]
    go_enter Try.func73, Try.ntmps73
    go_wp2_with fail
    go_ret
    exact ⟨rfl, rfl⟩
theorem fits_calls (x : Int) (w : World) : Calls Try.prog 123 #[.int .i64 x] w fun e w' => e = .returned (.bool (s16B x)) ∧ w = w' := by
  by_cases h1 : -32768 ≤ x
  · by_cases h2 : x < 32768
    · have HE : Hid (s16B x = true) := by show _ = _; unfold s16B; rw [decide_eq_true h1, decide_eq_true h2]; rfl
      rw [HE.out]
      have h3 : x < 32768 := by omega
      go_enter Try.func123, Try.ntmps123
      go_wp2_with fail
      go_ret
      exact ⟨rfl, rfl⟩
    · have HE : Hid (s16B x = false) := by show _ = _; unfold s16B; rw [decide_eq_true h1, decide_eq_false h2]; rfl
      rw [HE.out]
      have h3 : ¬ (x < 32768) := by omega
      go_enter Try.func123, Try.ntmps123
      go_wp2_with fail
      go_ret
      exact ⟨rfl, rfl⟩
  · have HE : Hid (s16B x = false) := by show _ = _; unfold s16B; rw [decide_eq_false h1]; rfl
    rw [HE.out]
    go_enter Try.func123, Try.ntmps123
    go_wp2_with fail
    go_ret
    exact ⟨rfl, rfl⟩
theorem amay1_calls (x : Int) (w : World) : Calls Try.prog 122 #[.int .i64 x] w fun e w' => e = .returned (.bool (s16B x)) ∧ w = w' := by
  by_cases h1 : -32768 ≤ x
  · by_cases h2 : x < 32768
    · have HE : Hid (s16B x = true) := by show _ = _; unfold s16B; rw [decide_eq_true h1, decide_eq_true h2]; rfl
      rw [HE.out]
      have h3 : x ≤ 32767 := by omega
      go_enter Try.func122, Try.ntmps122
      go_wp2_with fail
      go_ret
      exact ⟨rfl, rfl⟩
    · have HE : Hid (s16B x = false) := by show _ = _; unfold s16B; rw [decide_eq_true h1, decide_eq_false h2]; rfl
      rw [HE.out]
      have h3 : ¬ (x ≤ 32767) := by omega
      go_enter Try.func122, Try.ntmps122
      go_wp2_with fail
      go_ret
      exact ⟨rfl, rfl⟩
  · have HE : Hid (s16B x = false) := by show _ = _; unfold s16B; rw [decide_eq_false h1]; rfl
    rw [HE.out]
    go_enter Try.func122, Try.ntmps122
    go_wp2_with fail
    go_ret
    exact ⟨rfl, rfl⟩
set_option maxHeartbeats 1000000 in
theorem each_calls (a b c d : Int) (w : World) : Calls Try.prog 121 #[.func (.func 122) #[] #[], .int .i64 a, .int .i64 b, .int .i64 c, .int .i64 d] w fun e w' => e = .returned (.bool (fitsM a b c d)) ∧ Kp [] w w' := by
  have hkB : ∀ W, Kp [] (w.alloc (.cells #[.int .i64 a, .int .i64 b, .int .i64 c, .int .i64 d] 34)) W → Kp [] w W := fun W hW => ((Kp.refl _ _).alloc _).trans hW
  cases ha : s16B a
  · have Ha := Lib.hid ha
    clear ha
    have HE : Hid (fitsM a b c d = false) := by show _ = _; unfold fitsM; rw [Ha.out]; rfl
    rw [HE.out]
    go_enter Try.func121, Try.ntmps121
    go_wp2_with fail
    refine (amay1_calls a _).mono ?_; rintro e w9 ⟨rfl, rfl⟩; rw [Ha.out]
    go_wp2_with fail
    go_ret
    exact ⟨rfl, Kp.refl _ _⟩
  · have Ha := Lib.hid ha
    clear ha
    cases hb : s16B b
    · have Hb := Lib.hid hb
      clear hb
      have HE : Hid (fitsM a b c d = false) := by show _ = _; unfold fitsM; rw [Ha.out, Hb.out]; rfl
      rw [HE.out]
      go_enter Try.func121, Try.ntmps121
      go_wp2_with fail
      refine (amay1_calls a _).mono ?_; rintro e w9 ⟨rfl, rfl⟩; rw [Ha.out]
      go_wp2_with fail
      refine (amay1_calls b _).mono ?_; rintro e w9 ⟨rfl, rfl⟩; rw [Hb.out]
      go_wp2_with fail
      go_ret
      exact ⟨rfl, Kp.refl _ _⟩
    · have Hb := Lib.hid hb
      clear hb
      cases hc : s16B c
      · have Hc := Lib.hid hc
        clear hc
        have HE : Hid (fitsM a b c d = false) := by show _ = _; unfold fitsM; rw [Ha.out, Hb.out, Hc.out]; rfl
        rw [HE.out]
        go_enter Try.func121, Try.ntmps121
        go_wp2_with fail
        refine (amay1_calls a _).mono ?_; rintro e w9 ⟨rfl, rfl⟩; rw [Ha.out]
        go_wp2_with fail
        refine (amay1_calls b _).mono ?_; rintro e w9 ⟨rfl, rfl⟩; rw [Hb.out]
        go_wp2_with fail
        refine (amay1_calls c _).mono ?_; rintro e w9 ⟨rfl, rfl⟩; rw [Hc.out]
        go_wp2_with fail
        go_ret
        exact ⟨rfl, Kp.refl _ _⟩
      · have Hc := Lib.hid hc
        clear hc
        cases hd : s16B d
        · have Hd := Lib.hid hd
          clear hd
          have HE : Hid (fitsM a b c d = false) := by show _ = _; unfold fitsM; rw [Ha.out, Hb.out, Hc.out, Hd.out]; rfl
          rw [HE.out]
          go_enter Try.func121, Try.ntmps121
          go_wp2_with fail
          refine (amay1_calls a _).mono ?_; rintro e w9 ⟨rfl, rfl⟩; rw [Ha.out]
          go_wp2_with fail
          refine (amay1_calls b _).mono ?_; rintro e w9 ⟨rfl, rfl⟩; rw [Hb.out]
          go_wp2_with fail
          refine (amay1_calls c _).mono ?_; rintro e w9 ⟨rfl, rfl⟩; rw [Hc.out]
          go_wp2_with fail
          refine (amay1_calls d _).mono ?_; rintro e w9 ⟨rfl, rfl⟩; rw [Hd.out]
          go_wp2_with fail
          go_ret
          exact ⟨rfl, Kp.refl _ _⟩
        · have Hd := Lib.hid hd
          clear hd
          have HE : Hid (fitsM a b c d = true) := by show _ = _; unfold fitsM; rw [Ha.out, Hb.out, Hc.out, Hd.out]; rfl
          rw [HE.out]
          go_enter Try.func121, Try.ntmps121
          go_wp2_with fail
          refine (amay1_calls a _).mono ?_; rintro e w9 ⟨rfl, rfl⟩; rw [Ha.out]
          go_wp2_with fail
          refine (amay1_calls b _).mono ?_; rintro e w9 ⟨rfl, rfl⟩; rw [Hb.out]
          go_wp2_with fail
          refine (amay1_calls c _).mono ?_; rintro e w9 ⟨rfl, rfl⟩; rw [Hc.out]
          go_wp2_with fail
          refine (amay1_calls d _).mono ?_; rintro e w9 ⟨rfl, rfl⟩; rw [Hd.out]
          go_wp2_with fail
          go_ret
          exact ⟨rfl, Kp.refl _ _⟩

set_option maxHeartbeats 1000000 in
theorem rmay02_calls (a b c d : Int) (w : World) : Calls Try.prog 72 #[.agg #[.int .i64 a, .int .i64 b, .int .i64 c, .int .i64 d]] w fun e w' => e = .returned (.bool (fitsM a b c d)) ∧ Kp [] w w' := by
  have hkB : ∀ W, Kp [] (w.alloc (.cells #[.int .i64 a, .int .i64 b, .int .i64 c, .int .i64 d] 34)) W → Kp [] w W := fun W hW => ((Kp.refl _ _).alloc _).trans hW
  cases ha : s16B a
  · have Ha := Lib.hid ha
    clear ha
    have HE : Hid (fitsM a b c d = false) := by show _ = _; unfold fitsM; rw [Ha.out]; rfl
    rw [HE.out]
    go_enter Try.func72, Try.ntmps72
    go_wp2_with fail
    refine (fits_calls a _).mono ?_; rintro e w9 ⟨rfl, rfl⟩; rw [Ha.out]
    go_wp2_with fail
    go_ret
    exact ⟨rfl, hkB _ (by first | exact Kp.refl _ _ | exact (Kp.refl _ _).drew)⟩
  · have Ha := Lib.hid ha
    clear ha
    cases hb : s16B b
    · have Hb := Lib.hid hb
      clear hb
      have HE : Hid (fitsM a b c d = false) := by show _ = _; unfold fitsM; rw [Ha.out, Hb.out]; rfl
      rw [HE.out]
      go_enter Try.func72, Try.ntmps72
      go_wp2_with fail
      refine (fits_calls a _).mono ?_; rintro e w9 ⟨rfl, rfl⟩; rw [Ha.out]
      go_wp2_with fail
      refine (fits_calls b _).mono ?_; rintro e w9 ⟨rfl, rfl⟩; rw [Hb.out]
      go_wp2_with fail
      go_ret
      exact ⟨rfl, hkB _ (by first | exact Kp.refl _ _ | exact (Kp.refl _ _).drew)⟩
    · have Hb := Lib.hid hb
      clear hb
      cases hc : s16B c
      · have Hc := Lib.hid hc
        clear hc
        have HE : Hid (fitsM a b c d = false) := by show _ = _; unfold fitsM; rw [Ha.out, Hb.out, Hc.out]; rfl
        rw [HE.out]
        go_enter Try.func72, Try.ntmps72
        go_wp2_with fail
        refine (fits_calls a _).mono ?_; rintro e w9 ⟨rfl, rfl⟩; rw [Ha.out]
        go_wp2_with fail
        refine (fits_calls b _).mono ?_; rintro e w9 ⟨rfl, rfl⟩; rw [Hb.out]
        go_wp2_with fail
        refine (fits_calls c _).mono ?_; rintro e w9 ⟨rfl, rfl⟩; rw [Hc.out]
        go_wp2_with fail
        go_ret
        exact ⟨rfl, hkB _ (by first | exact Kp.refl _ _ | exact (Kp.refl _ _).drew)⟩
      · have Hc := Lib.hid hc
        clear hc
        cases hd : s16B d
        · have Hd := Lib.hid hd
          clear hd
          have HE : Hid (fitsM a b c d = false) := by show _ = _; unfold fitsM; rw [Ha.out, Hb.out, Hc.out, Hd.out]; rfl
          rw [HE.out]
          go_enter Try.func72, Try.ntmps72
          go_wp2_with fail
          refine (fits_calls a _).mono ?_; rintro e w9 ⟨rfl, rfl⟩; rw [Ha.out]
          go_wp2_with fail
          refine (fits_calls b _).mono ?_; rintro e w9 ⟨rfl, rfl⟩; rw [Hb.out]
          go_wp2_with fail
          refine (fits_calls c _).mono ?_; rintro e w9 ⟨rfl, rfl⟩; rw [Hc.out]
          go_wp2_with fail
          refine (fits_calls d _).mono ?_; rintro e w9 ⟨rfl, rfl⟩; rw [Hd.out]
          go_wp2_with fail
          go_ret
          exact ⟨rfl, hkB _ (by first | exact Kp.refl _ _ | exact (Kp.refl _ _).drew)⟩
        · have Hd := Lib.hid hd
          clear hd
          have HE : Hid (fitsM a b c d = true) := by show _ = _; unfold fitsM; rw [Ha.out, Hb.out, Hc.out, Hd.out]; rfl
          rw [HE.out]
          go_enter Try.func72, Try.ntmps72
          go_wp2_with fail
          refine (fits_calls a _).mono ?_; rintro e w9 ⟨rfl, rfl⟩; rw [Ha.out]
          go_wp2_with fail
          refine (fits_calls b _).mono ?_; rintro e w9 ⟨rfl, rfl⟩; rw [Hb.out]
          go_wp2_with fail
          refine (fits_calls c _).mono ?_; rintro e w9 ⟨rfl, rfl⟩; rw [Hc.out]
          go_wp2_with fail
          refine (fits_calls d _).mono ?_; rintro e w9 ⟨rfl, rfl⟩; rw [Hd.out]
          go_wp2_with fail
          go_ret
          exact ⟨rfl, hkB _ (by first | exact Kp.refl _ _ | exact (Kp.refl _ _).drew)⟩

theorem amay_calls (a b c d : Int) (w : World) : Calls Try.prog 70 #[.agg #[.int .i64 a, .int .i64 b, .int .i64 c, .int .i64 d]] w fun e w' => e = .returned (.bool (fitsM a b c d)) ∧ Kp [] w w' := by
  have hkB : Kp [] w (w.alloc (.cells #[.int .i64 a, .int .i64 b, .int .i64 c, .int .i64 d] 34)) := (Kp.refl _ _).alloc _
  go_enter Try.func70, Try.ntmps70
  go_wp2_with fail
  refine (each_calls a b c d _).mono ?_; rintro e w1 ⟨rfl, hk⟩
  go_wp2_with fail
  go_ret
  exact ⟨rfl, hkB.trans hk⟩
theorem wordB_both (a b : Int) : bothB a b 0 65535 = (wordB a && wordB b) := by
  unfold bothB wordB
  rw [Bool.eq_iff_iff]; simp only [Bool.and_eq_true, decide_eq_true_eq]; omega
theorem wordB_one (a : Int) : bothB a 0 0 65535 = wordB a := by
  unfold bothB wordB
  rw [Bool.eq_iff_iff]; simp only [Bool.and_eq_true, decide_eq_true_eq]; omega
theorem s16B_both (a b : Int) : bothB a b (-32768) 32767 = (s16B a && s16B b) := by
  unfold bothB s16B
  rw [Bool.eq_iff_iff]; simp only [Bool.and_eq_true, decide_eq_true_eq]; omega
end Go.Proofs.Ytodjohoonbkklaa

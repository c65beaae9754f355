/- outline: stands, mayPoint, mayContour. -/
import Derived.Test.YtodjohoonbkklaaOuB
namespace Go.Proofs.Ytodjohoonbkklaa
open Go.RowKit
set_option linter.unusedVariables false
set_option linter.unusedSimpArgs false
def kindsB (c : List Pn) (a b d : Int) : Bool := ((ringAt c a).k == 1) && (((ringAt c b).k == 3) && ((ringAt c d).k == 1))
def standsB (c : List Pn) (i : Int) : Bool := decide (3 ≤ c.length) && (kindsB c (i - 1) (i + 1) (i + 2) || kindsB c (i + 1) (i - 1) (i - 2))
def mayPn (c : List Pn) (i : Nat) : Bool := numF (c.getD i pn0).x && (numF (c.getD i pn0).y && ((c.getD i pn0).k == 1 || ((c.getD i pn0).k == 2 || ((c.getD i pn0).k == 3 && standsB c i))))
def mayTo (c : List Pn) (j : Nat) : Bool := (List.range j).all (mayPn c)
def mayCo (c : List Pn) : Bool := decide (0 < c.length) && mayTo c c.length
theorem field_k (v0 v1 v2 : Value) (w : World) : (Instr.field 61 (.agg #[v0, v1, v2]) 2).run Try.prog w = .ok v2 w := by kernel_rfl
theorem at_as (v : Value) (c : List Pn) (i : Int) (k : Int) (hk : (ringAt c i).k = k) (w : World) (h : IsPs w v c) (h0 : 0 < c.length) (hl : c.length ≤ 4611686018427387904) (hi : -4611686018427387904 ≤ i) (hi2 : i ≤ 4611686018427387904) :
    Calls Try.prog 138 #[v, .int .i64 i] w fun e w' => e = .returned (.agg #[.int .i64 (ringAt c i).x, .int .i64 (ringAt c i).y, .int .i64 k]) ∧ Kp [] w w' := by
  subst hk; exact at_calls v c i w h h0 hl hi hi2
set_option maxRecDepth 100000 in
set_option maxHeartbeats 2000000 in
theorem kinds_calls (B : Nat) (v : Value) (c : List Pn) (a b d : Int) (w : World) (hB : w.cell? ⟨B, 0, none⟩ = some v) (h : IsPs w v c) (h0 : 0 < c.length) (hl : c.length ≤ 4611686018427387904)
    (ha : -4611686018427387904 ≤ a ∧ a ≤ 4611686018427387904) (hb : -4611686018427387904 ≤ b ∧ b ≤ 4611686018427387904) (hd : -4611686018427387904 ≤ d ∧ d ≤ 4611686018427387904) :
    Calls Try.prog 153 #[.int .i64 a, .int .i64 b, .int .i64 d, .pointer (some ⟨B, 0, none⟩)] w fun e w' => e = .returned (.bool (kindsB c a b d)) ∧ Kp [] w w' := by
  obtain ⟨ha0, ha1⟩ := ha
  obtain ⟨hb0, hb1⟩ := hb
  obtain ⟨hd0, hd1⟩ := hd
  obtain ⟨ka, hka⟩ : ∃ k, (ringAt c a).k = k := ⟨_, rfl⟩
  obtain ⟨kb, hkb⟩ : ∃ k, (ringAt c b).k = k := ⟨_, rfl⟩
  obtain ⟨kd, hkd⟩ : ∃ k, (ringAt c d).k = k := ⟨_, rfl⟩
  have HA := Lib.hid (fun W hW => at_as v c a ka hka W hW h0 hl ha0 ha1)
  have HB := Lib.hid (fun W hW => at_as v c b kb hkb W hW h0 hl hb0 hb1)
  have HD := Lib.hid (fun W hW => at_as v c d kd hkd W hW h0 hl hd0 hd1)
  have HP := Lib.hid h
  have HE : Hid (kindsB c a b d = ((ka == 1) && ((kb == 3) && (kd == 1)))) := by show _ = _; unfold kindsB; rw [hka, hkb, hkd]
  rw [HE.out]
  have HC := Lib.hid hB
  have hfk := field_k
  obtain ⟨pv, cv, hv⟩ := h.form
  subst hv
  generalize (ringAt c a).x = xa at *
  generalize (ringAt c a).y = ya at *
  generalize (ringAt c b).x = xb at *
  generalize (ringAt c b).y = yb at *
  generalize (ringAt c d).x = xd at *
  generalize (ringAt c d).y = yd at *
  clear hka hkb hkd h HE
  by_cases h1 : ka = 1
  · have h1' : (ka == 1) = true := by simp [h1]
    rw [h1', Bool.true_and]
    clear h1
    by_cases h2 : kb = 3
    · have h2' : (kb == 3) = true := by simp [h2]
      rw [h2', Bool.true_and]
      clear h2
      go_enter Try.func153, Try.ntmps153
      go_wp2_with fail
      refine (HA.out _ HP.out).mono ?_; rintro e w1 ⟨rfl, hk1⟩
      have hc1 := hk1.cell HC.out (by simp)
      have HP1 := Lib.hid (HP.out.kp0 hk1)
      go_wp2_with fail
      refine (HB.out _ HP1.out).mono ?_; rintro e w2 ⟨rfl, hk2⟩
      have hc2 := hk2.cell hc1 (by simp)
      have HP2 := Lib.hid (HP1.out.kp0 hk2)
      go_wp2_with fail
      refine (HD.out _ HP2.out).mono ?_; rintro e w3 ⟨rfl, hk3⟩
      have HK : Hid (Kp [] w w3) := hk1.trans (hk2.trans hk3)
      go_wp2_with fail
      go_ret
      exact ⟨rfl, HK.out⟩
    · have h2' : (kb == 3) = false := by simp [h2]
      rw [h2', Bool.false_and]
      clear h2
      go_enter Try.func153, Try.ntmps153
      go_wp2_with fail
      refine (HA.out _ HP.out).mono ?_; rintro e w1 ⟨rfl, hk1⟩
      have hc1 := hk1.cell HC.out (by simp)
      have HP1 := Lib.hid (HP.out.kp0 hk1)
      go_wp2_with fail
      refine (HB.out _ HP1.out).mono ?_; rintro e w2 ⟨rfl, hk2⟩
      have HK : Hid (Kp [] w w2) := hk1.trans hk2
      go_wp2_with fail
      go_ret
      exact ⟨rfl, HK.out⟩
  · have h1' : (ka == 1) = false := by simp [h1]
    rw [h1', Bool.false_and]
    clear h1
    go_enter Try.func153, Try.ntmps153
    go_wp2_with fail
    refine (HA.out _ HP.out).mono ?_; rintro e w1 ⟨rfl, hk1⟩
    have HK : Hid (Kp [] w w1) := hk1
    go_wp2_with fail
    go_ret
    exact ⟨rfl, HK.out⟩
set_option maxRecDepth 100000 in
set_option maxHeartbeats 2000000 in
theorem stands_calls (v : Value) (c : List Pn) (i : Int) (w : World) (h : IsPs w v c) (hl : c.length ≤ 2305843009213693952) (hi : 0 ≤ i) (hi2 : i < c.length) :
    Calls Try.prog 148 #[v, .int .i64 i] w fun e w' => e = .returned (.bool (standsB c i)) ∧ Kp [] w w' := by
  obtain ⟨pv, cv, hv⟩ := h.form
  subst hv
  have HP := Lib.hid h
  have hk0 : Kp [] w (w.alloc (.cells #[.slice pv c.length cv] 96)) := (Kp.refl _ _).alloc _
  have hcell : (w.alloc (.cells #[.slice pv c.length cv] 96)).cell? ⟨w.heap.size, 0, none⟩ = some (.slice pv c.length cv) := by go_simp
  have HX := Lib.hid (fun W (hk : Kp [] (w.alloc (.cells #[.slice pv c.length cv] 96)) W) => kinds_calls w.heap.size _ c (i - 1) (i + 1) (i + 2) W (hk.cell hcell (by simp)) (h.kp0 (hk0.trans hk)) (by omega) (by omega) (by omega) (by omega) (by omega))
  have HY := Lib.hid (fun W (hk : Kp [] (w.alloc (.cells #[.slice pv c.length cv] 96)) W) => kinds_calls w.heap.size _ c (i + 1) (i - 1) (i - 2) W (hk.cell hcell (by simp)) (h.kp0 (hk0.trans hk)) (by omega) (by omega) (by omega) (by omega) (by omega))
  have HE : Hid (standsB c i = (decide (3 ≤ c.length) && (kindsB c (i - 1) (i + 1) (i + 2) || kindsB c (i + 1) (i - 1) (i - 2)))) := rfl
  rw [HE.out]
  generalize kindsB c (i - 1) (i + 1) (i + 2) = X at *
  generalize kindsB c (i + 1) (i - 1) (i - 2) = Y at *
  generalize c.length = N at *
  clear h HE
  by_cases h3 : 3 ≤ N
  · rw [decide_eq_true h3, Bool.true_and]
    cases X
    · rw [Bool.false_or]
      go_enter Try.func148, Try.ntmps148
      go_wp2_with fail
      refine (HX.out _ (Kp.refl _ _)).mono ?_; rintro e w1 ⟨rfl, hk1⟩
      have HK1 := Lib.hid hk1
      go_wp2_with fail
      refine (HY.out _ HK1.out).mono ?_; rintro e w2 ⟨rfl, hk2⟩
      have HK : Hid (Kp [] w w2) := hk0.trans (HK1.out.trans hk2)
      go_wp2_with fail
      go_ret
      exact ⟨rfl, HK.out⟩
    · rw [Bool.true_or]
      go_enter Try.func148, Try.ntmps148
      go_wp2_with fail
      refine (HX.out _ (Kp.refl _ _)).mono ?_; rintro e w1 ⟨rfl, hk1⟩
      have HK : Hid (Kp [] w w1) := hk0.trans hk1
      go_wp2_with fail
      go_ret
      exact ⟨rfl, HK.out⟩
  · rw [decide_eq_false h3, Bool.false_and]
    go_enter Try.func148, Try.ntmps148
    go_wp2_with fail
    go_ret
    exact ⟨rfl, by (repeat (first | exact Kp.refl _ _ | assumption | refine Kp.drew ?_ | refine Kp.drewN ?_ _ | refine Kp.alloc ?_ _ | (refine Kp.setCell ?_ (by first | (left; simp; done) | (right; simp; try omega)) _) | (refine Kp.trans' ?_ (by assumption) (by simp; try omega))))⟩
end Go.Proofs.Ytodjohoonbkklaa

/- glyf: the law GlyfShifts. -/
import Derived.Test.YtafkhnlmipddmaaGreatGlQ
import Derived.Test.YtafkhnlmipddmaaGreatGlV
import Derived.Test.YtafkhnlmipddmaaGreatGlZb
import Derived.BigQuiet
import Derived.Deep.DeepCutAuto
namespace Go.Proofs.YtafkhnlmipddmaaGreat
open Go.RowKit
set_option linter.unusedVariables false
set_option linter.unusedSimpArgs false
set_option maxRecDepth 100000 in
set_option maxHeartbeats 4000000 in
theorem renc_bad (v : Value) (o : List (List Pn)) (w : World) (hv : IsOut w v o) (hs : tinyO o) (hc : cnt o ≤ 4611686018427387904) (E : Int) (hE : checkO o = E) (hE0 : E ≠ 0) :
    Calls Tryz.prog 9 #[v] w fun e w' => e = .returned (.tuple #[.slice none 0 0, .int .i64 E]) ∧ Kp [] w w' := by
  have HC := Lib.hid (rcheck_calls v o w hv hs hc)
  rw [hE] at HC
  obtain ⟨pa, ca, rfl⟩ := hv.form
  have hb : (E != 0) = true := by simpa using hE0
  obtain ⟨N, hN⟩ : ∃ N, o.length = N := ⟨_, rfl⟩
  rw [hN] at HC ⊢
  clear hv hs hc hE hN
  go_enter Tryz.func9, Tryz.ntmps9
  go_wp2_with fail
  refine HC.out.mono ?_; rintro e w1 ⟨rfl, hk1⟩
  clear HC
  go_wp2_with fail
  go_ret2
  exact ⟨rfl, by (repeat (first | exact Kp.refl _ _ | assumption | refine Kp.drew ?_ | refine Kp.drewN ?_ _ | refine Kp.alloc ?_ _ | (refine Kp.setCell ?_ (by first | (left; simp; done) | (right; simp; try omega)) _) | (refine Kp.trans' ?_ (by assumption) (by simp; try omega))))⟩
set_option maxRecDepth 100000 in
set_option maxHeartbeats 4000000 in
theorem renc_nil (v : Value) (w : World) (hv : IsOut w v []) :
    Calls Tryz.prog 9 #[v] w fun e w' => e = .returned (.tuple #[.slice none 0 0, .int .i64 0]) ∧ Kp [] w w' := by
  have HC := Lib.hid (rcheck_calls v [] w hv (fun j hj => by simp at hj) (by decide))
  rw [show checkO [] = 0 from rfl] at HC
  obtain ⟨pa, ca, rfl⟩ := hv.form
  rw [show ([] : List (List Pn)).length = 0 from rfl] at HC ⊢
  clear hv
  go_enter Tryz.func9, Tryz.ntmps9
  go_wp2_with fail
  refine HC.out.mono ?_; rintro e w1 ⟨rfl, hk1⟩
  clear HC
  go_wp2_with fail
  go_ret2
  exact ⟨rfl, by (repeat (first | exact Kp.refl _ _ | assumption | refine Kp.drew ?_ | refine Kp.drewN ?_ _ | refine Kp.alloc ?_ _ | (refine Kp.setCell ?_ (by first | (left; simp; done) | (right; simp; try omega)) _) | (refine Kp.trans' ?_ (by assumption) (by simp; try omega))))⟩
theorem rsencode_calls (v : Value) (o : List (List Pn)) (w : World) (hv : IsOut w v o) (hs : tinyO o) (hc : cnt o ≤ 4611686018427387904) :
    Calls Tryz.prog 9 #[v] w fun e w' => ∃ v', e = .returned (.tuple #[v', .int .i64 (encM o).2]) ∧ IsInts .u8 w' v' (encM o).1 ∧ Kp [] w w' := by
  by_cases hE : checkO o = 0
  · by_cases h0 : o = []
    · subst h0
      refine (renc_nil v w hv).mono ?_
      rintro e w' ⟨rfl, hk⟩
      exact ⟨_, rfl, IsInts.nil _ _, hk⟩
    · exact renc_calls v o w hv hE h0
  · have he : encM o = ([], checkO o) := by unfold encM; rw [if_pos hE]
    refine (renc_bad v o w hv hs hc _ rfl hE).mono ?_
    rintro e w' ⟨rfl, hk⟩
    rw [he]
    exact ⟨_, rfl, IsInts.nil _ _, hk⟩
/-- One plain part of glyph 0, written by the reference. -/
theorem rpart2_calls (dx dy : Int) (hx : -32768 ≤ dx ∧ dx < 32768) (hy : -32768 ≤ dy ∧ dy < 32768) (w : World) :
    Calls Tryz.prog 10 #[.slice (some ⟨w.heap.size, 0, none⟩) 1 1] (w.alloc (.cells #[.int .i64 0, .int .i64 16384, .int .i64 0, .int .i64 0, .int .i64 16384, .bool false, .int .i64 dx, .int .i64 dy, .bool false, .int .i64 0, .int .i64 0] 34)) fun e w' => ∃ p n c, e = .returned (.tuple #[.slice p n c, .int .i64 0]) ∧ IsInts .u8 w' (.slice p n c) (cmB [pl1 0 dx dy]) ∧ Kp [] w w' :=
  (rpart_calls [pl1 0 dx dy] (okL_one (by decide) hx hy) _ _ (Reads.made w _ 11 1 _ 34 rfl (by rfl) (by decide))).mono fun e w' ⟨p, c, h1, h2, h3⟩ => ⟨p, _, c, h1, h2, ((Kp.refl _ _).alloc _).trans h3⟩
theorem numF_sh {d : Int} (h1 : -16384 ≤ d) (h2 : d < 16384) : numF (d * 65536) = true := by
  unfold numF
  simp only [Bool.and_eq_true, decide_eq_true_eq]
  omega
theorem ints_formL {w : World} {v : Value} {zs : List Int} (h : IsInts .u8 w v zs) : ∃ p c, v = .slice p zs.length c := ints_formB h
set_option maxRecDepth 100000 in
set_option maxHeartbeats 8000000 in
theorem law_GlyfShifts (v : Value) (o : List (List Pn)) (dx dy : Int) (w : World) (hv : IsOut w v o) (hb : ∀ j, j < o.length → (o.getD j []).length ≤ 1125899906842624) :
    Calls Tryz.prog 3 #[v, .int .i64 dx, .int .i64 dy] w fun e w' => e = .returned (.bool true) ∧ Kp [] w w' := by
  have hle := hv.le
  unfold maxLen at hle
  obtain ⟨pa, ca, rfl⟩ := hv.form
  have HO := Lib.hid hv
  have HC := Lib.hid (fun j hj (h4 : j ≤ 300) => (show cntTo o j ≤ 450359962737049600 from Nat.le_trans (cntTo_bound o _ hb j hj) (by omega)))
  obtain ⟨N, hN⟩ : ∃ N, o.length = N := ⟨_, rfl⟩
  have HN := Lib.hid hN
  obtain ⟨M, hM⟩ : ∃ M, min N 300 = M := ⟨_, rfl⟩
  have hM1 : M ≤ N := by omega
  have hM2 : M ≤ 300 := by omega
  have hM3 : M = N ∨ M = 300 := by omega
  rw [hN] at HC hle ⊢
  have HO2 : Hid (IsOut w (.slice pa N ca) o) := by have := HO.out; rw [hN] at this; exact this
  clear hN hM hv hb
  go_enter Tryz.func3, Tryz.ntmps3
  go_wp2_with fail
  go_loopw [7, 8] (fun n i wr => ∃ j : Nat, j ≤ M ∧ i = .int .i64 j ∧ n = .int .i64 (cntTo o j : Nat) ∧ wr = w) (fun n i _ => M - (intOf i).toNat)
  case atStart => exact ⟨0, by omega, rfl, rfl, rfl⟩
  case round =>
    obtain ⟨j, hj, rfl, rfl, rfl⟩ := hrel
    by_cases hlt : j < M
    · obtain ⟨g1, o1, c1, p1, cv, e1, _, _, h1, _⟩ := HO.out.row (i := j) (by rw [HN.out]; omega)
      rw [HN.out] at e1
      cases e1
      have hb := HC.out (j + 1) (by omega) (by omega)
      have hs : Hid (cntTo o (j + 1) = cntTo o j + (o.getD j []).length) := rfl
      have hb2 : cntTo o j + (o.getD j []).length ≤ 450359962737049600 := by rw [← hs.out]; exact hb
      have hj4 : j < 300 := by omega
      have hjN : j < N := by omega
      generalize (o.getD j []).length = L at *
      generalize cntTo o j = A at *
      clear hb
      go_wp2_with fail
      go_roundw
      case rel => first | exact ⟨j + 1, by omega, int_eq' (by omega), int_eq' (by rw [hs.out]; omega), by first | rfl | trivial⟩ | ((repeat apply Exists.intro); exact ⟨⟨j + 1, by omega, int_eq' (by omega), int_eq' (by rw [hs.out]; omega), by first | rfl | trivial⟩, rfl⟩)
      case measure => simp [intOf]; omega
    · obtain rfl : j = M := by omega
      have hb := HC.out j hM1 hM2
      by_cases hgood : cntTo o j ≤ 3000 ∧ N ≤ 200 ∧ (-16384 ≤ dx ∧ dx < 16384) ∧ (-16384 ≤ dy ∧ dy < 16384)
      · obtain ⟨hg1, hg2, ⟨hx1, hx2⟩, hy1, hy2⟩ := hgood
        have ejN : j = N := by omega
        have hcn : cnt o ≤ 3000 := by unfold cnt; rw [HN.out, ← ejN]; exact hg1
        subst ejN
        have HEN := Lib.hid (rsencode_calls _ o _ HO2.out (fun j hj => by have := len_le_cnt o hj; omega) (by omega))
        have HAP := Lib.hid (fun W hW (hE : checkO o = 0) => rapplyO_any (.slice pa j ca) o (dx * 65536) (dy * 65536) W hW hE (numF_sh hx1 hx2) (numF_sh hy1 hy2))
        have HRP := Lib.hid (rpart2_calls dx dy (by omega) (by omega))
        have HSM := Lib.hid (fun va vb W (h1 : IsOut W va (applyM o (dx * 65536) (dy * 65536)).1) (h2 : IsOut W vb (applyM o (dx * 65536) (dy * 65536)).1) => rsame_calls va vb _ _ W h1 h2)
        rw [decide_eq_true (rfl : (applyM o (dx * 65536) (dy * 65536)).1 = _)] at HSM
        have HTA : Hid (∀ a, encM o = (a, 0) → checkO o = 0 ∧ okBs [a, cmB [pl1 0 dx dy]] ∧ evalO [a, cmB [pl1 0 dx dy]] 6 1 0 = (((applyM o (dx * 65536) (dy * 65536)).1, (applyM o (dx * 65536) (dy * 65536)).2), 1)) := fun a h => ⟨(sm_back h).1, sh_ok h (by omega) (by omega), sh_eval (sm_kind h) (sm_back h).2 (by omega) (by omega) (sm_back h).1⟩
        obtain ⟨⟨X, E⟩, hX⟩ : ∃ X, applyM o (dx * 65536) (dy * 65536) = X := ⟨_, rfl⟩
        rw [hX] at HAP HSM HTA
        dsimp only at HAP HSM HTA
        obtain ⟨⟨a, E0⟩, hR⟩ : ∃ R, encM o = R := ⟨_, rfl⟩
        rw [hR] at HEN HTA
        dsimp only at HEN
        generalize cmB [pl1 0 dx dy] = CB at *
        have d1 : decide ((3000 : Int) < ((cntTo o j : Nat) : Int)) = false := decide_eq_false (by omega)
        have d2 : decide ((200 : Int) < (j : Int)) = false := decide_eq_false (by omega)
        have d3 : decide (dx < -16384) = false := decide_eq_false (by omega)
        have d4 : decide (16384 ≤ dx) = false := decide_eq_false (by omega)
        have d5 : decide (dy < -16384) = false := decide_eq_false (by omega)
        have d6 : decide (16384 ≤ dy) = false := decide_eq_false (by omega)
        have d7 : IntKind.i64.wrap (dx * 65536) = dx * 65536 := by rw [IntKind.wrap_i64]; omega
        have d8 : IntKind.i64.wrap (dy * 65536) = dy * 65536 := by rw [IntKind.wrap_i64]; omega
        generalize cntTo o j = A at *
        clear HC HN HO hX hR hcn hg1 hg2 hb
        clear hM1 hM2 hM3 hlt
        go_wp2_with fail
        refine HEN.out.mono ?_; rintro e w1 ⟨v1, rfl, hi1, hk1⟩
        obtain ⟨p1, c1, rfl⟩ := ints_formB hi1
        generalize hal : a.length = LA at *
        have HI1 := Lib.hid hi1
        have HK1 := Lib.hid hk1
        clear hi1 hk1 HEN
        by_cases hE0 : E0 = 0
        · subst hE0
          obtain ⟨hck, hok, hev⟩ := HTA.out a rfl
          have HOK := Lib.hid hok
          have HEV := Lib.hid hev
          have HAP2 := Lib.hid (fun W hW => HAP.out W hW hck)
          clear hok hev hck HTA HAP
          go_wp2_with fail
          refine (Cp.rone_calls _).mono ?_; rintro e w2 ⟨rfl, hk2⟩
          have HK2 := Lib.hid (HK1.out.trans hk2)
          have HI2 := Lib.hid (HI1.out.kp hk2 (by simp))
          clear hk2 HI1 HK1
          go_wp2_with fail
          refine (HRP.out w2).mono ?_; rintro e w3 ⟨p3, n3, c3, rfl, hi3, hk3⟩
          have HK3 := Lib.hid (HK2.out.trans hk3)
          have HI3 := Lib.hid hi3
          have HI23 := Lib.hid (HI2.out.kp hk3 (by simp))
          clear hi3 hk3 HK2 HI2 HRP
          go_wp2_with fail
          have hka : Kp [] w3 (w3.alloc (.cells #[.slice p1 LA c1, .slice p3 n3 c3] 25)) := (Kp.refl _ _).alloc _
          refine (gtable_calls _ _ _ (bsLit2 (Kp.refl _ _) (HI23.out.kp hka (by simp)) (HI3.out.kp hka (by simp))) HOK.out.1).mono ?_; rintro e w4 ⟨T, rfl, ht4, hk4⟩
          have HT4 : Hid (TbO w4 w4.heap.size T [a, CB]) := ht4
          have HK4 : Hid (Kp [] wr w4) := HK3.out.trans (hka.trans hk4)
          clear ht4 hk4 hka HI3 HI23 HK3
          go_wp2_with fail
          refine (lives13_calls _).mono ?_; rintro e w5 ⟨rfl, hk5⟩
          have HT5 : Hid (TbO w5 w4.heap.size T [a, CB]) := HT4.out.kp0 hk5
          have HK5 : Hid (Kp [] wr w5) := HK4.out.trans hk5
          have hz5 : w4.heap.size ≤ w5.heap.size := hk5.size
          clear hk5 HT4 HK4
          go_wp2_with fail
          refine (outlineO_calls _ T [a, CB] HOK.out 1 (by decide) w5 HT5.out hz5 _ _ _ HEV.out).mono ?_; rintro e w6 ⟨v6, rfl, ho6, hk6⟩
          obtain ⟨p6, c6, rfl⟩ := ho6.form
          have HO6 := Lib.hid ho6
          have HK6 : Hid (Kp [] wr w6) := HK5.out.trans hk6
          have HX6 := Lib.hid (HO2.out.kp0 HK6.out)
          clear ho6 hk6 HT5 HK5 HOK HEV
          go_wp2_with fail
          refine (Cp.rone_calls _).mono ?_; rintro e w7 ⟨rfl, hk7⟩
          have HO7 := Lib.hid (HO6.out.kp0 hk7)
          have HK7 : Hid (Kp [] wr w7) := HK6.out.trans hk7
          have HX7 := Lib.hid (HX6.out.kp0 hk7)
          clear hk7 HO6 HK6 HX6
          go_wp2_with fail
          refine (HAP2.out w7 HX7.out).mono ?_; rintro e w8 ⟨v8, rfl, ho8, hk8⟩
          obtain ⟨p8, c8, rfl⟩ := ho8.form
          have HO8 := Lib.hid ho8
          have HO78 := Lib.hid (HO7.out.kp0 hk8)
          have HK8 : Hid (Kp [] wr w8) := HK7.out.trans hk8
          clear ho8 hk8 HO7 HK7 HX7 HAP2
          by_cases hE : E = 0
          · subst hE
            go_wp2_with fail
            refine (HSM.out _ _ w8 HO78.out HO8.out).mono ?_; rintro e w9 ⟨rfl, hk9⟩
            have HK9 : Hid (Kp [] wr w9) := HK8.out.trans hk9
            clear hk9 HK8
            go_wp2_with fail
            go_ret
            exact ⟨by simp, HK9.out⟩
          · have hb : (E != 0) = true := by simpa using hE
            go_wp2_with fail
            go_ret
            exact ⟨by simp, HK8.out⟩
        · have hb : (E0 != 0) = true := by simpa using hE0
          go_wp2_with fail
          refine (lives13_calls _).mono ?_; rintro e w5 ⟨rfl, hk5⟩
          have HK5 : Hid (Kp [] wr w5) := HK1.out.trans hk5
          go_wp2_with fail
          go_ret
          exact ⟨by simp, HK5.out⟩
      · clear HC HN HO
        by_cases hjN : j = N
        · subst hjN
          clear hM3
          by_cases b0 : (3000 : Int) < ((cntTo o j : Nat) : Int)
          · have d0 : decide ((3000 : Int) < ((cntTo o j : Nat) : Int)) = true := decide_eq_true b0
            clear hgood b0
            clear hM1 hM2 hlt
            generalize cntTo o _ = A at *
            clear hb
            go_wp2_with fail
            refine (lives13_calls _).mono ?_; rintro e w1 ⟨rfl, hk⟩
            go_wp2_with fail
            go_ret
            exact ⟨rfl, hk⟩
          have d0 : decide ((3000 : Int) < ((cntTo o j : Nat) : Int)) = false := decide_eq_false b0
          by_cases b1 : (200 : Int) < (j : Int)
          · have d1 : decide ((200 : Int) < (j : Int)) = true := decide_eq_true b1
            clear hgood b1
            clear hM1 hM2 hlt
            generalize cntTo o _ = A at *
            clear hb
            go_wp2_with fail
            refine (lives13_calls _).mono ?_; rintro e w1 ⟨rfl, hk⟩
            go_wp2_with fail
            go_ret
            exact ⟨rfl, hk⟩
          have d1 : decide ((200 : Int) < (j : Int)) = false := decide_eq_false b1
          by_cases b2 : dx < -16384
          · have d2 : decide (dx < -16384) = true := decide_eq_true b2
            clear hgood b2
            clear hM1 hM2 hlt
            generalize cntTo o _ = A at *
            clear hb
            go_wp2_with fail
            refine (lives13_calls _).mono ?_; rintro e w1 ⟨rfl, hk⟩
            go_wp2_with fail
            go_ret
            exact ⟨rfl, hk⟩
          have d2 : decide (dx < -16384) = false := decide_eq_false b2
          by_cases b3 : 16384 ≤ dx
          · have d3 : decide (16384 ≤ dx) = true := decide_eq_true b3
            clear hgood b3
            clear hM1 hM2 hlt
            generalize cntTo o _ = A at *
            clear hb
            go_wp2_with fail
            refine (lives13_calls _).mono ?_; rintro e w1 ⟨rfl, hk⟩
            go_wp2_with fail
            go_ret
            exact ⟨rfl, hk⟩
          have d3 : decide (16384 ≤ dx) = false := decide_eq_false b3
          by_cases b4 : dy < -16384
          · have d4 : decide (dy < -16384) = true := decide_eq_true b4
            clear hgood b4
            clear hM1 hM2 hlt
            generalize cntTo o _ = A at *
            clear hb
            go_wp2_with fail
            refine (lives13_calls _).mono ?_; rintro e w1 ⟨rfl, hk⟩
            go_wp2_with fail
            go_ret
            exact ⟨rfl, hk⟩
          have d4 : decide (dy < -16384) = false := decide_eq_false b4
          by_cases b5 : 16384 ≤ dy
          · have d5 : decide (16384 ≤ dy) = true := decide_eq_true b5
            clear hgood b5
            clear hM1 hM2 hlt
            generalize cntTo o _ = A at *
            clear hb
            go_wp2_with fail
            refine (lives13_calls _).mono ?_; rintro e w1 ⟨rfl, hk⟩
            go_wp2_with fail
            go_ret
            exact ⟨rfl, hk⟩
          have d5 : decide (16384 ≤ dy) = false := decide_eq_false b5
          exact absurd ⟨by omega, by omega, ⟨by omega, by omega⟩, by omega, by omega⟩ hgood
        · obtain rfl : j = 300 := by omega
          have hN3 : 300 < N := by omega
          clear hM3 hjN
          by_cases b0 : (3000 : Int) < ((cntTo o 300 : Nat) : Int)
          · have d0 : decide ((3000 : Int) < ((cntTo o 300 : Nat) : Int)) = true := decide_eq_true b0
            clear hgood b0
            clear hM1 hM2 hlt
            generalize cntTo o _ = A at *
            clear hb
            go_wp2_with fail
            refine (lives13_calls _).mono ?_; rintro e w1 ⟨rfl, hk⟩
            go_wp2_with fail
            go_ret
            exact ⟨rfl, hk⟩
          have d0 : decide ((3000 : Int) < ((cntTo o 300 : Nat) : Int)) = false := decide_eq_false b0
          by_cases b1 : (200 : Int) < (N : Int)
          · have d1 : decide ((200 : Int) < (N : Int)) = true := decide_eq_true b1
            clear hgood b1
            clear hM1 hM2 hlt
            generalize cntTo o _ = A at *
            clear hb
            go_wp2_with fail
            refine (lives13_calls _).mono ?_; rintro e w1 ⟨rfl, hk⟩
            go_wp2_with fail
            go_ret
            exact ⟨rfl, hk⟩
          have d1 : decide ((200 : Int) < (N : Int)) = false := decide_eq_false b1
          exact absurd (by omega) b1
end Go.Proofs.YtafkhnlmipddmaaGreat

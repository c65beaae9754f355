/- outline: the reference's cubic, may, Check. (Written by wip/outline/genouf.py.) -/
import Derived.Test.YtodjohoonbkklaaOuE
namespace Go.Proofs.Ytodjohoonbkklaa
open Go.RowKit
set_option linter.unusedVariables false
set_option linter.unusedSimpArgs false
theorem rat_as (v : Value) (c : List Pn) (i : Int) (k : Int) (hk : (ringAt c i).k = k) (w : World) (h : IsPs w v c) (h0 : 0 < c.length) (hl : c.length ≤ 2305843009213693952) (hi : -(c.length : Int) ≤ i) (hi2 : i ≤ 2305843009213693952) :
    Calls Try.prog 88 #[v, .int .i64 i] w fun e w' => e = .returned (.agg #[.int .i64 (ringAt c i).x, .int .i64 (ringAt c i).y, .int .i64 k]) ∧ Kp [] w w' := by
  subst hk; exact rat10_calls v c i w h h0 hl hi hi2
theorem ring_back (c : List Pn) (i : Int) : ringAt c (i + (c.length : Int)) = ringAt c i := by unfold ringAt; rw [Int.add_emod_right]
set_option maxRecDepth 100000 in
set_option maxHeartbeats 2000000 in
theorem rcubic_calls (v : Value) (c : List Pn) (i : Int) (w : World) (h : IsPs w v c) (hl : c.length ≤ 1152921504606846976) (hi : 0 ≤ i) (hi2 : i < c.length) :
    Calls Try.prog 127 #[v, .int .i64 i] w fun e w' => e = .returned (.bool (standsB c i)) ∧ Kp [] w w' := by
  obtain ⟨ka, hka⟩ : ∃ k, (ringAt c (i - 1)).k = k := ⟨_, rfl⟩
  obtain ⟨kb, hkb⟩ : ∃ k, (ringAt c (i + 1)).k = k := ⟨_, rfl⟩
  obtain ⟨kc, hkc⟩ : ∃ k, (ringAt c (i + 2)).k = k := ⟨_, rfl⟩
  obtain ⟨kd, hkd⟩ : ∃ k, (ringAt c (i - 2)).k = k := ⟨_, rfl⟩
  have hkd2 : (ringAt c (i - 2 + (c.length : Int))).k = kd := by rw [ring_back]; exact hkd
  have HE : Hid (standsB c i = (decide (3 ≤ c.length) && (((ka == 1) && ((kb == 3) && (kc == 1))) || ((kb == 1) && ((ka == 3) && (kd == 1)))))) := by show _ = _; unfold standsB kindsB; rw [hka, hkb, hkc, hkd]
  have HA := Lib.hid (fun W hW => rat_as v c (i - 1) ka hka W hW (by omega) (by omega) (by omega) (by omega))
  have HB := Lib.hid (fun W hW => rat_as v c (i + 1) kb hkb W hW (by omega) (by omega) (by omega) (by omega))
  have HC := Lib.hid (fun W hW => rat_as v c (i + 2) kc hkc W hW (by omega) (by omega) (by omega) (by omega))
  have HD := Lib.hid (fun W hW => rat_as v c (i - 2 + (c.length : Int)) kd hkd2 W hW (by omega) (by omega) (by omega) (by omega))
  have HP := Lib.hid h
  have hfk := field_k
  obtain ⟨pv, cv, hv⟩ := h.form
  subst hv
  rw [HE.out]
  generalize (ringAt c (i - 1)).x = xa at *
  generalize (ringAt c (i - 1)).y = ya at *
  generalize (ringAt c (i + 1)).x = xb at *
  generalize (ringAt c (i + 1)).y = yb at *
  generalize (ringAt c (i + 2)).x = xc at *
  generalize (ringAt c (i + 2)).y = yc at *
  generalize (ringAt c (i - 2 + (c.length : Int))).x = xd at *
  generalize (ringAt c (i - 2 + (c.length : Int))).y = yd at *
  generalize c.length = N at *
  clear hka hkb hkc hkd hkd2 h HE
  by_cases h3 : 3 ≤ N
  · rw [decide_eq_true h3, Bool.true_and]
    by_cases ha : ka = 1 ∧ kb = 3
    · obtain ⟨rfl, rfl⟩ := ha
      rw [show (((1 : Int) == 1) && (((3 : Int) == 3) && (kc == 1)) || ((3 : Int) == 1) && (((1 : Int) == 3) && (kd == 1))) = (kc == 1) by cases (kc == 1) <;> rfl]
      go_enter Try.func127, Try.ntmps127
      go_wp2_with fail
      refine (HA.out _ HP.out).mono ?_; rintro e w1 ⟨rfl, hk1⟩
      have HP1 := Lib.hid (HP.out.kp0 hk1)
      go_wp2_with fail
      refine (HB.out _ HP1.out).mono ?_; rintro e w2 ⟨rfl, hk2⟩
      have HP2 := Lib.hid (HP1.out.kp0 hk2)
      have HK2 : Hid (Kp [] w w2) := hk1.trans hk2
      clear hk1 hk2
      go_wp2_with fail
      refine (HC.out _ HP2.out).mono ?_; rintro e w3 ⟨rfl, hk3⟩
      have HK3 : Hid (Kp [] w w3) := HK2.out.trans hk3
      go_wp2_with fail
      go_ret
      exact ⟨rfl, HK3.out⟩
    · by_cases hb : ka = 3 ∧ kb = 1
      · obtain ⟨rfl, rfl⟩ := hb
        rw [show (((3 : Int) == 1) && (((1 : Int) == 3) && (kc == 1)) || ((1 : Int) == 1) && (((3 : Int) == 3) && (kd == 1))) = (kd == 1) by cases (kd == 1) <;> rfl]
        clear ha
        go_enter Try.func127, Try.ntmps127
        go_wp2_with fail
        refine (HA.out _ HP.out).mono ?_; rintro e w1 ⟨rfl, hk1⟩
        have HP1 := Lib.hid (HP.out.kp0 hk1)
        go_wp2_with fail
        refine (HB.out _ HP1.out).mono ?_; rintro e w2 ⟨rfl, hk2⟩
        have HP2 := Lib.hid (HP1.out.kp0 hk2)
        have HK2 : Hid (Kp [] w w2) := hk1.trans hk2
        clear hk1 hk2
        go_wp2_with fail
        refine (HD.out _ HP2.out).mono ?_; rintro e w3 ⟨rfl, hk3⟩
        have HK3 : Hid (Kp [] w w3) := HK2.out.trans hk3
        go_wp2_with fail
        go_ret
        exact ⟨rfl, HK3.out⟩
      · have hx : (((ka == 1) && ((kb == 3) && (kc == 1))) || ((kb == 1) && ((ka == 3) && (kd == 1)))) = false := by
          by_cases a1 : ka = 1
          · have b3 : (kb == 3) = false := by simp; omega
            have a3 : (ka == 3) = false := by simp; omega
            rw [b3, a3]; simp
          · have a0 : (ka == 1) = false := by simp [a1]
            rw [a0]
            by_cases a3 : ka = 3
            · have b1 : (kb == 1) = false := by simp; omega
              rw [b1]; rfl
            · have a4 : (ka == 3) = false := by simp [a3]
              rw [a4]; simp
        rw [hx]
        clear hx
        by_cases a1 : ka = 1
        · have b3 : (kb == 3) = false := by simp; omega
          subst a1
          clear ha hb
          go_enter Try.func127, Try.ntmps127
          go_wp2_with fail
          refine (HA.out _ HP.out).mono ?_; rintro e w1 ⟨rfl, hk1⟩
          have HP1 := Lib.hid (HP.out.kp0 hk1)
          go_wp2_with fail
          refine (HB.out _ HP1.out).mono ?_; rintro e w2 ⟨rfl, hk2⟩
          have HP2 := Lib.hid (HP1.out.kp0 hk2)
          have HK2 : Hid (Kp [] w w2) := hk1.trans hk2
          clear hk1 hk2
          go_wp2_with fail
          go_ret
          exact ⟨rfl, HK2.out⟩
        · have a0 : (ka == 1) = false := by simp [a1]
          by_cases a3 : ka = 3
          · have b1 : (kb == 1) = false := by simp; omega
            subst a3
            clear ha hb a1
            go_enter Try.func127, Try.ntmps127
            go_wp2_with fail
            refine (HA.out _ HP.out).mono ?_; rintro e w1 ⟨rfl, hk1⟩
            have HP1 := Lib.hid (HP.out.kp0 hk1)
            go_wp2_with fail
            refine (HB.out _ HP1.out).mono ?_; rintro e w2 ⟨rfl, hk2⟩
            have HP2 := Lib.hid (HP1.out.kp0 hk2)
            have HK2 : Hid (Kp [] w w2) := hk1.trans hk2
            clear hk1 hk2
            go_wp2_with fail
            go_ret
            exact ⟨rfl, HK2.out⟩
          · have a4 : (ka == 3) = false := by simp [a3]
            clear ha hb a1 a3
            go_enter Try.func127, Try.ntmps127
            go_wp2_with fail
            refine (HA.out _ HP.out).mono ?_; rintro e w1 ⟨rfl, hk1⟩
            have HP1 := Lib.hid (HP.out.kp0 hk1)
            go_wp2_with fail
            refine (HB.out _ HP1.out).mono ?_; rintro e w2 ⟨rfl, hk2⟩
            have HP2 := Lib.hid (HP1.out.kp0 hk2)
            have HK2 : Hid (Kp [] w w2) := hk1.trans hk2
            clear hk1 hk2
            go_wp2_with fail
            go_ret
            exact ⟨rfl, HK2.out⟩
  · rw [decide_eq_false h3, Bool.false_and]
    go_enter Try.func127, Try.ntmps127
    go_wp2_with fail
    refine (HA.out _ HP.out).mono ?_; rintro e w1 ⟨rfl, hk1⟩
    have HP1 := Lib.hid (HP.out.kp0 hk1)
    go_wp2_with fail
    refine (HB.out _ HP1.out).mono ?_; rintro e w2 ⟨rfl, hk2⟩
    have HP2 := Lib.hid (HP1.out.kp0 hk2)
    have HK2 : Hid (Kp [] w w2) := hk1.trans hk2
    clear hk1 hk2
    go_wp2_with fail
    go_ret
    exact ⟨rfl, HK2.out⟩
set_option maxRecDepth 100000 in
set_option maxHeartbeats 4000000 in
theorem rmayco_calls (v : Value) (c : List Pn) (w : World) (h : IsPs w v c) (hl : c.length ≤ 1152921504606846976) :
    Calls Try.prog 77 #[v] w fun e w' => e = .returned (.bool (mayCo c)) ∧ Kp [] w w' := by
  have HS := Lib.hid (fun (i : Nat) (hi : i < c.length) W (hk : Kp [] w W) => rcubic_calls v c i W (h.kp0 hk) hl (by omega) (by omega))
  have HP := Lib.hid h
  obtain ⟨pv, cv, rfl⟩ := h.form
  obtain ⟨N, hN⟩ : ∃ N, c.length = N := ⟨_, rfl⟩
  have HN := Lib.hid hN
  have HE : Hid (mayCo c = (decide (0 < N) && mayTo c N)) := by show _ = _; unfold mayCo; rw [hN]
  rw [hN] at hl HS HP ⊢
  rw [HE.out]
  clear hN HE h
  go_enter Try.func77, Try.ntmps77
  go_wp2_with fail
  go_loopw [3, 4] (fun i _ wr => ∃ j : Nat, j ≤ N ∧ i = .int .i64 j ∧ Hid (mayTo c j = true ∧ Kp [] w wr)) (fun i _ _ => N - (intOf i).toNat)
  case atStart => exact ⟨0, by omega, rfl, rfl, Kp.refl _ _⟩
  case round =>
    obtain ⟨j, hj, rfl, HJ⟩ := hrel
    by_cases hlt : j < N
    · have hjc : j < c.length := by rw [HN.out]; exact hlt
      obtain ⟨g, off, cp, e1, _, _, c0, c1, c2⟩ := (HP.out.kp0 HJ.out.2).row hjc
      rw [HN.out] at e1
      cases e1
      have hgl : g < wr.heap.size := World.block_lt_of_cell? wr _ c0
      have HC := Lib.hid (fun W (hk : Kp [] wr W) => HS.out j hlt W (HJ.out.2.trans hk))
      have HT := Lib.hid (mayTo_succ c j)
      have HF := Lib.hid (mayTo_not c hlt)
      have HMP : Hid (mayPn c j = (numF (c.getD j pn0).x && (numF (c.getD j pn0).y && ((c.getD j pn0).k == 1 || ((c.getD j pn0).k == 2 || ((c.getD j pn0).k == 3 && standsB c j)))))) := rfl
      have HX := Lib.hid (fun W => rfmay_calls (c.getD j pn0).x W)
      have HY := Lib.hid (fun W => rfmay_calls (c.getD j pn0).y W)
      generalize standsB c j = T at *
      generalize c.getD j pn0 = p at *
      obtain ⟨x, y, k⟩ := p
      dsimp only at c0 c1 c2 HX HY HMP
      generalize numF x = X at *
      generalize numF y = Y at *
      generalize mayPn c j = Z at *
      clear hjc
      rcases kind_cases k with rfl | rfl | rfl | ⟨k1, k2, k3⟩
      · cases X
        · skip
          have HF2 := Lib.hid (HF.out (by rw [HMP.out]; rfl))
          clear HF HT HMP
          go_wp2_with fail
          refine (HX.out _).mono ?_; rintro e w1 ⟨rfl, rfl⟩
          go_wp2_with fail
          go_ret
          exact ⟨by rw [HF2.out, Bool.and_false]; rfl, HJ.out.2.trans (by (repeat (first | exact Kp.refl _ _ | assumption | refine Kp.drew ?_ | refine Kp.drewN ?_ _ | refine Kp.alloc ?_ _ | (refine Kp.setCell ?_ (by first | (left; simp; done) | (right; simp; try omega)) _) | (refine Kp.trans' ?_ (by assumption) (by simp; try omega)))))⟩
        · cases Y
          · skip
            have HF2 := Lib.hid (HF.out (by rw [HMP.out]; rfl))
            clear HF HT HMP
            go_wp2_with fail
            refine (HX.out _).mono ?_; rintro e w1 ⟨rfl, rfl⟩
            go_wp2_with fail
            refine (HY.out _).mono ?_; rintro e w1 ⟨rfl, rfl⟩
            go_wp2_with fail
            go_ret
            exact ⟨by rw [HF2.out, Bool.and_false]; rfl, HJ.out.2.trans (by (repeat (first | exact Kp.refl _ _ | assumption | refine Kp.drew ?_ | refine Kp.drewN ?_ _ | refine Kp.alloc ?_ _ | (refine Kp.setCell ?_ (by first | (left; simp; done) | (right; simp; try omega)) _) | (refine Kp.trans' ?_ (by assumption) (by simp; try omega)))))⟩
          · skip
            have HT2 : Hid (mayTo c (j + 1) = true) := by show _ = _; rw [HT.out, HJ.out.1, HMP.out]; rfl
            clear HF HT HMP
            go_wp2_with fail
            refine (HX.out _).mono ?_; rintro e w1 ⟨rfl, rfl⟩
            go_wp2_with fail
            refine (HY.out _).mono ?_; rintro e w1 ⟨rfl, rfl⟩
            go_wp2_with fail
            go_roundw
            case rel => first | exact ⟨j + 1, by omega, int_eq' (by omega), HT2.out, HJ.out.2.trans (by (repeat (first | exact Kp.refl _ _ | assumption | refine Kp.drew ?_ | refine Kp.drewN ?_ _ | refine Kp.alloc ?_ _ | (refine Kp.setCell ?_ (by first | (left; simp; done) | (right; simp; try omega)) _) | (refine Kp.trans' ?_ (by assumption) (by simp; try omega)))))⟩ | ((repeat apply Exists.intro); exact ⟨⟨j + 1, by omega, int_eq' (by omega), HT2.out, HJ.out.2.trans (by (repeat (first | exact Kp.refl _ _ | assumption | refine Kp.drew ?_ | refine Kp.drewN ?_ _ | refine Kp.alloc ?_ _ | (refine Kp.setCell ?_ (by first | (left; simp; done) | (right; simp; try omega)) _) | (refine Kp.trans' ?_ (by assumption) (by simp; try omega)))))⟩, rfl⟩)
            case measure => simp [intOf]; omega
      · cases X
        · skip
          have HF2 := Lib.hid (HF.out (by rw [HMP.out]; rfl))
          clear HF HT HMP
          go_wp2_with fail
          refine (HX.out _).mono ?_; rintro e w1 ⟨rfl, rfl⟩
          go_wp2_with fail
          go_ret
          exact ⟨by rw [HF2.out, Bool.and_false]; rfl, HJ.out.2.trans (by (repeat (first | exact Kp.refl _ _ | assumption | refine Kp.drew ?_ | refine Kp.drewN ?_ _ | refine Kp.alloc ?_ _ | (refine Kp.setCell ?_ (by first | (left; simp; done) | (right; simp; try omega)) _) | (refine Kp.trans' ?_ (by assumption) (by simp; try omega)))))⟩
        · cases Y
          · skip
            have HF2 := Lib.hid (HF.out (by rw [HMP.out]; rfl))
            clear HF HT HMP
            go_wp2_with fail
            refine (HX.out _).mono ?_; rintro e w1 ⟨rfl, rfl⟩
            go_wp2_with fail
            refine (HY.out _).mono ?_; rintro e w1 ⟨rfl, rfl⟩
            go_wp2_with fail
            go_ret
            exact ⟨by rw [HF2.out, Bool.and_false]; rfl, HJ.out.2.trans (by (repeat (first | exact Kp.refl _ _ | assumption | refine Kp.drew ?_ | refine Kp.drewN ?_ _ | refine Kp.alloc ?_ _ | (refine Kp.setCell ?_ (by first | (left; simp; done) | (right; simp; try omega)) _) | (refine Kp.trans' ?_ (by assumption) (by simp; try omega)))))⟩
          · skip
            have HT2 : Hid (mayTo c (j + 1) = true) := by show _ = _; rw [HT.out, HJ.out.1, HMP.out]; rfl
            clear HF HT HMP
            go_wp2_with fail
            refine (HX.out _).mono ?_; rintro e w1 ⟨rfl, rfl⟩
            go_wp2_with fail
            refine (HY.out _).mono ?_; rintro e w1 ⟨rfl, rfl⟩
            go_wp2_with fail
            go_roundw
            case rel => first | exact ⟨j + 1, by omega, int_eq' (by omega), HT2.out, HJ.out.2.trans (by (repeat (first | exact Kp.refl _ _ | assumption | refine Kp.drew ?_ | refine Kp.drewN ?_ _ | refine Kp.alloc ?_ _ | (refine Kp.setCell ?_ (by first | (left; simp; done) | (right; simp; try omega)) _) | (refine Kp.trans' ?_ (by assumption) (by simp; try omega)))))⟩ | ((repeat apply Exists.intro); exact ⟨⟨j + 1, by omega, int_eq' (by omega), HT2.out, HJ.out.2.trans (by (repeat (first | exact Kp.refl _ _ | assumption | refine Kp.drew ?_ | refine Kp.drewN ?_ _ | refine Kp.alloc ?_ _ | (refine Kp.setCell ?_ (by first | (left; simp; done) | (right; simp; try omega)) _) | (refine Kp.trans' ?_ (by assumption) (by simp; try omega)))))⟩, rfl⟩)
            case measure => simp [intOf]; omega
      · cases X
        · skip
          have HF2 := Lib.hid (HF.out (by rw [HMP.out]; rfl))
          clear HF HT HMP
          go_wp2_with fail
          refine (HX.out _).mono ?_; rintro e w1 ⟨rfl, rfl⟩
          go_wp2_with fail
          go_ret
          exact ⟨by rw [HF2.out, Bool.and_false]; rfl, HJ.out.2.trans (by (repeat (first | exact Kp.refl _ _ | assumption | refine Kp.drew ?_ | refine Kp.drewN ?_ _ | refine Kp.alloc ?_ _ | (refine Kp.setCell ?_ (by first | (left; simp; done) | (right; simp; try omega)) _) | (refine Kp.trans' ?_ (by assumption) (by simp; try omega)))))⟩
        · cases Y
          · skip
            have HF2 := Lib.hid (HF.out (by rw [HMP.out]; rfl))
            clear HF HT HMP
            go_wp2_with fail
            refine (HX.out _).mono ?_; rintro e w1 ⟨rfl, rfl⟩
            go_wp2_with fail
            refine (HY.out _).mono ?_; rintro e w1 ⟨rfl, rfl⟩
            go_wp2_with fail
            go_ret
            exact ⟨by rw [HF2.out, Bool.and_false]; rfl, HJ.out.2.trans (by (repeat (first | exact Kp.refl _ _ | assumption | refine Kp.drew ?_ | refine Kp.drewN ?_ _ | refine Kp.alloc ?_ _ | (refine Kp.setCell ?_ (by first | (left; simp; done) | (right; simp; try omega)) _) | (refine Kp.trans' ?_ (by assumption) (by simp; try omega)))))⟩
          · cases T
            · skip
              have HF2 := Lib.hid (HF.out (by rw [HMP.out]; rfl))
              clear HF HT HMP
              go_wp2_with fail
              refine (HX.out _).mono ?_; rintro e w1 ⟨rfl, rfl⟩
              go_wp2_with fail
              refine (HY.out _).mono ?_; rintro e w1 ⟨rfl, rfl⟩
              go_wp2_with fail
              refine (HC.out _ (by (repeat (first | exact Kp.refl _ _ | assumption | refine Kp.drew ?_ | refine Kp.drewN ?_ _ | refine Kp.alloc ?_ _ | (refine Kp.setCell ?_ (by first | (left; simp; done) | (right; simp; try omega)) _) | (refine Kp.trans' ?_ (by assumption) (by simp; try omega)))))).mono ?_; rintro e w2 ⟨rfl, hk2⟩
              have HK2 : Hid (Kp [] w w2) := HJ.out.2.trans (Kp.trans (by (repeat (first | exact Kp.refl _ _ | assumption | refine Kp.drew ?_ | refine Kp.drewN ?_ _ | refine Kp.alloc ?_ _ | (refine Kp.setCell ?_ (by first | (left; simp; done) | (right; simp; try omega)) _) | (refine Kp.trans' ?_ (by assumption) (by simp; try omega))))) hk2)
              clear hk2
              go_wp2_with fail
              go_ret
              exact ⟨by rw [HF2.out, Bool.and_false]; rfl, HK2.out⟩
            · skip
              have HT2 : Hid (mayTo c (j + 1) = true) := by show _ = _; rw [HT.out, HJ.out.1, HMP.out]; rfl
              clear HF HT HMP
              go_wp2_with fail
              refine (HX.out _).mono ?_; rintro e w1 ⟨rfl, rfl⟩
              go_wp2_with fail
              refine (HY.out _).mono ?_; rintro e w1 ⟨rfl, rfl⟩
              go_wp2_with fail
              refine (HC.out _ (by (repeat (first | exact Kp.refl _ _ | assumption | refine Kp.drew ?_ | refine Kp.drewN ?_ _ | refine Kp.alloc ?_ _ | (refine Kp.setCell ?_ (by first | (left; simp; done) | (right; simp; try omega)) _) | (refine Kp.trans' ?_ (by assumption) (by simp; try omega)))))).mono ?_; rintro e w2 ⟨rfl, hk2⟩
              have HK2 : Hid (Kp [] w w2) := HJ.out.2.trans (Kp.trans (by (repeat (first | exact Kp.refl _ _ | assumption | refine Kp.drew ?_ | refine Kp.drewN ?_ _ | refine Kp.alloc ?_ _ | (refine Kp.setCell ?_ (by first | (left; simp; done) | (right; simp; try omega)) _) | (refine Kp.trans' ?_ (by assumption) (by simp; try omega))))) hk2)
              clear hk2
              go_wp2_with fail
              go_roundw
              case rel => first | exact ⟨j + 1, by omega, int_eq' (by omega), HT2.out, HK2.out⟩ | ((repeat apply Exists.intro); exact ⟨⟨j + 1, by omega, int_eq' (by omega), HT2.out, HK2.out⟩, rfl⟩)
              case measure => simp [intOf]; omega
      · have hk13 : k < 1 ∨ 3 < k := by
          have a1 : k ≠ 1 := by simpa using k1
          have a2 : k ≠ 2 := by simpa using k2
          have a3 : k ≠ 3 := by simpa using k3
          omega
        have HF2 := Lib.hid (HF.out (by rw [HMP.out]; rw [k1, k2, k3]; simp))
        clear HF HT HMP
        clear k1 k2 k3
        rcases hk13 with hk1 | hk3
        · skip
          go_wp2_with fail
          go_ret
          exact ⟨by rw [HF2.out, Bool.and_false]; rfl, HJ.out.2.trans (by (repeat (first | exact Kp.refl _ _ | assumption | refine Kp.drew ?_ | refine Kp.drewN ?_ _ | refine Kp.alloc ?_ _ | (refine Kp.setCell ?_ (by first | (left; simp; done) | (right; simp; try omega)) _) | (refine Kp.trans' ?_ (by assumption) (by simp; try omega)))))⟩
        · have hk1 : decide (k < 1) = false := decide_eq_false (by omega)
          go_wp2_with fail
          go_ret
          exact ⟨by rw [HF2.out, Bool.and_false]; rfl, HJ.out.2.trans (by (repeat (first | exact Kp.refl _ _ | assumption | refine Kp.drew ?_ | refine Kp.drewN ?_ _ | refine Kp.alloc ?_ _ | (refine Kp.setCell ?_ (by first | (left; simp; done) | (right; simp; try omega)) _) | (refine Kp.trans' ?_ (by assumption) (by simp; try omega)))))⟩
    · obtain rfl : j = N := by omega
      have HK := Lib.hid HJ.out.2
      have HT := Lib.hid HJ.out.1
      clear HJ
      go_wp2_with fail
      go_ret
      exact ⟨by rw [HT.out, Bool.and_true]; simp, HK.out⟩
end Go.Proofs.Ytodjohoonbkklaa

/- outline: the law OutlineExplicits. (Written by wip/outline/genovj.py.) -/
import Derived.Test.YtodjohoonbkklaaOvI
namespace Go.Proofs.Ytodjohoonbkklaa
open Go.RowKit
set_option linter.unusedVariables false
set_option linter.unusedSimpArgs false
/-- No two control points of a quadratic curve stand side by side. -/
def NoPair (c : List Pn) : Prop := ∀ i, i + 1 < c.length → ¬ ((c.getD (i + 1) pn0).k = 2 ∧ (c.getD i pn0).k = 2)
theorem NoPair.snoc {c : List Pn} {p : Pn} (h : NoPair c) (h0 : 0 < c.length) (hp : ¬ (p.k = 2 ∧ (c.getD (c.length - 1) pn0).k = 2)) : NoPair (c ++ [p]) := by
  intro i hi
  rw [List.length_append, List.length_singleton] at hi
  by_cases e : i + 1 < c.length
  · rw [List.getD_eq_getElem?_getD, List.getElem?_append_left e, ← List.getD_eq_getElem?_getD, List.getD_eq_getElem?_getD (l := c ++ [p]), List.getElem?_append_left (by omega), ← List.getD_eq_getElem?_getD]
    exact h i e
  · have e2 : i = c.length - 1 := by omega
    rw [List.getD_eq_getElem?_getD, List.getElem?_append_right (by omega), show i + 1 - c.length = 0 by omega, List.getD_eq_getElem?_getD (l := c ++ [p]), List.getElem?_append_left (by omega), ← List.getD_eq_getElem?_getD, e2]
    exact hp
theorem last_app (c : List Pn) (p : Pn) : (c ++ [p]).getD ((c ++ [p]).length - 1) pn0 = p := by
  rw [List.length_append, List.length_singleton, Nat.add_sub_cancel, List.getD_eq_getElem?_getD, List.getElem?_append_right (Nat.le_refl _), Nat.sub_self]; rfl
theorem expG_last (T : List Pn) (j : Nat) : (expG T j).getD ((expG T j).length - 1) pn0 = T.getD j pn0 := by
  cases j with
  | zero => rfl
  | succ j => rw [expG_succ]; exact last_app _ _
theorem expG_nopair (T : List Pn) (j : Nat) : NoPair (expG T j) := by
  induction j with
  | zero => intro i hi; simp [expG] at hi
  | succ j ih =>
    rw [expG_succ]
    have hl := expG_len T j
    by_cases h : (T.getD (j + 1) pn0).k = 2 ∧ (T.getD j pn0).k = 2
    · rw [if_pos h]
      refine NoPair.snoc (NoPair.snoc ih hl.1 (by simp [midP])) (by simp) ?_
      rw [last_app]; simp [midP]
    · rw [if_neg h, List.append_nil]
      exact NoPair.snoc ih hl.1 (by rw [expG_last]; exact h)
theorem expG_head (T : List Pn) (j : Nat) : (expG T j).getD 0 pn0 = T.getD 0 pn0 := by
  induction j with
  | zero => rfl
  | succ j ih =>
    have hl := expG_len T j
    rw [expG_succ, List.getD_eq_getElem?_getD, List.getElem?_append_left (by simp; omega), List.getElem?_append_left (by omega), ← List.getD_eq_getElem?_getD]; exact ih
theorem turnP_head (c : List Pn) (h0 : 0 < c.length) : ((turnP c).getD 0 pn0).k = 1 := by
  by_cases h : onAt c < c.length
  · rw [turn_at c 0 h h0]
    have := ringAt_lt c (onAt c) h
    simp only [Int.ofNat_zero, Int.add_zero]
    first | (rw [this]; exact onAt_k c h) | (simp; rw [this]; exact onAt_k c h)
  · unfold turnP; rw [if_neg h]; rfl
theorem turnP_id (c : List Pn) (h0 : 0 < c.length) (h : (c.getD 0 pn0).k = 1) : turnP c = c := by
  have : onAt c = 0 := onAt_found c 0 h0 (fun t ht => by omega) h
  unfold turnP; rw [this, if_pos h0]; simp
theorem expG_id (c : List Pn) (h : NoPair c) : ∀ j, j < c.length → expG c j = c.take (j + 1) := by
  intro j
  induction j with
  | zero =>
    intro hj
    match c, hj with
    | p :: l, _ => rfl
  | succ j ih =>
    intro hj
    rw [expG_succ, ih (by omega), if_neg (h j hj), List.append_nil, List.take_succ_eq_append_getElem hj, List.getD_eq_getElem?_getD, List.getElem?_eq_getElem hj]; rfl
theorem expC_idem (c : List Pn) (h0 : 0 < c.length) : expC (expC c) = expC c := by
  have hl := expC_len c h0
  have hT := turnP_len c h0
  have h1 : ((expC c).getD 0 pn0).k = 1 := by unfold expC; rw [expG_head]; exact turnP_head c h0
  have h2 : NoPair (expC c) := expG_nopair _ _
  rw [show expC (expC c) = expG (turnP (expC c)) ((turnP (expC c)).length - 1) from rfl, turnP_id _ hl.1 h1, expG_id _ h2 _ (by omega), show (expC c).length - 1 + 1 = (expC c).length by omega, List.take_length]
theorem expO_idem {o : List (List Pn)} (h : checkO o = 0) : expO (expO o) = expO o := by
  obtain ⟨_, _, h3⟩ := checkO_zero h
  unfold expO
  rw [List.map_map]
  refine List.map_congr_left fun c hc => ?_
  obtain ⟨i, hi, rfl⟩ := List.mem_iff_getElem.1 hc
  have := h3 i hi
  rw [List.getD_eq_getElem?_getD, List.getElem?_eq_getElem hi] at this
  exact expC_idem _ (mayCo_facts this).1
theorem expO_at (o : List (List Pn)) (j : Nat) (h : j < o.length) : (expO o).getD j [] = expC (o.getD j []) := by
  unfold expO
  rw [List.getD_eq_getElem?_getD, List.getElem?_map, List.getElem?_eq_getElem h, List.getD_eq_getElem?_getD, List.getElem?_eq_getElem h]; rfl
theorem expO_small {o : List (List Pn)} (h : checkO o = 0) : fewO (expO o) ∧ smallO (expO o) ∧ tinyO (expO o) ∧ cnt (expO o) ≤ 4611686018427387904 := by
  obtain ⟨h1, h2, h3⟩ := checkO_zero h
  have hl : (expO o).length = o.length := by unfold expO; rw [List.length_map]
  have hj : ∀ j, j < (expO o).length → ((expO o).getD j []).length ≤ 8193 := fun j hj => by
    rw [hl] at hj
    rw [expO_at o j hj]
    have a := (expC_len _ (mayCo_facts (h3 j hj)).1).2
    have b := len_le_cnt o hj
    omega
  have hc := cntTo_bound (expO o) 8193 hj (expO o).length (Nat.le_refl _)
  refine ⟨⟨by omega, fun j h => by have := hj j h; omega⟩, fun j h => by have := hj j h; omega, fun j h => by have := hj j h; omega, ?_⟩
  unfold cnt
  have : (expO o).length * 8193 ≤ 256 * 8193 := Nat.mul_le_mul_right _ (by omega)
  omega
set_option maxRecDepth 100000 in
set_option maxHeartbeats 4000000 in
theorem law_OutlineExplicits (v : Value) (o : List (List Pn)) (w : World) (hv : IsOut w v o) (hb : boundO o) :
    Calls Try.prog 8 #[v] w fun e w' => e = .returned (.bool true) ∧ Kp [] w w' := by
  have HLA := Lib.hid (large_calls v o w hv hb)
  obtain ⟨pa, ca, rfl⟩ := hv.form
  have HV : Hid (∀ W, Kp [] w W → IsOut W (.slice pa o.length ca) o) := fun W hW => hv.kp0 hW
  cases hlg : largeB o
  · obtain ⟨hfew, hsm, hti, hcn⟩ := small_facts hlg
    rw [hlg] at HLA
    have HRC := Lib.hid (fun W hW => rcheck_calls _ o W (HV.out W hW) hti (by omega))
    have HCO := Lib.hid (fun W hW => copied_calls _ o W (HV.out W hW) hfew)
    by_cases hE : checkO o = 0
    · have HEX := Lib.hid (fun v2 W (h : IsOut W v2 o) => oexplicit_ok v2 o W h hE)
      have HRE := Lib.hid (fun W hW => roexplicit_calls _ o W (HV.out W hW) hE)
      obtain ⟨hf2, hs2, ht2, hc2⟩ := expO_small hE
      have HID := Lib.hid (expO_idem hE)
      rw [hE] at HRC
      obtain ⟨X, hX⟩ : ∃ X, expO o = X := ⟨_, rfl⟩
      rw [hX] at HEX HRE HID hf2 hs2 ht2 hc2
      have HSA := Lib.hid (fun va vb W (h1 : IsOut W va X) (h2 : IsOut W vb X) => rsame_calls va vb X X W h1 h2)
      rw [decide_eq_true (rfl : X = X)] at HSA
      have HRX := Lib.hid (fun va W (h1 : IsOut W va X) => rcheck_calls va X W h1 ht2 hc2)
      have HCX := Lib.hid (fun va W (h1 : IsOut W va X) => copied_calls va X W h1 hf2)
      by_cases hE2 : checkO X = 0
      · have HEX2 := Lib.hid (fun v2 W (h : IsOut W v2 X) => oexplicit_ok v2 X W h hE2)
        rw [hE2] at HRX
        rw [HID.out] at HEX2
        generalize o.length = N at *
        generalize X.length = M at *
        clear hv hb hlg hfew hsm hti hcn hE hX hf2 hs2 ht2 hc2 hE2
        go_enter Try.func8, Try.ntmps8
        go_wp2_with fail
        refine (HLA.out).mono ?_; rintro e w1 ⟨rfl, rfl⟩
        go_wp2_with fail
        refine (HCO.out _ (Kp.refl _ _)).mono ?_; rintro e w2 ⟨v2, rfl, ho2, hk2⟩
        replace ho2 := ho2.out
        obtain ⟨pv2, cv2, rfl⟩ := ho2.form
        have HOC : Hid (∀ W, Kp [] w2 W → IsOut W _ _) := fun W hW => ho2.kp0 hW
        clear ho2
        have HK2 := Lib.hid hk2
        have HS2 : Hid (Kp [] w w2) := hk2
        clear hk2
        go_wp2_with fail
        refine (HEX.out _ _ (HOC.out _ (Kp.refl _ _))).mono ?_; rintro e w3 ⟨v3, rfl, ho3, hk3⟩
        replace ho3 := ho3.out
        obtain ⟨pv3, cv3, rfl⟩ := ho3.form
        have HX1 : Hid (∀ W, Kp [] w3 W → IsOut W _ _) := fun W hW => ho3.kp0 hW
        clear ho3
        have HK3 : Hid (Kp [] w w3) := Kp.trans HK2.out hk3
        have HS3 : Hid (Kp [] w2 w3) := hk3
        clear hk3
        go_wp2_with fail
        refine (lives10_calls _).mono ?_; rintro e w4 ⟨rfl, hk4⟩
        have HK4 : Hid (Kp [] w w4) := Kp.trans HK3.out hk4
        have HS4 : Hid (Kp [] w3 w4) := hk4
        clear hk4
        go_wp2_with fail
        refine (HRC.out _ HK4.out).mono ?_; rintro e w5 ⟨rfl, hk5⟩
        have HK5 : Hid (Kp [] w w5) := Kp.trans HK4.out hk5
        have HS5 : Hid (Kp [] w4 w5) := hk5
        clear hk5
        go_wp2_with fail
        refine (HRE.out _ HK5.out).mono ?_; rintro e w6 ⟨v6, rfl, ho6, hk6⟩
        replace ho6 := ho6.out
        obtain ⟨pv6, cv6, rfl⟩ := ho6.form
        have HX2 : Hid (∀ W, Kp [] w6 W → IsOut W _ _) := fun W hW => ho6.kp0 hW
        clear ho6
        have HK6 : Hid (Kp [] w w6) := Kp.trans HK5.out hk6
        have HS6 : Hid (Kp [] w5 w6) := hk6
        clear hk6
        go_wp2_with fail
        refine (HSA.out _ _ _ (HX1.out _ (HS4.out.trans (HS5.out.trans (HS6.out)))) (HX2.out _ (Kp.refl _ _))).mono ?_; rintro e w7 ⟨rfl, hk7⟩
        have HK7 : Hid (Kp [] w w7) := Kp.trans HK6.out hk7
        have HS7 : Hid (Kp [] w6 w7) := hk7
        clear hk7
        go_wp2_with fail
        refine (HRX.out _ _ (HX2.out _ (HS7.out))).mono ?_; rintro e w8 ⟨rfl, hk8⟩
        have HK8 : Hid (Kp [] w w8) := Kp.trans HK7.out hk8
        have HS8 : Hid (Kp [] w7 w8) := hk8
        clear hk8
        go_wp2_with fail
        refine (HCX.out _ _ (HX2.out _ (HS7.out.trans (HS8.out)))).mono ?_; rintro e w9 ⟨v9, rfl, ho9, hk9⟩
        replace ho9 := ho9.out
        obtain ⟨pv9, cv9, rfl⟩ := ho9.form
        have HX3 : Hid (∀ W, Kp [] w9 W → IsOut W _ _) := fun W hW => ho9.kp0 hW
        clear ho9
        have HK9 : Hid (Kp [] w w9) := Kp.trans HK8.out hk9
        have HS9 : Hid (Kp [] w8 w9) := hk9
        clear hk9
        go_wp2_with fail
        refine (HEX2.out _ _ (HX3.out _ (Kp.refl _ _))).mono ?_; rintro e w10 ⟨v10, rfl, ho10, hk10⟩
        replace ho10 := ho10.out
        obtain ⟨pv10, cv10, rfl⟩ := ho10.form
        have HX4 : Hid (∀ W, Kp [] w10 W → IsOut W _ _) := fun W hW => ho10.kp0 hW
        clear ho10
        have HK10 : Hid (Kp [] w w10) := Kp.trans HK9.out hk10
        have HS10 : Hid (Kp [] w9 w10) := hk10
        clear hk10
        go_wp2_with fail
        refine (HSA.out _ _ _ (HX4.out _ (Kp.refl _ _)) (HX2.out _ (HS7.out.trans (HS8.out.trans (HS9.out.trans (HS10.out)))))).mono ?_; rintro e w11 ⟨rfl, hk11⟩
        have HK11 : Hid (Kp [] w w11) := Kp.trans HK10.out hk11
        have HS11 : Hid (Kp [] w10 w11) := hk11
        clear hk11
        go_wp2_with fail
        go_ret
        exact ⟨rfl, HK11.out⟩
      · obtain ⟨E2, hEE2⟩ : ∃ E, checkO X = E := ⟨_, rfl⟩
        rw [hEE2] at HRX hE2
        have hE3 : (E2 == 0) = false := by simpa using hE2
        generalize o.length = N at *
        generalize X.length = M at *
        clear hv hb hlg hfew hsm hti hcn hE hX hf2 hs2 ht2 hc2 hEE2
        go_enter Try.func8, Try.ntmps8
        go_wp2_with fail
        refine (HLA.out).mono ?_; rintro e w1 ⟨rfl, rfl⟩
        go_wp2_with fail
        refine (HCO.out _ (Kp.refl _ _)).mono ?_; rintro e w2 ⟨v2, rfl, ho2, hk2⟩
        replace ho2 := ho2.out
        obtain ⟨pv2, cv2, rfl⟩ := ho2.form
        have HOC : Hid (∀ W, Kp [] w2 W → IsOut W _ _) := fun W hW => ho2.kp0 hW
        clear ho2
        have HK2 := Lib.hid hk2
        have HS2 : Hid (Kp [] w w2) := hk2
        clear hk2
        go_wp2_with fail
        refine (HEX.out _ _ (HOC.out _ (Kp.refl _ _))).mono ?_; rintro e w3 ⟨v3, rfl, ho3, hk3⟩
        replace ho3 := ho3.out
        obtain ⟨pv3, cv3, rfl⟩ := ho3.form
        have HX1 : Hid (∀ W, Kp [] w3 W → IsOut W _ _) := fun W hW => ho3.kp0 hW
        clear ho3
        have HK3 : Hid (Kp [] w w3) := Kp.trans HK2.out hk3
        have HS3 : Hid (Kp [] w2 w3) := hk3
        clear hk3
        go_wp2_with fail
        refine (lives10_calls _).mono ?_; rintro e w4 ⟨rfl, hk4⟩
        have HK4 : Hid (Kp [] w w4) := Kp.trans HK3.out hk4
        have HS4 : Hid (Kp [] w3 w4) := hk4
        clear hk4
        go_wp2_with fail
        refine (HRC.out _ HK4.out).mono ?_; rintro e w5 ⟨rfl, hk5⟩
        have HK5 : Hid (Kp [] w w5) := Kp.trans HK4.out hk5
        have HS5 : Hid (Kp [] w4 w5) := hk5
        clear hk5
        go_wp2_with fail
        refine (HRE.out _ HK5.out).mono ?_; rintro e w6 ⟨v6, rfl, ho6, hk6⟩
        replace ho6 := ho6.out
        obtain ⟨pv6, cv6, rfl⟩ := ho6.form
        have HX2 : Hid (∀ W, Kp [] w6 W → IsOut W _ _) := fun W hW => ho6.kp0 hW
        clear ho6
        have HK6 : Hid (Kp [] w w6) := Kp.trans HK5.out hk6
        have HS6 : Hid (Kp [] w5 w6) := hk6
        clear hk6
        go_wp2_with fail
        refine (HSA.out _ _ _ (HX1.out _ (HS4.out.trans (HS5.out.trans (HS6.out)))) (HX2.out _ (Kp.refl _ _))).mono ?_; rintro e w7 ⟨rfl, hk7⟩
        have HK7 : Hid (Kp [] w w7) := Kp.trans HK6.out hk7
        have HS7 : Hid (Kp [] w6 w7) := hk7
        clear hk7
        go_wp2_with fail
        refine (HRX.out _ _ (HX2.out _ (HS7.out))).mono ?_; rintro e w8 ⟨rfl, hk8⟩
        have HK8 : Hid (Kp [] w w8) := Kp.trans HK7.out hk8
        have HS8 : Hid (Kp [] w7 w8) := hk8
        clear hk8
        go_wp2_with fail
        go_ret
        exact ⟨rfl, HK8.out⟩
    · obtain ⟨E, hEE⟩ : ∃ E, checkO o = E := ⟨_, rfl⟩
      have HEX := Lib.hid (fun v2 W (h : IsOut W v2 o) => oexplicit_no v2 o W h hsm (by omega) E hEE (by rw [← hEE]; exact hE))
      rw [hEE] at HRC hE
      have hE1 : (E == 0) = false := by simpa using hE
      generalize o.length = N at *
      clear hv hb hlg hfew hsm hti hcn hEE
      go_enter Try.func8, Try.ntmps8
      go_wp2_with fail
      refine (HLA.out).mono ?_; rintro e w1 ⟨rfl, rfl⟩
      go_wp2_with fail
      refine (HCO.out _ (Kp.refl _ _)).mono ?_; rintro e w2 ⟨v2, rfl, ho2, hk2⟩
      replace ho2 := ho2.out
      obtain ⟨pv2, cv2, rfl⟩ := ho2.form
      have HOC : Hid (∀ W, Kp [] w2 W → IsOut W _ _) := fun W hW => ho2.kp0 hW
      clear ho2
      have HK2 := Lib.hid hk2
      have HS2 : Hid (Kp [] w w2) := hk2
      clear hk2
      go_wp2_with fail
      refine (HEX.out _ _ (HOC.out _ (Kp.refl _ _))).mono ?_; rintro e w3 ⟨rfl, hk3⟩
      have HK3 : Hid (Kp [] w w3) := Kp.trans HK2.out hk3
      have HS3 : Hid (Kp [] w2 w3) := hk3
      clear hk3
      go_wp2_with fail
      refine (lives10_calls _).mono ?_; rintro e w4 ⟨rfl, hk4⟩
      have HK4 : Hid (Kp [] w w4) := Kp.trans HK3.out hk4
      have HS4 : Hid (Kp [] w3 w4) := hk4
      clear hk4
      go_wp2_with fail
      refine (HRC.out _ HK4.out).mono ?_; rintro e w5 ⟨rfl, hk5⟩
      have HK5 : Hid (Kp [] w w5) := Kp.trans HK4.out hk5
      have HS5 : Hid (Kp [] w4 w5) := hk5
      clear hk5
      go_wp2_with fail
      go_ret
      exact ⟨rfl, HK5.out⟩
  · rw [hlg] at HLA
    generalize o.length = N at *
    clear hv hb hlg
    go_enter Try.func8, Try.ntmps8
    go_wp2_with fail
    refine HLA.out.mono ?_; rintro e w1 ⟨rfl, rfl⟩
    go_wp2_with fail
    refine (lives10_calls _).mono ?_; rintro e w2 ⟨rfl, hk2⟩
    go_wp2_with fail
    go_ret
    exact ⟨rfl, hk2⟩
end Go.Proofs.Ytodjohoonbkklaa

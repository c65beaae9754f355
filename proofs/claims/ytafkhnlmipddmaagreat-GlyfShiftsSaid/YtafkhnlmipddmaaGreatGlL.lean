/- glyf: lives. -/
import Derived.Test.YtafkhnlmipddmaaGreatGlK
import Derived.Test.YtafkhnlmipddmaaGreatGlY
import Derived.Test.YtafkhnlmipddmaaGreatTree
import Derived.BigQuiet
import Derived.Deep.DeepCutAuto
import Derived.KernelRfl
namespace Go.Proofs.YtafkhnlmipddmaaGreat
open Go.RowKit
set_option linter.unusedVariables false
set_option linter.unusedSimpArgs false
theorem rpart_calls (l : List Cp.Pt) (hl : okL l) (v : Value) (w : World) (h : Cp.IsPts w v l) : Calls Tryz.prog 10 #[v] w fun e w' => ∃ p c, e = .returned (.tuple #[.slice p (cmB l).length c, .int .i64 0]) ∧ IsInts .u8 w' (.slice p (cmB l).length c) (cmB l) ∧ Kp [] w w' := by
  have h1 := Cp.rencode_calls v l w h
  rw [cmB_enc hl] at h1
  refine h1.mono fun e w' ⟨v', e1, h2, h3⟩ => ?_
  obtain ⟨p, c, rfl⟩ := ints_formB h2
  exact ⟨p, c, e1, h2, h3⟩
/-- A literal row of glyphs' bytes. -/
theorem bsLit2 {w W : World} {v1 v2 : Value} {b1 b2 : List Int} (hk : Kp [] (w.alloc (.cells #[v1, v2] 25)) W) (h1 : IsInts .u8 W v1 b1) (h2 : IsInts .u8 W v2 b2) : IsBs W (.slice (some ⟨w.heap.size, 0, none⟩) 2 2) [b1, b2] :=
  ⟨[v1, v2], Reads.kp (Reads.made w w.heap.size 1 2 [v1, v2] 25 rfl rfl (by decide)) hk (by simp), fun i hi => by
    have : i = 0 ∨ i = 1 := by simp at hi; omega
    rcases this with rfl | rfl
    · exact h1
    · exact h2⟩
def lvL : List Cp.Pt := [pl1 0 10 0]
theorem lv_okL : okL lvL := ⟨by decide, fun p hp => by
  obtain rfl : p = pl1 0 10 0 := by simpa [lvL] using hp
  exact ⟨pl1_may (by decide) (by decide) (by decide), pl1_plain (by decide) (by decide), by decide, by decide⟩⟩
def lvO : List (List Int) := [sqB, cmB lvL]
def lvR : List (List Pn) := [[⟨655360, 0, 1⟩, ⟨720896, 0, 1⟩, ⟨720896, 65536, 1⟩]]
theorem lv_ok : okBs lvO := by
  refine ⟨⟨by decide, by decide, by decide, fun i hi => ?_⟩, fun i hi => ?_⟩
  · have : i = 0 ∨ i = 1 := by simp [lvO] at hi; omega
    rcases this with rfl | rfl
    · exact sq_byte
    · exact cmB_bytes _
  · have : i = 0 ∨ i = 1 := by simp [lvO] at hi; omega
    rcases this with rfl | rfl
    · exact sq_ok
    · exact cmB_ok lv_okL
theorem lv_one : evalO lvO 6 1 0 = ((lvR, 0), 1) := by kernel_rfl
theorem lv_two : evalO lvO 6 2 0 = (([], 62), 0) := by kernel_rfl
theorem lv_build : buildM [[1], [2, 3]] = (([1, 0, 0, 0, 2, 3, 0, 0], [0, 4, 8]), 0) := by kernel_rfl
theorem lv_lit (w : World) : IsBs (((w.alloc (.cells #[.int .u8 1] 5)).alloc (.cells #[.int .u8 2, .int .u8 3] 5)).alloc (.cells #[.slice (some ⟨w.heap.size, 0, none⟩) 1 1, .slice (some ⟨w.heap.size + 1, 0, none⟩) 2 2] 25)) (.slice (some ⟨w.heap.size + 1 + 1, 0, none⟩) 2 2) [[1], [2, 3]] := by
  have h1 : IsInts .u8 (((w.alloc (.cells #[.int .u8 1] 5)).alloc (.cells #[.int .u8 2, .int .u8 3] 5)).alloc (.cells #[.slice (some ⟨w.heap.size, 0, none⟩) 1 1, .slice (some ⟨w.heap.size + 1, 0, none⟩) 2 2] 25)) (.slice (some ⟨w.heap.size, 0, none⟩) 1 1) [1] :=
    IsInts.litT (w := w) .u8 5 [1] (((Kp.refl _ _).alloc _).alloc _) _ 1 rfl rfl (by decide)
  have h2 : IsInts .u8 (((w.alloc (.cells #[.int .u8 1] 5)).alloc (.cells #[.int .u8 2, .int .u8 3] 5)).alloc (.cells #[.slice (some ⟨w.heap.size, 0, none⟩) 1 1, .slice (some ⟨w.heap.size + 1, 0, none⟩) 2 2] 25)) (.slice (some ⟨w.heap.size + 1, 0, none⟩) 2 2) [2, 3] := by
    have h := IsInts.litT (w := w.alloc (.cells #[.int .u8 1] 5)) .u8 5 [2, 3] ((Kp.refl _ _).alloc (.cells #[.slice (some ⟨w.heap.size, 0, none⟩) 1 1, .slice (some ⟨w.heap.size + 1, 0, none⟩) 2 2] 25)) (w.heap.size + 1) 2 (by simp) rfl (by decide)
    simpa using h
  have h := bsLit2 (w := (w.alloc (.cells #[.int .u8 1] 5)).alloc (.cells #[.int .u8 2, .int .u8 3] 5)) (Kp.refl _ _) h1 h2
  simpa using h
theorem lv_cells {w : World} {p5 : Option Addr} {c5 : Nat} (h : IsOut w (.slice p5 1 c5) lvR) : ∃ g1 f1 g2 f2 cv, p5 = some ⟨g1, f1, none⟩ ∧ w.cell? ⟨g1, f1, none⟩ = some (.slice (some ⟨g2, f2, none⟩) 3 cv) ∧ w.cell? ⟨g2, f2 + 3, none⟩ = some (.int .i64 720896) := by
  obtain ⟨g1, f1, c1, p1, cv, e1, _, _, hc1, hi1⟩ := h.row (i := 0) (by decide)
  obtain ⟨g2, f2, c2', e2, _, _, hx, _, _⟩ := hi1.row (i := 1) (by decide)
  obtain ⟨e3, _, _⟩ : p5 = some ⟨g1, f1, none⟩ ∧ _ ∧ _ := by simpa using e1
  obtain ⟨e4, _⟩ : p1 = some ⟨g2, f2, none⟩ ∧ _ := by simpa using e2
  subst e3 e4
  exact ⟨g1, f1, g2, f2, cv, rfl, hc1, hx⟩
set_option maxRecDepth 100000 in
set_option maxHeartbeats 8000000 in
theorem lives13_calls (w : World) : Calls Tryz.prog 8 #[] w fun e w' => e = .returned (.bool true) ∧ Kp [] w w' := by
  have HE := Lib.hid (fun v W (h : Cp.IsPts W v lvL) => rpart_calls lvL lv_okL v W h)
  have HT := Lib.hid (fun v W (h : IsBs W v lvO) => gtable_calls v lvO W h lv_ok.1)
  have HO1 := Lib.hid (fun n0 T W ht hn => outlineO_calls n0 T lvO lv_ok 1 (by decide) W ht hn _ _ _ lv_one)
  have HO2 := Lib.hid (fun n0 T W ht hn => outlineO_calls n0 T lvO lv_ok 2 (by decide) W ht hn _ _ _ lv_two)
  have HV1 := Lib.hid (fun n0 T W ht hn => visitsO_calls n0 T lvO lv_ok 1 (by decide) W ht hn _ _ _ lv_one)
  have HY := Lib.hid (fun n0 T W ht => bytesO_calls n0 T lvO lv_ok.1 0 (by decide) W ht)
  have HLN := Lib.hid (fun n0 T W ht => lenO_calls n0 T lvO lv_ok.1 W ht)
  have HBU := Lib.hid (fun v W (h : IsBs W v [[1], [2, 3]]) => gbuild_calls v _ W h (fun i hi => by
    have : i = 0 ∨ i = 1 := by simp at hi; omega
    rcases this with rfl | rfl <;> decide))
  rw [lv_build] at HBU
  have HLO : Hid (lvO = [sqB, cmB lvL]) := rfl
  have hcl : (cmB lvL).length = 16 := by decide
  have HLL : Hid (lvO.length = 2) := rfl
  have HL0 : Hid (lvO.getD 0 [] = sqB) := rfl
  dsimp only at HBU
  rw [HL0.out] at HY
  rw [HLL.out] at HLN
  rw [hcl] at HE
  have hsl := sq_len
  generalize cmB lvL = CB at *
  generalize lvO = LO at *
  have HSQ := Lib.hid square_calls
  generalize sqB = SB at *
  go_enter Tryz.func8, Tryz.ntmps8
  go_wp2_with fail
  refine (Cp.rone_calls _).mono ?_; rintro e w1 ⟨rfl, hk1⟩
  have HK1 := Lib.hid hk1
  clear hk1
  go_wp2_with fail
  refine (HE.out _ _ (Reads.made w1 _ 11 1 _ 34 rfl (by rfl) (by decide))).mono ?_; rintro e w2 ⟨p2, c2, rfl, hi2, hk2⟩
  have HI2 := Lib.hid hi2
  have HK2 : Hid (Kp [] w w2) := HK1.out.trans (Kp.trans ((Kp.refl _ _).alloc _) hk2)
  clear hi2 hk2 HK1
  go_wp2_with fail
  refine (HSQ.out _).mono ?_; rintro e w3 ⟨v3, rfl, hi3, hk3⟩
  obtain ⟨p3, c3, rfl⟩ := ints_formB hi3
  rw [hsl] at hi3 ⊢
  have HI3 := Lib.hid hi3
  have HI23 := Lib.hid (HI2.out.kp hk3 (by simp))
  have HK3 : Hid (Kp [] w w3) := HK2.out.trans hk3
  clear hi3 hk3 HK2 HI2
  go_wp2_with fail
  have hka : Kp [] w3 (w3.alloc (.cells #[.slice p3 19 c3, .slice p2 16 c2] 25)) := (Kp.refl _ _).alloc _
  refine (HT.out _ _ (by rw [HLO.out]; exact bsLit2 (Kp.refl _ _) (HI3.out.kp hka (by simp)) (HI23.out.kp hka (by simp)))).mono ?_; rintro e w4 ⟨T, rfl, ht4, hk4⟩
  have HT4 : Hid (TbO w4 w4.heap.size T LO) := ht4
  have HK4 : Hid (Kp [] w w4) := HK3.out.trans (hka.trans hk4)
  clear ht4 hk4 hka HI3 HI23 HK3
  go_wp2_with fail
  refine (HO1.out _ _ _ HT4.out (Nat.le_refl _)).mono ?_; rintro e w5 ⟨v5, rfl, ho5, hk5⟩
  obtain ⟨p5, c5, rfl⟩ := ho5.form
  rw [show lvR.length = 1 from rfl] at ho5 ⊢
  have HO5 : Hid (IsOut w5 (.slice p5 1 c5) lvR) := ho5
  have HT5 : Hid (TbO w5 w4.heap.size T LO) := HT4.out.kp0 hk5
  have HK5 : Hid (Kp [] w w5) := HK4.out.trans hk5
  have hz5 : w4.heap.size ≤ w5.heap.size := hk5.size
  clear ho5 hk5 HT4 HK4 HO1
  go_wp2_with fail
  refine (HO2.out _ _ _ HT5.out hz5).mono ?_; rintro e w6 ⟨v6, rfl, ho6, hk6⟩
  obtain ⟨p6, c6, rfl⟩ := ho6.form
  have HO6 : Hid (IsOut w6 (.slice p5 1 c5) lvR) := HO5.out.kp0 hk6
  have HT6 : Hid (TbO w6 w4.heap.size T LO) := HT5.out.kp0 hk6
  have HK6 : Hid (Kp [] w w6) := HK5.out.trans hk6
  have hz6 : w4.heap.size ≤ w6.heap.size := Nat.le_trans hz5 hk6.size
  clear ho6 hk6 HT5 HK5 HO5 HO2
  go_wp2_with fail
  refine (HV1.out _ _ _ HT6.out hz6).mono ?_; rintro e w7 ⟨rfl, hk7⟩
  have HO7 : Hid (IsOut w7 (.slice p5 1 c5) lvR) := HO6.out.kp0 hk7
  have HT7 : Hid (TbO w7 w4.heap.size T LO) := HT6.out.kp0 hk7
  have HK7 : Hid (Kp [] w w7) := HK6.out.trans hk7
  clear hk7 HT6 HK6 HO6 HV1
  go_wp2_with fail
  refine (HY.out _ _ _ HT7.out).mono ?_; rintro e w8 ⟨v8, rfl, hi8, hk8⟩
  obtain ⟨p8, c8, rfl⟩ := ints_formB hi8
  rw [hsl] at hi8 ⊢
  have HI8 := Lib.hid hi8
  have HO8 : Hid (IsOut w8 (.slice p5 1 c5) lvR) := HO7.out.kp0 hk8
  have HT8 : Hid (TbO w8 w4.heap.size T LO) := HT7.out.kp0 hk8
  have HK8 : Hid (Kp [] w w8) := HK7.out.trans hk8
  clear hi8 hk8 HT7 HK7 HO7 HY
  go_wp2_with fail
  have hkb : Kp [] w8 (((w8.alloc (.cells #[.int .u8 1] 5)).alloc (.cells #[.int .u8 2, .int .u8 3] 5)).alloc (.cells #[.slice (some ⟨w8.heap.size, 0, none⟩) 1 1, .slice (some ⟨w8.heap.size + 1, 0, none⟩) 2 2] 25)) := (((Kp.refl _ _).alloc _).alloc _).alloc _
  refine (HBU.out _ _ (lv_lit w8)).mono ?_; rintro e w9 ⟨va, vo, rfl, hi9, hj9, hk9⟩
  obtain ⟨pa, ca, rfl⟩ := ints_formB hi9
  rw [show [1, 0, 0, 0, 2, 3, 0, (0 : Int)].length = 8 from rfl] at hi9 ⊢
  obtain ⟨po, co, rfl⟩ : ∃ p c, vo = .slice p 3 c := by
    rcases hj9 with ⟨⟨ad, rfl⟩, e⟩ | ⟨g, off, c, rfl, _⟩
    · cases e
    · exact ⟨_, c, rfl⟩
  have hkc := hkb.trans hk9
  have HO9 : Hid (IsOut w9 (.slice p5 1 c5) lvR) := HO8.out.kp0 hkc
  have HT9 : Hid (TbO w9 w4.heap.size T LO) := HT8.out.kp0 hkc
  have HI9 := Lib.hid (HI8.out.kp hkc (by simp))
  have HK9 : Hid (Kp [] w w9) := HK8.out.trans hkc
  clear hi9 hj9 hk9 hkb hkc HT8 HK8 HO8 HI8 HBU
  obtain ⟨g1, f1, g2, f2, cv, rfl, hc2, hx⟩ : ∃ g1 f1 g2 f2 cv, p5 = some ⟨g1, f1, none⟩ ∧ w9.cell? ⟨g1, f1, none⟩ = some (.slice (some ⟨g2, f2, none⟩) 3 cv) ∧ w9.cell? ⟨g2, f2 + 3, none⟩ = some (.int .i64 720896) := lv_cells HO9.out
  have hs1 := run_str _ _ _ HI9.out
  have HSC : Hid (∀ w', Kp [] w9 w' → (Go.convert 25 9 (.slice p8 19 c8)).run Tryz.prog w' = .ok (.string (toStr SB)) w' ∧ w'.cell? ⟨g1, f1, none⟩ = some (.slice (some ⟨g2, f2, none⟩) 3 cv) ∧ w'.cell? ⟨g2, f2 + 3, none⟩ = some (.int .i64 720896)) := fun w' hk => ⟨run_str _ _ _ (HI9.out.kp0 hk), hk.cell hc2 (by simp), hk.cell hx (by simp)⟩
  have HSS : Hid (∀ v W, IsInts .u8 W v SB → (Go.convert 25 9 v).run Tryz.prog W = .ok (.string (toStr SB)) W) := fun v W h => run_str _ _ _ h
  clear hs1
  generalize toStr SB = TX at *
  go_wp2_with fail
  refine region_tree 26 [0, 1, 2, 3, 4, 5, 6, 7, 8, 9, 10, 11, 12, 13, 14, 15, 16, 17, 18, 19, 20, 21, 22, 23, 24, 25, 26, 27, 28, 29, 30, 31, 32, 33, 34, 35, 36, 37, 38, 39] (by kernel_rfl) (by kernel_rfl) (by kernel_rfl) ?_
  obtain ⟨W0, hW0⟩ : ∃ W0, w9.drew = W0 := ⟨_, rfl⟩
  have hkW : Kp [] w9 W0 := by rw [← hW0]; (repeat (first | exact Kp.refl _ _ | assumption | refine Kp.drew ?_ | refine Kp.drewN ?_ _ | refine Kp.alloc ?_ _ | (refine Kp.setCell ?_ (by first | (left; simp; done) | (right; simp; try omega)) _) | (refine Kp.trans' ?_ (by assumption) (by simp; try omega))))
  rw [hW0]
  clear hW0
  obtain ⟨hs1, hc1, hx1⟩ := HSC.out W0 hkW
  simp only [pickAt_nil, pickAt_cons, List.getElem?_cons_zero, List.getElem?_cons_succ, Option.toList_some, List.cons_append, List.nil_append]
  go_wp2_with fail
  refine QF.intro ?_
  apply any_meet 22 (markI [0, 1, 2, 3, 4, 5, 6, 7, 8, 9, 10, 11, 12, 13, 14, 15, 16, 17, 18, 19, 20, 21, 22, 23, 24, 25, 26, 27, 28, 29, 30, 31, 32, 33, 34, 35, 36, 37, 38, 39, 40, 41, 42, 43] (Array.replicate 66 false)) (fun w' => Kp [] w9 w')
  case k =>
    intro HM
    refine any_branch2 40 42 (by kernel_rfl) ?_ ?_
    · simp only [pickAt_nil, pickAt_cons, List.getElem?_cons_zero, List.getElem?_cons_succ, Option.toList_some, List.cons_append, List.nil_append]
      go_wp2_with fail
      refine QF.intro ?_
      refine any_branch2 41 42 (by kernel_rfl) ?_ ?_
      · simp only [pickAt_nil, pickAt_cons, List.getElem?_cons_zero, List.getElem?_cons_succ, Option.toList_some, List.cons_append, List.nil_append]
        go_wp2_with fail
        refine QF.intro ?_
        refine any_stretch 22 [42, 43] (markI [0, 1, 2, 3, 4, 5, 6, 7, 8, 9, 10, 11, 12, 13, 14, 15, 16, 17, 18, 19, 20, 21, 22, 23, 24, 25, 26, 27, 28, 29, 30, 31, 32, 33, 34, 35, 36, 37, 38, 39, 40, 41, 42, 43] (Array.replicate 66 false)) (by kernel_rfl) (by kernel_rfl) ?_
        simp only [pickAt_nil, pickAt_cons, List.getElem?_cons_zero, List.getElem?_cons_succ, Option.toList_some, List.cons_append, List.nil_append]
        go_wp2_with fail
        refine (HSQ.out _).mono ?_; rintro e w10 ⟨v10, rfl, hi10, hk10⟩
        have hs2 := HSS.out _ _ hi10
        obtain ⟨p10, c10, rfl⟩ := ints_formB hi10
        rw [hsl] at hs2 ⊢
        obtain ⟨hs3, _, _⟩ := HSC.out w10 (by (repeat (first | exact Kp.refl _ _ | assumption | refine Kp.drew ?_ | refine Kp.drewN ?_ _ | refine Kp.alloc ?_ _ | (refine Kp.setCell ?_ (by first | (left; simp; done) | (right; simp; try omega)) _) | (refine Kp.trans' ?_ (by assumption) (by simp; try omega)))))
        go_wp2_with fail
        refine QF.intro ?_
        exact HM.out p10 c10 w10 (by (repeat (first | exact Kp.refl _ _ | assumption | refine Kp.drew ?_ | refine Kp.drewN ?_ _ | refine Kp.alloc ?_ _ | (refine Kp.setCell ?_ (by first | (left; simp; done) | (right; simp; try omega)) _) | (refine Kp.trans' ?_ (by assumption) (by simp; try omega)))))
      · simp only [pickAt_nil, pickAt_cons, List.getElem?_cons_zero, List.getElem?_cons_succ, Option.toList_some, List.cons_append, List.nil_append]
        go_wp2_with fail
        refine (HSQ.out _).mono ?_; rintro e w10 ⟨v10, rfl, hi10, hk10⟩
        have hs2 := HSS.out _ _ hi10
        obtain ⟨p10, c10, rfl⟩ := ints_formB hi10
        rw [hsl] at hs2 ⊢
        obtain ⟨hs3, _, _⟩ := HSC.out w10 (by (repeat (first | exact Kp.refl _ _ | assumption | refine Kp.drew ?_ | refine Kp.drewN ?_ _ | refine Kp.alloc ?_ _ | (refine Kp.setCell ?_ (by first | (left; simp; done) | (right; simp; try omega)) _) | (refine Kp.trans' ?_ (by assumption) (by simp; try omega)))))
        go_wp2_with fail
        refine QF.intro ?_
        refine any_branch2 41 43 (by kernel_rfl) ?_ ?_
        · simp only [pickAt_nil, pickAt_cons, List.getElem?_cons_zero, List.getElem?_cons_succ, Option.toList_some, List.cons_append, List.nil_append]
          go_wp2_with fail
          refine QF.intro ?_
          refine any_stretch 22 [43] (markI [0, 1, 2, 3, 4, 5, 6, 7, 8, 9, 10, 11, 12, 13, 14, 15, 16, 17, 18, 19, 20, 21, 22, 23, 24, 25, 26, 27, 28, 29, 30, 31, 32, 33, 34, 35, 36, 37, 38, 39, 40, 41, 42, 43] (Array.replicate 66 false)) (by kernel_rfl) (by kernel_rfl) ?_
          simp only [pickAt_nil, pickAt_cons, List.getElem?_cons_zero, List.getElem?_cons_succ, Option.toList_some, List.cons_append, List.nil_append]
          go_wp2_with fail
          refine QF.intro ?_
          exact HM.out p10 c10 w10 (by (repeat (first | exact Kp.refl _ _ | assumption | refine Kp.drew ?_ | refine Kp.drewN ?_ _ | refine Kp.alloc ?_ _ | (refine Kp.setCell ?_ (by first | (left; simp; done) | (right; simp; try omega)) _) | (refine Kp.trans' ?_ (by assumption) (by simp; try omega)))))
        · simp only [pickAt_nil, pickAt_cons, List.getElem?_cons_zero, List.getElem?_cons_succ, Option.toList_some, List.cons_append, List.nil_append]
          go_wp2_with fail
          refine QF.intro ?_
          refine any_stretch 22 [41] (markI [0, 1, 2, 3, 4, 5, 6, 7, 8, 9, 10, 11, 12, 13, 14, 15, 16, 17, 18, 19, 20, 21, 22, 23, 24, 25, 26, 27, 28, 29, 30, 31, 32, 33, 34, 35, 36, 37, 38, 39, 40, 41, 42, 43] (Array.replicate 66 false)) (by kernel_rfl) (by kernel_rfl) ?_
          simp only [pickAt_nil, pickAt_cons, List.getElem?_cons_zero, List.getElem?_cons_succ, Option.toList_some, List.cons_append, List.nil_append]
          go_wp2_with fail
          refine QF.intro ?_
          exact HM.out p10 c10 w10 (by (repeat (first | exact Kp.refl _ _ | assumption | refine Kp.drew ?_ | refine Kp.drewN ?_ _ | refine Kp.alloc ?_ _ | (refine Kp.setCell ?_ (by first | (left; simp; done) | (right; simp; try omega)) _) | (refine Kp.trans' ?_ (by assumption) (by simp; try omega)))))
    · simp only [pickAt_nil, pickAt_cons, List.getElem?_cons_zero, List.getElem?_cons_succ, Option.toList_some, List.cons_append, List.nil_append]
      go_wp2_with fail
      refine (HSQ.out _).mono ?_; rintro e w10 ⟨v10, rfl, hi10, hk10⟩
      have hs2 := HSS.out _ _ hi10
      obtain ⟨p10, c10, rfl⟩ := ints_formB hi10
      rw [hsl] at hs2 ⊢
      obtain ⟨hs3, _, _⟩ := HSC.out w10 (by (repeat (first | exact Kp.refl _ _ | assumption | refine Kp.drew ?_ | refine Kp.drewN ?_ _ | refine Kp.alloc ?_ _ | (refine Kp.setCell ?_ (by first | (left; simp; done) | (right; simp; try omega)) _) | (refine Kp.trans' ?_ (by assumption) (by simp; try omega)))))
      go_wp2_with fail
      refine QF.intro ?_
      refine any_branch2 40 43 (by kernel_rfl) ?_ ?_
      · simp only [pickAt_nil, pickAt_cons, List.getElem?_cons_zero, List.getElem?_cons_succ, Option.toList_some, List.cons_append, List.nil_append]
        go_wp2_with fail
        refine QF.intro ?_
        refine any_branch2 41 43 (by kernel_rfl) ?_ ?_
        · simp only [pickAt_nil, pickAt_cons, List.getElem?_cons_zero, List.getElem?_cons_succ, Option.toList_some, List.cons_append, List.nil_append]
          go_wp2_with fail
          refine QF.intro ?_
          refine any_stretch 22 [43] (markI [0, 1, 2, 3, 4, 5, 6, 7, 8, 9, 10, 11, 12, 13, 14, 15, 16, 17, 18, 19, 20, 21, 22, 23, 24, 25, 26, 27, 28, 29, 30, 31, 32, 33, 34, 35, 36, 37, 38, 39, 40, 41, 42, 43] (Array.replicate 66 false)) (by kernel_rfl) (by kernel_rfl) ?_
          simp only [pickAt_nil, pickAt_cons, List.getElem?_cons_zero, List.getElem?_cons_succ, Option.toList_some, List.cons_append, List.nil_append]
          go_wp2_with fail
          refine QF.intro ?_
          exact HM.out p10 c10 w10 (by (repeat (first | exact Kp.refl _ _ | assumption | refine Kp.drew ?_ | refine Kp.drewN ?_ _ | refine Kp.alloc ?_ _ | (refine Kp.setCell ?_ (by first | (left; simp; done) | (right; simp; try omega)) _) | (refine Kp.trans' ?_ (by assumption) (by simp; try omega)))))
        · simp only [pickAt_nil, pickAt_cons, List.getElem?_cons_zero, List.getElem?_cons_succ, Option.toList_some, List.cons_append, List.nil_append]
          go_wp2_with fail
          refine QF.intro ?_
          refine any_stretch 22 [41] (markI [0, 1, 2, 3, 4, 5, 6, 7, 8, 9, 10, 11, 12, 13, 14, 15, 16, 17, 18, 19, 20, 21, 22, 23, 24, 25, 26, 27, 28, 29, 30, 31, 32, 33, 34, 35, 36, 37, 38, 39, 40, 41, 42, 43] (Array.replicate 66 false)) (by kernel_rfl) (by kernel_rfl) ?_
          simp only [pickAt_nil, pickAt_cons, List.getElem?_cons_zero, List.getElem?_cons_succ, Option.toList_some, List.cons_append, List.nil_append]
          go_wp2_with fail
          refine QF.intro ?_
          exact HM.out p10 c10 w10 (by (repeat (first | exact Kp.refl _ _ | assumption | refine Kp.drew ?_ | refine Kp.drewN ?_ _ | refine Kp.alloc ?_ _ | (refine Kp.setCell ?_ (by first | (left; simp; done) | (right; simp; try omega)) _) | (refine Kp.trans' ?_ (by assumption) (by simp; try omega)))))
      · simp only [pickAt_nil, pickAt_cons, List.getElem?_cons_zero, List.getElem?_cons_succ, Option.toList_some, List.cons_append, List.nil_append]
        go_wp2_with fail
        refine QF.intro ?_
        refine any_stretch 22 [40, 41] (markI [0, 1, 2, 3, 4, 5, 6, 7, 8, 9, 10, 11, 12, 13, 14, 15, 16, 17, 18, 19, 20, 21, 22, 23, 24, 25, 26, 27, 28, 29, 30, 31, 32, 33, 34, 35, 36, 37, 38, 39, 40, 41, 42, 43] (Array.replicate 66 false)) (by kernel_rfl) (by kernel_rfl) ?_
        simp only [pickAt_nil, pickAt_cons, List.getElem?_cons_zero, List.getElem?_cons_succ, Option.toList_some, List.cons_append, List.nil_append]
        go_wp2_with fail
        refine QF.intro ?_
        exact HM.out p10 c10 w10 (by (repeat (first | exact Kp.refl _ _ | assumption | refine Kp.drew ?_ | refine Kp.drewN ?_ _ | refine Kp.alloc ?_ _ | (refine Kp.setCell ?_ (by first | (left; simp; done) | (right; simp; try omega)) _) | (refine Kp.trans' ?_ (by assumption) (by simp; try omega)))))
  case h =>
    intro p10 c10 w10 hk10
    dsimp only
    refine any_last (tl := [44, 45, 46, 47, 48, 49, 50, 51, 52, 53, 54, 55, 56, 57, 58, 59, 60, 61, 62, 63, 64, 65]) (by kernel_rfl) ?_
    simp only [pickAt_nil, pickAt_cons, List.getElem?_cons_zero, List.getElem?_cons_succ, Option.toList_some, List.cons_append, List.nil_append]
    go_wp2_with fail
    refine (HLN.out _ _ _ (HT9.out.kp0 hk10)).mono ?_; rintro e w11 ⟨rfl, hk11⟩
    go_wp2_with fail
    refine wpList_nil ?_
    go_wp2_with fail
    go_ret
    exact ⟨by simp, by (repeat (first | exact Kp.refl _ _ | assumption | refine Kp.drew ?_ | refine Kp.drewN ?_ _ | refine Kp.alloc ?_ _ | (refine Kp.setCell ?_ (by first | (left; simp; done) | (right; simp; try omega)) _) | (refine Kp.trans' ?_ (by assumption) (by simp; try omega))))⟩
end Go.Proofs.YtafkhnlmipddmaaGreat

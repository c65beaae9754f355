/- outline: square, Curves' closure, lives. -/
import Derived.Test.YtodjohoonbkklaaOvF
namespace Go.Proofs.Ytodjohoonbkklaa
open Go.RowKit
set_option linter.unusedVariables false
set_option linter.unusedSimpArgs false
theorem ocurves_calls (p : Option Addr) (n c : Nat) (w : World) : Calls Try.prog 37 #[.slice p n c] w fun e w' => e = .returned (.func (.func 86) #[] #[.pointer (some ⟨w.heap.size, 0, none⟩)]) ∧ w' = w.alloc (.cells #[.slice p n c] 42) := by
  go_enter Try.func37, Try.ntmps37
  go_wp2_with fail
  go_ret
  exact ⟨rfl, rfl⟩
def sqC : List Pn := [⟨0, 0, 2⟩, ⟨4, 0, 2⟩, ⟨4, 4, 2⟩, ⟨0, 4, 2⟩]
def sqO : List (List Pn) := [sqC]
theorem psLit {w W : World} {l : List Pn} {n : Nat} (hn : l.length = n) (hm : n ≤ maxLen) (hk : Kp [] (w.alloc (.cells (psCells l).toArray 61)) W) : IsPs W (.slice (some ⟨w.heap.size, 0, none⟩) n n) l := by
  subst hn
  exact IsPs.kp0 (Reads.made w w.heap.size 3 l.length (psCells l) 61 rfl (psCells_length l) hm) hk
theorem outLit {w W : World} {v : Value} {c : List Pn} (hk : Kp [] (w.alloc (.cells #[v] 96)) W) (hc : IsPs W v c) : IsOut W (.slice (some ⟨w.heap.size, 0, none⟩) 1 1) [c] :=
  ⟨[v], Reads.kp (Reads.made w w.heap.size 1 1 [v] 96 rfl rfl (by decide)) hk (by simp), fun i hi => by
    obtain rfl : i = 0 := by simpa using hi
    exact hc⟩
theorem square_calls (w : World) : Calls Try.prog 75 #[] w fun e w' => ∃ v, e = .returned v ∧ IsOut w' v sqO ∧ Kp [] w w' := by
  go_enter Try.func75, Try.ntmps75
  go_wp2_with fail
  go_ret
  refine ⟨_, rfl, ?_, by (repeat (first | exact Kp.refl _ _ | assumption | refine Kp.drew ?_ | refine Kp.drewN ?_ _ | refine Kp.alloc ?_ _ | (refine Kp.setCell ?_ (by first | (left; simp; done) | (right; simp; try omega)) _) | (refine Kp.trans' ?_ (by assumption) (by simp; try omega))))⟩
  have h := outLit (w := w.alloc (.cells (psCells sqC).toArray 61)) (c := sqC) (Kp.refl [] _) (psLit (w := w) (n := 4) rfl (by decide) ((Kp.refl [] _).alloc (.cells #[.slice (some ⟨w.heap.size, 0, none⟩) 4 4] 96)))
  simpa [psCells, sqC, pnCells, sqO] using h
def expS : List (List Pn) := [[⟨0, 2, 1⟩, ⟨0, 0, 2⟩, ⟨2, 0, 1⟩, ⟨4, 0, 2⟩, ⟨4, 2, 1⟩, ⟨4, 4, 2⟩, ⟨2, 4, 1⟩, ⟨0, 4, 2⟩]]
def mvS : List (List Pn) := [[⟨1, 2, 2⟩, ⟨5, 2, 2⟩, ⟨5, 6, 2⟩, ⟨1, 6, 2⟩]]
theorem sq_check : checkO sqO = 0 := by decide
theorem sq_exp : expO sqO = expS := by decide
theorem sq_hull : hullO sqO = ⟨0, 0, 4, 4⟩ := by decide
theorem sq_mv : sqO.map (List.map mv1) = mvS := by decide
theorem sq_join : joinM sqO sqO = (sqO ++ sqO, 0) := by decide
theorem empty_check : checkO [[]] = 101 := by decide
theorem two_cnt : cnt (sqO ++ sqO) = 8 := by decide
theorem eql_seq (f : Fn) (g : Array Value) (cs : Array Value) (w : World) : (binOp .eql 56 (.func f g cs) .nilFunc).run Try.prog w = .ok (.bool false) w := by
  kernel_rfl
set_option maxRecDepth 100000 in
set_option maxHeartbeats 4000000 in
theorem lives10_calls (w : World) : Calls Try.prog 26 #[] w fun e w' => e = .returned (.bool true) ∧ Kp [] w w' := by
  have hef := eql_seq (.func 86) #[]
  go_enter Try.func26, Try.ntmps26
  go_wp2_with fail
  refine (square_calls _).mono ?_; rintro e w1 ⟨v1, rfl, ho1, hk1⟩
  obtain ⟨p1, c1, rfl⟩ := ho1.form
  have HO : Hid (∀ W, Kp [] w1 W → IsOut W (.slice p1 1 c1) sqO) := fun W hW => ho1.kp0 hW
  have HK1 := Lib.hid hk1
  simp only [show sqO.length = 1 from rfl] at *
  clear ho1 hk1
  go_wp2_with fail
  refine (oexplicit_ok _ _ _ (HO.out _ (Kp.refl _ _)) sq_check).mono ?_; rintro e w2 ⟨v2, rfl, hw2, hk2⟩
  have ho2 := hw2.out
  rw [sq_exp] at ho2
  obtain ⟨p2, c2, rfl⟩ := ho2.form
  have HE : Hid (∀ W, Kp [] w2 W → IsOut W (.slice p2 1 c2) expS) := fun W hW => ho2.kp0 hW
  have HK2 := Lib.hid hk2
  simp only [show expS.length = 1 from rfl] at *
  clear ho2 hw2 hk2
  go_wp2_with fail
  refine (ohull_ok _ _ _ (HO.out _ HK2.out) sq_check).mono ?_; rintro e w3 ⟨rfl, hk3⟩
  rw [sq_hull, show bxV ⟨0, 0, 4, 4⟩ = .agg #[.int .i64 0, .int .i64 0, .int .i64 4, .int .i64 4] from rfl]
  have HK3 : Hid (Kp [] w2 w3) := hk3
  clear hk3
  go_wp2_with fail
  refine (oapply_one _ _ _ (HO.out _ (HK2.out.trans (HK3.out.trans (by (repeat (first | exact Kp.refl _ _ | assumption | refine Kp.drew ?_ | refine Kp.drewN ?_ _ | refine Kp.alloc ?_ _ | (refine Kp.setCell ?_ (by first | (left; simp; done) | (right; simp; try omega)) _) | (refine Kp.trans' ?_ (by assumption) (by simp; try omega)))))))) sq_check (by
    intro j hj
    obtain rfl : j = 0 := by simpa [sqO] using hj
    intro i hi
    have hi4 : i < 4 := hi
    obtain rfl | rfl | rfl | rfl : i = 0 ∨ i = 1 ∨ i = 2 ∨ i = 3 := by omega
    all_goals decide)).mono ?_; rintro e w4 ⟨v4, rfl, ho4, hk4⟩
  rw [sq_mv] at ho4
  obtain ⟨p4, c4, rfl⟩ := ho4.form
  have HM : Hid (∀ W, Kp [] w4 W → IsOut W (.slice p4 1 c4) mvS) := fun W hW => ho4.kp0 hW
  have HK4 : Hid (Kp [] w1 w4) := HK2.out.trans (HK3.out.trans (Kp.trans (by (repeat (first | exact Kp.refl _ _ | assumption | refine Kp.drew ?_ | refine Kp.drewN ?_ _ | refine Kp.alloc ?_ _ | (refine Kp.setCell ?_ (by first | (left; simp; done) | (right; simp; try omega)) _) | (refine Kp.trans' ?_ (by assumption) (by simp; try omega))))) hk4))
  have HK24 : Hid (Kp [] w2 w4) := HK3.out.trans (Kp.trans (by (repeat (first | exact Kp.refl _ _ | assumption | refine Kp.drew ?_ | refine Kp.drewN ?_ _ | refine Kp.alloc ?_ _ | (refine Kp.setCell ?_ (by first | (left; simp; done) | (right; simp; try omega)) _) | (refine Kp.trans' ?_ (by assumption) (by simp; try omega))))) hk4)
  have HB : Hid (BxAt w4 w3.heap.size ⟨0, 0, 4, 4⟩) := hk4.heap (heap_alloc_new w3 _) (by simp)
  simp only [show mvS.length = 1 from rfl] at *
  clear ho4 hk4 HK2 HK3
  have hfew : fewO sqO := ⟨by decide, fun j hj => by
    obtain rfl : j = 0 := by simpa [sqO] using hj
    decide⟩
  go_wp2_with fail
  refine (join_calls _ _ sqO sqO _ (HO.out _ HK4.out) (HO.out _ HK4.out) hfew hfew (by decide) (by decide)).mono ?_; rintro e w5 ⟨v5, rfl, ho5, hk5⟩
  rw [sq_join] at ho5
  rw [show (joinM sqO sqO).2 = 0 by rw [sq_join]]
  obtain ⟨p5, c5, rfl⟩ := ho5.form
  have HJ : Hid (∀ W, Kp [] w5 W → IsOut W (.slice p5 2 c5) (sqO ++ sqO)) := fun W hW => ho5.kp0 hW
  have HK5 : Hid (Kp [] w4 w5) := hk5
  simp only [show (sqO ++ sqO).length = 2 from rfl] at *
  clear ho5 hk5 hfew
  go_wp2_with fail
  refine (ocurves_calls _ _ _ _).mono ?_; rintro e w6 ⟨rfl, hw6⟩
  have HK56 : Hid (Kp [] w5 w6) := by show Kp _ _ _; rw [hw6]; (repeat (first | exact Kp.refl _ _ | assumption | refine Kp.drew ?_ | refine Kp.drewN ?_ _ | refine Kp.alloc ?_ _ | (refine Kp.setCell ?_ (by first | (left; simp; done) | (right; simp; try omega)) _) | (refine Kp.trans' ?_ (by assumption) (by simp; try omega))))
  have HK46 : Hid (Kp [] w4 w6) := HK5.out.trans HK56.out
  clear hw6 HK5
  obtain ⟨ge, oe, ce, pe, cve, ee, _, _, he1, hpe⟩ := (HE.out w6 (HK24.out.trans HK46.out)).row (i := 0) (by decide)
  cases ee
  obtain ⟨ge2, oe2, ce2, ee2, _, _, xe, ye, ke⟩ := hpe.row (i := 0) (by decide)
  cases ee2
  obtain ⟨gm, om, cm, pm, cvm, em, _, _, hm1, hpm⟩ := (HM.out w6 HK46.out).row (i := 0) (by decide)
  cases em
  obtain ⟨gm2, om2, cm2, em2, _, _, xm, ym, km⟩ := hpm.row (i := 1) (by decide)
  cases em2
  obtain ⟨b0, b1, b2, b3⟩ := (HB.out.kp HK46.out (by simp)).cells
  simp only [Nat.add_zero, Nat.zero_mul, Nat.one_mul, show (expS.getD 0 []).length = 8 from rfl, show (mvS.getD 0 []).length = 4 from rfl, show (expS.getD 0 []).getD 0 pn0 = ⟨0, 2, 1⟩ from rfl, show (mvS.getD 0 []).getD 1 pn0 = ⟨5, 2, 2⟩ from rfl] at he1 xe ye ke hm1 xm ym km
  clear hpe hpm
  go_wp2_with fail
  refine (check_calls _ sqO _ (HO.out _ (HK4.out.trans HK46.out)) (fun j hj => by
    obtain rfl : j = 0 := by simpa [sqO] using hj
    decide) (by decide)).mono ?_; rintro e w7 ⟨rfl, hk7⟩
  rw [sq_check]
  have HK7 : Hid (Kp [] w6 w7) := hk7
  clear hk7 he1 xe ye ke hm1 xm ym km b0 b1 b2 b3
  go_wp2_with fail
  have hlit : IsOut ((w7.alloc (.cells #[] 61)).alloc (.cells #[.slice (some ⟨w7.heap.size, 0, none⟩) 0 0] 96)) (.slice (some ⟨w7.heap.size + 1, 0, none⟩) 1 1) [[]] := by
    have h := outLit (w := w7.alloc (.cells #[] 61)) (v := .slice (some ⟨w7.heap.size, 0, none⟩) 0 0) (c := []) (Kp.refl [] _) (IsPs.nil _ _)
    simpa using h
  refine (check_calls _ [[]] _ hlit (fun j hj => by
    obtain rfl : j = 0 := by simpa using hj
    decide) (by decide)).mono ?_; rintro e w8 ⟨rfl, hk8⟩
  rw [empty_check]
  have HK8 : Hid (Kp [] w7 w8) := Kp.trans (by (repeat (first | exact Kp.refl _ _ | assumption | refine Kp.drew ?_ | refine Kp.drewN ?_ _ | refine Kp.alloc ?_ _ | (refine Kp.setCell ?_ (by first | (left; simp; done) | (right; simp; try omega)) _) | (refine Kp.trans' ?_ (by assumption) (by simp; try omega))))) hk8
  have HK58 : Hid (Kp [] w5 w8) := HK56.out.trans (HK7.out.trans HK8.out)
  have HK48 : Hid (Kp [] w4 w8) := HK46.out.trans (HK7.out.trans HK8.out)
  have HK18 : Hid (Kp [] w1 w8) := HK4.out.trans HK48.out
  clear hk8 hlit HK7 HK8 HK46 HK56 hef HB
  go_wp2_with fail
  refine (ccount_calls _ (sqO ++ sqO) _ (HJ.out _ HK58.out) (by decide)).mono ?_; rintro e w9 ⟨rfl, rfl⟩
  rw [two_cnt]
  go_wp2_with fail
  refine (square_calls _).mono ?_; rintro e w10 ⟨v10, rfl, ho10, hk10⟩
  have HK10 : Hid (Kp [] w8 w10) := hk10
  have HO10 := Lib.hid ho10
  obtain ⟨p10, c10, rfl⟩ := ho10.form
  simp only [show sqO.length = 1 from rfl] at *
  clear ho10 hk10
  go_wp2_with fail
  refine (osame_calls _ _ sqO sqO _ (HO.out _ (HK18.out.trans HK10.out)) HO10.out).mono ?_; rintro e w11 ⟨rfl, hk11⟩
  have HK11 : Hid (Kp [] w8 w11) := HK10.out.trans hk11
  rw [decide_eq_true (rfl : sqO = sqO)]
  clear hk11 HK10 HO10
  go_wp2_with fail
  refine (osame_calls _ _ sqO (sqO ++ sqO) _ (HO.out _ (HK18.out.trans HK11.out)) (HJ.out _ (HK58.out.trans HK11.out))).mono ?_; rintro e w12 ⟨rfl, hk12⟩
  have HK12 : Hid (Kp [] w8 w12) := HK11.out.trans hk12
  rw [show decide (sqO = sqO ++ sqO) = false by decide]
  clear hk12 HK11
  go_wp2_with fail
  refine (oreverse_calls _ sqO _ (HO.out _ (HK18.out.trans HK12.out)) ⟨by decide, fun j hj => by
    obtain rfl : j = 0 := by simpa [sqO] using hj
    decide⟩).mono ?_; rintro e w13 ⟨v13, rfl, ho13, hk13⟩
  obtain ⟨p13, c13, rfl⟩ := ho13.form
  have HK13 : Hid (Kp [] w w13) := HK1.out.trans (HK18.out.trans (HK12.out.trans hk13))
  simp only [show (sqO.map revP).length = 1 from rfl] at *
  clear ho13 hk13
  go_wp2_with fail
  go_ret
  exact ⟨rfl, HK13.out⟩
end Go.Proofs.Ytodjohoonbkklaa

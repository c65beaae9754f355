/- flatten: what must come of every program. -/
import Derived.Test.YtpbmefojhgcniaaFmF
import Derived.BigQuiet
import Derived.Deep.DeepCutAuto
namespace Go.Proofs.Ytpbmefojhgcniaa
open Go.RowKit
set_option linter.unusedVariables false
set_option linter.unusedSimpArgs false
theorem psLitF {w W : World} {l : List Pn} {n : Nat} (hn : l.length = n) (hm : n ≤ maxLen) (hk : Kp [] (w.alloc (.cells (psCells l).toArray 25)) W) : IsPs W (.slice (some ⟨w.heap.size, 0, none⟩) n n) l := by
  subst hn
  exact IsPs.kp0 (Reads.made w w.heap.size 3 l.length (psCells l) 25 rfl (psCells_length l) hm) hk
theorem outLitF {w W : World} {v : Value} {c : List Pn} (hk : Kp [] (w.alloc (.cells #[v] 56)) W) (hc : IsPs W v c) : IsOut W (.slice (some ⟨w.heap.size, 0, none⟩) 1 1) [c] :=
  ⟨[v], Reads.kp (Reads.made w w.heap.size 1 1 [v] 56 rfl rfl (by decide)) hk (by simp), fun i hi => by
    obtain rfl : i = 0 := by simpa using hi
    exact hc⟩
def liC : List Pn := [⟨0, 0, 1⟩, ⟨6553600, 0, 1⟩, ⟨6553600, 6553600, 1⟩]
def liO : List (List Pn) := [liC]
def liS : Sc := ⟨1000, 10, 0, 0⟩
def liL : List (List (Int × Int)) := [[(64, 0), (64, -64), (0, 0)]]
def liM : List (List (Int × Int)) := [[(128, 0), (128, -64), (64, 0)]]
theorem li_flat : flatM liS liO = (liL, 0) := by decide
theorem li_dot : dotS liS ⟨32768000, 65536000, 1⟩ = ((320, -640), 0) := by decide
theorem li_no : dotS ⟨0, 0, 0, 0⟩ ⟨0, 0, 0⟩ = ((0, 0), 210) := by decide
theorem li_may : mayF liL = 0 := by decide
theorem li_box : boxF liL = (⟨0, -1, 1, 0⟩, 0) := by decide
theorem li_move : moveF liL 64 0 = (liM, 0) := by decide
theorem li_area : areaF liL = (-4096, 0) := by decide
theorem li_adv : advS liS 500 = (320, 0) := by decide
theorem li_sm : smF liL := fun j hj => by
  obtain rfl : j = 0 := by simpa [liL] using hj
  decide
theorem li_smO : smallO liO := fun j hj => by
  obtain rfl : j = 0 := by simpa [liO] using hj
  decide
set_option maxRecDepth 100000 in
set_option maxHeartbeats 8000000 in
theorem lives21_calls (w : World) : Calls Try.prog 10 #[] w fun e w' => e = .returned (.bool true) ∧ Kp [] w w' := by
  go_enter Try.func10, Try.ntmps10
  go_wp2_with fail
  refine (lscale_calls _).mono ?_; rintro e w1 ⟨rfl, hk1⟩
  have HK1 := Lib.hid hk1
  clear hk1
  go_wp2_with fail
  refine (fdot_calls liS ⟨32768000, 65536000, 1⟩ _).mono ?_; rintro e w2 ⟨rfl, hk2⟩
  rw [li_dot, show dotV (320, -640) = .agg #[.int .i64 320, .int .i64 (-640)] from rfl]
  have HK2 : Hid (Kp [] w w2) := HK1.out.trans hk2
  clear hk2 HK1
  go_upto_region 2 with fail
  refine wp_gen ?_; intro W2 hW2
  obtain ⟨B1, hB1⟩ : ∃ B, w2.heap.size = B := ⟨_, rfl⟩
  have HD1 : Hid (DtAt W2 B1 320 (-640)) := by show DtAt _ _ _ _; rw [hW2, ← hB1]; exact heap_alloc_new _ _
  replace HK2 : Hid (Kp [] w W2) := by show Kp _ _ _; rw [hW2]; exact HK2.out.alloc _
  rw [hB1]
  clear hB1 hW2
  go_wp2_with fail
  refine (lscale_calls _).mono ?_; rintro e w3 ⟨rfl, hk3⟩
  have HK3 : Hid (Kp [] w w3) := HK2.out.trans (Kp.trans (by (repeat (first | exact Kp.refl _ _ | assumption | refine Kp.drew ?_ | refine Kp.drewN ?_ _ | refine Kp.alloc ?_ _ | (refine Kp.setCell ?_ (by first | (left; simp; done) | (right; simp; try omega)) _) | (refine Kp.trans' ?_ (by assumption) (by simp; try omega))))) hk3)
  have HD3 : Hid (DtAt w3 B1 320 (-640)) := HD1.out.kp0 (Kp.trans (by (repeat (first | exact Kp.refl _ _ | assumption | refine Kp.drew ?_ | refine Kp.drewN ?_ _ | refine Kp.alloc ?_ _ | (refine Kp.setCell ?_ (by first | (left; simp; done) | (right; simp; try omega)) _) | (refine Kp.trans' ?_ (by assumption) (by simp; try omega))))) hk3)
  have HO3 : Hid (IsOut w3 (.slice (some ⟨W2.heap.size + 1, 0, none⟩) 1 1) liO) := by
    have hk4 : Kp [] (W2.alloc (.cells (psCells liC).toArray 25)) w3 := Kp.trans ((Kp.refl _ _).alloc _) hk3
    have h := outLitF (w := W2.alloc (.cells (psCells liC).toArray 25)) (c := liC) hk3 (psLitF (w := W2) (n := 3) rfl (by decide) hk4)
    show IsOut _ _ _
    simpa [liO] using h
  clear hk3 HK2 HD1
  go_wp2_with fail
  refine (fflat_calls liS _ liO _ HO3.out li_smO (by decide)).mono ?_; rintro e w4 ⟨v4, rfl, hf4, hk4⟩
  rw [li_flat] at hf4 ⊢
  dsimp only at hf4 ⊢
  obtain ⟨p4, c4, rfl⟩ := hf4.form
  simp only [show liL.length = 1 from rfl] at *
  have HK4 : Hid (Kp [] w w4) := HK3.out.trans hk4
  have HD4 : Hid (DtAt w4 B1 320 (-640)) := HD3.out.kp0 hk4
  have HL : Hid (∀ W, Kp [] w4 W → IsFl W (.slice p4 1 c4) liL) := fun W hW => hf4.kp0 hW
  clear hk4 hf4 HK3 HD3 HO3
  go_wp2_with fail
  refine (fbox_calls _ liL _ (HL.out _ (Kp.refl _ _)) li_sm).mono ?_; rintro e w5 ⟨rfl, hk5⟩
  rw [li_box, show bxV ⟨0, -1, 1, 0⟩ = .agg #[.int .i64 0, .int .i64 (-1), .int .i64 1, .int .i64 0] from rfl]
  have HK5 := Lib.hid hk5
  clear hk5
  go_upto_region 5 with fail
  refine wp_gen ?_; intro W5 hW5
  obtain ⟨B2, hB2⟩ : ∃ B, w5.heap.size = B := ⟨_, rfl⟩
  have HB5 : Hid (BxAt W5 B2 ⟨0, -1, 1, 0⟩) := by show BxAt _ _ _; rw [hW5, ← hB2]; exact heap_alloc_new _ _
  replace HK5 : Hid (Kp [] w4 W5) := by show Kp _ _ _; rw [hW5]; exact HK5.out.alloc _
  rw [hB2]
  clear hB2 hW5
  go_wp2_with fail
  refine (fmove_calls _ liL 64 0 _ (HL.out _ HK5.out) li_sm (by decide)).mono ?_; rintro e w6 ⟨v6, rfl, hf6, hk6⟩
  rw [li_move] at hf6 ⊢
  dsimp only at hf6 ⊢
  obtain ⟨p6, c6, rfl⟩ := hf6.form
  simp only [show liM.length = 1 from rfl] at *
  have HK6 : Hid (Kp [] w4 w6) := HK5.out.trans hk6
  have HB6 : Hid (BxAt w6 B2 ⟨0, -1, 1, 0⟩) := HB5.out.kp hk6 (by simp)
  have HM : Hid (∀ W, Kp [] w6 W → IsFl W (.slice p6 1 c6) liM) := fun W hW => hf6.kp0 hW
  clear hk6 hf6 HK5 HB5
  go_wp2_with fail
  refine (farea_calls _ liL _ (HL.out _ HK6.out) li_sm).mono ?_; rintro e w7 ⟨rfl, hk7⟩
  rw [li_area]
  have HK7 : Hid (Kp [] w4 w7) := HK6.out.trans hk7
  have HK67 : Hid (Kp [] w6 w7) := hk7
  clear hk7 HK6
  go_wp2_with fail
  refine (lscale_calls _).mono ?_; rintro e w8 ⟨rfl, hk8⟩
  have HK8 : Hid (Kp [] w4 w8) := HK7.out.trans hk8
  have HK68 : Hid (Kp [] w6 w8) := HK67.out.trans hk8
  clear hk8 HK7 HK67
  go_wp2_with fail
  refine (fadv_calls liS 500 _).mono ?_; rintro e w9 ⟨rfl, hk9⟩
  rw [li_adv]
  have HK9 : Hid (Kp [] w4 w9) := HK8.out.trans hk9
  have HK69 : Hid (Kp [] w6 w9) := HK68.out.trans hk9
  clear hk9 HK8 HK68
  go_wp2_with fail
  refine (fdot_calls ⟨0, 0, 0, 0⟩ ⟨0, 0, 0⟩ _).mono ?_; rintro e w10 ⟨rfl, hk10⟩
  rw [li_no, show dotV (0, 0) = .agg #[.int .i64 0, .int .i64 0] from rfl]
  have hka : Kp [] w9 (w10.alloc (.cells #[.int .i64 0, .int .i64 0] 27)) := hk10.alloc _
  obtain ⟨d0, d1, _, _⟩ := (HD4.out.kp0 (HK9.out.trans hka)).cells
  obtain ⟨b0, b1, b2, b3⟩ := (HB6.out.kp (HK69.out.trans hka) (by simp)).cells
  obtain ⟨gl, ol, cl, pl, cvl, el, _, _, hl1, hpl⟩ := (HL.out _ (HK9.out.trans hka)).row (i := 0) (by decide)
  cases el
  obtain ⟨gl2, ol2, cl2, el2, _, _, xl, yl⟩ := hpl.row (i := 0) (by decide)
  cases el2
  obtain ⟨gm, om, cm, pm, cvm, em, _, _, hm1, hpm⟩ := (HM.out _ (HK69.out.trans hka)).row (i := 0) (by decide)
  cases em
  obtain ⟨gm2, om2, cm2, em2, _, _, xm, ym⟩ := hpm.row (i := 0) (by decide)
  cases em2
  simp only [Nat.add_zero, Nat.zero_mul, show (liL.getD 0 []).length = 3 from rfl, show (liM.getD 0 []).length = 3 from rfl, show (liL.getD 0 []).getD 0 (0, 0) = (64, 0) from rfl, show (liM.getD 0 []).getD 0 (0, 0) = (128, 0) from rfl] at hl1 xl yl hm1 xm ym
  have HKA := Lib.hid (HK9.out.trans hka)
  have HKF : Hid (Kp [] w (w10.alloc (.cells #[.int .i64 0, .int .i64 0] 27))) := HK4.out.trans HKA.out
  have HMY := Lib.hid (fmay_flat _ liL _ (HL.out _ HKA.out) li_sm)
  rw [li_may] at HMY
  clear hpl hpm hk10 hka
  go_wp2_with fail
  refine HMY.out.mono ?_; rintro e w11 ⟨rfl, hk11⟩
  have HK11 : Hid (Kp [] w w11) := HKF.out.trans hk11
  clear hk11 d0 d1 b0 b1 b2 b3 hl1 xl yl hm1 xm ym
  go_wp2_with fail
  go_ret
  exact ⟨rfl, HK11.out⟩
end Go.Proofs.Ytpbmefojhgcniaa

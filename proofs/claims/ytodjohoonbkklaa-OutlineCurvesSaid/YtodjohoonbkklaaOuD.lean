/- outline: mayPoint, mayContour, Check. -/
import Derived.Test.YtodjohoonbkklaaOuC
namespace Go.Proofs.Ytodjohoonbkklaa
open Go.RowKit
set_option linter.unusedVariables false
set_option linter.unusedSimpArgs false
theorem kind_cases (k : Int) : k = 1 ∨ k = 2 ∨ k = 3 ∨ ((k == 1) = false ∧ (k == 2) = false ∧ (k == 3) = false) := by
  by_cases h1 : k = 1
  · exact .inl h1
  · by_cases h2 : k = 2
    · exact .inr (.inl h2)
    · by_cases h3 : k = 3
      · exact .inr (.inr (.inl h3))
      · exact .inr (.inr (.inr ⟨by simp [h1], by simp [h2], by simp [h3]⟩))
set_option maxRecDepth 100000 in
set_option maxHeartbeats 2000000 in
theorem maypn_calls (v : Value) (c : List Pn) (i : Nat) (w : World) (h : IsPs w v c) (hl : c.length ≤ 2305843009213693952) (hi : i < c.length) :
    Calls Try.prog 132 #[v, .int .i64 i] w fun e w' => e = .returned (.bool (mayPn c i)) ∧ Kp [] w w' := by
  have HS := Lib.hid (fun W (hk : Kp [] w W) => stands_calls v c i W (h.kp0 hk) hl (by omega) (by omega))
  obtain ⟨g, off, cp, rfl, _, _, c0, c1, c2⟩ := h.row hi
  have hgl : g < w.heap.size := World.block_lt_of_cell? w _ c0
  have HE : Hid (mayPn c i = (numF (c.getD i pn0).x && (numF (c.getD i pn0).y && ((c.getD i pn0).k == 1 || ((c.getD i pn0).k == 2 || ((c.getD i pn0).k == 3 && standsB c i)))))) := rfl
  rw [HE.out]
  have HX := Lib.hid (fun W => fmay_calls (c.getD i pn0).x W)
  have HY := Lib.hid (fun W => fmay_calls (c.getD i pn0).y W)
  generalize standsB c i = T at *
  generalize c.getD i pn0 = p at *
  obtain ⟨x, y, k⟩ := p
  dsimp only at c0 c1 c2 HX HY ⊢
  generalize numF x = X at *
  generalize numF y = Y at *
  generalize c.length = N at *
  clear HE h
  cases X
  · rw [Bool.false_and]
    go_enter Try.func132, Try.ntmps132
    go_wp2_with fail
    refine (HX.out _).mono ?_; rintro e w1 ⟨rfl, rfl⟩
    go_wp2_with fail
    go_ret
    exact ⟨rfl, by (repeat (first | exact Kp.refl _ _ | assumption | refine Kp.drew ?_ | refine Kp.drewN ?_ _ | refine Kp.alloc ?_ _ | (refine Kp.setCell ?_ (by first | (left; simp; done) | (right; simp; try omega)) _) | (refine Kp.trans' ?_ (by assumption) (by simp; try omega))))⟩
  · rw [Bool.true_and]
    cases Y
    · rw [Bool.false_and]
      go_enter Try.func132, Try.ntmps132
      go_wp2_with fail
      refine (HX.out _).mono ?_; rintro e w1 ⟨rfl, rfl⟩
      go_wp2_with fail
      refine (HY.out _).mono ?_; rintro e w1 ⟨rfl, rfl⟩
      go_wp2_with fail
      go_ret
      exact ⟨rfl, by (repeat (first | exact Kp.refl _ _ | assumption | refine Kp.drew ?_ | refine Kp.drewN ?_ _ | refine Kp.alloc ?_ _ | (refine Kp.setCell ?_ (by first | (left; simp; done) | (right; simp; try omega)) _) | (refine Kp.trans' ?_ (by assumption) (by simp; try omega))))⟩
    · rw [Bool.true_and]
      rcases kind_cases k with rfl | rfl | rfl | ⟨k1, k2, k3⟩
      · go_enter Try.func132, Try.ntmps132
        go_wp2_with fail
        refine (HX.out _).mono ?_; rintro e w1 ⟨rfl, rfl⟩
        go_wp2_with fail
        refine (HY.out _).mono ?_; rintro e w1 ⟨rfl, rfl⟩
        go_wp2_with fail
        go_ret
        exact ⟨rfl, by (repeat (first | exact Kp.refl _ _ | assumption | refine Kp.drew ?_ | refine Kp.drewN ?_ _ | refine Kp.alloc ?_ _ | (refine Kp.setCell ?_ (by first | (left; simp; done) | (right; simp; try omega)) _) | (refine Kp.trans' ?_ (by assumption) (by simp; try omega))))⟩
      · go_enter Try.func132, Try.ntmps132
        go_wp2_with fail
        refine (HX.out _).mono ?_; rintro e w1 ⟨rfl, rfl⟩
        go_wp2_with fail
        refine (HY.out _).mono ?_; rintro e w1 ⟨rfl, rfl⟩
        go_wp2_with fail
        go_ret
        exact ⟨rfl, by (repeat (first | exact Kp.refl _ _ | assumption | refine Kp.drew ?_ | refine Kp.drewN ?_ _ | refine Kp.alloc ?_ _ | (refine Kp.setCell ?_ (by first | (left; simp; done) | (right; simp; try omega)) _) | (refine Kp.trans' ?_ (by assumption) (by simp; try omega))))⟩
      · rw [show ((3 : Int) == 1 || ((3 : Int) == 2 || ((3 : Int) == 3 && T))) = T by cases T <;> rfl]
        go_enter Try.func132, Try.ntmps132
        go_wp2_with fail
        refine (HX.out _).mono ?_; rintro e w1 ⟨rfl, rfl⟩
        go_wp2_with fail
        refine (HY.out _).mono ?_; rintro e w1 ⟨rfl, rfl⟩
        go_wp2_with fail
        refine (HS.out _ (by (repeat (first | exact Kp.refl _ _ | assumption | refine Kp.drew ?_ | refine Kp.drewN ?_ _ | refine Kp.alloc ?_ _ | (refine Kp.setCell ?_ (by first | (left; simp; done) | (right; simp; try omega)) _) | (refine Kp.trans' ?_ (by assumption) (by simp; try omega)))))).mono ?_; rintro e w3 ⟨rfl, hk3⟩
        have HK : Hid (Kp [] w w3) := Kp.trans (by (repeat (first | exact Kp.refl _ _ | assumption | refine Kp.drew ?_ | refine Kp.drewN ?_ _ | refine Kp.alloc ?_ _ | (refine Kp.setCell ?_ (by first | (left; simp; done) | (right; simp; try omega)) _) | (refine Kp.trans' ?_ (by assumption) (by simp; try omega))))) hk3
        go_wp2_with fail
        go_ret
        exact ⟨rfl, HK.out⟩
      · rw [k1, k2, k3, Bool.false_or, Bool.false_or, Bool.false_and]
        go_enter Try.func132, Try.ntmps132
        go_wp2_with fail
        refine (HX.out _).mono ?_; rintro e w1 ⟨rfl, rfl⟩
        go_wp2_with fail
        refine (HY.out _).mono ?_; rintro e w1 ⟨rfl, rfl⟩
        go_wp2_with fail
        go_ret
        exact ⟨rfl, by (repeat (first | exact Kp.refl _ _ | assumption | refine Kp.drew ?_ | refine Kp.drewN ?_ _ | refine Kp.alloc ?_ _ | (refine Kp.setCell ?_ (by first | (left; simp; done) | (right; simp; try omega)) _) | (refine Kp.trans' ?_ (by assumption) (by simp; try omega))))⟩
theorem mayTo_succ (c : List Pn) (j : Nat) : mayTo c (j + 1) = (mayTo c j && mayPn c j) := by simp [mayTo, List.range_succ]
theorem mayTo_not (c : List Pn) {j n : Nat} (h : j < n) (hb : mayPn c j = false) : mayTo c n = false := by
  unfold mayTo; rw [List.all_eq_false]; exact ⟨j, by simpa using h, by rw [hb]; simp⟩
set_option maxRecDepth 100000 in
theorem mayco_calls (v : Value) (c : List Pn) (w : World) (h : IsPs w v c) (hl : c.length ≤ 2305843009213693952) :
    Calls Try.prog 82 #[v] w fun e w' => e = .returned (.bool (mayCo c)) ∧ Kp [] w w' := by
  have HS := Lib.hid (fun i hi W (hk : Kp [] w W) => maypn_calls v c i W (h.kp0 hk) hl hi)
  obtain ⟨pv, cv, rfl⟩ := h.form
  obtain ⟨N, hN⟩ : ∃ N, c.length = N := ⟨_, rfl⟩
  have HE : Hid (mayCo c = (decide (0 < N) && mayTo c N)) := by show _ = _; unfold mayCo; rw [hN]
  rw [hN] at hl HS ⊢
  rw [HE.out]
  clear hN HE h
  go_enter Try.func82, Try.ntmps82
  go_wp2_with fail
  go_loopw [3, 6] (fun _ i wr => ∃ j : Nat, j ≤ N ∧ i = .int .i64 j ∧ Hid (mayTo c j = true ∧ Kp [] w wr)) (fun _ i _ => N - (intOf i).toNat)
  case atStart => exact ⟨0, by omega, rfl, rfl, Kp.refl _ _⟩
  case round =>
    obtain ⟨j, hj, rfl, HJ⟩ := hrel
    by_cases hlt : j < N
    · have HM := Lib.hid (HS.out j hlt wr HJ.out.2)
      have HT := Lib.hid (mayTo_succ c j)
      have HF := Lib.hid (mayTo_not c hlt)
      have hN0 : Hid (0 < N) := by show 0 < N; omega
      generalize mayPn c j = X at *
      cases X
      · have HF2 := Lib.hid (HF.out rfl)
        clear HF HT
        go_wp2_with fail
        refine HM.out.mono ?_; rintro e w2 ⟨rfl, hk2⟩
        have HK : Hid (Kp [] w w2) := HJ.out.2.trans hk2
        go_wp2_with fail
        go_ret
        exact ⟨by rw [HF2.out, Bool.and_false]; rfl, HK.out⟩
      · have HT2 : Hid (mayTo c (j + 1) = true) := by show _ = _; rw [HT.out, HJ.out.1]; rfl
        clear HF HT
        go_wp2_with fail
        refine HM.out.mono ?_; rintro e w2 ⟨rfl, hk2⟩
        have HK : Hid (Kp [] w w2) := HJ.out.2.trans hk2
        clear hk2
        go_wp2_with fail
        go_roundw
        case rel => first | exact ⟨j + 1, by omega, int_eq' (by omega), HT2.out, HK.out⟩ | ((repeat apply Exists.intro); exact ⟨⟨j + 1, by omega, int_eq' (by omega), HT2.out, HK.out⟩, rfl⟩)
        case measure => simp [intOf]; omega
    · obtain rfl : j = N := by omega
      have HK := Lib.hid HJ.out.2
      have HT := Lib.hid HJ.out.1
      clear HJ
      go_wp2_with fail
      go_ret
      exact ⟨by rw [HT.out, Bool.and_true]; simp, HK.out⟩
end Go.Proofs.Ytodjohoonbkklaa

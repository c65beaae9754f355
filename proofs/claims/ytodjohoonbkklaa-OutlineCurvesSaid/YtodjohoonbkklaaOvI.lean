/- outline: the law OutlineChecks. -/
import Derived.Test.YtodjohoonbkklaaOvH
namespace Go.Proofs.Ytodjohoonbkklaa
open Go.RowKit
set_option linter.unusedVariables false
set_option linter.unusedSimpArgs false
def boundO (o : List (List Pn)) : Prop := ∀ j, j < o.length → (o.getD j []).length ≤ 1125899906842624
/-- An outline that is not large. -/
theorem small_facts {o : List (List Pn)} (h : largeB o = false) : fewO o ∧ smallO o ∧ tinyO o ∧ cnt o ≤ 5000 := by
  obtain ⟨h1, h2⟩ := not_large h
  have h3 : ∀ j, j < o.length → (o.getD j []).length ≤ 5000 := fun j hj => by have := len_le_cnt o hj; omega
  exact ⟨⟨by omega, fun j hj => by have := h3 j hj; omega⟩, fun j hj => by have := h3 j hj; omega, fun j hj => by have := h3 j hj; omega, h2⟩
theorem checkO_range (o : List (List Pn)) : checkO o = 0 ∨ checkO o = 100 ∨ checkO o = 101 := by
  unfold checkO; split
  · exact .inr (.inl rfl)
  · split
    · exact .inl rfl
    · exact .inr (.inr rfl)
set_option maxRecDepth 100000 in
set_option maxHeartbeats 4000000 in
theorem law_OutlineChecks (v : Value) (o : List (List Pn)) (w : World) (hv : IsOut w v o) (hb : boundO o) :
    Calls Try.prog 7 #[v] w fun e w' => e = .returned (.bool true) ∧ Kp [] w w' := by
  have HLA := Lib.hid (large_calls v o w hv hb)
  obtain ⟨pa, ca, rfl⟩ := hv.form
  have HV : Hid (∀ W, Kp [] w W → IsOut W (.slice pa o.length ca) o) := fun W hW => hv.kp0 hW
  cases hlg : largeB o
  · obtain ⟨hfew, hsm, hti, hcn⟩ := small_facts hlg
    rw [hlg] at HLA
    have HRC := Lib.hid (fun W hW => rcheck_calls _ o W (HV.out W hW) hti (by omega))
    have HCO := Lib.hid (fun W hW => copied_calls _ o W (HV.out W hW) hfew)
    have HCN := Lib.hid (fun W hW => ccount_calls _ o W (HV.out W hW) (by omega))
    have HRN := Lib.hid (fun W hW => rcount_calls _ o W (HV.out W hW) (by omega))
    have HCK := Lib.hid (fun v2 W (h : IsOut W v2 o) => check_calls v2 o W h hsm (by omega))
    by_cases hE : checkO o = 0
    · have HHU := Lib.hid (fun v2 W (h : IsOut W v2 o) => ohull_ok v2 o W h hE)
      have HRH := Lib.hid (fun W hW => rohull_calls _ o W (HV.out W hW) hE)
      rw [hE] at HRC HCK
      obtain ⟨b, hbb⟩ : ∃ b, hullO o = b := ⟨_, rfl⟩
      rw [hbb] at HHU HRH
      obtain ⟨C, hC⟩ : ∃ C : Int, ((cnt o : Nat) : Int) = C := ⟨_, rfl⟩
      rw [hC] at HCN HRN
      rw [show bxV b = .agg #[.int .i64 b.x0, .int .i64 b.y0, .int .i64 b.x1, .int .i64 b.y1] from rfl] at HHU HRH
      generalize o.length = N at *
      clear hv hb hlg hfew hsm hti hcn hE hbb hC
      go_enter Try.func7, Try.ntmps7
      go_wp2_with fail
      refine HLA.out.mono ?_; rintro e w1 ⟨rfl, rfl⟩
      go_wp2_with fail
      refine (HRC.out _ (Kp.refl _ _)).mono ?_; rintro e w1 ⟨rfl, hk1⟩
      have HK1 := Lib.hid hk1
      clear hk1
      go_wp2_with fail
      refine (HCO.out _ HK1.out).mono ?_; rintro e w2 ⟨v2, rfl, hw2, hk2⟩
      have HO2 := Lib.hid hw2.out
      have HK2 : Hid (Kp [] w w2) := HK1.out.trans hk2
      clear hw2 hk2 HK1
      go_wp2_with fail
      refine (HHU.out _ _ HO2.out).mono ?_; rintro e w3 ⟨rfl, hk3⟩
      have HK3 : Hid (Kp [] w w3) := HK2.out.trans hk3
      clear hk3 HK2 HO2
      go_wp2_with fail
      refine (lives10_calls _).mono ?_; rintro e w4 ⟨rfl, hk4⟩
      have HB4 : Hid (BxAt w4 w3.heap.size b) := hk4.heap (heap_alloc_new w3 _) (by simp)
      have HK4 : Hid (Kp [] w w4) := HK3.out.trans (Kp.trans (by (repeat (first | exact Kp.refl _ _ | assumption | refine Kp.drew ?_ | refine Kp.drewN ?_ _ | refine Kp.alloc ?_ _ | (refine Kp.setCell ?_ (by first | (left; simp; done) | (right; simp; try omega)) _) | (refine Kp.trans' ?_ (by assumption) (by simp; try omega))))) hk4)
      clear hk4
      go_wp2_with fail
      refine (HCO.out _ HK4.out).mono ?_; rintro e w5 ⟨v5, rfl, hw5, hk5⟩
      have HO5 := Lib.hid hw5.out
      have HK45 : Hid (Kp [] w4 w5) := hk5
      clear hw5 hk5
      go_wp2_with fail
      refine (HCK.out _ _ HO5.out).mono ?_; rintro e w6 ⟨rfl, hk6⟩
      have HK46 : Hid (Kp [] w4 w6) := HK45.out.trans hk6
      clear hk6 HO5 HK45
      go_wp2_with fail
      refine (HCN.out _ (HK4.out.trans HK46.out)).mono ?_; rintro e w7 ⟨rfl, rfl⟩
      go_wp2_with fail
      refine (HRN.out _ (HK4.out.trans HK46.out)).mono ?_; rintro e w7 ⟨rfl, rfl⟩
      obtain ⟨b0, b1, b2, b3⟩ := (HB4.out.kp HK46.out (by simp)).cells
      have hk46 : Kp [] w w6 := HK4.out.trans HK46.out
      go_wp2_with fail
      have q0 := KW.cell b0
      have q1 := KW.cell b1
      have q2 := KW.cell b2
      have q3 := KW.cell b3
      refine wp_region_kq (by kernel_rfl) (by kernel_rfl) ?_
      repeat (go_big_quiet_step ((go_at_call 33; exact Calls.kq (HRH.out _ (HK4.out.trans (HK46.out.trans (KW.h _)))))))
      refine wpQuiet_nil ?_
      intro w8 hw'
      obtain ⟨⟨_, hkw8⟩, rfl⟩ := hw'
      have hk8 : Kp [] w w8 := hk46.trans hkw8
      clear q0 q1 q2 q3 b0 b1 b2 b3
      go_wp2_with fail
      go_ret
      exact ⟨rfl, hk8⟩
    · obtain ⟨E, hEE⟩ : ∃ E, checkO o = E := ⟨_, rfl⟩
      have HHU := Lib.hid (fun v2 W (h : IsOut W v2 o) => ohull_no v2 o W h hsm (by omega) E hEE (by rw [← hEE]; exact hE))
      rw [hEE] at HRC HCK hE
      have hE1 : (E == 0) = false := by simpa using hE
      obtain ⟨C, hC⟩ : ∃ C : Int, ((cnt o : Nat) : Int) = C := ⟨_, rfl⟩
      rw [hC] at HCN HRN
      rw [show bxV ⟨0, 0, 0, 0⟩ = .agg #[.int .i64 0, .int .i64 0, .int .i64 0, .int .i64 0] from rfl] at HHU
      generalize o.length = N at *
      clear hv hb hlg hfew hsm hti hcn hEE hC
      go_enter Try.func7, Try.ntmps7
      go_wp2_with fail
      refine HLA.out.mono ?_; rintro e w1 ⟨rfl, rfl⟩
      go_wp2_with fail
      refine (HRC.out _ (Kp.refl _ _)).mono ?_; rintro e w1 ⟨rfl, hk1⟩
      have HK1 := Lib.hid hk1
      clear hk1
      go_wp2_with fail
      refine (HCO.out _ HK1.out).mono ?_; rintro e w2 ⟨v2, rfl, hw2, hk2⟩
      have HO2 := Lib.hid hw2.out
      have HK2 : Hid (Kp [] w w2) := HK1.out.trans hk2
      clear hw2 hk2 HK1
      go_wp2_with fail
      refine (HHU.out _ _ HO2.out).mono ?_; rintro e w3 ⟨rfl, hk3⟩
      have HK3 : Hid (Kp [] w w3) := HK2.out.trans hk3
      clear hk3 HK2 HO2
      go_wp2_with fail
      refine (lives10_calls _).mono ?_; rintro e w4 ⟨rfl, hk4⟩
      have HB4 : Hid (BxAt w4 w3.heap.size ⟨0, 0, 0, 0⟩) := hk4.heap (heap_alloc_new w3 _) (by simp)
      have HK4 : Hid (Kp [] w w4) := HK3.out.trans (Kp.trans (by (repeat (first | exact Kp.refl _ _ | assumption | refine Kp.drew ?_ | refine Kp.drewN ?_ _ | refine Kp.alloc ?_ _ | (refine Kp.setCell ?_ (by first | (left; simp; done) | (right; simp; try omega)) _) | (refine Kp.trans' ?_ (by assumption) (by simp; try omega))))) hk4)
      clear hk4
      go_wp2_with fail
      refine (HCO.out _ HK4.out).mono ?_; rintro e w5 ⟨v5, rfl, hw5, hk5⟩
      have HO5 := Lib.hid hw5.out
      have HK45 : Hid (Kp [] w4 w5) := hk5
      clear hw5 hk5
      go_wp2_with fail
      refine (HCK.out _ _ HO5.out).mono ?_; rintro e w6 ⟨rfl, hk6⟩
      have HK46 : Hid (Kp [] w4 w6) := HK45.out.trans hk6
      clear hk6 HO5 HK45
      go_wp2_with fail
      refine (HCN.out _ (HK4.out.trans HK46.out)).mono ?_; rintro e w7 ⟨rfl, rfl⟩
      go_wp2_with fail
      refine (HRN.out _ (HK4.out.trans HK46.out)).mono ?_; rintro e w7 ⟨rfl, rfl⟩
      obtain ⟨b0, b1, b2, b3⟩ := (HB4.out.kp HK46.out (by simp)).cells
      have hk46 : Kp [] w w6 := HK4.out.trans HK46.out
      go_wp2_with fail
      go_ret
      exact ⟨rfl, hk46⟩
  · rw [hlg] at HLA
    generalize o.length = N at *
    clear hv hb hlg
    go_enter Try.func7, Try.ntmps7
    go_wp2_with fail
    refine HLA.out.mono ?_; rintro e w1 ⟨rfl, rfl⟩
    go_wp2_with fail
    refine (lives10_calls _).mono ?_; rintro e w2 ⟨rfl, hk2⟩
    go_wp2_with fail
    go_ret
    exact ⟨rfl, hk2⟩
end Go.Proofs.Ytodjohoonbkklaa

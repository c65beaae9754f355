/- simple: the law SimpleEncodes. -/
import Derived.Test.YtodjohoonbkklaaSiZb
import Derived.Test.YtodjohoonbkklaaSiX
import Derived.Test.YtodjohoonbkklaaStr
import Derived.Deep.DeepCutAuto
namespace Go.Proofs.Ytodjohoonbkklaa
open Go.RowKit
set_option linter.unusedVariables false
set_option linter.unusedSimpArgs false
set_option maxRecDepth 100000 in
set_option maxHeartbeats 4000000 in
theorem renc_bad (v : Value) (o : List (List Pn)) (w : World) (hv : IsOut w v o) (hs : tinyO o) (hc : cnt o ≤ 4611686018427387904) (E : Int) (hE : checkO o = E) (hE0 : E ≠ 0) :
    Calls Try.prog 50 #[v] w fun e w' => e = .returned (.tuple #[.slice none 0 0, .int .i64 E]) ∧ Kp [] w w' := by
  have HC := Lib.hid (rcheck_calls v o w hv hs hc)
  rw [hE] at HC
  obtain ⟨pa, ca, rfl⟩ := hv.form
  have hb : (E != 0) = true := by simpa using hE0
  obtain ⟨N, hN⟩ : ∃ N, o.length = N := ⟨_, rfl⟩
  rw [hN] at HC ⊢
  clear hv hs hc hE hN
  go_enter Try.func50, Try.ntmps50
  go_wp2_with fail
  refine HC.out.mono ?_; rintro e w1 ⟨rfl, hk1⟩
  clear HC
  go_wp2_with fail
  go_ret2
  exact ⟨rfl, by (repeat (first | exact Kp.refl _ _ | assumption | refine Kp.drew ?_ | refine Kp.drewN ?_ _ | refine Kp.alloc ?_ _ | (refine Kp.setCell ?_ (by first | (left; simp; done) | (right; simp; try omega)) _) | (refine Kp.trans' ?_ (by assumption) (by simp; try omega))))⟩
set_option maxRecDepth 100000 in
set_option maxHeartbeats 4000000 in
theorem renc_nil (v : Value) (w : World) (hv : IsOut w v []) :
    Calls Try.prog 50 #[v] w fun e w' => e = .returned (.tuple #[.slice none 0 0, .int .i64 0]) ∧ Kp [] w w' := by
  have HC := Lib.hid (rcheck_calls v [] w hv (fun j hj => by simp at hj) (by decide))
  rw [show checkO [] = 0 from rfl] at HC
  obtain ⟨pa, ca, rfl⟩ := hv.form
  rw [show ([] : List (List Pn)).length = 0 from rfl] at HC ⊢
  clear hv
  go_enter Try.func50, Try.ntmps50
  go_wp2_with fail
  refine HC.out.mono ?_; rintro e w1 ⟨rfl, hk1⟩
  clear HC
  go_wp2_with fail
  go_ret2
  exact ⟨rfl, by (repeat (first | exact Kp.refl _ _ | assumption | refine Kp.drew ?_ | refine Kp.drewN ?_ _ | refine Kp.alloc ?_ _ | (refine Kp.setCell ?_ (by first | (left; simp; done) | (right; simp; try omega)) _) | (refine Kp.trans' ?_ (by assumption) (by simp; try omega))))⟩
theorem rsencode_calls (v : Value) (o : List (List Pn)) (w : World) (hv : IsOut w v o) (hs : tinyO o) (hc : cnt o ≤ 4611686018427387904) :
    Calls Try.prog 50 #[v] w fun e w' => ∃ v', e = .returned (.tuple #[v', .int .i64 (encM o).2]) ∧ IsInts .u8 w' v' (encM o).1 ∧ Kp [] w w' := by
  by_cases hE : checkO o = 0
  · by_cases h0 : o = []
    · subst h0
      refine (renc_nil v w hv).mono ?_
      rintro e w' ⟨rfl, hk⟩
      exact ⟨_, rfl, IsInts.nil _ _, hk⟩
    · exact renc_calls v o w hv hE h0
  · have he : encM o = ([], checkO o) := by unfold encM; rw [if_pos hE]
    refine (renc_bad v o w hv hs hc _ rfl hE).mono ?_
    rintro e w' ⟨rfl, hk⟩
    rw [he]
    exact ⟨_, rfl, IsInts.nil _ _, hk⟩
set_option maxRecDepth 100000 in
set_option maxHeartbeats 4000000 in
theorem law_SimpleEncodes (v : Value) (o : List (List Pn)) (w : World) (hv : IsOut w v o) (hbo : ∀ j, j < o.length → (o.getD j []).length ≤ 1125899906842624) :
    Calls Try.prog 12 #[v] w fun e w' => e = .returned (.bool true) ∧ Kp [] w w' := by
  obtain ⟨pa, ca, rfl⟩ := hv.form
  have HL := Lib.hid (large11_calls _ o w hv hbo)
  have HZ := Lib.hid hv
  clear hv
  cases hlo : largeB o with
  | true =>
    rw [hlo] at HL
    generalize o.length = N at *
    go_enter Try.func12, Try.ntmps12
    go_wp2_with fail
    refine HL.out.mono ?_; rintro e w1 ⟨rfl, rfl⟩
    go_wp2_with fail
    refine (lives11_calls _).mono ?_; rintro e w1 ⟨rfl, hk⟩
    go_wp2_with fail
    go_ret
    exact ⟨rfl, hk⟩
  | false =>
    rw [hlo] at HL
    obtain ⟨hs1, hs2⟩ := not_large hlo
    have HEN := Lib.hid (sencode_calls _ o w HZ.out (fun j hj => by have := len_le_cnt o hj; omega) (by omega))
    have HRN := Lib.hid (fun W (hk : Kp [] w W) => rsencode_calls _ o W (HZ.out.kp0 hk) (fun j hj => by have := len_le_cnt o hj; omega) (by omega))
    generalize (encM o).1 = R at *
    generalize (encM o).2 = E at *
    generalize o.length = N at *
    clear hlo hbo
    go_enter Try.func12, Try.ntmps12
    go_wp2_with fail
    refine HL.out.mono ?_; rintro e w1 ⟨rfl, rfl⟩
    go_wp2_with fail
    refine HEN.out.mono ?_; rintro e w2 ⟨v2, rfl, hi2, hk2, hb2⟩
    obtain ⟨p2, c2, hv2⟩ := hi2.form
    subst hv2
    have HK2 := Lib.hid hk2
    have HI2 := Lib.hid hi2
    clear hi2 hk2 hb2 HL HEN
    go_wp2_with fail
    refine (HRN.out _ HK2.out).mono ?_; rintro e w3 ⟨v3, rfl, hi3, hk3⟩
    obtain ⟨p3, c3, hv3⟩ := hi3.form
    subst hv3
    have HK3 : Hid (Kp [] w w3) := HK2.out.trans hk3
    have HI23 : Hid (IsInts .u8 w3 (.slice p2 R.length c2) R) := HI2.out.kp0 hk3
    have HI3 := Lib.hid hi3
    clear hi3 hk3 HK2 HI2 HRN
    go_wp2_with fail
    refine (lives11_calls _).mono ?_; rintro e w4 ⟨rfl, hk4⟩
    have HK4 : Hid (Kp [] w w4) := HK3.out.trans hk4
    have hs1 := run_str _ _ _ (HI23.out.kp0 hk4)
    have hs2 := run_str _ _ _ (HI3.out.kp0 hk4)
    generalize toStr R = T at *
    clear hk4 HK3 HI23 HI3
    go_wp2_with fail
    go_ret
    exact ⟨by simp, Kp.trans HK4.out (by (repeat (first | exact Kp.refl _ _ | assumption | refine Kp.drew ?_ | refine Kp.drewN ?_ _ | refine Kp.alloc ?_ _ | (refine Kp.setCell ?_ (by first | (left; simp; done) | (right; simp; try omega)) _) | (refine Kp.trans' ?_ (by assumption) (by simp; try omega)))))⟩
end Go.Proofs.Ytodjohoonbkklaa

/- outline: the reference's Check; the reference's Same. -/
import Derived.Test.YtodjohoonbkklaaOuF
namespace Go.Proofs.Ytodjohoonbkklaa
open Go.RowKit
set_option linter.unusedVariables false
set_option linter.unusedSimpArgs false
def tinyO (o : List (List Pn)) : Prop := ∀ j, j < o.length → (o.getD j []).length ≤ 1152921504606846976
theorem tinyO.small {o : List (List Pn)} (h : tinyO o) : smallO o := fun j hj => by have := h j hj; omega
set_option maxRecDepth 100000 in
set_option maxHeartbeats 2000000 in
theorem rcheck_calls (v : Value) (o : List (List Pn)) (w : World) (hv : IsOut w v o) (hs : tinyO o) (hc : cnt o ≤ 4611686018427387904) :
    Calls Try.prog 27 #[v] w fun e w' => e = .returned (.int .i64 (checkO o)) ∧ Kp [] w w' := by
  have HC := Lib.hid (rcount_calls v o w hv hc)
  have hle := hv.le
  unfold maxLen at hle
  obtain ⟨pa, ca, rfl⟩ := hv.form
  have HV := Lib.hid hv
  have HS := Lib.hid hs
  have HE0 : Hid (checkO o = if 256 < o.length ∨ 4096 < cnt o then 100 else if o.all mayCo then 0 else 101) := rfl
  obtain ⟨N, hN⟩ : ∃ N, o.length = N := ⟨_, rfl⟩
  have HN := Lib.hid hN
  rw [hN] at HV hle HC HE0 ⊢
  obtain ⟨C, hC⟩ : ∃ C, cnt o = C := ⟨_, rfl⟩
  rw [hC] at HC HE0 hc
  clear hN hv hs hC
  by_cases h1 : 256 < N
  · have HE : Hid (checkO o = 100) := by show _ = _; rw [HE0.out, if_pos (.inl h1)]
    rw [HE.out]
    clear HE0 HE
    go_enter Try.func27, Try.ntmps27
    go_wp2_with fail
    go_ret
    exact ⟨rfl, Kp.refl _ _⟩
  by_cases h2 : 4096 < C
  · have HE : Hid (checkO o = 100) := by show _ = _; rw [HE0.out, if_pos (.inr h2)]
    rw [HE.out]
    clear HE0 HE
    go_enter Try.func27, Try.ntmps27
    go_wp2_with fail
    refine HC.out.mono ?_; rintro e w1 ⟨rfl, rfl⟩
    go_wp2_with fail
    go_ret
    exact ⟨rfl, Kp.refl _ _⟩
  have HE : Hid (checkO o = if o.all mayCo then 0 else 101) := by show _ = _; rw [HE0.out, if_neg (by omega)]
  have hd1 : decide (256 < (N : Int)) = false := decide_eq_false (by omega)
  have hd2 : decide (4096 < (C : Int)) = false := decide_eq_false (by omega)
  generalize checkO o = E at *
  clear HE0 h1 h2
  go_enter Try.func27, Try.ntmps27
  go_wp2_with fail
  refine HC.out.mono ?_; rintro e w1 ⟨rfl, rfl⟩
  clear HC
  go_wp2_with fail
  go_loopw [3] (fun i wr => ∃ j : Nat, j ≤ N ∧ i = .int .i64 j ∧ Hid (okTo o j = true ∧ Kp [] w wr)) (fun i _ => N - (intOf i).toNat)
  case atStart => exact ⟨0, by omega, rfl, rfl, Kp.refl _ _⟩
  case round =>
    obtain ⟨j, hj, rfl, HJ⟩ := hrel
    by_cases hlt : j < N
    · have hjo : j < o.length := by rw [HN.out]; exact hlt
      obtain ⟨g1, o1, c1, p1, cv, e1, _, _, h1, hp⟩ := (HV.out.kp0 HJ.out.2).row hjo
      rw [HN.out] at e1
      cases e1
      have HP := Lib.hid (okTo_succ o j hjo)
      have HP2 := Lib.hid (okTo_not o j hjo)
      have HM := Lib.hid (rmayco_calls _ _ wr hp (HS.out j hjo))
      clear hjo hp
      generalize mayCo (o.getD j []) = X at *
      generalize (o.getD j []).length = L at *
      go_wp2_with fail
      refine HM.out.mono ?_; rintro e w2 ⟨rfl, hk2⟩
      have HK2 : Hid (Kp [] w w2) := HJ.out.2.trans hk2
      clear hk2 h1
      cases X
      · have HA := Lib.hid (HP2.out rfl)
        clear HP2
        go_wp2_with fail
        go_ret
        exact ⟨by rw [HE.out, HA.out]; rfl, HK2.out⟩
      · have HB : Hid (okTo o (j + 1) = true) := by show _ = _; rw [HP.out, HJ.out.1]; rfl
        clear HP HP2
        go_wp2_with fail
        go_roundw
        case rel => first | exact ⟨j + 1, by omega, int_eq' (by omega), HB.out, HK2.out⟩ | ((repeat apply Exists.intro); exact ⟨⟨j + 1, by omega, int_eq' (by omega), HB.out, HK2.out⟩, rfl⟩)
        case measure => simp [intOf]; omega
    · obtain rfl : j = N := by omega
      have HA : Hid (o.all mayCo = true) := by
        have := HJ.out.1; unfold okTo at this
        rwa [List.take_of_length_le (by rw [HN.out]; exact Nat.le_refl _)] at this
      have HK := Lib.hid HJ.out.2
      clear HJ
      go_wp2_with fail
      go_ret
      exact ⟨by rw [HE.out, HA.out]; rfl, HK.out⟩
end Go.Proofs.Ytodjohoonbkklaa

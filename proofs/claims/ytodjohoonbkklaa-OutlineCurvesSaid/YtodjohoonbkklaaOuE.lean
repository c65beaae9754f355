/- outline: Check; the reference's cubic, may, Check. -/
import Derived.Test.YtodjohoonbkklaaOuD
namespace Go.Proofs.Ytodjohoonbkklaa
open Go.RowKit
set_option linter.unusedVariables false
set_option linter.unusedSimpArgs false
/-- What Check says. -/
def checkO (o : List (List Pn)) : Int := if 256 < o.length ∨ 4096 < cnt o then 100 else if o.all mayCo then 0 else 101
def okTo (o : List (List Pn)) (j : Nat) : Bool := (o.take j).all mayCo
theorem okTo_succ (o : List (List Pn)) (j : Nat) (h : j < o.length) : okTo o (j + 1) = (okTo o j && mayCo (o.getD j [])) := by
  unfold okTo
  rw [List.take_succ_eq_append_getElem h, List.all_append, List.getD_eq_getElem?_getD, List.getElem?_eq_getElem h]
  simp only [List.all_cons, List.all_nil, Bool.and_true, Option.getD_some]
theorem okTo_not (o : List (List Pn)) (j : Nat) (h : j < o.length) (hb : mayCo (o.getD j []) = false) : o.all mayCo = false := by
  rw [List.all_eq_false]
  refine ⟨o.getD j [], ?_, by rw [hb]; simp⟩
  rw [List.getD_eq_getElem?_getD, List.getElem?_eq_getElem h]; exact List.getElem_mem _
/-- No contour is too long to be counted. -/
def smallO (o : List (List Pn)) : Prop := ∀ j, j < o.length → (o.getD j []).length ≤ 2305843009213693952
theorem check1_calls (v : Value) (c : List Pn) (w : World) (h : IsPs w v c) (hl : c.length ≤ 2305843009213693952) : Calls Try.prog 81 #[v] w fun e w' => e = .returned (.bool (!mayCo c)) ∧ Kp [] w w' := by
  have HM := Lib.hid (mayco_calls v c w h hl)
  generalize mayCo c = X at *
  obtain ⟨pv, cv, rfl⟩ := h.form
  clear h
  go_enter Try.func81, Try.ntmps81
  go_wp2_with fail
  refine HM.out.mono ?_; rintro e w1 ⟨rfl, hk1⟩
  have HK := Lib.hid hk1
  clear hk1
  go_wp2_with fail
  go_ret
  exact ⟨rfl, HK.out⟩
set_option maxRecDepth 100000 in
theorem indexOu_calls (v : Value) (o : List (List Pn)) (w : World) (hv : IsOut w v o) (hs : smallO o) :
    Calls Try.prog 131 #[v, .func (.func 81) #[] #[]] w fun e w' => ∃ z : Int, (-1 ≤ z ∧ z ≤ 9223372036854775807 ∧ decide (0 ≤ z) = !o.all mayCo) ∧ e = .returned (.int .i64 z) ∧ Kp [] w w' := by
  have hle := hv.le
  unfold maxLen at hle
  obtain ⟨pa, ca, rfl⟩ := hv.form
  have HV := Lib.hid hv
  have HS := Lib.hid hs
  clear hv hs
  obtain ⟨N, hN⟩ : ∃ N, o.length = N := ⟨_, rfl⟩
  have HN := Lib.hid hN
  rw [hN] at HV hle ⊢
  clear hN
  go_enter Try.func131, Try.ntmps131
  go_wp2_with fail
  go_loopw [5, 8] (fun _ i wr => ∃ j : Nat, j ≤ N ∧ i = .int .i64 j ∧ Hid (okTo o j = true ∧ Kp [] w wr)) (fun _ i _ => N - (intOf i).toNat)
  case atStart => exact ⟨0, by omega, rfl, rfl, Kp.refl _ _⟩
  case round =>
    obtain ⟨j, hj, rfl, HJ⟩ := hrel
    by_cases hlt : j < N
    · have hjo : j < o.length := by rw [HN.out]; exact hlt
      obtain ⟨g1, o1, c1, p1, cv, e1, _, _, h1, hp⟩ := (HV.out.kp0 HJ.out.2).row hjo
      rw [HN.out] at e1
      cases e1
      have HP := Lib.hid (okTo_succ o j hjo)
      have HP2 := Lib.hid (okTo_not o j hjo)
      have HC := Lib.hid (check1_calls _ _ wr hp (HS.out j hjo))
      clear hjo hp
      generalize mayCo (o.getD j []) = X at *
      generalize (o.getD j []).length = L at *
      go_wp2_with fail
      refine HC.out.mono ?_; rintro e w2 ⟨rfl, hk2⟩
      have HK2 : Hid (Kp [] w w2) := HJ.out.2.trans hk2
      clear hk2 h1
      cases X
      · have HA := Lib.hid (HP2.out rfl)
        clear HP2
        go_wp2_with fail
        go_ret
        exact ⟨_, ⟨by omega, by omega, by rw [HA.out]; simp⟩, rfl, HK2.out⟩
      · have HB : Hid (okTo o (j + 1) = true) := by show _ = _; rw [HP.out, HJ.out.1]; rfl
        clear HP HP2
        go_wp2_with fail
        go_roundw
        case rel => first | exact ⟨j + 1, by omega, int_eq' (by omega), HB.out, HK2.out⟩ | ((repeat apply Exists.intro); exact ⟨⟨j + 1, by omega, int_eq' (by omega), HB.out, HK2.out⟩, rfl⟩)
        case measure => simp [intOf]; omega
    · obtain rfl : j = N := by omega
      have HA : Hid (o.all mayCo = true) := by
        have := HJ.out.1; unfold okTo at this
        rwa [List.take_of_length_le (by rw [HN.out]; exact Nat.le_refl _)] at this
      go_wp2_with fail
      go_ret
      exact ⟨_, ⟨by decide, by decide, by rw [HA.out]; rfl⟩, rfl, HJ.out.2⟩
theorem containsOu_calls (v : Value) (o : List (List Pn)) (w : World) (hv : IsOut w v o) (hs : smallO o) :
    Calls Try.prog 80 #[v, .func (.func 81) #[] #[]] w fun e w' => e = .returned (.bool (!o.all mayCo)) ∧ Kp [] w w' := by
  have HI := Lib.hid (indexOu_calls v o w hv hs)
  generalize (!o.all mayCo) = X at *
  clear hv
  go_enter Try.func80, Try.ntmps80
  go_wp2_with fail
  refine HI.out.mono ?_; rintro e w1 ⟨z, ⟨z0, z1, hz⟩, rfl, hk1⟩
  have HK := Lib.hid hk1
  clear hk1 HI
  go_wp2_with fail
  go_ret
  exact ⟨rfl, HK.out⟩
theorem checkO_many {o : List (List Pn)} (h : (decide ((256 : Int) < o.length) || decide ((4096 : Int) < (cnt o : Nat))) = true) : checkO o = 100 := by
  simp only [Bool.or_eq_true, decide_eq_true_eq] at h
  unfold checkO; rw [if_pos (by omega)]
theorem checkO_few {o : List (List Pn)} (h : (decide ((256 : Int) < o.length) || decide ((4096 : Int) < (cnt o : Nat))) = false) : checkO o = if o.all mayCo then 0 else 101 := by
  simp only [Bool.or_eq_false_iff, decide_eq_false_iff_not] at h
  unfold checkO; rw [if_neg (by omega)]
set_option maxRecDepth 100000 in
theorem check_calls (v : Value) (o : List (List Pn)) (w : World) (hv : IsOut w v o) (hs : smallO o) (hc : cnt o ≤ 4611686018427387904) :
    Calls Try.prog 30 #[v] w fun e w' => e = .returned (.int .i64 (checkO o)) ∧ Kp [] w w' := by
  have HC := Lib.hid (ccount_calls v o w hv hc)
  have HM := Lib.hid (fun W => many_calls (o.length : Int) (cnt o : Nat) W)
  have HF := Lib.hid (containsOu_calls v o w hv hs)
  obtain ⟨pa, ca, rfl⟩ := hv.form
  have HE1 := Lib.hid (checkO_many (o := o))
  have HE2 := Lib.hid (checkO_few (o := o))
  generalize (decide ((256 : Int) < o.length) || decide ((4096 : Int) < (cnt o : Nat))) = X at *
  generalize checkO o = E at *
  generalize o.all mayCo = A at *
  generalize cnt o = C at *
  generalize o.length = N at *
  clear hv hs
  cases X
  · have HE := Lib.hid (HE2.out rfl)
    rw [HE.out]
    clear HE1 HE2 HE
    cases A
    · go_enter Try.func30, Try.ntmps30
      go_wp2_with fail
      refine HC.out.mono ?_; rintro e w1 ⟨rfl, rfl⟩
      go_wp2_with fail
      refine (HM.out _).mono ?_; rintro e w1 ⟨rfl, rfl⟩
      go_wp2_with fail
      refine HF.out.mono ?_; rintro e w2 ⟨rfl, hk2⟩
      have HK := Lib.hid hk2
      clear hk2
      go_wp2_with fail
      go_ret
      exact ⟨rfl, HK.out⟩
    · go_enter Try.func30, Try.ntmps30
      go_wp2_with fail
      refine HC.out.mono ?_; rintro e w1 ⟨rfl, rfl⟩
      go_wp2_with fail
      refine (HM.out _).mono ?_; rintro e w1 ⟨rfl, rfl⟩
      go_wp2_with fail
      refine HF.out.mono ?_; rintro e w2 ⟨rfl, hk2⟩
      have HK := Lib.hid hk2
      clear hk2
      go_wp2_with fail
      go_ret
      exact ⟨rfl, HK.out⟩
  · have HE := Lib.hid (HE1.out rfl)
    rw [HE.out]
    clear HE1 HE2 HE
    go_enter Try.func30, Try.ntmps30
    go_wp2_with fail
    refine HC.out.mono ?_; rintro e w1 ⟨rfl, rfl⟩
    go_wp2_with fail
    refine (HM.out _).mono ?_; rintro e w1 ⟨rfl, rfl⟩
    go_wp2_with fail
    go_ret
    exact ⟨rfl, Kp.refl _ _⟩
end Go.Proofs.Ytodjohoonbkklaa

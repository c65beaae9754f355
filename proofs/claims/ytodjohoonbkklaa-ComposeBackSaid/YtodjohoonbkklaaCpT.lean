/- compose: Encode (the check of all parts); what Encode gives, in plain Lean. -/
import Derived.Test.YtodjohoonbkklaaCpS
import Derived.Test.YtodjohoonbkklaaCpJ
import Derived.Test.YtodjohoonbkklaaWireF
import Derived.Deep.DeepCutAuto
namespace Go.Proofs.Ytodjohoonbkklaa
open Go.RowKit
set_option linter.unusedVariables false
set_option linter.unusedSimpArgs false
theorem IsPts.rowJ {w : World} {v : Value} {l : List Pt} (h : IsPts w v l) {i : Nat} (hi : i < l.length) : ∃ g off c, v = .slice (some ⟨g, off, none⟩) l.length c ∧ l.length ≤ c ∧ c ≤ maxLen ∧ ∀ j u, (ptCells (l.getD i pt0))[j]? = some u → w.cell? ⟨g, off + i * 11 + j, none⟩ = some u := by
  rcases h.cases with ⟨ad, rfl, rfl⟩ | ⟨g, off, c, rfl, h1, h2, h3⟩
  · simp at hi
  · exact ⟨g, off, c, rfl, h1, h2, h3 i hi⟩
theorem enc1_calls (p : Pt) (w : World) : Calls Try.prog 60 #[ptV p] w fun e w' => e = .returned (.bool (!mayPt p)) ∧ Kp [] w w' := by
  rw [show ptV p = .agg #[.int .i64 p.g, .int .i64 p.xx, .int .i64 p.xy, .int .i64 p.yx, .int .i64 p.yy, .bool p.m, .int .i64 p.dx, .int .i64 p.dy, .bool p.t, .int .i64 p.pa, .int .i64 p.ch] from rfl]
  have HM := Lib.hid (fun W => cmay_calls p W)
  generalize mayPt p = X at *
  have HM : Hid (∀ W, Calls Try.prog 21 #[.agg #[.int .i64 p.g, .int .i64 p.xx, .int .i64 p.xy, .int .i64 p.yx, .int .i64 p.yy, .bool p.m, .int .i64 p.dx, .int .i64 p.dy, .bool p.t, .int .i64 p.pa, .int .i64 p.ch]] W fun e w' => e = .returned (.bool X) ∧ Kp [] W w') := HM
  go_enter Try.func60, Try.ntmps60
  go_wp2_with fail
  refine (HM.out _).mono ?_; rintro e w1 ⟨rfl, hk1⟩
  go_wp2_with fail
  go_ret
  exact ⟨rfl, ((Kp.refl _ _).alloc _).trans hk1⟩
/-- No part ahead of j is amiss. -/
def preOk (l : List Pt) (j : Nat) : Bool := (l.take j).all mayPt
theorem preOk_next (l : List Pt) (j : Nat) (h : j < l.length) : preOk l (j + 1) = (preOk l j && mayPt (l.getD j pt0)) := by
  unfold preOk; rw [take_snoc l j pt0 h]; simp
theorem preOk_not (l : List Pt) (j : Nat) (h : j < l.length) (hb : mayPt (l.getD j pt0) = false) : l.all mayPt = false := by
  rw [List.all_eq_false]
  refine ⟨l.getD j pt0, ?_, by rw [hb]; simp⟩
  rw [List.getD_eq_getElem?_getD, List.getElem?_eq_getElem h]; exact List.getElem_mem _
set_option maxRecDepth 100000 in
theorem indexPt_calls (v : Value) (l : List Pt) (w : World) (hv : IsPts w v l) :
    Calls Try.prog 115 #[v, .func (.func 60) #[] #[]] w fun e w' => ∃ z : Int, (-1 ≤ z ∧ z ≤ 9223372036854775807 ∧ decide (0 ≤ z) = !l.all mayPt) ∧ e = .returned (.int .i64 z) ∧ Kp [] w w' := by
  have hle := hv.le
  unfold maxLen at hle
  obtain ⟨pa, ca, rfl⟩ := hv.form
  have HV := Lib.hid hv
  clear hv
  obtain ⟨N, hN⟩ : ∃ N, l.length = N := ⟨_, rfl⟩
  have HN := Lib.hid hN
  rw [hN] at HV hle ⊢
  clear hN
  go_enter Try.func115, Try.ntmps115
  go_wp2_with fail
  go_loopw [5, 8] (fun _ i wr => ∃ j : Nat, j ≤ N ∧ i = .int .i64 j ∧ Hid (preOk l j = true ∧ Kp [] w wr)) (fun _ i _ => N - (intOf i).toNat)
  case atStart => exact ⟨0, by omega, rfl, rfl, Kp.refl _ _⟩
  case round =>
    obtain ⟨j, hj, rfl, HJ⟩ := hrel
    by_cases hlt : j < N
    · obtain ⟨g1, o1, c1, e1, _, _, h1⟩ := (HV.out.kp HJ.out.2 (by simp)).rowJ (i := j) (by rw [HN.out]; exact hlt)
      rw [HN.out] at e1
      cases e1
      have HP := Lib.hid (preOk_next l j (by rw [HN.out]; exact hlt))
      have HP2 := Lib.hid (preOk_not l j (by rw [HN.out]; exact hlt))
      generalize l.getD j pt0 = p at *
      have h1_0 := h1 0 (.int .i64 p.g) rfl
      have h1_1 := h1 1 (.int .i64 p.xx) rfl
      have h1_2 := h1 2 (.int .i64 p.xy) rfl
      have h1_3 := h1 3 (.int .i64 p.yx) rfl
      have h1_4 := h1 4 (.int .i64 p.yy) rfl
      have h1_5 := h1 5 (.bool p.m) rfl
      have h1_6 := h1 6 (.int .i64 p.dx) rfl
      have h1_7 := h1 7 (.int .i64 p.dy) rfl
      have h1_8 := h1 8 (.bool p.t) rfl
      have h1_9 := h1 9 (.int .i64 p.pa) rfl
      have h1_10 := h1 10 (.int .i64 p.ch) rfl
      simp only [Nat.add_zero] at h1_0
      clear h1
      have HC : Hid (∀ W, Calls Try.prog 60 #[.agg #[.int .i64 p.g, .int .i64 p.xx, .int .i64 p.xy, .int .i64 p.yx, .int .i64 p.yy, .bool p.m, .int .i64 p.dx, .int .i64 p.dy, .bool p.t, .int .i64 p.pa, .int .i64 p.ch]] W fun e w' => e = .returned (.bool (!mayPt p)) ∧ Kp [] W w') := fun W => enc1_calls p W
      generalize mayPt p = X at *
      go_wp2_with fail
      refine (HC.out _).mono ?_; rintro e w2 ⟨rfl, hk2⟩
      have HK2 : Hid (Kp [] w w2) := HJ.out.2.trans hk2
      clear hk2 h1_0 h1_1 h1_2 h1_3 h1_4 h1_5 h1_6 h1_7 h1_8 h1_9 h1_10
      cases X
      · have HA := Lib.hid (HP2.out rfl)
        clear HP2
        go_wp2_with fail
        go_ret
        exact ⟨_, ⟨by omega, by omega, by rw [HA.out]; simp⟩, rfl, HK2.out⟩
      · have HB : Hid (preOk l (j + 1) = true) := by show _ = _; rw [HP.out, HJ.out.1]; rfl
        clear HP HP2
        go_wp2_with fail
        go_roundw
        case rel => first | exact ⟨j + 1, by omega, int_eq' (by omega), HB.out, HK2.out⟩ | ((repeat apply Exists.intro); exact ⟨⟨j + 1, by omega, int_eq' (by omega), HB.out, HK2.out⟩, rfl⟩)
        case measure => simp [intOf]; omega
    · obtain rfl : j = N := by omega
      have HA : Hid (l.all mayPt = true) := by
        have := HJ.out.1; unfold preOk at this
        rwa [List.take_of_length_le (by rw [HN.out]; exact Nat.le_refl _)] at this
      go_wp2_with fail
      go_ret
      exact ⟨_, ⟨by decide, by decide, by rw [HA.out]; rfl⟩, rfl, HJ.out.2⟩
theorem containsPt_calls (v : Value) (l : List Pt) (w : World) (hv : IsPts w v l) :
    Calls Try.prog 59 #[v, .func (.func 60) #[] #[]] w fun e w' => e = .returned (.bool (!l.all mayPt)) ∧ Kp [] w w' := by
  have HI := Lib.hid (indexPt_calls v l w hv)
  generalize (!l.all mayPt) = X at *
  clear hv
  go_enter Try.func59, Try.ntmps59
  go_wp2_with fail
  refine HI.out.mono ?_; rintro e w1 ⟨z, ⟨z0, z1, hz⟩, rfl, hk1⟩
  have HK := Lib.hid hk1
  clear hk1 HI
  go_wp2_with fail
  go_ret
  exact ⟨rfl, HK.out⟩
end Go.Proofs.Ytodjohoonbkklaa

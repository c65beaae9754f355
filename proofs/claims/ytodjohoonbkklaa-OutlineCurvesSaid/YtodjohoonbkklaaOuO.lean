/- outline: the first point that lies on the outline (slices.IndexFunc with isOn). -/
import Derived.Test.YtodjohoonbkklaaOuN
namespace Go.Proofs.Ytodjohoonbkklaa
open Go.RowKit
set_option linter.unusedVariables false
set_option linter.unusedSimpArgs false
/-- How many points come before the first that lies on the outline. -/
def onAt : List Pn → Nat
  | [] => 0
  | p :: l => if p.k = 1 then 0 else onAt l + 1
/-- None of the first j points lies on the outline. -/
def offTo (c : List Pn) (j : Nat) : Prop := ∀ t, t < j → (c.getD t pn0).k ≠ 1
theorem onAt_le (c : List Pn) : onAt c ≤ c.length := by
  induction c with
  | nil => exact Nat.le_refl _
  | cons p l ih => unfold onAt; split <;> simp only [List.length_cons] <;> omega
theorem offTo_onAt (c : List Pn) : offTo c (onAt c) := by
  induction c with
  | nil => intro t ht; exact absurd ht (by simp [onAt])
  | cons p l ih =>
    intro t ht
    unfold onAt at ht
    split at ht
    · omega
    · rename_i h
      match t with
      | 0 => exact h
      | t + 1 => exact ih t (by omega)
theorem onAt_found (c : List Pn) (j : Nat) (hj : j < c.length) (h0 : offTo c j) (h : (c.getD j pn0).k = 1) : onAt c = j := by
  induction c generalizing j with
  | nil => simp at hj
  | cons p l ih =>
    unfold onAt
    match j with
    | 0 => rw [if_pos (by simpa using h)]
    | j + 1 =>
      rw [if_neg (by simpa using h0 0 (by omega)), ih j (by simpa using hj) (fun t ht => h0 (t + 1) (by omega)) (by simpa using h)]
theorem onAt_none (c : List Pn) (h0 : offTo c c.length) : onAt c = c.length := by
  induction c with
  | nil => rfl
  | cons p l ih =>
    unfold onAt
    rw [if_neg (by simpa using h0 0 (by simp)), ih (fun t ht => h0 (t + 1) (by simp only [List.length_cons]; omega))]; rfl
/-- The place of the first point that lies on the outline, or -1. -/
def firstOn (c : List Pn) : Int := if onAt c < c.length then (onAt c : Int) else -1
theorem offTo_succ {c : List Pn} {j : Nat} (h : offTo c j) (he : (c.getD j pn0).k ≠ 1) : offTo c (j + 1) := fun t ht => by
  by_cases e : t = j
  · rw [e]; exact he
  · exact h t (by omega)
set_option maxRecDepth 100000 in
set_option maxHeartbeats 2000000 in
theorem indexon_calls (v : Value) (c : List Pn) (w : World) (h : IsPs w v c) :
    Calls Try.prog 149 #[v, .func (.func 150) #[] #[]] w fun e w' => e = .returned (.int .i64 (firstOn c)) ∧ Kp [] w w' := by
  have hle := h.le
  unfold maxLen at hle
  obtain ⟨pa, ca, rfl⟩ := h.form
  have HV := Lib.hid h
  clear h
  have HF : Hid (∀ j, j < c.length → offTo c j → (c.getD j pn0).k = 1 → firstOn c = j) := fun j hj h0 h1 => by unfold firstOn; rw [onAt_found c j hj h0 h1, if_pos hj]
  have HE : Hid (offTo c c.length → firstOn c = -1) := fun h0 => by unfold firstOn; rw [onAt_none c h0, if_neg (by omega)]
  obtain ⟨N, hN⟩ : ∃ N, c.length = N := ⟨_, rfl⟩
  have HN := Lib.hid hN
  rw [hN] at HV hle HF HE ⊢
  clear hN
  generalize firstOn c = R at *
  go_enter Try.func149, Try.ntmps149
  go_wp2_with fail
  go_loopw [5, 8] (fun _ i wr => ∃ j : Nat, j ≤ N ∧ i = .int .i64 j ∧ Hid (offTo c j ∧ Kp [] w wr)) (fun _ i _ => N - (intOf i).toNat)
  case atStart => exact ⟨0, by omega, rfl, fun t ht => absurd ht (by omega), Kp.refl _ _⟩
  case round =>
    obtain ⟨j, hj, rfl, HJ⟩ := hrel
    by_cases hlt : j < N
    · obtain ⟨g1, o1, c1, e1, _, _, x1, y1, k1⟩ := (HV.out.kp0 HJ.out.2).row (i := j) (by rw [HN.out]; exact hlt)
      rw [HN.out] at e1
      cases e1
      have HC := Lib.hid (ison_calls (c.getD j pn0) wr)
      by_cases hk : (c.getD j pn0).k = 1
      · have HA := Lib.hid (HF.out j hlt HJ.out.1 hk)
        rw [show ((c.getD j pn0).k == 1) = true by rw [hk]; rfl, show pnV (c.getD j pn0) = .agg #[.int .i64 (c.getD j pn0).x, .int .i64 (c.getD j pn0).y, .int .i64 (c.getD j pn0).k] from rfl] at HC
        clear hk
        generalize (c.getD j pn0).x = X at *
        generalize (c.getD j pn0).y = Y at *
        generalize (c.getD j pn0).k = K at *
        go_wp2_with fail
        refine HC.out.mono ?_; rintro e w2 ⟨rfl, hk2⟩
        have HK2 : Hid (Kp [] w w2) := HJ.out.2.trans hk2
        clear hk2 x1 y1 k1
        go_wp2_with fail
        go_ret
        exact ⟨by rw [HA.out]; rfl, HK2.out⟩
      · have HB := Lib.hid (offTo_succ HJ.out.1 hk)
        rw [show ((c.getD j pn0).k == 1) = false by simpa using hk, show pnV (c.getD j pn0) = .agg #[.int .i64 (c.getD j pn0).x, .int .i64 (c.getD j pn0).y, .int .i64 (c.getD j pn0).k] from rfl] at HC
        clear hk
        generalize (c.getD j pn0).x = X at *
        generalize (c.getD j pn0).y = Y at *
        generalize (c.getD j pn0).k = K at *
        go_wp2_with fail
        refine HC.out.mono ?_; rintro e w2 ⟨rfl, hk2⟩
        have HK2 : Hid (Kp [] w w2) := HJ.out.2.trans hk2
        clear hk2 x1 y1 k1
        go_wp2_with fail
        go_roundw
        case rel => first | exact ⟨j + 1, by omega, int_eq' (by omega), HB.out, HK2.out⟩ | ((repeat apply Exists.intro); exact ⟨⟨j + 1, by omega, int_eq' (by omega), HB.out, HK2.out⟩, rfl⟩)
        case measure => simp [intOf]; omega
    · obtain rfl : j = N := by omega
      have HA := Lib.hid (HE.out HJ.out.1)
      go_wp2_with fail
      go_ret
      exact ⟨by rw [HA.out]; rfl, HJ.out.2⟩
end Go.Proofs.Ytodjohoonbkklaa

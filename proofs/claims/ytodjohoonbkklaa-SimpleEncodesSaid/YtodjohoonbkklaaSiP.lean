/- simple: Encode of any outline. -/
import Derived.Test.YtodjohoonbkklaaSiO
import Derived.Deep.DeepCutAuto
namespace Go.Proofs.Ytodjohoonbkklaa
open Go.RowKit
set_option linter.unusedVariables false
set_option linter.unusedSimpArgs false
/-- What Encode answers. -/
def encM (o : List (List Pn)) : List Int × Int :=
  if checkO o ≠ 0 then ([], checkO o) else if o = [] then ([], 0) else match encS (restF o 0) en0 with
    | none => ([], 1)
    | some t => (encB o (hullO o) t, 0)
set_option maxRecDepth 100000 in
set_option maxHeartbeats 4000000 in
theorem enc_bad (v : Value) (o : List (List Pn)) (w : World) (hv : IsOut w v o) (hs : smallO o) (hc : cnt o ≤ 4611686018427387904) (E : Int) (hE : checkO o = E) (hE0 : E ≠ 0) :
    Calls Try.prog 49 #[v] w fun e w' => e = .returned (.tuple #[.slice none 0 0, .int .i64 E]) ∧ Kp [] w w' := by
  have HC := Lib.hid (ohull_no v o w hv hs hc E hE hE0)
  obtain ⟨pa, ca, rfl⟩ := hv.form
  have hb : (E == 0) = false := by rw [beq_eq_false_iff_ne]; exact hE0
  obtain ⟨N, hN⟩ : ∃ N, o.length = N := ⟨_, rfl⟩
  rw [hN] at HC ⊢
  clear hv hs hc hE hN
  go_enter Try.func49, Try.ntmps49
  go_wp2_with fail
  refine HC.out.mono ?_; rintro e w1 ⟨rfl, hk1⟩
  rw [show bxV ⟨0, 0, 0, 0⟩ = .agg #[.int .i64 0, .int .i64 0, .int .i64 0, .int .i64 0] from rfl]
  clear HC
  go_wp2_with fail
  go_ret2
  exact ⟨rfl, by (repeat (first | exact Kp.refl _ _ | assumption | refine Kp.drew ?_ | refine Kp.drewN ?_ _ | refine Kp.alloc ?_ _ | (refine Kp.setCell ?_ (by first | (left; simp; done) | (right; simp; try omega)) _) | (refine Kp.trans' ?_ (by assumption) (by simp; try omega))))⟩
set_option maxRecDepth 100000 in
set_option maxHeartbeats 4000000 in
theorem enc_nil (v : Value) (w : World) (hv : IsOut w v []) :
    Calls Try.prog 49 #[v] w fun e w' => e = .returned (.tuple #[.slice none 0 0, .int .i64 0]) ∧ Kp [] w w' := by
  have HC := Lib.hid (ohull_ok v [] w hv rfl)
  obtain ⟨pa, ca, rfl⟩ := hv.form
  generalize hullO [] = b at *
  rw [show ([] : List (List Pn)).length = 0 from rfl] at HC ⊢
  clear hv
  go_enter Try.func49, Try.ntmps49
  go_wp2_with fail
  refine HC.out.mono ?_; rintro e w1 ⟨rfl, hk1⟩
  rw [show bxV b = .agg #[.int .i64 b.x0, .int .i64 b.y0, .int .i64 b.x1, .int .i64 b.y1] from rfl]
  clear HC
  go_wp2_with fail
  go_ret2
  exact ⟨rfl, by (repeat (first | exact Kp.refl _ _ | assumption | refine Kp.drew ?_ | refine Kp.drewN ?_ _ | refine Kp.alloc ?_ _ | (refine Kp.setCell ?_ (by first | (left; simp; done) | (right; simp; try omega)) _) | (refine Kp.trans' ?_ (by assumption) (by simp; try omega))))⟩
theorem sencode_calls (v : Value) (o : List (List Pn)) (w : World) (hv : IsOut w v o) (hs : smallO o) (hc : cnt o ≤ 4611686018427387904) :
    Calls Try.prog 49 #[v] w fun e w' => ∃ v', e = .returned (.tuple #[v', .int .i64 (encM o).2]) ∧ IsInts .u8 w' v' (encM o).1 ∧ Kp [] w w' ∧ ∀ k, blockOf v' = some k → w.heap.size ≤ k := by
  by_cases hE : checkO o = 0
  · by_cases h0 : o = []
    · subst h0
      refine (enc_nil v w hv).mono ?_
      rintro e w' ⟨rfl, hk⟩
      exact ⟨_, rfl, IsInts.nil _ _, hk, by simp⟩
    · cases hR : encS (restF o 0) en0 with
      | none =>
        have he : encM o = ([], 1) := by unfold encM; rw [if_neg (by simpa using hE), if_neg h0, hR]
        refine (enc_none v o w hv hE h0 hR).mono ?_
        rintro e w' ⟨rfl, hk⟩
        rw [he]
        exact ⟨_, rfl, IsInts.nil _ _, hk, by simp⟩
      | some t =>
        have he : encM o = (encB o (hullO o) t, 0) := by unfold encM; rw [if_neg (by simpa using hE), if_neg h0, hR]
        refine (enc_some v o w hv hE h0 t hR).mono ?_
        rintro e w' ⟨v', rfl, h1, h2, h3⟩
        rw [he]
        exact ⟨v', rfl, h1, h2, h3⟩
  · have he : encM o = ([], checkO o) := by unfold encM; rw [if_pos hE]
    refine (enc_bad v o w hv hs hc _ rfl hE).mono ?_
    rintro e w' ⟨rfl, hk⟩
    rw [he]
    exact ⟨_, rfl, IsInts.nil _ _, hk, by simp⟩
end Go.Proofs.Ytodjohoonbkklaa

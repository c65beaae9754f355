/- outline: large; clone; slices.Clone at points. -/
import Derived.Test.YtodjohoonbkklaaOuJ
namespace Go.Proofs.Ytodjohoonbkklaa
open Go.RowKit
set_option linter.unusedVariables false
set_option linter.unusedSimpArgs false
/-- Is an outline too large to be looked at? -/
def largeB (o : List (List Pn)) : Bool := decide (300 < o.length) || decide (5000 < cntTo o (min o.length 400))
theorem not_large {o : List (List Pn)} (h : largeB o = false) : o.length ≤ 300 ∧ cnt o ≤ 5000 := by
  unfold largeB at h
  simp only [Bool.or_eq_false_iff, decide_eq_false_iff_not] at h
  obtain ⟨h1, h2⟩ := h
  rw [show min o.length 400 = o.length by omega] at h2
  exact ⟨by omega, by unfold cnt; omega⟩
theorem len_le_cnt (o : List (List Pn)) {j : Nat} (h : j < o.length) : (o.getD j []).length ≤ cnt o := by
  have := cntTo_le o (j := j + 1) (by omega)
  rw [cntTo] at this
  omega
theorem cntTo_bound (o : List (List Pn)) (B : Nat) (h : ∀ j, j < o.length → (o.getD j []).length ≤ B) : ∀ j, j ≤ o.length → cntTo o j ≤ j * B := by
  intro j
  induction j with
  | zero => intro _; simp [cntTo]
  | succ j ih => intro hj; have a := ih (by omega); have b := h j (by omega); rw [cntTo, Nat.add_mul]; omega
set_option maxRecDepth 100000 in
set_option maxHeartbeats 2000000 in
theorem large_calls (v : Value) (o : List (List Pn)) (w : World) (hv : IsOut w v o) (hb : ∀ j, j < o.length → (o.getD j []).length ≤ 1125899906842624) :
    Calls Try.prog 25 #[v] w fun e w' => e = .returned (.bool (largeB o)) ∧ w = w' := by
  have hle := hv.le
  unfold maxLen at hle
  obtain ⟨pa, ca, rfl⟩ := hv.form
  have HO := Lib.hid hv
  have HC := Lib.hid (fun j hj (h4 : j ≤ 400) => (show cntTo o j ≤ 450359962737049600 from Nat.le_trans (cntTo_bound o _ hb j hj) (by omega)))
  obtain ⟨N, hN⟩ : ∃ N, o.length = N := ⟨_, rfl⟩
  have HN := Lib.hid hN
  obtain ⟨M, hM⟩ : ∃ M, min N 400 = M := ⟨_, rfl⟩
  have HE : Hid (largeB o = (decide (300 < N) || decide (5000 < cntTo o M))) := by show _ = _; unfold largeB; rw [hN, hM]
  have hM1 : M ≤ N := by omega
  have hM2 : M ≤ 400 := by omega
  have hM3 : M = N ∨ M = 400 := by omega
  rw [hN] at HO HC hle ⊢
  generalize largeB o = R at *
  clear hN hM hv hb
  go_enter Try.func25, Try.ntmps25
  go_wp2_with fail
  go_loopw [3, 4] (fun n i wr => ∃ j : Nat, j ≤ M ∧ i = .int .i64 j ∧ n = .int .i64 (cntTo o j : Nat) ∧ wr = w) (fun n i _ => M - (intOf i).toNat)
  case atStart => exact ⟨0, by omega, rfl, rfl, rfl⟩
  case round =>
    obtain ⟨j, hj, rfl, rfl, rfl⟩ := hrel
    by_cases hlt : j < M
    · obtain ⟨g1, o1, c1, p1, cv, e1, _, _, h1, _⟩ := HO.out.row (i := j) (by rw [HN.out]; omega)
      rw [HN.out] at e1
      cases e1
      have hb := HC.out (j + 1) (by omega) (by omega)
      have hs : Hid (cntTo o (j + 1) = cntTo o j + (o.getD j []).length) := rfl
      have hb2 : cntTo o j + (o.getD j []).length ≤ 450359962737049600 := by rw [← hs.out]; exact hb
      have hj4 : j < 400 := by omega
      have hjN : j < N := by omega
      generalize (o.getD j []).length = L at *
      generalize cntTo o j = A at *
      clear hb
      go_wp2_with fail
      go_roundw
      case rel => first | exact ⟨j + 1, by omega, int_eq' (by omega), int_eq' (by rw [hs.out]; omega), by first | rfl | trivial⟩ | ((repeat apply Exists.intro); exact ⟨⟨j + 1, by omega, int_eq' (by omega), int_eq' (by rw [hs.out]; omega), by first | rfl | trivial⟩, rfl⟩)
      case measure => simp [intOf]; omega
    · obtain rfl : j = M := by omega
      have hb := HC.out j hM1 hM2
      generalize cntTo o j = A at *
      rcases hM3 with rfl | rfl
      · by_cases h3 : 300 < j
        · have HX : Hid (R = true) := by show _ = _; rw [HE.out, decide_eq_true h3]; rfl
          go_wp2_with fail
          go_ret
          exact ⟨by rw [HX.out]; rfl, rfl⟩
        · have HX : Hid (R = decide (5000 < A)) := by show _ = _; rw [HE.out, decide_eq_false h3]; rfl
          go_wp2_with fail
          go_ret
          have e1 : decide ((300 : Int) < (j : Int)) = false := decide_eq_false (by omega)
          have e2 : decide ((5000 : Int) < (A : Int)) = decide (5000 < A) := decide_eq_decide.2 (by omega)
          refine ⟨?_, rfl⟩
          rw [HX.out]
          show Ending.returned (.bool (decide ((300 : Int) < (j : Int)) || decide ((5000 : Int) < (A : Int)))) = _
          rw [e1, e2, Bool.false_or]
      · by_cases h4 : N = 400
        · subst h4
          have HX : Hid (R = true) := by show _ = _; rw [HE.out, decide_eq_true (by decide)]; rfl
          go_wp2_with fail
          go_ret
          exact ⟨by rw [HX.out]; rfl, rfl⟩
        · have h5 : 400 < N := by omega
          have HX : Hid (R = true) := by show _ = _; rw [HE.out, decide_eq_true (by omega)]; rfl
          go_wp2_with fail
          go_ret
          exact ⟨by rw [HX.out]; rfl, rfl⟩
end Go.Proofs.Ytodjohoonbkklaa

/- metric.mayPlaces: may places be put? slices.IsSorted. -/
import Derived.Test.YthmokldmdcjklaaWireF
import Derived.Test.YthmokldmdcjklaaPair
import Derived.Test.YthmokldmdcjklaaChE
import Derived.BigQuiet
import Derived.Deep.QuietTactic
namespace Go.Proofs.Ythmokldmdcjklaa
open Go.RowKit
set_option linter.unusedVariables false
set_option linter.unusedSimpArgs false
theorem nan_calls (x : Int) (w : World) : Calls Try.prog 91 #[.int .i64 x] w fun e w' => e = .returned (.bool false) ∧ w = w' := by
  go_enter Try.func91, Try.ntmps91
  go_wp2
  go_ret
  exact ⟨by simp, rfl⟩
theorem less_calls (x y : Int) (w : World) : Calls Try.prog 89 #[.int .i64 x, .int .i64 y] w fun e w' => e = .returned (.bool (decide (x < y))) ∧ w = w' := by
  go_enter Try.func89, Try.ntmps89
  go_wp2_with fail
  refine (nan_calls x _).mono ?_; rintro e w' ⟨rfl, rfl⟩
  go_wp2_with fail
  go_ret
  exact ⟨rfl, rfl⟩
/-- None is less than the one before it. -/
def srt (l : List Int) : Bool := (List.range (l.length - 1)).all fun i => decide (l.getD i 0 ≤ l.getD (i + 1) 0)
theorem srt_true (l : List Int) (h : ∀ i, i + 1 < l.length → l.getD i 0 ≤ l.getD (i + 1) 0) : srt l = true := by
  unfold srt; rw [List.all_eq_true]; intro i hi
  simp only [List.mem_range] at hi
  exact decide_eq_true (h i (by omega))
theorem srt_false (l : List Int) (i : Nat) (hi : i + 1 < l.length) (h : l.getD (i + 1) 0 < l.getD i 0) : srt l = false := by
  rw [← Bool.not_eq_true]; intro e
  unfold srt at e; rw [List.all_eq_true] at e
  have := e i (List.mem_range.2 (by omega))
  simp only [decide_eq_true_eq] at this; omega
theorem srt_at (l : List Int) (h : srt l = true) (i : Nat) (hi : i + 1 < l.length) : l.getD i 0 ≤ l.getD (i + 1) 0 := by
  unfold srt at h; rw [List.all_eq_true] at h
  have := h i (List.mem_range.2 (by omega))
  simpa using this
set_option maxRecDepth 100000 in
theorem sorted_calls (v : Value) (l : List Int) (w : World) (hv : IsInts .i64 w v l) :
    Calls Try.prog 83 #[v] w fun e w' => e = .returned (.bool (srt l)) ∧ Kp [] w w' := by
  have hle := hv.le
  unfold maxLen at hle
  obtain ⟨pa, ca, rfl, hca⟩ : ∃ p c, v = .slice p l.length c ∧ (0 < l.length → ∃ g off, p = some ⟨g, off, none⟩ ∧ ∀ i, i < l.length → w.cell? ⟨g, off + i, none⟩ = some (.int .i64 (l.getD i 0))) := by
    rcases hv with ⟨⟨ad, rfl⟩, rfl⟩ | ⟨g, off, c, rfl, _, _, h⟩
    · exact ⟨_, 0, rfl, fun h => absurd h (by simp)⟩
    · exact ⟨_, c, rfl, fun _ => ⟨g, off, rfl, h⟩⟩
  have Ha : Hid _ := hca
  clear hca hv
  go_enter Try.func83, Try.ntmps83
  go_wp2_with fail
  go_loopw [3] (fun i wr => ∃ j : Int, -1 ≤ j ∧ j < l.length ∧ i = .int .i64 j ∧ Hid (∀ t : Nat, j ≤ t → t + 1 < l.length → l.getD t 0 ≤ l.getD (t + 1) 0) ∧ Kp [] w wr) (fun i _ => (intOf i).toNat)
  case atStart => exact ⟨(l.length : Int) - 1, by omega, by omega, by first | rfl | simp, fun t h1 h2 => by omega, Kp.refl _ _⟩
  case round =>
    obtain ⟨j, hj1, hj, rfl, HT, hk⟩ := hrel
    by_cases hlt : 0 < j
    · obtain ⟨g1, o1, rfl, h1⟩ := Ha.out (by omega)
      obtain ⟨m, rfl⟩ : ∃ m : Nat, j = m + 1 := ⟨(j - 1).toNat, by omega⟩
      have hm1 : m + 1 < l.length := by omega
      have c1 := hk.cell (h1 (m + 1) hm1) (by simp)
      have c2 := hk.cell (h1 m (by omega)) (by simp)
      clear h1
      have hF : Hid (l.getD (m + 1) 0 < l.getD m 0 → srt l = false) := fun h => srt_false l m hm1 h
      have hG : Hid (l.getD m 0 ≤ l.getD (m + 1) 0 → ∀ t : Nat, (m : Int) ≤ t → t + 1 < l.length → l.getD t 0 ≤ l.getD (t + 1) 0) := by
        intro h t h1 h2
        by_cases e : t = m
        · subst e; exact h
        · exact HT.out t (by omega) h2
      generalize l.getD (m + 1) 0 = x at *
      generalize l.getD m 0 = y at *
      have hi1 : ((m : Int) + 1).toNat = m + 1 := by omega
      have hi2 : ((m : Int) + 1 - 1).toNat = m := by omega
      have hi3 : (m : Int) + 1 - 1 = m := by omega
      have hi4 : (m : Int) + 1 < l.length := by omega
      have hi5 : (m : Int) < l.length := by omega
      by_cases hxy : x < y
      · have hR := Lib.hid (hF.out hxy)
        go_wp2_with fail
        go_quiet ((go_at_call 89; exact Calls.quiet_of_same ((less_calls _ _ _).mono fun _ _ ⟨a, b⟩ => ⟨a, b.symm⟩)))
        go_wp2_with fail
        go_ret
        exact ⟨by rw [hR.out]; rfl, by (repeat (first | exact Kp.refl _ _ | assumption | refine Kp.drew ?_ | refine Kp.drewN ?_ _ | refine Kp.alloc ?_ _ | (refine Kp.setCell ?_ (by first | (left; simp; done) | (right; simp; try omega)) _) | (refine Kp.trans' ?_ (by assumption) (by simp; try omega))))⟩
      · have hxy' : decide (x < y) = false := decide_eq_false hxy
        have hR := Lib.hid (hG.out (by omega))
        go_wp2_with fail
        go_quiet ((go_at_call 89; exact Calls.quiet_of_same ((less_calls _ _ _).mono fun _ _ ⟨a, b⟩ => ⟨a, b.symm⟩)))
        go_wp2_with fail
        go_roundw
        case rel => first | exact ⟨m, by omega, by omega, int_eq' (by omega), hR.out, by (repeat (first | exact Kp.refl _ _ | assumption | refine Kp.drew ?_ | refine Kp.drewN ?_ _ | refine Kp.alloc ?_ _ | (refine Kp.setCell ?_ (by first | (left; simp; done) | (right; simp; try omega)) _) | (refine Kp.trans' ?_ (by assumption) (by simp; try omega))))⟩ | ((repeat apply Exists.intro); exact ⟨⟨m, by omega, by omega, int_eq' (by omega), hR.out, by (repeat (first | exact Kp.refl _ _ | assumption | refine Kp.drew ?_ | refine Kp.drewN ?_ _ | refine Kp.alloc ?_ _ | (refine Kp.setCell ?_ (by first | (left; simp; done) | (right; simp; try omega)) _) | (refine Kp.trans' ?_ (by assumption) (by simp; try omega))))⟩, rfl⟩)
        case measure => simp [intOf]
    · have hlt' : decide (0 < j) = false := decide_eq_false hlt
      have hR : Hid (srt l = true) := srt_true l (fun i hi => HT.out i (by omega) hi)
      go_wp2_with fail
      go_ret
      exact ⟨by rw [hR.out]; rfl, hk⟩
/-- May a place be put? -/
def okPl (long : Bool) (x : Int) : Bool := decide (0 ≤ x) && decide (x ≤ 1048576) && (long || (x % 2 == 0 && decide (x ≤ 131070)))
def mayPl (l : List Int) (long : Bool) : Bool := decide (2 ≤ l.length) && decide (l.length ≤ 65536) && srt l && l.all (okPl long)
theorem wrongp_calls (long : Bool) (x : Int) (b : Nat) (w : World) (h : w.cell? ⟨b, 0, none⟩ = some (.bool long)) : Calls Try.prog 84 #[.int .i64 x, .pointer (some ⟨b, 0, none⟩)] w fun e w' => e = .returned (.bool (!okPl long x)) ∧ Kp [] w w' := by
  by_cases h1 : x < 0
  · have hE : Hid (okPl long x = false) := by unfold Hid okPl; rw [decide_eq_false (show ¬ 0 ≤ x by omega)]; rfl
    go_enter Try.func84, Try.ntmps84
    go_wp2
    go_ret
    exact ⟨by rw [hE.out]; rfl, Kp.refl _ _⟩
  · have h1' : decide (x < 0) = false := decide_eq_false h1
    by_cases h2 : 1048576 < x
    · have hE : Hid (okPl long x = false) := by unfold Hid okPl; rw [decide_eq_false (show ¬ x ≤ 1048576 by omega)]; simp
      go_enter Try.func84, Try.ntmps84
      go_wp2
      go_ret
      exact ⟨by rw [hE.out]; rfl, Kp.refl _ _⟩
    · have h2' : decide (1048576 < x) = false := decide_eq_false h2
      cases long
      · have hE : Hid (okPl false x = (x % 2 == 0 && decide (x ≤ 131070))) := by unfold Hid okPl; rw [decide_eq_true (show 0 ≤ x by omega), decide_eq_true (show x ≤ 1048576 by omega)]; rfl
        by_cases h3 : x % 2 = 0
        · have hE2 : Hid ((!okPl false x) = decide (131070 < x)) := by rw [Hid, hE.out, h3]; by_cases h4 : x ≤ 131070 <;> simp [h4] <;> omega
          have h3' : (Int.tmod x 2 != 0) = false := by rw [Int.tmod_eq_emod_of_nonneg (by omega), h3]; rfl
          go_enter Try.func84, Try.ntmps84
          go_wp2
          go_ret
          exact ⟨by rw [hE2.out]; first | rfl | simp, Kp.refl _ _⟩
        · have hE2 : Hid ((!okPl false x) = true) := by rw [Hid, hE.out, beq_eq_false_iff_ne.2 h3]; rfl
          have h3' : (Int.tmod x 2 != 0) = true := by rw [Int.tmod_eq_emod_of_nonneg (by omega)]; exact bne_iff_ne.2 h3
          go_enter Try.func84, Try.ntmps84
          go_wp2
          go_ret
          exact ⟨by rw [hE2.out]; first | rfl | simp, Kp.refl _ _⟩
      · have hE : Hid (okPl true x = true) := by unfold Hid okPl; rw [decide_eq_true (show 0 ≤ x by omega), decide_eq_true (show x ≤ 1048576 by omega)]; rfl
        go_enter Try.func84, Try.ntmps84
        go_wp2
        go_ret
        exact ⟨by rw [hE.out]; rfl, Kp.refl _ _⟩
end Go.Proofs.Ythmokldmdcjklaa

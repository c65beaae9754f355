/- The contracts of the layer fixed: Mul, Add, Sub, MulDiv, Div, and those of its reference. -/
import Derived.Test.YtfgpocpfapnkkaaGreatFixB
namespace Go.Proofs.YtfgpocpfapnkkaaGreat
open Go.RowKit
set_option linter.unusedVariables false
def opV (x : Int) (l : List Int) : Int := if l.all mayB then outV x else 0
def opE (x : Int) (l : List Int) : Int := if l.all mayB then outE x else 10
theorem mul_calls (a b : Int) (w : World) : Calls Tryz.prog 103 #[.int .i64 a, .int .i64 b] w fun e w' => e = .returned (.tuple #[.int .i64 (opV (nearQ (a * b) 65536) [a, b]), .int .i64 (opE (nearQ (a * b) 65536) [a, b])]) ∧ Bel w w' := by
  by_cases h : ([a, b].all mayB) = true
  · have hf : Hid (opV (nearQ (a * b) 65536) [a, b] = _) := if_pos h
    have hf2 : Hid (opE (nearQ (a * b) 65536) [a, b] = _) := if_pos h
    have h1 : mayB a = true := by simp at h; exact h.1
    have h2 : mayB b = true := by simp at h; exact h.2
    have h3 := may_le h1
    have h4 := may_le h2
    have h5 := abs_prod (a := a) (b := b) (m := 2147483648) (n := 2147483648) (by omega) (by omega)
    clear h1 h2
    have H : Hid _ := h
    clear h
    go_enter Tryz.func103, Tryz.ntmps103
    go_wp2_with (first | (go_at_call 93; go_in) | fail)
    refine (all_calls _ [a, b] 2 rfl (by omega) _ (two_cells _ _ (by simp) a b _)).mono ?_; rintro e w' ⟨rfl, rfl⟩
    rw [H.out]
    go_wp2_with (first | (go_at_call 120; go_in) | fail)
    refine (ratio_calls _ _ _ (by omega) (by omega) (by omega) (by omega) (by omega) (by omega) (by omega) h5 _).mono ?_; rintro e w1 ⟨rfl, hd⟩
    have hd := hd.bel
    go_wp2_with (first | (go_at_call 116; refine (within_calls _ _).mono ?_; rintro e w' ⟨rfl, rfl⟩) | fail)
    go_ret2
    exact ⟨by rw [hf.out, hf2.out]; simp, by refine Bel.trans ?_ hd; (repeat (first | exact Bel.refl _ | assumption | refine Bel.drew ?_ | refine Bel.drewN ?_ _ | refine Bel.alloc ?_ _ | refine Bel.trans (by assumption) ?_ | (refine Bel.setCell ?_ (by simp; try omega) _)))⟩
  · have hf : Hid (opV (nearQ (a * b) 65536) [a, b] = _) := if_neg h
    have hf2 : Hid (opE (nearQ (a * b) 65536) [a, b] = _) := if_neg h
    have h' : Hid ([a, b].all mayB = false) := by unfold Hid; simpa only [Bool.not_eq_true] using h
    clear h
    go_enter Tryz.func103, Tryz.ntmps103
    go_wp2_with (first | (go_at_call 93; go_in) | fail)
    refine (all_calls _ [a, b] 2 rfl (by omega) _ (two_cells _ _ (by simp) a b _)).mono ?_; rintro e w' ⟨rfl, rfl⟩
    rw [h'.out]
    go_wp2
    go_ret2
    exact ⟨by rw [hf.out, hf2.out]; simp, by (repeat (first | exact Bel.refl _ | assumption | refine Bel.drew ?_ | refine Bel.drewN ?_ _ | refine Bel.alloc ?_ _ | refine Bel.trans (by assumption) ?_ | (refine Bel.setCell ?_ (by simp; try omega) _)))⟩
theorem add_calls (a b : Int) (w : World) : Calls Tryz.prog 67 #[.int .i64 a, .int .i64 b] w fun e w' => e = .returned (.tuple #[.int .i64 (opV (a + b) [a, b]), .int .i64 (opE (a + b) [a, b])]) ∧ Bel w w' := by
  by_cases h : ([a, b].all mayB) = true
  · have hf : Hid (opV (a + b) [a, b] = _) := if_pos h
    have hf2 : Hid (opE (a + b) [a, b] = _) := if_pos h
    have h1 : mayB a = true := by simp at h; exact h.1
    have h2 : mayB b = true := by simp at h; exact h.2
    have h3 := may_le h1
    have h4 := may_le h2
    clear h1 h2
    have H : Hid _ := h
    clear h
    go_enter Tryz.func67, Tryz.ntmps67
    go_wp2_with (first | (go_at_call 93; go_in) | fail)
    refine (all_calls _ [a, b] 2 rfl (by omega) _ (two_cells _ _ (by simp) a b _)).mono ?_; rintro e w' ⟨rfl, rfl⟩
    rw [H.out]
    go_wp2_with (first | (go_at_call 94; go_in) | fail)
    go_wp2_with (first | (go_at_call 116; refine (within_calls _ _).mono ?_; rintro e w' ⟨rfl, rfl⟩) | fail)
    go_ret2
    exact ⟨by rw [hf.out, hf2.out]; simp, by (repeat (first | exact Bel.refl _ | assumption | refine Bel.drew ?_ | refine Bel.drewN ?_ _ | refine Bel.alloc ?_ _ | refine Bel.trans (by assumption) ?_ | (refine Bel.setCell ?_ (by simp; try omega) _)))⟩
  · have hf : Hid (opV (a + b) [a, b] = _) := if_neg h
    have hf2 : Hid (opE (a + b) [a, b] = _) := if_neg h
    have h' : Hid ([a, b].all mayB = false) := by unfold Hid; simpa only [Bool.not_eq_true] using h
    clear h
    go_enter Tryz.func67, Tryz.ntmps67
    go_wp2_with (first | (go_at_call 93; go_in) | fail)
    refine (all_calls _ [a, b] 2 rfl (by omega) _ (two_cells _ _ (by simp) a b _)).mono ?_; rintro e w' ⟨rfl, rfl⟩
    rw [h'.out]
    go_wp2
    go_ret2
    exact ⟨by rw [hf.out, hf2.out]; simp, by (repeat (first | exact Bel.refl _ | assumption | refine Bel.drew ?_ | refine Bel.drewN ?_ _ | refine Bel.alloc ?_ _ | refine Bel.trans (by assumption) ?_ | (refine Bel.setCell ?_ (by simp; try omega) _)))⟩
theorem sub_calls (a b : Int) (w : World) : Calls Tryz.prog 102 #[.int .i64 a, .int .i64 b] w fun e w' => e = .returned (.tuple #[.int .i64 (opV (a - b) [a, b]), .int .i64 (opE (a - b) [a, b])]) ∧ Bel w w' := by
  by_cases h : ([a, b].all mayB) = true
  · have hf : Hid (opV (a - b) [a, b] = _) := if_pos h
    have hf2 : Hid (opE (a - b) [a, b] = _) := if_pos h
    have h1 : mayB a = true := by simp at h; exact h.1
    have h2 : mayB b = true := by simp at h; exact h.2
    have h3 := may_le h1
    have h4 := may_le h2
    clear h1 h2
    have H : Hid _ := h
    clear h
    go_enter Tryz.func102, Tryz.ntmps102
    go_wp2_with (first | (go_at_call 93; go_in) | fail)
    refine (all_calls _ [a, b] 2 rfl (by omega) _ (two_cells _ _ (by simp) a b _)).mono ?_; rintro e w' ⟨rfl, rfl⟩
    rw [H.out]
    go_wp2_with (first | (go_at_call 119; go_in) | fail)
    go_wp2_with (first | (go_at_call 116; refine (within_calls _ _).mono ?_; rintro e w' ⟨rfl, rfl⟩) | fail)
    go_ret2
    exact ⟨by rw [hf.out, hf2.out]; simp, by (repeat (first | exact Bel.refl _ | assumption | refine Bel.drew ?_ | refine Bel.drewN ?_ _ | refine Bel.alloc ?_ _ | refine Bel.trans (by assumption) ?_ | (refine Bel.setCell ?_ (by simp; try omega) _)))⟩
  · have hf : Hid (opV (a - b) [a, b] = _) := if_neg h
    have hf2 : Hid (opE (a - b) [a, b] = _) := if_neg h
    have h' : Hid ([a, b].all mayB = false) := by unfold Hid; simpa only [Bool.not_eq_true] using h
    clear h
    go_enter Tryz.func102, Tryz.ntmps102
    go_wp2_with (first | (go_at_call 93; go_in) | fail)
    refine (all_calls _ [a, b] 2 rfl (by omega) _ (two_cells _ _ (by simp) a b _)).mono ?_; rintro e w' ⟨rfl, rfl⟩
    rw [h'.out]
    go_wp2
    go_ret2
    exact ⟨by rw [hf.out, hf2.out]; simp, by (repeat (first | exact Bel.refl _ | assumption | refine Bel.drew ?_ | refine Bel.drewN ?_ _ | refine Bel.alloc ?_ _ | refine Bel.trans (by assumption) ?_ | (refine Bel.setCell ?_ (by simp; try omega) _)))⟩

def mdV (a b c : Int) : Int := if [a, b, c].all mayB then (if c = 0 then 0 else outV (nearQ (a * b) c)) else 0
def mdE (a b c : Int) : Int := if [a, b, c].all mayB then (if c = 0 then 1 else outE (nearQ (a * b) c)) else 10
theorem muldiv_calls (a b c : Int) (w : World) : Calls Tryz.prog 122 #[.int .i64 a, .int .i64 b, .int .i64 c] w fun e w' => e = .returned (.tuple #[.int .i64 (mdV a b c), .int .i64 (mdE a b c)]) ∧ Bel w w' := by
  by_cases h : ([a, b, c].all mayB) = true
  · have h1 : mayB a = true := by simp at h; exact h.1
    have h2 : mayB b = true := by simp at h; exact h.2.1
    have h2' : mayB c = true := by simp at h; exact h.2.2
    have h3 := may_le h1
    have h4 := may_le h2
    have h4' := may_le h2'
    have h5 := abs_prod (a := a) (b := b) (m := 2147483648) (n := 2147483648) (by omega) (by omega)
    clear h1 h2 h2'
    by_cases h0 : c = 0
    · have hf : Hid (mdV a b c = _) := (if_pos h).trans (if_pos h0)
      have hf2 : Hid (mdE a b c = _) := (if_pos h).trans (if_pos h0)
      have H : Hid _ := h
      have h0' : (c == 0) = true := by rw [beq_iff_eq]; exact h0
      clear h h0
      go_enter Tryz.func122, Tryz.ntmps122
      go_wp2_with fail
      refine (all_calls _ [a, b, c] 3 rfl (by omega) _ (three_cells _ _ (by simp) a b c _)).mono ?_; rintro e w' ⟨rfl, rfl⟩
      rw [H.out]
      go_wp2_with fail
      go_ret2
      exact ⟨by rw [hf.out, hf2.out]; simp, by (repeat (first | exact Bel.refl _ | assumption | refine Bel.drew ?_ | refine Bel.drewN ?_ _ | refine Bel.alloc ?_ _ | refine Bel.trans (by assumption) ?_ | (refine Bel.setCell ?_ (by simp; try omega) _)))⟩
    · have hf : Hid (mdV a b c = _) := (if_pos h).trans (if_neg h0)
      have hf2 : Hid (mdE a b c = _) := (if_pos h).trans (if_neg h0)
      have H : Hid _ := h
      have h0' : (c == 0) = false := by rw [beq_eq_false_iff_ne]; exact h0
      clear h
      go_enter Tryz.func122, Tryz.ntmps122
      go_wp2_with fail
      refine (all_calls _ [a, b, c] 3 rfl (by omega) _ (three_cells _ _ (by simp) a b c _)).mono ?_; rintro e w' ⟨rfl, rfl⟩
      rw [H.out]
      go_wp2_with fail
      refine (ratio_calls _ _ _ (by omega) (by omega) (by omega) (by omega) (by omega) (by omega) h0 h5 _).mono ?_; rintro e w1 ⟨rfl, hd⟩
      have hd := hd.bel
      go_wp2_with (first | (go_at_call 116; refine (within_calls _ _).mono ?_; rintro e w' ⟨rfl, rfl⟩) | fail)
      go_ret2
      exact ⟨by rw [hf.out, hf2.out]; simp, by refine Bel.trans ?_ hd; (repeat (first | exact Bel.refl _ | assumption | refine Bel.drew ?_ | refine Bel.drewN ?_ _ | refine Bel.alloc ?_ _ | refine Bel.trans (by assumption) ?_ | (refine Bel.setCell ?_ (by simp; try omega) _)))⟩
  · have hf : Hid (mdV a b c = _) := if_neg h
    have hf2 : Hid (mdE a b c = _) := if_neg h
    have h' : Hid ([a, b, c].all mayB = false) := by unfold Hid; simpa only [Bool.not_eq_true] using h
    clear h
    go_enter Tryz.func122, Tryz.ntmps122
    go_wp2_with fail
    refine (all_calls _ [a, b, c] 3 rfl (by omega) _ (three_cells _ _ (by simp) a b c _)).mono ?_; rintro e w' ⟨rfl, rfl⟩
    rw [h'.out]
    go_wp2
    go_ret2
    exact ⟨by rw [hf.out, hf2.out]; simp, by (repeat (first | exact Bel.refl _ | assumption | refine Bel.drew ?_ | refine Bel.drewN ?_ _ | refine Bel.alloc ?_ _ | refine Bel.trans (by assumption) ?_ | (refine Bel.setCell ?_ (by simp; try omega) _)))⟩
theorem div_calls (a b : Int) (w : World) : Calls Tryz.prog 104 #[.int .i64 a, .int .i64 b] w fun e w' => e = .returned (.tuple #[.int .i64 (mdV a 65536 b), .int .i64 (mdE a 65536 b)]) ∧ Bel w w' := by
  go_enter Tryz.func104, Tryz.ntmps104
  go_wp2_with fail
  refine (muldiv_calls _ _ _ _).mono ?_; rintro e w1 ⟨rfl, hd⟩
  go_wp2_with fail
  go_ret2
  exact ⟨rfl, hd⟩
end Go.Proofs.YtfgpocpfapnkkaaGreat

/- glyf: the reference's round of a whole number of parts. -/
import Derived.Test.YtafkhnlmipddmaaGreatOmE
import Derived.Test.YtafkhnlmipddmaaGreatQuiet
import Derived.BigQuiet
import Derived.Deep.DeepCutAuto
namespace Go.Proofs.YtafkhnlmipddmaaGreat
open Go.RowKit
set_option linter.unusedVariables false
set_option linter.unusedSimpArgs false
theorem rfloor_one (p : Int) (hp : -281474976710656 ≤ p ∧ p ≤ 281474976710656) (w : World) :
    Calls Tryz.prog 80 #[.int .i64 (p * 16384 + 8192), .int .i64 16384] w fun e w' => e = .returned (.int .i64 p) ∧ w = w' := by
  obtain ⟨A, hA⟩ : ∃ A, p * 16384 + 8192 = A := ⟨_, rfl⟩
  rw [hA]
  have hA1 : -4611686018427387904 ≤ A ∧ A ≤ 4611686018427396096 := by omega
  by_cases h0 : A < 0
  · have e1 : A.tdiv 16384 = p + 1 := by
      have h := Int.neg_tdiv (a := -A) (b := 16384)
      rw [Int.neg_neg, Int.tdiv_eq_ediv_of_nonneg (a := -A) (by omega)] at h
      omega
    have e2 : A.tmod 16384 = A - 16384 * (p + 1) := by
      have h := Int.tmod_def A 16384
      rw [e1] at h; omega
    have e3 : (A - 16384 * (p + 1) != 0) = true := by simp; omega
    have e4 : IntKind.i64.wrap (A - 16384 * (p + 1)) = A - 16384 * (p + 1) := by rw [IntKind.wrap_i64]; omega
    have e5 : IntKind.i64.wrap (p + 1) = p + 1 := by rw [IntKind.wrap_i64]; omega
    have d : decide (A < 0) = true := decide_eq_true h0
    clear hA h0
    go_enter Tryz.func80, Tryz.ntmps80
    go_wp2_with fail
    go_ret
    exact ⟨by simp, rfl⟩
  · have e1 : A.tdiv 16384 = p := by rw [Int.tdiv_eq_ediv_of_nonneg (by omega)]; omega
    have e2 : A.tmod 16384 = 8192 := by
      have h := Int.tmod_def A 16384
      rw [e1] at h; omega
    have d : decide (A < 0) = false := decide_eq_false h0
    clear hA h0
    go_enter Tryz.func80, Tryz.ntmps80
    go_wp2_with fail
    go_ret
    exact ⟨by simp, rfl⟩
theorem rround_one (p : Int) (hp : -281474976710656 ≤ p ∧ p ≤ 281474976710656) (w : World) :
    Calls Tryz.prog 63 #[.int .i64 (p * 16384)] w fun e w' => e = .returned (.int .i64 p) ∧ w = w' := by
  have HF := Lib.hid (fun W => rfloor_one p hp W)
  obtain ⟨A, hA⟩ : ∃ A, p * 16384 = A := ⟨_, rfl⟩
  rw [hA] at HF ⊢
  have e5 : IntKind.i64.wrap (A + 8192) = A + 8192 := by rw [IntKind.wrap_i64]; omega
  clear hA
  go_enter Tryz.func63, Tryz.ntmps63
  go_wp2_with fail
  refine (HF.out _).mono ?_; rintro e w1 ⟨rfl, rfl⟩
  go_wp2_with fail
  go_ret
  exact ⟨rfl, rfl⟩
theorem rfits_one (w : World) : Calls Tryz.prog 68 #[.int .i64 16384] w fun e w' => e = .returned (.bool true) ∧ w = w' := by
  go_enter Tryz.func68, Tryz.ntmps68
  go_wp2_with fail
  go_ret
  exact ⟨rfl, rfl⟩
theorem rfits_zero (w : World) : Calls Tryz.prog 68 #[.int .i64 0] w fun e w' => e = .returned (.bool true) ∧ w = w' := by
  go_enter Tryz.func68, Tryz.ntmps68
  go_wp2_with fail
  go_ret
  exact ⟨rfl, rfl⟩
theorem rmay_one (w : World) : Calls Tryz.prog 51 #[.agg #[.int .i64 16384, .int .i64 0, .int .i64 0, .int .i64 16384]] w fun e w' => e = .returned (.bool true) ∧ Kp [] w w' := by
  go_enter Tryz.func51, Tryz.ntmps51
  go_wp2_with fail
  refine (rfits_one _).mono ?_; rintro e w1 ⟨rfl, rfl⟩
  go_wp2_with fail
  refine (rfits_zero _).mono ?_; rintro e w1 ⟨rfl, rfl⟩
  go_wp2_with fail
  refine (rfits_zero _).mono ?_; rintro e w1 ⟨rfl, rfl⟩
  go_wp2_with fail
  refine (rfits_one _).mono ?_; rintro e w1 ⟨rfl, rfl⟩
  go_wp2_with fail
  go_ret
  exact ⟨rfl, by (repeat (first | exact Kp.refl _ _ | assumption | refine Kp.drew ?_ | refine Kp.drewN ?_ _ | refine Kp.alloc ?_ _ | (refine Kp.setCell ?_ (by first | (left; simp; done) | (right; simp; try omega)) _) | (refine Kp.trans' ?_ (by assumption) (by simp; try omega))))⟩
set_option maxRecDepth 100000 in
set_option maxHeartbeats 4000000 in
theorem rapply_one (x y : Int) (nx : numF x = true) (ny : numF y = true) (w : World) :
    Calls Tryz.prog 36 #[.agg #[.int .i64 16384, .int .i64 0, .int .i64 0, .int .i64 16384], .int .i64 x, .int .i64 y] w fun e w' => e = .returned (.tuple #[.int .i64 x, .int .i64 y, .int .i64 0]) ∧ Kp [] w w' := by
  have hx := (numF_iff x).1 nx
  have hy := (numF_iff y).1 ny
  have HX : Hid (∀ W, Calls Tryz.prog 63 #[.int .i64 (x * 16384)] W fun e w' => e = .returned (.int .i64 x) ∧ Kp [] W w') := fun W => (rround_one x (by omega) W).mono fun e w' ⟨h1, h2⟩ => ⟨h1, by rw [h2]; exact Kp.refl _ _⟩
  have HY : Hid (∀ W, Calls Tryz.prog 63 #[.int .i64 (y * 16384)] W fun e w' => e = .returned (.int .i64 y) ∧ Kp [] W w') := fun W => (rround_one y (by omega) W).mono fun e w' ⟨h1, h2⟩ => ⟨h1, by rw [h2]; exact Kp.refl _ _⟩
  have HMX := Lib.hid (fun W => rfmay_calls x W)
  have HMY := Lib.hid (fun W => rfmay_calls y W)
  rw [nx] at HMX
  rw [ny] at HMY
  have ex : IntKind.i64.wrap (x * 16384) = x * 16384 := by rw [IntKind.wrap_i64]; omega
  have ey : IntKind.i64.wrap (y * 16384) = y * 16384 := by rw [IntKind.wrap_i64]; omega
  clear hx hy nx ny
  go_enter Tryz.func36, Tryz.ntmps36
  go_wp2_with fail
  refine (rmay_one _).mono ?_; rintro e w1 ⟨rfl, hk1⟩
  have hka : Kp [] w w1 := Kp.trans ((Kp.refl _ _).alloc _) hk1
  have hb : w1.heap[w.heap.size]? = some (.cells #[.int .i64 16384, .int .i64 0, .int .i64 0, .int .i64 16384] 31 (0, 0)) := hk1.heap (heap_alloc_new w _) (by simp)
  have c0 : w1.cell? ⟨w.heap.size, 0, none⟩ = some (.int .i64 16384) := by rw [cell_of_row _ _ 0 _ _ (0, 0) hb]; rfl
  have c1 : w1.cell? ⟨w.heap.size, 1, none⟩ = some (.int .i64 0) := by rw [cell_of_row _ _ 1 _ _ (0, 0) hb]; rfl
  have c2 : w1.cell? ⟨w.heap.size, 2, none⟩ = some (.int .i64 0) := by rw [cell_of_row _ _ 2 _ _ (0, 0) hb]; rfl
  have c3 : w1.cell? ⟨w.heap.size, 3, none⟩ = some (.int .i64 16384) := by rw [cell_of_row _ _ 3 _ _ (0, 0) hb]; rfl
  have HK := Lib.hid hka
  have u0 := fun n : KW w1 => KW.cell c0 n
  have u1 := fun n : KW w1 => KW.cell c1 n
  have u2 := fun n : KW w1 => KW.cell c2 n
  have u3 := fun n : KW w1 => KW.cell c3 n
  clear hk1 hka hb c0 c1 c2 c3
  go_wp2_with fail
  refine (HMX.out _).mono ?_; rintro e w2 ⟨rfl, rfl⟩
  go_wp2_with fail
  refine (HMY.out _).mono ?_; rintro e w2 ⟨rfl, rfl⟩
  go_wp2_with fail
  refine wp_region_kq (by kernel_rfl) (by kernel_rfl) ?_
  repeat (go_big_quiet_step ((first | (go_at_call 63; exact Calls.kq (HX.out _)) | (go_at_call 63; exact Calls.kq (HY.out _)))))
  refine wpQuiet_nil ?_
  intro w5 hw'
  obtain ⟨⟨_, hkw5⟩, rfl⟩ := hw'
  go_wp2_with fail
  refine (HMX.out _).mono ?_; rintro e w6 ⟨rfl, rfl⟩
  go_wp2_with fail
  refine (HMY.out _).mono ?_; rintro e w6 ⟨rfl, rfl⟩
  go_wp2_with fail
  go_ret3
  exact ⟨rfl, HK.out.trans hkw5⟩
end Go.Proofs.YtafkhnlmipddmaaGreat

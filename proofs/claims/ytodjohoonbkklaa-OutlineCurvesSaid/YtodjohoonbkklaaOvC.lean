/- outline: Apply behind the matrix that lets a point be, one further to the right, two further up (what lives asks). -/
import Derived.Test.YtodjohoonbkklaaOvB
import Derived.Test.YtodjohoonbkklaaCpA
namespace Go.Proofs.Ytodjohoonbkklaa
open Go.RowKit
set_option linter.unusedVariables false
set_option linter.unusedSimpArgs false
theorem three_kp {w W : World} {A B C : Obj} (hk : Kp [] (((w.alloc A).alloc B).alloc C) W) : W.heap[w.heap.size]? = some A ∧ W.heap[w.heap.size + 1]? = some B ∧ W.heap[w.heap.size + 1 + 1]? = some C := by
  obtain ⟨a, b, c⟩ := three_heap (w := w) (A := A) (B := B) (C := C) rfl
  exact ⟨hk.heap a (by simp), hk.heap b (by simp), hk.heap c (by simp)⟩
theorem dot_x (x y : Int) (hx : -1000000 ≤ x ∧ x ≤ 1000000) (hy : -1000000 ≤ y ∧ y ≤ 1000000) (w : World) : Calls Try.prog 154 #[.int .i64 x, .int .i64 16384, .int .i64 y, .int .i64 0] w fun e w' => e = .returned (.int .i64 x) ∧ Kp [] w w' := by
  obtain ⟨x1, x2⟩ := hx
  obtain ⟨y1, y2⟩ := hy
  go_enter Try.func154, Try.ntmps154
  go_wp2_with fail
  go_ret
  exact ⟨congrArg (fun z => Ending.returned (Value.int .i64 z)) (by omega), by (repeat (first | exact Kp.refl _ _ | assumption | refine Kp.drew ?_ | refine Kp.drewN ?_ _ | refine Kp.alloc ?_ _ | (refine Kp.setCell ?_ (by first | (left; simp; done) | (right; simp; try omega)) _) | (refine Kp.trans' ?_ (by assumption) (by simp; try omega))))⟩
theorem dot_y (x y : Int) (hx : -1000000 ≤ x ∧ x ≤ 1000000) (hy : -1000000 ≤ y ∧ y ≤ 1000000) (w : World) : Calls Try.prog 154 #[.int .i64 x, .int .i64 0, .int .i64 y, .int .i64 16384] w fun e w' => e = .returned (.int .i64 y) ∧ Kp [] w w' := by
  obtain ⟨x1, x2⟩ := hx
  obtain ⟨y1, y2⟩ := hy
  go_enter Try.func154, Try.ntmps154
  go_wp2_with fail
  go_ret
  exact ⟨congrArg (fun z => Ending.returned (Value.int .i64 z)) (by omega), by (repeat (first | exact Kp.refl _ _ | assumption | refine Kp.drew ?_ | refine Kp.drewN ?_ _ | refine Kp.alloc ?_ _ | (refine Kp.setCell ?_ (by first | (left; simp; done) | (right; simp; try omega)) _) | (refine Kp.trans' ?_ (by assumption) (by simp; try omega))))⟩
theorem mbox {w W : World} {t : TypeId} {v0 v1 v2 v3 : Value} (hk : Kp [] (w.alloc (.cells #[v0, v1, v2, v3] t)) W) : W.cell? ⟨w.heap.size, 0, none⟩ = some v0 ∧ W.cell? ⟨w.heap.size, 1, none⟩ = some v1 ∧ W.cell? ⟨w.heap.size, 2, none⟩ = some v2 ∧ W.cell? ⟨w.heap.size, 3, none⟩ = some v3 :=
  ⟨hk.cell (by go_simp) (by simp), hk.cell (by go_simp) (by simp), hk.cell (by go_simp) (by simp), hk.cell (by go_simp) (by simp)⟩
theorem turn_one (x y : Int) (hx : -1000000 ≤ x ∧ x ≤ 1000000) (hy : -1000000 ≤ y ∧ y ≤ 1000000) (w : World) : Calls Try.prog 152 #[.agg #[.int .i64 16384, .int .i64 0, .int .i64 0, .int .i64 16384], .int .i64 x, .int .i64 y] w fun e w' => e = .returned (.tuple #[.int .i64 x, .int .i64 y]) ∧ Kp [] w w' := by
  go_enter Try.func152, Try.ntmps152
  go_wp2_with fail
  refine wp_gen ?_; intro W hW
  obtain ⟨q0, q1, q2, q3⟩ := mbox (w := w) (W := W) (by rw [hW]; exact Kp.refl _ _)
  have hk : Kp [] w W := by rw [hW]; (repeat (first | exact Kp.refl _ _ | assumption | refine Kp.drew ?_ | refine Kp.drewN ?_ _ | refine Kp.alloc ?_ _ | (refine Kp.setCell ?_ (by first | (left; simp; done) | (right; simp; try omega)) _) | (refine Kp.trans' ?_ (by assumption) (by simp; try omega))))
  have r0 := KW.cell q0
  have r1 := KW.cell q1
  have r2 := KW.cell q2
  have r3 := KW.cell q3
  clear q0 q1 q2 q3 hW
  refine wp_region_kq (by kernel_rfl) (by kernel_rfl) ?_
  repeat (go_big_quiet_step ((first | (go_at_call 154; with_reducible exact Calls.kq (dot_x x y hx hy _)) | (go_at_call 154; with_reducible exact Calls.kq (dot_y x y hx hy _)))))
  refine wpQuiet_nil ?_
  intro w1 hw'
  obtain ⟨⟨_, hkw1⟩, rfl⟩ := hw'
  have hk2 : Kp [] w w1 := hk.trans hkw1
  clear r0 r1 r2 r3
  go_wp2_with fail
  go_ret2
  exact ⟨rfl, hk2⟩
theorem fmay_yes (x : Int) (hx : -2147483648 ≤ x ∧ x ≤ 2147483648) (w : World) : Calls Try.prog 124 #[.int .i64 x] w fun e w' => e = .returned (.bool true) ∧ w = w' := by
  have := fmay_calls x w; rwa [(numF_iff x).2 hx] at this
theorem fmay_kp (x : Int) (hx : -2147483648 ≤ x ∧ x ≤ 2147483648) (w : World) : Calls Try.prog 124 #[.int .i64 x] w fun e w' => e = .returned (.bool true) ∧ Kp [] w w' :=
  (fmay_yes x hx w).mono fun _ _ h => ⟨h.1, by rw [h.2]; exact Kp.refl _ _⟩
theorem aapply_one (x y : Int) (hx : -1000000 ≤ x ∧ x ≤ 1000000) (hy : -1000000 ≤ y ∧ y ≤ 1000000) (w : World) : Calls Try.prog 147 #[.agg #[.int .i64 16384, .int .i64 0, .int .i64 0, .int .i64 16384], .int .i64 x, .int .i64 y] w fun e w' => e = .returned (.tuple #[.int .i64 x, .int .i64 y, .int .i64 0]) ∧ Kp [] w w' := by
  have HM := Lib.hid (amay_calls 16384 0 0 16384)
  rw [show fitsM 16384 0 0 16384 = true by decide] at HM
  have HX := Lib.hid (fmay_yes x (by omega))
  have HY := Lib.hid (fmay_yes y (by omega))
  have HT := Lib.hid (turn_one x y hx hy)
  go_enter Try.func147, Try.ntmps147
  go_wp2_with fail
  refine (HM.out _).mono ?_; rintro e w1 ⟨rfl, hk1⟩
  obtain ⟨q0, q1, q2, q3⟩ := mbox hk1
  have hk2 : Kp [] w w1 := Kp.trans (by (repeat (first | exact Kp.refl _ _ | assumption | refine Kp.drew ?_ | refine Kp.drewN ?_ _ | refine Kp.alloc ?_ _ | (refine Kp.setCell ?_ (by first | (left; simp; done) | (right; simp; try omega)) _) | (refine Kp.trans' ?_ (by assumption) (by simp; try omega))))) hk1
  clear hk1
  go_wp2_with fail
  refine (HX.out _).mono ?_; rintro e w2 ⟨rfl, rfl⟩
  go_wp2_with fail
  refine (HY.out _).mono ?_; rintro e w2 ⟨rfl, rfl⟩
  go_wp2_with fail
  refine (HT.out _).mono ?_; rintro e w2 ⟨rfl, hk3⟩
  go_wp2_with fail
  refine (HX.out _).mono ?_; rintro e w3 ⟨rfl, rfl⟩
  go_wp2_with fail
  refine (HY.out _).mono ?_; rintro e w3 ⟨rfl, rfl⟩
  go_wp2_with fail
  refine bodyPost_ret (v := .tuple #[.int .i64 x, .int .i64 y, .int .i64 0]) (by simp [results, Try.results147, go_sem]) rfl ⟨rfl, hk2.trans hk3⟩
set_option maxRecDepth 100000 in
set_option maxHeartbeats 4000000 in
theorem moved_one (x y k : Int) (hx : -1000000 ≤ x ∧ x ≤ 1000000) (hy : -1000000 ≤ y ∧ y ≤ 1000000) (w : World) : Calls Try.prog 125 #[.agg #[.int .i64 x, .int .i64 y, .int .i64 k], .agg #[.int .i64 16384, .int .i64 0, .int .i64 0, .int .i64 16384], .int .i64 1, .int .i64 2] w fun e w' => e = .returned (.tuple #[.agg #[.int .i64 (x + 1), .int .i64 (y + 2), .int .i64 k], .bool true]) ∧ Kp [] w w' := by
  have HA := Lib.hid (aapply_one x y hx hy)
  have HX := Lib.hid (fmay_yes (x + 1) (by omega))
  have HY := Lib.hid (fmay_yes (y + 2) (by omega))
  obtain ⟨x1, x2⟩ := hx
  obtain ⟨y1, y2⟩ := hy
  go_enter Try.func125, Try.ntmps125
  go_wp2_with fail
  refine (HA.out _).mono ?_; rintro e w1 ⟨rfl, hk1⟩
  obtain ⟨hA, _, hC⟩ := three_kp hk1
  have hk2 : Kp [] w w1 := Kp.trans (by (repeat (first | exact Kp.refl _ _ | assumption | refine Kp.drew ?_ | refine Kp.drewN ?_ _ | refine Kp.alloc ?_ _ | (refine Kp.setCell ?_ (by first | (left; simp; done) | (right; simp; try omega)) _) | (refine Kp.trans' ?_ (by assumption) (by simp; try omega))))) hk1
  have c2 : w1.cell? ⟨w.heap.size, 2, none⟩ = some (.int .i64 k) := by rw [cell_of_row w1 _ 2 _ _ (0, 0) hA]; rfl
  have HC := Lib.hid hC
  clear hA hC hk1
  go_wp2_with fail
  have hb := HC.out
  have f0 := frozen_of_row w1 _ 0 _ _ hb
  have f1 := frozen_of_row w1 _ 1 _ _ hb
  have f2 := frozen_of_row w1 _ 2 _ _ hb
  have c0 : w1.cell? ⟨w.heap.size + 1 + 1, 0, none⟩ = some (.int .i64 0) := by rw [cell_of_row w1 _ 0 _ _ (0, 0) hb]; rfl
  have c1 : w1.cell? ⟨w.heap.size + 1 + 1, 1, none⟩ = some (.int .i64 0) := by rw [cell_of_row w1 _ 1 _ _ (0, 0) hb]; rfl
  have c3 : w1.cell? ⟨w.heap.size + 1 + 1, 2, none⟩ = some (.int .i64 0) := by rw [cell_of_row w1 _ 2 _ _ (0, 0) hb]; rfl
  clear hb
  go_region_with ((first | (go_at_call 124; refine (HX.out _).mono ?_; rintro e w3 ⟨rfl, rfl⟩) | (go_at_call 124; refine (HY.out _).mono ?_; rintro e w3 ⟨rfl, rfl⟩)))
  all_goals
    go_wp2_with fail
    refine bodyPost_ret (v := .tuple #[.agg #[.int .i64 (x + 1), .int .i64 (y + 2), .int .i64 k], .bool true]) (by simp [results, Try.results125, go_sem, c0, c1, c3]) rfl ⟨rfl, by (repeat (first | exact Kp.refl _ _ | assumption | refine Kp.drew ?_ | refine Kp.drewN ?_ _ | refine Kp.alloc ?_ _ | (refine Kp.setCell ?_ (by first | (left; simp; done) | (right; simp; try omega)) _) | (refine Kp.trans' ?_ (by assumption) (by simp; try omega))))⟩
end Go.Proofs.Ytodjohoonbkklaa

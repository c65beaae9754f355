/- glyf: Apply behind the matrix that lets a point be, by any move. (Written by wip/glyf/gengla.py.) -/
import Derived.Test.YtafkhnlmipddmaaGreatOmE
import Derived.Test.YtafkhnlmipddmaaGreatCmA
import Derived.Deep.RegionHeld
import Derived.Deep.RegionHeld3
namespace Go.Proofs.YtafkhnlmipddmaaGreat
open Go.RowKit
set_option linter.unusedVariables false
set_option linter.unusedSimpArgs false
theorem three_kp {w W : World} {A B C : Obj} (hk : Kp [] (((w.alloc A).alloc B).alloc C) W) : W.heap[w.heap.size]? = some A ∧ W.heap[w.heap.size + 1]? = some B ∧ W.heap[w.heap.size + 1 + 1]? = some C := by
  obtain ⟨a, b, c⟩ := three_heap (w := w) (A := A) (B := B) (C := C) rfl
  exact ⟨hk.heap a (by simp), hk.heap b (by simp), hk.heap c (by simp)⟩
theorem dot_x (x y : Int) (hx : -2147483648 ≤ x ∧ x ≤ 2147483648) (hy : -2147483648 ≤ y ∧ y ≤ 2147483648) (w : World) : Calls Tryz.prog 110 #[.int .i64 x, .int .i64 16384, .int .i64 y, .int .i64 0] w fun e w' => e = .returned (.int .i64 x) ∧ Kp [] w w' := by
  obtain ⟨x1, x2⟩ := hx
  obtain ⟨y1, y2⟩ := hy
  go_enter Tryz.func110, Tryz.ntmps110
  go_wp2_with fail
  go_ret
  exact ⟨congrArg (fun z => Ending.returned (Value.int .i64 z)) (by omega), by (repeat (first | exact Kp.refl _ _ | assumption | refine Kp.drew ?_ | refine Kp.drewN ?_ _ | refine Kp.alloc ?_ _ | (refine Kp.setCell ?_ (by first | (left; simp; done) | (right; simp; try omega)) _) | (refine Kp.trans' ?_ (by assumption) (by simp; try omega))))⟩
theorem dot_y (x y : Int) (hx : -2147483648 ≤ x ∧ x ≤ 2147483648) (hy : -2147483648 ≤ y ∧ y ≤ 2147483648) (w : World) : Calls Tryz.prog 110 #[.int .i64 x, .int .i64 0, .int .i64 y, .int .i64 16384] w fun e w' => e = .returned (.int .i64 y) ∧ Kp [] w w' := by
  obtain ⟨x1, x2⟩ := hx
  obtain ⟨y1, y2⟩ := hy
  go_enter Tryz.func110, Tryz.ntmps110
  go_wp2_with fail
  go_ret
  exact ⟨congrArg (fun z => Ending.returned (Value.int .i64 z)) (by omega), by (repeat (first | exact Kp.refl _ _ | assumption | refine Kp.drew ?_ | refine Kp.drewN ?_ _ | refine Kp.alloc ?_ _ | (refine Kp.setCell ?_ (by first | (left; simp; done) | (right; simp; try omega)) _) | (refine Kp.trans' ?_ (by assumption) (by simp; try omega))))⟩
theorem mbox {w W : World} {t : TypeId} {v0 v1 v2 v3 : Value} (hk : Kp [] (w.alloc (.cells #[v0, v1, v2, v3] t)) W) : W.cell? ⟨w.heap.size, 0, none⟩ = some v0 ∧ W.cell? ⟨w.heap.size, 1, none⟩ = some v1 ∧ W.cell? ⟨w.heap.size, 2, none⟩ = some v2 ∧ W.cell? ⟨w.heap.size, 3, none⟩ = some v3 :=
  ⟨hk.cell (by go_simp) (by simp), hk.cell (by go_simp) (by simp), hk.cell (by go_simp) (by simp), hk.cell (by go_simp) (by simp)⟩
theorem turn_one (x y : Int) (hx : -2147483648 ≤ x ∧ x ≤ 2147483648) (hy : -2147483648 ≤ y ∧ y ≤ 2147483648) (w : World) : Calls Tryz.prog 102 #[.agg #[.int .i64 16384, .int .i64 0, .int .i64 0, .int .i64 16384], .int .i64 x, .int .i64 y] w fun e w' => e = .returned (.tuple #[.int .i64 x, .int .i64 y]) ∧ Kp [] w w' := by
  go_enter Tryz.func102, Tryz.ntmps102
  go_wp2_with fail
  refine wp_gen ?_; intro W hW
  obtain ⟨q0, q1, q2, q3⟩ := mbox (w := w) (W := W) (by rw [hW]; exact Kp.refl _ _)
  have hk : Kp [] w W := by rw [hW]; (repeat (first | exact Kp.refl _ _ | assumption | refine Kp.drew ?_ | refine Kp.drewN ?_ _ | refine Kp.alloc ?_ _ | (refine Kp.setCell ?_ (by first | (left; simp; done) | (right; simp; try omega)) _) | (refine Kp.trans' ?_ (by assumption) (by simp; try omega))))
  have r0 := KW.cell q0
  have r1 := KW.cell q1
  have r2 := KW.cell q2
  have r3 := KW.cell q3
  clear q0 q1 q2 q3 hW
  refine wp_region_kq (by kernel_rfl) (by kernel_rfl) ?_
  repeat (go_big_quiet_step ((first | (go_at_call 110; with_reducible exact Calls.kq (dot_x x y hx hy _)) | (go_at_call 110; with_reducible exact Calls.kq (dot_y x y hx hy _)))))
  refine wpQuiet_nil ?_
  intro w1 hw'
  obtain ⟨⟨_, hkw1⟩, rfl⟩ := hw'
  have hk2 : Kp [] w w1 := hk.trans hkw1
  clear r0 r1 r2 r3
  go_wp2_with fail
  go_ret2
  exact ⟨rfl, hk2⟩
theorem fmay_yes (x : Int) (hx : -2147483648 ≤ x ∧ x ≤ 2147483648) (w : World) : Calls Tryz.prog 101 #[.int .i64 x] w fun e w' => e = .returned (.bool true) ∧ w = w' := by
  have := fmay_calls x w; rwa [(numF_iff x).2 hx] at this
theorem fmay_kp (x : Int) (hx : -2147483648 ≤ x ∧ x ≤ 2147483648) (w : World) : Calls Tryz.prog 101 #[.int .i64 x] w fun e w' => e = .returned (.bool true) ∧ Kp [] w w' :=
  (fmay_yes x hx w).mono fun _ _ h => ⟨h.1, by rw [h.2]; exact Kp.refl _ _⟩
theorem aapply_one (x y : Int) (hx : -2147483648 ≤ x ∧ x ≤ 2147483648) (hy : -2147483648 ≤ y ∧ y ≤ 2147483648) (w : World) : Calls Tryz.prog 90 #[.agg #[.int .i64 16384, .int .i64 0, .int .i64 0, .int .i64 16384], .int .i64 x, .int .i64 y] w fun e w' => e = .returned (.tuple #[.int .i64 x, .int .i64 y, .int .i64 0]) ∧ Kp [] w w' := by
  have HM := Lib.hid (Cp.amay_calls 16384 0 0 16384)
  rw [show Cp.fitsM 16384 0 0 16384 = true by decide] at HM
  have HX := Lib.hid (fmay_yes x (by omega))
  have HY := Lib.hid (fmay_yes y (by omega))
  have HT := Lib.hid (turn_one x y hx hy)
  go_enter Tryz.func90, Tryz.ntmps90
  go_wp2_with fail
  refine (HM.out _).mono ?_; rintro e w1 ⟨rfl, hk1⟩
  obtain ⟨q0, q1, q2, q3⟩ := mbox hk1
  have hk2 : Kp [] w w1 := Kp.trans (by (repeat (first | exact Kp.refl _ _ | assumption | refine Kp.drew ?_ | refine Kp.drewN ?_ _ | refine Kp.alloc ?_ _ | (refine Kp.setCell ?_ (by first | (left; simp; done) | (right; simp; try omega)) _) | (refine Kp.trans' ?_ (by assumption) (by simp; try omega))))) hk1
  clear hk1
  go_wp2_with fail
  refine (HX.out _).mono ?_; rintro e w2 ⟨rfl, rfl⟩
  go_wp2_with fail
  refine (HY.out _).mono ?_; rintro e w2 ⟨rfl, rfl⟩
  go_wp2_with fail
  refine (HT.out _).mono ?_; rintro e w2 ⟨rfl, hk3⟩
  go_wp2_with fail
  refine (HX.out _).mono ?_; rintro e w3 ⟨rfl, rfl⟩
  go_wp2_with fail
  refine (HY.out _).mono ?_; rintro e w3 ⟨rfl, rfl⟩
  go_wp2_with fail
  refine bodyPost_ret (v := .tuple #[.int .i64 x, .int .i64 y, .int .i64 0]) (by simp [results, Tryz.results90, go_sem]) rfl ⟨rfl, hk2.trans hk3⟩
def mvP (dx dy : Int) (p : Pn) : Pn := ⟨p.x + dx, p.y + dy, p.k⟩
def mvOk (dx dy : Int) (p : Pn) : Bool := numF (p.x + dx) && numF (p.y + dy)
/-- An outline, further on. -/
def applyM (o : List (List Pn)) (dx dy : Int) : List (List Pn) × Int := if (o.all fun c => c.all (mvOk dx dy)) = true then (o.map (List.map (mvP dx dy)), 0) else ([], 10)
set_option maxRecDepth 100000 in
set_option maxHeartbeats 4000000 in
theorem moved_x (x y k dx dy : Int) (nx : numF x = true) (ny : numF y = true) (ndx : numF dx = true) (ndy : numF dy = true) (hx : numF (x + dx) = false) (w : World) : Calls Tryz.prog 103 #[.agg #[.int .i64 x, .int .i64 y, .int .i64 k], .agg #[.int .i64 16384, .int .i64 0, .int .i64 0, .int .i64 16384], .int .i64 dx, .int .i64 dy] w fun e w' => e = .returned (.tuple #[.agg #[.int .i64 (x + dx), .int .i64 (y + dy), .int .i64 k], .bool false]) ∧ Kp [] w w' := by
  rw [numF_iff] at nx ny ndx ndy
  have HA := Lib.hid (aapply_one x y nx ny)
  have HX := Lib.hid (fun W => fmay_calls (x + dx) W)
  rw [hx] at HX
  obtain ⟨x1, x2⟩ := nx
  obtain ⟨y1, y2⟩ := ny
  obtain ⟨x3, x4⟩ := ndx
  obtain ⟨y3, y4⟩ := ndy
  have e1 : IntKind.i64.wrap (x + dx) = x + dx := by rw [IntKind.wrap_i64]; omega
  have e2 : IntKind.i64.wrap (y + dy) = y + dy := by rw [IntKind.wrap_i64]; omega
  clear x1 x2 x3 x4 y1 y2 y3 y4 hx
  go_enter Tryz.func103, Tryz.ntmps103
  go_wp2_with fail
  refine (HA.out _).mono ?_; rintro e w1 ⟨rfl, hk1⟩
  obtain ⟨hA, _, hC⟩ := three_kp hk1
  have hk2 : Kp [] w w1 := Kp.trans (by (repeat (first | exact Kp.refl _ _ | assumption | refine Kp.drew ?_ | refine Kp.drewN ?_ _ | refine Kp.alloc ?_ _ | (refine Kp.setCell ?_ (by first | (left; simp; done) | (right; simp; try omega)) _) | (refine Kp.trans' ?_ (by assumption) (by simp; try omega))))) hk1
  have c2 : w1.cell? ⟨w.heap.size, 2, none⟩ = some (.int .i64 k) := by rw [cell_of_row w1 _ 2 _ _ (0, 0) hA]; rfl
  have HC := Lib.hid hC
  clear hA hC hk1
  go_wp2_with fail
  have hb := HC.out
  have f0 := frozen_of_row w1 _ 0 _ _ hb
  have f1 := frozen_of_row w1 _ 1 _ _ hb
  have f2 := frozen_of_row w1 _ 2 _ _ hb
  have c0 : w1.cell? ⟨w.heap.size + 1 + 1, 0, none⟩ = some (.int .i64 0) := by rw [cell_of_row w1 _ 0 _ _ (0, 0) hb]; rfl
  have c1 : w1.cell? ⟨w.heap.size + 1 + 1, 1, none⟩ = some (.int .i64 0) := by rw [cell_of_row w1 _ 1 _ _ (0, 0) hb]; rfl
  have c3 : w1.cell? ⟨w.heap.size + 1 + 1, 2, none⟩ = some (.int .i64 0) := by rw [cell_of_row w1 _ 2 _ _ (0, 0) hb]; rfl
  clear hb
  first | go_region_with (first | (go_at_call 101; with_reducible refine (HX.out _).mono ?_; rintro e w3 ⟨rfl, rfl⟩)) | fail
  all_goals
    go_wp2_with fail
    refine bodyPost_ret (v := .tuple #[.agg #[.int .i64 (x + dx), .int .i64 (y + dy), .int .i64 k], .bool false]) (by simp [results, Tryz.results103, go_sem, c0, c1, c3]) rfl ⟨rfl, by (repeat (first | exact Kp.refl _ _ | assumption | refine Kp.drew ?_ | refine Kp.drewN ?_ _ | refine Kp.alloc ?_ _ | (refine Kp.setCell ?_ (by first | (left; simp; done) | (right; simp; try omega)) _) | (refine Kp.trans' ?_ (by assumption) (by simp; try omega))))⟩
set_option maxRecDepth 100000 in
set_option maxHeartbeats 4000000 in
theorem moved_y (x y k dx dy : Int) (nx : numF x = true) (ny : numF y = true) (ndx : numF dx = true) (ndy : numF dy = true) (hx : numF (x + dx) = true) (hy : numF (y + dy) = false) (w : World) : Calls Tryz.prog 103 #[.agg #[.int .i64 x, .int .i64 y, .int .i64 k], .agg #[.int .i64 16384, .int .i64 0, .int .i64 0, .int .i64 16384], .int .i64 dx, .int .i64 dy] w fun e w' => e = .returned (.tuple #[.agg #[.int .i64 (x + dx), .int .i64 (y + dy), .int .i64 k], .bool false]) ∧ Kp [] w w' := by
  rw [numF_iff] at nx ny ndx ndy
  have HA := Lib.hid (aapply_one x y nx ny)
  have HX := Lib.hid (fun W => fmay_calls (x + dx) W)
  rw [hx] at HX
  have HY := Lib.hid (fun W => fmay_calls (y + dy) W)
  rw [hy] at HY
  obtain ⟨x1, x2⟩ := nx
  obtain ⟨y1, y2⟩ := ny
  obtain ⟨x3, x4⟩ := ndx
  obtain ⟨y3, y4⟩ := ndy
  have e1 : IntKind.i64.wrap (x + dx) = x + dx := by rw [IntKind.wrap_i64]; omega
  have e2 : IntKind.i64.wrap (y + dy) = y + dy := by rw [IntKind.wrap_i64]; omega
  clear x1 x2 x3 x4 y1 y2 y3 y4 hx hy
  go_enter Tryz.func103, Tryz.ntmps103
  go_wp2_with fail
  refine (HA.out _).mono ?_; rintro e w1 ⟨rfl, hk1⟩
  obtain ⟨hA, _, hC⟩ := three_kp hk1
  have hk2 : Kp [] w w1 := Kp.trans (by (repeat (first | exact Kp.refl _ _ | assumption | refine Kp.drew ?_ | refine Kp.drewN ?_ _ | refine Kp.alloc ?_ _ | (refine Kp.setCell ?_ (by first | (left; simp; done) | (right; simp; try omega)) _) | (refine Kp.trans' ?_ (by assumption) (by simp; try omega))))) hk1
  have c2 : w1.cell? ⟨w.heap.size, 2, none⟩ = some (.int .i64 k) := by rw [cell_of_row w1 _ 2 _ _ (0, 0) hA]; rfl
  have HC := Lib.hid hC
  clear hA hC hk1
  go_wp2_with fail
  have hb := HC.out
  have f0 := frozen_of_row w1 _ 0 _ _ hb
  have f1 := frozen_of_row w1 _ 1 _ _ hb
  have f2 := frozen_of_row w1 _ 2 _ _ hb
  have c0 : w1.cell? ⟨w.heap.size + 1 + 1, 0, none⟩ = some (.int .i64 0) := by rw [cell_of_row w1 _ 0 _ _ (0, 0) hb]; rfl
  have c1 : w1.cell? ⟨w.heap.size + 1 + 1, 1, none⟩ = some (.int .i64 0) := by rw [cell_of_row w1 _ 1 _ _ (0, 0) hb]; rfl
  have c3 : w1.cell? ⟨w.heap.size + 1 + 1, 2, none⟩ = some (.int .i64 0) := by rw [cell_of_row w1 _ 2 _ _ (0, 0) hb]; rfl
  clear hb
  go_region_with (first | (go_at_call 101; with_reducible refine (HX.out _).mono ?_; rintro e w3 ⟨rfl, rfl⟩) | (go_at_call 101; with_reducible refine (HY.out _).mono ?_; rintro e w3 ⟨rfl, rfl⟩))
  all_goals
    go_wp2_with fail
    refine bodyPost_ret (v := .tuple #[.agg #[.int .i64 (x + dx), .int .i64 (y + dy), .int .i64 k], .bool false]) (by simp [results, Tryz.results103, go_sem, c0, c1, c3]) rfl ⟨rfl, by (repeat (first | exact Kp.refl _ _ | assumption | refine Kp.drew ?_ | refine Kp.drewN ?_ _ | refine Kp.alloc ?_ _ | (refine Kp.setCell ?_ (by first | (left; simp; done) | (right; simp; try omega)) _) | (refine Kp.trans' ?_ (by assumption) (by simp; try omega))))⟩
set_option maxRecDepth 100000 in
set_option maxHeartbeats 4000000 in
theorem moved_ok (x y k dx dy : Int) (nx : numF x = true) (ny : numF y = true) (ndx : numF dx = true) (ndy : numF dy = true) (hx : numF (x + dx) = true) (hy : numF (y + dy) = true) (w : World) : Calls Tryz.prog 103 #[.agg #[.int .i64 x, .int .i64 y, .int .i64 k], .agg #[.int .i64 16384, .int .i64 0, .int .i64 0, .int .i64 16384], .int .i64 dx, .int .i64 dy] w fun e w' => e = .returned (.tuple #[.agg #[.int .i64 (x + dx), .int .i64 (y + dy), .int .i64 k], .bool true]) ∧ Kp [] w w' := by
  rw [numF_iff] at nx ny ndx ndy
  have HA := Lib.hid (aapply_one x y nx ny)
  have HX := Lib.hid (fun W => fmay_calls (x + dx) W)
  rw [hx] at HX
  have HY := Lib.hid (fun W => fmay_calls (y + dy) W)
  rw [hy] at HY
  obtain ⟨x1, x2⟩ := nx
  obtain ⟨y1, y2⟩ := ny
  obtain ⟨x3, x4⟩ := ndx
  obtain ⟨y3, y4⟩ := ndy
  have e1 : IntKind.i64.wrap (x + dx) = x + dx := by rw [IntKind.wrap_i64]; omega
  have e2 : IntKind.i64.wrap (y + dy) = y + dy := by rw [IntKind.wrap_i64]; omega
  clear x1 x2 x3 x4 y1 y2 y3 y4 hx hy
  go_enter Tryz.func103, Tryz.ntmps103
  go_wp2_with fail
  refine (HA.out _).mono ?_; rintro e w1 ⟨rfl, hk1⟩
  obtain ⟨hA, _, hC⟩ := three_kp hk1
  have hk2 : Kp [] w w1 := Kp.trans (by (repeat (first | exact Kp.refl _ _ | assumption | refine Kp.drew ?_ | refine Kp.drewN ?_ _ | refine Kp.alloc ?_ _ | (refine Kp.setCell ?_ (by first | (left; simp; done) | (right; simp; try omega)) _) | (refine Kp.trans' ?_ (by assumption) (by simp; try omega))))) hk1
  have c2 : w1.cell? ⟨w.heap.size, 2, none⟩ = some (.int .i64 k) := by rw [cell_of_row w1 _ 2 _ _ (0, 0) hA]; rfl
  have HC := Lib.hid hC
  clear hA hC hk1
  go_wp2_with fail
  have hb := HC.out
  have f0 := frozen_of_row w1 _ 0 _ _ hb
  have f1 := frozen_of_row w1 _ 1 _ _ hb
  have f2 := frozen_of_row w1 _ 2 _ _ hb
  have c0 : w1.cell? ⟨w.heap.size + 1 + 1, 0, none⟩ = some (.int .i64 0) := by rw [cell_of_row w1 _ 0 _ _ (0, 0) hb]; rfl
  have c1 : w1.cell? ⟨w.heap.size + 1 + 1, 1, none⟩ = some (.int .i64 0) := by rw [cell_of_row w1 _ 1 _ _ (0, 0) hb]; rfl
  have c3 : w1.cell? ⟨w.heap.size + 1 + 1, 2, none⟩ = some (.int .i64 0) := by rw [cell_of_row w1 _ 2 _ _ (0, 0) hb]; rfl
  clear hb
  go_region_with (first | (go_at_call 101; with_reducible refine (HX.out _).mono ?_; rintro e w3 ⟨rfl, rfl⟩) | (go_at_call 101; with_reducible refine (HY.out _).mono ?_; rintro e w3 ⟨rfl, rfl⟩))
  all_goals
    go_wp2_with fail
    refine bodyPost_ret (v := .tuple #[.agg #[.int .i64 (x + dx), .int .i64 (y + dy), .int .i64 k], .bool true]) (by simp [results, Tryz.results103, go_sem, c0, c1, c3]) rfl ⟨rfl, by (repeat (first | exact Kp.refl _ _ | assumption | refine Kp.drew ?_ | refine Kp.drewN ?_ _ | refine Kp.alloc ?_ _ | (refine Kp.setCell ?_ (by first | (left; simp; done) | (right; simp; try omega)) _) | (refine Kp.trans' ?_ (by assumption) (by simp; try omega))))⟩
theorem moved_any (p : Pn) (dx dy : Int) (nx : numF p.x = true) (ny : numF p.y = true) (ndx : numF dx = true) (ndy : numF dy = true) (w : World) : Calls Tryz.prog 103 #[.agg #[.int .i64 p.x, .int .i64 p.y, .int .i64 p.k], .agg #[.int .i64 16384, .int .i64 0, .int .i64 0, .int .i64 16384], .int .i64 dx, .int .i64 dy] w fun e w' => e = .returned (.tuple #[.agg #[.int .i64 (p.x + dx), .int .i64 (p.y + dy), .int .i64 p.k], .bool (mvOk dx dy p)]) ∧ Kp [] w w' := by
  unfold mvOk
  cases hx : numF (p.x + dx) with
  | false => exact moved_x p.x p.y p.k dx dy nx ny ndx ndy hx w
  | true =>
    cases hy : numF (p.y + dy) with
    | false => exact moved_y p.x p.y p.k dx dy nx ny ndx ndy hx hy w
    | true => exact moved_ok p.x p.y p.k dx dy nx ny ndx ndy hx hy w
theorem map_take_mvP (f : Pn → Pn) (c : List Pn) (i : Nat) (h : i < c.length) : (c.take (i + 1)).map f = (c.take i).map f ++ [f (c.getD i pn0)] := by
  rw [List.take_succ_eq_append_getElem h, List.map_append, List.getD_eq_getElem?_getD, List.getElem?_eq_getElem h]; rfl
theorem all_take {α : Type} (f : α → Bool) (c : List α) (d : α) {i : Nat} (h : i < c.length) (h1 : (c.take i).all f = true) (h2 : f (c.getD i d) = true) : (c.take (i + 1)).all f = true := by
  rw [List.take_succ_eq_append_getElem h, List.all_append, h1, Bool.true_and]
  rw [List.getD_eq_getElem?_getD, List.getElem?_eq_getElem h] at h2
  simpa using h2
theorem all_not {α : Type} (f : α → Bool) (c : List α) (d : α) {i : Nat} (h : i < c.length) (h2 : f (c.getD i d) = false) : c.all f = false := by
  rw [List.all_eq_false]
  refine ⟨c.getD i d, ?_, fun e => by rw [h2] at e; cases e⟩
  rw [List.getD_eq_getElem?_getD, List.getElem?_eq_getElem h]; exact List.getElem_mem h
set_option maxRecDepth 100000 in
set_option maxHeartbeats 4000000 in
theorem oapply_any (v : Value) (o : List (List Pn)) (dx dy : Int) (w : World) (hv : IsOut w v o) (hE : checkO o = 0) (ndx : numF dx = true) (ndy : numF dy = true) :
    Calls Tryz.prog 91 #[v, .agg #[.int .i64 16384, .int .i64 0, .int .i64 0, .int .i64 16384], .int .i64 dx, .int .i64 dy] w fun e w' => ∃ v', e = .returned (.tuple #[v', .int .i64 (applyM o dx dy).2]) ∧ IsOut w' v' (applyM o dx dy).1 ∧ Kp [] w w' := by
  obtain ⟨hz1, hz2, hz3⟩ := checkO_zero hE
  have HF : Hid (∀ j, j < o.length → (o.getD j []).length ≤ 4096) := fun j hj => by have := len_le_cnt o hj; omega
  have HC := Lib.hid (fun W (hk : Kp [] w W) => check_calls v o W (hv.kp0 hk) (fun j hj => by have := HF.out j hj; omega) (by omega))
  have HMA := Lib.hid (Cp.amay_calls 16384 0 0 16384)
  rw [show Cp.fitsM 16384 0 0 16384 = true by decide] at HMA
  have HX := Lib.hid (fun W => fmay_calls dx W)
  have HY := Lib.hid (fun W => fmay_calls dy W)
  rw [ndx] at HX
  rw [ndy] at HY
  have HNX := Lib.hid ndx
  have HNY := Lib.hid ndy
  have HNE : Hid (∀ j, j < o.length → ∀ i, i < (o.getD j []).length → numF ((o.getD j []).getD i pn0).x = true ∧ numF ((o.getD j []).getD i pn0).y = true) := fun j hj i hi => (mayCo_facts (hz3 j hj)).2.1 i hi
  have HR1 : Hid ((o.all fun c => c.all (mvOk dx dy)) = true → applyM o dx dy = (o.map (List.map (mvP dx dy)), 0)) := fun h => by unfold applyM; rw [if_pos h]
  have HR0 : Hid ((o.all fun c => c.all (mvOk dx dy)) = false → applyM o dx dy = ([], 10)) := fun h => by unfold applyM; rw [if_neg (by simp [h])]
  obtain ⟨RES, hRES⟩ : ∃ R, applyM o dx dy = R := ⟨_, rfl⟩
  rw [hRES] at HR1 HR0 ⊢
  rw [hE] at HC
  obtain ⟨i0, hi, hzz0, hzz1, hzz2⟩ := info_parts infoPs
  have HV := Lib.hid hv
  obtain ⟨pa, ca, rfl⟩ := hv.form
  obtain ⟨N, hN⟩ : ∃ N, o.length = N := ⟨_, rfl⟩
  have HN := Lib.hid hN
  have hN1 : N ≤ 256 := by rw [← hN]; exact hz1
  obtain ⟨X, hX⟩ : ∃ X, o.map (List.map (mvP dx dy)) = X := ⟨_, rfl⟩
  have HXX := Lib.hid hX
  rw [hX] at HR1
  rw [hN] at HV HC ⊢
  clear hN hv hz1 hz2 hz3 hE hX ndx ndy hRES
  go_enter Tryz.func91, Tryz.ntmps91
  go_wp2_with fail
  refine (HC.out _ (by (repeat (first | exact Kp.refl _ _ | assumption | refine Kp.drew ?_ | refine Kp.drewN ?_ _ | refine Kp.alloc ?_ _ | (refine Kp.setCell ?_ (by first | (left; simp; done) | (right; simp; try omega)) _) | (refine Kp.trans' ?_ (by assumption) (by simp; try omega)))))).mono ?_; rintro e w1 ⟨rfl, hk1⟩
  have hbx := mbox hk1
  have HKA : Hid (Kp [] w w1) := Kp.trans (by (repeat (first | exact Kp.refl _ _ | assumption | refine Kp.drew ?_ | refine Kp.drewN ?_ _ | refine Kp.alloc ?_ _ | (refine Kp.setCell ?_ (by first | (left; simp; done) | (right; simp; try omega)) _) | (refine Kp.trans' ?_ (by assumption) (by simp; try omega))))) hk1
  obtain ⟨q0, q1, q2, q3⟩ := hbx
  have hs01 : w.heap.size < w1.heap.size := World.block_lt_of_cell? w1 _ q0
  clear hk1 HC
  go_wp2_with fail
  refine (HMA.out _).mono ?_; rintro e w2 ⟨rfl, hk2⟩
  have HK2 : Hid (Kp [] w w2) := HKA.out.trans hk2
  have HB : Hid (∀ W, Kp [] w2 W → W.cell? ⟨w.heap.size, 0, none⟩ = some (.int .i64 16384) ∧ W.cell? ⟨w.heap.size, 1, none⟩ = some (.int .i64 0) ∧ W.cell? ⟨w.heap.size, 2, none⟩ = some (.int .i64 0) ∧ W.cell? ⟨w.heap.size, 3, none⟩ = some (.int .i64 16384)) :=
    fun W hW => ⟨(hk2.trans hW).cell q0 (by simp), (hk2.trans hW).cell q1 (by simp), (hk2.trans hW).cell q2 (by simp), (hk2.trans hW).cell q3 (by simp)⟩
  have hs02 : w.heap.size < w2.heap.size := by have := hk2.size; omega
  clear q0 q1 q2 q3 hk2 HKA hs01
  go_wp2_with fail
  refine (HX.out _).mono ?_; rintro e w3 ⟨rfl, rfl⟩
  go_wp2_with fail
  refine (HY.out _).mono ?_; rintro e w3 ⟨rfl, rfl⟩
  have HV0 := Lib.hid (HV.out.kp0 HK2.out)
  clear HV HX HY
  go_wp2_with fail
  go_loopw [11, 13, 14, 16, 17, 18, 39] (fun u _ _ _ _ _ i wr => ∃ (j : Nat) (l : Value), j ≤ N ∧ i = .int .i64 j ∧ l = u ∧ Hid (((o.take j).all fun c => c.all (mvOk dx dy)) = true ∧ WOut wr w2.heap.size l (X.take j) ∧ Kp [] w2 wr)) (fun _ _ _ _ _ _ i _ => N - (intOf i).toNat)
  case atStart => exact ⟨0, _, by omega, rfl, rfl, rfl, WOut.nil _ _, Kp.refl _ _⟩
  case round =>
    obtain ⟨j, l, hj, rfl, rfl, HJ⟩ := hrel
    by_cases hlt : j < N
    · have hjo : j < o.length := by rw [HN.out]; exact hlt
      obtain ⟨g1, o1, c1, p1, cv, e1, _, _, h1, hp⟩ := HV0.out.row hjo
      rw [HN.out] at e1
      cases e1
      have HP : Hid (∀ W, Kp [] w2 W → IsPs W (.slice p1 (o.getD j []).length cv) (o.getD j [])) := fun W hW => hp.kp0 hW
      replace h1 := HJ.out.2.2.cell h1 (by simp)
      have hL := HF.out j hjo
      have HNJ := Lib.hid (HNE.out j hjo)
      have HTK : Hid (X.take (j + 1) = X.take j ++ [(o.getD j []).map (mvP dx dy)]) := by show _ = _; rw [← HXX.out]; exact map_take (List.map (mvP dx dy)) hjo
      have HTL : Hid ((X.take j).length = j) := by show _ = _; rw [← HXX.out, List.length_take, List.length_map]; omega
      obtain ⟨vs, HW⟩ : ∃ vs, Hid (WVs wr w2.heap.size l vs (X.take j)) := by obtain ⟨vs, h⟩ := HJ.out.2.1; exact ⟨vs, h⟩
      have hr := HW.out.1
      rw [HTL.out] at hr
      obtain ⟨pl, cl, hl⟩ := slice_own hr
      subst hl
      have HKW : Hid (Kp [] w2 wr) := HJ.out.2.2
      have HAJ : Hid ((o.getD j []).all (mvOk dx dy) = true → ((o.take (j + 1)).all fun c => c.all (mvOk dx dy)) = true) := fun h => all_take _ o [] hjo HJ.out.1 h
      have HBJ : Hid ((o.getD j []).all (mvOk dx dy) = false → RES = ([], 10)) := fun h => HR0.out (all_not _ o [] hjo h)
      generalize o.getD j [] = c at *
      clear hp hr hjo HJ
      obtain ⟨L, hcl⟩ : ∃ L, c.length = L := ⟨_, rfl⟩
      have HCL := Lib.hid hcl
      rw [hcl] at h1 HP hL
      clear hcl
      rename World => w5
      have hszw : w2.heap.size ≤ w5.heap.size := HKW.out.size
      go_wp2_with fail
      go_loopw [14, 16, 17, 18, 45] (fun u _ _ _ i wr2 => ∃ (m : Nat) (l2 : Value), m ≤ L ∧ i = .int .i64 m ∧ l2 = u ∧ Hid ((c.take m).all (mvOk dx dy) = true ∧ wr2.ownsRow w5.heap.size 46 3 l2 m (psCells ((c.take m).map (mvP dx dy))) ∧ Kp [] w5 wr2)) (fun _ _ _ _ i _ => L - (intOf i).toNat)
      case atStart => exact ⟨0, _, by omega, rfl, rfl, rfl, World.ownsRow_nil _ _ _ _, Kp.refl _ _⟩
      case round =>
        obtain ⟨m, l2, hm, rfl, rfl, HI⟩ := hrel
        have hk2q : Kp [] w2 wr := HKW.out.trans HI.out.2.2
        by_cases hml : m < L
        · obtain ⟨g2, o2, q2, e2, _, _, x1, y1, k1⟩ := (HP.out _ hk2q).row (i := m) (by rw [HCL.out]; exact hml)
          rw [HCL.out] at e2
          cases e2
          obtain ⟨n1, n2⟩ := HNJ.out m (by rw [HCL.out]; exact hml)
          obtain ⟨b0, b1, b2, b3⟩ := HB.out _ hk2q
          have hbs : w.heap.size < wr.heap.size := World.block_lt_of_cell? wr _ b0
          have hmc : m < c.length := by rw [HCL.out]; exact hml
          have HMT := Lib.hid (map_take_mvP (mvP dx dy) c m hmc)
          have HAM : Hid (mvOk dx dy (c.getD m pn0) = true → (c.take (m + 1)).all (mvOk dx dy) = true) := fun h => all_take _ c pn0 hmc HI.out.1 h
          have HBM : Hid (mvOk dx dy (c.getD m pn0) = false → RES = ([], 10)) := fun h => HBJ.out (all_not _ c pn0 hmc h)
          clear hmc
          have hr2 := HI.out.2.1
          obtain ⟨p2, c2, e2⟩ := slice_own hr2
          subst e2
          have HR2 := Lib.hid hr2
          have HK2q := Lib.hid HI.out.2.2
          have hsq : w5.heap.size ≤ wr.heap.size := HI.out.2.2.size
          have HML : Hid (((c.take m).map (mvP dx dy)).length = m) := by show _ = _; rw [List.length_map, List.length_take, HCL.out]; omega
          generalize c.getD m pn0 = P at *
          obtain ⟨px, py, pk⟩ := P
          dsimp only at x1 y1 k1 n1 n2
          have HMV := Lib.hid (moved_any ⟨px, py, pk⟩ dx dy n1 n2 HNX.out HNY.out)
          generalize mvOk dx dy ⟨px, py, pk⟩ = OK at *
          dsimp only at HMV
          generalize (c.take m).map (mvP dx dy) = A at *
          clear hr2 HI hk2q n1 n2
          go_wp2_with fail
          refine (HMV.out _).mono ?_; rintro e w4 ⟨rfl, hk4⟩
          have HR4 : Hid (w4.ownsRow w5.heap.size 46 3 (.slice p2 m c2) m (psCells A)) := Kp.row (S := []) (Kp.trans (by (repeat (first | exact Kp.refl _ _ | assumption | refine Kp.drew ?_ | refine Kp.drewN ?_ _ | refine Kp.alloc ?_ _ | (refine Kp.setCell ?_ (by first | (left; simp; done) | (right; simp; try omega)) _) | (refine Kp.trans' ?_ (by assumption) (by simp; try omega))))) hk4) HR2.out (by simp)
          have HK4 : Hid (Kp [] w5 w4) := HK2q.out.trans (Kp.trans (by (repeat (first | exact Kp.refl _ _ | assumption | refine Kp.drew ?_ | refine Kp.drewN ?_ _ | refine Kp.alloc ?_ _ | (refine Kp.setCell ?_ (by first | (left; simp; done) | (right; simp; try omega)) _) | (refine Kp.trans' ?_ (by assumption) (by simp; try omega))))) hk4)
          have hs4 : w5.heap.size ≤ w4.heap.size := HK4.out.size
          clear hk4 HR2 HK2q HMV x1 y1 k1 b0 b1 b2 b3
          cases OK with
          | false =>
            have HB : Hid (RES = ([], 10)) := HBM.out (by first | rfl | trivial)
            have HKF : Hid (Kp [] w w4) := HK2.out.trans (HKW.out.trans HK4.out)
            go_wp2_with fail
            go_ret2
            rw [HB.out]
            exact ⟨_, rfl, IsOut.nil _ _, HKF.out.trans (by (repeat (first | exact Kp.refl _ _ | assumption | refine Kp.drew ?_ | refine Kp.drewN ?_ _ | refine Kp.alloc ?_ _ | (refine Kp.setCell ?_ (by first | (left; simp; done) | (right; simp; try omega)) _) | (refine Kp.trans' ?_ (by assumption) (by simp; try omega)))))⟩
          | true =>
          have HAM2 := Lib.hid (HAM.out (by first | rfl | trivial))
          go_wp2_with (at_builtin; refine holdT ?hh)
          case hh =>
          intro _
          refine wpList_pushP rfl _ _ rfl w5.heap.size _ A m HML.out (by rfl) (Kp.row (S := []) (by (repeat (first | exact Kp.refl _ _ | assumption | refine Kp.drew ?_ | refine Kp.drewN ?_ _ | refine Kp.alloc ?_ _ | (refine Kp.setCell ?_ (by first | (left; simp; done) | (right; simp; try omega)) _) | (refine Kp.trans' ?_ (by assumption) (by simp; try omega))))) HR4.out (by simp)) _ 1 ⟨px + dx, py + dy, pk⟩ rfl (lit3g (Kp.refl _ _) (by simp)) (by omega) (by simp; omega) ?_
          intro v6 w6 hown6 hgr6 hkb6
          obtain ⟨p6, q6, rfl⟩ := slice_own hown6
          have HF6 : Hid ((c.take (m + 1)).all (mvOk dx dy) = true ∧ w6.ownsRow w5.heap.size 46 3 (.slice p6 (m + 1) q6) (m + 1) (psCells ((c.take (m + 1)).map (mvP dx dy))) ∧ Kp [] w5 w6) := by
            show _ ∧ _ ∧ _
            rw [HMT.out]
            exact ⟨HAM2.out, hown6, hgr6 w5 (Nat.le_refl _) (HK4.out.trans (by (repeat (first | exact Kp.refl _ _ | assumption | refine Kp.drew ?_ | refine Kp.drewN ?_ _ | refine Kp.alloc ?_ _ | (refine Kp.setCell ?_ (by first | (left; simp; done) | (right; simp; try omega)) _) | (refine Kp.trans' ?_ (by assumption) (by simp; try omega))))))⟩
          clear hown6 hgr6 hkb6 HR4 HK4
          go_wp2_with fail
          go_roundw
          case rel => first | exact ⟨m + 1, _, by omega, int_eq' (by omega), rfl, HF6⟩ | ((repeat apply Exists.intro); exact ⟨⟨m + 1, _, by omega, int_eq' (by omega), rfl, HF6⟩, rfl⟩)
          case measure => simp [intOf] <;> omega
        · obtain rfl : m = L := by omega
          have HAC : Hid (((o.take (j + 1)).all fun c => c.all (mvOk dx dy)) = true) := by
            have h := HI.out.1
            rw [List.take_of_length_le (by rw [HCL.out]; exact Nat.le_refl _)] at h
            exact HAJ.out h
          have HI1 : Hid (IsPs wr l2 (c.map (mvP dx dy))) := by
            have h := HI.out.2.1
            rw [List.take_of_length_le (by rw [HCL.out]; exact Nat.le_refl _)] at h
            exact IsPs.owned (by rw [List.length_map, HCL.out]) h
          have HB1 : Hid (∀ b, blockOf l2 = some b → w5.heap.size ≤ b ∧ b < wr.heap.size) := fun b hb => HI.out.2.1.lt b (blockOf_own hb)
          have HK1 : Hid (Kp [] w5 wr) := HI.out.2.2
          obtain ⟨pv, qv, hv1⟩ := slice_own HI.out.2.1
          subst hv1
          have HW1 := Lib.hid (HW.out.kp0 HK1.out)
          have HR1 : Hid (wr.ownsRow w2.heap.size 23 1 (.slice pl j cl) j vs) := by have h := HW1.out.1; rw [HTL.out] at h; exact h
          have HOB : Hid (∀ b, (Value.slice pl j cl).ownBlock = some b → b < w5.heap.size) := fun b hb => by have h := HW.out.1; exact (h.lt b hb).2
          have hsz1 : w5.heap.size ≤ wr.heap.size := HK1.out.size
          have hvl : vs.length = j := by have := HR1.out.1; omega
          clear HI HW
          go_wp2_with (at_builtin; refine wpList_append_lies _ rfl _ _ 22 rfl w2.heap.size 23 i0 (.slice none 0 0) 1 24 Tryz.underlying22 hi hzz0 hzz1 hzz2 rfl (by decide) (.slice pl j cl) j vs rfl ?hown ⟨wr.heap.size, 0, none⟩ 1 1 [.slice pv m qv] rfl rfl ?hnews ?hone (by decide) ?hm ?hb1 ?hb2 (wr.heap.size + 1) ?hH ?hk)
          case hown => exact Kp.row (S := []) (by (repeat (first | exact Kp.refl _ _ | assumption | refine Kp.drew ?_ | refine Kp.drewN ?_ _ | refine Kp.alloc ?_ _ | (refine Kp.setCell ?_ (by first | (left; simp; done) | (right; simp; try omega)) _) | (refine Kp.trans' ?_ (by assumption) (by simp; try omega))))) HR1.out (by simp)
          case hnews => exact World.news_of_block (heap_alloc_new wr _)
          case hone => intro u hu; simp at hu; subst hu; rfl
          case hm => unfold maxLen; omega
          case hb1 => omega
          case hb2 => simp; omega
          case hH => simp
          case hk =>
          intro g4 c4 w4 hown hgr hat hlt4
          have hka : Kp [] wr (wr.alloc (.cells #[.slice pv m qv] 23)) := by (repeat (first | exact Kp.refl _ _ | assumption | refine Kp.drew ?_ | refine Kp.drewN ?_ _ | refine Kp.alloc ?_ _ | (refine Kp.setCell ?_ (by first | (left; simp; done) | (right; simp; try omega)) _) | (refine Kp.trans' ?_ (by assumption) (by simp; try omega))))
          have HW2 := HW1.out.kp0 hka
          have hpush := WVs.push (H := wr.heap.size + 1) HW2 ((HI1.out : IsPs wr (.slice pv m qv) (c.map (mvP dx dy))).kp0 hka) (fun b hb => by
            have h9 := HB1.out b hb
            exact ⟨fun e => by have := HOB.out b e; omega, by simp; omega, by omega⟩) (by rw [HTL.out]; exact hown) hgr hat (by simp)
          rw [HTL.out, ← HTK.out] at hpush
          have HPU : Hid (((o.take (j + 1)).all fun c => c.all (mvOk dx dy)) = true ∧ WOut w4 w2.heap.size (.slice (some ⟨g4, 0, none⟩) (j + 1) c4) (X.take (j + 1)) ∧ Kp [] w2 w4) := ⟨HAC.out, ⟨_, hpush⟩, by
            have hkk : Kp [] w2 w5 := HKW.out
            exact Kp.grown (hkk.trans (HK1.out.trans hka)) hgr (fun k hk => .inr (own_ge HR1.out k hk))⟩
          clear hown hgr hat hka HW2 hpush hlt4
          go_wp2_with fail
          go_roundw
          case rel => first | exact ⟨j + 1, _, by omega, int_eq' (by omega), rfl, HPU⟩ | ((repeat apply Exists.intro); exact ⟨⟨j + 1, _, by omega, int_eq' (by omega), rfl, HPU⟩, rfl⟩)
          case measure => simp [intOf] <;> omega
    · obtain rfl : j = N := by omega
      have HE := Lib.hid HJ.out
      rw [show X.take j = X from List.take_of_length_le (by rw [← HXX.out, List.length_map, HN.out]; exact Nat.le_refl _), show o.take j = o from List.take_of_length_le (by rw [HN.out]; exact Nat.le_refl _)] at HE
      have HB : Hid (RES = (X, 0)) := HR1.out HE.out.1
      have HW : Hid (IsOut wr l X) := HE.out.2.1.out
      have HK : Hid (Kp [] w wr) := HK2.out.trans HE.out.2.2
      clear HJ HE
      go_wp2_with fail
      go_ret2
      rw [HB.out]
      exact ⟨_, rfl, HW.out, HK.out⟩
end Go.Proofs.YtafkhnlmipddmaaGreat

/- stack: moving, find, IsOp. (Written by wip/stack/genste.py.) -/
import Derived.Test.YtfgpocpfapnkkaaGreatStD
import Derived.Laws.EntriesVeiled
namespace Go.Proofs.YtfgpocpfapnkkaaGreat
open Go.RowKit
set_option linter.unusedVariables false
set_option linter.unusedSimpArgs false
/-- The operators of numbers, and how many each needs. -/
def isNum (op : Int) : Prop := op = 9 ∨ op = 14 ∨ op = 26 ∨ op = 5 ∨ op = 10 ∨ op = 11 ∨ op = 24 ∨ op = 12 ∨ op = 3 ∨ op = 4 ∨ op = 15
def isMov (op : Int) : Prop := op = 18 ∨ op = 27 ∨ op = 29 ∨ op = 21 ∨ op = 28 ∨ op = 30 ∨ op = 20 ∨ op = 22 ∨ op = 23
def needN (op : Int) : Int := if op = 9 ∨ op = 14 ∨ op = 26 ∨ op = 5 then 1 else 2
noncomputable def numOp (op : Int) : Int → Int → Int × Int := if op = 9 ∨ op = 14 ∨ op = 26 ∨ op = 5 then (fun a _ => oneF op a) else twoF op
set_option maxRecDepth 100000 in
set_option maxHeartbeats 2000000 in
theorem moving_18 (w : World) : Calls Tryz.prog 92 #[.int .i64 18] w fun e w' => e = .returned (.tuple #[.agg #[.int .i64 18, .int .i64 1, .nilFunc, .func (.func 106) #[] #[]], .bool true]) ∧ Kp [] w w' := by
  go_enter Tryz.func92, Tryz.ntmps92
  go_wp2_with fail
  refine bodyPost_ret (v := .tuple #[.agg #[.int .i64 18, .int .i64 1, .nilFunc, .func (.func 106) #[] #[]], .bool true]) (by simp [results, Tryz.results92, go_sem]) rfl ⟨rfl, by (repeat (first | exact Kp.refl _ _ | assumption | refine Kp.drew ?_ | refine Kp.drewN ?_ _ | refine Kp.alloc ?_ _ | (refine Kp.setCell ?_ (by first | (left; simp; done) | (right; simp; try omega)) _) | (refine Kp.trans' ?_ (by assumption) (by simp; try omega))))⟩
set_option maxRecDepth 100000 in
set_option maxHeartbeats 2000000 in
theorem blk4 {w : World} {B : Nat} {t : TypeId} {v0 v1 v2 v3 : Value} (h : w.heap[B]? = some (.cells #[v0, v1, v2, v3] t (0, 0))) :
    w.cell? ⟨B, 0, none⟩ = some v0 ∧ w.cell? ⟨B, 1, none⟩ = some v1 ∧ w.cell? ⟨B, 2, none⟩ = some v2 ∧ w.cell? ⟨B, 3, none⟩ = some v3 ∧ w.frozen? ⟨B, 0, none⟩ = false ∧ w.frozen? ⟨B, 1, none⟩ = false ∧ w.frozen? ⟨B, 2, none⟩ = false ∧ w.frozen? ⟨B, 3, none⟩ = false :=
  ⟨by rw [cell_of_row w B 0 _ _ _ h]; rfl, by rw [cell_of_row w B 1 _ _ _ h]; rfl, by rw [cell_of_row w B 2 _ _ _ h]; rfl, by rw [cell_of_row w B 3 _ _ _ h]; rfl, frozen_of_row w B 0 _ _ h, frozen_of_row w B 1 _ _ h, frozen_of_row w B 2 _ _ h, frozen_of_row w B 3 _ _ h⟩
set_option maxRecDepth 100000 in
set_option maxHeartbeats 2000000 in
theorem find_18 (w : World) : Calls Tryz.prog 64 #[.int .i64 18] w fun e w' => e = .returned (.tuple #[.agg #[.int .i64 18, .int .i64 1, .nilFunc, .func (.func 106) #[] #[]], .bool true]) ∧ Kp [] w w' := by
  have hblk := heap_alloc_new w (.cells #[.int .i64 0, .int .i64 0, .nilFunc, .nilFunc] 93)
  go_enter Tryz.func64, Tryz.ntmps64
  go_wp2_with fail
  refine (moving_18 _).mono ?_; rintro e w1 ⟨rfl, hk⟩
  obtain ⟨c0, c1, c2, c3, f0, f1, f2, f3⟩ := blk4 (hk.heap hblk (by simp))
  have hk2 := ((Kp.refl [] w).alloc (.cells #[.int .i64 0, .int .i64 0, .nilFunc, .nilFunc] 93)).trans hk
  clear hk hblk
  go_wp2_with fail
  refine bodyPost_ret (v := .tuple #[.agg #[.int .i64 18, .int .i64 1, .nilFunc, .func (.func 106) #[] #[]], .bool true]) (by simp [results, Tryz.results64, go_sem, c0, c1, c2, c3]) rfl ⟨rfl, by (repeat (first | exact Kp.refl _ _ | assumption | refine Kp.drew ?_ | refine Kp.drewN ?_ _ | refine Kp.alloc ?_ _ | (refine Kp.setCell ?_ (by first | (left; simp; done) | (right; simp; try omega)) _) | (refine Kp.trans' ?_ (by assumption) (by simp; try omega))))⟩
set_option maxRecDepth 100000 in
set_option maxHeartbeats 2000000 in
theorem moving_27 (w : World) : Calls Tryz.prog 92 #[.int .i64 27] w fun e w' => e = .returned (.tuple #[.agg #[.int .i64 27, .int .i64 1, .nilFunc, .func (.func 107) #[] #[]], .bool true]) ∧ Kp [] w w' := by
  go_enter Tryz.func92, Tryz.ntmps92
  go_wp2_with fail
  refine bodyPost_ret (v := .tuple #[.agg #[.int .i64 27, .int .i64 1, .nilFunc, .func (.func 107) #[] #[]], .bool true]) (by simp [results, Tryz.results92, go_sem]) rfl ⟨rfl, by (repeat (first | exact Kp.refl _ _ | assumption | refine Kp.drew ?_ | refine Kp.drewN ?_ _ | refine Kp.alloc ?_ _ | (refine Kp.setCell ?_ (by first | (left; simp; done) | (right; simp; try omega)) _) | (refine Kp.trans' ?_ (by assumption) (by simp; try omega))))⟩
set_option maxRecDepth 100000 in
set_option maxHeartbeats 2000000 in
theorem find_27 (w : World) : Calls Tryz.prog 64 #[.int .i64 27] w fun e w' => e = .returned (.tuple #[.agg #[.int .i64 27, .int .i64 1, .nilFunc, .func (.func 107) #[] #[]], .bool true]) ∧ Kp [] w w' := by
  have hblk := heap_alloc_new w (.cells #[.int .i64 0, .int .i64 0, .nilFunc, .nilFunc] 93)
  go_enter Tryz.func64, Tryz.ntmps64
  go_wp2_with fail
  refine (moving_27 _).mono ?_; rintro e w1 ⟨rfl, hk⟩
  obtain ⟨c0, c1, c2, c3, f0, f1, f2, f3⟩ := blk4 (hk.heap hblk (by simp))
  have hk2 := ((Kp.refl [] w).alloc (.cells #[.int .i64 0, .int .i64 0, .nilFunc, .nilFunc] 93)).trans hk
  clear hk hblk
  go_wp2_with fail
  refine bodyPost_ret (v := .tuple #[.agg #[.int .i64 27, .int .i64 1, .nilFunc, .func (.func 107) #[] #[]], .bool true]) (by simp [results, Tryz.results64, go_sem, c0, c1, c2, c3]) rfl ⟨rfl, by (repeat (first | exact Kp.refl _ _ | assumption | refine Kp.drew ?_ | refine Kp.drewN ?_ _ | refine Kp.alloc ?_ _ | (refine Kp.setCell ?_ (by first | (left; simp; done) | (right; simp; try omega)) _) | (refine Kp.trans' ?_ (by assumption) (by simp; try omega))))⟩
set_option maxRecDepth 100000 in
set_option maxHeartbeats 2000000 in
theorem moving_29 (w : World) : Calls Tryz.prog 92 #[.int .i64 29] w fun e w' => e = .returned (.tuple #[.agg #[.int .i64 29, .int .i64 1, .nilFunc, .func (.func 108) #[] #[]], .bool true]) ∧ Kp [] w w' := by
  go_enter Tryz.func92, Tryz.ntmps92
  go_wp2_with fail
  refine bodyPost_ret (v := .tuple #[.agg #[.int .i64 29, .int .i64 1, .nilFunc, .func (.func 108) #[] #[]], .bool true]) (by simp [results, Tryz.results92, go_sem]) rfl ⟨rfl, by (repeat (first | exact Kp.refl _ _ | assumption | refine Kp.drew ?_ | refine Kp.drewN ?_ _ | refine Kp.alloc ?_ _ | (refine Kp.setCell ?_ (by first | (left; simp; done) | (right; simp; try omega)) _) | (refine Kp.trans' ?_ (by assumption) (by simp; try omega))))⟩
set_option maxRecDepth 100000 in
set_option maxHeartbeats 2000000 in
theorem find_29 (w : World) : Calls Tryz.prog 64 #[.int .i64 29] w fun e w' => e = .returned (.tuple #[.agg #[.int .i64 29, .int .i64 1, .nilFunc, .func (.func 108) #[] #[]], .bool true]) ∧ Kp [] w w' := by
  have hblk := heap_alloc_new w (.cells #[.int .i64 0, .int .i64 0, .nilFunc, .nilFunc] 93)
  go_enter Tryz.func64, Tryz.ntmps64
  go_wp2_with fail
  refine (moving_29 _).mono ?_; rintro e w1 ⟨rfl, hk⟩
  obtain ⟨c0, c1, c2, c3, f0, f1, f2, f3⟩ := blk4 (hk.heap hblk (by simp))
  have hk2 := ((Kp.refl [] w).alloc (.cells #[.int .i64 0, .int .i64 0, .nilFunc, .nilFunc] 93)).trans hk
  clear hk hblk
  go_wp2_with fail
  refine bodyPost_ret (v := .tuple #[.agg #[.int .i64 29, .int .i64 1, .nilFunc, .func (.func 108) #[] #[]], .bool true]) (by simp [results, Tryz.results64, go_sem, c0, c1, c2, c3]) rfl ⟨rfl, by (repeat (first | exact Kp.refl _ _ | assumption | refine Kp.drew ?_ | refine Kp.drewN ?_ _ | refine Kp.alloc ?_ _ | (refine Kp.setCell ?_ (by first | (left; simp; done) | (right; simp; try omega)) _) | (refine Kp.trans' ?_ (by assumption) (by simp; try omega))))⟩
set_option maxRecDepth 100000 in
set_option maxHeartbeats 2000000 in
theorem moving_21 (w : World) : Calls Tryz.prog 92 #[.int .i64 21] w fun e w' => e = .returned (.tuple #[.agg #[.int .i64 21, .int .i64 1, .nilFunc, .func (.func 109) #[] #[]], .bool true]) ∧ Kp [] w w' := by
  go_enter Tryz.func92, Tryz.ntmps92
  go_wp2_with fail
  refine bodyPost_ret (v := .tuple #[.agg #[.int .i64 21, .int .i64 1, .nilFunc, .func (.func 109) #[] #[]], .bool true]) (by simp [results, Tryz.results92, go_sem]) rfl ⟨rfl, by (repeat (first | exact Kp.refl _ _ | assumption | refine Kp.drew ?_ | refine Kp.drewN ?_ _ | refine Kp.alloc ?_ _ | (refine Kp.setCell ?_ (by first | (left; simp; done) | (right; simp; try omega)) _) | (refine Kp.trans' ?_ (by assumption) (by simp; try omega))))⟩
set_option maxRecDepth 100000 in
set_option maxHeartbeats 2000000 in
theorem find_21 (w : World) : Calls Tryz.prog 64 #[.int .i64 21] w fun e w' => e = .returned (.tuple #[.agg #[.int .i64 21, .int .i64 1, .nilFunc, .func (.func 109) #[] #[]], .bool true]) ∧ Kp [] w w' := by
  have hblk := heap_alloc_new w (.cells #[.int .i64 0, .int .i64 0, .nilFunc, .nilFunc] 93)
  go_enter Tryz.func64, Tryz.ntmps64
  go_wp2_with fail
  refine (moving_21 _).mono ?_; rintro e w1 ⟨rfl, hk⟩
  obtain ⟨c0, c1, c2, c3, f0, f1, f2, f3⟩ := blk4 (hk.heap hblk (by simp))
  have hk2 := ((Kp.refl [] w).alloc (.cells #[.int .i64 0, .int .i64 0, .nilFunc, .nilFunc] 93)).trans hk
  clear hk hblk
  go_wp2_with fail
  refine bodyPost_ret (v := .tuple #[.agg #[.int .i64 21, .int .i64 1, .nilFunc, .func (.func 109) #[] #[]], .bool true]) (by simp [results, Tryz.results64, go_sem, c0, c1, c2, c3]) rfl ⟨rfl, by (repeat (first | exact Kp.refl _ _ | assumption | refine Kp.drew ?_ | refine Kp.drewN ?_ _ | refine Kp.alloc ?_ _ | (refine Kp.setCell ?_ (by first | (left; simp; done) | (right; simp; try omega)) _) | (refine Kp.trans' ?_ (by assumption) (by simp; try omega))))⟩
set_option maxRecDepth 100000 in
set_option maxHeartbeats 2000000 in
theorem moving_28 (w : World) : Calls Tryz.prog 92 #[.int .i64 28] w fun e w' => e = .returned (.tuple #[.agg #[.int .i64 28, .int .i64 2, .nilFunc, .func (.func 110) #[] #[]], .bool true]) ∧ Kp [] w w' := by
  go_enter Tryz.func92, Tryz.ntmps92
  go_wp2_with fail
  refine bodyPost_ret (v := .tuple #[.agg #[.int .i64 28, .int .i64 2, .nilFunc, .func (.func 110) #[] #[]], .bool true]) (by simp [results, Tryz.results92, go_sem]) rfl ⟨rfl, by (repeat (first | exact Kp.refl _ _ | assumption | refine Kp.drew ?_ | refine Kp.drewN ?_ _ | refine Kp.alloc ?_ _ | (refine Kp.setCell ?_ (by first | (left; simp; done) | (right; simp; try omega)) _) | (refine Kp.trans' ?_ (by assumption) (by simp; try omega))))⟩
set_option maxRecDepth 100000 in
set_option maxHeartbeats 2000000 in
theorem find_28 (w : World) : Calls Tryz.prog 64 #[.int .i64 28] w fun e w' => e = .returned (.tuple #[.agg #[.int .i64 28, .int .i64 2, .nilFunc, .func (.func 110) #[] #[]], .bool true]) ∧ Kp [] w w' := by
  have hblk := heap_alloc_new w (.cells #[.int .i64 0, .int .i64 0, .nilFunc, .nilFunc] 93)
  go_enter Tryz.func64, Tryz.ntmps64
  go_wp2_with fail
  refine (moving_28 _).mono ?_; rintro e w1 ⟨rfl, hk⟩
  obtain ⟨c0, c1, c2, c3, f0, f1, f2, f3⟩ := blk4 (hk.heap hblk (by simp))
  have hk2 := ((Kp.refl [] w).alloc (.cells #[.int .i64 0, .int .i64 0, .nilFunc, .nilFunc] 93)).trans hk
  clear hk hblk
  go_wp2_with fail
  refine bodyPost_ret (v := .tuple #[.agg #[.int .i64 28, .int .i64 2, .nilFunc, .func (.func 110) #[] #[]], .bool true]) (by simp [results, Tryz.results64, go_sem, c0, c1, c2, c3]) rfl ⟨rfl, by (repeat (first | exact Kp.refl _ _ | assumption | refine Kp.drew ?_ | refine Kp.drewN ?_ _ | refine Kp.alloc ?_ _ | (refine Kp.setCell ?_ (by first | (left; simp; done) | (right; simp; try omega)) _) | (refine Kp.trans' ?_ (by assumption) (by simp; try omega))))⟩
set_option maxRecDepth 100000 in
set_option maxHeartbeats 2000000 in
theorem moving_30 (w : World) : Calls Tryz.prog 92 #[.int .i64 30] w fun e w' => e = .returned (.tuple #[.agg #[.int .i64 30, .int .i64 2, .nilFunc, .func (.func 111) #[] #[]], .bool true]) ∧ Kp [] w w' := by
  go_enter Tryz.func92, Tryz.ntmps92
  go_wp2_with fail
  refine bodyPost_ret (v := .tuple #[.agg #[.int .i64 30, .int .i64 2, .nilFunc, .func (.func 111) #[] #[]], .bool true]) (by simp [results, Tryz.results92, go_sem]) rfl ⟨rfl, by (repeat (first | exact Kp.refl _ _ | assumption | refine Kp.drew ?_ | refine Kp.drewN ?_ _ | refine Kp.alloc ?_ _ | (refine Kp.setCell ?_ (by first | (left; simp; done) | (right; simp; try omega)) _) | (refine Kp.trans' ?_ (by assumption) (by simp; try omega))))⟩
set_option maxRecDepth 100000 in
set_option maxHeartbeats 2000000 in
theorem find_30 (w : World) : Calls Tryz.prog 64 #[.int .i64 30] w fun e w' => e = .returned (.tuple #[.agg #[.int .i64 30, .int .i64 2, .nilFunc, .func (.func 111) #[] #[]], .bool true]) ∧ Kp [] w w' := by
  have hblk := heap_alloc_new w (.cells #[.int .i64 0, .int .i64 0, .nilFunc, .nilFunc] 93)
  go_enter Tryz.func64, Tryz.ntmps64
  go_wp2_with fail
  refine (moving_30 _).mono ?_; rintro e w1 ⟨rfl, hk⟩
  obtain ⟨c0, c1, c2, c3, f0, f1, f2, f3⟩ := blk4 (hk.heap hblk (by simp))
  have hk2 := ((Kp.refl [] w).alloc (.cells #[.int .i64 0, .int .i64 0, .nilFunc, .nilFunc] 93)).trans hk
  clear hk hblk
  go_wp2_with fail
  refine bodyPost_ret (v := .tuple #[.agg #[.int .i64 30, .int .i64 2, .nilFunc, .func (.func 111) #[] #[]], .bool true]) (by simp [results, Tryz.results64, go_sem, c0, c1, c2, c3]) rfl ⟨rfl, by (repeat (first | exact Kp.refl _ _ | assumption | refine Kp.drew ?_ | refine Kp.drewN ?_ _ | refine Kp.alloc ?_ _ | (refine Kp.setCell ?_ (by first | (left; simp; done) | (right; simp; try omega)) _) | (refine Kp.trans' ?_ (by assumption) (by simp; try omega))))⟩
set_option maxRecDepth 100000 in
set_option maxHeartbeats 2000000 in
theorem moving_20 (w : World) : Calls Tryz.prog 92 #[.int .i64 20] w fun e w' => e = .returned (.tuple #[.agg #[.int .i64 20, .int .i64 2, .nilFunc, .func (.func 112) #[] #[]], .bool true]) ∧ Kp [] w w' := by
  go_enter Tryz.func92, Tryz.ntmps92
  go_wp2_with fail
  refine bodyPost_ret (v := .tuple #[.agg #[.int .i64 20, .int .i64 2, .nilFunc, .func (.func 112) #[] #[]], .bool true]) (by simp [results, Tryz.results92, go_sem]) rfl ⟨rfl, by (repeat (first | exact Kp.refl _ _ | assumption | refine Kp.drew ?_ | refine Kp.drewN ?_ _ | refine Kp.alloc ?_ _ | (refine Kp.setCell ?_ (by first | (left; simp; done) | (right; simp; try omega)) _) | (refine Kp.trans' ?_ (by assumption) (by simp; try omega))))⟩
set_option maxRecDepth 100000 in
set_option maxHeartbeats 2000000 in
theorem find_20 (w : World) : Calls Tryz.prog 64 #[.int .i64 20] w fun e w' => e = .returned (.tuple #[.agg #[.int .i64 20, .int .i64 2, .nilFunc, .func (.func 112) #[] #[]], .bool true]) ∧ Kp [] w w' := by
  have hblk := heap_alloc_new w (.cells #[.int .i64 0, .int .i64 0, .nilFunc, .nilFunc] 93)
  go_enter Tryz.func64, Tryz.ntmps64
  go_wp2_with fail
  refine (moving_20 _).mono ?_; rintro e w1 ⟨rfl, hk⟩
  obtain ⟨c0, c1, c2, c3, f0, f1, f2, f3⟩ := blk4 (hk.heap hblk (by simp))
  have hk2 := ((Kp.refl [] w).alloc (.cells #[.int .i64 0, .int .i64 0, .nilFunc, .nilFunc] 93)).trans hk
  clear hk hblk
  go_wp2_with fail
  refine bodyPost_ret (v := .tuple #[.agg #[.int .i64 20, .int .i64 2, .nilFunc, .func (.func 112) #[] #[]], .bool true]) (by simp [results, Tryz.results64, go_sem, c0, c1, c2, c3]) rfl ⟨rfl, by (repeat (first | exact Kp.refl _ _ | assumption | refine Kp.drew ?_ | refine Kp.drewN ?_ _ | refine Kp.alloc ?_ _ | (refine Kp.setCell ?_ (by first | (left; simp; done) | (right; simp; try omega)) _) | (refine Kp.trans' ?_ (by assumption) (by simp; try omega))))⟩
set_option maxRecDepth 100000 in
set_option maxHeartbeats 2000000 in
theorem moving_22 (w : World) : Calls Tryz.prog 92 #[.int .i64 22] w fun e w' => e = .returned (.tuple #[.agg #[.int .i64 22, .int .i64 4, .nilFunc, .func (.func 113) #[] #[]], .bool true]) ∧ Kp [] w w' := by
  go_enter Tryz.func92, Tryz.ntmps92
  go_wp2_with fail
  refine bodyPost_ret (v := .tuple #[.agg #[.int .i64 22, .int .i64 4, .nilFunc, .func (.func 113) #[] #[]], .bool true]) (by simp [results, Tryz.results92, go_sem]) rfl ⟨rfl, by (repeat (first | exact Kp.refl _ _ | assumption | refine Kp.drew ?_ | refine Kp.drewN ?_ _ | refine Kp.alloc ?_ _ | (refine Kp.setCell ?_ (by first | (left; simp; done) | (right; simp; try omega)) _) | (refine Kp.trans' ?_ (by assumption) (by simp; try omega))))⟩
set_option maxRecDepth 100000 in
set_option maxHeartbeats 2000000 in
theorem find_22 (w : World) : Calls Tryz.prog 64 #[.int .i64 22] w fun e w' => e = .returned (.tuple #[.agg #[.int .i64 22, .int .i64 4, .nilFunc, .func (.func 113) #[] #[]], .bool true]) ∧ Kp [] w w' := by
  have hblk := heap_alloc_new w (.cells #[.int .i64 0, .int .i64 0, .nilFunc, .nilFunc] 93)
  go_enter Tryz.func64, Tryz.ntmps64
  go_wp2_with fail
  refine (moving_22 _).mono ?_; rintro e w1 ⟨rfl, hk⟩
  obtain ⟨c0, c1, c2, c3, f0, f1, f2, f3⟩ := blk4 (hk.heap hblk (by simp))
  have hk2 := ((Kp.refl [] w).alloc (.cells #[.int .i64 0, .int .i64 0, .nilFunc, .nilFunc] 93)).trans hk
  clear hk hblk
  go_wp2_with fail
  refine bodyPost_ret (v := .tuple #[.agg #[.int .i64 22, .int .i64 4, .nilFunc, .func (.func 113) #[] #[]], .bool true]) (by simp [results, Tryz.results64, go_sem, c0, c1, c2, c3]) rfl ⟨rfl, by (repeat (first | exact Kp.refl _ _ | assumption | refine Kp.drew ?_ | refine Kp.drewN ?_ _ | refine Kp.alloc ?_ _ | (refine Kp.setCell ?_ (by first | (left; simp; done) | (right; simp; try omega)) _) | (refine Kp.trans' ?_ (by assumption) (by simp; try omega))))⟩
set_option maxRecDepth 100000 in
set_option maxHeartbeats 2000000 in
theorem moving_23 (w : World) : Calls Tryz.prog 92 #[.int .i64 23] w fun e w' => e = .returned (.tuple #[.agg #[.int .i64 23, .int .i64 0, .nilFunc, .func (.func 114) #[] #[]], .bool true]) ∧ Kp [] w w' := by
  go_enter Tryz.func92, Tryz.ntmps92
  go_wp2_with fail
  refine bodyPost_ret (v := .tuple #[.agg #[.int .i64 23, .int .i64 0, .nilFunc, .func (.func 114) #[] #[]], .bool true]) (by simp [results, Tryz.results92, go_sem]) rfl ⟨rfl, by (repeat (first | exact Kp.refl _ _ | assumption | refine Kp.drew ?_ | refine Kp.drewN ?_ _ | refine Kp.alloc ?_ _ | (refine Kp.setCell ?_ (by first | (left; simp; done) | (right; simp; try omega)) _) | (refine Kp.trans' ?_ (by assumption) (by simp; try omega))))⟩
set_option maxRecDepth 100000 in
set_option maxHeartbeats 2000000 in
theorem find_23 (w : World) : Calls Tryz.prog 64 #[.int .i64 23] w fun e w' => e = .returned (.tuple #[.agg #[.int .i64 23, .int .i64 0, .nilFunc, .func (.func 114) #[] #[]], .bool true]) ∧ Kp [] w w' := by
  have hblk := heap_alloc_new w (.cells #[.int .i64 0, .int .i64 0, .nilFunc, .nilFunc] 93)
  go_enter Tryz.func64, Tryz.ntmps64
  go_wp2_with fail
  refine (moving_23 _).mono ?_; rintro e w1 ⟨rfl, hk⟩
  obtain ⟨c0, c1, c2, c3, f0, f1, f2, f3⟩ := blk4 (hk.heap hblk (by simp))
  have hk2 := ((Kp.refl [] w).alloc (.cells #[.int .i64 0, .int .i64 0, .nilFunc, .nilFunc] 93)).trans hk
  clear hk hblk
  go_wp2_with fail
  refine bodyPost_ret (v := .tuple #[.agg #[.int .i64 23, .int .i64 0, .nilFunc, .func (.func 114) #[] #[]], .bool true]) (by simp [results, Tryz.results64, go_sem, c0, c1, c2, c3]) rfl ⟨rfl, by (repeat (first | exact Kp.refl _ _ | assumption | refine Kp.drew ?_ | refine Kp.drewN ?_ _ | refine Kp.alloc ?_ _ | (refine Kp.setCell ?_ (by first | (left; simp; done) | (right; simp; try omega)) _) | (refine Kp.trans' ?_ (by assumption) (by simp; try omega))))⟩
set_option maxRecDepth 100000 in
set_option maxHeartbeats 2000000 in
theorem moving_no (op : Int) (h : ¬ isMov op) (w : World) : Calls Tryz.prog 92 #[.int .i64 op] w fun e w' => e = .returned (.tuple #[.agg #[.int .i64 op, .int .i64 1, .nilFunc, .nilFunc], .bool false]) ∧ Kp [] w w' := by
  unfold isMov at h
  have e18 : (op == 18) = false := beq_eq_false_iff_ne.2 (fun e => h (by simp [e]))
  have e27 : (op == 27) = false := beq_eq_false_iff_ne.2 (fun e => h (by simp [e]))
  have e29 : (op == 29) = false := beq_eq_false_iff_ne.2 (fun e => h (by simp [e]))
  have e21 : (op == 21) = false := beq_eq_false_iff_ne.2 (fun e => h (by simp [e]))
  have e28 : (op == 28) = false := beq_eq_false_iff_ne.2 (fun e => h (by simp [e]))
  have e30 : (op == 30) = false := beq_eq_false_iff_ne.2 (fun e => h (by simp [e]))
  have e20 : (op == 20) = false := beq_eq_false_iff_ne.2 (fun e => h (by simp [e]))
  have e22 : (op == 22) = false := beq_eq_false_iff_ne.2 (fun e => h (by simp [e]))
  have e23 : (op == 23) = false := beq_eq_false_iff_ne.2 (fun e => h (by simp [e]))
  clear h
  go_enter Tryz.func92, Tryz.ntmps92
  go_wp2_with fail
  refine bodyPost_ret (v := .tuple #[.agg #[.int .i64 op, .int .i64 1, .nilFunc, .nilFunc], .bool false]) (by simp [results, Tryz.results92, go_sem]) rfl ⟨rfl, by (repeat (first | exact Kp.refl _ _ | assumption | refine Kp.drew ?_ | refine Kp.drewN ?_ _ | refine Kp.alloc ?_ _ | (refine Kp.setCell ?_ (by first | (left; simp; done) | (right; simp; try omega)) _) | (refine Kp.trans' ?_ (by assumption) (by simp; try omega))))⟩
set_option maxRecDepth 100000 in
set_option maxHeartbeats 2000000 in
theorem find_no (op : Int) (h : ¬ isNum op) (h2 : ¬ isMov op) (w : World) : Calls Tryz.prog 64 #[.int .i64 op] w fun e w' => e = .returned (.tuple #[.agg #[.int .i64 op, .int .i64 1, .nilFunc, .nilFunc], .bool false]) ∧ Kp [] w w' := by
  have hblk := heap_alloc_new w (.cells #[.int .i64 0, .int .i64 0, .nilFunc, .nilFunc] 93)
  have H2 := Lib.hid h2
  unfold isNum at h
  have e9 : (op == 9) = false := beq_eq_false_iff_ne.2 (fun e => h (by simp [e]))
  have e14 : (op == 14) = false := beq_eq_false_iff_ne.2 (fun e => h (by simp [e]))
  have e26 : (op == 26) = false := beq_eq_false_iff_ne.2 (fun e => h (by simp [e]))
  have e5 : (op == 5) = false := beq_eq_false_iff_ne.2 (fun e => h (by simp [e]))
  have e10 : (op == 10) = false := beq_eq_false_iff_ne.2 (fun e => h (by simp [e]))
  have e11 : (op == 11) = false := beq_eq_false_iff_ne.2 (fun e => h (by simp [e]))
  have e24 : (op == 24) = false := beq_eq_false_iff_ne.2 (fun e => h (by simp [e]))
  have e12 : (op == 12) = false := beq_eq_false_iff_ne.2 (fun e => h (by simp [e]))
  have e3 : (op == 3) = false := beq_eq_false_iff_ne.2 (fun e => h (by simp [e]))
  have e4 : (op == 4) = false := beq_eq_false_iff_ne.2 (fun e => h (by simp [e]))
  have e15 : (op == 15) = false := beq_eq_false_iff_ne.2 (fun e => h (by simp [e]))
  clear h h2
  go_enter Tryz.func64, Tryz.ntmps64
  go_wp2_with fail
  refine (moving_no op H2.out _).mono ?_; rintro e w1 ⟨rfl, hk⟩
  obtain ⟨c0, c1, c2, c3, f0, f1, f2, f3⟩ := blk4 (hk.heap hblk (by simp))
  have hk2 := ((Kp.refl [] w).alloc (.cells #[.int .i64 0, .int .i64 0, .nilFunc, .nilFunc] 93)).trans hk
  clear hk hblk
  go_wp2_with fail
  refine bodyPost_ret (v := .tuple #[.agg #[.int .i64 op, .int .i64 1, .nilFunc, .nilFunc], .bool false]) (by simp [results, Tryz.results64, go_sem, c0, c1, c2, c3]) rfl ⟨rfl, by (repeat (first | exact Kp.refl _ _ | assumption | refine Kp.drew ?_ | refine Kp.drewN ?_ _ | refine Kp.alloc ?_ _ | (refine Kp.setCell ?_ (by first | (left; simp; done) | (right; simp; try omega)) _) | (refine Kp.trans' ?_ (by assumption) (by simp; try omega))))⟩
end Go.Proofs.YtfgpocpfapnkkaaGreat

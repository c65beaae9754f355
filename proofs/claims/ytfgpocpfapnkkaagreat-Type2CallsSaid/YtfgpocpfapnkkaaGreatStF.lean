/- stack: find, of the operators of numbers. (Written by wip/stack/genste.py F.) -/
import Derived.Test.YtfgpocpfapnkkaaGreatStE
namespace Go.Proofs.YtfgpocpfapnkkaaGreat
open Go.RowKit
set_option linter.unusedVariables false
set_option linter.unusedSimpArgs false
set_option maxRecDepth 100000 in
set_option maxHeartbeats 2000000 in
theorem find_9 (w : World) : Calls Tryz.prog 64 #[.int .i64 9] w fun e w' => ∃ fv, e = .returned (.tuple #[.agg #[.int .i64 9, .int .i64 1, fv, .nilFunc], .bool true]) ∧ NumFn w' fv (fun a _ => oneF 9 a) ∧ Kp [] w w' := by
  have hblk := heap_alloc_new w (.cells #[.int .i64 0, .int .i64 0, .nilFunc, .nilFunc] 93)
  go_enter Tryz.func64, Tryz.ntmps64
  go_wp2_with fail
  refine (single_fn 9 _).mono ?_; rintro e w1 ⟨B, rfl, hB, hcB, hk⟩
  obtain ⟨c0, c1, c2, c3, f0, f1, f2, f3⟩ := blk4 (hk.heap hblk (by simp))
  have hk2 := ((Kp.refl [] w).alloc (.cells #[.int .i64 0, .int .i64 0, .nilFunc, .nilFunc] 93)).trans hk
  clear hk hblk
  go_wp2_with fail
  refine bodyPost_ret (v := .tuple #[.agg #[.int .i64 9, .int .i64 1, .func (.func 99) #[] #[.pointer (some ⟨B, 0, none⟩)], .nilFunc], .bool true]) (by simp [results, Tryz.results64, go_sem, c0, c1, c2, c3]) rfl ⟨_, rfl, numfn_s 9 (by decide) B _ (Kp.cell (S := [w.heap.size]) (by (repeat (first | exact Kp.refl _ _ | assumption | refine Kp.drew ?_ | refine Kp.drewN ?_ _ | refine Kp.alloc ?_ _ | (refine Kp.setCell ?_ (by first | (left; simp; done) | (right; simp; try omega)) _) | (refine Kp.trans' ?_ (by assumption) (by simp; try omega))))) hcB (by simp at hB ⊢; omega)), by (repeat (first | exact Kp.refl _ _ | assumption | refine Kp.drew ?_ | refine Kp.drewN ?_ _ | refine Kp.alloc ?_ _ | (refine Kp.setCell ?_ (by first | (left; simp; done) | (right; simp; try omega)) _) | (refine Kp.trans' ?_ (by assumption) (by simp; try omega))))⟩
set_option maxRecDepth 100000 in
set_option maxHeartbeats 2000000 in
theorem find_14 (w : World) : Calls Tryz.prog 64 #[.int .i64 14] w fun e w' => ∃ fv, e = .returned (.tuple #[.agg #[.int .i64 14, .int .i64 1, fv, .nilFunc], .bool true]) ∧ NumFn w' fv (fun a _ => oneF 14 a) ∧ Kp [] w w' := by
  have hblk := heap_alloc_new w (.cells #[.int .i64 0, .int .i64 0, .nilFunc, .nilFunc] 93)
  go_enter Tryz.func64, Tryz.ntmps64
  go_wp2_with fail
  refine (single_fn 14 _).mono ?_; rintro e w1 ⟨B, rfl, hB, hcB, hk⟩
  obtain ⟨c0, c1, c2, c3, f0, f1, f2, f3⟩ := blk4 (hk.heap hblk (by simp))
  have hk2 := ((Kp.refl [] w).alloc (.cells #[.int .i64 0, .int .i64 0, .nilFunc, .nilFunc] 93)).trans hk
  clear hk hblk
  go_wp2_with fail
  refine bodyPost_ret (v := .tuple #[.agg #[.int .i64 14, .int .i64 1, .func (.func 99) #[] #[.pointer (some ⟨B, 0, none⟩)], .nilFunc], .bool true]) (by simp [results, Tryz.results64, go_sem, c0, c1, c2, c3]) rfl ⟨_, rfl, numfn_s 14 (by decide) B _ (Kp.cell (S := [w.heap.size]) (by (repeat (first | exact Kp.refl _ _ | assumption | refine Kp.drew ?_ | refine Kp.drewN ?_ _ | refine Kp.alloc ?_ _ | (refine Kp.setCell ?_ (by first | (left; simp; done) | (right; simp; try omega)) _) | (refine Kp.trans' ?_ (by assumption) (by simp; try omega))))) hcB (by simp at hB ⊢; omega)), by (repeat (first | exact Kp.refl _ _ | assumption | refine Kp.drew ?_ | refine Kp.drewN ?_ _ | refine Kp.alloc ?_ _ | (refine Kp.setCell ?_ (by first | (left; simp; done) | (right; simp; try omega)) _) | (refine Kp.trans' ?_ (by assumption) (by simp; try omega))))⟩
set_option maxRecDepth 100000 in
set_option maxHeartbeats 2000000 in
theorem find_26 (w : World) : Calls Tryz.prog 64 #[.int .i64 26] w fun e w' => ∃ fv, e = .returned (.tuple #[.agg #[.int .i64 26, .int .i64 1, fv, .nilFunc], .bool true]) ∧ NumFn w' fv (fun a _ => oneF 26 a) ∧ Kp [] w w' := by
  have hblk := heap_alloc_new w (.cells #[.int .i64 0, .int .i64 0, .nilFunc, .nilFunc] 93)
  go_enter Tryz.func64, Tryz.ntmps64
  go_wp2_with fail
  refine (single_fn 26 _).mono ?_; rintro e w1 ⟨B, rfl, hB, hcB, hk⟩
  obtain ⟨c0, c1, c2, c3, f0, f1, f2, f3⟩ := blk4 (hk.heap hblk (by simp))
  have hk2 := ((Kp.refl [] w).alloc (.cells #[.int .i64 0, .int .i64 0, .nilFunc, .nilFunc] 93)).trans hk
  clear hk hblk
  go_wp2_with fail
  refine bodyPost_ret (v := .tuple #[.agg #[.int .i64 26, .int .i64 1, .func (.func 99) #[] #[.pointer (some ⟨B, 0, none⟩)], .nilFunc], .bool true]) (by simp [results, Tryz.results64, go_sem, c0, c1, c2, c3]) rfl ⟨_, rfl, numfn_s 26 (by decide) B _ (Kp.cell (S := [w.heap.size]) (by (repeat (first | exact Kp.refl _ _ | assumption | refine Kp.drew ?_ | refine Kp.drewN ?_ _ | refine Kp.alloc ?_ _ | (refine Kp.setCell ?_ (by first | (left; simp; done) | (right; simp; try omega)) _) | (refine Kp.trans' ?_ (by assumption) (by simp; try omega))))) hcB (by simp at hB ⊢; omega)), by (repeat (first | exact Kp.refl _ _ | assumption | refine Kp.drew ?_ | refine Kp.drewN ?_ _ | refine Kp.alloc ?_ _ | (refine Kp.setCell ?_ (by first | (left; simp; done) | (right; simp; try omega)) _) | (refine Kp.trans' ?_ (by assumption) (by simp; try omega))))⟩
set_option maxRecDepth 100000 in
set_option maxHeartbeats 2000000 in
theorem find_5 (w : World) : Calls Tryz.prog 64 #[.int .i64 5] w fun e w' => ∃ fv, e = .returned (.tuple #[.agg #[.int .i64 5, .int .i64 1, fv, .nilFunc], .bool true]) ∧ NumFn w' fv (fun a _ => oneF 5 a) ∧ Kp [] w w' := by
  have hblk := heap_alloc_new w (.cells #[.int .i64 0, .int .i64 0, .nilFunc, .nilFunc] 93)
  go_enter Tryz.func64, Tryz.ntmps64
  go_wp2_with fail
  refine (single_fn 5 _).mono ?_; rintro e w1 ⟨B, rfl, hB, hcB, hk⟩
  obtain ⟨c0, c1, c2, c3, f0, f1, f2, f3⟩ := blk4 (hk.heap hblk (by simp))
  have hk2 := ((Kp.refl [] w).alloc (.cells #[.int .i64 0, .int .i64 0, .nilFunc, .nilFunc] 93)).trans hk
  clear hk hblk
  go_wp2_with fail
  refine bodyPost_ret (v := .tuple #[.agg #[.int .i64 5, .int .i64 1, .func (.func 99) #[] #[.pointer (some ⟨B, 0, none⟩)], .nilFunc], .bool true]) (by simp [results, Tryz.results64, go_sem, c0, c1, c2, c3]) rfl ⟨_, rfl, numfn_s 5 (by decide) B _ (Kp.cell (S := [w.heap.size]) (by (repeat (first | exact Kp.refl _ _ | assumption | refine Kp.drew ?_ | refine Kp.drewN ?_ _ | refine Kp.alloc ?_ _ | (refine Kp.setCell ?_ (by first | (left; simp; done) | (right; simp; try omega)) _) | (refine Kp.trans' ?_ (by assumption) (by simp; try omega))))) hcB (by simp at hB ⊢; omega)), by (repeat (first | exact Kp.refl _ _ | assumption | refine Kp.drew ?_ | refine Kp.drewN ?_ _ | refine Kp.alloc ?_ _ | (refine Kp.setCell ?_ (by first | (left; simp; done) | (right; simp; try omega)) _) | (refine Kp.trans' ?_ (by assumption) (by simp; try omega))))⟩
set_option maxRecDepth 100000 in
set_option maxHeartbeats 2000000 in
theorem find_10 (w : World) : Calls Tryz.prog 64 #[.int .i64 10] w fun e w' => ∃ fv, e = .returned (.tuple #[.agg #[.int .i64 10, .int .i64 2, fv, .nilFunc], .bool true]) ∧ NumFn w' fv (twoF 10) ∧ Kp [] w w' := by
  have hblk := heap_alloc_new w (.cells #[.int .i64 0, .int .i64 0, .nilFunc, .nilFunc] 93)
  go_enter Tryz.func64, Tryz.ntmps64
  go_wp2_with fail
  refine (double_10 _).mono ?_; rintro e w1 ⟨rfl, hk⟩
  obtain ⟨c0, c1, c2, c3, f0, f1, f2, f3⟩ := blk4 (hk.heap hblk (by simp))
  have hk2 := ((Kp.refl [] w).alloc (.cells #[.int .i64 0, .int .i64 0, .nilFunc, .nilFunc] 93)).trans hk
  clear hk hblk
  go_wp2_with fail
  refine bodyPost_ret (v := .tuple #[.agg #[.int .i64 10, .int .i64 2, .func (.func 67) #[] #[], .nilFunc], .bool true]) (by simp [results, Tryz.results64, go_sem, c0, c1, c2, c3]) rfl ⟨_, rfl, numfn_10 _, by (repeat (first | exact Kp.refl _ _ | assumption | refine Kp.drew ?_ | refine Kp.drewN ?_ _ | refine Kp.alloc ?_ _ | (refine Kp.setCell ?_ (by first | (left; simp; done) | (right; simp; try omega)) _) | (refine Kp.trans' ?_ (by assumption) (by simp; try omega))))⟩
set_option maxRecDepth 100000 in
set_option maxHeartbeats 2000000 in
theorem find_11 (w : World) : Calls Tryz.prog 64 #[.int .i64 11] w fun e w' => ∃ fv, e = .returned (.tuple #[.agg #[.int .i64 11, .int .i64 2, fv, .nilFunc], .bool true]) ∧ NumFn w' fv (twoF 11) ∧ Kp [] w w' := by
  have hblk := heap_alloc_new w (.cells #[.int .i64 0, .int .i64 0, .nilFunc, .nilFunc] 93)
  go_enter Tryz.func64, Tryz.ntmps64
  go_wp2_with fail
  refine (double_11 _).mono ?_; rintro e w1 ⟨rfl, hk⟩
  obtain ⟨c0, c1, c2, c3, f0, f1, f2, f3⟩ := blk4 (hk.heap hblk (by simp))
  have hk2 := ((Kp.refl [] w).alloc (.cells #[.int .i64 0, .int .i64 0, .nilFunc, .nilFunc] 93)).trans hk
  clear hk hblk
  go_wp2_with fail
  refine bodyPost_ret (v := .tuple #[.agg #[.int .i64 11, .int .i64 2, .func (.func 102) #[] #[], .nilFunc], .bool true]) (by simp [results, Tryz.results64, go_sem, c0, c1, c2, c3]) rfl ⟨_, rfl, numfn_11 _, by (repeat (first | exact Kp.refl _ _ | assumption | refine Kp.drew ?_ | refine Kp.drewN ?_ _ | refine Kp.alloc ?_ _ | (refine Kp.setCell ?_ (by first | (left; simp; done) | (right; simp; try omega)) _) | (refine Kp.trans' ?_ (by assumption) (by simp; try omega))))⟩
set_option maxRecDepth 100000 in
set_option maxHeartbeats 2000000 in
theorem find_24 (w : World) : Calls Tryz.prog 64 #[.int .i64 24] w fun e w' => ∃ fv, e = .returned (.tuple #[.agg #[.int .i64 24, .int .i64 2, fv, .nilFunc], .bool true]) ∧ NumFn w' fv (twoF 24) ∧ Kp [] w w' := by
  have hblk := heap_alloc_new w (.cells #[.int .i64 0, .int .i64 0, .nilFunc, .nilFunc] 93)
  go_enter Tryz.func64, Tryz.ntmps64
  go_wp2_with fail
  refine (double_24 _).mono ?_; rintro e w1 ⟨rfl, hk⟩
  obtain ⟨c0, c1, c2, c3, f0, f1, f2, f3⟩ := blk4 (hk.heap hblk (by simp))
  have hk2 := ((Kp.refl [] w).alloc (.cells #[.int .i64 0, .int .i64 0, .nilFunc, .nilFunc] 93)).trans hk
  clear hk hblk
  go_wp2_with fail
  refine bodyPost_ret (v := .tuple #[.agg #[.int .i64 24, .int .i64 2, .func (.func 103) #[] #[], .nilFunc], .bool true]) (by simp [results, Tryz.results64, go_sem, c0, c1, c2, c3]) rfl ⟨_, rfl, numfn_24 _, by (repeat (first | exact Kp.refl _ _ | assumption | refine Kp.drew ?_ | refine Kp.drewN ?_ _ | refine Kp.alloc ?_ _ | (refine Kp.setCell ?_ (by first | (left; simp; done) | (right; simp; try omega)) _) | (refine Kp.trans' ?_ (by assumption) (by simp; try omega))))⟩
set_option maxRecDepth 100000 in
set_option maxHeartbeats 2000000 in
theorem find_12 (w : World) : Calls Tryz.prog 64 #[.int .i64 12] w fun e w' => ∃ fv, e = .returned (.tuple #[.agg #[.int .i64 12, .int .i64 2, fv, .nilFunc], .bool true]) ∧ NumFn w' fv (twoF 12) ∧ Kp [] w w' := by
  have hblk := heap_alloc_new w (.cells #[.int .i64 0, .int .i64 0, .nilFunc, .nilFunc] 93)
  go_enter Tryz.func64, Tryz.ntmps64
  go_wp2_with fail
  refine (double_12 _).mono ?_; rintro e w1 ⟨rfl, hk⟩
  obtain ⟨c0, c1, c2, c3, f0, f1, f2, f3⟩ := blk4 (hk.heap hblk (by simp))
  have hk2 := ((Kp.refl [] w).alloc (.cells #[.int .i64 0, .int .i64 0, .nilFunc, .nilFunc] 93)).trans hk
  clear hk hblk
  go_wp2_with fail
  refine bodyPost_ret (v := .tuple #[.agg #[.int .i64 12, .int .i64 2, .func (.func 104) #[] #[], .nilFunc], .bool true]) (by simp [results, Tryz.results64, go_sem, c0, c1, c2, c3]) rfl ⟨_, rfl, numfn_12 _, by (repeat (first | exact Kp.refl _ _ | assumption | refine Kp.drew ?_ | refine Kp.drewN ?_ _ | refine Kp.alloc ?_ _ | (refine Kp.setCell ?_ (by first | (left; simp; done) | (right; simp; try omega)) _) | (refine Kp.trans' ?_ (by assumption) (by simp; try omega))))⟩
set_option maxRecDepth 100000 in
set_option maxHeartbeats 2000000 in
theorem find_3 (w : World) : Calls Tryz.prog 64 #[.int .i64 3] w fun e w' => ∃ fv, e = .returned (.tuple #[.agg #[.int .i64 3, .int .i64 2, fv, .nilFunc], .bool true]) ∧ NumFn w' fv (twoF 3) ∧ Kp [] w w' := by
  have hblk := heap_alloc_new w (.cells #[.int .i64 0, .int .i64 0, .nilFunc, .nilFunc] 93)
  go_enter Tryz.func64, Tryz.ntmps64
  go_wp2_with fail
  refine (double_fn 3 (by decide) _).mono ?_; rintro e w1 ⟨B, rfl, hB, hcB, hk⟩
  obtain ⟨c0, c1, c2, c3, f0, f1, f2, f3⟩ := blk4 (hk.heap hblk (by simp))
  have hk2 := ((Kp.refl [] w).alloc (.cells #[.int .i64 0, .int .i64 0, .nilFunc, .nilFunc] 93)).trans hk
  clear hk hblk
  go_wp2_with fail
  refine bodyPost_ret (v := .tuple #[.agg #[.int .i64 3, .int .i64 2, .func (.func 105) #[] #[.pointer (some ⟨B, 0, none⟩)], .nilFunc], .bool true]) (by simp [results, Tryz.results64, go_sem, c0, c1, c2, c3]) rfl ⟨_, rfl, numfn_d 3 (by decide) B _ (Kp.cell (S := [w.heap.size]) (by (repeat (first | exact Kp.refl _ _ | assumption | refine Kp.drew ?_ | refine Kp.drewN ?_ _ | refine Kp.alloc ?_ _ | (refine Kp.setCell ?_ (by first | (left; simp; done) | (right; simp; try omega)) _) | (refine Kp.trans' ?_ (by assumption) (by simp; try omega))))) hcB (by simp at hB ⊢; omega)), by (repeat (first | exact Kp.refl _ _ | assumption | refine Kp.drew ?_ | refine Kp.drewN ?_ _ | refine Kp.alloc ?_ _ | (refine Kp.setCell ?_ (by first | (left; simp; done) | (right; simp; try omega)) _) | (refine Kp.trans' ?_ (by assumption) (by simp; try omega))))⟩
set_option maxRecDepth 100000 in
set_option maxHeartbeats 2000000 in
theorem find_4 (w : World) : Calls Tryz.prog 64 #[.int .i64 4] w fun e w' => ∃ fv, e = .returned (.tuple #[.agg #[.int .i64 4, .int .i64 2, fv, .nilFunc], .bool true]) ∧ NumFn w' fv (twoF 4) ∧ Kp [] w w' := by
  have hblk := heap_alloc_new w (.cells #[.int .i64 0, .int .i64 0, .nilFunc, .nilFunc] 93)
  go_enter Tryz.func64, Tryz.ntmps64
  go_wp2_with fail
  refine (double_fn 4 (by decide) _).mono ?_; rintro e w1 ⟨B, rfl, hB, hcB, hk⟩
  obtain ⟨c0, c1, c2, c3, f0, f1, f2, f3⟩ := blk4 (hk.heap hblk (by simp))
  have hk2 := ((Kp.refl [] w).alloc (.cells #[.int .i64 0, .int .i64 0, .nilFunc, .nilFunc] 93)).trans hk
  clear hk hblk
  go_wp2_with fail
  refine bodyPost_ret (v := .tuple #[.agg #[.int .i64 4, .int .i64 2, .func (.func 105) #[] #[.pointer (some ⟨B, 0, none⟩)], .nilFunc], .bool true]) (by simp [results, Tryz.results64, go_sem, c0, c1, c2, c3]) rfl ⟨_, rfl, numfn_d 4 (by decide) B _ (Kp.cell (S := [w.heap.size]) (by (repeat (first | exact Kp.refl _ _ | assumption | refine Kp.drew ?_ | refine Kp.drewN ?_ _ | refine Kp.alloc ?_ _ | (refine Kp.setCell ?_ (by first | (left; simp; done) | (right; simp; try omega)) _) | (refine Kp.trans' ?_ (by assumption) (by simp; try omega))))) hcB (by simp at hB ⊢; omega)), by (repeat (first | exact Kp.refl _ _ | assumption | refine Kp.drew ?_ | refine Kp.drewN ?_ _ | refine Kp.alloc ?_ _ | (refine Kp.setCell ?_ (by first | (left; simp; done) | (right; simp; try omega)) _) | (refine Kp.trans' ?_ (by assumption) (by simp; try omega))))⟩
set_option maxRecDepth 100000 in
set_option maxHeartbeats 2000000 in
theorem find_15 (w : World) : Calls Tryz.prog 64 #[.int .i64 15] w fun e w' => ∃ fv, e = .returned (.tuple #[.agg #[.int .i64 15, .int .i64 2, fv, .nilFunc], .bool true]) ∧ NumFn w' fv (twoF 15) ∧ Kp [] w w' := by
  have hblk := heap_alloc_new w (.cells #[.int .i64 0, .int .i64 0, .nilFunc, .nilFunc] 93)
  go_enter Tryz.func64, Tryz.ntmps64
  go_wp2_with fail
  refine (double_fn 15 (by decide) _).mono ?_; rintro e w1 ⟨B, rfl, hB, hcB, hk⟩
  obtain ⟨c0, c1, c2, c3, f0, f1, f2, f3⟩ := blk4 (hk.heap hblk (by simp))
  have hk2 := ((Kp.refl [] w).alloc (.cells #[.int .i64 0, .int .i64 0, .nilFunc, .nilFunc] 93)).trans hk
  clear hk hblk
  go_wp2_with fail
  refine bodyPost_ret (v := .tuple #[.agg #[.int .i64 15, .int .i64 2, .func (.func 105) #[] #[.pointer (some ⟨B, 0, none⟩)], .nilFunc], .bool true]) (by simp [results, Tryz.results64, go_sem, c0, c1, c2, c3]) rfl ⟨_, rfl, numfn_d 15 (by decide) B _ (Kp.cell (S := [w.heap.size]) (by (repeat (first | exact Kp.refl _ _ | assumption | refine Kp.drew ?_ | refine Kp.drewN ?_ _ | refine Kp.alloc ?_ _ | (refine Kp.setCell ?_ (by first | (left; simp; done) | (right; simp; try omega)) _) | (refine Kp.trans' ?_ (by assumption) (by simp; try omega))))) hcB (by simp at hB ⊢; omega)), by (repeat (first | exact Kp.refl _ _ | assumption | refine Kp.drew ?_ | refine Kp.drewN ?_ _ | refine Kp.alloc ?_ _ | (refine Kp.setCell ?_ (by first | (left; simp; done) | (right; simp; try omega)) _) | (refine Kp.trans' ?_ (by assumption) (by simp; try omega))))⟩
end Go.Proofs.YtfgpocpfapnkkaaGreat

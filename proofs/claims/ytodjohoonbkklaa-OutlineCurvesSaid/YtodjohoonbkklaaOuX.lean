/- outline: boxes: pair, least, most. -/
import Derived.Test.YtodjohoonbkklaaOuW
namespace Go.Proofs.Ytodjohoonbkklaa
open Go.RowKit
set_option linter.unusedVariables false
set_option linter.unusedSimpArgs false
/-- A box. -/
structure Bx where
  x0 : Int
  y0 : Int
  x1 : Int
  y1 : Int
deriving DecidableEq
def bxV (b : Bx) : Value := .agg #[.int .i64 b.x0, .int .i64 b.y0, .int .i64 b.x1, .int .i64 b.y1]
/-- A world by a name. -/
theorem wp_gen {P : Program} {c : Code} {Q : Exit → Act → World → Prop} {a : Act} {w : World} (h : ∀ W, W = w → Code.wp P c Q a W) : Code.wp P c Q a w := h w rfl
theorem three_heap {w W : World} {A B C : Obj} (h : W = ((w.alloc A).alloc B).alloc C) : W.heap[w.heap.size]? = some A ∧ W.heap[w.heap.size + 1]? = some B ∧ W.heap[w.heap.size + 1 + 1]? = some C := by
  have h1 := heap_alloc_new w A
  have h2 := heap_alloc_new (w.alloc A) B
  have h3 := heap_alloc_new ((w.alloc A).alloc B) C
  have s1 : (w.alloc A).heap.size = w.heap.size + 1 := by simp
  have s2 : ((w.alloc A).alloc B).heap.size = w.heap.size + 1 + 1 := by simp
  rw [s1] at h2
  rw [s2] at h3
  subst h
  exact ⟨(((Kp.refl [] (w.alloc A)).alloc B).alloc C).heap h1 (by simp), ((Kp.refl [] ((w.alloc A).alloc B)).alloc C).heap h2 (by simp), h3⟩
theorem less_calls (a b : Int) (w : World) : Calls Try.prog 129 #[.int .i64 a, .int .i64 b] w fun e w' => e = .returned (.int .i64 (min a b)) ∧ Kp [] w w' := by
  go_enter Try.func129, Try.ntmps129
  go_wp2_with fail
  go_ret
  exact ⟨rfl, by (repeat (first | exact Kp.refl _ _ | assumption | refine Kp.drew ?_ | refine Kp.drewN ?_ _ | refine Kp.alloc ?_ _ | (refine Kp.setCell ?_ (by first | (left; simp; done) | (right; simp; try omega)) _) | (refine Kp.trans' ?_ (by assumption) (by simp; try omega))))⟩
theorem more_calls (a b : Int) (w : World) : Calls Try.prog 130 #[.int .i64 a, .int .i64 b] w fun e w' => e = .returned (.int .i64 (max a b)) ∧ Kp [] w w' := by
  go_enter Try.func130, Try.ntmps130
  go_wp2_with fail
  go_ret
  exact ⟨rfl, by (repeat (first | exact Kp.refl _ _ | assumption | refine Kp.drew ?_ | refine Kp.drewN ?_ _ | refine Kp.alloc ?_ _ | (refine Kp.setCell ?_ (by first | (left; simp; done) | (right; simp; try omega)) _) | (refine Kp.trans' ?_ (by assumption) (by simp; try omega))))⟩
theorem rleast_calls (a b : Int) (w : World) : Calls Try.prog 133 #[.int .i64 a, .int .i64 b] w fun e w' => e = .returned (.int .i64 (min a b)) ∧ Kp [] w w' := by
  by_cases h : a < b
  · have e : min a b = a := by omega
    rw [e]
    go_enter Try.func133, Try.ntmps133
    go_wp2_with fail
    go_ret
    exact ⟨rfl, by (repeat (first | exact Kp.refl _ _ | assumption | refine Kp.drew ?_ | refine Kp.drewN ?_ _ | refine Kp.alloc ?_ _ | (refine Kp.setCell ?_ (by first | (left; simp; done) | (right; simp; try omega)) _) | (refine Kp.trans' ?_ (by assumption) (by simp; try omega))))⟩
  · have e : min a b = b := by omega
    rw [e]
    go_enter Try.func133, Try.ntmps133
    go_wp2_with fail
    go_ret
    exact ⟨rfl, by (repeat (first | exact Kp.refl _ _ | assumption | refine Kp.drew ?_ | refine Kp.drewN ?_ _ | refine Kp.alloc ?_ _ | (refine Kp.setCell ?_ (by first | (left; simp; done) | (right; simp; try omega)) _) | (refine Kp.trans' ?_ (by assumption) (by simp; try omega))))⟩
theorem rmost_calls (a b : Int) (w : World) : Calls Try.prog 134 #[.int .i64 a, .int .i64 b] w fun e w' => e = .returned (.int .i64 (max a b)) ∧ Kp [] w w' := by
  by_cases h : b < a
  · have e : max a b = a := by omega
    rw [e]
    go_enter Try.func134, Try.ntmps134
    go_wp2_with fail
    go_ret
    exact ⟨rfl, by (repeat (first | exact Kp.refl _ _ | assumption | refine Kp.drew ?_ | refine Kp.drewN ?_ _ | refine Kp.alloc ?_ _ | (refine Kp.setCell ?_ (by first | (left; simp; done) | (right; simp; try omega)) _) | (refine Kp.trans' ?_ (by assumption) (by simp; try omega))))⟩
  · have e : max a b = b := by omega
    rw [e]
    go_enter Try.func134, Try.ntmps134
    go_wp2_with fail
    go_ret
    exact ⟨rfl, by (repeat (first | exact Kp.refl _ _ | assumption | refine Kp.drew ?_ | refine Kp.drewN ?_ _ | refine Kp.alloc ?_ _ | (refine Kp.setCell ?_ (by first | (left; simp; done) | (right; simp; try omega)) _) | (refine Kp.trans' ?_ (by assumption) (by simp; try omega))))⟩
set_option maxRecDepth 100000 in
set_option maxHeartbeats 4000000 in
theorem pair_calls (a0 a1 a2 a3 b0 b1 b2 b3 : Int) (w : World) :
    Calls Try.prog 128 #[.agg #[.int .i64 a0, .int .i64 a1, .int .i64 a2, .int .i64 a3], .agg #[.int .i64 b0, .int .i64 b1, .int .i64 b2, .int .i64 b3], .func (.func 129) #[] #[], .func (.func 130) #[] #[]] w
      fun e w' => e = .returned (.agg #[.int .i64 (min a0 b0), .int .i64 (min a1 b1), .int .i64 (max a2 b2), .int .i64 (max a3 b3)]) ∧ Kp [] w w' := by
  go_enter Try.func128, Try.ntmps128
  go_wp2_with fail
  refine wp_gen ?_; intro W hW
  obtain ⟨hA, hB, hC⟩ := three_heap hW
  have HKW : Hid (Kp [] w W) := by rw [hW]; show Kp [] _ _; (repeat (first | exact Kp.refl _ _ | assumption | refine Kp.drew ?_ | refine Kp.drewN ?_ _ | refine Kp.alloc ?_ _ | (refine Kp.setCell ?_ (by first | (left; simp; done) | (right; simp; try omega)) _) | (refine Kp.trans' ?_ (by assumption) (by simp; try omega))))
  have hsz : Hid (W.heap.size = w.heap.size + 1 + 1 + 1) := by show _ = _; rw [hW]; simp
  have HB := Lib.hid hC
  have q0 := KW.cell (show W.cell? ⟨w.heap.size, 0, none⟩ = some (.int .i64 a0) by rw [cell_of_row W _ 0 _ _ (0, 0) hA]; rfl)
  have q1 := KW.cell (show W.cell? ⟨w.heap.size, 1, none⟩ = some (.int .i64 a1) by rw [cell_of_row W _ 1 _ _ (0, 0) hA]; rfl)
  have q2 := KW.cell (show W.cell? ⟨w.heap.size, 2, none⟩ = some (.int .i64 a2) by rw [cell_of_row W _ 2 _ _ (0, 0) hA]; rfl)
  have q3 := KW.cell (show W.cell? ⟨w.heap.size, 3, none⟩ = some (.int .i64 a3) by rw [cell_of_row W _ 3 _ _ (0, 0) hA]; rfl)
  have q4 := KW.cell (show W.cell? ⟨w.heap.size + 1, 0, none⟩ = some (.int .i64 b0) by rw [cell_of_row W _ 0 _ _ (0, 0) hB]; rfl)
  have q5 := KW.cell (show W.cell? ⟨w.heap.size + 1, 1, none⟩ = some (.int .i64 b1) by rw [cell_of_row W _ 1 _ _ (0, 0) hB]; rfl)
  have q6 := KW.cell (show W.cell? ⟨w.heap.size + 1, 2, none⟩ = some (.int .i64 b2) by rw [cell_of_row W _ 2 _ _ (0, 0) hB]; rfl)
  have q7 := KW.cell (show W.cell? ⟨w.heap.size + 1, 3, none⟩ = some (.int .i64 b3) by rw [cell_of_row W _ 3 _ _ (0, 0) hB]; rfl)
  clear hA hB hC hW
  refine wp_region_kqt 25 (by kernel_rfl) (by kernel_rfl) ?_
  simp only [List.take_succ_cons, List.take_zero, List.drop_succ_cons, List.drop_zero]
  repeat (go_big_quiet_step ((first | (go_at_call 129; exact Calls.kq (less_calls _ _ _)) | (go_at_call 130; exact Calls.kq (more_calls _ _ _)))))
  refine wpQuiet_nil ?_
  intro w1 hw'
  obtain ⟨⟨_, hkw1⟩, rfl⟩ := hw'
  try dsimp only
  have hb2 := hkw1.heap HB.out (by simp)
  have HK : Hid (Kp [] w w1) := HKW.out.trans hkw1
  have hs1 : w.heap.size + 1 + 1 + 1 ≤ w1.heap.size := by have := hkw1.size; have := hsz.out; omega
  have f0 : w1.frozen? ⟨w.heap.size + 1 + 1, 0, none⟩ = false := frozen_of_row w1 _ 0 _ _ hb2
  have f1 : w1.frozen? ⟨w.heap.size + 1 + 1, 1, none⟩ = false := frozen_of_row w1 _ 1 _ _ hb2
  have f2 : w1.frozen? ⟨w.heap.size + 1 + 1, 2, none⟩ = false := frozen_of_row w1 _ 2 _ _ hb2
  have f3 : w1.frozen? ⟨w.heap.size + 1 + 1, 3, none⟩ = false := frozen_of_row w1 _ 3 _ _ hb2
  have c0 : w1.cell? ⟨w.heap.size + 1 + 1, 0, none⟩ = some (.int .i64 0) := by rw [cell_of_row w1 _ 0 _ _ (0, 0) hb2]; rfl
  have c1 : w1.cell? ⟨w.heap.size + 1 + 1, 1, none⟩ = some (.int .i64 0) := by rw [cell_of_row w1 _ 1 _ _ (0, 0) hb2]; rfl
  have c2 : w1.cell? ⟨w.heap.size + 1 + 1, 2, none⟩ = some (.int .i64 0) := by rw [cell_of_row w1 _ 2 _ _ (0, 0) hb2]; rfl
  have c3 : w1.cell? ⟨w.heap.size + 1 + 1, 3, none⟩ = some (.int .i64 0) := by rw [cell_of_row w1 _ 3 _ _ (0, 0) hb2]; rfl
  clear q0 q1 q2 q3 q4 q5 q6 q7
  go_wp2_with fail
  have hk := HK.out
  refine bodyPost_ret (v := .agg #[.int .i64 (min a0 b0), .int .i64 (min a1 b1), .int .i64 (max a2 b2), .int .i64 (max a3 b3)]) (by simp [results, Try.results128, go_sem, c0, c1, c2, c3]) rfl ⟨rfl, by (repeat (first | exact Kp.refl _ _ | assumption | refine Kp.drew ?_ | refine Kp.drewN ?_ _ | refine Kp.alloc ?_ _ | (refine Kp.setCell ?_ (by first | (left; simp; done) | (right; simp; try omega)) _) | (refine Kp.trans' ?_ (by assumption) (by simp; try omega))))⟩
end Go.Proofs.Ytodjohoonbkklaa

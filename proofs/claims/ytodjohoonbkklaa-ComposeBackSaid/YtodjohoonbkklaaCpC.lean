/- compose: One, Plain. -/
import Derived.Test.YtodjohoonbkklaaCpB
namespace Go.Proofs.Ytodjohoonbkklaa
open Go.RowKit
set_option linter.unusedVariables false
set_option linter.unusedSimpArgs false
theorem aone_calls (w : World) : Calls Try.prog 74 #[] w fun e w' => e = .returned (.agg #[.int .i64 16384, .int .i64 0, .int .i64 0, .int .i64 16384]) ∧ Kp [] w w' := by
  go_enter Try.func74, Try.ntmps74
  go_wp2_with fail
  refine bodyPost_ret (v := .agg #[.int .i64 16384, .int .i64 0, .int .i64 0, .int .i64 16384]) (by simp [results, Try.results74, go_sem]) rfl ⟨rfl, (Kp.refl _ _).alloc _⟩
theorem rone_calls (w : World) : Calls Try.prog 24 #[] w fun e w' => e = .returned (.agg #[.int .i64 16384, .int .i64 0, .int .i64 0, .int .i64 16384]) ∧ Kp [] w w' := by
  go_enter Try.func24, Try.ntmps24
  go_wp2_with fail
  refine bodyPost_ret (v := .agg #[.int .i64 16384, .int .i64 0, .int .i64 0, .int .i64 16384]) (by simp [results, Try.results24, go_sem]) rfl ⟨rfl, (Kp.refl _ _).alloc _⟩
def plainPt (g dx dy : Int) : Pt := ⟨g, 16384, 0, 0, 16384, false, dx, dy, false, 0, 0⟩
set_option maxRecDepth 100000 in
set_option maxHeartbeats 2000000 in
theorem plain_calls (g dx dy : Int) (w : World) : Calls Try.prog 23 #[.int .i64 g, .int .i64 dx, .int .i64 dy] w fun e w' => e = .returned (ptV (plainPt g dx dy)) ∧ Kp [] w w' := by
  go_enter Try.func23, Try.ntmps23
  go_wp2_with fail
  refine (aone_calls _).mono ?_; rintro e w1 ⟨rfl, hk1⟩
  obtain ⟨b0, b1, b2, b3, b4, b5, b6, b7, b8, b9, b10⟩ := box11 hk1
  have hblk := hk1.heap (heap_alloc_new w _) (by simp)
  have f0 := frozen_of_row w1 w.heap.size 0 _ _ hblk
  have f1 := frozen_of_row w1 w.heap.size 1 _ _ hblk
  have f2 := frozen_of_row w1 w.heap.size 2 _ _ hblk
  have f3 := frozen_of_row w1 w.heap.size 3 _ _ hblk
  have f4 := frozen_of_row w1 w.heap.size 4 _ _ hblk
  have f5 := frozen_of_row w1 w.heap.size 5 _ _ hblk
  have f6 := frozen_of_row w1 w.heap.size 6 _ _ hblk
  have f7 := frozen_of_row w1 w.heap.size 7 _ _ hblk
  have f8 := frozen_of_row w1 w.heap.size 8 _ _ hblk
  have f9 := frozen_of_row w1 w.heap.size 9 _ _ hblk
  have f10 := frozen_of_row w1 w.heap.size 10 _ _ hblk
  have hkw : Kp [] w w1 := ((Kp.refl _ _).alloc _).trans hk1
  go_wp2_with fail
  refine bodyPost_ret (v := .agg #[.int .i64 g, .int .i64 16384, .int .i64 0, .int .i64 0, .int .i64 16384, .bool false, .int .i64 dx, .int .i64 dy, .bool false, .int .i64 0, .int .i64 0]) (by simp [results, Try.results23, go_sem, *]) rfl ⟨rfl, (((((((((((hkw.setCell (.inr (Nat.le_refl _)) _).setCell (.inr (Nat.le_refl _)) _).setCell (.inr (Nat.le_refl _)) _).setCell (.inr (Nat.le_refl _)) _).setCell (.inr (Nat.le_refl _)) _).setCell (.inr (Nat.le_refl _)) _).setCell (.inr (Nat.le_refl _)) _).setCell (.inr (Nat.le_refl _)) _).setCell (.inr (Nat.le_refl _)) _).setCell (.inr (Nat.le_refl _)) _).setCell (.inr (Nat.le_refl _)) _)⟩
end Go.Proofs.Ytodjohoonbkklaa

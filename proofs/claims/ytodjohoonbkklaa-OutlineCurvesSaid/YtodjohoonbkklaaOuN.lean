/- outline: the reference's middle; the first point on the outline. -/
import Derived.Test.YtodjohoonbkklaaOuM
namespace Go.Proofs.Ytodjohoonbkklaa
open Go.RowKit
set_option linter.unusedVariables false
set_option linter.unusedSimpArgs false
set_option maxRecDepth 100000 in
set_option maxHeartbeats 2000000 in
theorem rmid_calls (a b : Pn) (w : World) (ha : numF a.x = true) (ha2 : numF a.y = true) (hb : numF b.x = true) (hb2 : numF b.y = true) :
    Calls Try.prog 137 #[pnV a, pnV b] w fun e w' => e = .returned (pnV (midP a b)) ∧ Kp [] w w' := by
  obtain ⟨ax, ay, ak⟩ := a
  obtain ⟨bx, cy, bk⟩ := b
  obtain ⟨a1, a2⟩ := (numF_iff _).1 ha
  obtain ⟨a3, a4⟩ := (numF_iff _).1 ha2
  obtain ⟨b1, b2⟩ := (numF_iff _).1 hb
  obtain ⟨b3, b4⟩ := (numF_iff _).1 hb2
  dsimp only at a1 a2 a3 a4 b1 b2 b3 b4
  clear ha ha2 hb hb2
  have HX : Hid (∀ W, Calls Try.prog 151 #[.int .i64 (ax + bx), .int .i64 2] W fun e w' => e = .returned (.int .i64 ((ax + bx) / 2)) ∧ w' = W) := fun W => (floor2_calls (ax + bx) (by omega) (by omega) W).mono fun _ _ ⟨x, y⟩ => ⟨x, y.symm⟩
  have HY : Hid (∀ W, Calls Try.prog 151 #[.int .i64 (ay + cy), .int .i64 2] W fun e w' => e = .returned (.int .i64 ((ay + cy) / 2)) ∧ w' = W) := fun W => (floor2_calls (ay + cy) (by omega) (by omega) W).mono fun _ _ ⟨x, y⟩ => ⟨x, y.symm⟩
  have hs1 : IntKind.i64.wrap (ax + bx) = ax + bx := by rw [IntKind.wrap_i64]; omega
  have hs2 : IntKind.i64.wrap (ay + cy) = ay + cy := by rw [IntKind.wrap_i64]; omega
  rw [show pnV ⟨ax, ay, ak⟩ = .agg #[.int .i64 ax, .int .i64 ay, .int .i64 ak] from rfl, show pnV ⟨bx, cy, bk⟩ = .agg #[.int .i64 bx, .int .i64 cy, .int .i64 bk] from rfl, show pnV (midP ⟨ax, ay, ak⟩ ⟨bx, cy, bk⟩) = .agg #[.int .i64 ((ax + bx) / 2), .int .i64 ((ay + cy) / 2), .int .i64 1] from rfl]
  go_enter Try.func137, Try.ntmps137
  go_wp2_with fail
  have hk0 : Kp [] w (((w.alloc (.cells #[.int .i64 ax, .int .i64 ay, .int .i64 ak] 61)).alloc (.cells #[.int .i64 bx, .int .i64 cy, .int .i64 bk] 61)).alloc (.cells #[.int .i64 0, .int .i64 0, .int .i64 0] 61)) := by (repeat (first | exact Kp.refl _ _ | assumption | refine Kp.drew ?_ | refine Kp.drewN ?_ _ | refine Kp.alloc ?_ _ | (refine Kp.setCell ?_ (by first | (left; simp; done) | (right; simp; try omega)) _) | (refine Kp.trans' ?_ (by assumption) (by simp; try omega))))
  have p0 : (((w.alloc (.cells #[.int .i64 ax, .int .i64 ay, .int .i64 ak] 61)).alloc (.cells #[.int .i64 bx, .int .i64 cy, .int .i64 bk] 61)).alloc (.cells #[.int .i64 0, .int .i64 0, .int .i64 0] 61)).cell? ⟨w.heap.size, 0, none⟩ = some (.int .i64 ax) := by go_simp
  have p1 : (((w.alloc (.cells #[.int .i64 ax, .int .i64 ay, .int .i64 ak] 61)).alloc (.cells #[.int .i64 bx, .int .i64 cy, .int .i64 bk] 61)).alloc (.cells #[.int .i64 0, .int .i64 0, .int .i64 0] 61)).cell? ⟨w.heap.size, 1, none⟩ = some (.int .i64 ay) := by go_simp
  have q0 : (((w.alloc (.cells #[.int .i64 ax, .int .i64 ay, .int .i64 ak] 61)).alloc (.cells #[.int .i64 bx, .int .i64 cy, .int .i64 bk] 61)).alloc (.cells #[.int .i64 0, .int .i64 0, .int .i64 0] 61)).cell? ⟨w.heap.size + 1, 0, none⟩ = some (.int .i64 bx) := by go_simp
  have q1 : (((w.alloc (.cells #[.int .i64 ax, .int .i64 ay, .int .i64 ak] 61)).alloc (.cells #[.int .i64 bx, .int .i64 cy, .int .i64 bk] 61)).alloc (.cells #[.int .i64 0, .int .i64 0, .int .i64 0] 61)).cell? ⟨w.heap.size + 1, 1, none⟩ = some (.int .i64 cy) := by go_simp
  have hB := heap_alloc_new ((w.alloc (.cells #[.int .i64 ax, .int .i64 ay, .int .i64 ak] 61)).alloc (.cells #[.int .i64 bx, .int .i64 cy, .int .i64 bk] 61)) (.cells #[.int .i64 0, .int .i64 0, .int .i64 0] 61)
  simp only [World.size_alloc] at hB
  generalize ((w.alloc (.cells #[.int .i64 ax, .int .i64 ay, .int .i64 ak] 61)).alloc (.cells #[.int .i64 bx, .int .i64 cy, .int .i64 bk] 61)).alloc (.cells #[.int .i64 0, .int .i64 0, .int .i64 0] 61) = w1 at *
  have r0 := fun n : KW w1 => KW.cell p0 n
  have r1 := fun n : KW w1 => KW.cell p1 n
  have t0 := fun n : KW w1 => KW.cell q0 n
  have t1 := fun n : KW w1 => KW.cell q1 n
  refine wp_region_kqt 13 (by kernel_rfl) (by kernel_rfl) ?_
  simp only [List.take_succ_cons, List.take_zero, List.drop_succ_cons, List.drop_zero]
  repeat (go_big_quiet_step ((first | (go_at_call 151; with_reducible exact Calls.kq0 (HX.out _)) | (go_at_call 151; with_reducible exact Calls.kq0 (HY.out _)))))
  refine wpQuiet_nil ?_
  intro w2 hw'
  obtain ⟨⟨_, hkw2⟩, rfl⟩ := hw'
  try dsimp only
  have hB2 := hkw2.heap hB (by simp)
  have HK2 : Hid (Kp [] w w2) := hk0.trans hkw2
  have d0 : w2.cell? ⟨w.heap.size + 1 + 1, 0, none⟩ = some (.int .i64 0) := by
    rw [cell_of_row w2 _ 0 _ _ _ hB2]; rfl
  have d1 : w2.cell? ⟨w.heap.size + 1 + 1, 1, none⟩ = some (.int .i64 0) := by
    rw [cell_of_row w2 _ 1 _ _ _ hB2]; rfl
  have d2 : w2.cell? ⟨w.heap.size + 1 + 1, 2, none⟩ = some (.int .i64 0) := by
    rw [cell_of_row w2 _ 2 _ _ _ hB2]; rfl
  have f0 := frozen_of_row w2 _ 0 _ _ hB2
  have f1 := frozen_of_row w2 _ 1 _ _ hB2
  have f2 := frozen_of_row w2 _ 2 _ _ hB2
  go_wp2_with fail
  refine bodyPost_ret (v := .agg #[.int .i64 ((ax + bx) / 2), .int .i64 ((ay + cy) / 2), .int .i64 1]) (by simp [results, Try.results137, go_sem, *]) rfl ⟨rfl, ?_⟩
  exact ((HK2.out.setCell (.inr (by show _ ≤ w.heap.size + 1 + 1; omega)) _).setCell (.inr (by show _ ≤ w.heap.size + 1 + 1; omega)) _).setCell (.inr (by show _ ≤ w.heap.size + 1 + 1; omega)) _
end Go.Proofs.Ytodjohoonbkklaa

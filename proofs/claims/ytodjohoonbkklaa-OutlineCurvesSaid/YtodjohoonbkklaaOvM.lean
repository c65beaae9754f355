/- outline: the program's curve. (Written by wip/outline/genovm.py.) -/
import Derived.Test.YtodjohoonbkklaaOvL
import Derived.Deep.DeepCutAuto
import Derived.Test.YtodjohoonbkklaaInv
namespace Go.Proofs.Ytodjohoonbkklaa
open Go.RowKit
set_option linter.unusedVariables false
set_option linter.unusedSimpArgs false
/-- A curve lies in block R. -/
def CvAt (W : World) (R : Nat) (q : Cv) : Prop := W.heap[R]? = some (.cells (cvCells q) 63)
theorem CvAt.kp {S : List Nat} {W W' : World} {R : Nat} {q : Cv} (h : CvAt W R q) (hk : Kp S W W') (hR : R ∉ S) : CvAt W' R q := hk.heap h hR
theorem CvAt.cells {W : World} {R : Nat} {q : Cv} (h : CvAt W R q) : W.cell? ⟨R, 0, none⟩ = some (.int .i64 q.k) ∧ W.cell? ⟨R, 1, none⟩ = some (.int .i64 q.a.x) ∧ W.cell? ⟨R, 2, none⟩ = some (.int .i64 q.a.y) ∧ W.cell? ⟨R, 3, none⟩ = some (.int .i64 q.a.k) ∧ W.cell? ⟨R, 4, none⟩ = some (.int .i64 q.b.x) ∧ W.cell? ⟨R, 5, none⟩ = some (.int .i64 q.b.y) ∧ W.cell? ⟨R, 6, none⟩ = some (.int .i64 q.b.k) ∧ W.cell? ⟨R, 7, none⟩ = some (.int .i64 q.c.x) ∧ W.cell? ⟨R, 8, none⟩ = some (.int .i64 q.c.y) ∧ W.cell? ⟨R, 9, none⟩ = some (.int .i64 q.c.k) ∧ W.cell? ⟨R, 10, none⟩ = some (.int .i64 q.d.x) ∧ W.cell? ⟨R, 11, none⟩ = some (.int .i64 q.d.y) ∧ W.cell? ⟨R, 12, none⟩ = some (.int .i64 q.d.k) := by
  refine ⟨?_, ?_, ?_, ?_, ?_, ?_, ?_, ?_, ?_, ?_, ?_, ?_, ?_⟩
  · rw [cell_of_row W R 0 _ _ (0, 0) h]; rfl
  · rw [cell_of_row W R 1 _ _ (0, 0) h]; rfl
  · rw [cell_of_row W R 2 _ _ (0, 0) h]; rfl
  · rw [cell_of_row W R 3 _ _ (0, 0) h]; rfl
  · rw [cell_of_row W R 4 _ _ (0, 0) h]; rfl
  · rw [cell_of_row W R 5 _ _ (0, 0) h]; rfl
  · rw [cell_of_row W R 6 _ _ (0, 0) h]; rfl
  · rw [cell_of_row W R 7 _ _ (0, 0) h]; rfl
  · rw [cell_of_row W R 8 _ _ (0, 0) h]; rfl
  · rw [cell_of_row W R 9 _ _ (0, 0) h]; rfl
  · rw [cell_of_row W R 10 _ _ (0, 0) h]; rfl
  · rw [cell_of_row W R 11 _ _ (0, 0) h]; rfl
  · rw [cell_of_row W R 12 _ _ (0, 0) h]; rfl
theorem CvAt.frozen {W : World} {R : Nat} {q : Cv} (h : CvAt W R q) : W.frozen? ⟨R, 0, none⟩ = false ∧ W.frozen? ⟨R, 1, none⟩ = false ∧ W.frozen? ⟨R, 2, none⟩ = false ∧ W.frozen? ⟨R, 3, none⟩ = false ∧ W.frozen? ⟨R, 4, none⟩ = false ∧ W.frozen? ⟨R, 5, none⟩ = false ∧ W.frozen? ⟨R, 6, none⟩ = false ∧ W.frozen? ⟨R, 7, none⟩ = false ∧ W.frozen? ⟨R, 8, none⟩ = false ∧ W.frozen? ⟨R, 9, none⟩ = false ∧ W.frozen? ⟨R, 10, none⟩ = false ∧ W.frozen? ⟨R, 11, none⟩ = false ∧ W.frozen? ⟨R, 12, none⟩ = false :=
  ⟨frozen_of_row W R 0 _ _ h, frozen_of_row W R 1 _ _ h, frozen_of_row W R 2 _ _ h, frozen_of_row W R 3 _ _ h, frozen_of_row W R 4 _ _ h, frozen_of_row W R 5 _ _ h, frozen_of_row W R 6 _ _ h, frozen_of_row W R 7 _ _ h, frozen_of_row W R 8 _ _ h, frozen_of_row W R 9 _ _ h, frozen_of_row W R 10 _ _ h, frozen_of_row W R 11 _ _ h, frozen_of_row W R 12 _ _ h⟩
theorem CvAt.put {w W : World} {R : Nat} {q : Cv} (h : CvAt W R q) (hk : Kp [] w W) (hR : w.heap.size ≤ R) (v0 v1 v2 v3 v4 v5 v6 v7 v8 v9 v10 v11 v12 : Int) :
    CvAt (((((((((((((W.setCell ⟨R, 0, none⟩ (.int .i64 v0)).setCell ⟨R, 1, none⟩ (.int .i64 v1)).setCell ⟨R, 2, none⟩ (.int .i64 v2)).setCell ⟨R, 3, none⟩ (.int .i64 v3)).setCell ⟨R, 4, none⟩ (.int .i64 v4)).setCell ⟨R, 5, none⟩ (.int .i64 v5)).setCell ⟨R, 6, none⟩ (.int .i64 v6)).setCell ⟨R, 7, none⟩ (.int .i64 v7)).setCell ⟨R, 8, none⟩ (.int .i64 v8)).setCell ⟨R, 9, none⟩ (.int .i64 v9)).setCell ⟨R, 10, none⟩ (.int .i64 v10)).setCell ⟨R, 11, none⟩ (.int .i64 v11)).setCell ⟨R, 12, none⟩ (.int .i64 v12)) R ⟨v0, ⟨v1, v2, v3⟩, ⟨v4, v5, v6⟩, ⟨v7, v8, v9⟩, ⟨v10, v11, v12⟩⟩ ∧ Kp [] w (((((((((((((W.setCell ⟨R, 0, none⟩ (.int .i64 v0)).setCell ⟨R, 1, none⟩ (.int .i64 v1)).setCell ⟨R, 2, none⟩ (.int .i64 v2)).setCell ⟨R, 3, none⟩ (.int .i64 v3)).setCell ⟨R, 4, none⟩ (.int .i64 v4)).setCell ⟨R, 5, none⟩ (.int .i64 v5)).setCell ⟨R, 6, none⟩ (.int .i64 v6)).setCell ⟨R, 7, none⟩ (.int .i64 v7)).setCell ⟨R, 8, none⟩ (.int .i64 v8)).setCell ⟨R, 9, none⟩ (.int .i64 v9)).setCell ⟨R, 10, none⟩ (.int .i64 v10)).setCell ⟨R, 11, none⟩ (.int .i64 v11)).setCell ⟨R, 12, none⟩ (.int .i64 v12)) := by
  have h0 := heap_setCell_same W R 0 _ _ (.int .i64 v0) h
  have h1 := heap_setCell_same _ R 1 _ _ (.int .i64 v1) h0
  have h2 := heap_setCell_same _ R 2 _ _ (.int .i64 v2) h1
  have h3 := heap_setCell_same _ R 3 _ _ (.int .i64 v3) h2
  have h4 := heap_setCell_same _ R 4 _ _ (.int .i64 v4) h3
  have h5 := heap_setCell_same _ R 5 _ _ (.int .i64 v5) h4
  have h6 := heap_setCell_same _ R 6 _ _ (.int .i64 v6) h5
  have h7 := heap_setCell_same _ R 7 _ _ (.int .i64 v7) h6
  have h8 := heap_setCell_same _ R 8 _ _ (.int .i64 v8) h7
  have h9 := heap_setCell_same _ R 9 _ _ (.int .i64 v9) h8
  have h10 := heap_setCell_same _ R 10 _ _ (.int .i64 v10) h9
  have h11 := heap_setCell_same _ R 11 _ _ (.int .i64 v11) h10
  have h12 := heap_setCell_same _ R 12 _ _ (.int .i64 v12) h11
  refine ⟨by simpa [CvAt, cvCells] using h12, ?_⟩
  have k0 := hk.setCell (p := ⟨R, 0, none⟩) (.inr hR) (.int .i64 v0)
  have k1 := k0.setCell (p := ⟨R, 1, none⟩) (.inr hR) (.int .i64 v1)
  have k2 := k1.setCell (p := ⟨R, 2, none⟩) (.inr hR) (.int .i64 v2)
  have k3 := k2.setCell (p := ⟨R, 3, none⟩) (.inr hR) (.int .i64 v3)
  have k4 := k3.setCell (p := ⟨R, 4, none⟩) (.inr hR) (.int .i64 v4)
  have k5 := k4.setCell (p := ⟨R, 5, none⟩) (.inr hR) (.int .i64 v5)
  have k6 := k5.setCell (p := ⟨R, 6, none⟩) (.inr hR) (.int .i64 v6)
  have k7 := k6.setCell (p := ⟨R, 7, none⟩) (.inr hR) (.int .i64 v7)
  have k8 := k7.setCell (p := ⟨R, 8, none⟩) (.inr hR) (.int .i64 v8)
  have k9 := k8.setCell (p := ⟨R, 9, none⟩) (.inr hR) (.int .i64 v9)
  have k10 := k9.setCell (p := ⟨R, 10, none⟩) (.inr hR) (.int .i64 v10)
  have k11 := k10.setCell (p := ⟨R, 11, none⟩) (.inr hR) (.int .i64 v11)
  have k12 := k11.setCell (p := ⟨R, 12, none⟩) (.inr hR) (.int .i64 v12)
  exact k12
def cv0 : Cv := ⟨0, pn0, pn0, pn0, pn0⟩
/-- What curve holds behind its first line: the result's block, and its two points' blocks. -/
def CuSt (w W : World) (A B : Nat) (p q : Pn) : Prop :=
  CvAt W w.heap.size cv0 ∧ (W.cell? ⟨A, 0, none⟩ = some (.int .i64 p.x) ∧ W.cell? ⟨A, 1, none⟩ = some (.int .i64 p.y) ∧ W.cell? ⟨A, 2, none⟩ = some (.int .i64 p.k)) ∧
  (W.cell? ⟨B, 0, none⟩ = some (.int .i64 q.x) ∧ W.cell? ⟨B, 1, none⟩ = some (.int .i64 q.y) ∧ W.cell? ⟨B, 2, none⟩ = some (.int .i64 q.k)) ∧ Kp [] w W
theorem box_kept {w W : World} {B : Nat} {x y z : Int} {t : TypeId} (hk : Kp [] w W) (h : w.heap[B]? = some (.cells #[.int .i64 x, .int .i64 y, .int .i64 z] t)) :
    (W.cell? ⟨B, 0, none⟩ = some (.int .i64 x) ∧ W.cell? ⟨B, 1, none⟩ = some (.int .i64 y) ∧ W.cell? ⟨B, 2, none⟩ = some (.int .i64 z)) ∧ W.frozen? ⟨B, 0, none⟩ = false ∧ W.frozen? ⟨B, 1, none⟩ = false ∧ W.frozen? ⟨B, 2, none⟩ = false := by
  have h2 := hk.heap h (by simp)
  exact ⟨⟨by rw [cell_of_row W B 0 _ _ (0, 0) h2]; rfl, by rw [cell_of_row W B 1 _ _ (0, 0) h2]; rfl, by rw [cell_of_row W B 2 _ _ (0, 0) h2]; rfl⟩, frozen_of_row W B 0 _ _ h2, frozen_of_row W B 1 _ _ h2, frozen_of_row W B 2 _ _ h2⟩
theorem kept2 {w W : World} {x y z x2 y2 z2 : Int} {t t2 : TypeId} (hk : Kp [] ((w.alloc (.cells #[.int .i64 x, .int .i64 y, .int .i64 z] t)).alloc (.cells #[.int .i64 x2, .int .i64 y2, .int .i64 z2] t2)).drew W) :
    ((W.cell? ⟨w.heap.size, 0, none⟩ = some (.int .i64 x) ∧ W.cell? ⟨w.heap.size, 1, none⟩ = some (.int .i64 y) ∧ W.cell? ⟨w.heap.size, 2, none⟩ = some (.int .i64 z)) ∧ W.frozen? ⟨w.heap.size, 0, none⟩ = false ∧ W.frozen? ⟨w.heap.size, 1, none⟩ = false ∧ W.frozen? ⟨w.heap.size, 2, none⟩ = false) ∧
    ((W.cell? ⟨w.heap.size + 1, 0, none⟩ = some (.int .i64 x2) ∧ W.cell? ⟨w.heap.size + 1, 1, none⟩ = some (.int .i64 y2) ∧ W.cell? ⟨w.heap.size + 1, 2, none⟩ = some (.int .i64 z2)) ∧ W.frozen? ⟨w.heap.size + 1, 0, none⟩ = false ∧ W.frozen? ⟨w.heap.size + 1, 1, none⟩ = false ∧ W.frozen? ⟨w.heap.size + 1, 2, none⟩ = false) := by
  obtain ⟨h1, h2⟩ := two_heap (w := w) (A := .cells #[.int .i64 x, .int .i64 y, .int .i64 z] t) (B := .cells #[.int .i64 x2, .int .i64 y2, .int .i64 z2] t2) rfl
  have hk2 : Kp [] ((w.alloc (.cells #[.int .i64 x, .int .i64 y, .int .i64 z] t)).alloc (.cells #[.int .i64 x2, .int .i64 y2, .int .i64 z2] t2)) W := ((Kp.refl _ _).drew).trans hk
  exact ⟨box_kept hk2 h1, box_kept hk2 h2⟩
theorem kept1 {w W : World} {x y z : Int} {t : TypeId} (hk : Kp [] (w.alloc (.cells #[.int .i64 x, .int .i64 y, .int .i64 z] t)).drew W) :
    (W.cell? ⟨w.heap.size, 0, none⟩ = some (.int .i64 x) ∧ W.cell? ⟨w.heap.size, 1, none⟩ = some (.int .i64 y) ∧ W.cell? ⟨w.heap.size, 2, none⟩ = some (.int .i64 z)) ∧ W.frozen? ⟨w.heap.size, 0, none⟩ = false ∧ W.frozen? ⟨w.heap.size, 1, none⟩ = false ∧ W.frozen? ⟨w.heap.size, 2, none⟩ = false :=
  box_kept (((Kp.refl _ _).drew).trans hk) (heap_alloc_new w _)
/-- A new block for a point. -/
def NewP (W w : World) (v : Value) (P : Pn → Prop) : Prop := ∃ A p, v = .pointer (some ⟨A, 0, none⟩) ∧ W.heap.size ≤ A ∧ w.heap[A]? = some (.cells (pnCells p) 61) ∧ P p
theorem NewP.mp {W w w' : World} {v : Value} {P Q : Pn → Prop} (h : NewP W w v P) (hk : Kp [] w w') (hPQ : ∀ x, P x → Q x) : NewP W w' v Q := by
  obtain ⟨A, p, h1, h2, h3, h4⟩ := h
  exact ⟨A, p, h1, h2, hk.heap h3 (by simp), hPQ p h4⟩
theorem NewP.ne {W w : World} {v : Value} {P : Pn → Prop} (h : NewP W w v P) : Value.pointer (some ⟨w.heap.size, 0, none⟩) ≠ v := by
  obtain ⟨A, p, rfl, h2, h3, h4⟩ := h
  intro e
  have h5 : w.heap.size = A := by simpa using e
  have := lt_of_block h3; omega
/-- What curve's first line has left, operation by operation. -/
structure CuI (W w : World) (N cp g off i : Nat) (p q : Pn) (L : Nat → Prop) (t6 t7 t8 t9 t10 t11 t12 t13 t14 t15 : Value) : Prop where
  kp : Kp [] W w
  e0 : L 0 → t8 = .slice (some ⟨g, off, none⟩) N cp
  e1 : L 1 → t9 = .int .i64 i
  e2 : L 2 → t10 = .pointer (some ⟨g, off + i * 3, none⟩)
  e3 : L 3 → t11 = pnV p
  e4 : L 4 → t12 = .slice (some ⟨g, off, none⟩) N cp
  e5 : L 5 → t13 = .int .i64 i
  e6 : L 6 → t14 = .int .i64 ((i : Int) + 1)
  e7 : L 7 → t15 = pnV q
  e8 : L 8 → NewP W w t6 (fun x => L 10 → x = p)
  e9 : L 9 → NewP W w t7 (fun x => L 11 → x = q)
  ne : L 8 → L 9 → t6 ≠ t7
  o10 : L 10 → L 8
  o11 : L 11 → L 9
theorem CuI.start (W : World) (N cp g off i : Nat) (p q : Pn) (t6 t7 t8 t9 t10 t11 t12 t13 t14 t15 : Value) : CuI W W.drew N cp g off i p q (fun _ => False) t6 t7 t8 t9 t10 t11 t12 t13 t14 t15 :=
  ⟨(Kp.refl _ _).drew, False.elim, False.elim, False.elim, False.elim, False.elim, False.elim, False.elim, False.elim, False.elim, False.elim, False.elim, False.elim, False.elim⟩
theorem CuI.s0 {W w : World} {N cp g off i : Nat} {p q : Pn} {L : Nat → Prop} {t6 t7 t8 t9 t10 t11 t12 t13 t14 t15 : Value} (h : CuI W w N cp g off i p q L t6 t7 t8 t9 t10 t11 t12 t13 t14 t15) : CuI W w N cp g off i p q (fun x => x = 0 ∨ L x) t6 t7 (.slice (some ⟨g, off, none⟩) N cp) t9 t10 t11 t12 t13 t14 t15 :=
  ⟨h.kp, fun _ => rfl, fun hL => h.e1 (hL.resolve_left (by decide)), fun hL => h.e2 (hL.resolve_left (by decide)), fun hL => h.e3 (hL.resolve_left (by decide)), fun hL => h.e4 (hL.resolve_left (by decide)), fun hL => h.e5 (hL.resolve_left (by decide)), fun hL => h.e6 (hL.resolve_left (by decide)), fun hL => h.e7 (hL.resolve_left (by decide)), fun hL => (h.e8 (hL.resolve_left (by decide))).mp (Kp.refl _ _) (fun _ hx hy => hx (hy.resolve_left (by decide))), fun hL => (h.e9 (hL.resolve_left (by decide))).mp (Kp.refl _ _) (fun _ hx hy => hx (hy.resolve_left (by decide))), fun ha hb => h.ne (ha.resolve_left (by decide)) (hb.resolve_left (by decide)), fun hL => .inr (h.o10 (hL.resolve_left (by decide))), fun hL => .inr (h.o11 (hL.resolve_left (by decide)))⟩
theorem CuI.s1 {W w : World} {N cp g off i : Nat} {p q : Pn} {L : Nat → Prop} {t6 t7 t8 t9 t10 t11 t12 t13 t14 t15 : Value} (h : CuI W w N cp g off i p q L t6 t7 t8 t9 t10 t11 t12 t13 t14 t15) : CuI W w N cp g off i p q (fun x => x = 1 ∨ L x) t6 t7 t8 (.int .i64 i) t10 t11 t12 t13 t14 t15 :=
  ⟨h.kp, fun hL => h.e0 (hL.resolve_left (by decide)), fun _ => rfl, fun hL => h.e2 (hL.resolve_left (by decide)), fun hL => h.e3 (hL.resolve_left (by decide)), fun hL => h.e4 (hL.resolve_left (by decide)), fun hL => h.e5 (hL.resolve_left (by decide)), fun hL => h.e6 (hL.resolve_left (by decide)), fun hL => h.e7 (hL.resolve_left (by decide)), fun hL => (h.e8 (hL.resolve_left (by decide))).mp (Kp.refl _ _) (fun _ hx hy => hx (hy.resolve_left (by decide))), fun hL => (h.e9 (hL.resolve_left (by decide))).mp (Kp.refl _ _) (fun _ hx hy => hx (hy.resolve_left (by decide))), fun ha hb => h.ne (ha.resolve_left (by decide)) (hb.resolve_left (by decide)), fun hL => .inr (h.o10 (hL.resolve_left (by decide))), fun hL => .inr (h.o11 (hL.resolve_left (by decide)))⟩
theorem CuI.s2 {W w : World} {N cp g off i : Nat} {p q : Pn} {L : Nat → Prop} {t6 t7 t8 t9 t10 t11 t12 t13 t14 t15 : Value} (h : CuI W w N cp g off i p q L t6 t7 t8 t9 t10 t11 t12 t13 t14 t15) : CuI W w N cp g off i p q (fun x => x = 2 ∨ L x) t6 t7 t8 t9 (.pointer (some ⟨g, off + i * 3, none⟩)) t11 t12 t13 t14 t15 :=
  ⟨h.kp, fun hL => h.e0 (hL.resolve_left (by decide)), fun hL => h.e1 (hL.resolve_left (by decide)), fun _ => rfl, fun hL => h.e3 (hL.resolve_left (by decide)), fun hL => h.e4 (hL.resolve_left (by decide)), fun hL => h.e5 (hL.resolve_left (by decide)), fun hL => h.e6 (hL.resolve_left (by decide)), fun hL => h.e7 (hL.resolve_left (by decide)), fun hL => (h.e8 (hL.resolve_left (by decide))).mp (Kp.refl _ _) (fun _ hx hy => hx (hy.resolve_left (by decide))), fun hL => (h.e9 (hL.resolve_left (by decide))).mp (Kp.refl _ _) (fun _ hx hy => hx (hy.resolve_left (by decide))), fun ha hb => h.ne (ha.resolve_left (by decide)) (hb.resolve_left (by decide)), fun hL => .inr (h.o10 (hL.resolve_left (by decide))), fun hL => .inr (h.o11 (hL.resolve_left (by decide)))⟩
theorem CuI.s3 {W w : World} {N cp g off i : Nat} {p q : Pn} {L : Nat → Prop} {t6 t7 t8 t9 t10 t11 t12 t13 t14 t15 : Value} (h : CuI W w N cp g off i p q L t6 t7 t8 t9 t10 t11 t12 t13 t14 t15) : CuI W w N cp g off i p q (fun x => x = 3 ∨ L x) t6 t7 t8 t9 t10 (pnV p) t12 t13 t14 t15 :=
  ⟨h.kp, fun hL => h.e0 (hL.resolve_left (by decide)), fun hL => h.e1 (hL.resolve_left (by decide)), fun hL => h.e2 (hL.resolve_left (by decide)), fun _ => rfl, fun hL => h.e4 (hL.resolve_left (by decide)), fun hL => h.e5 (hL.resolve_left (by decide)), fun hL => h.e6 (hL.resolve_left (by decide)), fun hL => h.e7 (hL.resolve_left (by decide)), fun hL => (h.e8 (hL.resolve_left (by decide))).mp (Kp.refl _ _) (fun _ hx hy => hx (hy.resolve_left (by decide))), fun hL => (h.e9 (hL.resolve_left (by decide))).mp (Kp.refl _ _) (fun _ hx hy => hx (hy.resolve_left (by decide))), fun ha hb => h.ne (ha.resolve_left (by decide)) (hb.resolve_left (by decide)), fun hL => .inr (h.o10 (hL.resolve_left (by decide))), fun hL => .inr (h.o11 (hL.resolve_left (by decide)))⟩
theorem CuI.s4 {W w : World} {N cp g off i : Nat} {p q : Pn} {L : Nat → Prop} {t6 t7 t8 t9 t10 t11 t12 t13 t14 t15 : Value} (h : CuI W w N cp g off i p q L t6 t7 t8 t9 t10 t11 t12 t13 t14 t15) : CuI W w N cp g off i p q (fun x => x = 4 ∨ L x) t6 t7 t8 t9 t10 t11 (.slice (some ⟨g, off, none⟩) N cp) t13 t14 t15 :=
  ⟨h.kp, fun hL => h.e0 (hL.resolve_left (by decide)), fun hL => h.e1 (hL.resolve_left (by decide)), fun hL => h.e2 (hL.resolve_left (by decide)), fun hL => h.e3 (hL.resolve_left (by decide)), fun _ => rfl, fun hL => h.e5 (hL.resolve_left (by decide)), fun hL => h.e6 (hL.resolve_left (by decide)), fun hL => h.e7 (hL.resolve_left (by decide)), fun hL => (h.e8 (hL.resolve_left (by decide))).mp (Kp.refl _ _) (fun _ hx hy => hx (hy.resolve_left (by decide))), fun hL => (h.e9 (hL.resolve_left (by decide))).mp (Kp.refl _ _) (fun _ hx hy => hx (hy.resolve_left (by decide))), fun ha hb => h.ne (ha.resolve_left (by decide)) (hb.resolve_left (by decide)), fun hL => .inr (h.o10 (hL.resolve_left (by decide))), fun hL => .inr (h.o11 (hL.resolve_left (by decide)))⟩
theorem CuI.s5 {W w : World} {N cp g off i : Nat} {p q : Pn} {L : Nat → Prop} {t6 t7 t8 t9 t10 t11 t12 t13 t14 t15 : Value} (h : CuI W w N cp g off i p q L t6 t7 t8 t9 t10 t11 t12 t13 t14 t15) : CuI W w N cp g off i p q (fun x => x = 5 ∨ L x) t6 t7 t8 t9 t10 t11 t12 (.int .i64 i) t14 t15 :=
  ⟨h.kp, fun hL => h.e0 (hL.resolve_left (by decide)), fun hL => h.e1 (hL.resolve_left (by decide)), fun hL => h.e2 (hL.resolve_left (by decide)), fun hL => h.e3 (hL.resolve_left (by decide)), fun hL => h.e4 (hL.resolve_left (by decide)), fun _ => rfl, fun hL => h.e6 (hL.resolve_left (by decide)), fun hL => h.e7 (hL.resolve_left (by decide)), fun hL => (h.e8 (hL.resolve_left (by decide))).mp (Kp.refl _ _) (fun _ hx hy => hx (hy.resolve_left (by decide))), fun hL => (h.e9 (hL.resolve_left (by decide))).mp (Kp.refl _ _) (fun _ hx hy => hx (hy.resolve_left (by decide))), fun ha hb => h.ne (ha.resolve_left (by decide)) (hb.resolve_left (by decide)), fun hL => .inr (h.o10 (hL.resolve_left (by decide))), fun hL => .inr (h.o11 (hL.resolve_left (by decide)))⟩
theorem CuI.s6 {W w : World} {N cp g off i : Nat} {p q : Pn} {L : Nat → Prop} {t6 t7 t8 t9 t10 t11 t12 t13 t14 t15 : Value} (h : CuI W w N cp g off i p q L t6 t7 t8 t9 t10 t11 t12 t13 t14 t15) : CuI W w N cp g off i p q (fun x => x = 6 ∨ L x) t6 t7 t8 t9 t10 t11 t12 t13 (.int .i64 ((i : Int) + 1)) t15 :=
  ⟨h.kp, fun hL => h.e0 (hL.resolve_left (by decide)), fun hL => h.e1 (hL.resolve_left (by decide)), fun hL => h.e2 (hL.resolve_left (by decide)), fun hL => h.e3 (hL.resolve_left (by decide)), fun hL => h.e4 (hL.resolve_left (by decide)), fun hL => h.e5 (hL.resolve_left (by decide)), fun _ => rfl, fun hL => h.e7 (hL.resolve_left (by decide)), fun hL => (h.e8 (hL.resolve_left (by decide))).mp (Kp.refl _ _) (fun _ hx hy => hx (hy.resolve_left (by decide))), fun hL => (h.e9 (hL.resolve_left (by decide))).mp (Kp.refl _ _) (fun _ hx hy => hx (hy.resolve_left (by decide))), fun ha hb => h.ne (ha.resolve_left (by decide)) (hb.resolve_left (by decide)), fun hL => .inr (h.o10 (hL.resolve_left (by decide))), fun hL => .inr (h.o11 (hL.resolve_left (by decide)))⟩
theorem CuI.s7 {W w : World} {N cp g off i : Nat} {p q : Pn} {L : Nat → Prop} {t6 t7 t8 t9 t10 t11 t12 t13 t14 t15 : Value} (h : CuI W w N cp g off i p q L t6 t7 t8 t9 t10 t11 t12 t13 t14 t15) {w' : World} (hk : Kp [] w w') : CuI W w' N cp g off i p q (fun x => x = 7 ∨ L x) t6 t7 t8 t9 t10 t11 t12 t13 t14 (pnV q) :=
  ⟨h.kp.trans hk, fun hL => h.e0 (hL.resolve_left (by decide)), fun hL => h.e1 (hL.resolve_left (by decide)), fun hL => h.e2 (hL.resolve_left (by decide)), fun hL => h.e3 (hL.resolve_left (by decide)), fun hL => h.e4 (hL.resolve_left (by decide)), fun hL => h.e5 (hL.resolve_left (by decide)), fun hL => h.e6 (hL.resolve_left (by decide)), fun _ => rfl, fun hL => (h.e8 (hL.resolve_left (by decide))).mp hk (fun _ hx hy => hx (hy.resolve_left (by decide))), fun hL => (h.e9 (hL.resolve_left (by decide))).mp hk (fun _ hx hy => hx (hy.resolve_left (by decide))), fun ha hb => h.ne (ha.resolve_left (by decide)) (hb.resolve_left (by decide)), fun hL => .inr (h.o10 (hL.resolve_left (by decide))), fun hL => .inr (h.o11 (hL.resolve_left (by decide)))⟩
theorem CuI.s8 {W w : World} {N cp g off i : Nat} {p q : Pn} {L : Nat → Prop} {t6 t7 t8 t9 t10 t11 t12 t13 t14 t15 : Value} (h : CuI W w N cp g off i p q L t6 t7 t8 t9 t10 t11 t12 t13 t14 t15) (hn : ¬ L 8) : CuI W (w.alloc (.cells #[.int .i64 0, .int .i64 0, .int .i64 0] 61)) N cp g off i p q (fun x => x = 8 ∨ L x) (.pointer (some ⟨w.heap.size, 0, none⟩)) t7 t8 t9 t10 t11 t12 t13 t14 t15 :=
  ⟨h.kp.alloc _, fun hL => h.e0 (hL.resolve_left (by decide)), fun hL => h.e1 (hL.resolve_left (by decide)), fun hL => h.e2 (hL.resolve_left (by decide)), fun hL => h.e3 (hL.resolve_left (by decide)), fun hL => h.e4 (hL.resolve_left (by decide)), fun hL => h.e5 (hL.resolve_left (by decide)), fun hL => h.e6 (hL.resolve_left (by decide)), fun hL => h.e7 (hL.resolve_left (by decide)), fun _ => ⟨w.heap.size, pn0, rfl, h.kp.size, heap_alloc_new w _, fun hy => absurd (h.o10 (hy.resolve_left (by decide))) hn⟩, fun hL => (h.e9 (hL.resolve_left (by decide))).mp ((Kp.refl _ _).alloc _) (fun _ hx hy => hx (hy.resolve_left (by decide))), fun _ hb => (h.e9 (hb.resolve_left (by decide))).ne, fun hL => .inr (h.o10 (hL.resolve_left (by decide))), fun hL => .inr (h.o11 (hL.resolve_left (by decide)))⟩
theorem CuI.s9 {W w : World} {N cp g off i : Nat} {p q : Pn} {L : Nat → Prop} {t6 t7 t8 t9 t10 t11 t12 t13 t14 t15 : Value} (h : CuI W w N cp g off i p q L t6 t7 t8 t9 t10 t11 t12 t13 t14 t15) (hn : ¬ L 9) : CuI W (w.alloc (.cells #[.int .i64 0, .int .i64 0, .int .i64 0] 61)) N cp g off i p q (fun x => x = 9 ∨ L x) t6 (.pointer (some ⟨w.heap.size, 0, none⟩)) t8 t9 t10 t11 t12 t13 t14 t15 :=
  ⟨h.kp.alloc _, fun hL => h.e0 (hL.resolve_left (by decide)), fun hL => h.e1 (hL.resolve_left (by decide)), fun hL => h.e2 (hL.resolve_left (by decide)), fun hL => h.e3 (hL.resolve_left (by decide)), fun hL => h.e4 (hL.resolve_left (by decide)), fun hL => h.e5 (hL.resolve_left (by decide)), fun hL => h.e6 (hL.resolve_left (by decide)), fun hL => h.e7 (hL.resolve_left (by decide)), fun hL => (h.e8 (hL.resolve_left (by decide))).mp ((Kp.refl _ _).alloc _) (fun _ hx hy => hx (hy.resolve_left (by decide))), fun _ => ⟨w.heap.size, pn0, rfl, h.kp.size, heap_alloc_new w _, fun hy => absurd (h.o11 (hy.resolve_left (by decide))) hn⟩, fun ha _ e => (h.e8 (ha.resolve_left (by decide))).ne e.symm, fun hL => .inr (h.o10 (hL.resolve_left (by decide))), fun hL => .inr (h.o11 (hL.resolve_left (by decide)))⟩
theorem put3 {W : World} {A : Nat} {p : Pn} (h : W.heap[A]? = some (.cells (pnCells p) 61)) (x y z : Int) : (((W.setCell ⟨A, 0, none⟩ (.int .i64 x)).setCell ⟨A, 1, none⟩ (.int .i64 y)).setCell ⟨A, 2, none⟩ (.int .i64 z)).heap[A]? = some (.cells (pnCells ⟨x, y, z⟩) 61) := by
  have h1 := heap_setCell_same W A 0 _ _ (.int .i64 x) h
  have h2 := heap_setCell_same _ A 1 _ _ (.int .i64 y) h1
  have h3 := heap_setCell_same _ A 2 _ _ (.int .i64 z) h2
  simpa [pnCells] using h3
theorem put3_far {W : World} {A B : Nat} {o : Obj} (h : W.heap[B]? = some o) (hne : B ≠ A) (x y z : Value) : (((W.setCell ⟨A, 0, none⟩ x).setCell ⟨A, 1, none⟩ y).setCell ⟨A, 2, none⟩ z).heap[B]? = some o := by
  rw [heap_setCell_other _ _ B _ hne, heap_setCell_other _ _ B _ hne, heap_setCell_other _ _ B _ hne]; exact h
theorem put3_kp {W w : World} {A : Nat} (h : Kp [] W w) (hA : W.heap.size ≤ A) (x y z : Value) : Kp [] W (((w.setCell ⟨A, 0, none⟩ x).setCell ⟨A, 1, none⟩ y).setCell ⟨A, 2, none⟩ z) :=
  ((h.setCell (.inr hA) _).setCell (.inr hA) _).setCell (.inr hA) _
theorem CuI.s10 {W w : World} {N cp g off i A : Nat} {p q : Pn} {L : Nat → Prop} {t7 t8 t9 t10 t11 t12 t13 t14 t15 : Value} (h : CuI W w N cp g off i p q L (.pointer (some ⟨A, 0, none⟩)) t7 t8 t9 t10 t11 t12 t13 t14 t15) {r0 : Pn} (hA : W.heap.size ≤ A) (hb : w.heap[A]? = some (.cells (pnCells r0) 61)) (hl : L 8) : CuI W (((w.setCell ⟨A, 0, none⟩ (.int .i64 p.x)).setCell ⟨A, 1, none⟩ (.int .i64 p.y)).setCell ⟨A, 2, none⟩ (.int .i64 p.k)) N cp g off i p q (fun x => x = 10 ∨ L x) (.pointer (some ⟨A, 0, none⟩)) t7 t8 t9 t10 t11 t12 t13 t14 t15 := by
  refine ⟨put3_kp h.kp hA _ _ _, fun hL => h.e0 (hL.resolve_left (by decide)), fun hL => h.e1 (hL.resolve_left (by decide)), fun hL => h.e2 (hL.resolve_left (by decide)), fun hL => h.e3 (hL.resolve_left (by decide)), fun hL => h.e4 (hL.resolve_left (by decide)), fun hL => h.e5 (hL.resolve_left (by decide)), fun hL => h.e6 (hL.resolve_left (by decide)), fun hL => h.e7 (hL.resolve_left (by decide)), ?_, ?_, fun ha hb => h.ne (ha.resolve_left (by decide)) (hb.resolve_left (by decide)), fun _ => .inr hl, fun hL => .inr (h.o11 (hL.resolve_left (by decide)))⟩
  · exact fun _ => ⟨A, p, rfl, hA, put3 hb _ _ _, fun _ => rfl⟩
  · exact fun hL => by
      have h1 := h.e9 (hL.resolve_left (by decide))
      have hne := fun e => h.ne hl (hL.resolve_left (by decide)) (Eq.symm e)
      obtain ⟨B, r, rfl, h2, h3, h4⟩ := h1
      exact ⟨B, r, rfl, h2, put3_far h3 (fun e => hne (by rw [e])) _ _ _, fun hy => h4 (hy.resolve_left (by decide))⟩
theorem CuI.s11 {W w : World} {N cp g off i A : Nat} {p q : Pn} {L : Nat → Prop} {t6 t8 t9 t10 t11 t12 t13 t14 t15 : Value} (h : CuI W w N cp g off i p q L t6 (.pointer (some ⟨A, 0, none⟩)) t8 t9 t10 t11 t12 t13 t14 t15) {r0 : Pn} (hA : W.heap.size ≤ A) (hb : w.heap[A]? = some (.cells (pnCells r0) 61)) (hl : L 9) : CuI W (((w.setCell ⟨A, 0, none⟩ (.int .i64 q.x)).setCell ⟨A, 1, none⟩ (.int .i64 q.y)).setCell ⟨A, 2, none⟩ (.int .i64 q.k)) N cp g off i p q (fun x => x = 11 ∨ L x) t6 (.pointer (some ⟨A, 0, none⟩)) t8 t9 t10 t11 t12 t13 t14 t15 := by
  refine ⟨put3_kp h.kp hA _ _ _, fun hL => h.e0 (hL.resolve_left (by decide)), fun hL => h.e1 (hL.resolve_left (by decide)), fun hL => h.e2 (hL.resolve_left (by decide)), fun hL => h.e3 (hL.resolve_left (by decide)), fun hL => h.e4 (hL.resolve_left (by decide)), fun hL => h.e5 (hL.resolve_left (by decide)), fun hL => h.e6 (hL.resolve_left (by decide)), fun hL => h.e7 (hL.resolve_left (by decide)), ?_, ?_, fun ha hb => h.ne (ha.resolve_left (by decide)) (hb.resolve_left (by decide)), fun hL => .inr (h.o10 (hL.resolve_left (by decide))), fun _ => .inr hl⟩
  · exact fun hL => by
      have h1 := h.e8 (hL.resolve_left (by decide))
      have hne := h.ne (hL.resolve_left (by decide)) hl
      obtain ⟨B, r, rfl, h2, h3, h4⟩ := h1
      exact ⟨B, r, rfl, h2, put3_far h3 (fun e => hne (by rw [e])) _ _ _, fun hy => h4 (hy.resolve_left (by decide))⟩
  · exact fun _ => ⟨A, q, rfl, hA, put3 hb _ _ _, fun _ => rfl⟩
set_option maxRecDepth 100000 in
set_option maxHeartbeats 1000000 in
theorem curve1_calls (v : Value) (e : List Pn) (i : Nat) (p q q2 q3 : Pn) (hp : e.getD i pn0 = p) (hq : ringAt e ((i : Int) + 1) = q) (hq2 : ringAt e ((i : Int) + 2) = q2) (hq3 : ringAt e ((i : Int) + 3) = q3) (w : World) (hv : IsPs w v e) (hi : i < e.length) (hl : e.length ≤ 1048576) (hkk : q.k = 1) :
    Calls Try.prog 87 #[v, .int .i64 i] w fun r w' => r = .returned (.tuple #[cvV ⟨1, p, pn0, pn0, q⟩, .int .i64 1]) ∧ Kp [] w w' := by
  have HA1 : Hid (∀ W, Kp [] w W → Calls Try.prog 138 #[v, .int .i64 ((i : Int) + 1)] W fun r w' => r = .returned (pnV q) ∧ Kp [] W w') := fun W hW => by
    have := at_calls v e ((i : Int) + 1) W (hv.kp0 hW) (by omega) (by omega) (by omega) (by omega)
    rwa [hq] at this
  have HA2 : Hid (∀ W, Kp [] w W → Calls Try.prog 138 #[v, .int .i64 ((i : Int) + 2)] W fun r w' => r = .returned (pnV q2) ∧ Kp [] W w') := fun W hW => by
    have := at_calls v e ((i : Int) + 2) W (hv.kp0 hW) (by omega) (by omega) (by omega) (by omega)
    rwa [hq2] at this
  have HA3 : Hid (∀ W, Kp [] w W → Calls Try.prog 138 #[v, .int .i64 ((i : Int) + 3)] W fun r w' => r = .returned (pnV q3) ∧ Kp [] W w') := fun W hW => by
    have := at_calls v e ((i : Int) + 3) W (hv.kp0 hW) (by omega) (by omega) (by omega) (by omega)
    rwa [hq3] at this
  obtain ⟨g, off, cp, rfl, _, _, x0, y0, z0⟩ := hv.row hi
  rw [hp] at x0 y0 z0
  have HC : Hid (∀ W, Kp [] w W → W.cell? ⟨g, off + i * 3, none⟩ = some (.int .i64 p.x) ∧ W.cell? ⟨g, off + i * 3 + 1, none⟩ = some (.int .i64 p.y) ∧ W.cell? ⟨g, off + i * 3 + 2, none⟩ = some (.int .i64 p.k)) := fun W hW => ⟨hW.cell x0 (by simp), hW.cell y0 (by simp), hW.cell z0 (by simp)⟩
  have hg : g < w.heap.size := World.block_lt_of_cell? w _ x0
  generalize e.length = N at *
  obtain ⟨qx, qy, qk⟩ := q
  obtain ⟨px, py, pk⟩ := p
  obtain ⟨rx, ry, rk⟩ := q2
  obtain ⟨sx, sy, sk⟩ := q3
  simp only at hkk
  subst hkk
  rw [show pnV ⟨qx, qy, 1⟩ = .agg #[.int .i64 qx, .int .i64 qy, .int .i64 1] from rfl] at HA1
  rw [show pnV ⟨rx, ry, rk⟩ = .agg #[.int .i64 rx, .int .i64 ry, .int .i64 rk] from rfl] at HA2
  rw [show pnV ⟨sx, sy, sk⟩ = .agg #[.int .i64 sx, .int .i64 sy, .int .i64 sk] from rfl] at HA3
  dsimp only at HC
  clear hv hp hq hq2 hq3 x0 y0 z0
  have n0 : (0 : Int) ≤ (i : Int) := by omega
  have n1 : (i : Int) < (N : Int) := by omega
  go_enter Try.func87, Try.ntmps87
  go_upto_region 1 with fail
  go_cut [6, 7] (fun s6 s7 wx => ∃ A B, s6 = .pointer (some ⟨A, 0, none⟩) ∧ s7 = .pointer (some ⟨B, 0, none⟩) ∧ Hid (CuSt w wx A B ⟨px, py, pk⟩ ⟨qx, qy, 1⟩))
  case first =>
    refine wp_gen ?_; intro W hW
    have hkW : Kp [] w W := by rw [hW]; (repeat (first | exact Kp.refl _ _ | assumption | refine Kp.drew ?_ | refine Kp.drewN ?_ _ | refine Kp.alloc ?_ _ | (refine Kp.setCell ?_ (by first | (left; simp; done) | (right; simp; try omega)) _) | (refine Kp.trans' ?_ (by assumption) (by simp; try omega))))
    have HR : Hid (CvAt W w.heap.size cv0) := by show CvAt _ _ _; rw [hW]; exact heap_alloc_new w _
    obtain ⟨x0, y0, z0⟩ := HC.out W hkW
    clear hW
    have hRW : w.heap.size < W.heap.size := lt_of_block HR.out
    refine wp_region_inv (by kernel_rfl) (by kernel_rfl) (fun L a wx => ∃ t6 t7 t8 t9 t10 t11 t12 t13 t14 t15, a = { tmps := ((.slice (some ⟨g, off, none⟩) N cp : Value) :: .int .i64 i :: undef :: undef :: .pointer (some ⟨w.heap.size, 0, none⟩) :: .int .i64 0 :: t6 :: t7 :: t8 :: t9 :: t10 :: t11 :: t12 :: t13 :: t14 :: t15 :: undef :: undef :: undef :: undef :: undef :: undef :: undef :: undef :: undef :: undef :: undef :: undef :: undef :: undef :: undef :: undef :: undef :: undef :: undef :: undef :: undef :: undef :: undef :: undef :: undef :: undef :: undef :: []).toArray, defers := [] } ∧ CuI W wx N cp g off i ⟨px, py, pk⟩ ⟨qx, qy, 1⟩ L t6 t7 t8 t9 t10 t11 t12 t13 t14 t15) ?_ ?_ ?_
    · exact ⟨_, _, _, _, _, _, _, _, _, _, rfl, CuI.start _ _ _ _ _ _ _ _ _ _ _ _ _ _ _ _ _ _⟩
    · rintro L a wx j o ho ⟨t6, t7, t8, t9, t10, t11, t12, t13, t14, t15, rfl, hI⟩ hnl hd
      have hj : j < 12 := by have := (Array.getElem?_eq_some_iff.1 ho).1; simpa using this
      rcases (show j = 0 ∨ j = 1 ∨ j = 2 ∨ j = 3 ∨ j = 4 ∨ j = 5 ∨ j = 6 ∨ j = 7 ∨ j = 8 ∨ j = 9 ∨ j = 10 ∨ j = 11 by omega) with rfl | rfl | rfl | rfl | rfl | rfl | rfl | rfl | rfl | rfl | rfl | rfl
      all_goals obtain rfl := Option.some.inj ho
      · refine wpOp_step rfl (fun K' hK' => ?_)
        go_simp
        exact hK' _ _ ⟨_, _, _, _, _, _, _, _, _, _, rfl, hI.s0⟩
      · refine wpOp_step rfl (fun K' hK' => ?_)
        go_simp
        exact hK' _ _ ⟨_, _, _, _, _, _, _, _, _, _, rfl, hI.s1⟩
      · refine wpOp_step rfl (fun K' hK' => ?_)
        have d0 : L 0 := hd ⟨0, .data⟩ (by simp) rfl
        have d1 : L 1 := hd ⟨1, .data⟩ (by simp) rfl
        have f0 := hI.e0 d0
        subst f0
        have f1 := hI.e1 d1
        subst f1
        go_simp
        exact hK' _ _ ⟨_, _, _, _, _, _, _, _, _, _, rfl, hI.s2⟩
      · refine wpOp_step rfl (fun K' hK' => ?_)
        have d2 : L 2 := hd ⟨2, .data⟩ (by simp) rfl
        have f2 := hI.e2 d2
        subst f2
        obtain ⟨x1, y1, z1⟩ := HC.out wx (hkW.trans hI.kp)
        go_simp
        exact hK' _ _ ⟨_, _, _, _, _, _, _, _, _, _, rfl, hI.s3⟩
      · refine wpOp_step rfl (fun K' hK' => ?_)
        go_simp
        exact hK' _ _ ⟨_, _, _, _, _, _, _, _, _, _, rfl, hI.s4⟩
      · refine wpOp_step rfl (fun K' hK' => ?_)
        go_simp
        exact hK' _ _ ⟨_, _, _, _, _, _, _, _, _, _, rfl, hI.s5⟩
      · refine wpOp_step rfl (fun K' hK' => ?_)
        have d5 : L 5 := hd ⟨5, .data⟩ (by simp) rfl
        have f5 := hI.e5 d5
        subst f5
        have hw6 : IntKind.i64.wrap ((i : Int) + 1) = (i : Int) + 1 := by rw [IntKind.wrap_i64]; omega
        go_simp
        exact hK' _ _ ⟨_, _, _, _, _, _, _, _, _, _, rfl, hI.s6⟩
      · refine wpOp_step rfl (fun K' hK' => ?_)
        have d4 : L 4 := hd ⟨4, .data⟩ (by simp) rfl
        have d6 : L 6 := hd ⟨6, .data⟩ (by simp) rfl
        have f4 := hI.e4 d4
        subst f4
        have f6 := hI.e6 d6
        subst f6
        go_simp
        refine (HA1.out _ (hkW.trans hI.kp)).mono ?_
        rintro r w2 ⟨rfl, hk2⟩
        exact hK' _ _ ⟨_, _, _, _, _, _, _, _, _, _, rfl, hI.s7 hk2⟩
      · refine wpOp_step rfl (fun K' hK' => ?_)
        go_simp
        exact hK' _ _ ⟨_, _, _, _, _, _, _, _, _, _, rfl, hI.s8 hnl⟩
      · refine wpOp_step rfl (fun K' hK' => ?_)
        go_simp
        exact hK' _ _ ⟨_, _, _, _, _, _, _, _, _, _, rfl, hI.s9 hnl⟩
      · refine wpOp_step rfl (fun K' hK' => ?_)
        have d8 : L 8 := hd ⟨8, .data⟩ (by simp) rfl
        have d3 : L 3 := hd ⟨3, .data⟩ (by simp) rfl
        have f3 := hI.e3 d3
        subst f3
        obtain ⟨A, r0, rfl, hA, hb, hP⟩ := hI.e8 d8
        obtain ⟨⟨c0, c1, c2⟩, f0, f1, f2⟩ := box_kept (Kp.refl [] wx) hb
        have hs := hI.s10 hA hb d8
        rw [show pnV ⟨px, py, pk⟩ = .agg #[.int .i64 px, .int .i64 py, .int .i64 pk] from rfl] at hs ⊢
        go_simp
        exact hK' _ _ ⟨_, _, _, _, _, _, _, _, _, _, rfl, hs⟩
      · refine wpOp_step rfl (fun K' hK' => ?_)
        have d9 : L 9 := hd ⟨9, .data⟩ (by simp) rfl
        have d7 : L 7 := hd ⟨7, .data⟩ (by simp) rfl
        have f7 := hI.e7 d7
        subst f7
        obtain ⟨A, r0, rfl, hA, hb, hP⟩ := hI.e9 d9
        obtain ⟨⟨c0, c1, c2⟩, f0, f1, f2⟩ := box_kept (Kp.refl [] wx) hb
        have hs := hI.s11 hA hb d9
        rw [show pnV ⟨qx, qy, 1⟩ = .agg #[.int .i64 qx, .int .i64 qy, .int .i64 1] from rfl] at hs ⊢
        go_simp
        exact hK' _ _ ⟨_, _, _, _, _, _, _, _, _, _, rfl, hs⟩
    · rintro L a wx ⟨t6, t7, t8, t9, t10, t11, t12, t13, t14, t15, rfl, hI⟩ hall
      obtain ⟨A, r0, rfl, hA, hb, hP⟩ := hI.e8 (hall 8 (by decide))
      obtain ⟨B, r1, rfl, hB, hb2, hP2⟩ := hI.e9 (hall 9 (by decide))
      have hr0 := hP (hall 10 (by decide))
      have hr1 := hP2 (hall 11 (by decide))
      subst hr0
      subst hr1
      have HST : Hid (CuSt w wx A B ⟨px, py, pk⟩ ⟨qx, qy, 1⟩) := ⟨HR.out.kp hI.kp (by simp), (box_kept (Kp.refl [] wx) hb).1, (box_kept (Kp.refl [] wx) hb2).1, hkW.trans hI.kp⟩
      go_wp2_with fail
      go_meet
      exact ⟨A, B, rfl, rfl, HST⟩
  case rest =>
    obtain ⟨A, B, rfl, rfl, HS⟩ := hcut
    have HS0 := Lib.hid HS.1
    have hk0 : Kp [] w wc := HS.2.2.2
    obtain ⟨a0, a1, a2⟩ := HS.2.1
    obtain ⟨b0, b1, b2⟩ := HS.2.2.1
    dsimp only at a0 a1 a2 b0 b1 b2
    clear HS
    have HSR := HS0
    have hk9 := hk0
    obtain ⟨c0, c1, c2, c3, c4, c5, c6, c7, c8, c9, c10, c11, c12⟩ := HSR.out.cells
    obtain ⟨f0, f1, f2, f3, f4, f5, f6, f7, f8, f9, f10, f11, f12⟩ := HSR.out.frozen
    have HP := Lib.hid ((HSR.out.put hk9 (Nat.le_refl _) 1 px py pk 0 0 0 0 0 0 qx qy 1).2)
    simp only [cv0, pn0] at c0 c1 c2 c3 c4 c5 c6 c7 c8 c9 c10 c11 c12
    go_wp2_with fail
    refine bodyPost_ret (v := .tuple #[cvV ⟨1, ⟨px, py, pk⟩, pn0, pn0, ⟨qx, qy, 1⟩⟩, .int .i64 1]) (by simp [results, Try.results87, go_sem, cvV, cvCells, pn0, c0, c1, c2, c3, c4, c5, c6, c7, c8, c9, c10, c11, c12]) rfl ⟨rfl, HP.out⟩
set_option maxRecDepth 100000 in
set_option maxHeartbeats 1000000 in
theorem curve2_calls (v : Value) (e : List Pn) (i : Nat) (p q q2 q3 : Pn) (hp : e.getD i pn0 = p) (hq : ringAt e ((i : Int) + 1) = q) (hq2 : ringAt e ((i : Int) + 2) = q2) (hq3 : ringAt e ((i : Int) + 3) = q3) (w : World) (hv : IsPs w v e) (hi : i < e.length) (hl : e.length ≤ 1048576) (hkk : q.k = 2) :
    Calls Try.prog 87 #[v, .int .i64 i] w fun r w' => r = .returned (.tuple #[cvV ⟨2, p, q, pn0, q2⟩, .int .i64 2]) ∧ Kp [] w w' := by
  have HA1 : Hid (∀ W, Kp [] w W → Calls Try.prog 138 #[v, .int .i64 ((i : Int) + 1)] W fun r w' => r = .returned (pnV q) ∧ Kp [] W w') := fun W hW => by
    have := at_calls v e ((i : Int) + 1) W (hv.kp0 hW) (by omega) (by omega) (by omega) (by omega)
    rwa [hq] at this
  have HA2 : Hid (∀ W, Kp [] w W → Calls Try.prog 138 #[v, .int .i64 ((i : Int) + 2)] W fun r w' => r = .returned (pnV q2) ∧ Kp [] W w') := fun W hW => by
    have := at_calls v e ((i : Int) + 2) W (hv.kp0 hW) (by omega) (by omega) (by omega) (by omega)
    rwa [hq2] at this
  have HA3 : Hid (∀ W, Kp [] w W → Calls Try.prog 138 #[v, .int .i64 ((i : Int) + 3)] W fun r w' => r = .returned (pnV q3) ∧ Kp [] W w') := fun W hW => by
    have := at_calls v e ((i : Int) + 3) W (hv.kp0 hW) (by omega) (by omega) (by omega) (by omega)
    rwa [hq3] at this
  obtain ⟨g, off, cp, rfl, _, _, x0, y0, z0⟩ := hv.row hi
  rw [hp] at x0 y0 z0
  have HC : Hid (∀ W, Kp [] w W → W.cell? ⟨g, off + i * 3, none⟩ = some (.int .i64 p.x) ∧ W.cell? ⟨g, off + i * 3 + 1, none⟩ = some (.int .i64 p.y) ∧ W.cell? ⟨g, off + i * 3 + 2, none⟩ = some (.int .i64 p.k)) := fun W hW => ⟨hW.cell x0 (by simp), hW.cell y0 (by simp), hW.cell z0 (by simp)⟩
  have hg : g < w.heap.size := World.block_lt_of_cell? w _ x0
  generalize e.length = N at *
  obtain ⟨qx, qy, qk⟩ := q
  obtain ⟨px, py, pk⟩ := p
  obtain ⟨rx, ry, rk⟩ := q2
  obtain ⟨sx, sy, sk⟩ := q3
  simp only at hkk
  subst hkk
  rw [show pnV ⟨qx, qy, 2⟩ = .agg #[.int .i64 qx, .int .i64 qy, .int .i64 2] from rfl] at HA1
  rw [show pnV ⟨rx, ry, rk⟩ = .agg #[.int .i64 rx, .int .i64 ry, .int .i64 rk] from rfl] at HA2
  rw [show pnV ⟨sx, sy, sk⟩ = .agg #[.int .i64 sx, .int .i64 sy, .int .i64 sk] from rfl] at HA3
  dsimp only at HC
  clear hv hp hq hq2 hq3 x0 y0 z0
  have n0 : (0 : Int) ≤ (i : Int) := by omega
  have n1 : (i : Int) < (N : Int) := by omega
  go_enter Try.func87, Try.ntmps87
  go_upto_region 1 with fail
  go_cut [6, 7] (fun s6 s7 wx => ∃ A B, s6 = .pointer (some ⟨A, 0, none⟩) ∧ s7 = .pointer (some ⟨B, 0, none⟩) ∧ Hid (CuSt w wx A B ⟨px, py, pk⟩ ⟨qx, qy, 2⟩))
  case first =>
    refine wp_gen ?_; intro W hW
    have hkW : Kp [] w W := by rw [hW]; (repeat (first | exact Kp.refl _ _ | assumption | refine Kp.drew ?_ | refine Kp.drewN ?_ _ | refine Kp.alloc ?_ _ | (refine Kp.setCell ?_ (by first | (left; simp; done) | (right; simp; try omega)) _) | (refine Kp.trans' ?_ (by assumption) (by simp; try omega))))
    have HR : Hid (CvAt W w.heap.size cv0) := by show CvAt _ _ _; rw [hW]; exact heap_alloc_new w _
    obtain ⟨x0, y0, z0⟩ := HC.out W hkW
    clear hW
    have hRW : w.heap.size < W.heap.size := lt_of_block HR.out
    refine wp_region_inv (by kernel_rfl) (by kernel_rfl) (fun L a wx => ∃ t6 t7 t8 t9 t10 t11 t12 t13 t14 t15, a = { tmps := ((.slice (some ⟨g, off, none⟩) N cp : Value) :: .int .i64 i :: undef :: undef :: .pointer (some ⟨w.heap.size, 0, none⟩) :: .int .i64 0 :: t6 :: t7 :: t8 :: t9 :: t10 :: t11 :: t12 :: t13 :: t14 :: t15 :: undef :: undef :: undef :: undef :: undef :: undef :: undef :: undef :: undef :: undef :: undef :: undef :: undef :: undef :: undef :: undef :: undef :: undef :: undef :: undef :: undef :: undef :: undef :: undef :: undef :: undef :: undef :: []).toArray, defers := [] } ∧ CuI W wx N cp g off i ⟨px, py, pk⟩ ⟨qx, qy, 2⟩ L t6 t7 t8 t9 t10 t11 t12 t13 t14 t15) ?_ ?_ ?_
    · exact ⟨_, _, _, _, _, _, _, _, _, _, rfl, CuI.start _ _ _ _ _ _ _ _ _ _ _ _ _ _ _ _ _ _⟩
    · rintro L a wx j o ho ⟨t6, t7, t8, t9, t10, t11, t12, t13, t14, t15, rfl, hI⟩ hnl hd
      have hj : j < 12 := by have := (Array.getElem?_eq_some_iff.1 ho).1; simpa using this
      rcases (show j = 0 ∨ j = 1 ∨ j = 2 ∨ j = 3 ∨ j = 4 ∨ j = 5 ∨ j = 6 ∨ j = 7 ∨ j = 8 ∨ j = 9 ∨ j = 10 ∨ j = 11 by omega) with rfl | rfl | rfl | rfl | rfl | rfl | rfl | rfl | rfl | rfl | rfl | rfl
      all_goals obtain rfl := Option.some.inj ho
      · refine wpOp_step rfl (fun K' hK' => ?_)
        go_simp
        exact hK' _ _ ⟨_, _, _, _, _, _, _, _, _, _, rfl, hI.s0⟩
      · refine wpOp_step rfl (fun K' hK' => ?_)
        go_simp
        exact hK' _ _ ⟨_, _, _, _, _, _, _, _, _, _, rfl, hI.s1⟩
      · refine wpOp_step rfl (fun K' hK' => ?_)
        have d0 : L 0 := hd ⟨0, .data⟩ (by simp) rfl
        have d1 : L 1 := hd ⟨1, .data⟩ (by simp) rfl
        have f0 := hI.e0 d0
        subst f0
        have f1 := hI.e1 d1
        subst f1
        go_simp
        exact hK' _ _ ⟨_, _, _, _, _, _, _, _, _, _, rfl, hI.s2⟩
      · refine wpOp_step rfl (fun K' hK' => ?_)
        have d2 : L 2 := hd ⟨2, .data⟩ (by simp) rfl
        have f2 := hI.e2 d2
        subst f2
        obtain ⟨x1, y1, z1⟩ := HC.out wx (hkW.trans hI.kp)
        go_simp
        exact hK' _ _ ⟨_, _, _, _, _, _, _, _, _, _, rfl, hI.s3⟩
      · refine wpOp_step rfl (fun K' hK' => ?_)
        go_simp
        exact hK' _ _ ⟨_, _, _, _, _, _, _, _, _, _, rfl, hI.s4⟩
      · refine wpOp_step rfl (fun K' hK' => ?_)
        go_simp
        exact hK' _ _ ⟨_, _, _, _, _, _, _, _, _, _, rfl, hI.s5⟩
      · refine wpOp_step rfl (fun K' hK' => ?_)
        have d5 : L 5 := hd ⟨5, .data⟩ (by simp) rfl
        have f5 := hI.e5 d5
        subst f5
        have hw6 : IntKind.i64.wrap ((i : Int) + 1) = (i : Int) + 1 := by rw [IntKind.wrap_i64]; omega
        go_simp
        exact hK' _ _ ⟨_, _, _, _, _, _, _, _, _, _, rfl, hI.s6⟩
      · refine wpOp_step rfl (fun K' hK' => ?_)
        have d4 : L 4 := hd ⟨4, .data⟩ (by simp) rfl
        have d6 : L 6 := hd ⟨6, .data⟩ (by simp) rfl
        have f4 := hI.e4 d4
        subst f4
        have f6 := hI.e6 d6
        subst f6
        go_simp
        refine (HA1.out _ (hkW.trans hI.kp)).mono ?_
        rintro r w2 ⟨rfl, hk2⟩
        exact hK' _ _ ⟨_, _, _, _, _, _, _, _, _, _, rfl, hI.s7 hk2⟩
      · refine wpOp_step rfl (fun K' hK' => ?_)
        go_simp
        exact hK' _ _ ⟨_, _, _, _, _, _, _, _, _, _, rfl, hI.s8 hnl⟩
      · refine wpOp_step rfl (fun K' hK' => ?_)
        go_simp
        exact hK' _ _ ⟨_, _, _, _, _, _, _, _, _, _, rfl, hI.s9 hnl⟩
      · refine wpOp_step rfl (fun K' hK' => ?_)
        have d8 : L 8 := hd ⟨8, .data⟩ (by simp) rfl
        have d3 : L 3 := hd ⟨3, .data⟩ (by simp) rfl
        have f3 := hI.e3 d3
        subst f3
        obtain ⟨A, r0, rfl, hA, hb, hP⟩ := hI.e8 d8
        obtain ⟨⟨c0, c1, c2⟩, f0, f1, f2⟩ := box_kept (Kp.refl [] wx) hb
        have hs := hI.s10 hA hb d8
        rw [show pnV ⟨px, py, pk⟩ = .agg #[.int .i64 px, .int .i64 py, .int .i64 pk] from rfl] at hs ⊢
        go_simp
        exact hK' _ _ ⟨_, _, _, _, _, _, _, _, _, _, rfl, hs⟩
      · refine wpOp_step rfl (fun K' hK' => ?_)
        have d9 : L 9 := hd ⟨9, .data⟩ (by simp) rfl
        have d7 : L 7 := hd ⟨7, .data⟩ (by simp) rfl
        have f7 := hI.e7 d7
        subst f7
        obtain ⟨A, r0, rfl, hA, hb, hP⟩ := hI.e9 d9
        obtain ⟨⟨c0, c1, c2⟩, f0, f1, f2⟩ := box_kept (Kp.refl [] wx) hb
        have hs := hI.s11 hA hb d9
        rw [show pnV ⟨qx, qy, 2⟩ = .agg #[.int .i64 qx, .int .i64 qy, .int .i64 2] from rfl] at hs ⊢
        go_simp
        exact hK' _ _ ⟨_, _, _, _, _, _, _, _, _, _, rfl, hs⟩
    · rintro L a wx ⟨t6, t7, t8, t9, t10, t11, t12, t13, t14, t15, rfl, hI⟩ hall
      obtain ⟨A, r0, rfl, hA, hb, hP⟩ := hI.e8 (hall 8 (by decide))
      obtain ⟨B, r1, rfl, hB, hb2, hP2⟩ := hI.e9 (hall 9 (by decide))
      have hr0 := hP (hall 10 (by decide))
      have hr1 := hP2 (hall 11 (by decide))
      subst hr0
      subst hr1
      have HST : Hid (CuSt w wx A B ⟨px, py, pk⟩ ⟨qx, qy, 2⟩) := ⟨HR.out.kp hI.kp (by simp), (box_kept (Kp.refl [] wx) hb).1, (box_kept (Kp.refl [] wx) hb2).1, hkW.trans hI.kp⟩
      go_wp2_with fail
      go_meet
      exact ⟨A, B, rfl, rfl, HST⟩
  case rest =>
    obtain ⟨A, B, rfl, rfl, HS⟩ := hcut
    have HS0 := Lib.hid HS.1
    have hk0 : Kp [] w wc := HS.2.2.2
    obtain ⟨a0, a1, a2⟩ := HS.2.1
    obtain ⟨b0, b1, b2⟩ := HS.2.2.1
    dsimp only at a0 a1 a2 b0 b1 b2
    clear HS
    have hw2 : wrap64 ((i : Int) + 2) = (i : Int) + 2 := by unfold wrap64; omega
    go_wp2_with fail
    have q0 := KW.cell a0
    have q1 := KW.cell a1
    have q2 := KW.cell a2
    have q3 := KW.cell b0
    have q4 := KW.cell b1
    have q5 := KW.cell b2
    refine wp_region_kqt 7 (by kernel_rfl) (by kernel_rfl) ?_
    simp only [List.take_succ_cons, List.take_zero, List.drop_succ_cons, List.drop_zero]
    repeat (go_big_quiet_step ((go_at_call 138; exact Calls.kq (HA2.out _ (hk0.trans (KW.h _))))))
    refine wpQuiet_nil ?_
    intro w1 hw'
    obtain ⟨⟨_, hkw1⟩, rfl⟩ := hw'
    try dsimp only
    have HSR := Lib.hid (HS0.out.kp hkw1 (by simp))
    have hk9 : Kp [] w w1 := hk0.trans hkw1
    clear q0 q1 q2 q3 q4 q5 a0 a1 a2 b0 b1 b2 HS0
    obtain ⟨c0, c1, c2, c3, c4, c5, c6, c7, c8, c9, c10, c11, c12⟩ := HSR.out.cells
    obtain ⟨f0, f1, f2, f3, f4, f5, f6, f7, f8, f9, f10, f11, f12⟩ := HSR.out.frozen
    have HP := Lib.hid ((HSR.out.put hk9 (Nat.le_refl _) 2 px py pk qx qy 2 0 0 0 rx ry rk).2)
    simp only [cv0, pn0] at c0 c1 c2 c3 c4 c5 c6 c7 c8 c9 c10 c11 c12
    go_wp2_with fail
    refine bodyPost_ret (v := .tuple #[cvV ⟨2, ⟨px, py, pk⟩, ⟨qx, qy, 2⟩, pn0, ⟨rx, ry, rk⟩⟩, .int .i64 2]) (by simp [results, Try.results87, go_sem, cvV, cvCells, pn0, c0, c1, c2, c3, c4, c5, c6, c7, c8, c9, c10, c11, c12]) rfl ⟨rfl, HP.out⟩
set_option maxRecDepth 100000 in
set_option maxHeartbeats 1000000 in
theorem curve3_calls (v : Value) (e : List Pn) (i : Nat) (p q q2 q3 : Pn) (hp : e.getD i pn0 = p) (hq : ringAt e ((i : Int) + 1) = q) (hq2 : ringAt e ((i : Int) + 2) = q2) (hq3 : ringAt e ((i : Int) + 3) = q3) (w : World) (hv : IsPs w v e) (hi : i < e.length) (hl : e.length ≤ 1048576) (hkk : q.k = 3) :
    Calls Try.prog 87 #[v, .int .i64 i] w fun r w' => r = .returned (.tuple #[cvV ⟨3, p, q, q2, q3⟩, .int .i64 3]) ∧ Kp [] w w' := by
  have HA1 : Hid (∀ W, Kp [] w W → Calls Try.prog 138 #[v, .int .i64 ((i : Int) + 1)] W fun r w' => r = .returned (pnV q) ∧ Kp [] W w') := fun W hW => by
    have := at_calls v e ((i : Int) + 1) W (hv.kp0 hW) (by omega) (by omega) (by omega) (by omega)
    rwa [hq] at this
  have HA2 : Hid (∀ W, Kp [] w W → Calls Try.prog 138 #[v, .int .i64 ((i : Int) + 2)] W fun r w' => r = .returned (pnV q2) ∧ Kp [] W w') := fun W hW => by
    have := at_calls v e ((i : Int) + 2) W (hv.kp0 hW) (by omega) (by omega) (by omega) (by omega)
    rwa [hq2] at this
  have HA3 : Hid (∀ W, Kp [] w W → Calls Try.prog 138 #[v, .int .i64 ((i : Int) + 3)] W fun r w' => r = .returned (pnV q3) ∧ Kp [] W w') := fun W hW => by
    have := at_calls v e ((i : Int) + 3) W (hv.kp0 hW) (by omega) (by omega) (by omega) (by omega)
    rwa [hq3] at this
  obtain ⟨g, off, cp, rfl, _, _, x0, y0, z0⟩ := hv.row hi
  rw [hp] at x0 y0 z0
  have HC : Hid (∀ W, Kp [] w W → W.cell? ⟨g, off + i * 3, none⟩ = some (.int .i64 p.x) ∧ W.cell? ⟨g, off + i * 3 + 1, none⟩ = some (.int .i64 p.y) ∧ W.cell? ⟨g, off + i * 3 + 2, none⟩ = some (.int .i64 p.k)) := fun W hW => ⟨hW.cell x0 (by simp), hW.cell y0 (by simp), hW.cell z0 (by simp)⟩
  have hg : g < w.heap.size := World.block_lt_of_cell? w _ x0
  generalize e.length = N at *
  obtain ⟨qx, qy, qk⟩ := q
  obtain ⟨px, py, pk⟩ := p
  obtain ⟨rx, ry, rk⟩ := q2
  obtain ⟨sx, sy, sk⟩ := q3
  simp only at hkk
  subst hkk
  rw [show pnV ⟨qx, qy, 3⟩ = .agg #[.int .i64 qx, .int .i64 qy, .int .i64 3] from rfl] at HA1
  rw [show pnV ⟨rx, ry, rk⟩ = .agg #[.int .i64 rx, .int .i64 ry, .int .i64 rk] from rfl] at HA2
  rw [show pnV ⟨sx, sy, sk⟩ = .agg #[.int .i64 sx, .int .i64 sy, .int .i64 sk] from rfl] at HA3
  dsimp only at HC
  clear hv hp hq hq2 hq3 x0 y0 z0
  have n0 : (0 : Int) ≤ (i : Int) := by omega
  have n1 : (i : Int) < (N : Int) := by omega
  go_enter Try.func87, Try.ntmps87
  go_upto_region 1 with fail
  go_cut [6, 7] (fun s6 s7 wx => ∃ A B, s6 = .pointer (some ⟨A, 0, none⟩) ∧ s7 = .pointer (some ⟨B, 0, none⟩) ∧ Hid (CuSt w wx A B ⟨px, py, pk⟩ ⟨qx, qy, 3⟩))
  case first =>
    refine wp_gen ?_; intro W hW
    have hkW : Kp [] w W := by rw [hW]; (repeat (first | exact Kp.refl _ _ | assumption | refine Kp.drew ?_ | refine Kp.drewN ?_ _ | refine Kp.alloc ?_ _ | (refine Kp.setCell ?_ (by first | (left; simp; done) | (right; simp; try omega)) _) | (refine Kp.trans' ?_ (by assumption) (by simp; try omega))))
    have HR : Hid (CvAt W w.heap.size cv0) := by show CvAt _ _ _; rw [hW]; exact heap_alloc_new w _
    obtain ⟨x0, y0, z0⟩ := HC.out W hkW
    clear hW
    have hRW : w.heap.size < W.heap.size := lt_of_block HR.out
    refine wp_region_inv (by kernel_rfl) (by kernel_rfl) (fun L a wx => ∃ t6 t7 t8 t9 t10 t11 t12 t13 t14 t15, a = { tmps := ((.slice (some ⟨g, off, none⟩) N cp : Value) :: .int .i64 i :: undef :: undef :: .pointer (some ⟨w.heap.size, 0, none⟩) :: .int .i64 0 :: t6 :: t7 :: t8 :: t9 :: t10 :: t11 :: t12 :: t13 :: t14 :: t15 :: undef :: undef :: undef :: undef :: undef :: undef :: undef :: undef :: undef :: undef :: undef :: undef :: undef :: undef :: undef :: undef :: undef :: undef :: undef :: undef :: undef :: undef :: undef :: undef :: undef :: undef :: undef :: []).toArray, defers := [] } ∧ CuI W wx N cp g off i ⟨px, py, pk⟩ ⟨qx, qy, 3⟩ L t6 t7 t8 t9 t10 t11 t12 t13 t14 t15) ?_ ?_ ?_
    · exact ⟨_, _, _, _, _, _, _, _, _, _, rfl, CuI.start _ _ _ _ _ _ _ _ _ _ _ _ _ _ _ _ _ _⟩
    · rintro L a wx j o ho ⟨t6, t7, t8, t9, t10, t11, t12, t13, t14, t15, rfl, hI⟩ hnl hd
      have hj : j < 12 := by have := (Array.getElem?_eq_some_iff.1 ho).1; simpa using this
      rcases (show j = 0 ∨ j = 1 ∨ j = 2 ∨ j = 3 ∨ j = 4 ∨ j = 5 ∨ j = 6 ∨ j = 7 ∨ j = 8 ∨ j = 9 ∨ j = 10 ∨ j = 11 by omega) with rfl | rfl | rfl | rfl | rfl | rfl | rfl | rfl | rfl | rfl | rfl | rfl
      all_goals obtain rfl := Option.some.inj ho
      · refine wpOp_step rfl (fun K' hK' => ?_)
        go_simp
        exact hK' _ _ ⟨_, _, _, _, _, _, _, _, _, _, rfl, hI.s0⟩
      · refine wpOp_step rfl (fun K' hK' => ?_)
        go_simp
        exact hK' _ _ ⟨_, _, _, _, _, _, _, _, _, _, rfl, hI.s1⟩
      · refine wpOp_step rfl (fun K' hK' => ?_)
        have d0 : L 0 := hd ⟨0, .data⟩ (by simp) rfl
        have d1 : L 1 := hd ⟨1, .data⟩ (by simp) rfl
        have f0 := hI.e0 d0
        subst f0
        have f1 := hI.e1 d1
        subst f1
        go_simp
        exact hK' _ _ ⟨_, _, _, _, _, _, _, _, _, _, rfl, hI.s2⟩
      · refine wpOp_step rfl (fun K' hK' => ?_)
        have d2 : L 2 := hd ⟨2, .data⟩ (by simp) rfl
        have f2 := hI.e2 d2
        subst f2
        obtain ⟨x1, y1, z1⟩ := HC.out wx (hkW.trans hI.kp)
        go_simp
        exact hK' _ _ ⟨_, _, _, _, _, _, _, _, _, _, rfl, hI.s3⟩
      · refine wpOp_step rfl (fun K' hK' => ?_)
        go_simp
        exact hK' _ _ ⟨_, _, _, _, _, _, _, _, _, _, rfl, hI.s4⟩
      · refine wpOp_step rfl (fun K' hK' => ?_)
        go_simp
        exact hK' _ _ ⟨_, _, _, _, _, _, _, _, _, _, rfl, hI.s5⟩
      · refine wpOp_step rfl (fun K' hK' => ?_)
        have d5 : L 5 := hd ⟨5, .data⟩ (by simp) rfl
        have f5 := hI.e5 d5
        subst f5
        have hw6 : IntKind.i64.wrap ((i : Int) + 1) = (i : Int) + 1 := by rw [IntKind.wrap_i64]; omega
        go_simp
        exact hK' _ _ ⟨_, _, _, _, _, _, _, _, _, _, rfl, hI.s6⟩
      · refine wpOp_step rfl (fun K' hK' => ?_)
        have d4 : L 4 := hd ⟨4, .data⟩ (by simp) rfl
        have d6 : L 6 := hd ⟨6, .data⟩ (by simp) rfl
        have f4 := hI.e4 d4
        subst f4
        have f6 := hI.e6 d6
        subst f6
        go_simp
        refine (HA1.out _ (hkW.trans hI.kp)).mono ?_
        rintro r w2 ⟨rfl, hk2⟩
        exact hK' _ _ ⟨_, _, _, _, _, _, _, _, _, _, rfl, hI.s7 hk2⟩
      · refine wpOp_step rfl (fun K' hK' => ?_)
        go_simp
        exact hK' _ _ ⟨_, _, _, _, _, _, _, _, _, _, rfl, hI.s8 hnl⟩
      · refine wpOp_step rfl (fun K' hK' => ?_)
        go_simp
        exact hK' _ _ ⟨_, _, _, _, _, _, _, _, _, _, rfl, hI.s9 hnl⟩
      · refine wpOp_step rfl (fun K' hK' => ?_)
        have d8 : L 8 := hd ⟨8, .data⟩ (by simp) rfl
        have d3 : L 3 := hd ⟨3, .data⟩ (by simp) rfl
        have f3 := hI.e3 d3
        subst f3
        obtain ⟨A, r0, rfl, hA, hb, hP⟩ := hI.e8 d8
        obtain ⟨⟨c0, c1, c2⟩, f0, f1, f2⟩ := box_kept (Kp.refl [] wx) hb
        have hs := hI.s10 hA hb d8
        rw [show pnV ⟨px, py, pk⟩ = .agg #[.int .i64 px, .int .i64 py, .int .i64 pk] from rfl] at hs ⊢
        go_simp
        exact hK' _ _ ⟨_, _, _, _, _, _, _, _, _, _, rfl, hs⟩
      · refine wpOp_step rfl (fun K' hK' => ?_)
        have d9 : L 9 := hd ⟨9, .data⟩ (by simp) rfl
        have d7 : L 7 := hd ⟨7, .data⟩ (by simp) rfl
        have f7 := hI.e7 d7
        subst f7
        obtain ⟨A, r0, rfl, hA, hb, hP⟩ := hI.e9 d9
        obtain ⟨⟨c0, c1, c2⟩, f0, f1, f2⟩ := box_kept (Kp.refl [] wx) hb
        have hs := hI.s11 hA hb d9
        rw [show pnV ⟨qx, qy, 3⟩ = .agg #[.int .i64 qx, .int .i64 qy, .int .i64 3] from rfl] at hs ⊢
        go_simp
        exact hK' _ _ ⟨_, _, _, _, _, _, _, _, _, _, rfl, hs⟩
    · rintro L a wx ⟨t6, t7, t8, t9, t10, t11, t12, t13, t14, t15, rfl, hI⟩ hall
      obtain ⟨A, r0, rfl, hA, hb, hP⟩ := hI.e8 (hall 8 (by decide))
      obtain ⟨B, r1, rfl, hB, hb2, hP2⟩ := hI.e9 (hall 9 (by decide))
      have hr0 := hP (hall 10 (by decide))
      have hr1 := hP2 (hall 11 (by decide))
      subst hr0
      subst hr1
      have HST : Hid (CuSt w wx A B ⟨px, py, pk⟩ ⟨qx, qy, 3⟩) := ⟨HR.out.kp hI.kp (by simp), (box_kept (Kp.refl [] wx) hb).1, (box_kept (Kp.refl [] wx) hb2).1, hkW.trans hI.kp⟩
      go_wp2_with fail
      go_meet
      exact ⟨A, B, rfl, rfl, HST⟩
  case rest =>
    obtain ⟨A, B, rfl, rfl, HS⟩ := hcut
    have HS0 := Lib.hid HS.1
    have hk0 : Kp [] w wc := HS.2.2.2
    obtain ⟨a0, a1, a2⟩ := HS.2.1
    obtain ⟨b0, b1, b2⟩ := HS.2.2.1
    dsimp only at a0 a1 a2 b0 b1 b2
    clear HS
    have hw2 : wrap64 ((i : Int) + 2) = (i : Int) + 2 := by unfold wrap64; omega
    have hw3 : wrap64 ((i : Int) + 3) = (i : Int) + 3 := by unfold wrap64; omega
    go_wp2_with fail
    have q0 := KW.cell a0
    have q1 := KW.cell a1
    have q2 := KW.cell a2
    have q3 := KW.cell b0
    have q4 := KW.cell b1
    have q5 := KW.cell b2
    refine wp_region_kqt 11 (by kernel_rfl) (by kernel_rfl) ?_
    simp only [List.take_succ_cons, List.take_zero, List.drop_succ_cons, List.drop_zero]
    repeat (go_big_quiet_step ((first | (go_at_call 138; with_reducible exact Calls.kq (HA2.out _ (hk0.trans (KW.h _)))) | (go_at_call 138; with_reducible exact Calls.kq (HA3.out _ (hk0.trans (KW.h _)))))))
    refine wpQuiet_nil ?_
    intro w1 hw'
    obtain ⟨⟨_, hkw1⟩, rfl⟩ := hw'
    try dsimp only
    have HSR := Lib.hid (HS0.out.kp hkw1 (by simp))
    have hk9 : Kp [] w w1 := hk0.trans hkw1
    clear q0 q1 q2 q3 q4 q5 a0 a1 a2 b0 b1 b2 HS0
    obtain ⟨c0, c1, c2, c3, c4, c5, c6, c7, c8, c9, c10, c11, c12⟩ := HSR.out.cells
    obtain ⟨f0, f1, f2, f3, f4, f5, f6, f7, f8, f9, f10, f11, f12⟩ := HSR.out.frozen
    have HP := Lib.hid ((HSR.out.put hk9 (Nat.le_refl _) 3 px py pk qx qy 3 rx ry rk sx sy sk).2)
    simp only [cv0, pn0] at c0 c1 c2 c3 c4 c5 c6 c7 c8 c9 c10 c11 c12
    go_wp2_with fail
    refine bodyPost_ret (v := .tuple #[cvV ⟨3, ⟨px, py, pk⟩, ⟨qx, qy, 3⟩, ⟨rx, ry, rk⟩, ⟨sx, sy, sk⟩⟩, .int .i64 3]) (by simp [results, Try.results87, go_sem, cvV, cvCells, pn0, c0, c1, c2, c3, c4, c5, c6, c7, c8, c9, c10, c11, c12]) rfl ⟨rfl, HP.out⟩
end Go.Proofs.Ytodjohoonbkklaa

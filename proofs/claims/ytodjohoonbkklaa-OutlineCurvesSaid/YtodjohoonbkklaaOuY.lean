/- outline: the hull of numbers, by both. -/
import Derived.Test.YtodjohoonbkklaaOuX
namespace Go.Proofs.Ytodjohoonbkklaa
open Go.RowKit
set_option linter.unusedVariables false
set_option linter.unusedSimpArgs false
/-- The hull of the first j places. -/
def hullB (xs ys : List Int) : Nat → Bx
  | 0 => ⟨0, 0, 0, 0⟩
  | j + 1 =>
    let b := if j = 0 then (⟨xs.getD 0 0, ys.getD 0 0, xs.getD 0 0, ys.getD 0 0⟩ : Bx) else hullB xs ys j
    ⟨min b.x0 (xs.getD j 0), min b.y0 (ys.getD j 0), max b.x1 (xs.getD j 0), max b.y1 (ys.getD j 0)⟩
theorem hullB_one (xs ys : List Int) : hullB xs ys 1 = ⟨xs.getD 0 0, ys.getD 0 0, xs.getD 0 0, ys.getD 0 0⟩ := by
  rw [hullB, if_pos rfl]; simp
theorem hullB_succ (xs ys : List Int) (j : Nat) (h : j ≠ 0) : hullB xs ys (j + 1) = ⟨min (hullB xs ys j).x0 (xs.getD j 0), min (hullB xs ys j).y0 (ys.getD j 0), max (hullB xs ys j).x1 (xs.getD j 0), max (hullB xs ys j).y1 (ys.getD j 0)⟩ := by
  rw [hullB, if_neg h]
/-- A box lies in block B. -/
def BxAt (W : World) (B : Nat) (b : Bx) : Prop := W.heap[B]? = some (.cells #[.int .i64 b.x0, .int .i64 b.y0, .int .i64 b.x1, .int .i64 b.y1] 46)
theorem BxAt.cells {W : World} {B : Nat} {b : Bx} (h : BxAt W B b) : W.cell? ⟨B, 0, none⟩ = some (.int .i64 b.x0) ∧ W.cell? ⟨B, 1, none⟩ = some (.int .i64 b.y0) ∧ W.cell? ⟨B, 2, none⟩ = some (.int .i64 b.x1) ∧ W.cell? ⟨B, 3, none⟩ = some (.int .i64 b.y1) :=
  ⟨by rw [cell_of_row W B 0 _ _ (0, 0) h]; rfl, by rw [cell_of_row W B 1 _ _ (0, 0) h]; rfl, by rw [cell_of_row W B 2 _ _ (0, 0) h]; rfl, by rw [cell_of_row W B 3 _ _ (0, 0) h]; rfl⟩
theorem BxAt.frozen {W : World} {B : Nat} {b : Bx} (h : BxAt W B b) : W.frozen? ⟨B, 0, none⟩ = false ∧ W.frozen? ⟨B, 1, none⟩ = false ∧ W.frozen? ⟨B, 2, none⟩ = false ∧ W.frozen? ⟨B, 3, none⟩ = false :=
  ⟨frozen_of_row W B 0 _ _ h, frozen_of_row W B 1 _ _ h, frozen_of_row W B 2 _ _ h, frozen_of_row W B 3 _ _ h⟩
theorem BxAt.put {W : World} {B : Nat} {b : Bx} (h : BxAt W B b) (x y z u : Int) : BxAt ((((W.setCell ⟨B, 0, none⟩ (.int .i64 x)).setCell ⟨B, 1, none⟩ (.int .i64 y)).setCell ⟨B, 2, none⟩ (.int .i64 z)).setCell ⟨B, 3, none⟩ (.int .i64 u)) B ⟨x, y, z, u⟩ := by
  have h1 := heap_setCell_same W B 0 _ _ (.int .i64 x) h
  have h2 := heap_setCell_same _ B 1 _ _ (.int .i64 y) h1
  have h3 := heap_setCell_same _ B 2 _ _ (.int .i64 z) h2
  have h4 := heap_setCell_same _ B 3 _ _ (.int .i64 u) h3
  simpa [BxAt] using h4
theorem BxAt.far {W : World} {B : Nat} {b : Bx} (h : BxAt W B b) {p : Addr} (hp : B ≠ p.block) (u : Value) : BxAt (W.setCell p u) B b := by
  unfold BxAt at h ⊢; rw [heap_setCell_other W p B u hp]; exact h
theorem BxAt.kp {S : List Nat} {W W' : World} {B : Nat} {b : Bx} (h : BxAt W B b) (hk : Kp S W W') (hB : B ∉ S) : BxAt W' B b := hk.heap h hB
theorem two_heap {w W : World} {A B : Obj} (h : W = (w.alloc A).alloc B) : W.heap[w.heap.size]? = some A ∧ W.heap[w.heap.size + 1]? = some B := by
  have h1 := heap_alloc_new w A
  have h2 := heap_alloc_new (w.alloc A) B
  have s1 : (w.alloc A).heap.size = w.heap.size + 1 := by simp
  rw [s1] at h2
  subst h
  exact ⟨((Kp.refl [] (w.alloc A)).alloc B).heap h1 (by simp), h2⟩
/-- All of them lie in the bounds. -/
def numsI (xs : List Int) : Prop := ∀ i, i < xs.length → numF (xs.getD i 0) = true
theorem ints_form {k : IntKind} {w : World} {v : Value} {zs : List Int} (h : IsInts k w v zs) : ∃ p c, v = .slice p zs.length c := by
  rcases h with ⟨⟨a, rfl⟩, rfl⟩ | ⟨g, off, c, rfl, _⟩
  · exact ⟨_, _, rfl⟩
  · exact ⟨_, _, rfl⟩
theorem ints_row {k : IntKind} {w : World} {v : Value} {zs : List Int} (h : IsInts k w v zs) {i : Nat} (hi : i < zs.length) : ∃ g off c, v = .slice (some ⟨g, off, none⟩) zs.length c ∧ w.cell? ⟨g, off + i, none⟩ = some (.int k (zs.getD i 0)) := by
  rcases h with ⟨⟨a, rfl⟩, rfl⟩ | ⟨g, off, c, rfl, _, _, h⟩
  · simp at hi
  · exact ⟨g, off, c, rfl, h i hi⟩
theorem ints_kp0 {k : IntKind} {w w' : World} {v : Value} {zs : List Int} (h : IsInts k w v zs) (hk : Kp [] w w') : IsInts k w' v zs := h.kp hk (by simp)
/-- Where Hull stands: the result's block, the box's block. -/
def HuSt (w W : World) (b : Bx) : Prop := BxAt W w.heap.size ⟨0, 0, 0, 0⟩ ∧ BxAt W (w.heap.size + 1) b ∧ Kp [] w W
theorem HuSt.kp {w W W' : World} {b : Bx} (h : HuSt w W b) (hk : Kp [] W W') : HuSt w W' b := ⟨h.1.kp hk (by simp), h.2.1.kp hk (by simp), h.2.2.trans hk⟩
theorem HuSt.put {w W : World} {b : Bx} (h : HuSt w W b) (x y z u : Int) : HuSt w ((((W.setCell ⟨w.heap.size + 1, 0, none⟩ (.int .i64 x)).setCell ⟨w.heap.size + 1, 1, none⟩ (.int .i64 y)).setCell ⟨w.heap.size + 1, 2, none⟩ (.int .i64 z)).setCell ⟨w.heap.size + 1, 3, none⟩ (.int .i64 u)) ⟨x, y, z, u⟩ :=
  ⟨(((h.1.far (by simp) _).far (by simp) _).far (by simp) _).far (by simp) _, h.2.1.put x y z u, by have := h.2.2; (repeat (first | exact Kp.refl _ _ | assumption | refine Kp.drew ?_ | refine Kp.drewN ?_ _ | refine Kp.alloc ?_ _ | (refine Kp.setCell ?_ (by first | (left; simp; done) | (right; simp; try omega)) _) | (refine Kp.trans' ?_ (by assumption) (by simp; try omega))))⟩
theorem HuSt.lt {w W : World} {b : Bx} (h : HuSt w W b) : w.heap.size + 1 < W.heap.size := lt_of_block h.2.1
set_option maxRecDepth 100000 in
set_option maxHeartbeats 4000000 in
theorem ahull_calls (vx vy : Value) (xs ys : List Int) (w : World) (hx : IsInts .i64 w vx xs) (hy : IsInts .i64 w vy ys) (hl : xs.length = ys.length) (nx : numsI xs) (ny : numsI ys) :
    Calls Try.prog 78 #[vx, vy] w fun e w' => e = .returned (.tuple #[bxV (hullB xs ys xs.length), .int .i64 0]) ∧ Kp [] w w' := by
  have hle := hx.le
  unfold maxLen at hle
  obtain ⟨px, cx, rfl⟩ := ints_form hx
  obtain ⟨py, cy, rfl⟩ := ints_form hy
  have HX := Lib.hid hx
  have HY := Lib.hid hy
  have HNX := Lib.hid nx
  have HNY := Lib.hid ny
  obtain ⟨N, hN⟩ : ∃ N, xs.length = N := ⟨_, rfl⟩
  have HN := Lib.hid hN
  have HM : Hid (ys.length = N) := by show _ = _; omega
  rw [hN] at HX hle ⊢
  rw [HM.out] at HY ⊢
  clear hx hy nx ny hN hl
  go_enter Try.func78, Try.ntmps78
  go_wp2_with fail
  refine wp_gen ?_; intro W hW
  obtain ⟨hA, hB⟩ := two_heap hW
  have HS0 : Hid (HuSt w W ⟨0, 0, 0, 0⟩) := ⟨hA, hB, by rw [hW]; (repeat (first | exact Kp.refl _ _ | assumption | refine Kp.drew ?_ | refine Kp.drewN ?_ _ | refine Kp.alloc ?_ _ | (refine Kp.setCell ?_ (by first | (left; simp; done) | (right; simp; try omega)) _) | (refine Kp.trans' ?_ (by assumption) (by simp; try omega))))⟩
  clear hA hB hW
  have hsz0 : w.heap.size + 1 < W.heap.size := by have := HS0.out.2.1; have := lt_of_block this; omega
  go_wp2_with fail
  go_loopw [7, 8, 9, 10, 19] (fun _ _ _ _ i wr => ∃ j : Nat, j ≤ N ∧ i = .int .i64 j ∧ Hid (HuSt w wr (hullB xs ys j))) (fun _ _ _ _ i _ => N - (intOf i).toNat)
  case atStart => exact ⟨0, by omega, rfl, HS0.out⟩
  case round =>
    obtain ⟨j, hj, rfl, HJ⟩ := hrel
    clear HS0 hsz0
    by_cases hlt : j < N
    · obtain ⟨gx, ox, cx', ex, xj⟩ := ints_row (ints_kp0 HX.out HJ.out.2.2) (i := j) (by rw [HN.out]; exact hlt)
      obtain ⟨gy, oy, cy', ey, yj⟩ := ints_row (ints_kp0 HY.out HJ.out.2.2) (i := j) (by rw [HM.out]; exact hlt)
      rw [HN.out] at ex
      rw [HM.out] at ey
      cases ex; cases ey
      have HFX : Hid (∀ W, Calls Try.prog 124 #[.int .i64 (xs.getD j 0)] W fun e w' => e = .returned (.bool true) ∧ W = w') := fun W => by
        have := fmay_calls (xs.getD j 0) W; rwa [HNX.out j (by rw [HN.out]; exact hlt)] at this
      have HFY : Hid (∀ W, Calls Try.prog 124 #[.int .i64 (ys.getD j 0)] W fun e w' => e = .returned (.bool true) ∧ W = w') := fun W => by
        have := fmay_calls (ys.getD j 0) W; rwa [HNY.out j (by rw [HM.out]; exact hlt)] at this
      have HH1 := Lib.hid (hullB_one xs ys)
      have HHS := Lib.hid (hullB_succ xs ys j)
      by_cases hj0 : j = 0
      · subst hj0
        generalize xs.getD 0 0 = x at *
        generalize ys.getD 0 0 = y at *
        generalize hullB xs ys 0 = b at *
        rw [Nat.add_zero] at xj yj
        have q0 := KW.cell xj
        have q1 := KW.cell yj
        clear HHS xj yj
        go_wp2_with fail
        refine wp_region_kq (by kernel_rfl) (by kernel_rfl) ?_
        repeat (go_big_quiet_step (fail))
        refine wpQuiet_nil ?_
        intro w1 hw'
        obtain ⟨⟨_, hkw1⟩, rfl⟩ := hw'
        have HJ1 := Lib.hid (HJ.out.kp hkw1)
        clear q0 q1 hkw1
        go_wp2_with fail
        refine (HFX.out _).mono ?_; rintro e w2 ⟨rfl, rfl⟩
        go_wp2_with fail
        refine (HFY.out _).mono ?_; rintro e w2 ⟨rfl, rfl⟩
        have hlt1 := HJ1.out.lt
        obtain ⟨b0, b1, b2, b3⟩ := HJ1.out.2.1.cells
        obtain ⟨f0, f1, f2, f3⟩ := HJ1.out.2.1.frozen
        go_wp2_with fail
        clear b0 b1 b2 b3 f0 f1 f2 f3
        refine (pair_calls _ _ _ _ _ _ _ _ _).mono ?_; rintro e w3 ⟨rfl, hk3⟩
        have HJ3 := Lib.hid (HuSt.kp ((HJ1.out.put x y x y).kp ((Kp.refl [] _).alloc _)) hk3)
        have hlt3 := HJ3.out.lt
        obtain ⟨b0, b1, b2, b3⟩ := HJ3.out.2.1.cells
        obtain ⟨f0, f1, f2, f3⟩ := HJ3.out.2.1.frozen
        clear hk3 hlt1 HJ1 HJ
        have HF := Lib.hid (HJ3.out.put x y x y)
        rw [← HH1.out] at HF
        go_wp2_with fail
        go_roundw
        case rel => first | exact ⟨0 + 1, by omega, int_eq' (by omega), HF.out⟩ | ((repeat apply Exists.intro); exact ⟨⟨0 + 1, by omega, int_eq' (by omega), HF.out⟩, rfl⟩)
        case measure => simp [intOf] <;> omega
      · have hjb : ((j : Int) == 0) = false := by simpa using hj0
        have HHS1 := Lib.hid (HHS.out hj0)
        generalize xs.getD j 0 = x at *
        generalize ys.getD j 0 = y at *
        generalize hullB xs ys j = b at *
        have q0 := KW.cell xj
        have q1 := KW.cell yj
        clear HHS HH1 xj yj
        go_wp2_with fail
        refine wp_region_kq (by kernel_rfl) (by kernel_rfl) ?_
        repeat (go_big_quiet_step (fail))
        refine wpQuiet_nil ?_
        intro w1 hw'
        obtain ⟨⟨_, hkw1⟩, rfl⟩ := hw'
        have HJ1 := Lib.hid (HJ.out.kp hkw1)
        clear q0 q1 hkw1
        go_wp2_with fail
        refine (HFX.out _).mono ?_; rintro e w2 ⟨rfl, rfl⟩
        go_wp2_with fail
        refine (HFY.out _).mono ?_; rintro e w2 ⟨rfl, rfl⟩
        have hlt1 := HJ1.out.lt
        obtain ⟨b0, b1, b2, b3⟩ := HJ1.out.2.1.cells
        obtain ⟨f0, f1, f2, f3⟩ := HJ1.out.2.1.frozen
        go_wp2_with fail
        clear b0 b1 b2 b3 f0 f1 f2 f3
        refine (pair_calls _ _ _ _ _ _ _ _ _).mono ?_; rintro e w3 ⟨rfl, hk3⟩
        have HJ3 := Lib.hid (HuSt.kp ((HJ1.out).kp ((Kp.refl [] _).alloc _)) hk3)
        have hlt3 := HJ3.out.lt
        obtain ⟨b0, b1, b2, b3⟩ := HJ3.out.2.1.cells
        obtain ⟨f0, f1, f2, f3⟩ := HJ3.out.2.1.frozen
        clear hk3 hlt1 HJ1 HJ
        have HF := Lib.hid (HJ3.out.put (min b.x0 x) (min b.y0 y) (max b.x1 x) (max b.y1 y))
        rw [← HHS1.out] at HF
        go_wp2_with fail
        go_roundw
        case rel => first | exact ⟨j + 1, by omega, int_eq' (by omega), HF.out⟩ | ((repeat apply Exists.intro); exact ⟨⟨j + 1, by omega, int_eq' (by omega), HF.out⟩, rfl⟩)
        case measure => simp [intOf] <;> omega
    · obtain rfl : j = N := by omega
      obtain ⟨b, hb⟩ : ∃ b, hullB xs ys j = b := ⟨_, rfl⟩
      rw [hb] at HJ
      have HE := Lib.hid HJ.out
      have HB := Lib.hid hb
      clear HJ hb
      obtain ⟨r0, r1, r2, r3⟩ := HE.out.1.cells
      obtain ⟨s0, s1, s2, s3⟩ := HE.out.1.frozen
      obtain ⟨b0, b1, b2, b3⟩ := HE.out.2.1.cells
      have hk := HE.out.2.2
      go_wp2_with fail
      refine bodyPost_ret (v := .tuple #[bxV b, .int .i64 0]) (by simp [results, Try.results78, go_sem, bxV, r0, r1, r2, r3]) rfl ⟨by rw [HB.out], by (repeat (first | exact Kp.refl _ _ | assumption | refine Kp.drew ?_ | refine Kp.drewN ?_ _ | refine Kp.alloc ?_ _ | (refine Kp.setCell ?_ (by first | (left; simp; done) | (right; simp; try omega)) _) | (refine Kp.trans' ?_ (by assumption) (by simp; try omega))))⟩
end Go.Proofs.Ytodjohoonbkklaa

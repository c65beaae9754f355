/- flatten: the reference's bow. (Written by wip/flatten/genflza.py.) -/
import Derived.Test.YtpbmefojhgcniaaFmD
import Derived.Deep.DeepCutAuto
namespace Go.Proofs.Ytpbmefojhgcniaa
open Go.RowKit
set_option linter.unusedVariables false
set_option linter.unusedSimpArgs false
/-- What the reference's bow says is wrong. -/
def bowE (s : Sc) (q : Cv) : Int := bowErr s 0 (bowPs q)
def bowR (s : Sc) (q : Cv) : Bw := if bowE s q = 0 then bowS s q else bw0
theorem CvAt.far {W : World} {B : Nat} {q : Cv} (h : CvAt W B q) {p : Addr} (hp : B ≠ p.block) (u : Value) : CvAt (W.setCell p u) B q := by
  unfold CvAt at h ⊢; rw [heap_setCell_other W p B u hp]; exact h
theorem dotP_err (s : Sc) (p : Pn) : (dotP s p).2 = 0 ∨ (dotP s p).2 = 10 := by
  unfold dotP
  split
  · split
    · exact .inl rfl
    · exact .inr rfl
  · exact .inr rfl
theorem dotS_P {s : Sc} (hs : mayS s = true) (p : Pn) : dotS s p = dotP s p := by unfold dotS; rw [if_pos hs]
set_option maxRecDepth 100000 in
set_option maxHeartbeats 8000000 in
theorem rbow_1_e1 (s : Sc) (ax ay ak bx b_y bk cx cy ck dx dy dk : Int) (hs : mayS s = true) (h1 : (dotP s ⟨ax, ay, ak⟩).2 = 10) (w : World) : Calls Try.prog 41 #[scV s, cvV ⟨1, ⟨ax, ay, ak⟩, ⟨bx, b_y, bk⟩, ⟨cx, cy, ck⟩, ⟨dx, dy, dk⟩⟩] w fun r w' => r = .returned (.tuple #[bowV bw0, .int .i64 10]) ∧ Kp [] w w' := by
  have HD1 := Lib.hid (fun W => rfdot_calls s ⟨ax, ay, ak⟩ hs W)
  have HD2 := Lib.hid (fun W => rfdot_calls s ⟨bx, b_y, bk⟩ hs W)
  have HD3 := Lib.hid (fun W => rfdot_calls s ⟨cx, cy, ck⟩ hs W)
  have HD4 := Lib.hid (fun W => rfdot_calls s ⟨dx, dy, dk⟩ hs W)
  rw [h1] at HD1
  clear h1
  obtain ⟨⟨X1, Y1⟩, hX1⟩ : ∃ q, (dotP s ⟨ax, ay, ak⟩).1 = q := ⟨_, rfl⟩
  rw [hX1] at HD1
  clear hX1
  obtain ⟨⟨⟨X2, Y2⟩, E2⟩, hX2⟩ : ∃ q, dotP s ⟨bx, b_y, bk⟩ = q := ⟨_, rfl⟩
  rw [hX2] at HD2
  clear hX2
  obtain ⟨⟨⟨X3, Y3⟩, E3⟩, hX3⟩ : ∃ q, dotP s ⟨cx, cy, ck⟩ = q := ⟨_, rfl⟩
  rw [hX3] at HD3
  clear hX3
  obtain ⟨⟨⟨X4, Y4⟩, E4⟩, hX4⟩ : ∃ q, dotP s ⟨dx, dy, dk⟩ = q := ⟨_, rfl⟩
  rw [hX4] at HD4
  clear hX4
  dsimp only [dotV] at HD1 HD2 HD3 HD4
  rw [show cvV ⟨1, ⟨ax, ay, ak⟩, ⟨bx, b_y, bk⟩, ⟨cx, cy, ck⟩, ⟨dx, dy, dk⟩⟩ = .agg #[.int .i64 1, .int .i64 ax, .int .i64 ay, .int .i64 ak, .int .i64 bx, .int .i64 b_y, .int .i64 bk, .int .i64 cx, .int .i64 cy, .int .i64 ck, .int .i64 dx, .int .i64 dy, .int .i64 dk] from rfl]
  clear hs
  rw [show scV s = .agg #[.int .i64 s.u, .int .i64 s.p, .int .i64 s.fx, .int .i64 s.fy] from rfl] at *
  go_enter Try.func41, Try.ntmps41
  go_wp2_with fail
  obtain ⟨q1, q2, q3⟩ := three_heap (w := w) (A := .cells #[.int .i64 s.u, .int .i64 s.p, .int .i64 s.fx, .int .i64 s.fy] 23) (B := .cells (cvCells ⟨1, ⟨ax, ay, ak⟩, ⟨bx, b_y, bk⟩, ⟨cx, cy, ck⟩, ⟨dx, dy, dk⟩⟩) 75) (C := .cells #[.int .i64 0, .int .i64 0, .int .i64 0, .int .i64 0, .int .i64 0, .int .i64 0, .int .i64 0, .int .i64 0, .int .i64 0] 71) rfl
  have hk : Kp [] w (((w.alloc (.cells #[.int .i64 s.u, .int .i64 s.p, .int .i64 s.fx, .int .i64 s.fy] 23)).alloc (.cells #[.int .i64 1, .int .i64 ax, .int .i64 ay, .int .i64 ak, .int .i64 bx, .int .i64 b_y, .int .i64 bk, .int .i64 cx, .int .i64 cy, .int .i64 ck, .int .i64 dx, .int .i64 dy, .int .i64 dk] 75)).alloc (.cells #[.int .i64 0, .int .i64 0, .int .i64 0, .int .i64 0, .int .i64 0, .int .i64 0, .int .i64 0, .int .i64 0, .int .i64 0] 71)) := by (repeat (first | exact Kp.refl _ _ | assumption | refine Kp.drew ?_ | refine Kp.drewN ?_ _ | refine Kp.alloc ?_ _ | (refine Kp.setCell ?_ (by first | (left; simp; done) | (right; simp; try omega)) _) | (refine Kp.trans' ?_ (by assumption) (by simp; try omega))))
  have hz : ((((w.alloc (.cells #[.int .i64 s.u, .int .i64 s.p, .int .i64 s.fx, .int .i64 s.fy] 23)).alloc (.cells #[.int .i64 1, .int .i64 ax, .int .i64 ay, .int .i64 ak, .int .i64 bx, .int .i64 b_y, .int .i64 bk, .int .i64 cx, .int .i64 cy, .int .i64 ck, .int .i64 dx, .int .i64 dy, .int .i64 dk] 75)).alloc (.cells #[.int .i64 0, .int .i64 0, .int .i64 0, .int .i64 0, .int .i64 0, .int .i64 0, .int .i64 0, .int .i64 0, .int .i64 0] 71))).heap.size = w.heap.size + 1 + 1 + 1 := by simp
  change ((((w.alloc (.cells #[.int .i64 s.u, .int .i64 s.p, .int .i64 s.fx, .int .i64 s.fy] 23)).alloc (.cells #[.int .i64 1, .int .i64 ax, .int .i64 ay, .int .i64 ak, .int .i64 bx, .int .i64 b_y, .int .i64 bk, .int .i64 cx, .int .i64 cy, .int .i64 ck, .int .i64 dx, .int .i64 dy, .int .i64 dk] 75)).alloc (.cells #[.int .i64 0, .int .i64 0, .int .i64 0, .int .i64 0, .int .i64 0, .int .i64 0, .int .i64 0, .int .i64 0, .int .i64 0] 71))).heap[w.heap.size]? = _ at q1
  change ((((w.alloc (.cells #[.int .i64 s.u, .int .i64 s.p, .int .i64 s.fx, .int .i64 s.fy] 23)).alloc (.cells #[.int .i64 1, .int .i64 ax, .int .i64 ay, .int .i64 ak, .int .i64 bx, .int .i64 b_y, .int .i64 bk, .int .i64 cx, .int .i64 cy, .int .i64 ck, .int .i64 dx, .int .i64 dy, .int .i64 dk] 75)).alloc (.cells #[.int .i64 0, .int .i64 0, .int .i64 0, .int .i64 0, .int .i64 0, .int .i64 0, .int .i64 0, .int .i64 0, .int .i64 0] 71))).heap[w.heap.size + 1]? = _ at q2
  change ((((w.alloc (.cells #[.int .i64 s.u, .int .i64 s.p, .int .i64 s.fx, .int .i64 s.fy] 23)).alloc (.cells #[.int .i64 1, .int .i64 ax, .int .i64 ay, .int .i64 ak, .int .i64 bx, .int .i64 b_y, .int .i64 bk, .int .i64 cx, .int .i64 cy, .int .i64 ck, .int .i64 dx, .int .i64 dy, .int .i64 dk] 75)).alloc (.cells #[.int .i64 0, .int .i64 0, .int .i64 0, .int .i64 0, .int .i64 0, .int .i64 0, .int .i64 0, .int .i64 0, .int .i64 0] 71))).heap[w.heap.size + 1 + 1]? = _ at q3
  generalize (((w.alloc (.cells #[.int .i64 s.u, .int .i64 s.p, .int .i64 s.fx, .int .i64 s.fy] 23)).alloc (.cells #[.int .i64 1, .int .i64 ax, .int .i64 ay, .int .i64 ak, .int .i64 bx, .int .i64 b_y, .int .i64 bk, .int .i64 cx, .int .i64 cy, .int .i64 ck, .int .i64 dx, .int .i64 dy, .int .i64 dk] 75)).alloc (.cells #[.int .i64 0, .int .i64 0, .int .i64 0, .int .i64 0, .int .i64 0, .int .i64 0, .int .i64 0, .int .i64 0, .int .i64 0] 71)) = W0 at *
  have HS : Hid (ScAt W0 w.heap.size s) := q1
  have HC : Hid (CvAt W0 (w.heap.size + 1) ⟨1, ⟨ax, ay, ak⟩, ⟨bx, b_y, bk⟩, ⟨cx, cy, ck⟩, ⟨dx, dy, dk⟩⟩) := q2
  have HR : Hid (BowAt W0 (w.heap.size + 1 + 1) bw0) := q3
  have HK := Lib.hid hk
  have HZ := Lib.hid hz
  clear hk hz q1 q2 q3
  obtain ⟨s0, s1, s2, s3⟩ := HS.out.cells
  obtain ⟨v0, v1, v2, v3, v4, v5, v6, v7, v8, v9, v10, v11, v12⟩ := HC.out.cells
  dsimp only at v0 v1 v2 v3 v4 v5 v6 v7 v8 v9 v10 v11 v12
  go_wp2_with fail
  refine (HD1.out _).mono ?_; rintro e x1 ⟨rfl, hk1⟩
  clear s0 s1 s2 s3 v0 v1 v2 v3 v4 v5 v6 v7 v8 v9 v10 v11 v12
  go_upto_region 2 with fail
  refine wp_gen ?_; intro W1 hW1
  obtain ⟨B1, hB1⟩ : ∃ B, x1.heap.size = B := ⟨_, rfl⟩
  have hka : Kp [] W0 W1 := by rw [hW1]; exact hk1.alloc _
  have HB1 : Hid (DtAt W1 B1 X1 Y1) := by show DtAt _ _ _ _; rw [hW1, ← hB1]; exact heap_alloc_new _ _
  have hl1 : w.heap.size + 1 + 1 + 1 ≤ B1 := by rw [← hB1]; have := hk1.size; have := HZ.out; omega
  replace HS : Hid (ScAt W1 w.heap.size s) := HS.out.kp0 hka
  replace HC : Hid (CvAt W1 (w.heap.size + 1) _) := HC.out.kp hka (by simp)
  replace HR : Hid (BowAt W1 (w.heap.size + 1 + 1) bw0) := HR.out.kp hka (by simp)
  replace HK : Hid (Kp [] w W1) := HK.out.trans hka
  rw [hB1]
  clear hW1 hB1 hka hk1 HD1
  obtain ⟨s0, s1, s2, s3⟩ := HS.out.cells
  obtain ⟨v0, v1, v2, v3, v4, v5, v6, v7, v8, v9, v10, v11, v12⟩ := HC.out.cells
  dsimp only at v0 v1 v2 v3 v4 v5 v6 v7 v8 v9 v10 v11 v12
  go_wp2_with fail
  refine (HD2.out _).mono ?_; rintro e x2 ⟨rfl, hk2⟩
  clear s0 s1 s2 s3 v0 v1 v2 v3 v4 v5 v6 v7 v8 v9 v10 v11 v12
  go_upto_region 3 with fail
  refine wp_gen ?_; intro W2 hW2
  obtain ⟨B2, hB2⟩ : ∃ B, x2.heap.size = B := ⟨_, rfl⟩
  have hka : Kp [] W1 W2 := by rw [hW2]; exact hk2.alloc _
  have HB2 : Hid (DtAt W2 B2 X2 Y2) := by show DtAt _ _ _ _; rw [hW2, ← hB2]; exact heap_alloc_new _ _
  have hl2 : B1 + 1 ≤ B2 := by rw [← hB2]; have := hk2.size; have := lt_of_block HB1.out; omega
  replace HS : Hid (ScAt W2 w.heap.size s) := HS.out.kp0 hka
  replace HC : Hid (CvAt W2 (w.heap.size + 1) _) := HC.out.kp hka (by simp)
  replace HR : Hid (BowAt W2 (w.heap.size + 1 + 1) bw0) := HR.out.kp hka (by simp)
  replace HK : Hid (Kp [] w W2) := HK.out.trans hka
  replace HB1 : Hid (DtAt W2 B1 X1 Y1) := HB1.out.kp0 hka
  rw [hB2]
  clear hW2 hB2 hka hk2 HD2
  obtain ⟨s0, s1, s2, s3⟩ := HS.out.cells
  obtain ⟨v0, v1, v2, v3, v4, v5, v6, v7, v8, v9, v10, v11, v12⟩ := HC.out.cells
  dsimp only at v0 v1 v2 v3 v4 v5 v6 v7 v8 v9 v10 v11 v12
  go_wp2_with fail
  refine (HD3.out _).mono ?_; rintro e x3 ⟨rfl, hk3⟩
  clear s0 s1 s2 s3 v0 v1 v2 v3 v4 v5 v6 v7 v8 v9 v10 v11 v12
  go_upto_region 4 with fail
  refine wp_gen ?_; intro W3 hW3
  obtain ⟨B3, hB3⟩ : ∃ B, x3.heap.size = B := ⟨_, rfl⟩
  have hka : Kp [] W2 W3 := by rw [hW3]; exact hk3.alloc _
  have HB3 : Hid (DtAt W3 B3 X3 Y3) := by show DtAt _ _ _ _; rw [hW3, ← hB3]; exact heap_alloc_new _ _
  have hl3 : B2 + 1 ≤ B3 := by rw [← hB3]; have := hk3.size; have := lt_of_block HB2.out; omega
  replace HS : Hid (ScAt W3 w.heap.size s) := HS.out.kp0 hka
  replace HC : Hid (CvAt W3 (w.heap.size + 1) _) := HC.out.kp hka (by simp)
  replace HR : Hid (BowAt W3 (w.heap.size + 1 + 1) bw0) := HR.out.kp hka (by simp)
  replace HK : Hid (Kp [] w W3) := HK.out.trans hka
  replace HB1 : Hid (DtAt W3 B1 X1 Y1) := HB1.out.kp0 hka
  replace HB2 : Hid (DtAt W3 B2 X2 Y2) := HB2.out.kp0 hka
  rw [hB3]
  clear hW3 hB3 hka hk3 HD3
  obtain ⟨s0, s1, s2, s3⟩ := HS.out.cells
  obtain ⟨v0, v1, v2, v3, v4, v5, v6, v7, v8, v9, v10, v11, v12⟩ := HC.out.cells
  dsimp only at v0 v1 v2 v3 v4 v5 v6 v7 v8 v9 v10 v11 v12
  go_wp2_with fail
  refine (HD4.out _).mono ?_; rintro e x4 ⟨rfl, hk4⟩
  clear s0 s1 s2 s3 v0 v1 v2 v3 v4 v5 v6 v7 v8 v9 v10 v11 v12
  go_upto_region 5 with fail
  refine wp_gen ?_; intro W4 hW4
  obtain ⟨B4, hB4⟩ : ∃ B, x4.heap.size = B := ⟨_, rfl⟩
  have hka : Kp [] W3 W4 := by rw [hW4]; exact hk4.alloc _
  have HB4 : Hid (DtAt W4 B4 X4 Y4) := by show DtAt _ _ _ _; rw [hW4, ← hB4]; exact heap_alloc_new _ _
  have hl4 : B3 + 1 ≤ B4 := by rw [← hB4]; have := hk4.size; have := lt_of_block HB3.out; omega
  replace HS : Hid (ScAt W4 w.heap.size s) := HS.out.kp0 hka
  replace HC : Hid (CvAt W4 (w.heap.size + 1) _) := HC.out.kp hka (by simp)
  replace HR : Hid (BowAt W4 (w.heap.size + 1 + 1) bw0) := HR.out.kp hka (by simp)
  replace HK : Hid (Kp [] w W4) := HK.out.trans hka
  replace HB1 : Hid (DtAt W4 B1 X1 Y1) := HB1.out.kp0 hka
  replace HB2 : Hid (DtAt W4 B2 X2 Y2) := HB2.out.kp0 hka
  replace HB3 : Hid (DtAt W4 B3 X3 Y3) := HB3.out.kp0 hka
  rw [hB4]
  clear hW4 hB4 hka hk4 HD4
  have hc0 := HC.out.cells.1
  dsimp only at hc0
  obtain ⟨d20, d21, d22, d23⟩ := HB2.out.cells
  obtain ⟨d30, d31, d32, d33⟩ := HB3.out.cells
  have nC2 : w.heap.size + 1 ≠ B2 := by omega
  have n32 : B3 ≠ B2 := by omega
  go_upto_region 9 with fail
  clear hc0 d20 d21 d22 d23 nC2 n32 d30 d31 d32 d33
  refine wp_gen ?_; intro W5 hW5
  replace HC : Hid (CvAt W5 (w.heap.size + 1) ⟨1, ⟨ax, ay, ak⟩, ⟨bx, b_y, bk⟩, ⟨cx, cy, ck⟩, ⟨dx, dy, dk⟩⟩) := by show CvAt _ _ _; rw [hW5]; exact ((((HC.out).far (p := ⟨B2, 0, none⟩) (by show w.heap.size + 1 ≠ B2; omega) (.int .i64 0)).far (p := ⟨B2, 1, none⟩) (by show w.heap.size + 1 ≠ B2; omega) (.int .i64 0)).far (p := ⟨B3, 0, none⟩) (by show w.heap.size + 1 ≠ B3; omega) (.int .i64 0)).far (p := ⟨B3, 1, none⟩) (by show w.heap.size + 1 ≠ B3; omega) (.int .i64 0)
  replace HR : Hid (BowAt W5 (w.heap.size + 1 + 1) bw0) := by show BowAt _ _ _; rw [hW5]; exact ((((HR.out).far (p := ⟨B2, 0, none⟩) (by show w.heap.size + 1 + 1 ≠ B2; omega) (.int .i64 0)).far (p := ⟨B2, 1, none⟩) (by show w.heap.size + 1 + 1 ≠ B2; omega) (.int .i64 0)).far (p := ⟨B3, 0, none⟩) (by show w.heap.size + 1 + 1 ≠ B3; omega) (.int .i64 0)).far (p := ⟨B3, 1, none⟩) (by show w.heap.size + 1 + 1 ≠ B3; omega) (.int .i64 0)
  replace HB1 : Hid (DtAt W5 B1 X1 Y1) := by show DtAt _ _ _ _; rw [hW5]; exact ((((HB1.out).far (p := ⟨B2, 0, none⟩) (by show B1 ≠ B2; omega) (.int .i64 0)).far (p := ⟨B2, 1, none⟩) (by show B1 ≠ B2; omega) (.int .i64 0)).far (p := ⟨B3, 0, none⟩) (by show B1 ≠ B3; omega) (.int .i64 0)).far (p := ⟨B3, 1, none⟩) (by show B1 ≠ B3; omega) (.int .i64 0)
  replace HB4 : Hid (DtAt W5 B4 X4 Y4) := by show DtAt _ _ _ _; rw [hW5]; exact ((((HB4.out).far (p := ⟨B2, 0, none⟩) (by show B4 ≠ B2; omega) (.int .i64 0)).far (p := ⟨B2, 1, none⟩) (by show B4 ≠ B2; omega) (.int .i64 0)).far (p := ⟨B3, 0, none⟩) (by show B4 ≠ B3; omega) (.int .i64 0)).far (p := ⟨B3, 1, none⟩) (by show B4 ≠ B3; omega) (.int .i64 0)
  replace HB2 : Hid (DtAt W5 B2 0 0) := by show DtAt _ _ _ _; rw [hW5]; exact ((HB2.out.set 0 0).far (p := ⟨B3, 0, none⟩) (by show B2 ≠ B3; omega) (.int .i64 0)).far (p := ⟨B3, 1, none⟩) (by show B2 ≠ B3; omega) (.int .i64 0)
  replace HB3 : Hid (DtAt W5 B3 0 0) := by show DtAt _ _ _ _; rw [hW5]; exact (((HB3.out).far (p := ⟨B2, 0, none⟩) (by show B3 ≠ B2; omega) (.int .i64 0)).far (p := ⟨B2, 1, none⟩) (by show B3 ≠ B2; omega) (.int .i64 0)).set 0 0
  replace HK : Hid (Kp [] w W5) := by show Kp _ _ _; rw [hW5]; exact ((((HK.out.setCell (p := ⟨B2, 0, none⟩) (.inr (by show _ ≤ B2; omega)) (.int .i64 0)).setCell (p := ⟨B2, 1, none⟩) (.inr (by show _ ≤ B2; omega)) (.int .i64 0)).setCell (p := ⟨B3, 0, none⟩) (.inr (by show _ ≤ B3; omega)) (.int .i64 0)).setCell (p := ⟨B3, 1, none⟩) (.inr (by show _ ≤ B3; omega)) (.int .i64 0))
  clear hW5 HS
  have hc0 := HC.out.cells.1
  dsimp only at hc0
  go_upto_region 10 with fail
  clear hc0
  obtain ⟨y0, y1, y2, y3, y4, y5, y6, y7, y8⟩ := HR.out.cells
  dsimp only [bw0] at y0 y1 y2 y3 y4 y5 y6 y7 y8
  have g0 := HR.out.frozen 0
  have g1 := HR.out.frozen 1
  have g2 := HR.out.frozen 2
  have g3 := HR.out.frozen 3
  have g4 := HR.out.frozen 4
  have g5 := HR.out.frozen 5
  have g6 := HR.out.frozen 6
  have g7 := HR.out.frozen 7
  have g8 := HR.out.frozen 8
  have HFN := Lib.hid (HR.out.put9 bw0)
  have HFK := Lib.hid (put9_kp (B := w.heap.size + 1 + 1) HK.out (by omega) bw0)
  go_wp2_with fail
  obtain ⟨z0, z1, z2, z3, z4, z5, z6, z7, z8⟩ := HFN.out.cells
  unfold put9 bw0 at z0 z1 z2 z3 z4 z5 z6 z7 z8
  dsimp only at z0 z1 z2 z3 z4 z5 z6 z7 z8
  refine bodyPost_ret (v := .tuple #[bowV bw0, .int .i64 10]) (by simp [results, Try.results41, go_sem, bowV, bw0, z0, z1, z2, z3, z4, z5, z6, z7, z8]) rfl ⟨rfl, HFK.out⟩
set_option maxRecDepth 100000 in
set_option maxHeartbeats 8000000 in
theorem rbow_1_e2 (s : Sc) (ax ay ak bx b_y bk cx cy ck dx dy dk : Int) (hs : mayS s = true) (h1 : (dotP s ⟨ax, ay, ak⟩).2 = 0) (h4 : (dotP s ⟨dx, dy, dk⟩).2 = 10) (w : World) : Calls Try.prog 41 #[scV s, cvV ⟨1, ⟨ax, ay, ak⟩, ⟨bx, b_y, bk⟩, ⟨cx, cy, ck⟩, ⟨dx, dy, dk⟩⟩] w fun r w' => r = .returned (.tuple #[bowV bw0, .int .i64 10]) ∧ Kp [] w w' := by
  have HD1 := Lib.hid (fun W => rfdot_calls s ⟨ax, ay, ak⟩ hs W)
  have HD2 := Lib.hid (fun W => rfdot_calls s ⟨bx, b_y, bk⟩ hs W)
  have HD3 := Lib.hid (fun W => rfdot_calls s ⟨cx, cy, ck⟩ hs W)
  have HD4 := Lib.hid (fun W => rfdot_calls s ⟨dx, dy, dk⟩ hs W)
  rw [h1] at HD1
  rw [h4] at HD4
  clear h1 h4
  obtain ⟨⟨X1, Y1⟩, hX1⟩ : ∃ q, (dotP s ⟨ax, ay, ak⟩).1 = q := ⟨_, rfl⟩
  rw [hX1] at HD1
  clear hX1
  obtain ⟨⟨⟨X2, Y2⟩, E2⟩, hX2⟩ : ∃ q, dotP s ⟨bx, b_y, bk⟩ = q := ⟨_, rfl⟩
  rw [hX2] at HD2
  clear hX2
  obtain ⟨⟨⟨X3, Y3⟩, E3⟩, hX3⟩ : ∃ q, dotP s ⟨cx, cy, ck⟩ = q := ⟨_, rfl⟩
  rw [hX3] at HD3
  clear hX3
  obtain ⟨⟨X4, Y4⟩, hX4⟩ : ∃ q, (dotP s ⟨dx, dy, dk⟩).1 = q := ⟨_, rfl⟩
  rw [hX4] at HD4
  clear hX4
  dsimp only [dotV] at HD1 HD2 HD3 HD4
  rw [show cvV ⟨1, ⟨ax, ay, ak⟩, ⟨bx, b_y, bk⟩, ⟨cx, cy, ck⟩, ⟨dx, dy, dk⟩⟩ = .agg #[.int .i64 1, .int .i64 ax, .int .i64 ay, .int .i64 ak, .int .i64 bx, .int .i64 b_y, .int .i64 bk, .int .i64 cx, .int .i64 cy, .int .i64 ck, .int .i64 dx, .int .i64 dy, .int .i64 dk] from rfl]
  clear hs
  rw [show scV s = .agg #[.int .i64 s.u, .int .i64 s.p, .int .i64 s.fx, .int .i64 s.fy] from rfl] at *
  go_enter Try.func41, Try.ntmps41
  go_wp2_with fail
  obtain ⟨q1, q2, q3⟩ := three_heap (w := w) (A := .cells #[.int .i64 s.u, .int .i64 s.p, .int .i64 s.fx, .int .i64 s.fy] 23) (B := .cells (cvCells ⟨1, ⟨ax, ay, ak⟩, ⟨bx, b_y, bk⟩, ⟨cx, cy, ck⟩, ⟨dx, dy, dk⟩⟩) 75) (C := .cells #[.int .i64 0, .int .i64 0, .int .i64 0, .int .i64 0, .int .i64 0, .int .i64 0, .int .i64 0, .int .i64 0, .int .i64 0] 71) rfl
  have hk : Kp [] w (((w.alloc (.cells #[.int .i64 s.u, .int .i64 s.p, .int .i64 s.fx, .int .i64 s.fy] 23)).alloc (.cells #[.int .i64 1, .int .i64 ax, .int .i64 ay, .int .i64 ak, .int .i64 bx, .int .i64 b_y, .int .i64 bk, .int .i64 cx, .int .i64 cy, .int .i64 ck, .int .i64 dx, .int .i64 dy, .int .i64 dk] 75)).alloc (.cells #[.int .i64 0, .int .i64 0, .int .i64 0, .int .i64 0, .int .i64 0, .int .i64 0, .int .i64 0, .int .i64 0, .int .i64 0] 71)) := by (repeat (first | exact Kp.refl _ _ | assumption | refine Kp.drew ?_ | refine Kp.drewN ?_ _ | refine Kp.alloc ?_ _ | (refine Kp.setCell ?_ (by first | (left; simp; done) | (right; simp; try omega)) _) | (refine Kp.trans' ?_ (by assumption) (by simp; try omega))))
  have hz : ((((w.alloc (.cells #[.int .i64 s.u, .int .i64 s.p, .int .i64 s.fx, .int .i64 s.fy] 23)).alloc (.cells #[.int .i64 1, .int .i64 ax, .int .i64 ay, .int .i64 ak, .int .i64 bx, .int .i64 b_y, .int .i64 bk, .int .i64 cx, .int .i64 cy, .int .i64 ck, .int .i64 dx, .int .i64 dy, .int .i64 dk] 75)).alloc (.cells #[.int .i64 0, .int .i64 0, .int .i64 0, .int .i64 0, .int .i64 0, .int .i64 0, .int .i64 0, .int .i64 0, .int .i64 0] 71))).heap.size = w.heap.size + 1 + 1 + 1 := by simp
  change ((((w.alloc (.cells #[.int .i64 s.u, .int .i64 s.p, .int .i64 s.fx, .int .i64 s.fy] 23)).alloc (.cells #[.int .i64 1, .int .i64 ax, .int .i64 ay, .int .i64 ak, .int .i64 bx, .int .i64 b_y, .int .i64 bk, .int .i64 cx, .int .i64 cy, .int .i64 ck, .int .i64 dx, .int .i64 dy, .int .i64 dk] 75)).alloc (.cells #[.int .i64 0, .int .i64 0, .int .i64 0, .int .i64 0, .int .i64 0, .int .i64 0, .int .i64 0, .int .i64 0, .int .i64 0] 71))).heap[w.heap.size]? = _ at q1
  change ((((w.alloc (.cells #[.int .i64 s.u, .int .i64 s.p, .int .i64 s.fx, .int .i64 s.fy] 23)).alloc (.cells #[.int .i64 1, .int .i64 ax, .int .i64 ay, .int .i64 ak, .int .i64 bx, .int .i64 b_y, .int .i64 bk, .int .i64 cx, .int .i64 cy, .int .i64 ck, .int .i64 dx, .int .i64 dy, .int .i64 dk] 75)).alloc (.cells #[.int .i64 0, .int .i64 0, .int .i64 0, .int .i64 0, .int .i64 0, .int .i64 0, .int .i64 0, .int .i64 0, .int .i64 0] 71))).heap[w.heap.size + 1]? = _ at q2
  change ((((w.alloc (.cells #[.int .i64 s.u, .int .i64 s.p, .int .i64 s.fx, .int .i64 s.fy] 23)).alloc (.cells #[.int .i64 1, .int .i64 ax, .int .i64 ay, .int .i64 ak, .int .i64 bx, .int .i64 b_y, .int .i64 bk, .int .i64 cx, .int .i64 cy, .int .i64 ck, .int .i64 dx, .int .i64 dy, .int .i64 dk] 75)).alloc (.cells #[.int .i64 0, .int .i64 0, .int .i64 0, .int .i64 0, .int .i64 0, .int .i64 0, .int .i64 0, .int .i64 0, .int .i64 0] 71))).heap[w.heap.size + 1 + 1]? = _ at q3
  generalize (((w.alloc (.cells #[.int .i64 s.u, .int .i64 s.p, .int .i64 s.fx, .int .i64 s.fy] 23)).alloc (.cells #[.int .i64 1, .int .i64 ax, .int .i64 ay, .int .i64 ak, .int .i64 bx, .int .i64 b_y, .int .i64 bk, .int .i64 cx, .int .i64 cy, .int .i64 ck, .int .i64 dx, .int .i64 dy, .int .i64 dk] 75)).alloc (.cells #[.int .i64 0, .int .i64 0, .int .i64 0, .int .i64 0, .int .i64 0, .int .i64 0, .int .i64 0, .int .i64 0, .int .i64 0] 71)) = W0 at *
  have HS : Hid (ScAt W0 w.heap.size s) := q1
  have HC : Hid (CvAt W0 (w.heap.size + 1) ⟨1, ⟨ax, ay, ak⟩, ⟨bx, b_y, bk⟩, ⟨cx, cy, ck⟩, ⟨dx, dy, dk⟩⟩) := q2
  have HR : Hid (BowAt W0 (w.heap.size + 1 + 1) bw0) := q3
  have HK := Lib.hid hk
  have HZ := Lib.hid hz
  clear hk hz q1 q2 q3
  obtain ⟨s0, s1, s2, s3⟩ := HS.out.cells
  obtain ⟨v0, v1, v2, v3, v4, v5, v6, v7, v8, v9, v10, v11, v12⟩ := HC.out.cells
  dsimp only at v0 v1 v2 v3 v4 v5 v6 v7 v8 v9 v10 v11 v12
  go_wp2_with fail
  refine (HD1.out _).mono ?_; rintro e x1 ⟨rfl, hk1⟩
  clear s0 s1 s2 s3 v0 v1 v2 v3 v4 v5 v6 v7 v8 v9 v10 v11 v12
  go_upto_region 2 with fail
  refine wp_gen ?_; intro W1 hW1
  obtain ⟨B1, hB1⟩ : ∃ B, x1.heap.size = B := ⟨_, rfl⟩
  have hka : Kp [] W0 W1 := by rw [hW1]; exact hk1.alloc _
  have HB1 : Hid (DtAt W1 B1 X1 Y1) := by show DtAt _ _ _ _; rw [hW1, ← hB1]; exact heap_alloc_new _ _
  have hl1 : w.heap.size + 1 + 1 + 1 ≤ B1 := by rw [← hB1]; have := hk1.size; have := HZ.out; omega
  replace HS : Hid (ScAt W1 w.heap.size s) := HS.out.kp0 hka
  replace HC : Hid (CvAt W1 (w.heap.size + 1) _) := HC.out.kp hka (by simp)
  replace HR : Hid (BowAt W1 (w.heap.size + 1 + 1) bw0) := HR.out.kp hka (by simp)
  replace HK : Hid (Kp [] w W1) := HK.out.trans hka
  rw [hB1]
  clear hW1 hB1 hka hk1 HD1
  obtain ⟨s0, s1, s2, s3⟩ := HS.out.cells
  obtain ⟨v0, v1, v2, v3, v4, v5, v6, v7, v8, v9, v10, v11, v12⟩ := HC.out.cells
  dsimp only at v0 v1 v2 v3 v4 v5 v6 v7 v8 v9 v10 v11 v12
  go_wp2_with fail
  refine (HD2.out _).mono ?_; rintro e x2 ⟨rfl, hk2⟩
  clear s0 s1 s2 s3 v0 v1 v2 v3 v4 v5 v6 v7 v8 v9 v10 v11 v12
  go_upto_region 3 with fail
  refine wp_gen ?_; intro W2 hW2
  obtain ⟨B2, hB2⟩ : ∃ B, x2.heap.size = B := ⟨_, rfl⟩
  have hka : Kp [] W1 W2 := by rw [hW2]; exact hk2.alloc _
  have HB2 : Hid (DtAt W2 B2 X2 Y2) := by show DtAt _ _ _ _; rw [hW2, ← hB2]; exact heap_alloc_new _ _
  have hl2 : B1 + 1 ≤ B2 := by rw [← hB2]; have := hk2.size; have := lt_of_block HB1.out; omega
  replace HS : Hid (ScAt W2 w.heap.size s) := HS.out.kp0 hka
  replace HC : Hid (CvAt W2 (w.heap.size + 1) _) := HC.out.kp hka (by simp)
  replace HR : Hid (BowAt W2 (w.heap.size + 1 + 1) bw0) := HR.out.kp hka (by simp)
  replace HK : Hid (Kp [] w W2) := HK.out.trans hka
  replace HB1 : Hid (DtAt W2 B1 X1 Y1) := HB1.out.kp0 hka
  rw [hB2]
  clear hW2 hB2 hka hk2 HD2
  obtain ⟨s0, s1, s2, s3⟩ := HS.out.cells
  obtain ⟨v0, v1, v2, v3, v4, v5, v6, v7, v8, v9, v10, v11, v12⟩ := HC.out.cells
  dsimp only at v0 v1 v2 v3 v4 v5 v6 v7 v8 v9 v10 v11 v12
  go_wp2_with fail
  refine (HD3.out _).mono ?_; rintro e x3 ⟨rfl, hk3⟩
  clear s0 s1 s2 s3 v0 v1 v2 v3 v4 v5 v6 v7 v8 v9 v10 v11 v12
  go_upto_region 4 with fail
  refine wp_gen ?_; intro W3 hW3
  obtain ⟨B3, hB3⟩ : ∃ B, x3.heap.size = B := ⟨_, rfl⟩
  have hka : Kp [] W2 W3 := by rw [hW3]; exact hk3.alloc _
  have HB3 : Hid (DtAt W3 B3 X3 Y3) := by show DtAt _ _ _ _; rw [hW3, ← hB3]; exact heap_alloc_new _ _
  have hl3 : B2 + 1 ≤ B3 := by rw [← hB3]; have := hk3.size; have := lt_of_block HB2.out; omega
  replace HS : Hid (ScAt W3 w.heap.size s) := HS.out.kp0 hka
  replace HC : Hid (CvAt W3 (w.heap.size + 1) _) := HC.out.kp hka (by simp)
  replace HR : Hid (BowAt W3 (w.heap.size + 1 + 1) bw0) := HR.out.kp hka (by simp)
  replace HK : Hid (Kp [] w W3) := HK.out.trans hka
  replace HB1 : Hid (DtAt W3 B1 X1 Y1) := HB1.out.kp0 hka
  replace HB2 : Hid (DtAt W3 B2 X2 Y2) := HB2.out.kp0 hka
  rw [hB3]
  clear hW3 hB3 hka hk3 HD3
  obtain ⟨s0, s1, s2, s3⟩ := HS.out.cells
  obtain ⟨v0, v1, v2, v3, v4, v5, v6, v7, v8, v9, v10, v11, v12⟩ := HC.out.cells
  dsimp only at v0 v1 v2 v3 v4 v5 v6 v7 v8 v9 v10 v11 v12
  go_wp2_with fail
  refine (HD4.out _).mono ?_; rintro e x4 ⟨rfl, hk4⟩
  clear s0 s1 s2 s3 v0 v1 v2 v3 v4 v5 v6 v7 v8 v9 v10 v11 v12
  go_upto_region 5 with fail
  refine wp_gen ?_; intro W4 hW4
  obtain ⟨B4, hB4⟩ : ∃ B, x4.heap.size = B := ⟨_, rfl⟩
  have hka : Kp [] W3 W4 := by rw [hW4]; exact hk4.alloc _
  have HB4 : Hid (DtAt W4 B4 X4 Y4) := by show DtAt _ _ _ _; rw [hW4, ← hB4]; exact heap_alloc_new _ _
  have hl4 : B3 + 1 ≤ B4 := by rw [← hB4]; have := hk4.size; have := lt_of_block HB3.out; omega
  replace HS : Hid (ScAt W4 w.heap.size s) := HS.out.kp0 hka
  replace HC : Hid (CvAt W4 (w.heap.size + 1) _) := HC.out.kp hka (by simp)
  replace HR : Hid (BowAt W4 (w.heap.size + 1 + 1) bw0) := HR.out.kp hka (by simp)
  replace HK : Hid (Kp [] w W4) := HK.out.trans hka
  replace HB1 : Hid (DtAt W4 B1 X1 Y1) := HB1.out.kp0 hka
  replace HB2 : Hid (DtAt W4 B2 X2 Y2) := HB2.out.kp0 hka
  replace HB3 : Hid (DtAt W4 B3 X3 Y3) := HB3.out.kp0 hka
  rw [hB4]
  clear hW4 hB4 hka hk4 HD4
  have hc0 := HC.out.cells.1
  dsimp only at hc0
  obtain ⟨d20, d21, d22, d23⟩ := HB2.out.cells
  obtain ⟨d30, d31, d32, d33⟩ := HB3.out.cells
  have nC2 : w.heap.size + 1 ≠ B2 := by omega
  have n32 : B3 ≠ B2 := by omega
  go_upto_region 9 with fail
  clear hc0 d20 d21 d22 d23 nC2 n32 d30 d31 d32 d33
  refine wp_gen ?_; intro W5 hW5
  replace HC : Hid (CvAt W5 (w.heap.size + 1) ⟨1, ⟨ax, ay, ak⟩, ⟨bx, b_y, bk⟩, ⟨cx, cy, ck⟩, ⟨dx, dy, dk⟩⟩) := by show CvAt _ _ _; rw [hW5]; exact ((((HC.out).far (p := ⟨B2, 0, none⟩) (by show w.heap.size + 1 ≠ B2; omega) (.int .i64 0)).far (p := ⟨B2, 1, none⟩) (by show w.heap.size + 1 ≠ B2; omega) (.int .i64 0)).far (p := ⟨B3, 0, none⟩) (by show w.heap.size + 1 ≠ B3; omega) (.int .i64 0)).far (p := ⟨B3, 1, none⟩) (by show w.heap.size + 1 ≠ B3; omega) (.int .i64 0)
  replace HR : Hid (BowAt W5 (w.heap.size + 1 + 1) bw0) := by show BowAt _ _ _; rw [hW5]; exact ((((HR.out).far (p := ⟨B2, 0, none⟩) (by show w.heap.size + 1 + 1 ≠ B2; omega) (.int .i64 0)).far (p := ⟨B2, 1, none⟩) (by show w.heap.size + 1 + 1 ≠ B2; omega) (.int .i64 0)).far (p := ⟨B3, 0, none⟩) (by show w.heap.size + 1 + 1 ≠ B3; omega) (.int .i64 0)).far (p := ⟨B3, 1, none⟩) (by show w.heap.size + 1 + 1 ≠ B3; omega) (.int .i64 0)
  replace HB1 : Hid (DtAt W5 B1 X1 Y1) := by show DtAt _ _ _ _; rw [hW5]; exact ((((HB1.out).far (p := ⟨B2, 0, none⟩) (by show B1 ≠ B2; omega) (.int .i64 0)).far (p := ⟨B2, 1, none⟩) (by show B1 ≠ B2; omega) (.int .i64 0)).far (p := ⟨B3, 0, none⟩) (by show B1 ≠ B3; omega) (.int .i64 0)).far (p := ⟨B3, 1, none⟩) (by show B1 ≠ B3; omega) (.int .i64 0)
  replace HB4 : Hid (DtAt W5 B4 X4 Y4) := by show DtAt _ _ _ _; rw [hW5]; exact ((((HB4.out).far (p := ⟨B2, 0, none⟩) (by show B4 ≠ B2; omega) (.int .i64 0)).far (p := ⟨B2, 1, none⟩) (by show B4 ≠ B2; omega) (.int .i64 0)).far (p := ⟨B3, 0, none⟩) (by show B4 ≠ B3; omega) (.int .i64 0)).far (p := ⟨B3, 1, none⟩) (by show B4 ≠ B3; omega) (.int .i64 0)
  replace HB2 : Hid (DtAt W5 B2 0 0) := by show DtAt _ _ _ _; rw [hW5]; exact ((HB2.out.set 0 0).far (p := ⟨B3, 0, none⟩) (by show B2 ≠ B3; omega) (.int .i64 0)).far (p := ⟨B3, 1, none⟩) (by show B2 ≠ B3; omega) (.int .i64 0)
  replace HB3 : Hid (DtAt W5 B3 0 0) := by show DtAt _ _ _ _; rw [hW5]; exact (((HB3.out).far (p := ⟨B2, 0, none⟩) (by show B3 ≠ B2; omega) (.int .i64 0)).far (p := ⟨B2, 1, none⟩) (by show B3 ≠ B2; omega) (.int .i64 0)).set 0 0
  replace HK : Hid (Kp [] w W5) := by show Kp _ _ _; rw [hW5]; exact ((((HK.out.setCell (p := ⟨B2, 0, none⟩) (.inr (by show _ ≤ B2; omega)) (.int .i64 0)).setCell (p := ⟨B2, 1, none⟩) (.inr (by show _ ≤ B2; omega)) (.int .i64 0)).setCell (p := ⟨B3, 0, none⟩) (.inr (by show _ ≤ B3; omega)) (.int .i64 0)).setCell (p := ⟨B3, 1, none⟩) (.inr (by show _ ≤ B3; omega)) (.int .i64 0))
  clear hW5 HS
  have hc0 := HC.out.cells.1
  dsimp only at hc0
  go_upto_region 10 with fail
  clear hc0
  obtain ⟨y0, y1, y2, y3, y4, y5, y6, y7, y8⟩ := HR.out.cells
  dsimp only [bw0] at y0 y1 y2 y3 y4 y5 y6 y7 y8
  have g0 := HR.out.frozen 0
  have g1 := HR.out.frozen 1
  have g2 := HR.out.frozen 2
  have g3 := HR.out.frozen 3
  have g4 := HR.out.frozen 4
  have g5 := HR.out.frozen 5
  have g6 := HR.out.frozen 6
  have g7 := HR.out.frozen 7
  have g8 := HR.out.frozen 8
  have HFN := Lib.hid (HR.out.put9 bw0)
  have HFK := Lib.hid (put9_kp (B := w.heap.size + 1 + 1) HK.out (by omega) bw0)
  go_wp2_with fail
  obtain ⟨z0, z1, z2, z3, z4, z5, z6, z7, z8⟩ := HFN.out.cells
  unfold put9 bw0 at z0 z1 z2 z3 z4 z5 z6 z7 z8
  dsimp only at z0 z1 z2 z3 z4 z5 z6 z7 z8
  refine bodyPost_ret (v := .tuple #[bowV bw0, .int .i64 10]) (by simp [results, Try.results41, go_sem, bowV, bw0, z0, z1, z2, z3, z4, z5, z6, z7, z8]) rfl ⟨rfl, HFK.out⟩
set_option maxRecDepth 100000 in
set_option maxHeartbeats 8000000 in
theorem rbow_1_ok (s : Sc) (ax ay ak bx b_y bk cx cy ck dx dy dk : Int) (hs : mayS s = true) (h1 : (dotP s ⟨ax, ay, ak⟩).2 = 0) (h4 : (dotP s ⟨dx, dy, dk⟩).2 = 0) (w : World) : Calls Try.prog 41 #[scV s, cvV ⟨1, ⟨ax, ay, ak⟩, ⟨bx, b_y, bk⟩, ⟨cx, cy, ck⟩, ⟨dx, dy, dk⟩⟩] w fun r w' => r = .returned (.tuple #[bowV (bowS s ⟨1, ⟨ax, ay, ak⟩, ⟨bx, b_y, bk⟩, ⟨cx, cy, ck⟩, ⟨dx, dy, dk⟩⟩), .int .i64 0]) ∧ Kp [] w w' := by
  have HD1 := Lib.hid (fun W => rfdot_calls s ⟨ax, ay, ak⟩ hs W)
  have HD2 := Lib.hid (fun W => rfdot_calls s ⟨bx, b_y, bk⟩ hs W)
  have HD3 := Lib.hid (fun W => rfdot_calls s ⟨cx, cy, ck⟩ hs W)
  have HD4 := Lib.hid (fun W => rfdot_calls s ⟨dx, dy, dk⟩ hs W)
  have HV : Hid (bowS s ⟨1, ⟨ax, ay, ak⟩, ⟨bx, b_y, bk⟩, ⟨cx, cy, ck⟩, ⟨dx, dy, dk⟩⟩ = ⟨1, (dotP s ⟨ax, ay, ak⟩).1, (0, 0), (0, 0), (dotP s ⟨dx, dy, dk⟩).1⟩) := by show _ = _; unfold bowS; simp [dotS_P hs]
  generalize bowS s ⟨1, ⟨ax, ay, ak⟩, ⟨bx, b_y, bk⟩, ⟨cx, cy, ck⟩, ⟨dx, dy, dk⟩⟩ = RB at *
  rw [h1] at HD1
  rw [h4] at HD4
  clear h1 h4
  obtain ⟨⟨X1, Y1⟩, hX1⟩ : ∃ q, (dotP s ⟨ax, ay, ak⟩).1 = q := ⟨_, rfl⟩
  rw [hX1] at HD1 HV
  clear hX1
  obtain ⟨⟨⟨X2, Y2⟩, E2⟩, hX2⟩ : ∃ q, dotP s ⟨bx, b_y, bk⟩ = q := ⟨_, rfl⟩
  rw [hX2] at HD2
  clear hX2
  obtain ⟨⟨⟨X3, Y3⟩, E3⟩, hX3⟩ : ∃ q, dotP s ⟨cx, cy, ck⟩ = q := ⟨_, rfl⟩
  rw [hX3] at HD3
  clear hX3
  obtain ⟨⟨X4, Y4⟩, hX4⟩ : ∃ q, (dotP s ⟨dx, dy, dk⟩).1 = q := ⟨_, rfl⟩
  rw [hX4] at HD4 HV
  clear hX4
  dsimp only [dotV] at HD1 HD2 HD3 HD4
  rw [show cvV ⟨1, ⟨ax, ay, ak⟩, ⟨bx, b_y, bk⟩, ⟨cx, cy, ck⟩, ⟨dx, dy, dk⟩⟩ = .agg #[.int .i64 1, .int .i64 ax, .int .i64 ay, .int .i64 ak, .int .i64 bx, .int .i64 b_y, .int .i64 bk, .int .i64 cx, .int .i64 cy, .int .i64 ck, .int .i64 dx, .int .i64 dy, .int .i64 dk] from rfl]
  clear hs
  rw [show scV s = .agg #[.int .i64 s.u, .int .i64 s.p, .int .i64 s.fx, .int .i64 s.fy] from rfl] at *
  go_enter Try.func41, Try.ntmps41
  go_wp2_with fail
  obtain ⟨q1, q2, q3⟩ := three_heap (w := w) (A := .cells #[.int .i64 s.u, .int .i64 s.p, .int .i64 s.fx, .int .i64 s.fy] 23) (B := .cells (cvCells ⟨1, ⟨ax, ay, ak⟩, ⟨bx, b_y, bk⟩, ⟨cx, cy, ck⟩, ⟨dx, dy, dk⟩⟩) 75) (C := .cells #[.int .i64 0, .int .i64 0, .int .i64 0, .int .i64 0, .int .i64 0, .int .i64 0, .int .i64 0, .int .i64 0, .int .i64 0] 71) rfl
  have hk : Kp [] w (((w.alloc (.cells #[.int .i64 s.u, .int .i64 s.p, .int .i64 s.fx, .int .i64 s.fy] 23)).alloc (.cells #[.int .i64 1, .int .i64 ax, .int .i64 ay, .int .i64 ak, .int .i64 bx, .int .i64 b_y, .int .i64 bk, .int .i64 cx, .int .i64 cy, .int .i64 ck, .int .i64 dx, .int .i64 dy, .int .i64 dk] 75)).alloc (.cells #[.int .i64 0, .int .i64 0, .int .i64 0, .int .i64 0, .int .i64 0, .int .i64 0, .int .i64 0, .int .i64 0, .int .i64 0] 71)) := by (repeat (first | exact Kp.refl _ _ | assumption | refine Kp.drew ?_ | refine Kp.drewN ?_ _ | refine Kp.alloc ?_ _ | (refine Kp.setCell ?_ (by first | (left; simp; done) | (right; simp; try omega)) _) | (refine Kp.trans' ?_ (by assumption) (by simp; try omega))))
  have hz : ((((w.alloc (.cells #[.int .i64 s.u, .int .i64 s.p, .int .i64 s.fx, .int .i64 s.fy] 23)).alloc (.cells #[.int .i64 1, .int .i64 ax, .int .i64 ay, .int .i64 ak, .int .i64 bx, .int .i64 b_y, .int .i64 bk, .int .i64 cx, .int .i64 cy, .int .i64 ck, .int .i64 dx, .int .i64 dy, .int .i64 dk] 75)).alloc (.cells #[.int .i64 0, .int .i64 0, .int .i64 0, .int .i64 0, .int .i64 0, .int .i64 0, .int .i64 0, .int .i64 0, .int .i64 0] 71))).heap.size = w.heap.size + 1 + 1 + 1 := by simp
  change ((((w.alloc (.cells #[.int .i64 s.u, .int .i64 s.p, .int .i64 s.fx, .int .i64 s.fy] 23)).alloc (.cells #[.int .i64 1, .int .i64 ax, .int .i64 ay, .int .i64 ak, .int .i64 bx, .int .i64 b_y, .int .i64 bk, .int .i64 cx, .int .i64 cy, .int .i64 ck, .int .i64 dx, .int .i64 dy, .int .i64 dk] 75)).alloc (.cells #[.int .i64 0, .int .i64 0, .int .i64 0, .int .i64 0, .int .i64 0, .int .i64 0, .int .i64 0, .int .i64 0, .int .i64 0] 71))).heap[w.heap.size]? = _ at q1
  change ((((w.alloc (.cells #[.int .i64 s.u, .int .i64 s.p, .int .i64 s.fx, .int .i64 s.fy] 23)).alloc (.cells #[.int .i64 1, .int .i64 ax, .int .i64 ay, .int .i64 ak, .int .i64 bx, .int .i64 b_y, .int .i64 bk, .int .i64 cx, .int .i64 cy, .int .i64 ck, .int .i64 dx, .int .i64 dy, .int .i64 dk] 75)).alloc (.cells #[.int .i64 0, .int .i64 0, .int .i64 0, .int .i64 0, .int .i64 0, .int .i64 0, .int .i64 0, .int .i64 0, .int .i64 0] 71))).heap[w.heap.size + 1]? = _ at q2
  change ((((w.alloc (.cells #[.int .i64 s.u, .int .i64 s.p, .int .i64 s.fx, .int .i64 s.fy] 23)).alloc (.cells #[.int .i64 1, .int .i64 ax, .int .i64 ay, .int .i64 ak, .int .i64 bx, .int .i64 b_y, .int .i64 bk, .int .i64 cx, .int .i64 cy, .int .i64 ck, .int .i64 dx, .int .i64 dy, .int .i64 dk] 75)).alloc (.cells #[.int .i64 0, .int .i64 0, .int .i64 0, .int .i64 0, .int .i64 0, .int .i64 0, .int .i64 0, .int .i64 0, .int .i64 0] 71))).heap[w.heap.size + 1 + 1]? = _ at q3
  generalize (((w.alloc (.cells #[.int .i64 s.u, .int .i64 s.p, .int .i64 s.fx, .int .i64 s.fy] 23)).alloc (.cells #[.int .i64 1, .int .i64 ax, .int .i64 ay, .int .i64 ak, .int .i64 bx, .int .i64 b_y, .int .i64 bk, .int .i64 cx, .int .i64 cy, .int .i64 ck, .int .i64 dx, .int .i64 dy, .int .i64 dk] 75)).alloc (.cells #[.int .i64 0, .int .i64 0, .int .i64 0, .int .i64 0, .int .i64 0, .int .i64 0, .int .i64 0, .int .i64 0, .int .i64 0] 71)) = W0 at *
  have HS : Hid (ScAt W0 w.heap.size s) := q1
  have HC : Hid (CvAt W0 (w.heap.size + 1) ⟨1, ⟨ax, ay, ak⟩, ⟨bx, b_y, bk⟩, ⟨cx, cy, ck⟩, ⟨dx, dy, dk⟩⟩) := q2
  have HR : Hid (BowAt W0 (w.heap.size + 1 + 1) bw0) := q3
  have HK := Lib.hid hk
  have HZ := Lib.hid hz
  clear hk hz q1 q2 q3
  obtain ⟨s0, s1, s2, s3⟩ := HS.out.cells
  obtain ⟨v0, v1, v2, v3, v4, v5, v6, v7, v8, v9, v10, v11, v12⟩ := HC.out.cells
  dsimp only at v0 v1 v2 v3 v4 v5 v6 v7 v8 v9 v10 v11 v12
  go_wp2_with fail
  refine (HD1.out _).mono ?_; rintro e x1 ⟨rfl, hk1⟩
  clear s0 s1 s2 s3 v0 v1 v2 v3 v4 v5 v6 v7 v8 v9 v10 v11 v12
  go_upto_region 2 with fail
  refine wp_gen ?_; intro W1 hW1
  obtain ⟨B1, hB1⟩ : ∃ B, x1.heap.size = B := ⟨_, rfl⟩
  have hka : Kp [] W0 W1 := by rw [hW1]; exact hk1.alloc _
  have HB1 : Hid (DtAt W1 B1 X1 Y1) := by show DtAt _ _ _ _; rw [hW1, ← hB1]; exact heap_alloc_new _ _
  have hl1 : w.heap.size + 1 + 1 + 1 ≤ B1 := by rw [← hB1]; have := hk1.size; have := HZ.out; omega
  replace HS : Hid (ScAt W1 w.heap.size s) := HS.out.kp0 hka
  replace HC : Hid (CvAt W1 (w.heap.size + 1) _) := HC.out.kp hka (by simp)
  replace HR : Hid (BowAt W1 (w.heap.size + 1 + 1) bw0) := HR.out.kp hka (by simp)
  replace HK : Hid (Kp [] w W1) := HK.out.trans hka
  rw [hB1]
  clear hW1 hB1 hka hk1 HD1
  obtain ⟨s0, s1, s2, s3⟩ := HS.out.cells
  obtain ⟨v0, v1, v2, v3, v4, v5, v6, v7, v8, v9, v10, v11, v12⟩ := HC.out.cells
  dsimp only at v0 v1 v2 v3 v4 v5 v6 v7 v8 v9 v10 v11 v12
  go_wp2_with fail
  refine (HD2.out _).mono ?_; rintro e x2 ⟨rfl, hk2⟩
  clear s0 s1 s2 s3 v0 v1 v2 v3 v4 v5 v6 v7 v8 v9 v10 v11 v12
  go_upto_region 3 with fail
  refine wp_gen ?_; intro W2 hW2
  obtain ⟨B2, hB2⟩ : ∃ B, x2.heap.size = B := ⟨_, rfl⟩
  have hka : Kp [] W1 W2 := by rw [hW2]; exact hk2.alloc _
  have HB2 : Hid (DtAt W2 B2 X2 Y2) := by show DtAt _ _ _ _; rw [hW2, ← hB2]; exact heap_alloc_new _ _
  have hl2 : B1 + 1 ≤ B2 := by rw [← hB2]; have := hk2.size; have := lt_of_block HB1.out; omega
  replace HS : Hid (ScAt W2 w.heap.size s) := HS.out.kp0 hka
  replace HC : Hid (CvAt W2 (w.heap.size + 1) _) := HC.out.kp hka (by simp)
  replace HR : Hid (BowAt W2 (w.heap.size + 1 + 1) bw0) := HR.out.kp hka (by simp)
  replace HK : Hid (Kp [] w W2) := HK.out.trans hka
  replace HB1 : Hid (DtAt W2 B1 X1 Y1) := HB1.out.kp0 hka
  rw [hB2]
  clear hW2 hB2 hka hk2 HD2
  obtain ⟨s0, s1, s2, s3⟩ := HS.out.cells
  obtain ⟨v0, v1, v2, v3, v4, v5, v6, v7, v8, v9, v10, v11, v12⟩ := HC.out.cells
  dsimp only at v0 v1 v2 v3 v4 v5 v6 v7 v8 v9 v10 v11 v12
  go_wp2_with fail
  refine (HD3.out _).mono ?_; rintro e x3 ⟨rfl, hk3⟩
  clear s0 s1 s2 s3 v0 v1 v2 v3 v4 v5 v6 v7 v8 v9 v10 v11 v12
  go_upto_region 4 with fail
  refine wp_gen ?_; intro W3 hW3
  obtain ⟨B3, hB3⟩ : ∃ B, x3.heap.size = B := ⟨_, rfl⟩
  have hka : Kp [] W2 W3 := by rw [hW3]; exact hk3.alloc _
  have HB3 : Hid (DtAt W3 B3 X3 Y3) := by show DtAt _ _ _ _; rw [hW3, ← hB3]; exact heap_alloc_new _ _
  have hl3 : B2 + 1 ≤ B3 := by rw [← hB3]; have := hk3.size; have := lt_of_block HB2.out; omega
  replace HS : Hid (ScAt W3 w.heap.size s) := HS.out.kp0 hka
  replace HC : Hid (CvAt W3 (w.heap.size + 1) _) := HC.out.kp hka (by simp)
  replace HR : Hid (BowAt W3 (w.heap.size + 1 + 1) bw0) := HR.out.kp hka (by simp)
  replace HK : Hid (Kp [] w W3) := HK.out.trans hka
  replace HB1 : Hid (DtAt W3 B1 X1 Y1) := HB1.out.kp0 hka
  replace HB2 : Hid (DtAt W3 B2 X2 Y2) := HB2.out.kp0 hka
  rw [hB3]
  clear hW3 hB3 hka hk3 HD3
  obtain ⟨s0, s1, s2, s3⟩ := HS.out.cells
  obtain ⟨v0, v1, v2, v3, v4, v5, v6, v7, v8, v9, v10, v11, v12⟩ := HC.out.cells
  dsimp only at v0 v1 v2 v3 v4 v5 v6 v7 v8 v9 v10 v11 v12
  go_wp2_with fail
  refine (HD4.out _).mono ?_; rintro e x4 ⟨rfl, hk4⟩
  clear s0 s1 s2 s3 v0 v1 v2 v3 v4 v5 v6 v7 v8 v9 v10 v11 v12
  go_upto_region 5 with fail
  refine wp_gen ?_; intro W4 hW4
  obtain ⟨B4, hB4⟩ : ∃ B, x4.heap.size = B := ⟨_, rfl⟩
  have hka : Kp [] W3 W4 := by rw [hW4]; exact hk4.alloc _
  have HB4 : Hid (DtAt W4 B4 X4 Y4) := by show DtAt _ _ _ _; rw [hW4, ← hB4]; exact heap_alloc_new _ _
  have hl4 : B3 + 1 ≤ B4 := by rw [← hB4]; have := hk4.size; have := lt_of_block HB3.out; omega
  replace HS : Hid (ScAt W4 w.heap.size s) := HS.out.kp0 hka
  replace HC : Hid (CvAt W4 (w.heap.size + 1) _) := HC.out.kp hka (by simp)
  replace HR : Hid (BowAt W4 (w.heap.size + 1 + 1) bw0) := HR.out.kp hka (by simp)
  replace HK : Hid (Kp [] w W4) := HK.out.trans hka
  replace HB1 : Hid (DtAt W4 B1 X1 Y1) := HB1.out.kp0 hka
  replace HB2 : Hid (DtAt W4 B2 X2 Y2) := HB2.out.kp0 hka
  replace HB3 : Hid (DtAt W4 B3 X3 Y3) := HB3.out.kp0 hka
  rw [hB4]
  clear hW4 hB4 hka hk4 HD4
  have hc0 := HC.out.cells.1
  dsimp only at hc0
  obtain ⟨d20, d21, d22, d23⟩ := HB2.out.cells
  obtain ⟨d30, d31, d32, d33⟩ := HB3.out.cells
  have nC2 : w.heap.size + 1 ≠ B2 := by omega
  have n32 : B3 ≠ B2 := by omega
  go_upto_region 9 with fail
  clear hc0 d20 d21 d22 d23 nC2 n32 d30 d31 d32 d33
  refine wp_gen ?_; intro W5 hW5
  replace HC : Hid (CvAt W5 (w.heap.size + 1) ⟨1, ⟨ax, ay, ak⟩, ⟨bx, b_y, bk⟩, ⟨cx, cy, ck⟩, ⟨dx, dy, dk⟩⟩) := by show CvAt _ _ _; rw [hW5]; exact ((((HC.out).far (p := ⟨B2, 0, none⟩) (by show w.heap.size + 1 ≠ B2; omega) (.int .i64 0)).far (p := ⟨B2, 1, none⟩) (by show w.heap.size + 1 ≠ B2; omega) (.int .i64 0)).far (p := ⟨B3, 0, none⟩) (by show w.heap.size + 1 ≠ B3; omega) (.int .i64 0)).far (p := ⟨B3, 1, none⟩) (by show w.heap.size + 1 ≠ B3; omega) (.int .i64 0)
  replace HR : Hid (BowAt W5 (w.heap.size + 1 + 1) bw0) := by show BowAt _ _ _; rw [hW5]; exact ((((HR.out).far (p := ⟨B2, 0, none⟩) (by show w.heap.size + 1 + 1 ≠ B2; omega) (.int .i64 0)).far (p := ⟨B2, 1, none⟩) (by show w.heap.size + 1 + 1 ≠ B2; omega) (.int .i64 0)).far (p := ⟨B3, 0, none⟩) (by show w.heap.size + 1 + 1 ≠ B3; omega) (.int .i64 0)).far (p := ⟨B3, 1, none⟩) (by show w.heap.size + 1 + 1 ≠ B3; omega) (.int .i64 0)
  replace HB1 : Hid (DtAt W5 B1 X1 Y1) := by show DtAt _ _ _ _; rw [hW5]; exact ((((HB1.out).far (p := ⟨B2, 0, none⟩) (by show B1 ≠ B2; omega) (.int .i64 0)).far (p := ⟨B2, 1, none⟩) (by show B1 ≠ B2; omega) (.int .i64 0)).far (p := ⟨B3, 0, none⟩) (by show B1 ≠ B3; omega) (.int .i64 0)).far (p := ⟨B3, 1, none⟩) (by show B1 ≠ B3; omega) (.int .i64 0)
  replace HB4 : Hid (DtAt W5 B4 X4 Y4) := by show DtAt _ _ _ _; rw [hW5]; exact ((((HB4.out).far (p := ⟨B2, 0, none⟩) (by show B4 ≠ B2; omega) (.int .i64 0)).far (p := ⟨B2, 1, none⟩) (by show B4 ≠ B2; omega) (.int .i64 0)).far (p := ⟨B3, 0, none⟩) (by show B4 ≠ B3; omega) (.int .i64 0)).far (p := ⟨B3, 1, none⟩) (by show B4 ≠ B3; omega) (.int .i64 0)
  replace HB2 : Hid (DtAt W5 B2 0 0) := by show DtAt _ _ _ _; rw [hW5]; exact ((HB2.out.set 0 0).far (p := ⟨B3, 0, none⟩) (by show B2 ≠ B3; omega) (.int .i64 0)).far (p := ⟨B3, 1, none⟩) (by show B2 ≠ B3; omega) (.int .i64 0)
  replace HB3 : Hid (DtAt W5 B3 0 0) := by show DtAt _ _ _ _; rw [hW5]; exact (((HB3.out).far (p := ⟨B2, 0, none⟩) (by show B3 ≠ B2; omega) (.int .i64 0)).far (p := ⟨B2, 1, none⟩) (by show B3 ≠ B2; omega) (.int .i64 0)).set 0 0
  replace HK : Hid (Kp [] w W5) := by show Kp _ _ _; rw [hW5]; exact ((((HK.out.setCell (p := ⟨B2, 0, none⟩) (.inr (by show _ ≤ B2; omega)) (.int .i64 0)).setCell (p := ⟨B2, 1, none⟩) (.inr (by show _ ≤ B2; omega)) (.int .i64 0)).setCell (p := ⟨B3, 0, none⟩) (.inr (by show _ ≤ B3; omega)) (.int .i64 0)).setCell (p := ⟨B3, 1, none⟩) (.inr (by show _ ≤ B3; omega)) (.int .i64 0))
  clear hW5 HS
  have hc0 := HC.out.cells.1
  dsimp only at hc0
  go_upto_region 11 with fail
  clear hc0
  obtain ⟨y0, y1, y2, y3, y4, y5, y6, y7, y8⟩ := HR.out.cells
  dsimp only [bw0] at y0 y1 y2 y3 y4 y5 y6 y7 y8
  have g0 := HR.out.frozen 0
  have g1 := HR.out.frozen 1
  have g2 := HR.out.frozen 2
  have g3 := HR.out.frozen 3
  have g4 := HR.out.frozen 4
  have g5 := HR.out.frozen 5
  have g6 := HR.out.frozen 6
  have g7 := HR.out.frozen 7
  have g8 := HR.out.frozen 8
  obtain ⟨d10, d11, _, _⟩ := HB1.out.cells
  obtain ⟨d20, d21, _, _⟩ := HB2.out.cells
  obtain ⟨d30, d31, _, _⟩ := HB3.out.cells
  obtain ⟨d40, d41, _, _⟩ := HB4.out.cells
  have hc0 := HC.out.cells.1
  dsimp only at hc0
  have HFN := Lib.hid (HR.out.put9 ⟨1, (X1, Y1), (0, 0), (0, 0), (X4, Y4)⟩)
  have HFK := Lib.hid (put9_kp (B := w.heap.size + 1 + 1) HK.out (by omega) ⟨1, (X1, Y1), (0, 0), (0, 0), (X4, Y4)⟩)
  go_wp2_with fail
  obtain ⟨z0, z1, z2, z3, z4, z5, z6, z7, z8⟩ := HFN.out.cells
  unfold put9 at z0 z1 z2 z3 z4 z5 z6 z7 z8
  dsimp only at z0 z1 z2 z3 z4 z5 z6 z7 z8
  rw [HV.out]
  refine bodyPost_ret (v := .tuple #[bowV ⟨1, (X1, Y1), (0, 0), (0, 0), (X4, Y4)⟩, .int .i64 0]) (by simp [results, Try.results41, go_sem, bowV, bw0, z0, z1, z2, z3, z4, z5, z6, z7, z8]) rfl ⟨rfl, HFK.out⟩
set_option maxRecDepth 100000 in
set_option maxHeartbeats 8000000 in
theorem rbow_2_e1 (s : Sc) (ax ay ak bx b_y bk cx cy ck dx dy dk : Int) (hs : mayS s = true) (h1 : (dotP s ⟨ax, ay, ak⟩).2 = 10) (w : World) : Calls Try.prog 41 #[scV s, cvV ⟨2, ⟨ax, ay, ak⟩, ⟨bx, b_y, bk⟩, ⟨cx, cy, ck⟩, ⟨dx, dy, dk⟩⟩] w fun r w' => r = .returned (.tuple #[bowV bw0, .int .i64 10]) ∧ Kp [] w w' := by
  have HD1 := Lib.hid (fun W => rfdot_calls s ⟨ax, ay, ak⟩ hs W)
  have HD2 := Lib.hid (fun W => rfdot_calls s ⟨bx, b_y, bk⟩ hs W)
  have HD3 := Lib.hid (fun W => rfdot_calls s ⟨cx, cy, ck⟩ hs W)
  have HD4 := Lib.hid (fun W => rfdot_calls s ⟨dx, dy, dk⟩ hs W)
  rw [h1] at HD1
  clear h1
  obtain ⟨⟨X1, Y1⟩, hX1⟩ : ∃ q, (dotP s ⟨ax, ay, ak⟩).1 = q := ⟨_, rfl⟩
  rw [hX1] at HD1
  clear hX1
  obtain ⟨⟨⟨X2, Y2⟩, E2⟩, hX2⟩ : ∃ q, dotP s ⟨bx, b_y, bk⟩ = q := ⟨_, rfl⟩
  rw [hX2] at HD2
  clear hX2
  obtain ⟨⟨⟨X3, Y3⟩, E3⟩, hX3⟩ : ∃ q, dotP s ⟨cx, cy, ck⟩ = q := ⟨_, rfl⟩
  rw [hX3] at HD3
  clear hX3
  obtain ⟨⟨⟨X4, Y4⟩, E4⟩, hX4⟩ : ∃ q, dotP s ⟨dx, dy, dk⟩ = q := ⟨_, rfl⟩
  rw [hX4] at HD4
  clear hX4
  dsimp only [dotV] at HD1 HD2 HD3 HD4
  rw [show cvV ⟨2, ⟨ax, ay, ak⟩, ⟨bx, b_y, bk⟩, ⟨cx, cy, ck⟩, ⟨dx, dy, dk⟩⟩ = .agg #[.int .i64 2, .int .i64 ax, .int .i64 ay, .int .i64 ak, .int .i64 bx, .int .i64 b_y, .int .i64 bk, .int .i64 cx, .int .i64 cy, .int .i64 ck, .int .i64 dx, .int .i64 dy, .int .i64 dk] from rfl]
  clear hs
  rw [show scV s = .agg #[.int .i64 s.u, .int .i64 s.p, .int .i64 s.fx, .int .i64 s.fy] from rfl] at *
  go_enter Try.func41, Try.ntmps41
  go_wp2_with fail
  obtain ⟨q1, q2, q3⟩ := three_heap (w := w) (A := .cells #[.int .i64 s.u, .int .i64 s.p, .int .i64 s.fx, .int .i64 s.fy] 23) (B := .cells (cvCells ⟨2, ⟨ax, ay, ak⟩, ⟨bx, b_y, bk⟩, ⟨cx, cy, ck⟩, ⟨dx, dy, dk⟩⟩) 75) (C := .cells #[.int .i64 0, .int .i64 0, .int .i64 0, .int .i64 0, .int .i64 0, .int .i64 0, .int .i64 0, .int .i64 0, .int .i64 0] 71) rfl
  have hk : Kp [] w (((w.alloc (.cells #[.int .i64 s.u, .int .i64 s.p, .int .i64 s.fx, .int .i64 s.fy] 23)).alloc (.cells #[.int .i64 2, .int .i64 ax, .int .i64 ay, .int .i64 ak, .int .i64 bx, .int .i64 b_y, .int .i64 bk, .int .i64 cx, .int .i64 cy, .int .i64 ck, .int .i64 dx, .int .i64 dy, .int .i64 dk] 75)).alloc (.cells #[.int .i64 0, .int .i64 0, .int .i64 0, .int .i64 0, .int .i64 0, .int .i64 0, .int .i64 0, .int .i64 0, .int .i64 0] 71)) := by (repeat (first | exact Kp.refl _ _ | assumption | refine Kp.drew ?_ | refine Kp.drewN ?_ _ | refine Kp.alloc ?_ _ | (refine Kp.setCell ?_ (by first | (left; simp; done) | (right; simp; try omega)) _) | (refine Kp.trans' ?_ (by assumption) (by simp; try omega))))
  have hz : ((((w.alloc (.cells #[.int .i64 s.u, .int .i64 s.p, .int .i64 s.fx, .int .i64 s.fy] 23)).alloc (.cells #[.int .i64 2, .int .i64 ax, .int .i64 ay, .int .i64 ak, .int .i64 bx, .int .i64 b_y, .int .i64 bk, .int .i64 cx, .int .i64 cy, .int .i64 ck, .int .i64 dx, .int .i64 dy, .int .i64 dk] 75)).alloc (.cells #[.int .i64 0, .int .i64 0, .int .i64 0, .int .i64 0, .int .i64 0, .int .i64 0, .int .i64 0, .int .i64 0, .int .i64 0] 71))).heap.size = w.heap.size + 1 + 1 + 1 := by simp
  change ((((w.alloc (.cells #[.int .i64 s.u, .int .i64 s.p, .int .i64 s.fx, .int .i64 s.fy] 23)).alloc (.cells #[.int .i64 2, .int .i64 ax, .int .i64 ay, .int .i64 ak, .int .i64 bx, .int .i64 b_y, .int .i64 bk, .int .i64 cx, .int .i64 cy, .int .i64 ck, .int .i64 dx, .int .i64 dy, .int .i64 dk] 75)).alloc (.cells #[.int .i64 0, .int .i64 0, .int .i64 0, .int .i64 0, .int .i64 0, .int .i64 0, .int .i64 0, .int .i64 0, .int .i64 0] 71))).heap[w.heap.size]? = _ at q1
  change ((((w.alloc (.cells #[.int .i64 s.u, .int .i64 s.p, .int .i64 s.fx, .int .i64 s.fy] 23)).alloc (.cells #[.int .i64 2, .int .i64 ax, .int .i64 ay, .int .i64 ak, .int .i64 bx, .int .i64 b_y, .int .i64 bk, .int .i64 cx, .int .i64 cy, .int .i64 ck, .int .i64 dx, .int .i64 dy, .int .i64 dk] 75)).alloc (.cells #[.int .i64 0, .int .i64 0, .int .i64 0, .int .i64 0, .int .i64 0, .int .i64 0, .int .i64 0, .int .i64 0, .int .i64 0] 71))).heap[w.heap.size + 1]? = _ at q2
  change ((((w.alloc (.cells #[.int .i64 s.u, .int .i64 s.p, .int .i64 s.fx, .int .i64 s.fy] 23)).alloc (.cells #[.int .i64 2, .int .i64 ax, .int .i64 ay, .int .i64 ak, .int .i64 bx, .int .i64 b_y, .int .i64 bk, .int .i64 cx, .int .i64 cy, .int .i64 ck, .int .i64 dx, .int .i64 dy, .int .i64 dk] 75)).alloc (.cells #[.int .i64 0, .int .i64 0, .int .i64 0, .int .i64 0, .int .i64 0, .int .i64 0, .int .i64 0, .int .i64 0, .int .i64 0] 71))).heap[w.heap.size + 1 + 1]? = _ at q3
  generalize (((w.alloc (.cells #[.int .i64 s.u, .int .i64 s.p, .int .i64 s.fx, .int .i64 s.fy] 23)).alloc (.cells #[.int .i64 2, .int .i64 ax, .int .i64 ay, .int .i64 ak, .int .i64 bx, .int .i64 b_y, .int .i64 bk, .int .i64 cx, .int .i64 cy, .int .i64 ck, .int .i64 dx, .int .i64 dy, .int .i64 dk] 75)).alloc (.cells #[.int .i64 0, .int .i64 0, .int .i64 0, .int .i64 0, .int .i64 0, .int .i64 0, .int .i64 0, .int .i64 0, .int .i64 0] 71)) = W0 at *
  have HS : Hid (ScAt W0 w.heap.size s) := q1
  have HC : Hid (CvAt W0 (w.heap.size + 1) ⟨2, ⟨ax, ay, ak⟩, ⟨bx, b_y, bk⟩, ⟨cx, cy, ck⟩, ⟨dx, dy, dk⟩⟩) := q2
  have HR : Hid (BowAt W0 (w.heap.size + 1 + 1) bw0) := q3
  have HK := Lib.hid hk
  have HZ := Lib.hid hz
  clear hk hz q1 q2 q3
  obtain ⟨s0, s1, s2, s3⟩ := HS.out.cells
  obtain ⟨v0, v1, v2, v3, v4, v5, v6, v7, v8, v9, v10, v11, v12⟩ := HC.out.cells
  dsimp only at v0 v1 v2 v3 v4 v5 v6 v7 v8 v9 v10 v11 v12
  go_wp2_with fail
  refine (HD1.out _).mono ?_; rintro e x1 ⟨rfl, hk1⟩
  clear s0 s1 s2 s3 v0 v1 v2 v3 v4 v5 v6 v7 v8 v9 v10 v11 v12
  go_upto_region 2 with fail
  refine wp_gen ?_; intro W1 hW1
  obtain ⟨B1, hB1⟩ : ∃ B, x1.heap.size = B := ⟨_, rfl⟩
  have hka : Kp [] W0 W1 := by rw [hW1]; exact hk1.alloc _
  have HB1 : Hid (DtAt W1 B1 X1 Y1) := by show DtAt _ _ _ _; rw [hW1, ← hB1]; exact heap_alloc_new _ _
  have hl1 : w.heap.size + 1 + 1 + 1 ≤ B1 := by rw [← hB1]; have := hk1.size; have := HZ.out; omega
  replace HS : Hid (ScAt W1 w.heap.size s) := HS.out.kp0 hka
  replace HC : Hid (CvAt W1 (w.heap.size + 1) _) := HC.out.kp hka (by simp)
  replace HR : Hid (BowAt W1 (w.heap.size + 1 + 1) bw0) := HR.out.kp hka (by simp)
  replace HK : Hid (Kp [] w W1) := HK.out.trans hka
  rw [hB1]
  clear hW1 hB1 hka hk1 HD1
  obtain ⟨s0, s1, s2, s3⟩ := HS.out.cells
  obtain ⟨v0, v1, v2, v3, v4, v5, v6, v7, v8, v9, v10, v11, v12⟩ := HC.out.cells
  dsimp only at v0 v1 v2 v3 v4 v5 v6 v7 v8 v9 v10 v11 v12
  go_wp2_with fail
  refine (HD2.out _).mono ?_; rintro e x2 ⟨rfl, hk2⟩
  clear s0 s1 s2 s3 v0 v1 v2 v3 v4 v5 v6 v7 v8 v9 v10 v11 v12
  go_upto_region 3 with fail
  refine wp_gen ?_; intro W2 hW2
  obtain ⟨B2, hB2⟩ : ∃ B, x2.heap.size = B := ⟨_, rfl⟩
  have hka : Kp [] W1 W2 := by rw [hW2]; exact hk2.alloc _
  have HB2 : Hid (DtAt W2 B2 X2 Y2) := by show DtAt _ _ _ _; rw [hW2, ← hB2]; exact heap_alloc_new _ _
  have hl2 : B1 + 1 ≤ B2 := by rw [← hB2]; have := hk2.size; have := lt_of_block HB1.out; omega
  replace HS : Hid (ScAt W2 w.heap.size s) := HS.out.kp0 hka
  replace HC : Hid (CvAt W2 (w.heap.size + 1) _) := HC.out.kp hka (by simp)
  replace HR : Hid (BowAt W2 (w.heap.size + 1 + 1) bw0) := HR.out.kp hka (by simp)
  replace HK : Hid (Kp [] w W2) := HK.out.trans hka
  replace HB1 : Hid (DtAt W2 B1 X1 Y1) := HB1.out.kp0 hka
  rw [hB2]
  clear hW2 hB2 hka hk2 HD2
  obtain ⟨s0, s1, s2, s3⟩ := HS.out.cells
  obtain ⟨v0, v1, v2, v3, v4, v5, v6, v7, v8, v9, v10, v11, v12⟩ := HC.out.cells
  dsimp only at v0 v1 v2 v3 v4 v5 v6 v7 v8 v9 v10 v11 v12
  go_wp2_with fail
  refine (HD3.out _).mono ?_; rintro e x3 ⟨rfl, hk3⟩
  clear s0 s1 s2 s3 v0 v1 v2 v3 v4 v5 v6 v7 v8 v9 v10 v11 v12
  go_upto_region 4 with fail
  refine wp_gen ?_; intro W3 hW3
  obtain ⟨B3, hB3⟩ : ∃ B, x3.heap.size = B := ⟨_, rfl⟩
  have hka : Kp [] W2 W3 := by rw [hW3]; exact hk3.alloc _
  have HB3 : Hid (DtAt W3 B3 X3 Y3) := by show DtAt _ _ _ _; rw [hW3, ← hB3]; exact heap_alloc_new _ _
  have hl3 : B2 + 1 ≤ B3 := by rw [← hB3]; have := hk3.size; have := lt_of_block HB2.out; omega
  replace HS : Hid (ScAt W3 w.heap.size s) := HS.out.kp0 hka
  replace HC : Hid (CvAt W3 (w.heap.size + 1) _) := HC.out.kp hka (by simp)
  replace HR : Hid (BowAt W3 (w.heap.size + 1 + 1) bw0) := HR.out.kp hka (by simp)
  replace HK : Hid (Kp [] w W3) := HK.out.trans hka
  replace HB1 : Hid (DtAt W3 B1 X1 Y1) := HB1.out.kp0 hka
  replace HB2 : Hid (DtAt W3 B2 X2 Y2) := HB2.out.kp0 hka
  rw [hB3]
  clear hW3 hB3 hka hk3 HD3
  obtain ⟨s0, s1, s2, s3⟩ := HS.out.cells
  obtain ⟨v0, v1, v2, v3, v4, v5, v6, v7, v8, v9, v10, v11, v12⟩ := HC.out.cells
  dsimp only at v0 v1 v2 v3 v4 v5 v6 v7 v8 v9 v10 v11 v12
  go_wp2_with fail
  refine (HD4.out _).mono ?_; rintro e x4 ⟨rfl, hk4⟩
  clear s0 s1 s2 s3 v0 v1 v2 v3 v4 v5 v6 v7 v8 v9 v10 v11 v12
  go_upto_region 5 with fail
  refine wp_gen ?_; intro W4 hW4
  obtain ⟨B4, hB4⟩ : ∃ B, x4.heap.size = B := ⟨_, rfl⟩
  have hka : Kp [] W3 W4 := by rw [hW4]; exact hk4.alloc _
  have HB4 : Hid (DtAt W4 B4 X4 Y4) := by show DtAt _ _ _ _; rw [hW4, ← hB4]; exact heap_alloc_new _ _
  have hl4 : B3 + 1 ≤ B4 := by rw [← hB4]; have := hk4.size; have := lt_of_block HB3.out; omega
  replace HS : Hid (ScAt W4 w.heap.size s) := HS.out.kp0 hka
  replace HC : Hid (CvAt W4 (w.heap.size + 1) _) := HC.out.kp hka (by simp)
  replace HR : Hid (BowAt W4 (w.heap.size + 1 + 1) bw0) := HR.out.kp hka (by simp)
  replace HK : Hid (Kp [] w W4) := HK.out.trans hka
  replace HB1 : Hid (DtAt W4 B1 X1 Y1) := HB1.out.kp0 hka
  replace HB2 : Hid (DtAt W4 B2 X2 Y2) := HB2.out.kp0 hka
  replace HB3 : Hid (DtAt W4 B3 X3 Y3) := HB3.out.kp0 hka
  rw [hB4]
  clear hW4 hB4 hka hk4 HD4
  have hc0 := HC.out.cells.1
  dsimp only at hc0
  obtain ⟨d30, d31, d32, d33⟩ := HB3.out.cells
  go_upto_region 9 with fail
  clear hc0 d30 d31 d32 d33
  refine wp_gen ?_; intro W5 hW5
  replace HC : Hid (CvAt W5 (w.heap.size + 1) ⟨2, ⟨ax, ay, ak⟩, ⟨bx, b_y, bk⟩, ⟨cx, cy, ck⟩, ⟨dx, dy, dk⟩⟩) := by show CvAt _ _ _; rw [hW5]; exact ((HC.out).far (p := ⟨B3, 0, none⟩) (by show w.heap.size + 1 ≠ B3; omega) (.int .i64 0)).far (p := ⟨B3, 1, none⟩) (by show w.heap.size + 1 ≠ B3; omega) (.int .i64 0)
  replace HR : Hid (BowAt W5 (w.heap.size + 1 + 1) bw0) := by show BowAt _ _ _; rw [hW5]; exact ((HR.out).far (p := ⟨B3, 0, none⟩) (by show w.heap.size + 1 + 1 ≠ B3; omega) (.int .i64 0)).far (p := ⟨B3, 1, none⟩) (by show w.heap.size + 1 + 1 ≠ B3; omega) (.int .i64 0)
  replace HB1 : Hid (DtAt W5 B1 X1 Y1) := by show DtAt _ _ _ _; rw [hW5]; exact ((HB1.out).far (p := ⟨B3, 0, none⟩) (by show B1 ≠ B3; omega) (.int .i64 0)).far (p := ⟨B3, 1, none⟩) (by show B1 ≠ B3; omega) (.int .i64 0)
  replace HB4 : Hid (DtAt W5 B4 X4 Y4) := by show DtAt _ _ _ _; rw [hW5]; exact ((HB4.out).far (p := ⟨B3, 0, none⟩) (by show B4 ≠ B3; omega) (.int .i64 0)).far (p := ⟨B3, 1, none⟩) (by show B4 ≠ B3; omega) (.int .i64 0)
  replace HB2 : Hid (DtAt W5 B2 X2 Y2) := by show DtAt _ _ _ _; rw [hW5]; exact ((HB2.out).far (p := ⟨B3, 0, none⟩) (by show B2 ≠ B3; omega) (.int .i64 0)).far (p := ⟨B3, 1, none⟩) (by show B2 ≠ B3; omega) (.int .i64 0)
  replace HB3 : Hid (DtAt W5 B3 0 0) := by show DtAt _ _ _ _; rw [hW5]; exact HB3.out.set 0 0
  replace HK : Hid (Kp [] w W5) := by show Kp _ _ _; rw [hW5]; exact ((HK.out.setCell (p := ⟨B3, 0, none⟩) (.inr (by show _ ≤ B3; omega)) (.int .i64 0)).setCell (p := ⟨B3, 1, none⟩) (.inr (by show _ ≤ B3; omega)) (.int .i64 0))
  clear hW5 HS
  have hc0 := HC.out.cells.1
  dsimp only at hc0
  go_upto_region 10 with fail
  clear hc0
  obtain ⟨y0, y1, y2, y3, y4, y5, y6, y7, y8⟩ := HR.out.cells
  dsimp only [bw0] at y0 y1 y2 y3 y4 y5 y6 y7 y8
  have g0 := HR.out.frozen 0
  have g1 := HR.out.frozen 1
  have g2 := HR.out.frozen 2
  have g3 := HR.out.frozen 3
  have g4 := HR.out.frozen 4
  have g5 := HR.out.frozen 5
  have g6 := HR.out.frozen 6
  have g7 := HR.out.frozen 7
  have g8 := HR.out.frozen 8
  have HFN := Lib.hid (HR.out.put9 bw0)
  have HFK := Lib.hid (put9_kp (B := w.heap.size + 1 + 1) HK.out (by omega) bw0)
  go_wp2_with fail
  obtain ⟨z0, z1, z2, z3, z4, z5, z6, z7, z8⟩ := HFN.out.cells
  unfold put9 bw0 at z0 z1 z2 z3 z4 z5 z6 z7 z8
  dsimp only at z0 z1 z2 z3 z4 z5 z6 z7 z8
  refine bodyPost_ret (v := .tuple #[bowV bw0, .int .i64 10]) (by simp [results, Try.results41, go_sem, bowV, bw0, z0, z1, z2, z3, z4, z5, z6, z7, z8]) rfl ⟨rfl, HFK.out⟩
set_option maxRecDepth 100000 in
set_option maxHeartbeats 8000000 in
theorem rbow_2_e2 (s : Sc) (ax ay ak bx b_y bk cx cy ck dx dy dk : Int) (hs : mayS s = true) (h1 : (dotP s ⟨ax, ay, ak⟩).2 = 0) (h4 : (dotP s ⟨dx, dy, dk⟩).2 = 10) (w : World) : Calls Try.prog 41 #[scV s, cvV ⟨2, ⟨ax, ay, ak⟩, ⟨bx, b_y, bk⟩, ⟨cx, cy, ck⟩, ⟨dx, dy, dk⟩⟩] w fun r w' => r = .returned (.tuple #[bowV bw0, .int .i64 10]) ∧ Kp [] w w' := by
  have HD1 := Lib.hid (fun W => rfdot_calls s ⟨ax, ay, ak⟩ hs W)
  have HD2 := Lib.hid (fun W => rfdot_calls s ⟨bx, b_y, bk⟩ hs W)
  have HD3 := Lib.hid (fun W => rfdot_calls s ⟨cx, cy, ck⟩ hs W)
  have HD4 := Lib.hid (fun W => rfdot_calls s ⟨dx, dy, dk⟩ hs W)
  rw [h1] at HD1
  rw [h4] at HD4
  clear h1 h4
  obtain ⟨⟨X1, Y1⟩, hX1⟩ : ∃ q, (dotP s ⟨ax, ay, ak⟩).1 = q := ⟨_, rfl⟩
  rw [hX1] at HD1
  clear hX1
  obtain ⟨⟨⟨X2, Y2⟩, E2⟩, hX2⟩ : ∃ q, dotP s ⟨bx, b_y, bk⟩ = q := ⟨_, rfl⟩
  rw [hX2] at HD2
  clear hX2
  obtain ⟨⟨⟨X3, Y3⟩, E3⟩, hX3⟩ : ∃ q, dotP s ⟨cx, cy, ck⟩ = q := ⟨_, rfl⟩
  rw [hX3] at HD3
  clear hX3
  obtain ⟨⟨X4, Y4⟩, hX4⟩ : ∃ q, (dotP s ⟨dx, dy, dk⟩).1 = q := ⟨_, rfl⟩
  rw [hX4] at HD4
  clear hX4
  dsimp only [dotV] at HD1 HD2 HD3 HD4
  rw [show cvV ⟨2, ⟨ax, ay, ak⟩, ⟨bx, b_y, bk⟩, ⟨cx, cy, ck⟩, ⟨dx, dy, dk⟩⟩ = .agg #[.int .i64 2, .int .i64 ax, .int .i64 ay, .int .i64 ak, .int .i64 bx, .int .i64 b_y, .int .i64 bk, .int .i64 cx, .int .i64 cy, .int .i64 ck, .int .i64 dx, .int .i64 dy, .int .i64 dk] from rfl]
  clear hs
  rw [show scV s = .agg #[.int .i64 s.u, .int .i64 s.p, .int .i64 s.fx, .int .i64 s.fy] from rfl] at *
  go_enter Try.func41, Try.ntmps41
  go_wp2_with fail
  obtain ⟨q1, q2, q3⟩ := three_heap (w := w) (A := .cells #[.int .i64 s.u, .int .i64 s.p, .int .i64 s.fx, .int .i64 s.fy] 23) (B := .cells (cvCells ⟨2, ⟨ax, ay, ak⟩, ⟨bx, b_y, bk⟩, ⟨cx, cy, ck⟩, ⟨dx, dy, dk⟩⟩) 75) (C := .cells #[.int .i64 0, .int .i64 0, .int .i64 0, .int .i64 0, .int .i64 0, .int .i64 0, .int .i64 0, .int .i64 0, .int .i64 0] 71) rfl
  have hk : Kp [] w (((w.alloc (.cells #[.int .i64 s.u, .int .i64 s.p, .int .i64 s.fx, .int .i64 s.fy] 23)).alloc (.cells #[.int .i64 2, .int .i64 ax, .int .i64 ay, .int .i64 ak, .int .i64 bx, .int .i64 b_y, .int .i64 bk, .int .i64 cx, .int .i64 cy, .int .i64 ck, .int .i64 dx, .int .i64 dy, .int .i64 dk] 75)).alloc (.cells #[.int .i64 0, .int .i64 0, .int .i64 0, .int .i64 0, .int .i64 0, .int .i64 0, .int .i64 0, .int .i64 0, .int .i64 0] 71)) := by (repeat (first | exact Kp.refl _ _ | assumption | refine Kp.drew ?_ | refine Kp.drewN ?_ _ | refine Kp.alloc ?_ _ | (refine Kp.setCell ?_ (by first | (left; simp; done) | (right; simp; try omega)) _) | (refine Kp.trans' ?_ (by assumption) (by simp; try omega))))
  have hz : ((((w.alloc (.cells #[.int .i64 s.u, .int .i64 s.p, .int .i64 s.fx, .int .i64 s.fy] 23)).alloc (.cells #[.int .i64 2, .int .i64 ax, .int .i64 ay, .int .i64 ak, .int .i64 bx, .int .i64 b_y, .int .i64 bk, .int .i64 cx, .int .i64 cy, .int .i64 ck, .int .i64 dx, .int .i64 dy, .int .i64 dk] 75)).alloc (.cells #[.int .i64 0, .int .i64 0, .int .i64 0, .int .i64 0, .int .i64 0, .int .i64 0, .int .i64 0, .int .i64 0, .int .i64 0] 71))).heap.size = w.heap.size + 1 + 1 + 1 := by simp
  change ((((w.alloc (.cells #[.int .i64 s.u, .int .i64 s.p, .int .i64 s.fx, .int .i64 s.fy] 23)).alloc (.cells #[.int .i64 2, .int .i64 ax, .int .i64 ay, .int .i64 ak, .int .i64 bx, .int .i64 b_y, .int .i64 bk, .int .i64 cx, .int .i64 cy, .int .i64 ck, .int .i64 dx, .int .i64 dy, .int .i64 dk] 75)).alloc (.cells #[.int .i64 0, .int .i64 0, .int .i64 0, .int .i64 0, .int .i64 0, .int .i64 0, .int .i64 0, .int .i64 0, .int .i64 0] 71))).heap[w.heap.size]? = _ at q1
  change ((((w.alloc (.cells #[.int .i64 s.u, .int .i64 s.p, .int .i64 s.fx, .int .i64 s.fy] 23)).alloc (.cells #[.int .i64 2, .int .i64 ax, .int .i64 ay, .int .i64 ak, .int .i64 bx, .int .i64 b_y, .int .i64 bk, .int .i64 cx, .int .i64 cy, .int .i64 ck, .int .i64 dx, .int .i64 dy, .int .i64 dk] 75)).alloc (.cells #[.int .i64 0, .int .i64 0, .int .i64 0, .int .i64 0, .int .i64 0, .int .i64 0, .int .i64 0, .int .i64 0, .int .i64 0] 71))).heap[w.heap.size + 1]? = _ at q2
  change ((((w.alloc (.cells #[.int .i64 s.u, .int .i64 s.p, .int .i64 s.fx, .int .i64 s.fy] 23)).alloc (.cells #[.int .i64 2, .int .i64 ax, .int .i64 ay, .int .i64 ak, .int .i64 bx, .int .i64 b_y, .int .i64 bk, .int .i64 cx, .int .i64 cy, .int .i64 ck, .int .i64 dx, .int .i64 dy, .int .i64 dk] 75)).alloc (.cells #[.int .i64 0, .int .i64 0, .int .i64 0, .int .i64 0, .int .i64 0, .int .i64 0, .int .i64 0, .int .i64 0, .int .i64 0] 71))).heap[w.heap.size + 1 + 1]? = _ at q3
  generalize (((w.alloc (.cells #[.int .i64 s.u, .int .i64 s.p, .int .i64 s.fx, .int .i64 s.fy] 23)).alloc (.cells #[.int .i64 2, .int .i64 ax, .int .i64 ay, .int .i64 ak, .int .i64 bx, .int .i64 b_y, .int .i64 bk, .int .i64 cx, .int .i64 cy, .int .i64 ck, .int .i64 dx, .int .i64 dy, .int .i64 dk] 75)).alloc (.cells #[.int .i64 0, .int .i64 0, .int .i64 0, .int .i64 0, .int .i64 0, .int .i64 0, .int .i64 0, .int .i64 0, .int .i64 0] 71)) = W0 at *
  have HS : Hid (ScAt W0 w.heap.size s) := q1
  have HC : Hid (CvAt W0 (w.heap.size + 1) ⟨2, ⟨ax, ay, ak⟩, ⟨bx, b_y, bk⟩, ⟨cx, cy, ck⟩, ⟨dx, dy, dk⟩⟩) := q2
  have HR : Hid (BowAt W0 (w.heap.size + 1 + 1) bw0) := q3
  have HK := Lib.hid hk
  have HZ := Lib.hid hz
  clear hk hz q1 q2 q3
  obtain ⟨s0, s1, s2, s3⟩ := HS.out.cells
  obtain ⟨v0, v1, v2, v3, v4, v5, v6, v7, v8, v9, v10, v11, v12⟩ := HC.out.cells
  dsimp only at v0 v1 v2 v3 v4 v5 v6 v7 v8 v9 v10 v11 v12
  go_wp2_with fail
  refine (HD1.out _).mono ?_; rintro e x1 ⟨rfl, hk1⟩
  clear s0 s1 s2 s3 v0 v1 v2 v3 v4 v5 v6 v7 v8 v9 v10 v11 v12
  go_upto_region 2 with fail
  refine wp_gen ?_; intro W1 hW1
  obtain ⟨B1, hB1⟩ : ∃ B, x1.heap.size = B := ⟨_, rfl⟩
  have hka : Kp [] W0 W1 := by rw [hW1]; exact hk1.alloc _
  have HB1 : Hid (DtAt W1 B1 X1 Y1) := by show DtAt _ _ _ _; rw [hW1, ← hB1]; exact heap_alloc_new _ _
  have hl1 : w.heap.size + 1 + 1 + 1 ≤ B1 := by rw [← hB1]; have := hk1.size; have := HZ.out; omega
  replace HS : Hid (ScAt W1 w.heap.size s) := HS.out.kp0 hka
  replace HC : Hid (CvAt W1 (w.heap.size + 1) _) := HC.out.kp hka (by simp)
  replace HR : Hid (BowAt W1 (w.heap.size + 1 + 1) bw0) := HR.out.kp hka (by simp)
  replace HK : Hid (Kp [] w W1) := HK.out.trans hka
  rw [hB1]
  clear hW1 hB1 hka hk1 HD1
  obtain ⟨s0, s1, s2, s3⟩ := HS.out.cells
  obtain ⟨v0, v1, v2, v3, v4, v5, v6, v7, v8, v9, v10, v11, v12⟩ := HC.out.cells
  dsimp only at v0 v1 v2 v3 v4 v5 v6 v7 v8 v9 v10 v11 v12
  go_wp2_with fail
  refine (HD2.out _).mono ?_; rintro e x2 ⟨rfl, hk2⟩
  clear s0 s1 s2 s3 v0 v1 v2 v3 v4 v5 v6 v7 v8 v9 v10 v11 v12
  go_upto_region 3 with fail
  refine wp_gen ?_; intro W2 hW2
  obtain ⟨B2, hB2⟩ : ∃ B, x2.heap.size = B := ⟨_, rfl⟩
  have hka : Kp [] W1 W2 := by rw [hW2]; exact hk2.alloc _
  have HB2 : Hid (DtAt W2 B2 X2 Y2) := by show DtAt _ _ _ _; rw [hW2, ← hB2]; exact heap_alloc_new _ _
  have hl2 : B1 + 1 ≤ B2 := by rw [← hB2]; have := hk2.size; have := lt_of_block HB1.out; omega
  replace HS : Hid (ScAt W2 w.heap.size s) := HS.out.kp0 hka
  replace HC : Hid (CvAt W2 (w.heap.size + 1) _) := HC.out.kp hka (by simp)
  replace HR : Hid (BowAt W2 (w.heap.size + 1 + 1) bw0) := HR.out.kp hka (by simp)
  replace HK : Hid (Kp [] w W2) := HK.out.trans hka
  replace HB1 : Hid (DtAt W2 B1 X1 Y1) := HB1.out.kp0 hka
  rw [hB2]
  clear hW2 hB2 hka hk2 HD2
  obtain ⟨s0, s1, s2, s3⟩ := HS.out.cells
  obtain ⟨v0, v1, v2, v3, v4, v5, v6, v7, v8, v9, v10, v11, v12⟩ := HC.out.cells
  dsimp only at v0 v1 v2 v3 v4 v5 v6 v7 v8 v9 v10 v11 v12
  go_wp2_with fail
  refine (HD3.out _).mono ?_; rintro e x3 ⟨rfl, hk3⟩
  clear s0 s1 s2 s3 v0 v1 v2 v3 v4 v5 v6 v7 v8 v9 v10 v11 v12
  go_upto_region 4 with fail
  refine wp_gen ?_; intro W3 hW3
  obtain ⟨B3, hB3⟩ : ∃ B, x3.heap.size = B := ⟨_, rfl⟩
  have hka : Kp [] W2 W3 := by rw [hW3]; exact hk3.alloc _
  have HB3 : Hid (DtAt W3 B3 X3 Y3) := by show DtAt _ _ _ _; rw [hW3, ← hB3]; exact heap_alloc_new _ _
  have hl3 : B2 + 1 ≤ B3 := by rw [← hB3]; have := hk3.size; have := lt_of_block HB2.out; omega
  replace HS : Hid (ScAt W3 w.heap.size s) := HS.out.kp0 hka
  replace HC : Hid (CvAt W3 (w.heap.size + 1) _) := HC.out.kp hka (by simp)
  replace HR : Hid (BowAt W3 (w.heap.size + 1 + 1) bw0) := HR.out.kp hka (by simp)
  replace HK : Hid (Kp [] w W3) := HK.out.trans hka
  replace HB1 : Hid (DtAt W3 B1 X1 Y1) := HB1.out.kp0 hka
  replace HB2 : Hid (DtAt W3 B2 X2 Y2) := HB2.out.kp0 hka
  rw [hB3]
  clear hW3 hB3 hka hk3 HD3
  obtain ⟨s0, s1, s2, s3⟩ := HS.out.cells
  obtain ⟨v0, v1, v2, v3, v4, v5, v6, v7, v8, v9, v10, v11, v12⟩ := HC.out.cells
  dsimp only at v0 v1 v2 v3 v4 v5 v6 v7 v8 v9 v10 v11 v12
  go_wp2_with fail
  refine (HD4.out _).mono ?_; rintro e x4 ⟨rfl, hk4⟩
  clear s0 s1 s2 s3 v0 v1 v2 v3 v4 v5 v6 v7 v8 v9 v10 v11 v12
  go_upto_region 5 with fail
  refine wp_gen ?_; intro W4 hW4
  obtain ⟨B4, hB4⟩ : ∃ B, x4.heap.size = B := ⟨_, rfl⟩
  have hka : Kp [] W3 W4 := by rw [hW4]; exact hk4.alloc _
  have HB4 : Hid (DtAt W4 B4 X4 Y4) := by show DtAt _ _ _ _; rw [hW4, ← hB4]; exact heap_alloc_new _ _
  have hl4 : B3 + 1 ≤ B4 := by rw [← hB4]; have := hk4.size; have := lt_of_block HB3.out; omega
  replace HS : Hid (ScAt W4 w.heap.size s) := HS.out.kp0 hka
  replace HC : Hid (CvAt W4 (w.heap.size + 1) _) := HC.out.kp hka (by simp)
  replace HR : Hid (BowAt W4 (w.heap.size + 1 + 1) bw0) := HR.out.kp hka (by simp)
  replace HK : Hid (Kp [] w W4) := HK.out.trans hka
  replace HB1 : Hid (DtAt W4 B1 X1 Y1) := HB1.out.kp0 hka
  replace HB2 : Hid (DtAt W4 B2 X2 Y2) := HB2.out.kp0 hka
  replace HB3 : Hid (DtAt W4 B3 X3 Y3) := HB3.out.kp0 hka
  rw [hB4]
  clear hW4 hB4 hka hk4 HD4
  have hc0 := HC.out.cells.1
  dsimp only at hc0
  obtain ⟨d30, d31, d32, d33⟩ := HB3.out.cells
  go_upto_region 9 with fail
  clear hc0 d30 d31 d32 d33
  refine wp_gen ?_; intro W5 hW5
  replace HC : Hid (CvAt W5 (w.heap.size + 1) ⟨2, ⟨ax, ay, ak⟩, ⟨bx, b_y, bk⟩, ⟨cx, cy, ck⟩, ⟨dx, dy, dk⟩⟩) := by show CvAt _ _ _; rw [hW5]; exact ((HC.out).far (p := ⟨B3, 0, none⟩) (by show w.heap.size + 1 ≠ B3; omega) (.int .i64 0)).far (p := ⟨B3, 1, none⟩) (by show w.heap.size + 1 ≠ B3; omega) (.int .i64 0)
  replace HR : Hid (BowAt W5 (w.heap.size + 1 + 1) bw0) := by show BowAt _ _ _; rw [hW5]; exact ((HR.out).far (p := ⟨B3, 0, none⟩) (by show w.heap.size + 1 + 1 ≠ B3; omega) (.int .i64 0)).far (p := ⟨B3, 1, none⟩) (by show w.heap.size + 1 + 1 ≠ B3; omega) (.int .i64 0)
  replace HB1 : Hid (DtAt W5 B1 X1 Y1) := by show DtAt _ _ _ _; rw [hW5]; exact ((HB1.out).far (p := ⟨B3, 0, none⟩) (by show B1 ≠ B3; omega) (.int .i64 0)).far (p := ⟨B3, 1, none⟩) (by show B1 ≠ B3; omega) (.int .i64 0)
  replace HB4 : Hid (DtAt W5 B4 X4 Y4) := by show DtAt _ _ _ _; rw [hW5]; exact ((HB4.out).far (p := ⟨B3, 0, none⟩) (by show B4 ≠ B3; omega) (.int .i64 0)).far (p := ⟨B3, 1, none⟩) (by show B4 ≠ B3; omega) (.int .i64 0)
  replace HB2 : Hid (DtAt W5 B2 X2 Y2) := by show DtAt _ _ _ _; rw [hW5]; exact ((HB2.out).far (p := ⟨B3, 0, none⟩) (by show B2 ≠ B3; omega) (.int .i64 0)).far (p := ⟨B3, 1, none⟩) (by show B2 ≠ B3; omega) (.int .i64 0)
  replace HB3 : Hid (DtAt W5 B3 0 0) := by show DtAt _ _ _ _; rw [hW5]; exact HB3.out.set 0 0
  replace HK : Hid (Kp [] w W5) := by show Kp _ _ _; rw [hW5]; exact ((HK.out.setCell (p := ⟨B3, 0, none⟩) (.inr (by show _ ≤ B3; omega)) (.int .i64 0)).setCell (p := ⟨B3, 1, none⟩) (.inr (by show _ ≤ B3; omega)) (.int .i64 0))
  clear hW5 HS
  have hc0 := HC.out.cells.1
  dsimp only at hc0
  go_upto_region 10 with fail
  clear hc0
  obtain ⟨y0, y1, y2, y3, y4, y5, y6, y7, y8⟩ := HR.out.cells
  dsimp only [bw0] at y0 y1 y2 y3 y4 y5 y6 y7 y8
  have g0 := HR.out.frozen 0
  have g1 := HR.out.frozen 1
  have g2 := HR.out.frozen 2
  have g3 := HR.out.frozen 3
  have g4 := HR.out.frozen 4
  have g5 := HR.out.frozen 5
  have g6 := HR.out.frozen 6
  have g7 := HR.out.frozen 7
  have g8 := HR.out.frozen 8
  have HFN := Lib.hid (HR.out.put9 bw0)
  have HFK := Lib.hid (put9_kp (B := w.heap.size + 1 + 1) HK.out (by omega) bw0)
  go_wp2_with fail
  obtain ⟨z0, z1, z2, z3, z4, z5, z6, z7, z8⟩ := HFN.out.cells
  unfold put9 bw0 at z0 z1 z2 z3 z4 z5 z6 z7 z8
  dsimp only at z0 z1 z2 z3 z4 z5 z6 z7 z8
  refine bodyPost_ret (v := .tuple #[bowV bw0, .int .i64 10]) (by simp [results, Try.results41, go_sem, bowV, bw0, z0, z1, z2, z3, z4, z5, z6, z7, z8]) rfl ⟨rfl, HFK.out⟩
set_option maxRecDepth 100000 in
set_option maxHeartbeats 8000000 in
theorem rbow_2_e3 (s : Sc) (ax ay ak bx b_y bk cx cy ck dx dy dk : Int) (hs : mayS s = true) (h1 : (dotP s ⟨ax, ay, ak⟩).2 = 0) (h4 : (dotP s ⟨dx, dy, dk⟩).2 = 0) (h2 : (dotP s ⟨bx, b_y, bk⟩).2 = 10) (w : World) : Calls Try.prog 41 #[scV s, cvV ⟨2, ⟨ax, ay, ak⟩, ⟨bx, b_y, bk⟩, ⟨cx, cy, ck⟩, ⟨dx, dy, dk⟩⟩] w fun r w' => r = .returned (.tuple #[bowV bw0, .int .i64 10]) ∧ Kp [] w w' := by
  have HD1 := Lib.hid (fun W => rfdot_calls s ⟨ax, ay, ak⟩ hs W)
  have HD2 := Lib.hid (fun W => rfdot_calls s ⟨bx, b_y, bk⟩ hs W)
  have HD3 := Lib.hid (fun W => rfdot_calls s ⟨cx, cy, ck⟩ hs W)
  have HD4 := Lib.hid (fun W => rfdot_calls s ⟨dx, dy, dk⟩ hs W)
  rw [h1] at HD1
  rw [h4] at HD4
  rw [h2] at HD2
  clear h1 h4 h2
  obtain ⟨⟨X1, Y1⟩, hX1⟩ : ∃ q, (dotP s ⟨ax, ay, ak⟩).1 = q := ⟨_, rfl⟩
  rw [hX1] at HD1
  clear hX1
  obtain ⟨⟨X2, Y2⟩, hX2⟩ : ∃ q, (dotP s ⟨bx, b_y, bk⟩).1 = q := ⟨_, rfl⟩
  rw [hX2] at HD2
  clear hX2
  obtain ⟨⟨⟨X3, Y3⟩, E3⟩, hX3⟩ : ∃ q, dotP s ⟨cx, cy, ck⟩ = q := ⟨_, rfl⟩
  rw [hX3] at HD3
  clear hX3
  obtain ⟨⟨X4, Y4⟩, hX4⟩ : ∃ q, (dotP s ⟨dx, dy, dk⟩).1 = q := ⟨_, rfl⟩
  rw [hX4] at HD4
  clear hX4
  dsimp only [dotV] at HD1 HD2 HD3 HD4
  rw [show cvV ⟨2, ⟨ax, ay, ak⟩, ⟨bx, b_y, bk⟩, ⟨cx, cy, ck⟩, ⟨dx, dy, dk⟩⟩ = .agg #[.int .i64 2, .int .i64 ax, .int .i64 ay, .int .i64 ak, .int .i64 bx, .int .i64 b_y, .int .i64 bk, .int .i64 cx, .int .i64 cy, .int .i64 ck, .int .i64 dx, .int .i64 dy, .int .i64 dk] from rfl]
  clear hs
  rw [show scV s = .agg #[.int .i64 s.u, .int .i64 s.p, .int .i64 s.fx, .int .i64 s.fy] from rfl] at *
  go_enter Try.func41, Try.ntmps41
  go_wp2_with fail
  obtain ⟨q1, q2, q3⟩ := three_heap (w := w) (A := .cells #[.int .i64 s.u, .int .i64 s.p, .int .i64 s.fx, .int .i64 s.fy] 23) (B := .cells (cvCells ⟨2, ⟨ax, ay, ak⟩, ⟨bx, b_y, bk⟩, ⟨cx, cy, ck⟩, ⟨dx, dy, dk⟩⟩) 75) (C := .cells #[.int .i64 0, .int .i64 0, .int .i64 0, .int .i64 0, .int .i64 0, .int .i64 0, .int .i64 0, .int .i64 0, .int .i64 0] 71) rfl
  have hk : Kp [] w (((w.alloc (.cells #[.int .i64 s.u, .int .i64 s.p, .int .i64 s.fx, .int .i64 s.fy] 23)).alloc (.cells #[.int .i64 2, .int .i64 ax, .int .i64 ay, .int .i64 ak, .int .i64 bx, .int .i64 b_y, .int .i64 bk, .int .i64 cx, .int .i64 cy, .int .i64 ck, .int .i64 dx, .int .i64 dy, .int .i64 dk] 75)).alloc (.cells #[.int .i64 0, .int .i64 0, .int .i64 0, .int .i64 0, .int .i64 0, .int .i64 0, .int .i64 0, .int .i64 0, .int .i64 0] 71)) := by (repeat (first | exact Kp.refl _ _ | assumption | refine Kp.drew ?_ | refine Kp.drewN ?_ _ | refine Kp.alloc ?_ _ | (refine Kp.setCell ?_ (by first | (left; simp; done) | (right; simp; try omega)) _) | (refine Kp.trans' ?_ (by assumption) (by simp; try omega))))
  have hz : ((((w.alloc (.cells #[.int .i64 s.u, .int .i64 s.p, .int .i64 s.fx, .int .i64 s.fy] 23)).alloc (.cells #[.int .i64 2, .int .i64 ax, .int .i64 ay, .int .i64 ak, .int .i64 bx, .int .i64 b_y, .int .i64 bk, .int .i64 cx, .int .i64 cy, .int .i64 ck, .int .i64 dx, .int .i64 dy, .int .i64 dk] 75)).alloc (.cells #[.int .i64 0, .int .i64 0, .int .i64 0, .int .i64 0, .int .i64 0, .int .i64 0, .int .i64 0, .int .i64 0, .int .i64 0] 71))).heap.size = w.heap.size + 1 + 1 + 1 := by simp
  change ((((w.alloc (.cells #[.int .i64 s.u, .int .i64 s.p, .int .i64 s.fx, .int .i64 s.fy] 23)).alloc (.cells #[.int .i64 2, .int .i64 ax, .int .i64 ay, .int .i64 ak, .int .i64 bx, .int .i64 b_y, .int .i64 bk, .int .i64 cx, .int .i64 cy, .int .i64 ck, .int .i64 dx, .int .i64 dy, .int .i64 dk] 75)).alloc (.cells #[.int .i64 0, .int .i64 0, .int .i64 0, .int .i64 0, .int .i64 0, .int .i64 0, .int .i64 0, .int .i64 0, .int .i64 0] 71))).heap[w.heap.size]? = _ at q1
  change ((((w.alloc (.cells #[.int .i64 s.u, .int .i64 s.p, .int .i64 s.fx, .int .i64 s.fy] 23)).alloc (.cells #[.int .i64 2, .int .i64 ax, .int .i64 ay, .int .i64 ak, .int .i64 bx, .int .i64 b_y, .int .i64 bk, .int .i64 cx, .int .i64 cy, .int .i64 ck, .int .i64 dx, .int .i64 dy, .int .i64 dk] 75)).alloc (.cells #[.int .i64 0, .int .i64 0, .int .i64 0, .int .i64 0, .int .i64 0, .int .i64 0, .int .i64 0, .int .i64 0, .int .i64 0] 71))).heap[w.heap.size + 1]? = _ at q2
  change ((((w.alloc (.cells #[.int .i64 s.u, .int .i64 s.p, .int .i64 s.fx, .int .i64 s.fy] 23)).alloc (.cells #[.int .i64 2, .int .i64 ax, .int .i64 ay, .int .i64 ak, .int .i64 bx, .int .i64 b_y, .int .i64 bk, .int .i64 cx, .int .i64 cy, .int .i64 ck, .int .i64 dx, .int .i64 dy, .int .i64 dk] 75)).alloc (.cells #[.int .i64 0, .int .i64 0, .int .i64 0, .int .i64 0, .int .i64 0, .int .i64 0, .int .i64 0, .int .i64 0, .int .i64 0] 71))).heap[w.heap.size + 1 + 1]? = _ at q3
  generalize (((w.alloc (.cells #[.int .i64 s.u, .int .i64 s.p, .int .i64 s.fx, .int .i64 s.fy] 23)).alloc (.cells #[.int .i64 2, .int .i64 ax, .int .i64 ay, .int .i64 ak, .int .i64 bx, .int .i64 b_y, .int .i64 bk, .int .i64 cx, .int .i64 cy, .int .i64 ck, .int .i64 dx, .int .i64 dy, .int .i64 dk] 75)).alloc (.cells #[.int .i64 0, .int .i64 0, .int .i64 0, .int .i64 0, .int .i64 0, .int .i64 0, .int .i64 0, .int .i64 0, .int .i64 0] 71)) = W0 at *
  have HS : Hid (ScAt W0 w.heap.size s) := q1
  have HC : Hid (CvAt W0 (w.heap.size + 1) ⟨2, ⟨ax, ay, ak⟩, ⟨bx, b_y, bk⟩, ⟨cx, cy, ck⟩, ⟨dx, dy, dk⟩⟩) := q2
  have HR : Hid (BowAt W0 (w.heap.size + 1 + 1) bw0) := q3
  have HK := Lib.hid hk
  have HZ := Lib.hid hz
  clear hk hz q1 q2 q3
  obtain ⟨s0, s1, s2, s3⟩ := HS.out.cells
  obtain ⟨v0, v1, v2, v3, v4, v5, v6, v7, v8, v9, v10, v11, v12⟩ := HC.out.cells
  dsimp only at v0 v1 v2 v3 v4 v5 v6 v7 v8 v9 v10 v11 v12
  go_wp2_with fail
  refine (HD1.out _).mono ?_; rintro e x1 ⟨rfl, hk1⟩
  clear s0 s1 s2 s3 v0 v1 v2 v3 v4 v5 v6 v7 v8 v9 v10 v11 v12
  go_upto_region 2 with fail
  refine wp_gen ?_; intro W1 hW1
  obtain ⟨B1, hB1⟩ : ∃ B, x1.heap.size = B := ⟨_, rfl⟩
  have hka : Kp [] W0 W1 := by rw [hW1]; exact hk1.alloc _
  have HB1 : Hid (DtAt W1 B1 X1 Y1) := by show DtAt _ _ _ _; rw [hW1, ← hB1]; exact heap_alloc_new _ _
  have hl1 : w.heap.size + 1 + 1 + 1 ≤ B1 := by rw [← hB1]; have := hk1.size; have := HZ.out; omega
  replace HS : Hid (ScAt W1 w.heap.size s) := HS.out.kp0 hka
  replace HC : Hid (CvAt W1 (w.heap.size + 1) _) := HC.out.kp hka (by simp)
  replace HR : Hid (BowAt W1 (w.heap.size + 1 + 1) bw0) := HR.out.kp hka (by simp)
  replace HK : Hid (Kp [] w W1) := HK.out.trans hka
  rw [hB1]
  clear hW1 hB1 hka hk1 HD1
  obtain ⟨s0, s1, s2, s3⟩ := HS.out.cells
  obtain ⟨v0, v1, v2, v3, v4, v5, v6, v7, v8, v9, v10, v11, v12⟩ := HC.out.cells
  dsimp only at v0 v1 v2 v3 v4 v5 v6 v7 v8 v9 v10 v11 v12
  go_wp2_with fail
  refine (HD2.out _).mono ?_; rintro e x2 ⟨rfl, hk2⟩
  clear s0 s1 s2 s3 v0 v1 v2 v3 v4 v5 v6 v7 v8 v9 v10 v11 v12
  go_upto_region 3 with fail
  refine wp_gen ?_; intro W2 hW2
  obtain ⟨B2, hB2⟩ : ∃ B, x2.heap.size = B := ⟨_, rfl⟩
  have hka : Kp [] W1 W2 := by rw [hW2]; exact hk2.alloc _
  have HB2 : Hid (DtAt W2 B2 X2 Y2) := by show DtAt _ _ _ _; rw [hW2, ← hB2]; exact heap_alloc_new _ _
  have hl2 : B1 + 1 ≤ B2 := by rw [← hB2]; have := hk2.size; have := lt_of_block HB1.out; omega
  replace HS : Hid (ScAt W2 w.heap.size s) := HS.out.kp0 hka
  replace HC : Hid (CvAt W2 (w.heap.size + 1) _) := HC.out.kp hka (by simp)
  replace HR : Hid (BowAt W2 (w.heap.size + 1 + 1) bw0) := HR.out.kp hka (by simp)
  replace HK : Hid (Kp [] w W2) := HK.out.trans hka
  replace HB1 : Hid (DtAt W2 B1 X1 Y1) := HB1.out.kp0 hka
  rw [hB2]
  clear hW2 hB2 hka hk2 HD2
  obtain ⟨s0, s1, s2, s3⟩ := HS.out.cells
  obtain ⟨v0, v1, v2, v3, v4, v5, v6, v7, v8, v9, v10, v11, v12⟩ := HC.out.cells
  dsimp only at v0 v1 v2 v3 v4 v5 v6 v7 v8 v9 v10 v11 v12
  go_wp2_with fail
  refine (HD3.out _).mono ?_; rintro e x3 ⟨rfl, hk3⟩
  clear s0 s1 s2 s3 v0 v1 v2 v3 v4 v5 v6 v7 v8 v9 v10 v11 v12
  go_upto_region 4 with fail
  refine wp_gen ?_; intro W3 hW3
  obtain ⟨B3, hB3⟩ : ∃ B, x3.heap.size = B := ⟨_, rfl⟩
  have hka : Kp [] W2 W3 := by rw [hW3]; exact hk3.alloc _
  have HB3 : Hid (DtAt W3 B3 X3 Y3) := by show DtAt _ _ _ _; rw [hW3, ← hB3]; exact heap_alloc_new _ _
  have hl3 : B2 + 1 ≤ B3 := by rw [← hB3]; have := hk3.size; have := lt_of_block HB2.out; omega
  replace HS : Hid (ScAt W3 w.heap.size s) := HS.out.kp0 hka
  replace HC : Hid (CvAt W3 (w.heap.size + 1) _) := HC.out.kp hka (by simp)
  replace HR : Hid (BowAt W3 (w.heap.size + 1 + 1) bw0) := HR.out.kp hka (by simp)
  replace HK : Hid (Kp [] w W3) := HK.out.trans hka
  replace HB1 : Hid (DtAt W3 B1 X1 Y1) := HB1.out.kp0 hka
  replace HB2 : Hid (DtAt W3 B2 X2 Y2) := HB2.out.kp0 hka
  rw [hB3]
  clear hW3 hB3 hka hk3 HD3
  obtain ⟨s0, s1, s2, s3⟩ := HS.out.cells
  obtain ⟨v0, v1, v2, v3, v4, v5, v6, v7, v8, v9, v10, v11, v12⟩ := HC.out.cells
  dsimp only at v0 v1 v2 v3 v4 v5 v6 v7 v8 v9 v10 v11 v12
  go_wp2_with fail
  refine (HD4.out _).mono ?_; rintro e x4 ⟨rfl, hk4⟩
  clear s0 s1 s2 s3 v0 v1 v2 v3 v4 v5 v6 v7 v8 v9 v10 v11 v12
  go_upto_region 5 with fail
  refine wp_gen ?_; intro W4 hW4
  obtain ⟨B4, hB4⟩ : ∃ B, x4.heap.size = B := ⟨_, rfl⟩
  have hka : Kp [] W3 W4 := by rw [hW4]; exact hk4.alloc _
  have HB4 : Hid (DtAt W4 B4 X4 Y4) := by show DtAt _ _ _ _; rw [hW4, ← hB4]; exact heap_alloc_new _ _
  have hl4 : B3 + 1 ≤ B4 := by rw [← hB4]; have := hk4.size; have := lt_of_block HB3.out; omega
  replace HS : Hid (ScAt W4 w.heap.size s) := HS.out.kp0 hka
  replace HC : Hid (CvAt W4 (w.heap.size + 1) _) := HC.out.kp hka (by simp)
  replace HR : Hid (BowAt W4 (w.heap.size + 1 + 1) bw0) := HR.out.kp hka (by simp)
  replace HK : Hid (Kp [] w W4) := HK.out.trans hka
  replace HB1 : Hid (DtAt W4 B1 X1 Y1) := HB1.out.kp0 hka
  replace HB2 : Hid (DtAt W4 B2 X2 Y2) := HB2.out.kp0 hka
  replace HB3 : Hid (DtAt W4 B3 X3 Y3) := HB3.out.kp0 hka
  rw [hB4]
  clear hW4 hB4 hka hk4 HD4
  have hc0 := HC.out.cells.1
  dsimp only at hc0
  obtain ⟨d30, d31, d32, d33⟩ := HB3.out.cells
  go_upto_region 9 with fail
  clear hc0 d30 d31 d32 d33
  refine wp_gen ?_; intro W5 hW5
  replace HC : Hid (CvAt W5 (w.heap.size + 1) ⟨2, ⟨ax, ay, ak⟩, ⟨bx, b_y, bk⟩, ⟨cx, cy, ck⟩, ⟨dx, dy, dk⟩⟩) := by show CvAt _ _ _; rw [hW5]; exact ((HC.out).far (p := ⟨B3, 0, none⟩) (by show w.heap.size + 1 ≠ B3; omega) (.int .i64 0)).far (p := ⟨B3, 1, none⟩) (by show w.heap.size + 1 ≠ B3; omega) (.int .i64 0)
  replace HR : Hid (BowAt W5 (w.heap.size + 1 + 1) bw0) := by show BowAt _ _ _; rw [hW5]; exact ((HR.out).far (p := ⟨B3, 0, none⟩) (by show w.heap.size + 1 + 1 ≠ B3; omega) (.int .i64 0)).far (p := ⟨B3, 1, none⟩) (by show w.heap.size + 1 + 1 ≠ B3; omega) (.int .i64 0)
  replace HB1 : Hid (DtAt W5 B1 X1 Y1) := by show DtAt _ _ _ _; rw [hW5]; exact ((HB1.out).far (p := ⟨B3, 0, none⟩) (by show B1 ≠ B3; omega) (.int .i64 0)).far (p := ⟨B3, 1, none⟩) (by show B1 ≠ B3; omega) (.int .i64 0)
  replace HB4 : Hid (DtAt W5 B4 X4 Y4) := by show DtAt _ _ _ _; rw [hW5]; exact ((HB4.out).far (p := ⟨B3, 0, none⟩) (by show B4 ≠ B3; omega) (.int .i64 0)).far (p := ⟨B3, 1, none⟩) (by show B4 ≠ B3; omega) (.int .i64 0)
  replace HB2 : Hid (DtAt W5 B2 X2 Y2) := by show DtAt _ _ _ _; rw [hW5]; exact ((HB2.out).far (p := ⟨B3, 0, none⟩) (by show B2 ≠ B3; omega) (.int .i64 0)).far (p := ⟨B3, 1, none⟩) (by show B2 ≠ B3; omega) (.int .i64 0)
  replace HB3 : Hid (DtAt W5 B3 0 0) := by show DtAt _ _ _ _; rw [hW5]; exact HB3.out.set 0 0
  replace HK : Hid (Kp [] w W5) := by show Kp _ _ _; rw [hW5]; exact ((HK.out.setCell (p := ⟨B3, 0, none⟩) (.inr (by show _ ≤ B3; omega)) (.int .i64 0)).setCell (p := ⟨B3, 1, none⟩) (.inr (by show _ ≤ B3; omega)) (.int .i64 0))
  clear hW5 HS
  have hc0 := HC.out.cells.1
  dsimp only at hc0
  go_upto_region 10 with fail
  clear hc0
  obtain ⟨y0, y1, y2, y3, y4, y5, y6, y7, y8⟩ := HR.out.cells
  dsimp only [bw0] at y0 y1 y2 y3 y4 y5 y6 y7 y8
  have g0 := HR.out.frozen 0
  have g1 := HR.out.frozen 1
  have g2 := HR.out.frozen 2
  have g3 := HR.out.frozen 3
  have g4 := HR.out.frozen 4
  have g5 := HR.out.frozen 5
  have g6 := HR.out.frozen 6
  have g7 := HR.out.frozen 7
  have g8 := HR.out.frozen 8
  have HFN := Lib.hid (HR.out.put9 bw0)
  have HFK := Lib.hid (put9_kp (B := w.heap.size + 1 + 1) HK.out (by omega) bw0)
  go_wp2_with fail
  obtain ⟨z0, z1, z2, z3, z4, z5, z6, z7, z8⟩ := HFN.out.cells
  unfold put9 bw0 at z0 z1 z2 z3 z4 z5 z6 z7 z8
  dsimp only at z0 z1 z2 z3 z4 z5 z6 z7 z8
  refine bodyPost_ret (v := .tuple #[bowV bw0, .int .i64 10]) (by simp [results, Try.results41, go_sem, bowV, bw0, z0, z1, z2, z3, z4, z5, z6, z7, z8]) rfl ⟨rfl, HFK.out⟩
set_option maxRecDepth 100000 in
set_option maxHeartbeats 8000000 in
theorem rbow_2_ok (s : Sc) (ax ay ak bx b_y bk cx cy ck dx dy dk : Int) (hs : mayS s = true) (h1 : (dotP s ⟨ax, ay, ak⟩).2 = 0) (h4 : (dotP s ⟨dx, dy, dk⟩).2 = 0) (h2 : (dotP s ⟨bx, b_y, bk⟩).2 = 0) (w : World) : Calls Try.prog 41 #[scV s, cvV ⟨2, ⟨ax, ay, ak⟩, ⟨bx, b_y, bk⟩, ⟨cx, cy, ck⟩, ⟨dx, dy, dk⟩⟩] w fun r w' => r = .returned (.tuple #[bowV (bowS s ⟨2, ⟨ax, ay, ak⟩, ⟨bx, b_y, bk⟩, ⟨cx, cy, ck⟩, ⟨dx, dy, dk⟩⟩), .int .i64 0]) ∧ Kp [] w w' := by
  have HD1 := Lib.hid (fun W => rfdot_calls s ⟨ax, ay, ak⟩ hs W)
  have HD2 := Lib.hid (fun W => rfdot_calls s ⟨bx, b_y, bk⟩ hs W)
  have HD3 := Lib.hid (fun W => rfdot_calls s ⟨cx, cy, ck⟩ hs W)
  have HD4 := Lib.hid (fun W => rfdot_calls s ⟨dx, dy, dk⟩ hs W)
  have HV : Hid (bowS s ⟨2, ⟨ax, ay, ak⟩, ⟨bx, b_y, bk⟩, ⟨cx, cy, ck⟩, ⟨dx, dy, dk⟩⟩ = ⟨2, (dotP s ⟨ax, ay, ak⟩).1, (dotP s ⟨bx, b_y, bk⟩).1, (0, 0), (dotP s ⟨dx, dy, dk⟩).1⟩) := by show _ = _; unfold bowS; simp [dotS_P hs]
  generalize bowS s ⟨2, ⟨ax, ay, ak⟩, ⟨bx, b_y, bk⟩, ⟨cx, cy, ck⟩, ⟨dx, dy, dk⟩⟩ = RB at *
  rw [h1] at HD1
  rw [h4] at HD4
  rw [h2] at HD2
  clear h1 h4 h2
  obtain ⟨⟨X1, Y1⟩, hX1⟩ : ∃ q, (dotP s ⟨ax, ay, ak⟩).1 = q := ⟨_, rfl⟩
  rw [hX1] at HD1 HV
  clear hX1
  obtain ⟨⟨X2, Y2⟩, hX2⟩ : ∃ q, (dotP s ⟨bx, b_y, bk⟩).1 = q := ⟨_, rfl⟩
  rw [hX2] at HD2 HV
  clear hX2
  obtain ⟨⟨⟨X3, Y3⟩, E3⟩, hX3⟩ : ∃ q, dotP s ⟨cx, cy, ck⟩ = q := ⟨_, rfl⟩
  rw [hX3] at HD3
  clear hX3
  obtain ⟨⟨X4, Y4⟩, hX4⟩ : ∃ q, (dotP s ⟨dx, dy, dk⟩).1 = q := ⟨_, rfl⟩
  rw [hX4] at HD4 HV
  clear hX4
  dsimp only [dotV] at HD1 HD2 HD3 HD4
  rw [show cvV ⟨2, ⟨ax, ay, ak⟩, ⟨bx, b_y, bk⟩, ⟨cx, cy, ck⟩, ⟨dx, dy, dk⟩⟩ = .agg #[.int .i64 2, .int .i64 ax, .int .i64 ay, .int .i64 ak, .int .i64 bx, .int .i64 b_y, .int .i64 bk, .int .i64 cx, .int .i64 cy, .int .i64 ck, .int .i64 dx, .int .i64 dy, .int .i64 dk] from rfl]
  clear hs
  rw [show scV s = .agg #[.int .i64 s.u, .int .i64 s.p, .int .i64 s.fx, .int .i64 s.fy] from rfl] at *
  go_enter Try.func41, Try.ntmps41
  go_wp2_with fail
  obtain ⟨q1, q2, q3⟩ := three_heap (w := w) (A := .cells #[.int .i64 s.u, .int .i64 s.p, .int .i64 s.fx, .int .i64 s.fy] 23) (B := .cells (cvCells ⟨2, ⟨ax, ay, ak⟩, ⟨bx, b_y, bk⟩, ⟨cx, cy, ck⟩, ⟨dx, dy, dk⟩⟩) 75) (C := .cells #[.int .i64 0, .int .i64 0, .int .i64 0, .int .i64 0, .int .i64 0, .int .i64 0, .int .i64 0, .int .i64 0, .int .i64 0] 71) rfl
  have hk : Kp [] w (((w.alloc (.cells #[.int .i64 s.u, .int .i64 s.p, .int .i64 s.fx, .int .i64 s.fy] 23)).alloc (.cells #[.int .i64 2, .int .i64 ax, .int .i64 ay, .int .i64 ak, .int .i64 bx, .int .i64 b_y, .int .i64 bk, .int .i64 cx, .int .i64 cy, .int .i64 ck, .int .i64 dx, .int .i64 dy, .int .i64 dk] 75)).alloc (.cells #[.int .i64 0, .int .i64 0, .int .i64 0, .int .i64 0, .int .i64 0, .int .i64 0, .int .i64 0, .int .i64 0, .int .i64 0] 71)) := by (repeat (first | exact Kp.refl _ _ | assumption | refine Kp.drew ?_ | refine Kp.drewN ?_ _ | refine Kp.alloc ?_ _ | (refine Kp.setCell ?_ (by first | (left; simp; done) | (right; simp; try omega)) _) | (refine Kp.trans' ?_ (by assumption) (by simp; try omega))))
  have hz : ((((w.alloc (.cells #[.int .i64 s.u, .int .i64 s.p, .int .i64 s.fx, .int .i64 s.fy] 23)).alloc (.cells #[.int .i64 2, .int .i64 ax, .int .i64 ay, .int .i64 ak, .int .i64 bx, .int .i64 b_y, .int .i64 bk, .int .i64 cx, .int .i64 cy, .int .i64 ck, .int .i64 dx, .int .i64 dy, .int .i64 dk] 75)).alloc (.cells #[.int .i64 0, .int .i64 0, .int .i64 0, .int .i64 0, .int .i64 0, .int .i64 0, .int .i64 0, .int .i64 0, .int .i64 0] 71))).heap.size = w.heap.size + 1 + 1 + 1 := by simp
  change ((((w.alloc (.cells #[.int .i64 s.u, .int .i64 s.p, .int .i64 s.fx, .int .i64 s.fy] 23)).alloc (.cells #[.int .i64 2, .int .i64 ax, .int .i64 ay, .int .i64 ak, .int .i64 bx, .int .i64 b_y, .int .i64 bk, .int .i64 cx, .int .i64 cy, .int .i64 ck, .int .i64 dx, .int .i64 dy, .int .i64 dk] 75)).alloc (.cells #[.int .i64 0, .int .i64 0, .int .i64 0, .int .i64 0, .int .i64 0, .int .i64 0, .int .i64 0, .int .i64 0, .int .i64 0] 71))).heap[w.heap.size]? = _ at q1
  change ((((w.alloc (.cells #[.int .i64 s.u, .int .i64 s.p, .int .i64 s.fx, .int .i64 s.fy] 23)).alloc (.cells #[.int .i64 2, .int .i64 ax, .int .i64 ay, .int .i64 ak, .int .i64 bx, .int .i64 b_y, .int .i64 bk, .int .i64 cx, .int .i64 cy, .int .i64 ck, .int .i64 dx, .int .i64 dy, .int .i64 dk] 75)).alloc (.cells #[.int .i64 0, .int .i64 0, .int .i64 0, .int .i64 0, .int .i64 0, .int .i64 0, .int .i64 0, .int .i64 0, .int .i64 0] 71))).heap[w.heap.size + 1]? = _ at q2
  change ((((w.alloc (.cells #[.int .i64 s.u, .int .i64 s.p, .int .i64 s.fx, .int .i64 s.fy] 23)).alloc (.cells #[.int .i64 2, .int .i64 ax, .int .i64 ay, .int .i64 ak, .int .i64 bx, .int .i64 b_y, .int .i64 bk, .int .i64 cx, .int .i64 cy, .int .i64 ck, .int .i64 dx, .int .i64 dy, .int .i64 dk] 75)).alloc (.cells #[.int .i64 0, .int .i64 0, .int .i64 0, .int .i64 0, .int .i64 0, .int .i64 0, .int .i64 0, .int .i64 0, .int .i64 0] 71))).heap[w.heap.size + 1 + 1]? = _ at q3
  generalize (((w.alloc (.cells #[.int .i64 s.u, .int .i64 s.p, .int .i64 s.fx, .int .i64 s.fy] 23)).alloc (.cells #[.int .i64 2, .int .i64 ax, .int .i64 ay, .int .i64 ak, .int .i64 bx, .int .i64 b_y, .int .i64 bk, .int .i64 cx, .int .i64 cy, .int .i64 ck, .int .i64 dx, .int .i64 dy, .int .i64 dk] 75)).alloc (.cells #[.int .i64 0, .int .i64 0, .int .i64 0, .int .i64 0, .int .i64 0, .int .i64 0, .int .i64 0, .int .i64 0, .int .i64 0] 71)) = W0 at *
  have HS : Hid (ScAt W0 w.heap.size s) := q1
  have HC : Hid (CvAt W0 (w.heap.size + 1) ⟨2, ⟨ax, ay, ak⟩, ⟨bx, b_y, bk⟩, ⟨cx, cy, ck⟩, ⟨dx, dy, dk⟩⟩) := q2
  have HR : Hid (BowAt W0 (w.heap.size + 1 + 1) bw0) := q3
  have HK := Lib.hid hk
  have HZ := Lib.hid hz
  clear hk hz q1 q2 q3
  obtain ⟨s0, s1, s2, s3⟩ := HS.out.cells
  obtain ⟨v0, v1, v2, v3, v4, v5, v6, v7, v8, v9, v10, v11, v12⟩ := HC.out.cells
  dsimp only at v0 v1 v2 v3 v4 v5 v6 v7 v8 v9 v10 v11 v12
  go_wp2_with fail
  refine (HD1.out _).mono ?_; rintro e x1 ⟨rfl, hk1⟩
  clear s0 s1 s2 s3 v0 v1 v2 v3 v4 v5 v6 v7 v8 v9 v10 v11 v12
  go_upto_region 2 with fail
  refine wp_gen ?_; intro W1 hW1
  obtain ⟨B1, hB1⟩ : ∃ B, x1.heap.size = B := ⟨_, rfl⟩
  have hka : Kp [] W0 W1 := by rw [hW1]; exact hk1.alloc _
  have HB1 : Hid (DtAt W1 B1 X1 Y1) := by show DtAt _ _ _ _; rw [hW1, ← hB1]; exact heap_alloc_new _ _
  have hl1 : w.heap.size + 1 + 1 + 1 ≤ B1 := by rw [← hB1]; have := hk1.size; have := HZ.out; omega
  replace HS : Hid (ScAt W1 w.heap.size s) := HS.out.kp0 hka
  replace HC : Hid (CvAt W1 (w.heap.size + 1) _) := HC.out.kp hka (by simp)
  replace HR : Hid (BowAt W1 (w.heap.size + 1 + 1) bw0) := HR.out.kp hka (by simp)
  replace HK : Hid (Kp [] w W1) := HK.out.trans hka
  rw [hB1]
  clear hW1 hB1 hka hk1 HD1
  obtain ⟨s0, s1, s2, s3⟩ := HS.out.cells
  obtain ⟨v0, v1, v2, v3, v4, v5, v6, v7, v8, v9, v10, v11, v12⟩ := HC.out.cells
  dsimp only at v0 v1 v2 v3 v4 v5 v6 v7 v8 v9 v10 v11 v12
  go_wp2_with fail
  refine (HD2.out _).mono ?_; rintro e x2 ⟨rfl, hk2⟩
  clear s0 s1 s2 s3 v0 v1 v2 v3 v4 v5 v6 v7 v8 v9 v10 v11 v12
  go_upto_region 3 with fail
  refine wp_gen ?_; intro W2 hW2
  obtain ⟨B2, hB2⟩ : ∃ B, x2.heap.size = B := ⟨_, rfl⟩
  have hka : Kp [] W1 W2 := by rw [hW2]; exact hk2.alloc _
  have HB2 : Hid (DtAt W2 B2 X2 Y2) := by show DtAt _ _ _ _; rw [hW2, ← hB2]; exact heap_alloc_new _ _
  have hl2 : B1 + 1 ≤ B2 := by rw [← hB2]; have := hk2.size; have := lt_of_block HB1.out; omega
  replace HS : Hid (ScAt W2 w.heap.size s) := HS.out.kp0 hka
  replace HC : Hid (CvAt W2 (w.heap.size + 1) _) := HC.out.kp hka (by simp)
  replace HR : Hid (BowAt W2 (w.heap.size + 1 + 1) bw0) := HR.out.kp hka (by simp)
  replace HK : Hid (Kp [] w W2) := HK.out.trans hka
  replace HB1 : Hid (DtAt W2 B1 X1 Y1) := HB1.out.kp0 hka
  rw [hB2]
  clear hW2 hB2 hka hk2 HD2
  obtain ⟨s0, s1, s2, s3⟩ := HS.out.cells
  obtain ⟨v0, v1, v2, v3, v4, v5, v6, v7, v8, v9, v10, v11, v12⟩ := HC.out.cells
  dsimp only at v0 v1 v2 v3 v4 v5 v6 v7 v8 v9 v10 v11 v12
  go_wp2_with fail
  refine (HD3.out _).mono ?_; rintro e x3 ⟨rfl, hk3⟩
  clear s0 s1 s2 s3 v0 v1 v2 v3 v4 v5 v6 v7 v8 v9 v10 v11 v12
  go_upto_region 4 with fail
  refine wp_gen ?_; intro W3 hW3
  obtain ⟨B3, hB3⟩ : ∃ B, x3.heap.size = B := ⟨_, rfl⟩
  have hka : Kp [] W2 W3 := by rw [hW3]; exact hk3.alloc _
  have HB3 : Hid (DtAt W3 B3 X3 Y3) := by show DtAt _ _ _ _; rw [hW3, ← hB3]; exact heap_alloc_new _ _
  have hl3 : B2 + 1 ≤ B3 := by rw [← hB3]; have := hk3.size; have := lt_of_block HB2.out; omega
  replace HS : Hid (ScAt W3 w.heap.size s) := HS.out.kp0 hka
  replace HC : Hid (CvAt W3 (w.heap.size + 1) _) := HC.out.kp hka (by simp)
  replace HR : Hid (BowAt W3 (w.heap.size + 1 + 1) bw0) := HR.out.kp hka (by simp)
  replace HK : Hid (Kp [] w W3) := HK.out.trans hka
  replace HB1 : Hid (DtAt W3 B1 X1 Y1) := HB1.out.kp0 hka
  replace HB2 : Hid (DtAt W3 B2 X2 Y2) := HB2.out.kp0 hka
  rw [hB3]
  clear hW3 hB3 hka hk3 HD3
  obtain ⟨s0, s1, s2, s3⟩ := HS.out.cells
  obtain ⟨v0, v1, v2, v3, v4, v5, v6, v7, v8, v9, v10, v11, v12⟩ := HC.out.cells
  dsimp only at v0 v1 v2 v3 v4 v5 v6 v7 v8 v9 v10 v11 v12
  go_wp2_with fail
  refine (HD4.out _).mono ?_; rintro e x4 ⟨rfl, hk4⟩
  clear s0 s1 s2 s3 v0 v1 v2 v3 v4 v5 v6 v7 v8 v9 v10 v11 v12
  go_upto_region 5 with fail
  refine wp_gen ?_; intro W4 hW4
  obtain ⟨B4, hB4⟩ : ∃ B, x4.heap.size = B := ⟨_, rfl⟩
  have hka : Kp [] W3 W4 := by rw [hW4]; exact hk4.alloc _
  have HB4 : Hid (DtAt W4 B4 X4 Y4) := by show DtAt _ _ _ _; rw [hW4, ← hB4]; exact heap_alloc_new _ _
  have hl4 : B3 + 1 ≤ B4 := by rw [← hB4]; have := hk4.size; have := lt_of_block HB3.out; omega
  replace HS : Hid (ScAt W4 w.heap.size s) := HS.out.kp0 hka
  replace HC : Hid (CvAt W4 (w.heap.size + 1) _) := HC.out.kp hka (by simp)
  replace HR : Hid (BowAt W4 (w.heap.size + 1 + 1) bw0) := HR.out.kp hka (by simp)
  replace HK : Hid (Kp [] w W4) := HK.out.trans hka
  replace HB1 : Hid (DtAt W4 B1 X1 Y1) := HB1.out.kp0 hka
  replace HB2 : Hid (DtAt W4 B2 X2 Y2) := HB2.out.kp0 hka
  replace HB3 : Hid (DtAt W4 B3 X3 Y3) := HB3.out.kp0 hka
  rw [hB4]
  clear hW4 hB4 hka hk4 HD4
  have hc0 := HC.out.cells.1
  dsimp only at hc0
  obtain ⟨d30, d31, d32, d33⟩ := HB3.out.cells
  go_upto_region 9 with fail
  clear hc0 d30 d31 d32 d33
  refine wp_gen ?_; intro W5 hW5
  replace HC : Hid (CvAt W5 (w.heap.size + 1) ⟨2, ⟨ax, ay, ak⟩, ⟨bx, b_y, bk⟩, ⟨cx, cy, ck⟩, ⟨dx, dy, dk⟩⟩) := by show CvAt _ _ _; rw [hW5]; exact ((HC.out).far (p := ⟨B3, 0, none⟩) (by show w.heap.size + 1 ≠ B3; omega) (.int .i64 0)).far (p := ⟨B3, 1, none⟩) (by show w.heap.size + 1 ≠ B3; omega) (.int .i64 0)
  replace HR : Hid (BowAt W5 (w.heap.size + 1 + 1) bw0) := by show BowAt _ _ _; rw [hW5]; exact ((HR.out).far (p := ⟨B3, 0, none⟩) (by show w.heap.size + 1 + 1 ≠ B3; omega) (.int .i64 0)).far (p := ⟨B3, 1, none⟩) (by show w.heap.size + 1 + 1 ≠ B3; omega) (.int .i64 0)
  replace HB1 : Hid (DtAt W5 B1 X1 Y1) := by show DtAt _ _ _ _; rw [hW5]; exact ((HB1.out).far (p := ⟨B3, 0, none⟩) (by show B1 ≠ B3; omega) (.int .i64 0)).far (p := ⟨B3, 1, none⟩) (by show B1 ≠ B3; omega) (.int .i64 0)
  replace HB4 : Hid (DtAt W5 B4 X4 Y4) := by show DtAt _ _ _ _; rw [hW5]; exact ((HB4.out).far (p := ⟨B3, 0, none⟩) (by show B4 ≠ B3; omega) (.int .i64 0)).far (p := ⟨B3, 1, none⟩) (by show B4 ≠ B3; omega) (.int .i64 0)
  replace HB2 : Hid (DtAt W5 B2 X2 Y2) := by show DtAt _ _ _ _; rw [hW5]; exact ((HB2.out).far (p := ⟨B3, 0, none⟩) (by show B2 ≠ B3; omega) (.int .i64 0)).far (p := ⟨B3, 1, none⟩) (by show B2 ≠ B3; omega) (.int .i64 0)
  replace HB3 : Hid (DtAt W5 B3 0 0) := by show DtAt _ _ _ _; rw [hW5]; exact HB3.out.set 0 0
  replace HK : Hid (Kp [] w W5) := by show Kp _ _ _; rw [hW5]; exact ((HK.out.setCell (p := ⟨B3, 0, none⟩) (.inr (by show _ ≤ B3; omega)) (.int .i64 0)).setCell (p := ⟨B3, 1, none⟩) (.inr (by show _ ≤ B3; omega)) (.int .i64 0))
  clear hW5 HS
  have hc0 := HC.out.cells.1
  dsimp only at hc0
  go_upto_region 11 with fail
  clear hc0
  obtain ⟨y0, y1, y2, y3, y4, y5, y6, y7, y8⟩ := HR.out.cells
  dsimp only [bw0] at y0 y1 y2 y3 y4 y5 y6 y7 y8
  have g0 := HR.out.frozen 0
  have g1 := HR.out.frozen 1
  have g2 := HR.out.frozen 2
  have g3 := HR.out.frozen 3
  have g4 := HR.out.frozen 4
  have g5 := HR.out.frozen 5
  have g6 := HR.out.frozen 6
  have g7 := HR.out.frozen 7
  have g8 := HR.out.frozen 8
  obtain ⟨d10, d11, _, _⟩ := HB1.out.cells
  obtain ⟨d20, d21, _, _⟩ := HB2.out.cells
  obtain ⟨d30, d31, _, _⟩ := HB3.out.cells
  obtain ⟨d40, d41, _, _⟩ := HB4.out.cells
  have hc0 := HC.out.cells.1
  dsimp only at hc0
  have HFN := Lib.hid (HR.out.put9 ⟨2, (X1, Y1), (X2, Y2), (0, 0), (X4, Y4)⟩)
  have HFK := Lib.hid (put9_kp (B := w.heap.size + 1 + 1) HK.out (by omega) ⟨2, (X1, Y1), (X2, Y2), (0, 0), (X4, Y4)⟩)
  go_wp2_with fail
  obtain ⟨z0, z1, z2, z3, z4, z5, z6, z7, z8⟩ := HFN.out.cells
  unfold put9 at z0 z1 z2 z3 z4 z5 z6 z7 z8
  dsimp only at z0 z1 z2 z3 z4 z5 z6 z7 z8
  rw [HV.out]
  refine bodyPost_ret (v := .tuple #[bowV ⟨2, (X1, Y1), (X2, Y2), (0, 0), (X4, Y4)⟩, .int .i64 0]) (by simp [results, Try.results41, go_sem, bowV, bw0, z0, z1, z2, z3, z4, z5, z6, z7, z8]) rfl ⟨rfl, HFK.out⟩
set_option maxRecDepth 100000 in
set_option maxHeartbeats 8000000 in
theorem rbow_3_e1 (s : Sc) (ax ay ak bx b_y bk cx cy ck dx dy dk : Int) (hs : mayS s = true) (h1 : (dotP s ⟨ax, ay, ak⟩).2 = 10) (w : World) : Calls Try.prog 41 #[scV s, cvV ⟨3, ⟨ax, ay, ak⟩, ⟨bx, b_y, bk⟩, ⟨cx, cy, ck⟩, ⟨dx, dy, dk⟩⟩] w fun r w' => r = .returned (.tuple #[bowV bw0, .int .i64 10]) ∧ Kp [] w w' := by
  have HD1 := Lib.hid (fun W => rfdot_calls s ⟨ax, ay, ak⟩ hs W)
  have HD2 := Lib.hid (fun W => rfdot_calls s ⟨bx, b_y, bk⟩ hs W)
  have HD3 := Lib.hid (fun W => rfdot_calls s ⟨cx, cy, ck⟩ hs W)
  have HD4 := Lib.hid (fun W => rfdot_calls s ⟨dx, dy, dk⟩ hs W)
  rw [h1] at HD1
  clear h1
  obtain ⟨⟨X1, Y1⟩, hX1⟩ : ∃ q, (dotP s ⟨ax, ay, ak⟩).1 = q := ⟨_, rfl⟩
  rw [hX1] at HD1
  clear hX1
  obtain ⟨⟨⟨X2, Y2⟩, E2⟩, hX2⟩ : ∃ q, dotP s ⟨bx, b_y, bk⟩ = q := ⟨_, rfl⟩
  rw [hX2] at HD2
  clear hX2
  obtain ⟨⟨⟨X3, Y3⟩, E3⟩, hX3⟩ : ∃ q, dotP s ⟨cx, cy, ck⟩ = q := ⟨_, rfl⟩
  rw [hX3] at HD3
  clear hX3
  obtain ⟨⟨⟨X4, Y4⟩, E4⟩, hX4⟩ : ∃ q, dotP s ⟨dx, dy, dk⟩ = q := ⟨_, rfl⟩
  rw [hX4] at HD4
  clear hX4
  dsimp only [dotV] at HD1 HD2 HD3 HD4
  rw [show cvV ⟨3, ⟨ax, ay, ak⟩, ⟨bx, b_y, bk⟩, ⟨cx, cy, ck⟩, ⟨dx, dy, dk⟩⟩ = .agg #[.int .i64 3, .int .i64 ax, .int .i64 ay, .int .i64 ak, .int .i64 bx, .int .i64 b_y, .int .i64 bk, .int .i64 cx, .int .i64 cy, .int .i64 ck, .int .i64 dx, .int .i64 dy, .int .i64 dk] from rfl]
  clear hs
  rw [show scV s = .agg #[.int .i64 s.u, .int .i64 s.p, .int .i64 s.fx, .int .i64 s.fy] from rfl] at *
  go_enter Try.func41, Try.ntmps41
  go_wp2_with fail
  obtain ⟨q1, q2, q3⟩ := three_heap (w := w) (A := .cells #[.int .i64 s.u, .int .i64 s.p, .int .i64 s.fx, .int .i64 s.fy] 23) (B := .cells (cvCells ⟨3, ⟨ax, ay, ak⟩, ⟨bx, b_y, bk⟩, ⟨cx, cy, ck⟩, ⟨dx, dy, dk⟩⟩) 75) (C := .cells #[.int .i64 0, .int .i64 0, .int .i64 0, .int .i64 0, .int .i64 0, .int .i64 0, .int .i64 0, .int .i64 0, .int .i64 0] 71) rfl
  have hk : Kp [] w (((w.alloc (.cells #[.int .i64 s.u, .int .i64 s.p, .int .i64 s.fx, .int .i64 s.fy] 23)).alloc (.cells #[.int .i64 3, .int .i64 ax, .int .i64 ay, .int .i64 ak, .int .i64 bx, .int .i64 b_y, .int .i64 bk, .int .i64 cx, .int .i64 cy, .int .i64 ck, .int .i64 dx, .int .i64 dy, .int .i64 dk] 75)).alloc (.cells #[.int .i64 0, .int .i64 0, .int .i64 0, .int .i64 0, .int .i64 0, .int .i64 0, .int .i64 0, .int .i64 0, .int .i64 0] 71)) := by (repeat (first | exact Kp.refl _ _ | assumption | refine Kp.drew ?_ | refine Kp.drewN ?_ _ | refine Kp.alloc ?_ _ | (refine Kp.setCell ?_ (by first | (left; simp; done) | (right; simp; try omega)) _) | (refine Kp.trans' ?_ (by assumption) (by simp; try omega))))
  have hz : ((((w.alloc (.cells #[.int .i64 s.u, .int .i64 s.p, .int .i64 s.fx, .int .i64 s.fy] 23)).alloc (.cells #[.int .i64 3, .int .i64 ax, .int .i64 ay, .int .i64 ak, .int .i64 bx, .int .i64 b_y, .int .i64 bk, .int .i64 cx, .int .i64 cy, .int .i64 ck, .int .i64 dx, .int .i64 dy, .int .i64 dk] 75)).alloc (.cells #[.int .i64 0, .int .i64 0, .int .i64 0, .int .i64 0, .int .i64 0, .int .i64 0, .int .i64 0, .int .i64 0, .int .i64 0] 71))).heap.size = w.heap.size + 1 + 1 + 1 := by simp
  change ((((w.alloc (.cells #[.int .i64 s.u, .int .i64 s.p, .int .i64 s.fx, .int .i64 s.fy] 23)).alloc (.cells #[.int .i64 3, .int .i64 ax, .int .i64 ay, .int .i64 ak, .int .i64 bx, .int .i64 b_y, .int .i64 bk, .int .i64 cx, .int .i64 cy, .int .i64 ck, .int .i64 dx, .int .i64 dy, .int .i64 dk] 75)).alloc (.cells #[.int .i64 0, .int .i64 0, .int .i64 0, .int .i64 0, .int .i64 0, .int .i64 0, .int .i64 0, .int .i64 0, .int .i64 0] 71))).heap[w.heap.size]? = _ at q1
  change ((((w.alloc (.cells #[.int .i64 s.u, .int .i64 s.p, .int .i64 s.fx, .int .i64 s.fy] 23)).alloc (.cells #[.int .i64 3, .int .i64 ax, .int .i64 ay, .int .i64 ak, .int .i64 bx, .int .i64 b_y, .int .i64 bk, .int .i64 cx, .int .i64 cy, .int .i64 ck, .int .i64 dx, .int .i64 dy, .int .i64 dk] 75)).alloc (.cells #[.int .i64 0, .int .i64 0, .int .i64 0, .int .i64 0, .int .i64 0, .int .i64 0, .int .i64 0, .int .i64 0, .int .i64 0] 71))).heap[w.heap.size + 1]? = _ at q2
  change ((((w.alloc (.cells #[.int .i64 s.u, .int .i64 s.p, .int .i64 s.fx, .int .i64 s.fy] 23)).alloc (.cells #[.int .i64 3, .int .i64 ax, .int .i64 ay, .int .i64 ak, .int .i64 bx, .int .i64 b_y, .int .i64 bk, .int .i64 cx, .int .i64 cy, .int .i64 ck, .int .i64 dx, .int .i64 dy, .int .i64 dk] 75)).alloc (.cells #[.int .i64 0, .int .i64 0, .int .i64 0, .int .i64 0, .int .i64 0, .int .i64 0, .int .i64 0, .int .i64 0, .int .i64 0] 71))).heap[w.heap.size + 1 + 1]? = _ at q3
  generalize (((w.alloc (.cells #[.int .i64 s.u, .int .i64 s.p, .int .i64 s.fx, .int .i64 s.fy] 23)).alloc (.cells #[.int .i64 3, .int .i64 ax, .int .i64 ay, .int .i64 ak, .int .i64 bx, .int .i64 b_y, .int .i64 bk, .int .i64 cx, .int .i64 cy, .int .i64 ck, .int .i64 dx, .int .i64 dy, .int .i64 dk] 75)).alloc (.cells #[.int .i64 0, .int .i64 0, .int .i64 0, .int .i64 0, .int .i64 0, .int .i64 0, .int .i64 0, .int .i64 0, .int .i64 0] 71)) = W0 at *
  have HS : Hid (ScAt W0 w.heap.size s) := q1
  have HC : Hid (CvAt W0 (w.heap.size + 1) ⟨3, ⟨ax, ay, ak⟩, ⟨bx, b_y, bk⟩, ⟨cx, cy, ck⟩, ⟨dx, dy, dk⟩⟩) := q2
  have HR : Hid (BowAt W0 (w.heap.size + 1 + 1) bw0) := q3
  have HK := Lib.hid hk
  have HZ := Lib.hid hz
  clear hk hz q1 q2 q3
  obtain ⟨s0, s1, s2, s3⟩ := HS.out.cells
  obtain ⟨v0, v1, v2, v3, v4, v5, v6, v7, v8, v9, v10, v11, v12⟩ := HC.out.cells
  dsimp only at v0 v1 v2 v3 v4 v5 v6 v7 v8 v9 v10 v11 v12
  go_wp2_with fail
  refine (HD1.out _).mono ?_; rintro e x1 ⟨rfl, hk1⟩
  clear s0 s1 s2 s3 v0 v1 v2 v3 v4 v5 v6 v7 v8 v9 v10 v11 v12
  go_upto_region 2 with fail
  refine wp_gen ?_; intro W1 hW1
  obtain ⟨B1, hB1⟩ : ∃ B, x1.heap.size = B := ⟨_, rfl⟩
  have hka : Kp [] W0 W1 := by rw [hW1]; exact hk1.alloc _
  have HB1 : Hid (DtAt W1 B1 X1 Y1) := by show DtAt _ _ _ _; rw [hW1, ← hB1]; exact heap_alloc_new _ _
  have hl1 : w.heap.size + 1 + 1 + 1 ≤ B1 := by rw [← hB1]; have := hk1.size; have := HZ.out; omega
  replace HS : Hid (ScAt W1 w.heap.size s) := HS.out.kp0 hka
  replace HC : Hid (CvAt W1 (w.heap.size + 1) _) := HC.out.kp hka (by simp)
  replace HR : Hid (BowAt W1 (w.heap.size + 1 + 1) bw0) := HR.out.kp hka (by simp)
  replace HK : Hid (Kp [] w W1) := HK.out.trans hka
  rw [hB1]
  clear hW1 hB1 hka hk1 HD1
  obtain ⟨s0, s1, s2, s3⟩ := HS.out.cells
  obtain ⟨v0, v1, v2, v3, v4, v5, v6, v7, v8, v9, v10, v11, v12⟩ := HC.out.cells
  dsimp only at v0 v1 v2 v3 v4 v5 v6 v7 v8 v9 v10 v11 v12
  go_wp2_with fail
  refine (HD2.out _).mono ?_; rintro e x2 ⟨rfl, hk2⟩
  clear s0 s1 s2 s3 v0 v1 v2 v3 v4 v5 v6 v7 v8 v9 v10 v11 v12
  go_upto_region 3 with fail
  refine wp_gen ?_; intro W2 hW2
  obtain ⟨B2, hB2⟩ : ∃ B, x2.heap.size = B := ⟨_, rfl⟩
  have hka : Kp [] W1 W2 := by rw [hW2]; exact hk2.alloc _
  have HB2 : Hid (DtAt W2 B2 X2 Y2) := by show DtAt _ _ _ _; rw [hW2, ← hB2]; exact heap_alloc_new _ _
  have hl2 : B1 + 1 ≤ B2 := by rw [← hB2]; have := hk2.size; have := lt_of_block HB1.out; omega
  replace HS : Hid (ScAt W2 w.heap.size s) := HS.out.kp0 hka
  replace HC : Hid (CvAt W2 (w.heap.size + 1) _) := HC.out.kp hka (by simp)
  replace HR : Hid (BowAt W2 (w.heap.size + 1 + 1) bw0) := HR.out.kp hka (by simp)
  replace HK : Hid (Kp [] w W2) := HK.out.trans hka
  replace HB1 : Hid (DtAt W2 B1 X1 Y1) := HB1.out.kp0 hka
  rw [hB2]
  clear hW2 hB2 hka hk2 HD2
  obtain ⟨s0, s1, s2, s3⟩ := HS.out.cells
  obtain ⟨v0, v1, v2, v3, v4, v5, v6, v7, v8, v9, v10, v11, v12⟩ := HC.out.cells
  dsimp only at v0 v1 v2 v3 v4 v5 v6 v7 v8 v9 v10 v11 v12
  go_wp2_with fail
  refine (HD3.out _).mono ?_; rintro e x3 ⟨rfl, hk3⟩
  clear s0 s1 s2 s3 v0 v1 v2 v3 v4 v5 v6 v7 v8 v9 v10 v11 v12
  go_upto_region 4 with fail
  refine wp_gen ?_; intro W3 hW3
  obtain ⟨B3, hB3⟩ : ∃ B, x3.heap.size = B := ⟨_, rfl⟩
  have hka : Kp [] W2 W3 := by rw [hW3]; exact hk3.alloc _
  have HB3 : Hid (DtAt W3 B3 X3 Y3) := by show DtAt _ _ _ _; rw [hW3, ← hB3]; exact heap_alloc_new _ _
  have hl3 : B2 + 1 ≤ B3 := by rw [← hB3]; have := hk3.size; have := lt_of_block HB2.out; omega
  replace HS : Hid (ScAt W3 w.heap.size s) := HS.out.kp0 hka
  replace HC : Hid (CvAt W3 (w.heap.size + 1) _) := HC.out.kp hka (by simp)
  replace HR : Hid (BowAt W3 (w.heap.size + 1 + 1) bw0) := HR.out.kp hka (by simp)
  replace HK : Hid (Kp [] w W3) := HK.out.trans hka
  replace HB1 : Hid (DtAt W3 B1 X1 Y1) := HB1.out.kp0 hka
  replace HB2 : Hid (DtAt W3 B2 X2 Y2) := HB2.out.kp0 hka
  rw [hB3]
  clear hW3 hB3 hka hk3 HD3
  obtain ⟨s0, s1, s2, s3⟩ := HS.out.cells
  obtain ⟨v0, v1, v2, v3, v4, v5, v6, v7, v8, v9, v10, v11, v12⟩ := HC.out.cells
  dsimp only at v0 v1 v2 v3 v4 v5 v6 v7 v8 v9 v10 v11 v12
  go_wp2_with fail
  refine (HD4.out _).mono ?_; rintro e x4 ⟨rfl, hk4⟩
  clear s0 s1 s2 s3 v0 v1 v2 v3 v4 v5 v6 v7 v8 v9 v10 v11 v12
  go_upto_region 5 with fail
  refine wp_gen ?_; intro W4 hW4
  obtain ⟨B4, hB4⟩ : ∃ B, x4.heap.size = B := ⟨_, rfl⟩
  have hka : Kp [] W3 W4 := by rw [hW4]; exact hk4.alloc _
  have HB4 : Hid (DtAt W4 B4 X4 Y4) := by show DtAt _ _ _ _; rw [hW4, ← hB4]; exact heap_alloc_new _ _
  have hl4 : B3 + 1 ≤ B4 := by rw [← hB4]; have := hk4.size; have := lt_of_block HB3.out; omega
  replace HS : Hid (ScAt W4 w.heap.size s) := HS.out.kp0 hka
  replace HC : Hid (CvAt W4 (w.heap.size + 1) _) := HC.out.kp hka (by simp)
  replace HR : Hid (BowAt W4 (w.heap.size + 1 + 1) bw0) := HR.out.kp hka (by simp)
  replace HK : Hid (Kp [] w W4) := HK.out.trans hka
  replace HB1 : Hid (DtAt W4 B1 X1 Y1) := HB1.out.kp0 hka
  replace HB2 : Hid (DtAt W4 B2 X2 Y2) := HB2.out.kp0 hka
  replace HB3 : Hid (DtAt W4 B3 X3 Y3) := HB3.out.kp0 hka
  rw [hB4]
  clear hW4 hB4 hka hk4 HD4
  have hc0 := HC.out.cells.1
  dsimp only at hc0
  go_upto_region 9 with fail
  clear hc0
  refine wp_gen ?_; intro W5 hW5
  replace HC : Hid (CvAt W5 (w.heap.size + 1) ⟨3, ⟨ax, ay, ak⟩, ⟨bx, b_y, bk⟩, ⟨cx, cy, ck⟩, ⟨dx, dy, dk⟩⟩) := by show CvAt _ _ _; rw [hW5]; exact HC.out
  replace HR : Hid (BowAt W5 (w.heap.size + 1 + 1) bw0) := by show BowAt _ _ _; rw [hW5]; exact HR.out
  replace HB1 : Hid (DtAt W5 B1 X1 Y1) := by show DtAt _ _ _ _; rw [hW5]; exact HB1.out
  replace HB4 : Hid (DtAt W5 B4 X4 Y4) := by show DtAt _ _ _ _; rw [hW5]; exact HB4.out
  replace HB2 : Hid (DtAt W5 B2 X2 Y2) := by show DtAt _ _ _ _; rw [hW5]; exact HB2.out
  replace HB3 : Hid (DtAt W5 B3 X3 Y3) := by show DtAt _ _ _ _; rw [hW5]; exact HB3.out
  replace HK : Hid (Kp [] w W5) := by show Kp _ _ _; rw [hW5]; exact HK.out
  clear hW5 HS
  have hc0 := HC.out.cells.1
  dsimp only at hc0
  go_upto_region 10 with fail
  clear hc0
  obtain ⟨y0, y1, y2, y3, y4, y5, y6, y7, y8⟩ := HR.out.cells
  dsimp only [bw0] at y0 y1 y2 y3 y4 y5 y6 y7 y8
  have g0 := HR.out.frozen 0
  have g1 := HR.out.frozen 1
  have g2 := HR.out.frozen 2
  have g3 := HR.out.frozen 3
  have g4 := HR.out.frozen 4
  have g5 := HR.out.frozen 5
  have g6 := HR.out.frozen 6
  have g7 := HR.out.frozen 7
  have g8 := HR.out.frozen 8
  have HFN := Lib.hid (HR.out.put9 bw0)
  have HFK := Lib.hid (put9_kp (B := w.heap.size + 1 + 1) HK.out (by omega) bw0)
  go_wp2_with fail
  obtain ⟨z0, z1, z2, z3, z4, z5, z6, z7, z8⟩ := HFN.out.cells
  unfold put9 bw0 at z0 z1 z2 z3 z4 z5 z6 z7 z8
  dsimp only at z0 z1 z2 z3 z4 z5 z6 z7 z8
  refine bodyPost_ret (v := .tuple #[bowV bw0, .int .i64 10]) (by simp [results, Try.results41, go_sem, bowV, bw0, z0, z1, z2, z3, z4, z5, z6, z7, z8]) rfl ⟨rfl, HFK.out⟩
set_option maxRecDepth 100000 in
set_option maxHeartbeats 8000000 in
theorem rbow_3_e2 (s : Sc) (ax ay ak bx b_y bk cx cy ck dx dy dk : Int) (hs : mayS s = true) (h1 : (dotP s ⟨ax, ay, ak⟩).2 = 0) (h4 : (dotP s ⟨dx, dy, dk⟩).2 = 10) (w : World) : Calls Try.prog 41 #[scV s, cvV ⟨3, ⟨ax, ay, ak⟩, ⟨bx, b_y, bk⟩, ⟨cx, cy, ck⟩, ⟨dx, dy, dk⟩⟩] w fun r w' => r = .returned (.tuple #[bowV bw0, .int .i64 10]) ∧ Kp [] w w' := by
  have HD1 := Lib.hid (fun W => rfdot_calls s ⟨ax, ay, ak⟩ hs W)
  have HD2 := Lib.hid (fun W => rfdot_calls s ⟨bx, b_y, bk⟩ hs W)
  have HD3 := Lib.hid (fun W => rfdot_calls s ⟨cx, cy, ck⟩ hs W)
  have HD4 := Lib.hid (fun W => rfdot_calls s ⟨dx, dy, dk⟩ hs W)
  rw [h1] at HD1
  rw [h4] at HD4
  clear h1 h4
  obtain ⟨⟨X1, Y1⟩, hX1⟩ : ∃ q, (dotP s ⟨ax, ay, ak⟩).1 = q := ⟨_, rfl⟩
  rw [hX1] at HD1
  clear hX1
  obtain ⟨⟨⟨X2, Y2⟩, E2⟩, hX2⟩ : ∃ q, dotP s ⟨bx, b_y, bk⟩ = q := ⟨_, rfl⟩
  rw [hX2] at HD2
  clear hX2
  obtain ⟨⟨⟨X3, Y3⟩, E3⟩, hX3⟩ : ∃ q, dotP s ⟨cx, cy, ck⟩ = q := ⟨_, rfl⟩
  rw [hX3] at HD3
  clear hX3
  obtain ⟨⟨X4, Y4⟩, hX4⟩ : ∃ q, (dotP s ⟨dx, dy, dk⟩).1 = q := ⟨_, rfl⟩
  rw [hX4] at HD4
  clear hX4
  dsimp only [dotV] at HD1 HD2 HD3 HD4
  rw [show cvV ⟨3, ⟨ax, ay, ak⟩, ⟨bx, b_y, bk⟩, ⟨cx, cy, ck⟩, ⟨dx, dy, dk⟩⟩ = .agg #[.int .i64 3, .int .i64 ax, .int .i64 ay, .int .i64 ak, .int .i64 bx, .int .i64 b_y, .int .i64 bk, .int .i64 cx, .int .i64 cy, .int .i64 ck, .int .i64 dx, .int .i64 dy, .int .i64 dk] from rfl]
  clear hs
  rw [show scV s = .agg #[.int .i64 s.u, .int .i64 s.p, .int .i64 s.fx, .int .i64 s.fy] from rfl] at *
  go_enter Try.func41, Try.ntmps41
  go_wp2_with fail
  obtain ⟨q1, q2, q3⟩ := three_heap (w := w) (A := .cells #[.int .i64 s.u, .int .i64 s.p, .int .i64 s.fx, .int .i64 s.fy] 23) (B := .cells (cvCells ⟨3, ⟨ax, ay, ak⟩, ⟨bx, b_y, bk⟩, ⟨cx, cy, ck⟩, ⟨dx, dy, dk⟩⟩) 75) (C := .cells #[.int .i64 0, .int .i64 0, .int .i64 0, .int .i64 0, .int .i64 0, .int .i64 0, .int .i64 0, .int .i64 0, .int .i64 0] 71) rfl
  have hk : Kp [] w (((w.alloc (.cells #[.int .i64 s.u, .int .i64 s.p, .int .i64 s.fx, .int .i64 s.fy] 23)).alloc (.cells #[.int .i64 3, .int .i64 ax, .int .i64 ay, .int .i64 ak, .int .i64 bx, .int .i64 b_y, .int .i64 bk, .int .i64 cx, .int .i64 cy, .int .i64 ck, .int .i64 dx, .int .i64 dy, .int .i64 dk] 75)).alloc (.cells #[.int .i64 0, .int .i64 0, .int .i64 0, .int .i64 0, .int .i64 0, .int .i64 0, .int .i64 0, .int .i64 0, .int .i64 0] 71)) := by (repeat (first | exact Kp.refl _ _ | assumption | refine Kp.drew ?_ | refine Kp.drewN ?_ _ | refine Kp.alloc ?_ _ | (refine Kp.setCell ?_ (by first | (left; simp; done) | (right; simp; try omega)) _) | (refine Kp.trans' ?_ (by assumption) (by simp; try omega))))
  have hz : ((((w.alloc (.cells #[.int .i64 s.u, .int .i64 s.p, .int .i64 s.fx, .int .i64 s.fy] 23)).alloc (.cells #[.int .i64 3, .int .i64 ax, .int .i64 ay, .int .i64 ak, .int .i64 bx, .int .i64 b_y, .int .i64 bk, .int .i64 cx, .int .i64 cy, .int .i64 ck, .int .i64 dx, .int .i64 dy, .int .i64 dk] 75)).alloc (.cells #[.int .i64 0, .int .i64 0, .int .i64 0, .int .i64 0, .int .i64 0, .int .i64 0, .int .i64 0, .int .i64 0, .int .i64 0] 71))).heap.size = w.heap.size + 1 + 1 + 1 := by simp
  change ((((w.alloc (.cells #[.int .i64 s.u, .int .i64 s.p, .int .i64 s.fx, .int .i64 s.fy] 23)).alloc (.cells #[.int .i64 3, .int .i64 ax, .int .i64 ay, .int .i64 ak, .int .i64 bx, .int .i64 b_y, .int .i64 bk, .int .i64 cx, .int .i64 cy, .int .i64 ck, .int .i64 dx, .int .i64 dy, .int .i64 dk] 75)).alloc (.cells #[.int .i64 0, .int .i64 0, .int .i64 0, .int .i64 0, .int .i64 0, .int .i64 0, .int .i64 0, .int .i64 0, .int .i64 0] 71))).heap[w.heap.size]? = _ at q1
  change ((((w.alloc (.cells #[.int .i64 s.u, .int .i64 s.p, .int .i64 s.fx, .int .i64 s.fy] 23)).alloc (.cells #[.int .i64 3, .int .i64 ax, .int .i64 ay, .int .i64 ak, .int .i64 bx, .int .i64 b_y, .int .i64 bk, .int .i64 cx, .int .i64 cy, .int .i64 ck, .int .i64 dx, .int .i64 dy, .int .i64 dk] 75)).alloc (.cells #[.int .i64 0, .int .i64 0, .int .i64 0, .int .i64 0, .int .i64 0, .int .i64 0, .int .i64 0, .int .i64 0, .int .i64 0] 71))).heap[w.heap.size + 1]? = _ at q2
  change ((((w.alloc (.cells #[.int .i64 s.u, .int .i64 s.p, .int .i64 s.fx, .int .i64 s.fy] 23)).alloc (.cells #[.int .i64 3, .int .i64 ax, .int .i64 ay, .int .i64 ak, .int .i64 bx, .int .i64 b_y, .int .i64 bk, .int .i64 cx, .int .i64 cy, .int .i64 ck, .int .i64 dx, .int .i64 dy, .int .i64 dk] 75)).alloc (.cells #[.int .i64 0, .int .i64 0, .int .i64 0, .int .i64 0, .int .i64 0, .int .i64 0, .int .i64 0, .int .i64 0, .int .i64 0] 71))).heap[w.heap.size + 1 + 1]? = _ at q3
  generalize (((w.alloc (.cells #[.int .i64 s.u, .int .i64 s.p, .int .i64 s.fx, .int .i64 s.fy] 23)).alloc (.cells #[.int .i64 3, .int .i64 ax, .int .i64 ay, .int .i64 ak, .int .i64 bx, .int .i64 b_y, .int .i64 bk, .int .i64 cx, .int .i64 cy, .int .i64 ck, .int .i64 dx, .int .i64 dy, .int .i64 dk] 75)).alloc (.cells #[.int .i64 0, .int .i64 0, .int .i64 0, .int .i64 0, .int .i64 0, .int .i64 0, .int .i64 0, .int .i64 0, .int .i64 0] 71)) = W0 at *
  have HS : Hid (ScAt W0 w.heap.size s) := q1
  have HC : Hid (CvAt W0 (w.heap.size + 1) ⟨3, ⟨ax, ay, ak⟩, ⟨bx, b_y, bk⟩, ⟨cx, cy, ck⟩, ⟨dx, dy, dk⟩⟩) := q2
  have HR : Hid (BowAt W0 (w.heap.size + 1 + 1) bw0) := q3
  have HK := Lib.hid hk
  have HZ := Lib.hid hz
  clear hk hz q1 q2 q3
  obtain ⟨s0, s1, s2, s3⟩ := HS.out.cells
  obtain ⟨v0, v1, v2, v3, v4, v5, v6, v7, v8, v9, v10, v11, v12⟩ := HC.out.cells
  dsimp only at v0 v1 v2 v3 v4 v5 v6 v7 v8 v9 v10 v11 v12
  go_wp2_with fail
  refine (HD1.out _).mono ?_; rintro e x1 ⟨rfl, hk1⟩
  clear s0 s1 s2 s3 v0 v1 v2 v3 v4 v5 v6 v7 v8 v9 v10 v11 v12
  go_upto_region 2 with fail
  refine wp_gen ?_; intro W1 hW1
  obtain ⟨B1, hB1⟩ : ∃ B, x1.heap.size = B := ⟨_, rfl⟩
  have hka : Kp [] W0 W1 := by rw [hW1]; exact hk1.alloc _
  have HB1 : Hid (DtAt W1 B1 X1 Y1) := by show DtAt _ _ _ _; rw [hW1, ← hB1]; exact heap_alloc_new _ _
  have hl1 : w.heap.size + 1 + 1 + 1 ≤ B1 := by rw [← hB1]; have := hk1.size; have := HZ.out; omega
  replace HS : Hid (ScAt W1 w.heap.size s) := HS.out.kp0 hka
  replace HC : Hid (CvAt W1 (w.heap.size + 1) _) := HC.out.kp hka (by simp)
  replace HR : Hid (BowAt W1 (w.heap.size + 1 + 1) bw0) := HR.out.kp hka (by simp)
  replace HK : Hid (Kp [] w W1) := HK.out.trans hka
  rw [hB1]
  clear hW1 hB1 hka hk1 HD1
  obtain ⟨s0, s1, s2, s3⟩ := HS.out.cells
  obtain ⟨v0, v1, v2, v3, v4, v5, v6, v7, v8, v9, v10, v11, v12⟩ := HC.out.cells
  dsimp only at v0 v1 v2 v3 v4 v5 v6 v7 v8 v9 v10 v11 v12
  go_wp2_with fail
  refine (HD2.out _).mono ?_; rintro e x2 ⟨rfl, hk2⟩
  clear s0 s1 s2 s3 v0 v1 v2 v3 v4 v5 v6 v7 v8 v9 v10 v11 v12
  go_upto_region 3 with fail
  refine wp_gen ?_; intro W2 hW2
  obtain ⟨B2, hB2⟩ : ∃ B, x2.heap.size = B := ⟨_, rfl⟩
  have hka : Kp [] W1 W2 := by rw [hW2]; exact hk2.alloc _
  have HB2 : Hid (DtAt W2 B2 X2 Y2) := by show DtAt _ _ _ _; rw [hW2, ← hB2]; exact heap_alloc_new _ _
  have hl2 : B1 + 1 ≤ B2 := by rw [← hB2]; have := hk2.size; have := lt_of_block HB1.out; omega
  replace HS : Hid (ScAt W2 w.heap.size s) := HS.out.kp0 hka
  replace HC : Hid (CvAt W2 (w.heap.size + 1) _) := HC.out.kp hka (by simp)
  replace HR : Hid (BowAt W2 (w.heap.size + 1 + 1) bw0) := HR.out.kp hka (by simp)
  replace HK : Hid (Kp [] w W2) := HK.out.trans hka
  replace HB1 : Hid (DtAt W2 B1 X1 Y1) := HB1.out.kp0 hka
  rw [hB2]
  clear hW2 hB2 hka hk2 HD2
  obtain ⟨s0, s1, s2, s3⟩ := HS.out.cells
  obtain ⟨v0, v1, v2, v3, v4, v5, v6, v7, v8, v9, v10, v11, v12⟩ := HC.out.cells
  dsimp only at v0 v1 v2 v3 v4 v5 v6 v7 v8 v9 v10 v11 v12
  go_wp2_with fail
  refine (HD3.out _).mono ?_; rintro e x3 ⟨rfl, hk3⟩
  clear s0 s1 s2 s3 v0 v1 v2 v3 v4 v5 v6 v7 v8 v9 v10 v11 v12
  go_upto_region 4 with fail
  refine wp_gen ?_; intro W3 hW3
  obtain ⟨B3, hB3⟩ : ∃ B, x3.heap.size = B := ⟨_, rfl⟩
  have hka : Kp [] W2 W3 := by rw [hW3]; exact hk3.alloc _
  have HB3 : Hid (DtAt W3 B3 X3 Y3) := by show DtAt _ _ _ _; rw [hW3, ← hB3]; exact heap_alloc_new _ _
  have hl3 : B2 + 1 ≤ B3 := by rw [← hB3]; have := hk3.size; have := lt_of_block HB2.out; omega
  replace HS : Hid (ScAt W3 w.heap.size s) := HS.out.kp0 hka
  replace HC : Hid (CvAt W3 (w.heap.size + 1) _) := HC.out.kp hka (by simp)
  replace HR : Hid (BowAt W3 (w.heap.size + 1 + 1) bw0) := HR.out.kp hka (by simp)
  replace HK : Hid (Kp [] w W3) := HK.out.trans hka
  replace HB1 : Hid (DtAt W3 B1 X1 Y1) := HB1.out.kp0 hka
  replace HB2 : Hid (DtAt W3 B2 X2 Y2) := HB2.out.kp0 hka
  rw [hB3]
  clear hW3 hB3 hka hk3 HD3
  obtain ⟨s0, s1, s2, s3⟩ := HS.out.cells
  obtain ⟨v0, v1, v2, v3, v4, v5, v6, v7, v8, v9, v10, v11, v12⟩ := HC.out.cells
  dsimp only at v0 v1 v2 v3 v4 v5 v6 v7 v8 v9 v10 v11 v12
  go_wp2_with fail
  refine (HD4.out _).mono ?_; rintro e x4 ⟨rfl, hk4⟩
  clear s0 s1 s2 s3 v0 v1 v2 v3 v4 v5 v6 v7 v8 v9 v10 v11 v12
  go_upto_region 5 with fail
  refine wp_gen ?_; intro W4 hW4
  obtain ⟨B4, hB4⟩ : ∃ B, x4.heap.size = B := ⟨_, rfl⟩
  have hka : Kp [] W3 W4 := by rw [hW4]; exact hk4.alloc _
  have HB4 : Hid (DtAt W4 B4 X4 Y4) := by show DtAt _ _ _ _; rw [hW4, ← hB4]; exact heap_alloc_new _ _
  have hl4 : B3 + 1 ≤ B4 := by rw [← hB4]; have := hk4.size; have := lt_of_block HB3.out; omega
  replace HS : Hid (ScAt W4 w.heap.size s) := HS.out.kp0 hka
  replace HC : Hid (CvAt W4 (w.heap.size + 1) _) := HC.out.kp hka (by simp)
  replace HR : Hid (BowAt W4 (w.heap.size + 1 + 1) bw0) := HR.out.kp hka (by simp)
  replace HK : Hid (Kp [] w W4) := HK.out.trans hka
  replace HB1 : Hid (DtAt W4 B1 X1 Y1) := HB1.out.kp0 hka
  replace HB2 : Hid (DtAt W4 B2 X2 Y2) := HB2.out.kp0 hka
  replace HB3 : Hid (DtAt W4 B3 X3 Y3) := HB3.out.kp0 hka
  rw [hB4]
  clear hW4 hB4 hka hk4 HD4
  have hc0 := HC.out.cells.1
  dsimp only at hc0
  go_upto_region 9 with fail
  clear hc0
  refine wp_gen ?_; intro W5 hW5
  replace HC : Hid (CvAt W5 (w.heap.size + 1) ⟨3, ⟨ax, ay, ak⟩, ⟨bx, b_y, bk⟩, ⟨cx, cy, ck⟩, ⟨dx, dy, dk⟩⟩) := by show CvAt _ _ _; rw [hW5]; exact HC.out
  replace HR : Hid (BowAt W5 (w.heap.size + 1 + 1) bw0) := by show BowAt _ _ _; rw [hW5]; exact HR.out
  replace HB1 : Hid (DtAt W5 B1 X1 Y1) := by show DtAt _ _ _ _; rw [hW5]; exact HB1.out
  replace HB4 : Hid (DtAt W5 B4 X4 Y4) := by show DtAt _ _ _ _; rw [hW5]; exact HB4.out
  replace HB2 : Hid (DtAt W5 B2 X2 Y2) := by show DtAt _ _ _ _; rw [hW5]; exact HB2.out
  replace HB3 : Hid (DtAt W5 B3 X3 Y3) := by show DtAt _ _ _ _; rw [hW5]; exact HB3.out
  replace HK : Hid (Kp [] w W5) := by show Kp _ _ _; rw [hW5]; exact HK.out
  clear hW5 HS
  have hc0 := HC.out.cells.1
  dsimp only at hc0
  go_upto_region 10 with fail
  clear hc0
  obtain ⟨y0, y1, y2, y3, y4, y5, y6, y7, y8⟩ := HR.out.cells
  dsimp only [bw0] at y0 y1 y2 y3 y4 y5 y6 y7 y8
  have g0 := HR.out.frozen 0
  have g1 := HR.out.frozen 1
  have g2 := HR.out.frozen 2
  have g3 := HR.out.frozen 3
  have g4 := HR.out.frozen 4
  have g5 := HR.out.frozen 5
  have g6 := HR.out.frozen 6
  have g7 := HR.out.frozen 7
  have g8 := HR.out.frozen 8
  have HFN := Lib.hid (HR.out.put9 bw0)
  have HFK := Lib.hid (put9_kp (B := w.heap.size + 1 + 1) HK.out (by omega) bw0)
  go_wp2_with fail
  obtain ⟨z0, z1, z2, z3, z4, z5, z6, z7, z8⟩ := HFN.out.cells
  unfold put9 bw0 at z0 z1 z2 z3 z4 z5 z6 z7 z8
  dsimp only at z0 z1 z2 z3 z4 z5 z6 z7 z8
  refine bodyPost_ret (v := .tuple #[bowV bw0, .int .i64 10]) (by simp [results, Try.results41, go_sem, bowV, bw0, z0, z1, z2, z3, z4, z5, z6, z7, z8]) rfl ⟨rfl, HFK.out⟩
set_option maxRecDepth 100000 in
set_option maxHeartbeats 8000000 in
theorem rbow_3_e3 (s : Sc) (ax ay ak bx b_y bk cx cy ck dx dy dk : Int) (hs : mayS s = true) (h1 : (dotP s ⟨ax, ay, ak⟩).2 = 0) (h4 : (dotP s ⟨dx, dy, dk⟩).2 = 0) (h2 : (dotP s ⟨bx, b_y, bk⟩).2 = 10) (w : World) : Calls Try.prog 41 #[scV s, cvV ⟨3, ⟨ax, ay, ak⟩, ⟨bx, b_y, bk⟩, ⟨cx, cy, ck⟩, ⟨dx, dy, dk⟩⟩] w fun r w' => r = .returned (.tuple #[bowV bw0, .int .i64 10]) ∧ Kp [] w w' := by
  have HD1 := Lib.hid (fun W => rfdot_calls s ⟨ax, ay, ak⟩ hs W)
  have HD2 := Lib.hid (fun W => rfdot_calls s ⟨bx, b_y, bk⟩ hs W)
  have HD3 := Lib.hid (fun W => rfdot_calls s ⟨cx, cy, ck⟩ hs W)
  have HD4 := Lib.hid (fun W => rfdot_calls s ⟨dx, dy, dk⟩ hs W)
  rw [h1] at HD1
  rw [h4] at HD4
  rw [h2] at HD2
  clear h1 h4 h2
  obtain ⟨⟨X1, Y1⟩, hX1⟩ : ∃ q, (dotP s ⟨ax, ay, ak⟩).1 = q := ⟨_, rfl⟩
  rw [hX1] at HD1
  clear hX1
  obtain ⟨⟨X2, Y2⟩, hX2⟩ : ∃ q, (dotP s ⟨bx, b_y, bk⟩).1 = q := ⟨_, rfl⟩
  rw [hX2] at HD2
  clear hX2
  obtain ⟨⟨⟨X3, Y3⟩, E3⟩, hX3⟩ : ∃ q, dotP s ⟨cx, cy, ck⟩ = q := ⟨_, rfl⟩
  rw [hX3] at HD3
  clear hX3
  obtain ⟨⟨X4, Y4⟩, hX4⟩ : ∃ q, (dotP s ⟨dx, dy, dk⟩).1 = q := ⟨_, rfl⟩
  rw [hX4] at HD4
  clear hX4
  dsimp only [dotV] at HD1 HD2 HD3 HD4
  rw [show cvV ⟨3, ⟨ax, ay, ak⟩, ⟨bx, b_y, bk⟩, ⟨cx, cy, ck⟩, ⟨dx, dy, dk⟩⟩ = .agg #[.int .i64 3, .int .i64 ax, .int .i64 ay, .int .i64 ak, .int .i64 bx, .int .i64 b_y, .int .i64 bk, .int .i64 cx, .int .i64 cy, .int .i64 ck, .int .i64 dx, .int .i64 dy, .int .i64 dk] from rfl]
  clear hs
  rw [show scV s = .agg #[.int .i64 s.u, .int .i64 s.p, .int .i64 s.fx, .int .i64 s.fy] from rfl] at *
  go_enter Try.func41, Try.ntmps41
  go_wp2_with fail
  obtain ⟨q1, q2, q3⟩ := three_heap (w := w) (A := .cells #[.int .i64 s.u, .int .i64 s.p, .int .i64 s.fx, .int .i64 s.fy] 23) (B := .cells (cvCells ⟨3, ⟨ax, ay, ak⟩, ⟨bx, b_y, bk⟩, ⟨cx, cy, ck⟩, ⟨dx, dy, dk⟩⟩) 75) (C := .cells #[.int .i64 0, .int .i64 0, .int .i64 0, .int .i64 0, .int .i64 0, .int .i64 0, .int .i64 0, .int .i64 0, .int .i64 0] 71) rfl
  have hk : Kp [] w (((w.alloc (.cells #[.int .i64 s.u, .int .i64 s.p, .int .i64 s.fx, .int .i64 s.fy] 23)).alloc (.cells #[.int .i64 3, .int .i64 ax, .int .i64 ay, .int .i64 ak, .int .i64 bx, .int .i64 b_y, .int .i64 bk, .int .i64 cx, .int .i64 cy, .int .i64 ck, .int .i64 dx, .int .i64 dy, .int .i64 dk] 75)).alloc (.cells #[.int .i64 0, .int .i64 0, .int .i64 0, .int .i64 0, .int .i64 0, .int .i64 0, .int .i64 0, .int .i64 0, .int .i64 0] 71)) := by (repeat (first | exact Kp.refl _ _ | assumption | refine Kp.drew ?_ | refine Kp.drewN ?_ _ | refine Kp.alloc ?_ _ | (refine Kp.setCell ?_ (by first | (left; simp; done) | (right; simp; try omega)) _) | (refine Kp.trans' ?_ (by assumption) (by simp; try omega))))
  have hz : ((((w.alloc (.cells #[.int .i64 s.u, .int .i64 s.p, .int .i64 s.fx, .int .i64 s.fy] 23)).alloc (.cells #[.int .i64 3, .int .i64 ax, .int .i64 ay, .int .i64 ak, .int .i64 bx, .int .i64 b_y, .int .i64 bk, .int .i64 cx, .int .i64 cy, .int .i64 ck, .int .i64 dx, .int .i64 dy, .int .i64 dk] 75)).alloc (.cells #[.int .i64 0, .int .i64 0, .int .i64 0, .int .i64 0, .int .i64 0, .int .i64 0, .int .i64 0, .int .i64 0, .int .i64 0] 71))).heap.size = w.heap.size + 1 + 1 + 1 := by simp
  change ((((w.alloc (.cells #[.int .i64 s.u, .int .i64 s.p, .int .i64 s.fx, .int .i64 s.fy] 23)).alloc (.cells #[.int .i64 3, .int .i64 ax, .int .i64 ay, .int .i64 ak, .int .i64 bx, .int .i64 b_y, .int .i64 bk, .int .i64 cx, .int .i64 cy, .int .i64 ck, .int .i64 dx, .int .i64 dy, .int .i64 dk] 75)).alloc (.cells #[.int .i64 0, .int .i64 0, .int .i64 0, .int .i64 0, .int .i64 0, .int .i64 0, .int .i64 0, .int .i64 0, .int .i64 0] 71))).heap[w.heap.size]? = _ at q1
  change ((((w.alloc (.cells #[.int .i64 s.u, .int .i64 s.p, .int .i64 s.fx, .int .i64 s.fy] 23)).alloc (.cells #[.int .i64 3, .int .i64 ax, .int .i64 ay, .int .i64 ak, .int .i64 bx, .int .i64 b_y, .int .i64 bk, .int .i64 cx, .int .i64 cy, .int .i64 ck, .int .i64 dx, .int .i64 dy, .int .i64 dk] 75)).alloc (.cells #[.int .i64 0, .int .i64 0, .int .i64 0, .int .i64 0, .int .i64 0, .int .i64 0, .int .i64 0, .int .i64 0, .int .i64 0] 71))).heap[w.heap.size + 1]? = _ at q2
  change ((((w.alloc (.cells #[.int .i64 s.u, .int .i64 s.p, .int .i64 s.fx, .int .i64 s.fy] 23)).alloc (.cells #[.int .i64 3, .int .i64 ax, .int .i64 ay, .int .i64 ak, .int .i64 bx, .int .i64 b_y, .int .i64 bk, .int .i64 cx, .int .i64 cy, .int .i64 ck, .int .i64 dx, .int .i64 dy, .int .i64 dk] 75)).alloc (.cells #[.int .i64 0, .int .i64 0, .int .i64 0, .int .i64 0, .int .i64 0, .int .i64 0, .int .i64 0, .int .i64 0, .int .i64 0] 71))).heap[w.heap.size + 1 + 1]? = _ at q3
  generalize (((w.alloc (.cells #[.int .i64 s.u, .int .i64 s.p, .int .i64 s.fx, .int .i64 s.fy] 23)).alloc (.cells #[.int .i64 3, .int .i64 ax, .int .i64 ay, .int .i64 ak, .int .i64 bx, .int .i64 b_y, .int .i64 bk, .int .i64 cx, .int .i64 cy, .int .i64 ck, .int .i64 dx, .int .i64 dy, .int .i64 dk] 75)).alloc (.cells #[.int .i64 0, .int .i64 0, .int .i64 0, .int .i64 0, .int .i64 0, .int .i64 0, .int .i64 0, .int .i64 0, .int .i64 0] 71)) = W0 at *
  have HS : Hid (ScAt W0 w.heap.size s) := q1
  have HC : Hid (CvAt W0 (w.heap.size + 1) ⟨3, ⟨ax, ay, ak⟩, ⟨bx, b_y, bk⟩, ⟨cx, cy, ck⟩, ⟨dx, dy, dk⟩⟩) := q2
  have HR : Hid (BowAt W0 (w.heap.size + 1 + 1) bw0) := q3
  have HK := Lib.hid hk
  have HZ := Lib.hid hz
  clear hk hz q1 q2 q3
  obtain ⟨s0, s1, s2, s3⟩ := HS.out.cells
  obtain ⟨v0, v1, v2, v3, v4, v5, v6, v7, v8, v9, v10, v11, v12⟩ := HC.out.cells
  dsimp only at v0 v1 v2 v3 v4 v5 v6 v7 v8 v9 v10 v11 v12
  go_wp2_with fail
  refine (HD1.out _).mono ?_; rintro e x1 ⟨rfl, hk1⟩
  clear s0 s1 s2 s3 v0 v1 v2 v3 v4 v5 v6 v7 v8 v9 v10 v11 v12
  go_upto_region 2 with fail
  refine wp_gen ?_; intro W1 hW1
  obtain ⟨B1, hB1⟩ : ∃ B, x1.heap.size = B := ⟨_, rfl⟩
  have hka : Kp [] W0 W1 := by rw [hW1]; exact hk1.alloc _
  have HB1 : Hid (DtAt W1 B1 X1 Y1) := by show DtAt _ _ _ _; rw [hW1, ← hB1]; exact heap_alloc_new _ _
  have hl1 : w.heap.size + 1 + 1 + 1 ≤ B1 := by rw [← hB1]; have := hk1.size; have := HZ.out; omega
  replace HS : Hid (ScAt W1 w.heap.size s) := HS.out.kp0 hka
  replace HC : Hid (CvAt W1 (w.heap.size + 1) _) := HC.out.kp hka (by simp)
  replace HR : Hid (BowAt W1 (w.heap.size + 1 + 1) bw0) := HR.out.kp hka (by simp)
  replace HK : Hid (Kp [] w W1) := HK.out.trans hka
  rw [hB1]
  clear hW1 hB1 hka hk1 HD1
  obtain ⟨s0, s1, s2, s3⟩ := HS.out.cells
  obtain ⟨v0, v1, v2, v3, v4, v5, v6, v7, v8, v9, v10, v11, v12⟩ := HC.out.cells
  dsimp only at v0 v1 v2 v3 v4 v5 v6 v7 v8 v9 v10 v11 v12
  go_wp2_with fail
  refine (HD2.out _).mono ?_; rintro e x2 ⟨rfl, hk2⟩
  clear s0 s1 s2 s3 v0 v1 v2 v3 v4 v5 v6 v7 v8 v9 v10 v11 v12
  go_upto_region 3 with fail
  refine wp_gen ?_; intro W2 hW2
  obtain ⟨B2, hB2⟩ : ∃ B, x2.heap.size = B := ⟨_, rfl⟩
  have hka : Kp [] W1 W2 := by rw [hW2]; exact hk2.alloc _
  have HB2 : Hid (DtAt W2 B2 X2 Y2) := by show DtAt _ _ _ _; rw [hW2, ← hB2]; exact heap_alloc_new _ _
  have hl2 : B1 + 1 ≤ B2 := by rw [← hB2]; have := hk2.size; have := lt_of_block HB1.out; omega
  replace HS : Hid (ScAt W2 w.heap.size s) := HS.out.kp0 hka
  replace HC : Hid (CvAt W2 (w.heap.size + 1) _) := HC.out.kp hka (by simp)
  replace HR : Hid (BowAt W2 (w.heap.size + 1 + 1) bw0) := HR.out.kp hka (by simp)
  replace HK : Hid (Kp [] w W2) := HK.out.trans hka
  replace HB1 : Hid (DtAt W2 B1 X1 Y1) := HB1.out.kp0 hka
  rw [hB2]
  clear hW2 hB2 hka hk2 HD2
  obtain ⟨s0, s1, s2, s3⟩ := HS.out.cells
  obtain ⟨v0, v1, v2, v3, v4, v5, v6, v7, v8, v9, v10, v11, v12⟩ := HC.out.cells
  dsimp only at v0 v1 v2 v3 v4 v5 v6 v7 v8 v9 v10 v11 v12
  go_wp2_with fail
  refine (HD3.out _).mono ?_; rintro e x3 ⟨rfl, hk3⟩
  clear s0 s1 s2 s3 v0 v1 v2 v3 v4 v5 v6 v7 v8 v9 v10 v11 v12
  go_upto_region 4 with fail
  refine wp_gen ?_; intro W3 hW3
  obtain ⟨B3, hB3⟩ : ∃ B, x3.heap.size = B := ⟨_, rfl⟩
  have hka : Kp [] W2 W3 := by rw [hW3]; exact hk3.alloc _
  have HB3 : Hid (DtAt W3 B3 X3 Y3) := by show DtAt _ _ _ _; rw [hW3, ← hB3]; exact heap_alloc_new _ _
  have hl3 : B2 + 1 ≤ B3 := by rw [← hB3]; have := hk3.size; have := lt_of_block HB2.out; omega
  replace HS : Hid (ScAt W3 w.heap.size s) := HS.out.kp0 hka
  replace HC : Hid (CvAt W3 (w.heap.size + 1) _) := HC.out.kp hka (by simp)
  replace HR : Hid (BowAt W3 (w.heap.size + 1 + 1) bw0) := HR.out.kp hka (by simp)
  replace HK : Hid (Kp [] w W3) := HK.out.trans hka
  replace HB1 : Hid (DtAt W3 B1 X1 Y1) := HB1.out.kp0 hka
  replace HB2 : Hid (DtAt W3 B2 X2 Y2) := HB2.out.kp0 hka
  rw [hB3]
  clear hW3 hB3 hka hk3 HD3
  obtain ⟨s0, s1, s2, s3⟩ := HS.out.cells
  obtain ⟨v0, v1, v2, v3, v4, v5, v6, v7, v8, v9, v10, v11, v12⟩ := HC.out.cells
  dsimp only at v0 v1 v2 v3 v4 v5 v6 v7 v8 v9 v10 v11 v12
  go_wp2_with fail
  refine (HD4.out _).mono ?_; rintro e x4 ⟨rfl, hk4⟩
  clear s0 s1 s2 s3 v0 v1 v2 v3 v4 v5 v6 v7 v8 v9 v10 v11 v12
  go_upto_region 5 with fail
  refine wp_gen ?_; intro W4 hW4
  obtain ⟨B4, hB4⟩ : ∃ B, x4.heap.size = B := ⟨_, rfl⟩
  have hka : Kp [] W3 W4 := by rw [hW4]; exact hk4.alloc _
  have HB4 : Hid (DtAt W4 B4 X4 Y4) := by show DtAt _ _ _ _; rw [hW4, ← hB4]; exact heap_alloc_new _ _
  have hl4 : B3 + 1 ≤ B4 := by rw [← hB4]; have := hk4.size; have := lt_of_block HB3.out; omega
  replace HS : Hid (ScAt W4 w.heap.size s) := HS.out.kp0 hka
  replace HC : Hid (CvAt W4 (w.heap.size + 1) _) := HC.out.kp hka (by simp)
  replace HR : Hid (BowAt W4 (w.heap.size + 1 + 1) bw0) := HR.out.kp hka (by simp)
  replace HK : Hid (Kp [] w W4) := HK.out.trans hka
  replace HB1 : Hid (DtAt W4 B1 X1 Y1) := HB1.out.kp0 hka
  replace HB2 : Hid (DtAt W4 B2 X2 Y2) := HB2.out.kp0 hka
  replace HB3 : Hid (DtAt W4 B3 X3 Y3) := HB3.out.kp0 hka
  rw [hB4]
  clear hW4 hB4 hka hk4 HD4
  have hc0 := HC.out.cells.1
  dsimp only at hc0
  go_upto_region 9 with fail
  clear hc0
  refine wp_gen ?_; intro W5 hW5
  replace HC : Hid (CvAt W5 (w.heap.size + 1) ⟨3, ⟨ax, ay, ak⟩, ⟨bx, b_y, bk⟩, ⟨cx, cy, ck⟩, ⟨dx, dy, dk⟩⟩) := by show CvAt _ _ _; rw [hW5]; exact HC.out
  replace HR : Hid (BowAt W5 (w.heap.size + 1 + 1) bw0) := by show BowAt _ _ _; rw [hW5]; exact HR.out
  replace HB1 : Hid (DtAt W5 B1 X1 Y1) := by show DtAt _ _ _ _; rw [hW5]; exact HB1.out
  replace HB4 : Hid (DtAt W5 B4 X4 Y4) := by show DtAt _ _ _ _; rw [hW5]; exact HB4.out
  replace HB2 : Hid (DtAt W5 B2 X2 Y2) := by show DtAt _ _ _ _; rw [hW5]; exact HB2.out
  replace HB3 : Hid (DtAt W5 B3 X3 Y3) := by show DtAt _ _ _ _; rw [hW5]; exact HB3.out
  replace HK : Hid (Kp [] w W5) := by show Kp _ _ _; rw [hW5]; exact HK.out
  clear hW5 HS
  have hc0 := HC.out.cells.1
  dsimp only at hc0
  go_upto_region 10 with fail
  clear hc0
  obtain ⟨y0, y1, y2, y3, y4, y5, y6, y7, y8⟩ := HR.out.cells
  dsimp only [bw0] at y0 y1 y2 y3 y4 y5 y6 y7 y8
  have g0 := HR.out.frozen 0
  have g1 := HR.out.frozen 1
  have g2 := HR.out.frozen 2
  have g3 := HR.out.frozen 3
  have g4 := HR.out.frozen 4
  have g5 := HR.out.frozen 5
  have g6 := HR.out.frozen 6
  have g7 := HR.out.frozen 7
  have g8 := HR.out.frozen 8
  have HFN := Lib.hid (HR.out.put9 bw0)
  have HFK := Lib.hid (put9_kp (B := w.heap.size + 1 + 1) HK.out (by omega) bw0)
  go_wp2_with fail
  obtain ⟨z0, z1, z2, z3, z4, z5, z6, z7, z8⟩ := HFN.out.cells
  unfold put9 bw0 at z0 z1 z2 z3 z4 z5 z6 z7 z8
  dsimp only at z0 z1 z2 z3 z4 z5 z6 z7 z8
  refine bodyPost_ret (v := .tuple #[bowV bw0, .int .i64 10]) (by simp [results, Try.results41, go_sem, bowV, bw0, z0, z1, z2, z3, z4, z5, z6, z7, z8]) rfl ⟨rfl, HFK.out⟩
set_option maxRecDepth 100000 in
set_option maxHeartbeats 8000000 in
theorem rbow_3_e4 (s : Sc) (ax ay ak bx b_y bk cx cy ck dx dy dk : Int) (hs : mayS s = true) (h1 : (dotP s ⟨ax, ay, ak⟩).2 = 0) (h4 : (dotP s ⟨dx, dy, dk⟩).2 = 0) (h2 : (dotP s ⟨bx, b_y, bk⟩).2 = 0) (h3 : (dotP s ⟨cx, cy, ck⟩).2 = 10) (w : World) : Calls Try.prog 41 #[scV s, cvV ⟨3, ⟨ax, ay, ak⟩, ⟨bx, b_y, bk⟩, ⟨cx, cy, ck⟩, ⟨dx, dy, dk⟩⟩] w fun r w' => r = .returned (.tuple #[bowV bw0, .int .i64 10]) ∧ Kp [] w w' := by
  have HD1 := Lib.hid (fun W => rfdot_calls s ⟨ax, ay, ak⟩ hs W)
  have HD2 := Lib.hid (fun W => rfdot_calls s ⟨bx, b_y, bk⟩ hs W)
  have HD3 := Lib.hid (fun W => rfdot_calls s ⟨cx, cy, ck⟩ hs W)
  have HD4 := Lib.hid (fun W => rfdot_calls s ⟨dx, dy, dk⟩ hs W)
  rw [h1] at HD1
  rw [h4] at HD4
  rw [h2] at HD2
  rw [h3] at HD3
  clear h1 h4 h2 h3
  obtain ⟨⟨X1, Y1⟩, hX1⟩ : ∃ q, (dotP s ⟨ax, ay, ak⟩).1 = q := ⟨_, rfl⟩
  rw [hX1] at HD1
  clear hX1
  obtain ⟨⟨X2, Y2⟩, hX2⟩ : ∃ q, (dotP s ⟨bx, b_y, bk⟩).1 = q := ⟨_, rfl⟩
  rw [hX2] at HD2
  clear hX2
  obtain ⟨⟨X3, Y3⟩, hX3⟩ : ∃ q, (dotP s ⟨cx, cy, ck⟩).1 = q := ⟨_, rfl⟩
  rw [hX3] at HD3
  clear hX3
  obtain ⟨⟨X4, Y4⟩, hX4⟩ : ∃ q, (dotP s ⟨dx, dy, dk⟩).1 = q := ⟨_, rfl⟩
  rw [hX4] at HD4
  clear hX4
  dsimp only [dotV] at HD1 HD2 HD3 HD4
  rw [show cvV ⟨3, ⟨ax, ay, ak⟩, ⟨bx, b_y, bk⟩, ⟨cx, cy, ck⟩, ⟨dx, dy, dk⟩⟩ = .agg #[.int .i64 3, .int .i64 ax, .int .i64 ay, .int .i64 ak, .int .i64 bx, .int .i64 b_y, .int .i64 bk, .int .i64 cx, .int .i64 cy, .int .i64 ck, .int .i64 dx, .int .i64 dy, .int .i64 dk] from rfl]
  clear hs
  rw [show scV s = .agg #[.int .i64 s.u, .int .i64 s.p, .int .i64 s.fx, .int .i64 s.fy] from rfl] at *
  go_enter Try.func41, Try.ntmps41
  go_wp2_with fail
  obtain ⟨q1, q2, q3⟩ := three_heap (w := w) (A := .cells #[.int .i64 s.u, .int .i64 s.p, .int .i64 s.fx, .int .i64 s.fy] 23) (B := .cells (cvCells ⟨3, ⟨ax, ay, ak⟩, ⟨bx, b_y, bk⟩, ⟨cx, cy, ck⟩, ⟨dx, dy, dk⟩⟩) 75) (C := .cells #[.int .i64 0, .int .i64 0, .int .i64 0, .int .i64 0, .int .i64 0, .int .i64 0, .int .i64 0, .int .i64 0, .int .i64 0] 71) rfl
  have hk : Kp [] w (((w.alloc (.cells #[.int .i64 s.u, .int .i64 s.p, .int .i64 s.fx, .int .i64 s.fy] 23)).alloc (.cells #[.int .i64 3, .int .i64 ax, .int .i64 ay, .int .i64 ak, .int .i64 bx, .int .i64 b_y, .int .i64 bk, .int .i64 cx, .int .i64 cy, .int .i64 ck, .int .i64 dx, .int .i64 dy, .int .i64 dk] 75)).alloc (.cells #[.int .i64 0, .int .i64 0, .int .i64 0, .int .i64 0, .int .i64 0, .int .i64 0, .int .i64 0, .int .i64 0, .int .i64 0] 71)) := by (repeat (first | exact Kp.refl _ _ | assumption | refine Kp.drew ?_ | refine Kp.drewN ?_ _ | refine Kp.alloc ?_ _ | (refine Kp.setCell ?_ (by first | (left; simp; done) | (right; simp; try omega)) _) | (refine Kp.trans' ?_ (by assumption) (by simp; try omega))))
  have hz : ((((w.alloc (.cells #[.int .i64 s.u, .int .i64 s.p, .int .i64 s.fx, .int .i64 s.fy] 23)).alloc (.cells #[.int .i64 3, .int .i64 ax, .int .i64 ay, .int .i64 ak, .int .i64 bx, .int .i64 b_y, .int .i64 bk, .int .i64 cx, .int .i64 cy, .int .i64 ck, .int .i64 dx, .int .i64 dy, .int .i64 dk] 75)).alloc (.cells #[.int .i64 0, .int .i64 0, .int .i64 0, .int .i64 0, .int .i64 0, .int .i64 0, .int .i64 0, .int .i64 0, .int .i64 0] 71))).heap.size = w.heap.size + 1 + 1 + 1 := by simp
  change ((((w.alloc (.cells #[.int .i64 s.u, .int .i64 s.p, .int .i64 s.fx, .int .i64 s.fy] 23)).alloc (.cells #[.int .i64 3, .int .i64 ax, .int .i64 ay, .int .i64 ak, .int .i64 bx, .int .i64 b_y, .int .i64 bk, .int .i64 cx, .int .i64 cy, .int .i64 ck, .int .i64 dx, .int .i64 dy, .int .i64 dk] 75)).alloc (.cells #[.int .i64 0, .int .i64 0, .int .i64 0, .int .i64 0, .int .i64 0, .int .i64 0, .int .i64 0, .int .i64 0, .int .i64 0] 71))).heap[w.heap.size]? = _ at q1
  change ((((w.alloc (.cells #[.int .i64 s.u, .int .i64 s.p, .int .i64 s.fx, .int .i64 s.fy] 23)).alloc (.cells #[.int .i64 3, .int .i64 ax, .int .i64 ay, .int .i64 ak, .int .i64 bx, .int .i64 b_y, .int .i64 bk, .int .i64 cx, .int .i64 cy, .int .i64 ck, .int .i64 dx, .int .i64 dy, .int .i64 dk] 75)).alloc (.cells #[.int .i64 0, .int .i64 0, .int .i64 0, .int .i64 0, .int .i64 0, .int .i64 0, .int .i64 0, .int .i64 0, .int .i64 0] 71))).heap[w.heap.size + 1]? = _ at q2
  change ((((w.alloc (.cells #[.int .i64 s.u, .int .i64 s.p, .int .i64 s.fx, .int .i64 s.fy] 23)).alloc (.cells #[.int .i64 3, .int .i64 ax, .int .i64 ay, .int .i64 ak, .int .i64 bx, .int .i64 b_y, .int .i64 bk, .int .i64 cx, .int .i64 cy, .int .i64 ck, .int .i64 dx, .int .i64 dy, .int .i64 dk] 75)).alloc (.cells #[.int .i64 0, .int .i64 0, .int .i64 0, .int .i64 0, .int .i64 0, .int .i64 0, .int .i64 0, .int .i64 0, .int .i64 0] 71))).heap[w.heap.size + 1 + 1]? = _ at q3
  generalize (((w.alloc (.cells #[.int .i64 s.u, .int .i64 s.p, .int .i64 s.fx, .int .i64 s.fy] 23)).alloc (.cells #[.int .i64 3, .int .i64 ax, .int .i64 ay, .int .i64 ak, .int .i64 bx, .int .i64 b_y, .int .i64 bk, .int .i64 cx, .int .i64 cy, .int .i64 ck, .int .i64 dx, .int .i64 dy, .int .i64 dk] 75)).alloc (.cells #[.int .i64 0, .int .i64 0, .int .i64 0, .int .i64 0, .int .i64 0, .int .i64 0, .int .i64 0, .int .i64 0, .int .i64 0] 71)) = W0 at *
  have HS : Hid (ScAt W0 w.heap.size s) := q1
  have HC : Hid (CvAt W0 (w.heap.size + 1) ⟨3, ⟨ax, ay, ak⟩, ⟨bx, b_y, bk⟩, ⟨cx, cy, ck⟩, ⟨dx, dy, dk⟩⟩) := q2
  have HR : Hid (BowAt W0 (w.heap.size + 1 + 1) bw0) := q3
  have HK := Lib.hid hk
  have HZ := Lib.hid hz
  clear hk hz q1 q2 q3
  obtain ⟨s0, s1, s2, s3⟩ := HS.out.cells
  obtain ⟨v0, v1, v2, v3, v4, v5, v6, v7, v8, v9, v10, v11, v12⟩ := HC.out.cells
  dsimp only at v0 v1 v2 v3 v4 v5 v6 v7 v8 v9 v10 v11 v12
  go_wp2_with fail
  refine (HD1.out _).mono ?_; rintro e x1 ⟨rfl, hk1⟩
  clear s0 s1 s2 s3 v0 v1 v2 v3 v4 v5 v6 v7 v8 v9 v10 v11 v12
  go_upto_region 2 with fail
  refine wp_gen ?_; intro W1 hW1
  obtain ⟨B1, hB1⟩ : ∃ B, x1.heap.size = B := ⟨_, rfl⟩
  have hka : Kp [] W0 W1 := by rw [hW1]; exact hk1.alloc _
  have HB1 : Hid (DtAt W1 B1 X1 Y1) := by show DtAt _ _ _ _; rw [hW1, ← hB1]; exact heap_alloc_new _ _
  have hl1 : w.heap.size + 1 + 1 + 1 ≤ B1 := by rw [← hB1]; have := hk1.size; have := HZ.out; omega
  replace HS : Hid (ScAt W1 w.heap.size s) := HS.out.kp0 hka
  replace HC : Hid (CvAt W1 (w.heap.size + 1) _) := HC.out.kp hka (by simp)
  replace HR : Hid (BowAt W1 (w.heap.size + 1 + 1) bw0) := HR.out.kp hka (by simp)
  replace HK : Hid (Kp [] w W1) := HK.out.trans hka
  rw [hB1]
  clear hW1 hB1 hka hk1 HD1
  obtain ⟨s0, s1, s2, s3⟩ := HS.out.cells
  obtain ⟨v0, v1, v2, v3, v4, v5, v6, v7, v8, v9, v10, v11, v12⟩ := HC.out.cells
  dsimp only at v0 v1 v2 v3 v4 v5 v6 v7 v8 v9 v10 v11 v12
  go_wp2_with fail
  refine (HD2.out _).mono ?_; rintro e x2 ⟨rfl, hk2⟩
  clear s0 s1 s2 s3 v0 v1 v2 v3 v4 v5 v6 v7 v8 v9 v10 v11 v12
  go_upto_region 3 with fail
  refine wp_gen ?_; intro W2 hW2
  obtain ⟨B2, hB2⟩ : ∃ B, x2.heap.size = B := ⟨_, rfl⟩
  have hka : Kp [] W1 W2 := by rw [hW2]; exact hk2.alloc _
  have HB2 : Hid (DtAt W2 B2 X2 Y2) := by show DtAt _ _ _ _; rw [hW2, ← hB2]; exact heap_alloc_new _ _
  have hl2 : B1 + 1 ≤ B2 := by rw [← hB2]; have := hk2.size; have := lt_of_block HB1.out; omega
  replace HS : Hid (ScAt W2 w.heap.size s) := HS.out.kp0 hka
  replace HC : Hid (CvAt W2 (w.heap.size + 1) _) := HC.out.kp hka (by simp)
  replace HR : Hid (BowAt W2 (w.heap.size + 1 + 1) bw0) := HR.out.kp hka (by simp)
  replace HK : Hid (Kp [] w W2) := HK.out.trans hka
  replace HB1 : Hid (DtAt W2 B1 X1 Y1) := HB1.out.kp0 hka
  rw [hB2]
  clear hW2 hB2 hka hk2 HD2
  obtain ⟨s0, s1, s2, s3⟩ := HS.out.cells
  obtain ⟨v0, v1, v2, v3, v4, v5, v6, v7, v8, v9, v10, v11, v12⟩ := HC.out.cells
  dsimp only at v0 v1 v2 v3 v4 v5 v6 v7 v8 v9 v10 v11 v12
  go_wp2_with fail
  refine (HD3.out _).mono ?_; rintro e x3 ⟨rfl, hk3⟩
  clear s0 s1 s2 s3 v0 v1 v2 v3 v4 v5 v6 v7 v8 v9 v10 v11 v12
  go_upto_region 4 with fail
  refine wp_gen ?_; intro W3 hW3
  obtain ⟨B3, hB3⟩ : ∃ B, x3.heap.size = B := ⟨_, rfl⟩
  have hka : Kp [] W2 W3 := by rw [hW3]; exact hk3.alloc _
  have HB3 : Hid (DtAt W3 B3 X3 Y3) := by show DtAt _ _ _ _; rw [hW3, ← hB3]; exact heap_alloc_new _ _
  have hl3 : B2 + 1 ≤ B3 := by rw [← hB3]; have := hk3.size; have := lt_of_block HB2.out; omega
  replace HS : Hid (ScAt W3 w.heap.size s) := HS.out.kp0 hka
  replace HC : Hid (CvAt W3 (w.heap.size + 1) _) := HC.out.kp hka (by simp)
  replace HR : Hid (BowAt W3 (w.heap.size + 1 + 1) bw0) := HR.out.kp hka (by simp)
  replace HK : Hid (Kp [] w W3) := HK.out.trans hka
  replace HB1 : Hid (DtAt W3 B1 X1 Y1) := HB1.out.kp0 hka
  replace HB2 : Hid (DtAt W3 B2 X2 Y2) := HB2.out.kp0 hka
  rw [hB3]
  clear hW3 hB3 hka hk3 HD3
  obtain ⟨s0, s1, s2, s3⟩ := HS.out.cells
  obtain ⟨v0, v1, v2, v3, v4, v5, v6, v7, v8, v9, v10, v11, v12⟩ := HC.out.cells
  dsimp only at v0 v1 v2 v3 v4 v5 v6 v7 v8 v9 v10 v11 v12
  go_wp2_with fail
  refine (HD4.out _).mono ?_; rintro e x4 ⟨rfl, hk4⟩
  clear s0 s1 s2 s3 v0 v1 v2 v3 v4 v5 v6 v7 v8 v9 v10 v11 v12
  go_upto_region 5 with fail
  refine wp_gen ?_; intro W4 hW4
  obtain ⟨B4, hB4⟩ : ∃ B, x4.heap.size = B := ⟨_, rfl⟩
  have hka : Kp [] W3 W4 := by rw [hW4]; exact hk4.alloc _
  have HB4 : Hid (DtAt W4 B4 X4 Y4) := by show DtAt _ _ _ _; rw [hW4, ← hB4]; exact heap_alloc_new _ _
  have hl4 : B3 + 1 ≤ B4 := by rw [← hB4]; have := hk4.size; have := lt_of_block HB3.out; omega
  replace HS : Hid (ScAt W4 w.heap.size s) := HS.out.kp0 hka
  replace HC : Hid (CvAt W4 (w.heap.size + 1) _) := HC.out.kp hka (by simp)
  replace HR : Hid (BowAt W4 (w.heap.size + 1 + 1) bw0) := HR.out.kp hka (by simp)
  replace HK : Hid (Kp [] w W4) := HK.out.trans hka
  replace HB1 : Hid (DtAt W4 B1 X1 Y1) := HB1.out.kp0 hka
  replace HB2 : Hid (DtAt W4 B2 X2 Y2) := HB2.out.kp0 hka
  replace HB3 : Hid (DtAt W4 B3 X3 Y3) := HB3.out.kp0 hka
  rw [hB4]
  clear hW4 hB4 hka hk4 HD4
  have hc0 := HC.out.cells.1
  dsimp only at hc0
  go_upto_region 9 with fail
  clear hc0
  refine wp_gen ?_; intro W5 hW5
  replace HC : Hid (CvAt W5 (w.heap.size + 1) ⟨3, ⟨ax, ay, ak⟩, ⟨bx, b_y, bk⟩, ⟨cx, cy, ck⟩, ⟨dx, dy, dk⟩⟩) := by show CvAt _ _ _; rw [hW5]; exact HC.out
  replace HR : Hid (BowAt W5 (w.heap.size + 1 + 1) bw0) := by show BowAt _ _ _; rw [hW5]; exact HR.out
  replace HB1 : Hid (DtAt W5 B1 X1 Y1) := by show DtAt _ _ _ _; rw [hW5]; exact HB1.out
  replace HB4 : Hid (DtAt W5 B4 X4 Y4) := by show DtAt _ _ _ _; rw [hW5]; exact HB4.out
  replace HB2 : Hid (DtAt W5 B2 X2 Y2) := by show DtAt _ _ _ _; rw [hW5]; exact HB2.out
  replace HB3 : Hid (DtAt W5 B3 X3 Y3) := by show DtAt _ _ _ _; rw [hW5]; exact HB3.out
  replace HK : Hid (Kp [] w W5) := by show Kp _ _ _; rw [hW5]; exact HK.out
  clear hW5 HS
  have hc0 := HC.out.cells.1
  dsimp only at hc0
  go_upto_region 10 with fail
  clear hc0
  obtain ⟨y0, y1, y2, y3, y4, y5, y6, y7, y8⟩ := HR.out.cells
  dsimp only [bw0] at y0 y1 y2 y3 y4 y5 y6 y7 y8
  have g0 := HR.out.frozen 0
  have g1 := HR.out.frozen 1
  have g2 := HR.out.frozen 2
  have g3 := HR.out.frozen 3
  have g4 := HR.out.frozen 4
  have g5 := HR.out.frozen 5
  have g6 := HR.out.frozen 6
  have g7 := HR.out.frozen 7
  have g8 := HR.out.frozen 8
  have HFN := Lib.hid (HR.out.put9 bw0)
  have HFK := Lib.hid (put9_kp (B := w.heap.size + 1 + 1) HK.out (by omega) bw0)
  go_wp2_with fail
  obtain ⟨z0, z1, z2, z3, z4, z5, z6, z7, z8⟩ := HFN.out.cells
  unfold put9 bw0 at z0 z1 z2 z3 z4 z5 z6 z7 z8
  dsimp only at z0 z1 z2 z3 z4 z5 z6 z7 z8
  refine bodyPost_ret (v := .tuple #[bowV bw0, .int .i64 10]) (by simp [results, Try.results41, go_sem, bowV, bw0, z0, z1, z2, z3, z4, z5, z6, z7, z8]) rfl ⟨rfl, HFK.out⟩
set_option maxRecDepth 100000 in
set_option maxHeartbeats 8000000 in
theorem rbow_3_ok (s : Sc) (ax ay ak bx b_y bk cx cy ck dx dy dk : Int) (hs : mayS s = true) (h1 : (dotP s ⟨ax, ay, ak⟩).2 = 0) (h4 : (dotP s ⟨dx, dy, dk⟩).2 = 0) (h2 : (dotP s ⟨bx, b_y, bk⟩).2 = 0) (h3 : (dotP s ⟨cx, cy, ck⟩).2 = 0) (w : World) : Calls Try.prog 41 #[scV s, cvV ⟨3, ⟨ax, ay, ak⟩, ⟨bx, b_y, bk⟩, ⟨cx, cy, ck⟩, ⟨dx, dy, dk⟩⟩] w fun r w' => r = .returned (.tuple #[bowV (bowS s ⟨3, ⟨ax, ay, ak⟩, ⟨bx, b_y, bk⟩, ⟨cx, cy, ck⟩, ⟨dx, dy, dk⟩⟩), .int .i64 0]) ∧ Kp [] w w' := by
  have HD1 := Lib.hid (fun W => rfdot_calls s ⟨ax, ay, ak⟩ hs W)
  have HD2 := Lib.hid (fun W => rfdot_calls s ⟨bx, b_y, bk⟩ hs W)
  have HD3 := Lib.hid (fun W => rfdot_calls s ⟨cx, cy, ck⟩ hs W)
  have HD4 := Lib.hid (fun W => rfdot_calls s ⟨dx, dy, dk⟩ hs W)
  have HV : Hid (bowS s ⟨3, ⟨ax, ay, ak⟩, ⟨bx, b_y, bk⟩, ⟨cx, cy, ck⟩, ⟨dx, dy, dk⟩⟩ = ⟨3, (dotP s ⟨ax, ay, ak⟩).1, (dotP s ⟨bx, b_y, bk⟩).1, (dotP s ⟨cx, cy, ck⟩).1, (dotP s ⟨dx, dy, dk⟩).1⟩) := by show _ = _; unfold bowS; simp [dotS_P hs]
  generalize bowS s ⟨3, ⟨ax, ay, ak⟩, ⟨bx, b_y, bk⟩, ⟨cx, cy, ck⟩, ⟨dx, dy, dk⟩⟩ = RB at *
  rw [h1] at HD1
  rw [h4] at HD4
  rw [h2] at HD2
  rw [h3] at HD3
  clear h1 h4 h2 h3
  obtain ⟨⟨X1, Y1⟩, hX1⟩ : ∃ q, (dotP s ⟨ax, ay, ak⟩).1 = q := ⟨_, rfl⟩
  rw [hX1] at HD1 HV
  clear hX1
  obtain ⟨⟨X2, Y2⟩, hX2⟩ : ∃ q, (dotP s ⟨bx, b_y, bk⟩).1 = q := ⟨_, rfl⟩
  rw [hX2] at HD2 HV
  clear hX2
  obtain ⟨⟨X3, Y3⟩, hX3⟩ : ∃ q, (dotP s ⟨cx, cy, ck⟩).1 = q := ⟨_, rfl⟩
  rw [hX3] at HD3 HV
  clear hX3
  obtain ⟨⟨X4, Y4⟩, hX4⟩ : ∃ q, (dotP s ⟨dx, dy, dk⟩).1 = q := ⟨_, rfl⟩
  rw [hX4] at HD4 HV
  clear hX4
  dsimp only [dotV] at HD1 HD2 HD3 HD4
  rw [show cvV ⟨3, ⟨ax, ay, ak⟩, ⟨bx, b_y, bk⟩, ⟨cx, cy, ck⟩, ⟨dx, dy, dk⟩⟩ = .agg #[.int .i64 3, .int .i64 ax, .int .i64 ay, .int .i64 ak, .int .i64 bx, .int .i64 b_y, .int .i64 bk, .int .i64 cx, .int .i64 cy, .int .i64 ck, .int .i64 dx, .int .i64 dy, .int .i64 dk] from rfl]
  clear hs
  rw [show scV s = .agg #[.int .i64 s.u, .int .i64 s.p, .int .i64 s.fx, .int .i64 s.fy] from rfl] at *
  go_enter Try.func41, Try.ntmps41
  go_wp2_with fail
  obtain ⟨q1, q2, q3⟩ := three_heap (w := w) (A := .cells #[.int .i64 s.u, .int .i64 s.p, .int .i64 s.fx, .int .i64 s.fy] 23) (B := .cells (cvCells ⟨3, ⟨ax, ay, ak⟩, ⟨bx, b_y, bk⟩, ⟨cx, cy, ck⟩, ⟨dx, dy, dk⟩⟩) 75) (C := .cells #[.int .i64 0, .int .i64 0, .int .i64 0, .int .i64 0, .int .i64 0, .int .i64 0, .int .i64 0, .int .i64 0, .int .i64 0] 71) rfl
  have hk : Kp [] w (((w.alloc (.cells #[.int .i64 s.u, .int .i64 s.p, .int .i64 s.fx, .int .i64 s.fy] 23)).alloc (.cells #[.int .i64 3, .int .i64 ax, .int .i64 ay, .int .i64 ak, .int .i64 bx, .int .i64 b_y, .int .i64 bk, .int .i64 cx, .int .i64 cy, .int .i64 ck, .int .i64 dx, .int .i64 dy, .int .i64 dk] 75)).alloc (.cells #[.int .i64 0, .int .i64 0, .int .i64 0, .int .i64 0, .int .i64 0, .int .i64 0, .int .i64 0, .int .i64 0, .int .i64 0] 71)) := by (repeat (first | exact Kp.refl _ _ | assumption | refine Kp.drew ?_ | refine Kp.drewN ?_ _ | refine Kp.alloc ?_ _ | (refine Kp.setCell ?_ (by first | (left; simp; done) | (right; simp; try omega)) _) | (refine Kp.trans' ?_ (by assumption) (by simp; try omega))))
  have hz : ((((w.alloc (.cells #[.int .i64 s.u, .int .i64 s.p, .int .i64 s.fx, .int .i64 s.fy] 23)).alloc (.cells #[.int .i64 3, .int .i64 ax, .int .i64 ay, .int .i64 ak, .int .i64 bx, .int .i64 b_y, .int .i64 bk, .int .i64 cx, .int .i64 cy, .int .i64 ck, .int .i64 dx, .int .i64 dy, .int .i64 dk] 75)).alloc (.cells #[.int .i64 0, .int .i64 0, .int .i64 0, .int .i64 0, .int .i64 0, .int .i64 0, .int .i64 0, .int .i64 0, .int .i64 0] 71))).heap.size = w.heap.size + 1 + 1 + 1 := by simp
  change ((((w.alloc (.cells #[.int .i64 s.u, .int .i64 s.p, .int .i64 s.fx, .int .i64 s.fy] 23)).alloc (.cells #[.int .i64 3, .int .i64 ax, .int .i64 ay, .int .i64 ak, .int .i64 bx, .int .i64 b_y, .int .i64 bk, .int .i64 cx, .int .i64 cy, .int .i64 ck, .int .i64 dx, .int .i64 dy, .int .i64 dk] 75)).alloc (.cells #[.int .i64 0, .int .i64 0, .int .i64 0, .int .i64 0, .int .i64 0, .int .i64 0, .int .i64 0, .int .i64 0, .int .i64 0] 71))).heap[w.heap.size]? = _ at q1
  change ((((w.alloc (.cells #[.int .i64 s.u, .int .i64 s.p, .int .i64 s.fx, .int .i64 s.fy] 23)).alloc (.cells #[.int .i64 3, .int .i64 ax, .int .i64 ay, .int .i64 ak, .int .i64 bx, .int .i64 b_y, .int .i64 bk, .int .i64 cx, .int .i64 cy, .int .i64 ck, .int .i64 dx, .int .i64 dy, .int .i64 dk] 75)).alloc (.cells #[.int .i64 0, .int .i64 0, .int .i64 0, .int .i64 0, .int .i64 0, .int .i64 0, .int .i64 0, .int .i64 0, .int .i64 0] 71))).heap[w.heap.size + 1]? = _ at q2
  change ((((w.alloc (.cells #[.int .i64 s.u, .int .i64 s.p, .int .i64 s.fx, .int .i64 s.fy] 23)).alloc (.cells #[.int .i64 3, .int .i64 ax, .int .i64 ay, .int .i64 ak, .int .i64 bx, .int .i64 b_y, .int .i64 bk, .int .i64 cx, .int .i64 cy, .int .i64 ck, .int .i64 dx, .int .i64 dy, .int .i64 dk] 75)).alloc (.cells #[.int .i64 0, .int .i64 0, .int .i64 0, .int .i64 0, .int .i64 0, .int .i64 0, .int .i64 0, .int .i64 0, .int .i64 0] 71))).heap[w.heap.size + 1 + 1]? = _ at q3
  generalize (((w.alloc (.cells #[.int .i64 s.u, .int .i64 s.p, .int .i64 s.fx, .int .i64 s.fy] 23)).alloc (.cells #[.int .i64 3, .int .i64 ax, .int .i64 ay, .int .i64 ak, .int .i64 bx, .int .i64 b_y, .int .i64 bk, .int .i64 cx, .int .i64 cy, .int .i64 ck, .int .i64 dx, .int .i64 dy, .int .i64 dk] 75)).alloc (.cells #[.int .i64 0, .int .i64 0, .int .i64 0, .int .i64 0, .int .i64 0, .int .i64 0, .int .i64 0, .int .i64 0, .int .i64 0] 71)) = W0 at *
  have HS : Hid (ScAt W0 w.heap.size s) := q1
  have HC : Hid (CvAt W0 (w.heap.size + 1) ⟨3, ⟨ax, ay, ak⟩, ⟨bx, b_y, bk⟩, ⟨cx, cy, ck⟩, ⟨dx, dy, dk⟩⟩) := q2
  have HR : Hid (BowAt W0 (w.heap.size + 1 + 1) bw0) := q3
  have HK := Lib.hid hk
  have HZ := Lib.hid hz
  clear hk hz q1 q2 q3
  obtain ⟨s0, s1, s2, s3⟩ := HS.out.cells
  obtain ⟨v0, v1, v2, v3, v4, v5, v6, v7, v8, v9, v10, v11, v12⟩ := HC.out.cells
  dsimp only at v0 v1 v2 v3 v4 v5 v6 v7 v8 v9 v10 v11 v12
  go_wp2_with fail
  refine (HD1.out _).mono ?_; rintro e x1 ⟨rfl, hk1⟩
  clear s0 s1 s2 s3 v0 v1 v2 v3 v4 v5 v6 v7 v8 v9 v10 v11 v12
  go_upto_region 2 with fail
  refine wp_gen ?_; intro W1 hW1
  obtain ⟨B1, hB1⟩ : ∃ B, x1.heap.size = B := ⟨_, rfl⟩
  have hka : Kp [] W0 W1 := by rw [hW1]; exact hk1.alloc _
  have HB1 : Hid (DtAt W1 B1 X1 Y1) := by show DtAt _ _ _ _; rw [hW1, ← hB1]; exact heap_alloc_new _ _
  have hl1 : w.heap.size + 1 + 1 + 1 ≤ B1 := by rw [← hB1]; have := hk1.size; have := HZ.out; omega
  replace HS : Hid (ScAt W1 w.heap.size s) := HS.out.kp0 hka
  replace HC : Hid (CvAt W1 (w.heap.size + 1) _) := HC.out.kp hka (by simp)
  replace HR : Hid (BowAt W1 (w.heap.size + 1 + 1) bw0) := HR.out.kp hka (by simp)
  replace HK : Hid (Kp [] w W1) := HK.out.trans hka
  rw [hB1]
  clear hW1 hB1 hka hk1 HD1
  obtain ⟨s0, s1, s2, s3⟩ := HS.out.cells
  obtain ⟨v0, v1, v2, v3, v4, v5, v6, v7, v8, v9, v10, v11, v12⟩ := HC.out.cells
  dsimp only at v0 v1 v2 v3 v4 v5 v6 v7 v8 v9 v10 v11 v12
  go_wp2_with fail
  refine (HD2.out _).mono ?_; rintro e x2 ⟨rfl, hk2⟩
  clear s0 s1 s2 s3 v0 v1 v2 v3 v4 v5 v6 v7 v8 v9 v10 v11 v12
  go_upto_region 3 with fail
  refine wp_gen ?_; intro W2 hW2
  obtain ⟨B2, hB2⟩ : ∃ B, x2.heap.size = B := ⟨_, rfl⟩
  have hka : Kp [] W1 W2 := by rw [hW2]; exact hk2.alloc _
  have HB2 : Hid (DtAt W2 B2 X2 Y2) := by show DtAt _ _ _ _; rw [hW2, ← hB2]; exact heap_alloc_new _ _
  have hl2 : B1 + 1 ≤ B2 := by rw [← hB2]; have := hk2.size; have := lt_of_block HB1.out; omega
  replace HS : Hid (ScAt W2 w.heap.size s) := HS.out.kp0 hka
  replace HC : Hid (CvAt W2 (w.heap.size + 1) _) := HC.out.kp hka (by simp)
  replace HR : Hid (BowAt W2 (w.heap.size + 1 + 1) bw0) := HR.out.kp hka (by simp)
  replace HK : Hid (Kp [] w W2) := HK.out.trans hka
  replace HB1 : Hid (DtAt W2 B1 X1 Y1) := HB1.out.kp0 hka
  rw [hB2]
  clear hW2 hB2 hka hk2 HD2
  obtain ⟨s0, s1, s2, s3⟩ := HS.out.cells
  obtain ⟨v0, v1, v2, v3, v4, v5, v6, v7, v8, v9, v10, v11, v12⟩ := HC.out.cells
  dsimp only at v0 v1 v2 v3 v4 v5 v6 v7 v8 v9 v10 v11 v12
  go_wp2_with fail
  refine (HD3.out _).mono ?_; rintro e x3 ⟨rfl, hk3⟩
  clear s0 s1 s2 s3 v0 v1 v2 v3 v4 v5 v6 v7 v8 v9 v10 v11 v12
  go_upto_region 4 with fail
  refine wp_gen ?_; intro W3 hW3
  obtain ⟨B3, hB3⟩ : ∃ B, x3.heap.size = B := ⟨_, rfl⟩
  have hka : Kp [] W2 W3 := by rw [hW3]; exact hk3.alloc _
  have HB3 : Hid (DtAt W3 B3 X3 Y3) := by show DtAt _ _ _ _; rw [hW3, ← hB3]; exact heap_alloc_new _ _
  have hl3 : B2 + 1 ≤ B3 := by rw [← hB3]; have := hk3.size; have := lt_of_block HB2.out; omega
  replace HS : Hid (ScAt W3 w.heap.size s) := HS.out.kp0 hka
  replace HC : Hid (CvAt W3 (w.heap.size + 1) _) := HC.out.kp hka (by simp)
  replace HR : Hid (BowAt W3 (w.heap.size + 1 + 1) bw0) := HR.out.kp hka (by simp)
  replace HK : Hid (Kp [] w W3) := HK.out.trans hka
  replace HB1 : Hid (DtAt W3 B1 X1 Y1) := HB1.out.kp0 hka
  replace HB2 : Hid (DtAt W3 B2 X2 Y2) := HB2.out.kp0 hka
  rw [hB3]
  clear hW3 hB3 hka hk3 HD3
  obtain ⟨s0, s1, s2, s3⟩ := HS.out.cells
  obtain ⟨v0, v1, v2, v3, v4, v5, v6, v7, v8, v9, v10, v11, v12⟩ := HC.out.cells
  dsimp only at v0 v1 v2 v3 v4 v5 v6 v7 v8 v9 v10 v11 v12
  go_wp2_with fail
  refine (HD4.out _).mono ?_; rintro e x4 ⟨rfl, hk4⟩
  clear s0 s1 s2 s3 v0 v1 v2 v3 v4 v5 v6 v7 v8 v9 v10 v11 v12
  go_upto_region 5 with fail
  refine wp_gen ?_; intro W4 hW4
  obtain ⟨B4, hB4⟩ : ∃ B, x4.heap.size = B := ⟨_, rfl⟩
  have hka : Kp [] W3 W4 := by rw [hW4]; exact hk4.alloc _
  have HB4 : Hid (DtAt W4 B4 X4 Y4) := by show DtAt _ _ _ _; rw [hW4, ← hB4]; exact heap_alloc_new _ _
  have hl4 : B3 + 1 ≤ B4 := by rw [← hB4]; have := hk4.size; have := lt_of_block HB3.out; omega
  replace HS : Hid (ScAt W4 w.heap.size s) := HS.out.kp0 hka
  replace HC : Hid (CvAt W4 (w.heap.size + 1) _) := HC.out.kp hka (by simp)
  replace HR : Hid (BowAt W4 (w.heap.size + 1 + 1) bw0) := HR.out.kp hka (by simp)
  replace HK : Hid (Kp [] w W4) := HK.out.trans hka
  replace HB1 : Hid (DtAt W4 B1 X1 Y1) := HB1.out.kp0 hka
  replace HB2 : Hid (DtAt W4 B2 X2 Y2) := HB2.out.kp0 hka
  replace HB3 : Hid (DtAt W4 B3 X3 Y3) := HB3.out.kp0 hka
  rw [hB4]
  clear hW4 hB4 hka hk4 HD4
  have hc0 := HC.out.cells.1
  dsimp only at hc0
  go_upto_region 9 with fail
  clear hc0
  refine wp_gen ?_; intro W5 hW5
  replace HC : Hid (CvAt W5 (w.heap.size + 1) ⟨3, ⟨ax, ay, ak⟩, ⟨bx, b_y, bk⟩, ⟨cx, cy, ck⟩, ⟨dx, dy, dk⟩⟩) := by show CvAt _ _ _; rw [hW5]; exact HC.out
  replace HR : Hid (BowAt W5 (w.heap.size + 1 + 1) bw0) := by show BowAt _ _ _; rw [hW5]; exact HR.out
  replace HB1 : Hid (DtAt W5 B1 X1 Y1) := by show DtAt _ _ _ _; rw [hW5]; exact HB1.out
  replace HB4 : Hid (DtAt W5 B4 X4 Y4) := by show DtAt _ _ _ _; rw [hW5]; exact HB4.out
  replace HB2 : Hid (DtAt W5 B2 X2 Y2) := by show DtAt _ _ _ _; rw [hW5]; exact HB2.out
  replace HB3 : Hid (DtAt W5 B3 X3 Y3) := by show DtAt _ _ _ _; rw [hW5]; exact HB3.out
  replace HK : Hid (Kp [] w W5) := by show Kp _ _ _; rw [hW5]; exact HK.out
  clear hW5 HS
  have hc0 := HC.out.cells.1
  dsimp only at hc0
  go_upto_region 11 with fail
  clear hc0
  obtain ⟨y0, y1, y2, y3, y4, y5, y6, y7, y8⟩ := HR.out.cells
  dsimp only [bw0] at y0 y1 y2 y3 y4 y5 y6 y7 y8
  have g0 := HR.out.frozen 0
  have g1 := HR.out.frozen 1
  have g2 := HR.out.frozen 2
  have g3 := HR.out.frozen 3
  have g4 := HR.out.frozen 4
  have g5 := HR.out.frozen 5
  have g6 := HR.out.frozen 6
  have g7 := HR.out.frozen 7
  have g8 := HR.out.frozen 8
  obtain ⟨d10, d11, _, _⟩ := HB1.out.cells
  obtain ⟨d20, d21, _, _⟩ := HB2.out.cells
  obtain ⟨d30, d31, _, _⟩ := HB3.out.cells
  obtain ⟨d40, d41, _, _⟩ := HB4.out.cells
  have hc0 := HC.out.cells.1
  dsimp only at hc0
  have HFN := Lib.hid (HR.out.put9 ⟨3, (X1, Y1), (X2, Y2), (X3, Y3), (X4, Y4)⟩)
  have HFK := Lib.hid (put9_kp (B := w.heap.size + 1 + 1) HK.out (by omega) ⟨3, (X1, Y1), (X2, Y2), (X3, Y3), (X4, Y4)⟩)
  go_wp2_with fail
  obtain ⟨z0, z1, z2, z3, z4, z5, z6, z7, z8⟩ := HFN.out.cells
  unfold put9 at z0 z1 z2 z3 z4 z5 z6 z7 z8
  dsimp only at z0 z1 z2 z3 z4 z5 z6 z7 z8
  rw [HV.out]
  refine bodyPost_ret (v := .tuple #[bowV ⟨3, (X1, Y1), (X2, Y2), (X3, Y3), (X4, Y4)⟩, .int .i64 0]) (by simp [results, Try.results41, go_sem, bowV, bw0, z0, z1, z2, z3, z4, z5, z6, z7, z8]) rfl ⟨rfl, HFK.out⟩
theorem rbow_calls (s : Sc) (q : Cv) (hs : mayS s = true) (hk : q.k = 1 ∨ q.k = 2 ∨ q.k = 3) (w : World) : Calls Try.prog 41 #[scV s, cvV q] w fun r w' => r = .returned (.tuple #[bowV (bowR s q), .int .i64 (bowE s q)]) ∧ Kp [] w w' := by
  obtain ⟨qk, ⟨ax, ay, ak⟩, ⟨bx, b_y, bk⟩, ⟨cx, cy, ck⟩, ⟨dx, dy, dk⟩⟩ := q
  dsimp only at hk
  have E1 := dotP_err s ⟨ax, ay, ak⟩
  have E2 := dotP_err s ⟨bx, b_y, bk⟩
  have E3 := dotP_err s ⟨cx, cy, ck⟩
  have E4 := dotP_err s ⟨dx, dy, dk⟩
  have bad : ∀ k, bowE s ⟨k, ⟨ax, ay, ak⟩, ⟨bx, b_y, bk⟩, ⟨cx, cy, ck⟩, ⟨dx, dy, dk⟩⟩ = 10 → bowR s ⟨k, ⟨ax, ay, ak⟩, ⟨bx, b_y, bk⟩, ⟨cx, cy, ck⟩, ⟨dx, dy, dk⟩⟩ = bw0 := fun k h => by unfold bowR; rw [if_neg (by omega)]
  have good : ∀ k, bowE s ⟨k, ⟨ax, ay, ak⟩, ⟨bx, b_y, bk⟩, ⟨cx, cy, ck⟩, ⟨dx, dy, dk⟩⟩ = 0 → bowR s ⟨k, ⟨ax, ay, ak⟩, ⟨bx, b_y, bk⟩, ⟨cx, cy, ck⟩, ⟨dx, dy, dk⟩⟩ = bowS s ⟨k, ⟨ax, ay, ak⟩, ⟨bx, b_y, bk⟩, ⟨cx, cy, ck⟩, ⟨dx, dy, dk⟩⟩ := fun k h => by unfold bowR; rw [if_pos h]
  rcases hk with rfl | rfl | rfl
  ·
    rcases E1 with h1 | h1
    ·
      rcases E4 with h4 | h4
      ·
        have e : bowE s ⟨1, ⟨ax, ay, ak⟩, ⟨bx, b_y, bk⟩, ⟨cx, cy, ck⟩, ⟨dx, dy, dk⟩⟩ = 0 := by
          simp [bowE, bowPs, bowErr, dotS_P hs, h1, h4]
        rw [e, good _ e]
        exact rbow_1_ok s ax ay ak bx b_y bk cx cy ck dx dy dk hs h1 h4 w
      ·
        have e : bowE s ⟨1, ⟨ax, ay, ak⟩, ⟨bx, b_y, bk⟩, ⟨cx, cy, ck⟩, ⟨dx, dy, dk⟩⟩ = 10 := by
          simp [bowE, bowPs, bowErr, dotS_P hs, h1, h4]
        rw [e, bad _ e]
        exact rbow_1_e2 s ax ay ak bx b_y bk cx cy ck dx dy dk hs h1 h4 w
    ·
      have e : bowE s ⟨1, ⟨ax, ay, ak⟩, ⟨bx, b_y, bk⟩, ⟨cx, cy, ck⟩, ⟨dx, dy, dk⟩⟩ = 10 := by
        rcases E4 with u4 | u4 <;> simp [bowE, bowPs, bowErr, dotS_P hs, h1, u4]
      rw [e, bad _ e]
      exact rbow_1_e1 s ax ay ak bx b_y bk cx cy ck dx dy dk hs h1 w
  ·
    rcases E1 with h1 | h1
    ·
      rcases E4 with h4 | h4
      ·
        rcases E2 with h2 | h2
        ·
          have e : bowE s ⟨2, ⟨ax, ay, ak⟩, ⟨bx, b_y, bk⟩, ⟨cx, cy, ck⟩, ⟨dx, dy, dk⟩⟩ = 0 := by
            simp [bowE, bowPs, bowErr, dotS_P hs, h1, h4, h2]
          rw [e, good _ e]
          exact rbow_2_ok s ax ay ak bx b_y bk cx cy ck dx dy dk hs h1 h4 h2 w
        ·
          have e : bowE s ⟨2, ⟨ax, ay, ak⟩, ⟨bx, b_y, bk⟩, ⟨cx, cy, ck⟩, ⟨dx, dy, dk⟩⟩ = 10 := by
            simp [bowE, bowPs, bowErr, dotS_P hs, h1, h4, h2]
          rw [e, bad _ e]
          exact rbow_2_e3 s ax ay ak bx b_y bk cx cy ck dx dy dk hs h1 h4 h2 w
      ·
        have e : bowE s ⟨2, ⟨ax, ay, ak⟩, ⟨bx, b_y, bk⟩, ⟨cx, cy, ck⟩, ⟨dx, dy, dk⟩⟩ = 10 := by
          rcases E2 with u2 | u2 <;> simp [bowE, bowPs, bowErr, dotS_P hs, h1, h4, u2]
        rw [e, bad _ e]
        exact rbow_2_e2 s ax ay ak bx b_y bk cx cy ck dx dy dk hs h1 h4 w
    ·
      have e : bowE s ⟨2, ⟨ax, ay, ak⟩, ⟨bx, b_y, bk⟩, ⟨cx, cy, ck⟩, ⟨dx, dy, dk⟩⟩ = 10 := by
        rcases E4 with u4 | u4 <;> rcases E2 with u2 | u2 <;> simp [bowE, bowPs, bowErr, dotS_P hs, h1, u4, u2]
      rw [e, bad _ e]
      exact rbow_2_e1 s ax ay ak bx b_y bk cx cy ck dx dy dk hs h1 w
  ·
    rcases E1 with h1 | h1
    ·
      rcases E4 with h4 | h4
      ·
        rcases E2 with h2 | h2
        ·
          rcases E3 with h3 | h3
          ·
            have e : bowE s ⟨3, ⟨ax, ay, ak⟩, ⟨bx, b_y, bk⟩, ⟨cx, cy, ck⟩, ⟨dx, dy, dk⟩⟩ = 0 := by
              simp [bowE, bowPs, bowErr, dotS_P hs, h1, h4, h2, h3]
            rw [e, good _ e]
            exact rbow_3_ok s ax ay ak bx b_y bk cx cy ck dx dy dk hs h1 h4 h2 h3 w
          ·
            have e : bowE s ⟨3, ⟨ax, ay, ak⟩, ⟨bx, b_y, bk⟩, ⟨cx, cy, ck⟩, ⟨dx, dy, dk⟩⟩ = 10 := by
              simp [bowE, bowPs, bowErr, dotS_P hs, h1, h4, h2, h3]
            rw [e, bad _ e]
            exact rbow_3_e4 s ax ay ak bx b_y bk cx cy ck dx dy dk hs h1 h4 h2 h3 w
        ·
          have e : bowE s ⟨3, ⟨ax, ay, ak⟩, ⟨bx, b_y, bk⟩, ⟨cx, cy, ck⟩, ⟨dx, dy, dk⟩⟩ = 10 := by
            rcases E3 with u3 | u3 <;> simp [bowE, bowPs, bowErr, dotS_P hs, h1, h4, h2, u3]
          rw [e, bad _ e]
          exact rbow_3_e3 s ax ay ak bx b_y bk cx cy ck dx dy dk hs h1 h4 h2 w
      ·
        have e : bowE s ⟨3, ⟨ax, ay, ak⟩, ⟨bx, b_y, bk⟩, ⟨cx, cy, ck⟩, ⟨dx, dy, dk⟩⟩ = 10 := by
          rcases E3 with u3 | u3 <;> rcases E2 with u2 | u2 <;> simp [bowE, bowPs, bowErr, dotS_P hs, h1, h4, u3, u2]
        rw [e, bad _ e]
        exact rbow_3_e2 s ax ay ak bx b_y bk cx cy ck dx dy dk hs h1 h4 w
    ·
      have e : bowE s ⟨3, ⟨ax, ay, ak⟩, ⟨bx, b_y, bk⟩, ⟨cx, cy, ck⟩, ⟨dx, dy, dk⟩⟩ = 10 := by
        rcases E4 with u4 | u4 <;> rcases E3 with u3 | u3 <;> rcases E2 with u2 | u2 <;> simp [bowE, bowPs, bowErr, dotS_P hs, h1, u4, u3, u2]
      rw [e, bad _ e]
      exact rbow_3_e1 s ax ay ak bx b_y bk cx cy ck dx dy dk hs h1 w
end Go.Proofs.Ytpbmefojhgcniaa

/- compose: part of the reference. (Written by wip/compose/gencpn.py.) -/
import Derived.Test.YtodjohoonbkklaaCpM
namespace Go.Proofs.Ytodjohoonbkklaa
open Go.RowKit
set_option linter.unusedVariables false
set_option linter.unusedSimpArgs false
theorem drew_heap' (w : World) : w.drew.heap = w.heap := rfl
/-- Where the reference's 'part' stands in memory. -/
def PrSt (w wr : World) (r : Nat) (v : Value) (zs : List Int) (B : Nat) (s : Rs) (q : Pt) : Prop :=
  RrS wr r v zs s.1 s.2 ∧ wr.heap[B]? = some (.cells (ptCells q) 36 (0, 0)) ∧ wr.heap[w.heap.size]? = some (.cells #[.int .i64 0, .int .i64 0, .int .i64 0, .int .i64 0, .int .i64 0, .bool false, .int .i64 0, .int .i64 0, .bool false, .int .i64 0, .int .i64 0] 36 (0, 0)) ∧ Kp [r] w wr ∧ r < w.heap.size ∧ w.heap.size < B ∧ blockOf v ≠ some B ∧ blockOf v ≠ some w.heap.size
theorem PrSt.read {w wr w' : World} {r B : Nat} {v : Value} {zs : List Int} {s s' : Rs} {q : Pt} (h : PrSt w wr r v zs B s q) (hr : RrS w' r v zs s'.1 s'.2) (hk : Kp [r] wr w') : PrSt w w' r v zs B s' q := by
  obtain ⟨h1, h2, h3, h5, h6, h7, h9, h10⟩ := h
  exact ⟨hr, hk.heap h2 (by simp; omega), hk.heap h3 (by simp; omega), h5.trans hk, h6, h7, h9, h10⟩
theorem PrSt.put {w wr : World} {r B : Nat} {v : Value} {zs : List Int} {s : Rs} {q q' : Pt} (h : PrSt w wr r v zs B s q) (c : Nat) (x : Value) (hq : (ptCells q).setIfInBounds c x = ptCells q') : PrSt w (wr.setCell ⟨B, c, none⟩ x) r v zs B s q' := by
  obtain ⟨h1, h2, h3, h5, h6, h7, h9, h10⟩ := h
  have hk : Kp [B] wr (wr.setCell ⟨B, c, none⟩ x) := (Kp.refl _ _).setCell (.inl (by simp)) _
  refine ⟨h1.kp hk (by simp; omega) (fun t ht e => by simp at ht; subst ht; exact h9 e), ?_, hk.heap h3 (by simp; omega), h5.trans' hk (fun t ht => by simp at ht; subst ht; exact .inr (by omega)), h6, h7, h9, h10⟩
  rw [heap_setCell_same wr B c _ _ x h2, hq]
theorem PrSt.c {w wr : World} {r B : Nat} {v : Value} {zs : List Int} {s : Rs} {q : Pt} (h : PrSt w wr r v zs B s q) (j : Nat) (u : Value) (hu : (ptCells q)[j]? = some u) : wr.cell? ⟨B, j, none⟩ = some u ∧ wr.frozen? ⟨B, j, none⟩ = false :=
  ⟨by rw [cell_of_row wr B j _ _ _ h.2.1]; exact hu, frozen_of_row wr B j _ _ h.2.1⟩
/-- What the reference's part hands back. -/
def rpartM (zs : List Int) (s : Rs) : Pt × Bool × Bool × Rs := if okM (matM (headM zs s).f) = true then partM zs s else (bareM (headM zs s), false, false, (headM zs s).s)
set_option maxRecDepth 100000 in
set_option maxHeartbeats 8000000 in
theorem rpart_calls {w : World} {r : Nat} {v : Value} {zs : List Int} {s : Rs} (h : RrS w r v zs s.1 s.2) (hv : ∀ b, blockOf v = some b → b < w.heap.size) :
    Calls Try.prog 58 #[.pointer (some ⟨r, 0, none⟩)] w fun e w' => e = .returned (.tuple #[ptV (rpartM zs s).1, .bool (rpartM zs s).2.1, .bool (rpartM zs s).2.2.1]) ∧ RrS w' r v zs (rpartM zs s).2.2.2.1 (rpartM zs s).2.2.2.2 ∧ Kp [r] w w' := by
  have H := Lib.hid h
  have hrl := h.lt
  have HRL := Lib.hid hrl
  have HV := Lib.hid hv
  have q0 := rdV_bounds zs s.1 s.2 2 h.2.2.1
  have F0 : Hid (0 ≤ val zs 2 s ∧ val zs 2 s < 65536) := ⟨q0.1, q0.2⟩
  clear h hv q0
  go_enter Try.func58, Try.ntmps58
  go_wp2_with fail
  refine (ruS 2 (by decide) (by decide) 2 rfl (H.out.kp0 ((Kp.refl _ _).alloc _))).mono ?_; rintro e w1 ⟨rfl, h1, hk1⟩
  have H1 := Lib.hid h1
  have hkw1 : Kp [r] w w1 := ((Kp.refl [r] w).alloc _).trans hk1
  have hR1 := hk1.heap (heap_alloc_new w _) (by simp; omega)
  clear h1
  go_wp2_with fail
  refine (ruS 2 (by decide) (by decide) 2 rfl H1.out).mono ?_; rintro e w2 ⟨rfl, h2, hk2⟩
  have H2 := Lib.hid h2
  have hkw2 := hkw1.trans hk2
  have hR2 := hk2.heap hR1 (by simp; omega)
  clear h2 hk1 hkw1 hR1
  go_wp2_with fail
  refine (rone_calls _).mono ?_; rintro e w3 ⟨rfl, hk3⟩
  have HHD : Hid (headM zs s = ⟨val zs 2 s, val zs 2 (stp zs 2 s), argV (val zs 2 s % 4) (val zs (argN (val zs 2 s % 4)) (stp zs 2 (stp zs 2 s))), argV (val zs 2 s % 4) (val zs (argN (val zs 2 s % 4)) (stp zs (argN (val zs 2 s % 4)) (stp zs 2 (stp zs 2 s)))), stp zs (argN (val zs 2 s % 4)) (stp zs (argN (val zs 2 s % 4)) (stp zs 2 (stp zs 2 s)))⟩) := rfl
  have H3 : Hid (RrS w3 r v zs (stp zs 2 (stp zs 2 s)).1 (stp zs 2 (stp zs 2 s)).2) := H2.out.kp0 hk3
  have hkw3 := hkw2.trans0 hk3
  have hR3 := hk3.heap hR2 (by simp)
  generalize val zs 2 (stp zs 2 s) = g at *
  generalize val zs 2 s = f at *
  generalize stp zs 2 (stp zs 2 s) = t2 at *
  have H4 := Lib.hid (H3.out.kp0 ((Kp.refl _ w3).alloc (.cells #[.int .i64 g, .int .i64 16384, .int .i64 0, .int .i64 0, .int .i64 16384, .bool false, .int .i64 0, .int .i64 0, .bool false, .int .i64 0, .int .i64 0] 36)))
  have hBlk := heap_alloc_new w3 (.cells #[.int .i64 g, .int .i64 16384, .int .i64 0, .int .i64 0, .int .i64 16384, .bool false, .int .i64 0, .int .i64 0, .bool false, .int .i64 0, .int .i64 0] 36)
  have hR4 := ((Kp.refl [] w3).alloc (.cells #[.int .i64 g, .int .i64 16384, .int .i64 0, .int .i64 0, .int .i64 16384, .bool false, .int .i64 0, .int .i64 0, .bool false, .int .i64 0, .int .i64 0] 36)).heap hR3 (by simp)
  have hkw4 := hkw3.alloc (.cells #[.int .i64 g, .int .i64 16384, .int .i64 0, .int .i64 0, .int .i64 16384, .bool false, .int .i64 0, .int .i64 0, .bool false, .int .i64 0, .int .i64 0] 36)
  have hBw : w.heap.size < w3.heap.size := Nat.lt_of_lt_of_le (lt_of_block hR3) (Nat.le_refl _)
  have HV4 : Hid (∀ b, blockOf v = some b → b < (w3.alloc (.cells #[.int .i64 g, .int .i64 16384, .int .i64 0, .int .i64 0, .int .i64 16384, .bool false, .int .i64 0, .int .i64 0, .bool false, .int .i64 0, .int .i64 0] 36)).heap.size) := fun b hb => by have := HV.out b hb; have := hkw4.size; omega
  clear H1 H2 H3 hk2 hk3 hkw2 hkw3 hR2 hR3
  go_wp2_with fail
  generalize w3.alloc (.cells #[.int .i64 g, .int .i64 16384, .int .i64 0, .int .i64 0, .int .i64 16384, .bool false, .int .i64 0, .int .i64 0, .bool false, .int .i64 0, .int .i64 0] 36) = w4 at *
  generalize w3.heap.size = B at *
  refine (rargs_calls f g (f % 4) (i64_and3 f) (by omega) F0.out.1 F0.out.2 H4.out HV4.out).mono ?_; rintro e w5 ⟨rfl, h5, hk5⟩
  have H5 := Lib.hid h5
  have hBlk5 := hk5.heap hBlk (by simp; omega)
  have hR5 := hk5.heap hR4 (by simp; omega)
  have hkw5 := hkw4.trans hk5
  have HA0 : Hid (bareM (headM zs s) = argsM f g (argV (f % 4) (val zs (argN (f % 4)) t2)) (argV (f % 4) (val zs (argN (f % 4)) (stp zs (argN (f % 4)) t2)))) := by rw [HHD.out]; rfl
  clear h5 hk5 hBlk hR4 hkw4 H4 HV4
  generalize stp zs (argN (f % 4)) (stp zs (argN (f % 4)) t2) = t4 at *
  generalize argV (f % 4) (val zs (argN (f % 4)) (stp zs (argN (f % 4)) t2)) = b at *
  generalize argV (f % 4) (val zs (argN (f % 4)) t2) = a at *
  obtain ⟨q0, hq0⟩ : ∃ q0, argsM f g a b = q0 := ⟨_, rfl⟩
  rw [hq0] at HA0 ⊢
  have HP0 : Hid (bareM (headM zs s) = q0) := HA0
  clear hq0 HA0
  rw [show ptV q0 = .agg #[.int .i64 q0.g, .int .i64 q0.xx, .int .i64 q0.xy, .int .i64 q0.yx, .int .i64 q0.yy, .bool q0.m, .int .i64 q0.dx, .int .i64 q0.dy, .bool q0.t, .int .i64 q0.pa, .int .i64 q0.ch] from rfl]
  have c0 := cell_of_row _ B 0 _ _ _ hBlk5
  have f0 := frozen_of_row _ B 0 _ _ hBlk5
  have c1 := cell_of_row _ B 1 _ _ _ hBlk5
  have f1 := frozen_of_row _ B 1 _ _ hBlk5
  have c2 := cell_of_row _ B 2 _ _ _ hBlk5
  have f2 := frozen_of_row _ B 2 _ _ hBlk5
  have c3 := cell_of_row _ B 3 _ _ _ hBlk5
  have f3 := frozen_of_row _ B 3 _ _ hBlk5
  have c4 := cell_of_row _ B 4 _ _ _ hBlk5
  have f4 := frozen_of_row _ B 4 _ _ hBlk5
  have c5 := cell_of_row _ B 5 _ _ _ hBlk5
  have f5 := frozen_of_row _ B 5 _ _ hBlk5
  have c6 := cell_of_row _ B 6 _ _ _ hBlk5
  have f6 := frozen_of_row _ B 6 _ _ hBlk5
  have c7 := cell_of_row _ B 7 _ _ _ hBlk5
  have f7 := frozen_of_row _ B 7 _ _ hBlk5
  have c8 := cell_of_row _ B 8 _ _ _ hBlk5
  have f8 := frozen_of_row _ B 8 _ _ hBlk5
  have c9 := cell_of_row _ B 9 _ _ _ hBlk5
  have f9 := frozen_of_row _ B 9 _ _ hBlk5
  have c10 := cell_of_row _ B 10 _ _ _ hBlk5
  have f10 := frozen_of_row _ B 10 _ _ hBlk5
  simp only [List.getElem?_toArray, List.getElem?_cons_succ, List.getElem?_cons_zero] at c0 c1 c2 c3 c4 c5 c6 c7 c8 c9 c10
  have hvB : blockOf v ≠ some B := fun e => by have := HV.out _ e; omega
  have hvR : blockOf v ≠ some w.heap.size := fun e => by have := HV.out _ e; omega
  have hkB := kput11v B (.int .i64 q0.g) (.int .i64 q0.xx) (.int .i64 q0.xy) (.int .i64 q0.yx) (.int .i64 q0.yy) (.bool q0.m) (.int .i64 q0.dx) (.int .i64 q0.dy) (.bool q0.t) (.int .i64 q0.pa) (.int .i64 q0.ch) w5
  have hHB := put11v B (.int .i64 q0.g) (.int .i64 q0.xx) (.int .i64 q0.xy) (.int .i64 q0.yx) (.int .i64 q0.yy) (.bool q0.m) (.int .i64 q0.dx) (.int .i64 q0.dy) (.bool q0.t) (.int .i64 q0.pa) (.int .i64 q0.ch) hBlk5
  have HJ : Hid (PrSt w (((((((((((w5.setCell ⟨B, 0, none⟩ (.int .i64 q0.g)).setCell ⟨B, 1, none⟩ (.int .i64 q0.xx)).setCell ⟨B, 2, none⟩ (.int .i64 q0.xy)).setCell ⟨B, 3, none⟩ (.int .i64 q0.yx)).setCell ⟨B, 4, none⟩ (.int .i64 q0.yy)).setCell ⟨B, 5, none⟩ (.bool q0.m)).setCell ⟨B, 6, none⟩ (.int .i64 q0.dx)).setCell ⟨B, 7, none⟩ (.int .i64 q0.dy)).setCell ⟨B, 8, none⟩ (.bool q0.t)).setCell ⟨B, 9, none⟩ (.int .i64 q0.pa)).setCell ⟨B, 10, none⟩ (.int .i64 q0.ch)) r v zs B t4 q0) := ⟨H5.out.kp hkB (by simp; omega) (by simpa using hvB), hHB, hkB.heap hR5 (by simp; omega), hkw5.trans' hkB (fun t ht => by simp at ht; subst ht; exact .inr (by omega)), hrl, hBw, hvB, hvR⟩
  clear hkB hHB hkw5 hBlk5 H5
  have hBw2 : B ≠ w.heap.size := by omega
  obtain ⟨Y, hY⟩ : ∃ Y, bits .and .i64 f 200 = Y := ⟨_, rfl⟩
  have HM : Hid (matM f = Y) := hY
  by_cases h0 : Y = 0
  · subst h0
    have HPM0 : Hid (rpartM zs s = ((q0 : Pt), bits .and .i64 f 32 != 0, !(t4).2, t4)) := by
      have hp : partM zs s = ((q0 : Pt), decide (bits .and .i64 f 32 ≠ 0), true && !(t4).2, t4) := by
        unfold partM; dsimp only; rw [HP0.out, HHD.out]; dsimp only; rw [HM.out]; rfl
      show _ = _; unfold rpartM; rw [if_pos (by rw [HHD.out]; show okM (matM f) = true; rw [HM.out]; rfl), hp]
      by_cases hh : bits .and .i64 f 32 = 0 <;> simp [hh]
    clear HHD HM HP0
    clear hR5
    go_wp2_with fail
    clear c0 f0 c1 f1 c2 f2 c3 f3 c4 f4 c5 f5 c6 f6 c7 f7 c8 f8 c9 f9 c10 f10
    generalize (((((((((((w5.setCell ⟨B, 0, none⟩ (.int .i64 q0.g)).setCell ⟨B, 1, none⟩ (.int .i64 q0.xx)).setCell ⟨B, 2, none⟩ (.int .i64 q0.xy)).setCell ⟨B, 3, none⟩ (.int .i64 q0.yx)).setCell ⟨B, 4, none⟩ (.int .i64 q0.yy)).setCell ⟨B, 5, none⟩ (.bool q0.m)).setCell ⟨B, 6, none⟩ (.int .i64 q0.dx)).setCell ⟨B, 7, none⟩ (.int .i64 q0.dy)).setCell ⟨B, 8, none⟩ (.bool q0.t)).setCell ⟨B, 9, none⟩ (.int .i64 q0.pa)).setCell ⟨B, 10, none⟩ (.int .i64 q0.ch)) = w6 at *
    have HPM : Hid (rpartM zs s = (q0, bits .and .i64 f 32 != 0, !t4.2, t4)) := by show _ = _; rw [HPM0.out]
    clear HPM0
    have k0 := (HJ.out.c 0 (.int .i64 q0.g) rfl).1
    have z0 : w6.cell? ⟨w.heap.size, 0, none⟩ = some (.int .i64 0) := by rw [cell_of_row w6 w.heap.size 0 _ _ _ HJ.out.2.2.1]; rfl
    have y0 := frozen_of_row w6 w.heap.size 0 _ _ HJ.out.2.2.1
    have k1 := (HJ.out.c 1 (.int .i64 q0.xx) rfl).1
    have z1 : w6.cell? ⟨w.heap.size, 1, none⟩ = some (.int .i64 0) := by rw [cell_of_row w6 w.heap.size 1 _ _ _ HJ.out.2.2.1]; rfl
    have y1 := frozen_of_row w6 w.heap.size 1 _ _ HJ.out.2.2.1
    have k2 := (HJ.out.c 2 (.int .i64 q0.xy) rfl).1
    have z2 : w6.cell? ⟨w.heap.size, 2, none⟩ = some (.int .i64 0) := by rw [cell_of_row w6 w.heap.size 2 _ _ _ HJ.out.2.2.1]; rfl
    have y2 := frozen_of_row w6 w.heap.size 2 _ _ HJ.out.2.2.1
    have k3 := (HJ.out.c 3 (.int .i64 q0.yx) rfl).1
    have z3 : w6.cell? ⟨w.heap.size, 3, none⟩ = some (.int .i64 0) := by rw [cell_of_row w6 w.heap.size 3 _ _ _ HJ.out.2.2.1]; rfl
    have y3 := frozen_of_row w6 w.heap.size 3 _ _ HJ.out.2.2.1
    have k4 := (HJ.out.c 4 (.int .i64 q0.yy) rfl).1
    have z4 : w6.cell? ⟨w.heap.size, 4, none⟩ = some (.int .i64 0) := by rw [cell_of_row w6 w.heap.size 4 _ _ _ HJ.out.2.2.1]; rfl
    have y4 := frozen_of_row w6 w.heap.size 4 _ _ HJ.out.2.2.1
    have k5 := (HJ.out.c 5 (.bool q0.m) rfl).1
    have z5 : w6.cell? ⟨w.heap.size, 5, none⟩ = some (.bool false) := by rw [cell_of_row w6 w.heap.size 5 _ _ _ HJ.out.2.2.1]; rfl
    have y5 := frozen_of_row w6 w.heap.size 5 _ _ HJ.out.2.2.1
    have k6 := (HJ.out.c 6 (.int .i64 q0.dx) rfl).1
    have z6 : w6.cell? ⟨w.heap.size, 6, none⟩ = some (.int .i64 0) := by rw [cell_of_row w6 w.heap.size 6 _ _ _ HJ.out.2.2.1]; rfl
    have y6 := frozen_of_row w6 w.heap.size 6 _ _ HJ.out.2.2.1
    have k7 := (HJ.out.c 7 (.int .i64 q0.dy) rfl).1
    have z7 : w6.cell? ⟨w.heap.size, 7, none⟩ = some (.int .i64 0) := by rw [cell_of_row w6 w.heap.size 7 _ _ _ HJ.out.2.2.1]; rfl
    have y7 := frozen_of_row w6 w.heap.size 7 _ _ HJ.out.2.2.1
    have k8 := (HJ.out.c 8 (.bool q0.t) rfl).1
    have z8 : w6.cell? ⟨w.heap.size, 8, none⟩ = some (.bool false) := by rw [cell_of_row w6 w.heap.size 8 _ _ _ HJ.out.2.2.1]; rfl
    have y8 := frozen_of_row w6 w.heap.size 8 _ _ HJ.out.2.2.1
    have k9 := (HJ.out.c 9 (.int .i64 q0.pa) rfl).1
    have z9 : w6.cell? ⟨w.heap.size, 9, none⟩ = some (.int .i64 0) := by rw [cell_of_row w6 w.heap.size 9 _ _ _ HJ.out.2.2.1]; rfl
    have y9 := frozen_of_row w6 w.heap.size 9 _ _ HJ.out.2.2.1
    have k10 := (HJ.out.c 10 (.int .i64 q0.ch) rfl).1
    have z10 : w6.cell? ⟨w.heap.size, 10, none⟩ = some (.int .i64 0) := by rw [cell_of_row w6 w.heap.size 10 _ _ _ HJ.out.2.2.1]; rfl
    have y10 := frozen_of_row w6 w.heap.size 10 _ _ HJ.out.2.2.1
    obtain ⟨b0, b1, b2, _, _⟩ := HJ.out.1.1.facts
    have hBw2 : B ≠ w.heap.size := by have := HJ.out.2.2.2.2.2.1; omega
    have hrw2 : r ≠ w.heap.size := by have := HJ.out.2.2.2.2.1; omega
    go_region_with (fail)
    all_goals
      go_wp2_with fail
      clear k0 z0 y0 k1 z1 y1 k2 z2 y2 k3 z3 y3 k4 z4 y4 k5 z5 y5 k6 z6 y6 k7 z7 y7 k8 z8 y8 k9 z9 y9 k10 z10 y10 b0 b1 b2
      have hHF : (((((((((((w6.setCell ⟨w.heap.size, 0, none⟩ (.int .i64 q0.g)).setCell ⟨w.heap.size, 1, none⟩ (.int .i64 q0.xx)).setCell ⟨w.heap.size, 2, none⟩ (.int .i64 q0.xy)).setCell ⟨w.heap.size, 3, none⟩ (.int .i64 q0.yx)).setCell ⟨w.heap.size, 4, none⟩ (.int .i64 q0.yy)).setCell ⟨w.heap.size, 5, none⟩ (.bool q0.m)).setCell ⟨w.heap.size, 6, none⟩ (.int .i64 q0.dx)).setCell ⟨w.heap.size, 7, none⟩ (.int .i64 q0.dy)).setCell ⟨w.heap.size, 8, none⟩ (.bool q0.t)).setCell ⟨w.heap.size, 9, none⟩ (.int .i64 q0.pa)).setCell ⟨w.heap.size, 10, none⟩ (.int .i64 q0.ch)).drew.heap[w.heap.size]? = some (.cells #[.int .i64 q0.g, .int .i64 q0.xx, .int .i64 q0.xy, .int .i64 q0.yx, .int .i64 q0.yy, .bool q0.m, .int .i64 q0.dx, .int .i64 q0.dy, .bool q0.t, .int .i64 q0.pa, .int .i64 q0.ch] 36 (0, 0)) := by rw [drew_heap']; exact put11v w.heap.size (.int .i64 q0.g) (.int .i64 q0.xx) (.int .i64 q0.xy) (.int .i64 q0.yx) (.int .i64 q0.yy) (.bool q0.m) (.int .i64 q0.dx) (.int .i64 q0.dy) (.bool q0.t) (.int .i64 q0.pa) (.int .i64 q0.ch) HJ.out.2.2.1
      have hKF : Kp [w.heap.size] w6 (((((((((((w6.setCell ⟨w.heap.size, 0, none⟩ (.int .i64 q0.g)).setCell ⟨w.heap.size, 1, none⟩ (.int .i64 q0.xx)).setCell ⟨w.heap.size, 2, none⟩ (.int .i64 q0.xy)).setCell ⟨w.heap.size, 3, none⟩ (.int .i64 q0.yx)).setCell ⟨w.heap.size, 4, none⟩ (.int .i64 q0.yy)).setCell ⟨w.heap.size, 5, none⟩ (.bool q0.m)).setCell ⟨w.heap.size, 6, none⟩ (.int .i64 q0.dx)).setCell ⟨w.heap.size, 7, none⟩ (.int .i64 q0.dy)).setCell ⟨w.heap.size, 8, none⟩ (.bool q0.t)).setCell ⟨w.heap.size, 9, none⟩ (.int .i64 q0.pa)).setCell ⟨w.heap.size, 10, none⟩ (.int .i64 q0.ch)).drew := (kput11v w.heap.size (.int .i64 q0.g) (.int .i64 q0.xx) (.int .i64 q0.xy) (.int .i64 q0.yx) (.int .i64 q0.yy) (.bool q0.m) (.int .i64 q0.dx) (.int .i64 q0.dy) (.bool q0.t) (.int .i64 q0.pa) (.int .i64 q0.ch) w6).drew
      generalize (((((((((((w6.setCell ⟨w.heap.size, 0, none⟩ (.int .i64 q0.g)).setCell ⟨w.heap.size, 1, none⟩ (.int .i64 q0.xx)).setCell ⟨w.heap.size, 2, none⟩ (.int .i64 q0.xy)).setCell ⟨w.heap.size, 3, none⟩ (.int .i64 q0.yx)).setCell ⟨w.heap.size, 4, none⟩ (.int .i64 q0.yy)).setCell ⟨w.heap.size, 5, none⟩ (.bool q0.m)).setCell ⟨w.heap.size, 6, none⟩ (.int .i64 q0.dx)).setCell ⟨w.heap.size, 7, none⟩ (.int .i64 q0.dy)).setCell ⟨w.heap.size, 8, none⟩ (.bool q0.t)).setCell ⟨w.heap.size, 9, none⟩ (.int .i64 q0.pa)).setCell ⟨w.heap.size, 10, none⟩ (.int .i64 q0.ch)).drew = W9 at *
      have d0 : W9.cell? ⟨w.heap.size, 0, none⟩ = some (.int .i64 q0.g) := by rw [cell_of_row W9 w.heap.size 0 _ _ _ hHF]; rfl
      have d1 : W9.cell? ⟨w.heap.size, 1, none⟩ = some (.int .i64 q0.xx) := by rw [cell_of_row W9 w.heap.size 1 _ _ _ hHF]; rfl
      have d2 : W9.cell? ⟨w.heap.size, 2, none⟩ = some (.int .i64 q0.xy) := by rw [cell_of_row W9 w.heap.size 2 _ _ _ hHF]; rfl
      have d3 : W9.cell? ⟨w.heap.size, 3, none⟩ = some (.int .i64 q0.yx) := by rw [cell_of_row W9 w.heap.size 3 _ _ _ hHF]; rfl
      have d4 : W9.cell? ⟨w.heap.size, 4, none⟩ = some (.int .i64 q0.yy) := by rw [cell_of_row W9 w.heap.size 4 _ _ _ hHF]; rfl
      have d5 : W9.cell? ⟨w.heap.size, 5, none⟩ = some (.bool q0.m) := by rw [cell_of_row W9 w.heap.size 5 _ _ _ hHF]; rfl
      have d6 : W9.cell? ⟨w.heap.size, 6, none⟩ = some (.int .i64 q0.dx) := by rw [cell_of_row W9 w.heap.size 6 _ _ _ hHF]; rfl
      have d7 : W9.cell? ⟨w.heap.size, 7, none⟩ = some (.int .i64 q0.dy) := by rw [cell_of_row W9 w.heap.size 7 _ _ _ hHF]; rfl
      have d8 : W9.cell? ⟨w.heap.size, 8, none⟩ = some (.bool q0.t) := by rw [cell_of_row W9 w.heap.size 8 _ _ _ hHF]; rfl
      have d9 : W9.cell? ⟨w.heap.size, 9, none⟩ = some (.int .i64 q0.pa) := by rw [cell_of_row W9 w.heap.size 9 _ _ _ hHF]; rfl
      have d10 : W9.cell? ⟨w.heap.size, 10, none⟩ = some (.int .i64 q0.ch) := by rw [cell_of_row W9 w.heap.size 10 _ _ _ hHF]; rfl
      refine bodyPost_ret (v := .tuple #[.agg #[.int .i64 q0.g, .int .i64 q0.xx, .int .i64 q0.xy, .int .i64 q0.yx, .int .i64 q0.yy, .bool q0.m, .int .i64 q0.dx, .int .i64 q0.dy, .bool q0.t, .int .i64 q0.pa, .int .i64 q0.ch], .bool (bits .and .i64 f 32 != 0), .bool (!t4.2)]) (by simp [results, Try.results58, go_sem, d0, d1, d2, d3, d4, d5, d6, d7, d8, d9, d10]) rfl ⟨by rw [HPM.out]; rfl, ?_, ?_⟩
      · rw [HPM.out]; exact HJ.out.1.kp hKF (by simp; have := HJ.out.2.2.2.2.1; omega) (fun t ht e => by simp at ht; subst ht; exact HJ.out.2.2.2.2.2.2.2 e)
      · exact HJ.out.2.2.2.1.trans' hKF (fun t ht => by simp at ht; subst ht; exact .inr (Nat.le_refl _))
  by_cases h8 : Y = 8
  · subst h8
    clear h0
    have HPM0 : Hid (rpartM zs s = (({ q0 with xx := s16 (val zs 2 t4), yy := s16 (val zs 2 t4) } : Pt), bits .and .i64 f 32 != 0, !(stp zs 2 t4).2, stp zs 2 t4)) := by
      have hp : partM zs s = (({ q0 with xx := s16 (val zs 2 t4), yy := s16 (val zs 2 t4) } : Pt), decide (bits .and .i64 f 32 ≠ 0), true && !(stp zs 2 t4).2, stp zs 2 t4) := by
        unfold partM; dsimp only; rw [HP0.out, HHD.out]; dsimp only; rw [HM.out]; rfl
      show _ = _; unfold rpartM; rw [if_pos (by rw [HHD.out]; show okM (matM f) = true; rw [HM.out]; rfl), hp]
      by_cases hh : bits .and .i64 f 32 = 0 <;> simp [hh]
    clear HHD HM HP0
    clear hR5
    go_wp2_with fail
    clear c0 f0 c1 f1 c2 f2 c3 f3 c4 f4 c5 f5 c6 f6 c7 f7 c8 f8 c9 f9 c10 f10
    generalize (((((((((((w5.setCell ⟨B, 0, none⟩ (.int .i64 q0.g)).setCell ⟨B, 1, none⟩ (.int .i64 q0.xx)).setCell ⟨B, 2, none⟩ (.int .i64 q0.xy)).setCell ⟨B, 3, none⟩ (.int .i64 q0.yx)).setCell ⟨B, 4, none⟩ (.int .i64 q0.yy)).setCell ⟨B, 5, none⟩ (.bool q0.m)).setCell ⟨B, 6, none⟩ (.int .i64 q0.dx)).setCell ⟨B, 7, none⟩ (.int .i64 q0.dy)).setCell ⟨B, 8, none⟩ (.bool q0.t)).setCell ⟨B, 9, none⟩ (.int .i64 q0.pa)).setCell ⟨B, 10, none⟩ (.int .i64 q0.ch)) = w6 at *
    refine (ri16S HJ.out.1).mono ?_; rintro e v0 ⟨rfl, hn, hkn⟩
    have HJ2 := Lib.hid (HJ.out.read hn hkn)
    clear hn hkn HJ
    generalize s16 (val zs 2 t4) = x1 at *
    generalize stp zs 2 t4 = s1 at *
    have kc0 := (HJ2.out.c 1 (.int .i64 q0.xx) rfl).1
    have kf0 := (HJ2.out.c 1 (.int .i64 q0.xx) rfl).2
    have kc1 := (HJ2.out.c 4 (.int .i64 q0.yy) rfl).1
    have kf1 := (HJ2.out.c 4 (.int .i64 q0.yy) rfl).2
    obtain ⟨q1, hq⟩ : ∃ q1 : Pt, ({ q0 with xx := x1 } : Pt) = q1 := ⟨_, rfl⟩
    have HQ1 := Lib.hid hq
    have HJ3 := Lib.hid (HJ2.out.put 1 (.int .i64 x1) (q' := q1) (by rw [← hq]; rfl))
    clear HJ2 hq
    have HJ2 := HJ3
    clear HJ3
    obtain ⟨q2, hq⟩ : ∃ q2 : Pt, ({ q1 with yy := x1 } : Pt) = q2 := ⟨_, rfl⟩
    have HQ2 := Lib.hid hq
    have HJ3 := Lib.hid (HJ2.out.put 4 (.int .i64 x1) (q' := q2) (by rw [← hq]; rfl))
    clear HJ2 hq
    have HJ2 := HJ3
    clear HJ3
    have HJ := HJ2
    clear HJ2
    go_wp2_with fail
    clear kc0 kf0 kc1 kf1
    generalize ((v0.setCell ⟨B, 1, none⟩ (.int .i64 x1)).setCell ⟨B, 4, none⟩ (.int .i64 x1)) = W0 at *
    have HPM : Hid (rpartM zs s = (q2, bits .and .i64 f 32 != 0, !s1.2, s1)) := by show _ = _; rw [HPM0.out, ← HQ2.out, ← HQ1.out]
    clear HPM0
    have k0 := (HJ.out.c 0 (.int .i64 q2.g) rfl).1
    have z0 : W0.cell? ⟨w.heap.size, 0, none⟩ = some (.int .i64 0) := by rw [cell_of_row W0 w.heap.size 0 _ _ _ HJ.out.2.2.1]; rfl
    have y0 := frozen_of_row W0 w.heap.size 0 _ _ HJ.out.2.2.1
    have k1 := (HJ.out.c 1 (.int .i64 q2.xx) rfl).1
    have z1 : W0.cell? ⟨w.heap.size, 1, none⟩ = some (.int .i64 0) := by rw [cell_of_row W0 w.heap.size 1 _ _ _ HJ.out.2.2.1]; rfl
    have y1 := frozen_of_row W0 w.heap.size 1 _ _ HJ.out.2.2.1
    have k2 := (HJ.out.c 2 (.int .i64 q2.xy) rfl).1
    have z2 : W0.cell? ⟨w.heap.size, 2, none⟩ = some (.int .i64 0) := by rw [cell_of_row W0 w.heap.size 2 _ _ _ HJ.out.2.2.1]; rfl
    have y2 := frozen_of_row W0 w.heap.size 2 _ _ HJ.out.2.2.1
    have k3 := (HJ.out.c 3 (.int .i64 q2.yx) rfl).1
    have z3 : W0.cell? ⟨w.heap.size, 3, none⟩ = some (.int .i64 0) := by rw [cell_of_row W0 w.heap.size 3 _ _ _ HJ.out.2.2.1]; rfl
    have y3 := frozen_of_row W0 w.heap.size 3 _ _ HJ.out.2.2.1
    have k4 := (HJ.out.c 4 (.int .i64 q2.yy) rfl).1
    have z4 : W0.cell? ⟨w.heap.size, 4, none⟩ = some (.int .i64 0) := by rw [cell_of_row W0 w.heap.size 4 _ _ _ HJ.out.2.2.1]; rfl
    have y4 := frozen_of_row W0 w.heap.size 4 _ _ HJ.out.2.2.1
    have k5 := (HJ.out.c 5 (.bool q2.m) rfl).1
    have z5 : W0.cell? ⟨w.heap.size, 5, none⟩ = some (.bool false) := by rw [cell_of_row W0 w.heap.size 5 _ _ _ HJ.out.2.2.1]; rfl
    have y5 := frozen_of_row W0 w.heap.size 5 _ _ HJ.out.2.2.1
    have k6 := (HJ.out.c 6 (.int .i64 q2.dx) rfl).1
    have z6 : W0.cell? ⟨w.heap.size, 6, none⟩ = some (.int .i64 0) := by rw [cell_of_row W0 w.heap.size 6 _ _ _ HJ.out.2.2.1]; rfl
    have y6 := frozen_of_row W0 w.heap.size 6 _ _ HJ.out.2.2.1
    have k7 := (HJ.out.c 7 (.int .i64 q2.dy) rfl).1
    have z7 : W0.cell? ⟨w.heap.size, 7, none⟩ = some (.int .i64 0) := by rw [cell_of_row W0 w.heap.size 7 _ _ _ HJ.out.2.2.1]; rfl
    have y7 := frozen_of_row W0 w.heap.size 7 _ _ HJ.out.2.2.1
    have k8 := (HJ.out.c 8 (.bool q2.t) rfl).1
    have z8 : W0.cell? ⟨w.heap.size, 8, none⟩ = some (.bool false) := by rw [cell_of_row W0 w.heap.size 8 _ _ _ HJ.out.2.2.1]; rfl
    have y8 := frozen_of_row W0 w.heap.size 8 _ _ HJ.out.2.2.1
    have k9 := (HJ.out.c 9 (.int .i64 q2.pa) rfl).1
    have z9 : W0.cell? ⟨w.heap.size, 9, none⟩ = some (.int .i64 0) := by rw [cell_of_row W0 w.heap.size 9 _ _ _ HJ.out.2.2.1]; rfl
    have y9 := frozen_of_row W0 w.heap.size 9 _ _ HJ.out.2.2.1
    have k10 := (HJ.out.c 10 (.int .i64 q2.ch) rfl).1
    have z10 : W0.cell? ⟨w.heap.size, 10, none⟩ = some (.int .i64 0) := by rw [cell_of_row W0 w.heap.size 10 _ _ _ HJ.out.2.2.1]; rfl
    have y10 := frozen_of_row W0 w.heap.size 10 _ _ HJ.out.2.2.1
    obtain ⟨b0, b1, b2, _, _⟩ := HJ.out.1.1.facts
    have hBw2 : B ≠ w.heap.size := by have := HJ.out.2.2.2.2.2.1; omega
    have hrw2 : r ≠ w.heap.size := by have := HJ.out.2.2.2.2.1; omega
    go_region_with (fail)
    all_goals
      go_wp2_with fail
      clear k0 z0 y0 k1 z1 y1 k2 z2 y2 k3 z3 y3 k4 z4 y4 k5 z5 y5 k6 z6 y6 k7 z7 y7 k8 z8 y8 k9 z9 y9 k10 z10 y10 b0 b1 b2
      have hHF : (((((((((((W0.setCell ⟨w.heap.size, 0, none⟩ (.int .i64 q2.g)).setCell ⟨w.heap.size, 1, none⟩ (.int .i64 q2.xx)).setCell ⟨w.heap.size, 2, none⟩ (.int .i64 q2.xy)).setCell ⟨w.heap.size, 3, none⟩ (.int .i64 q2.yx)).setCell ⟨w.heap.size, 4, none⟩ (.int .i64 q2.yy)).setCell ⟨w.heap.size, 5, none⟩ (.bool q2.m)).setCell ⟨w.heap.size, 6, none⟩ (.int .i64 q2.dx)).setCell ⟨w.heap.size, 7, none⟩ (.int .i64 q2.dy)).setCell ⟨w.heap.size, 8, none⟩ (.bool q2.t)).setCell ⟨w.heap.size, 9, none⟩ (.int .i64 q2.pa)).setCell ⟨w.heap.size, 10, none⟩ (.int .i64 q2.ch)).drew.heap[w.heap.size]? = some (.cells #[.int .i64 q2.g, .int .i64 q2.xx, .int .i64 q2.xy, .int .i64 q2.yx, .int .i64 q2.yy, .bool q2.m, .int .i64 q2.dx, .int .i64 q2.dy, .bool q2.t, .int .i64 q2.pa, .int .i64 q2.ch] 36 (0, 0)) := by rw [drew_heap']; exact put11v w.heap.size (.int .i64 q2.g) (.int .i64 q2.xx) (.int .i64 q2.xy) (.int .i64 q2.yx) (.int .i64 q2.yy) (.bool q2.m) (.int .i64 q2.dx) (.int .i64 q2.dy) (.bool q2.t) (.int .i64 q2.pa) (.int .i64 q2.ch) HJ.out.2.2.1
      have hKF : Kp [w.heap.size] W0 (((((((((((W0.setCell ⟨w.heap.size, 0, none⟩ (.int .i64 q2.g)).setCell ⟨w.heap.size, 1, none⟩ (.int .i64 q2.xx)).setCell ⟨w.heap.size, 2, none⟩ (.int .i64 q2.xy)).setCell ⟨w.heap.size, 3, none⟩ (.int .i64 q2.yx)).setCell ⟨w.heap.size, 4, none⟩ (.int .i64 q2.yy)).setCell ⟨w.heap.size, 5, none⟩ (.bool q2.m)).setCell ⟨w.heap.size, 6, none⟩ (.int .i64 q2.dx)).setCell ⟨w.heap.size, 7, none⟩ (.int .i64 q2.dy)).setCell ⟨w.heap.size, 8, none⟩ (.bool q2.t)).setCell ⟨w.heap.size, 9, none⟩ (.int .i64 q2.pa)).setCell ⟨w.heap.size, 10, none⟩ (.int .i64 q2.ch)).drew := (kput11v w.heap.size (.int .i64 q2.g) (.int .i64 q2.xx) (.int .i64 q2.xy) (.int .i64 q2.yx) (.int .i64 q2.yy) (.bool q2.m) (.int .i64 q2.dx) (.int .i64 q2.dy) (.bool q2.t) (.int .i64 q2.pa) (.int .i64 q2.ch) W0).drew
      generalize (((((((((((W0.setCell ⟨w.heap.size, 0, none⟩ (.int .i64 q2.g)).setCell ⟨w.heap.size, 1, none⟩ (.int .i64 q2.xx)).setCell ⟨w.heap.size, 2, none⟩ (.int .i64 q2.xy)).setCell ⟨w.heap.size, 3, none⟩ (.int .i64 q2.yx)).setCell ⟨w.heap.size, 4, none⟩ (.int .i64 q2.yy)).setCell ⟨w.heap.size, 5, none⟩ (.bool q2.m)).setCell ⟨w.heap.size, 6, none⟩ (.int .i64 q2.dx)).setCell ⟨w.heap.size, 7, none⟩ (.int .i64 q2.dy)).setCell ⟨w.heap.size, 8, none⟩ (.bool q2.t)).setCell ⟨w.heap.size, 9, none⟩ (.int .i64 q2.pa)).setCell ⟨w.heap.size, 10, none⟩ (.int .i64 q2.ch)).drew = W9 at *
      have d0 : W9.cell? ⟨w.heap.size, 0, none⟩ = some (.int .i64 q2.g) := by rw [cell_of_row W9 w.heap.size 0 _ _ _ hHF]; rfl
      have d1 : W9.cell? ⟨w.heap.size, 1, none⟩ = some (.int .i64 q2.xx) := by rw [cell_of_row W9 w.heap.size 1 _ _ _ hHF]; rfl
      have d2 : W9.cell? ⟨w.heap.size, 2, none⟩ = some (.int .i64 q2.xy) := by rw [cell_of_row W9 w.heap.size 2 _ _ _ hHF]; rfl
      have d3 : W9.cell? ⟨w.heap.size, 3, none⟩ = some (.int .i64 q2.yx) := by rw [cell_of_row W9 w.heap.size 3 _ _ _ hHF]; rfl
      have d4 : W9.cell? ⟨w.heap.size, 4, none⟩ = some (.int .i64 q2.yy) := by rw [cell_of_row W9 w.heap.size 4 _ _ _ hHF]; rfl
      have d5 : W9.cell? ⟨w.heap.size, 5, none⟩ = some (.bool q2.m) := by rw [cell_of_row W9 w.heap.size 5 _ _ _ hHF]; rfl
      have d6 : W9.cell? ⟨w.heap.size, 6, none⟩ = some (.int .i64 q2.dx) := by rw [cell_of_row W9 w.heap.size 6 _ _ _ hHF]; rfl
      have d7 : W9.cell? ⟨w.heap.size, 7, none⟩ = some (.int .i64 q2.dy) := by rw [cell_of_row W9 w.heap.size 7 _ _ _ hHF]; rfl
      have d8 : W9.cell? ⟨w.heap.size, 8, none⟩ = some (.bool q2.t) := by rw [cell_of_row W9 w.heap.size 8 _ _ _ hHF]; rfl
      have d9 : W9.cell? ⟨w.heap.size, 9, none⟩ = some (.int .i64 q2.pa) := by rw [cell_of_row W9 w.heap.size 9 _ _ _ hHF]; rfl
      have d10 : W9.cell? ⟨w.heap.size, 10, none⟩ = some (.int .i64 q2.ch) := by rw [cell_of_row W9 w.heap.size 10 _ _ _ hHF]; rfl
      refine bodyPost_ret (v := .tuple #[.agg #[.int .i64 q2.g, .int .i64 q2.xx, .int .i64 q2.xy, .int .i64 q2.yx, .int .i64 q2.yy, .bool q2.m, .int .i64 q2.dx, .int .i64 q2.dy, .bool q2.t, .int .i64 q2.pa, .int .i64 q2.ch], .bool (bits .and .i64 f 32 != 0), .bool (!s1.2)]) (by simp [results, Try.results58, go_sem, d0, d1, d2, d3, d4, d5, d6, d7, d8, d9, d10]) rfl ⟨by rw [HPM.out]; rfl, ?_, ?_⟩
      · rw [HPM.out]; exact HJ.out.1.kp hKF (by simp; have := HJ.out.2.2.2.2.1; omega) (fun t ht e => by simp at ht; subst ht; exact HJ.out.2.2.2.2.2.2.2 e)
      · exact HJ.out.2.2.2.1.trans' hKF (fun t ht => by simp at ht; subst ht; exact .inr (Nat.le_refl _))
  by_cases h64 : Y = 64
  · subst h64
    clear h0 h8
    have HPM0 : Hid (rpartM zs s = (({ q0 with xx := s16 (val zs 2 t4), yy := s16 (val zs 2 (stp zs 2 t4)) } : Pt), bits .and .i64 f 32 != 0, !(stp zs 2 (stp zs 2 t4)).2, stp zs 2 (stp zs 2 t4))) := by
      have hp : partM zs s = (({ q0 with xx := s16 (val zs 2 t4), yy := s16 (val zs 2 (stp zs 2 t4)) } : Pt), decide (bits .and .i64 f 32 ≠ 0), true && !(stp zs 2 (stp zs 2 t4)).2, stp zs 2 (stp zs 2 t4)) := by
        unfold partM; dsimp only; rw [HP0.out, HHD.out]; dsimp only; rw [HM.out]; rfl
      show _ = _; unfold rpartM; rw [if_pos (by rw [HHD.out]; show okM (matM f) = true; rw [HM.out]; rfl), hp]
      by_cases hh : bits .and .i64 f 32 = 0 <;> simp [hh]
    clear HHD HM HP0
    clear hR5
    go_wp2_with fail
    clear c0 f0 c1 f1 c2 f2 c3 f3 c4 f4 c5 f5 c6 f6 c7 f7 c8 f8 c9 f9 c10 f10
    generalize (((((((((((w5.setCell ⟨B, 0, none⟩ (.int .i64 q0.g)).setCell ⟨B, 1, none⟩ (.int .i64 q0.xx)).setCell ⟨B, 2, none⟩ (.int .i64 q0.xy)).setCell ⟨B, 3, none⟩ (.int .i64 q0.yx)).setCell ⟨B, 4, none⟩ (.int .i64 q0.yy)).setCell ⟨B, 5, none⟩ (.bool q0.m)).setCell ⟨B, 6, none⟩ (.int .i64 q0.dx)).setCell ⟨B, 7, none⟩ (.int .i64 q0.dy)).setCell ⟨B, 8, none⟩ (.bool q0.t)).setCell ⟨B, 9, none⟩ (.int .i64 q0.pa)).setCell ⟨B, 10, none⟩ (.int .i64 q0.ch)) = w6 at *
    refine (ri16S HJ.out.1).mono ?_; rintro e v0 ⟨rfl, hn, hkn⟩
    have HJ2 := Lib.hid (HJ.out.read hn hkn)
    clear hn hkn HJ
    generalize s16 (val zs 2 t4) = x1 at *
    generalize stp zs 2 t4 = s1 at *
    have kc0 := (HJ2.out.c 1 (.int .i64 q0.xx) rfl).1
    have kf0 := (HJ2.out.c 1 (.int .i64 q0.xx) rfl).2
    obtain ⟨q1, hq⟩ : ∃ q1 : Pt, ({ q0 with xx := x1 } : Pt) = q1 := ⟨_, rfl⟩
    have HQ1 := Lib.hid hq
    have HJ3 := Lib.hid (HJ2.out.put 1 (.int .i64 x1) (q' := q1) (by rw [← hq]; rfl))
    clear HJ2 hq
    have HJ2 := HJ3
    clear HJ3
    have HJ := HJ2
    clear HJ2
    go_wp2_with fail
    clear kc0 kf0
    generalize (v0.setCell ⟨B, 1, none⟩ (.int .i64 x1)) = W0 at *
    refine (ri16S HJ.out.1).mono ?_; rintro e v1 ⟨rfl, hn, hkn⟩
    have HJ2 := Lib.hid (HJ.out.read hn hkn)
    clear hn hkn HJ
    generalize s16 (val zs 2 s1) = x2 at *
    generalize stp zs 2 s1 = s2 at *
    have kc0 := (HJ2.out.c 4 (.int .i64 q1.yy) rfl).1
    have kf0 := (HJ2.out.c 4 (.int .i64 q1.yy) rfl).2
    obtain ⟨q2, hq⟩ : ∃ q2 : Pt, ({ q1 with yy := x2 } : Pt) = q2 := ⟨_, rfl⟩
    have HQ2 := Lib.hid hq
    have HJ3 := Lib.hid (HJ2.out.put 4 (.int .i64 x2) (q' := q2) (by rw [← hq]; rfl))
    clear HJ2 hq
    have HJ2 := HJ3
    clear HJ3
    have HJ := HJ2
    clear HJ2
    go_wp2_with fail
    clear kc0 kf0
    generalize (v1.setCell ⟨B, 4, none⟩ (.int .i64 x2)) = W1 at *
    have HPM : Hid (rpartM zs s = (q2, bits .and .i64 f 32 != 0, !s2.2, s2)) := by show _ = _; rw [HPM0.out, ← HQ2.out, ← HQ1.out]
    clear HPM0
    have k0 := (HJ.out.c 0 (.int .i64 q2.g) rfl).1
    have z0 : W1.cell? ⟨w.heap.size, 0, none⟩ = some (.int .i64 0) := by rw [cell_of_row W1 w.heap.size 0 _ _ _ HJ.out.2.2.1]; rfl
    have y0 := frozen_of_row W1 w.heap.size 0 _ _ HJ.out.2.2.1
    have k1 := (HJ.out.c 1 (.int .i64 q2.xx) rfl).1
    have z1 : W1.cell? ⟨w.heap.size, 1, none⟩ = some (.int .i64 0) := by rw [cell_of_row W1 w.heap.size 1 _ _ _ HJ.out.2.2.1]; rfl
    have y1 := frozen_of_row W1 w.heap.size 1 _ _ HJ.out.2.2.1
    have k2 := (HJ.out.c 2 (.int .i64 q2.xy) rfl).1
    have z2 : W1.cell? ⟨w.heap.size, 2, none⟩ = some (.int .i64 0) := by rw [cell_of_row W1 w.heap.size 2 _ _ _ HJ.out.2.2.1]; rfl
    have y2 := frozen_of_row W1 w.heap.size 2 _ _ HJ.out.2.2.1
    have k3 := (HJ.out.c 3 (.int .i64 q2.yx) rfl).1
    have z3 : W1.cell? ⟨w.heap.size, 3, none⟩ = some (.int .i64 0) := by rw [cell_of_row W1 w.heap.size 3 _ _ _ HJ.out.2.2.1]; rfl
    have y3 := frozen_of_row W1 w.heap.size 3 _ _ HJ.out.2.2.1
    have k4 := (HJ.out.c 4 (.int .i64 q2.yy) rfl).1
    have z4 : W1.cell? ⟨w.heap.size, 4, none⟩ = some (.int .i64 0) := by rw [cell_of_row W1 w.heap.size 4 _ _ _ HJ.out.2.2.1]; rfl
    have y4 := frozen_of_row W1 w.heap.size 4 _ _ HJ.out.2.2.1
    have k5 := (HJ.out.c 5 (.bool q2.m) rfl).1
    have z5 : W1.cell? ⟨w.heap.size, 5, none⟩ = some (.bool false) := by rw [cell_of_row W1 w.heap.size 5 _ _ _ HJ.out.2.2.1]; rfl
    have y5 := frozen_of_row W1 w.heap.size 5 _ _ HJ.out.2.2.1
    have k6 := (HJ.out.c 6 (.int .i64 q2.dx) rfl).1
    have z6 : W1.cell? ⟨w.heap.size, 6, none⟩ = some (.int .i64 0) := by rw [cell_of_row W1 w.heap.size 6 _ _ _ HJ.out.2.2.1]; rfl
    have y6 := frozen_of_row W1 w.heap.size 6 _ _ HJ.out.2.2.1
    have k7 := (HJ.out.c 7 (.int .i64 q2.dy) rfl).1
    have z7 : W1.cell? ⟨w.heap.size, 7, none⟩ = some (.int .i64 0) := by rw [cell_of_row W1 w.heap.size 7 _ _ _ HJ.out.2.2.1]; rfl
    have y7 := frozen_of_row W1 w.heap.size 7 _ _ HJ.out.2.2.1
    have k8 := (HJ.out.c 8 (.bool q2.t) rfl).1
    have z8 : W1.cell? ⟨w.heap.size, 8, none⟩ = some (.bool false) := by rw [cell_of_row W1 w.heap.size 8 _ _ _ HJ.out.2.2.1]; rfl
    have y8 := frozen_of_row W1 w.heap.size 8 _ _ HJ.out.2.2.1
    have k9 := (HJ.out.c 9 (.int .i64 q2.pa) rfl).1
    have z9 : W1.cell? ⟨w.heap.size, 9, none⟩ = some (.int .i64 0) := by rw [cell_of_row W1 w.heap.size 9 _ _ _ HJ.out.2.2.1]; rfl
    have y9 := frozen_of_row W1 w.heap.size 9 _ _ HJ.out.2.2.1
    have k10 := (HJ.out.c 10 (.int .i64 q2.ch) rfl).1
    have z10 : W1.cell? ⟨w.heap.size, 10, none⟩ = some (.int .i64 0) := by rw [cell_of_row W1 w.heap.size 10 _ _ _ HJ.out.2.2.1]; rfl
    have y10 := frozen_of_row W1 w.heap.size 10 _ _ HJ.out.2.2.1
    obtain ⟨b0, b1, b2, _, _⟩ := HJ.out.1.1.facts
    have hBw2 : B ≠ w.heap.size := by have := HJ.out.2.2.2.2.2.1; omega
    have hrw2 : r ≠ w.heap.size := by have := HJ.out.2.2.2.2.1; omega
    go_region_with (fail)
    all_goals
      go_wp2_with fail
      clear k0 z0 y0 k1 z1 y1 k2 z2 y2 k3 z3 y3 k4 z4 y4 k5 z5 y5 k6 z6 y6 k7 z7 y7 k8 z8 y8 k9 z9 y9 k10 z10 y10 b0 b1 b2
      have hHF : (((((((((((W1.setCell ⟨w.heap.size, 0, none⟩ (.int .i64 q2.g)).setCell ⟨w.heap.size, 1, none⟩ (.int .i64 q2.xx)).setCell ⟨w.heap.size, 2, none⟩ (.int .i64 q2.xy)).setCell ⟨w.heap.size, 3, none⟩ (.int .i64 q2.yx)).setCell ⟨w.heap.size, 4, none⟩ (.int .i64 q2.yy)).setCell ⟨w.heap.size, 5, none⟩ (.bool q2.m)).setCell ⟨w.heap.size, 6, none⟩ (.int .i64 q2.dx)).setCell ⟨w.heap.size, 7, none⟩ (.int .i64 q2.dy)).setCell ⟨w.heap.size, 8, none⟩ (.bool q2.t)).setCell ⟨w.heap.size, 9, none⟩ (.int .i64 q2.pa)).setCell ⟨w.heap.size, 10, none⟩ (.int .i64 q2.ch)).drew.heap[w.heap.size]? = some (.cells #[.int .i64 q2.g, .int .i64 q2.xx, .int .i64 q2.xy, .int .i64 q2.yx, .int .i64 q2.yy, .bool q2.m, .int .i64 q2.dx, .int .i64 q2.dy, .bool q2.t, .int .i64 q2.pa, .int .i64 q2.ch] 36 (0, 0)) := by rw [drew_heap']; exact put11v w.heap.size (.int .i64 q2.g) (.int .i64 q2.xx) (.int .i64 q2.xy) (.int .i64 q2.yx) (.int .i64 q2.yy) (.bool q2.m) (.int .i64 q2.dx) (.int .i64 q2.dy) (.bool q2.t) (.int .i64 q2.pa) (.int .i64 q2.ch) HJ.out.2.2.1
      have hKF : Kp [w.heap.size] W1 (((((((((((W1.setCell ⟨w.heap.size, 0, none⟩ (.int .i64 q2.g)).setCell ⟨w.heap.size, 1, none⟩ (.int .i64 q2.xx)).setCell ⟨w.heap.size, 2, none⟩ (.int .i64 q2.xy)).setCell ⟨w.heap.size, 3, none⟩ (.int .i64 q2.yx)).setCell ⟨w.heap.size, 4, none⟩ (.int .i64 q2.yy)).setCell ⟨w.heap.size, 5, none⟩ (.bool q2.m)).setCell ⟨w.heap.size, 6, none⟩ (.int .i64 q2.dx)).setCell ⟨w.heap.size, 7, none⟩ (.int .i64 q2.dy)).setCell ⟨w.heap.size, 8, none⟩ (.bool q2.t)).setCell ⟨w.heap.size, 9, none⟩ (.int .i64 q2.pa)).setCell ⟨w.heap.size, 10, none⟩ (.int .i64 q2.ch)).drew := (kput11v w.heap.size (.int .i64 q2.g) (.int .i64 q2.xx) (.int .i64 q2.xy) (.int .i64 q2.yx) (.int .i64 q2.yy) (.bool q2.m) (.int .i64 q2.dx) (.int .i64 q2.dy) (.bool q2.t) (.int .i64 q2.pa) (.int .i64 q2.ch) W1).drew
      generalize (((((((((((W1.setCell ⟨w.heap.size, 0, none⟩ (.int .i64 q2.g)).setCell ⟨w.heap.size, 1, none⟩ (.int .i64 q2.xx)).setCell ⟨w.heap.size, 2, none⟩ (.int .i64 q2.xy)).setCell ⟨w.heap.size, 3, none⟩ (.int .i64 q2.yx)).setCell ⟨w.heap.size, 4, none⟩ (.int .i64 q2.yy)).setCell ⟨w.heap.size, 5, none⟩ (.bool q2.m)).setCell ⟨w.heap.size, 6, none⟩ (.int .i64 q2.dx)).setCell ⟨w.heap.size, 7, none⟩ (.int .i64 q2.dy)).setCell ⟨w.heap.size, 8, none⟩ (.bool q2.t)).setCell ⟨w.heap.size, 9, none⟩ (.int .i64 q2.pa)).setCell ⟨w.heap.size, 10, none⟩ (.int .i64 q2.ch)).drew = W9 at *
      have d0 : W9.cell? ⟨w.heap.size, 0, none⟩ = some (.int .i64 q2.g) := by rw [cell_of_row W9 w.heap.size 0 _ _ _ hHF]; rfl
      have d1 : W9.cell? ⟨w.heap.size, 1, none⟩ = some (.int .i64 q2.xx) := by rw [cell_of_row W9 w.heap.size 1 _ _ _ hHF]; rfl
      have d2 : W9.cell? ⟨w.heap.size, 2, none⟩ = some (.int .i64 q2.xy) := by rw [cell_of_row W9 w.heap.size 2 _ _ _ hHF]; rfl
      have d3 : W9.cell? ⟨w.heap.size, 3, none⟩ = some (.int .i64 q2.yx) := by rw [cell_of_row W9 w.heap.size 3 _ _ _ hHF]; rfl
      have d4 : W9.cell? ⟨w.heap.size, 4, none⟩ = some (.int .i64 q2.yy) := by rw [cell_of_row W9 w.heap.size 4 _ _ _ hHF]; rfl
      have d5 : W9.cell? ⟨w.heap.size, 5, none⟩ = some (.bool q2.m) := by rw [cell_of_row W9 w.heap.size 5 _ _ _ hHF]; rfl
      have d6 : W9.cell? ⟨w.heap.size, 6, none⟩ = some (.int .i64 q2.dx) := by rw [cell_of_row W9 w.heap.size 6 _ _ _ hHF]; rfl
      have d7 : W9.cell? ⟨w.heap.size, 7, none⟩ = some (.int .i64 q2.dy) := by rw [cell_of_row W9 w.heap.size 7 _ _ _ hHF]; rfl
      have d8 : W9.cell? ⟨w.heap.size, 8, none⟩ = some (.bool q2.t) := by rw [cell_of_row W9 w.heap.size 8 _ _ _ hHF]; rfl
      have d9 : W9.cell? ⟨w.heap.size, 9, none⟩ = some (.int .i64 q2.pa) := by rw [cell_of_row W9 w.heap.size 9 _ _ _ hHF]; rfl
      have d10 : W9.cell? ⟨w.heap.size, 10, none⟩ = some (.int .i64 q2.ch) := by rw [cell_of_row W9 w.heap.size 10 _ _ _ hHF]; rfl
      refine bodyPost_ret (v := .tuple #[.agg #[.int .i64 q2.g, .int .i64 q2.xx, .int .i64 q2.xy, .int .i64 q2.yx, .int .i64 q2.yy, .bool q2.m, .int .i64 q2.dx, .int .i64 q2.dy, .bool q2.t, .int .i64 q2.pa, .int .i64 q2.ch], .bool (bits .and .i64 f 32 != 0), .bool (!s2.2)]) (by simp [results, Try.results58, go_sem, d0, d1, d2, d3, d4, d5, d6, d7, d8, d9, d10]) rfl ⟨by rw [HPM.out]; rfl, ?_, ?_⟩
      · rw [HPM.out]; exact HJ.out.1.kp hKF (by simp; have := HJ.out.2.2.2.2.1; omega) (fun t ht e => by simp at ht; subst ht; exact HJ.out.2.2.2.2.2.2.2 e)
      · exact HJ.out.2.2.2.1.trans' hKF (fun t ht => by simp at ht; subst ht; exact .inr (Nat.le_refl _))
  by_cases h128 : Y = 128
  · subst h128
    clear h0 h8 h64
    have HPM0 : Hid (rpartM zs s = (({ q0 with xx := s16 (val zs 2 t4), xy := s16 (val zs 2 (stp zs 2 t4)), yx := s16 (val zs 2 (stp zs 2 (stp zs 2 t4))), yy := s16 (val zs 2 (stp zs 2 (stp zs 2 (stp zs 2 t4)))) } : Pt), bits .and .i64 f 32 != 0, !(stp zs 2 (stp zs 2 (stp zs 2 (stp zs 2 t4)))).2, stp zs 2 (stp zs 2 (stp zs 2 (stp zs 2 t4))))) := by
      have hp : partM zs s = (({ q0 with xx := s16 (val zs 2 t4), xy := s16 (val zs 2 (stp zs 2 t4)), yx := s16 (val zs 2 (stp zs 2 (stp zs 2 t4))), yy := s16 (val zs 2 (stp zs 2 (stp zs 2 (stp zs 2 t4)))) } : Pt), decide (bits .and .i64 f 32 ≠ 0), true && !(stp zs 2 (stp zs 2 (stp zs 2 (stp zs 2 t4)))).2, stp zs 2 (stp zs 2 (stp zs 2 (stp zs 2 t4)))) := by
        unfold partM; dsimp only; rw [HP0.out, HHD.out]; dsimp only; rw [HM.out]; rfl
      show _ = _; unfold rpartM; rw [if_pos (by rw [HHD.out]; show okM (matM f) = true; rw [HM.out]; rfl), hp]
      by_cases hh : bits .and .i64 f 32 = 0 <;> simp [hh]
    clear HHD HM HP0
    clear hR5
    go_wp2_with fail
    clear c0 f0 c1 f1 c2 f2 c3 f3 c4 f4 c5 f5 c6 f6 c7 f7 c8 f8 c9 f9 c10 f10
    generalize (((((((((((w5.setCell ⟨B, 0, none⟩ (.int .i64 q0.g)).setCell ⟨B, 1, none⟩ (.int .i64 q0.xx)).setCell ⟨B, 2, none⟩ (.int .i64 q0.xy)).setCell ⟨B, 3, none⟩ (.int .i64 q0.yx)).setCell ⟨B, 4, none⟩ (.int .i64 q0.yy)).setCell ⟨B, 5, none⟩ (.bool q0.m)).setCell ⟨B, 6, none⟩ (.int .i64 q0.dx)).setCell ⟨B, 7, none⟩ (.int .i64 q0.dy)).setCell ⟨B, 8, none⟩ (.bool q0.t)).setCell ⟨B, 9, none⟩ (.int .i64 q0.pa)).setCell ⟨B, 10, none⟩ (.int .i64 q0.ch)) = w6 at *
    refine (ri16S HJ.out.1).mono ?_; rintro e v0 ⟨rfl, hn, hkn⟩
    have HJ2 := Lib.hid (HJ.out.read hn hkn)
    clear hn hkn HJ
    generalize s16 (val zs 2 t4) = x1 at *
    generalize stp zs 2 t4 = s1 at *
    have kc0 := (HJ2.out.c 1 (.int .i64 q0.xx) rfl).1
    have kf0 := (HJ2.out.c 1 (.int .i64 q0.xx) rfl).2
    obtain ⟨q1, hq⟩ : ∃ q1 : Pt, ({ q0 with xx := x1 } : Pt) = q1 := ⟨_, rfl⟩
    have HQ1 := Lib.hid hq
    have HJ3 := Lib.hid (HJ2.out.put 1 (.int .i64 x1) (q' := q1) (by rw [← hq]; rfl))
    clear HJ2 hq
    have HJ2 := HJ3
    clear HJ3
    have HJ := HJ2
    clear HJ2
    go_wp2_with fail
    clear kc0 kf0
    generalize (v0.setCell ⟨B, 1, none⟩ (.int .i64 x1)) = W0 at *
    refine (ri16S HJ.out.1).mono ?_; rintro e v1 ⟨rfl, hn, hkn⟩
    have HJ2 := Lib.hid (HJ.out.read hn hkn)
    clear hn hkn HJ
    generalize s16 (val zs 2 s1) = x2 at *
    generalize stp zs 2 s1 = s2 at *
    have kc0 := (HJ2.out.c 2 (.int .i64 q1.xy) rfl).1
    have kf0 := (HJ2.out.c 2 (.int .i64 q1.xy) rfl).2
    obtain ⟨q2, hq⟩ : ∃ q2 : Pt, ({ q1 with xy := x2 } : Pt) = q2 := ⟨_, rfl⟩
    have HQ2 := Lib.hid hq
    have HJ3 := Lib.hid (HJ2.out.put 2 (.int .i64 x2) (q' := q2) (by rw [← hq]; rfl))
    clear HJ2 hq
    have HJ2 := HJ3
    clear HJ3
    have HJ := HJ2
    clear HJ2
    go_wp2_with fail
    clear kc0 kf0
    generalize (v1.setCell ⟨B, 2, none⟩ (.int .i64 x2)) = W1 at *
    refine (ri16S HJ.out.1).mono ?_; rintro e v2 ⟨rfl, hn, hkn⟩
    have HJ2 := Lib.hid (HJ.out.read hn hkn)
    clear hn hkn HJ
    generalize s16 (val zs 2 s2) = x3 at *
    generalize stp zs 2 s2 = s3 at *
    have kc0 := (HJ2.out.c 3 (.int .i64 q2.yx) rfl).1
    have kf0 := (HJ2.out.c 3 (.int .i64 q2.yx) rfl).2
    obtain ⟨q3, hq⟩ : ∃ q3 : Pt, ({ q2 with yx := x3 } : Pt) = q3 := ⟨_, rfl⟩
    have HQ3 := Lib.hid hq
    have HJ3 := Lib.hid (HJ2.out.put 3 (.int .i64 x3) (q' := q3) (by rw [← hq]; rfl))
    clear HJ2 hq
    have HJ2 := HJ3
    clear HJ3
    have HJ := HJ2
    clear HJ2
    go_wp2_with fail
    clear kc0 kf0
    generalize (v2.setCell ⟨B, 3, none⟩ (.int .i64 x3)) = W2 at *
    refine (ri16S HJ.out.1).mono ?_; rintro e v3 ⟨rfl, hn, hkn⟩
    have HJ2 := Lib.hid (HJ.out.read hn hkn)
    clear hn hkn HJ
    generalize s16 (val zs 2 s3) = x4 at *
    generalize stp zs 2 s3 = s4 at *
    have kc0 := (HJ2.out.c 4 (.int .i64 q3.yy) rfl).1
    have kf0 := (HJ2.out.c 4 (.int .i64 q3.yy) rfl).2
    obtain ⟨q4, hq⟩ : ∃ q4 : Pt, ({ q3 with yy := x4 } : Pt) = q4 := ⟨_, rfl⟩
    have HQ4 := Lib.hid hq
    have HJ3 := Lib.hid (HJ2.out.put 4 (.int .i64 x4) (q' := q4) (by rw [← hq]; rfl))
    clear HJ2 hq
    have HJ2 := HJ3
    clear HJ3
    have HJ := HJ2
    clear HJ2
    go_wp2_with fail
    clear kc0 kf0
    generalize (v3.setCell ⟨B, 4, none⟩ (.int .i64 x4)) = W3 at *
    have HPM : Hid (rpartM zs s = (q4, bits .and .i64 f 32 != 0, !s4.2, s4)) := by show _ = _; rw [HPM0.out, ← HQ4.out, ← HQ3.out, ← HQ2.out, ← HQ1.out]
    clear HPM0
    have k0 := (HJ.out.c 0 (.int .i64 q4.g) rfl).1
    have z0 : W3.cell? ⟨w.heap.size, 0, none⟩ = some (.int .i64 0) := by rw [cell_of_row W3 w.heap.size 0 _ _ _ HJ.out.2.2.1]; rfl
    have y0 := frozen_of_row W3 w.heap.size 0 _ _ HJ.out.2.2.1
    have k1 := (HJ.out.c 1 (.int .i64 q4.xx) rfl).1
    have z1 : W3.cell? ⟨w.heap.size, 1, none⟩ = some (.int .i64 0) := by rw [cell_of_row W3 w.heap.size 1 _ _ _ HJ.out.2.2.1]; rfl
    have y1 := frozen_of_row W3 w.heap.size 1 _ _ HJ.out.2.2.1
    have k2 := (HJ.out.c 2 (.int .i64 q4.xy) rfl).1
    have z2 : W3.cell? ⟨w.heap.size, 2, none⟩ = some (.int .i64 0) := by rw [cell_of_row W3 w.heap.size 2 _ _ _ HJ.out.2.2.1]; rfl
    have y2 := frozen_of_row W3 w.heap.size 2 _ _ HJ.out.2.2.1
    have k3 := (HJ.out.c 3 (.int .i64 q4.yx) rfl).1
    have z3 : W3.cell? ⟨w.heap.size, 3, none⟩ = some (.int .i64 0) := by rw [cell_of_row W3 w.heap.size 3 _ _ _ HJ.out.2.2.1]; rfl
    have y3 := frozen_of_row W3 w.heap.size 3 _ _ HJ.out.2.2.1
    have k4 := (HJ.out.c 4 (.int .i64 q4.yy) rfl).1
    have z4 : W3.cell? ⟨w.heap.size, 4, none⟩ = some (.int .i64 0) := by rw [cell_of_row W3 w.heap.size 4 _ _ _ HJ.out.2.2.1]; rfl
    have y4 := frozen_of_row W3 w.heap.size 4 _ _ HJ.out.2.2.1
    have k5 := (HJ.out.c 5 (.bool q4.m) rfl).1
    have z5 : W3.cell? ⟨w.heap.size, 5, none⟩ = some (.bool false) := by rw [cell_of_row W3 w.heap.size 5 _ _ _ HJ.out.2.2.1]; rfl
    have y5 := frozen_of_row W3 w.heap.size 5 _ _ HJ.out.2.2.1
    have k6 := (HJ.out.c 6 (.int .i64 q4.dx) rfl).1
    have z6 : W3.cell? ⟨w.heap.size, 6, none⟩ = some (.int .i64 0) := by rw [cell_of_row W3 w.heap.size 6 _ _ _ HJ.out.2.2.1]; rfl
    have y6 := frozen_of_row W3 w.heap.size 6 _ _ HJ.out.2.2.1
    have k7 := (HJ.out.c 7 (.int .i64 q4.dy) rfl).1
    have z7 : W3.cell? ⟨w.heap.size, 7, none⟩ = some (.int .i64 0) := by rw [cell_of_row W3 w.heap.size 7 _ _ _ HJ.out.2.2.1]; rfl
    have y7 := frozen_of_row W3 w.heap.size 7 _ _ HJ.out.2.2.1
    have k8 := (HJ.out.c 8 (.bool q4.t) rfl).1
    have z8 : W3.cell? ⟨w.heap.size, 8, none⟩ = some (.bool false) := by rw [cell_of_row W3 w.heap.size 8 _ _ _ HJ.out.2.2.1]; rfl
    have y8 := frozen_of_row W3 w.heap.size 8 _ _ HJ.out.2.2.1
    have k9 := (HJ.out.c 9 (.int .i64 q4.pa) rfl).1
    have z9 : W3.cell? ⟨w.heap.size, 9, none⟩ = some (.int .i64 0) := by rw [cell_of_row W3 w.heap.size 9 _ _ _ HJ.out.2.2.1]; rfl
    have y9 := frozen_of_row W3 w.heap.size 9 _ _ HJ.out.2.2.1
    have k10 := (HJ.out.c 10 (.int .i64 q4.ch) rfl).1
    have z10 : W3.cell? ⟨w.heap.size, 10, none⟩ = some (.int .i64 0) := by rw [cell_of_row W3 w.heap.size 10 _ _ _ HJ.out.2.2.1]; rfl
    have y10 := frozen_of_row W3 w.heap.size 10 _ _ HJ.out.2.2.1
    obtain ⟨b0, b1, b2, _, _⟩ := HJ.out.1.1.facts
    have hBw2 : B ≠ w.heap.size := by have := HJ.out.2.2.2.2.2.1; omega
    have hrw2 : r ≠ w.heap.size := by have := HJ.out.2.2.2.2.1; omega
    go_region_with (fail)
    all_goals
      go_wp2_with fail
      clear k0 z0 y0 k1 z1 y1 k2 z2 y2 k3 z3 y3 k4 z4 y4 k5 z5 y5 k6 z6 y6 k7 z7 y7 k8 z8 y8 k9 z9 y9 k10 z10 y10 b0 b1 b2
      have hHF : (((((((((((W3.setCell ⟨w.heap.size, 0, none⟩ (.int .i64 q4.g)).setCell ⟨w.heap.size, 1, none⟩ (.int .i64 q4.xx)).setCell ⟨w.heap.size, 2, none⟩ (.int .i64 q4.xy)).setCell ⟨w.heap.size, 3, none⟩ (.int .i64 q4.yx)).setCell ⟨w.heap.size, 4, none⟩ (.int .i64 q4.yy)).setCell ⟨w.heap.size, 5, none⟩ (.bool q4.m)).setCell ⟨w.heap.size, 6, none⟩ (.int .i64 q4.dx)).setCell ⟨w.heap.size, 7, none⟩ (.int .i64 q4.dy)).setCell ⟨w.heap.size, 8, none⟩ (.bool q4.t)).setCell ⟨w.heap.size, 9, none⟩ (.int .i64 q4.pa)).setCell ⟨w.heap.size, 10, none⟩ (.int .i64 q4.ch)).drew.heap[w.heap.size]? = some (.cells #[.int .i64 q4.g, .int .i64 q4.xx, .int .i64 q4.xy, .int .i64 q4.yx, .int .i64 q4.yy, .bool q4.m, .int .i64 q4.dx, .int .i64 q4.dy, .bool q4.t, .int .i64 q4.pa, .int .i64 q4.ch] 36 (0, 0)) := by rw [drew_heap']; exact put11v w.heap.size (.int .i64 q4.g) (.int .i64 q4.xx) (.int .i64 q4.xy) (.int .i64 q4.yx) (.int .i64 q4.yy) (.bool q4.m) (.int .i64 q4.dx) (.int .i64 q4.dy) (.bool q4.t) (.int .i64 q4.pa) (.int .i64 q4.ch) HJ.out.2.2.1
      have hKF : Kp [w.heap.size] W3 (((((((((((W3.setCell ⟨w.heap.size, 0, none⟩ (.int .i64 q4.g)).setCell ⟨w.heap.size, 1, none⟩ (.int .i64 q4.xx)).setCell ⟨w.heap.size, 2, none⟩ (.int .i64 q4.xy)).setCell ⟨w.heap.size, 3, none⟩ (.int .i64 q4.yx)).setCell ⟨w.heap.size, 4, none⟩ (.int .i64 q4.yy)).setCell ⟨w.heap.size, 5, none⟩ (.bool q4.m)).setCell ⟨w.heap.size, 6, none⟩ (.int .i64 q4.dx)).setCell ⟨w.heap.size, 7, none⟩ (.int .i64 q4.dy)).setCell ⟨w.heap.size, 8, none⟩ (.bool q4.t)).setCell ⟨w.heap.size, 9, none⟩ (.int .i64 q4.pa)).setCell ⟨w.heap.size, 10, none⟩ (.int .i64 q4.ch)).drew := (kput11v w.heap.size (.int .i64 q4.g) (.int .i64 q4.xx) (.int .i64 q4.xy) (.int .i64 q4.yx) (.int .i64 q4.yy) (.bool q4.m) (.int .i64 q4.dx) (.int .i64 q4.dy) (.bool q4.t) (.int .i64 q4.pa) (.int .i64 q4.ch) W3).drew
      generalize (((((((((((W3.setCell ⟨w.heap.size, 0, none⟩ (.int .i64 q4.g)).setCell ⟨w.heap.size, 1, none⟩ (.int .i64 q4.xx)).setCell ⟨w.heap.size, 2, none⟩ (.int .i64 q4.xy)).setCell ⟨w.heap.size, 3, none⟩ (.int .i64 q4.yx)).setCell ⟨w.heap.size, 4, none⟩ (.int .i64 q4.yy)).setCell ⟨w.heap.size, 5, none⟩ (.bool q4.m)).setCell ⟨w.heap.size, 6, none⟩ (.int .i64 q4.dx)).setCell ⟨w.heap.size, 7, none⟩ (.int .i64 q4.dy)).setCell ⟨w.heap.size, 8, none⟩ (.bool q4.t)).setCell ⟨w.heap.size, 9, none⟩ (.int .i64 q4.pa)).setCell ⟨w.heap.size, 10, none⟩ (.int .i64 q4.ch)).drew = W9 at *
      have d0 : W9.cell? ⟨w.heap.size, 0, none⟩ = some (.int .i64 q4.g) := by rw [cell_of_row W9 w.heap.size 0 _ _ _ hHF]; rfl
      have d1 : W9.cell? ⟨w.heap.size, 1, none⟩ = some (.int .i64 q4.xx) := by rw [cell_of_row W9 w.heap.size 1 _ _ _ hHF]; rfl
      have d2 : W9.cell? ⟨w.heap.size, 2, none⟩ = some (.int .i64 q4.xy) := by rw [cell_of_row W9 w.heap.size 2 _ _ _ hHF]; rfl
      have d3 : W9.cell? ⟨w.heap.size, 3, none⟩ = some (.int .i64 q4.yx) := by rw [cell_of_row W9 w.heap.size 3 _ _ _ hHF]; rfl
      have d4 : W9.cell? ⟨w.heap.size, 4, none⟩ = some (.int .i64 q4.yy) := by rw [cell_of_row W9 w.heap.size 4 _ _ _ hHF]; rfl
      have d5 : W9.cell? ⟨w.heap.size, 5, none⟩ = some (.bool q4.m) := by rw [cell_of_row W9 w.heap.size 5 _ _ _ hHF]; rfl
      have d6 : W9.cell? ⟨w.heap.size, 6, none⟩ = some (.int .i64 q4.dx) := by rw [cell_of_row W9 w.heap.size 6 _ _ _ hHF]; rfl
      have d7 : W9.cell? ⟨w.heap.size, 7, none⟩ = some (.int .i64 q4.dy) := by rw [cell_of_row W9 w.heap.size 7 _ _ _ hHF]; rfl
      have d8 : W9.cell? ⟨w.heap.size, 8, none⟩ = some (.bool q4.t) := by rw [cell_of_row W9 w.heap.size 8 _ _ _ hHF]; rfl
      have d9 : W9.cell? ⟨w.heap.size, 9, none⟩ = some (.int .i64 q4.pa) := by rw [cell_of_row W9 w.heap.size 9 _ _ _ hHF]; rfl
      have d10 : W9.cell? ⟨w.heap.size, 10, none⟩ = some (.int .i64 q4.ch) := by rw [cell_of_row W9 w.heap.size 10 _ _ _ hHF]; rfl
      refine bodyPost_ret (v := .tuple #[.agg #[.int .i64 q4.g, .int .i64 q4.xx, .int .i64 q4.xy, .int .i64 q4.yx, .int .i64 q4.yy, .bool q4.m, .int .i64 q4.dx, .int .i64 q4.dy, .bool q4.t, .int .i64 q4.pa, .int .i64 q4.ch], .bool (bits .and .i64 f 32 != 0), .bool (!s4.2)]) (by simp [results, Try.results58, go_sem, d0, d1, d2, d3, d4, d5, d6, d7, d8, d9, d10]) rfl ⟨by rw [HPM.out]; rfl, ?_, ?_⟩
      · rw [HPM.out]; exact HJ.out.1.kp hKF (by simp; have := HJ.out.2.2.2.2.1; omega) (fun t ht e => by simp at ht; subst ht; exact HJ.out.2.2.2.2.2.2.2 e)
      · exact HJ.out.2.2.2.1.trans' hKF (fun t ht => by simp at ht; subst ht; exact .inr (Nat.le_refl _))
  ·
    have HPM : Hid (rpartM zs s = (q0, false, false, t4)) := by show _ = _; unfold rpartM; rw [HHD.out, if_neg (by show ¬ okM (matM f) = true; rw [HM.out]; simp [okM, h0, h8, h64, h128]), ← HHD.out, HP0.out, HHD.out]
    have e0 : (Y == 0) = false := by simpa using h0
    have e8 : (Y == 8) = false := by simpa using h8
    have e64 : (Y == 64) = false := by simpa using h64
    have e128 : (Y == 128) = false := by simpa using h128
    clear h0 h8 h64 h128
    have z0 : w5.cell? ⟨w.heap.size, 0, none⟩ = some (.int .i64 0) := by rw [cell_of_row w5 w.heap.size 0 _ _ _ hR5]; rfl
    have y0 := frozen_of_row w5 w.heap.size 0 _ _ hR5
    have z1 : w5.cell? ⟨w.heap.size, 1, none⟩ = some (.int .i64 0) := by rw [cell_of_row w5 w.heap.size 1 _ _ _ hR5]; rfl
    have y1 := frozen_of_row w5 w.heap.size 1 _ _ hR5
    have z2 : w5.cell? ⟨w.heap.size, 2, none⟩ = some (.int .i64 0) := by rw [cell_of_row w5 w.heap.size 2 _ _ _ hR5]; rfl
    have y2 := frozen_of_row w5 w.heap.size 2 _ _ hR5
    have z3 : w5.cell? ⟨w.heap.size, 3, none⟩ = some (.int .i64 0) := by rw [cell_of_row w5 w.heap.size 3 _ _ _ hR5]; rfl
    have y3 := frozen_of_row w5 w.heap.size 3 _ _ hR5
    have z4 : w5.cell? ⟨w.heap.size, 4, none⟩ = some (.int .i64 0) := by rw [cell_of_row w5 w.heap.size 4 _ _ _ hR5]; rfl
    have y4 := frozen_of_row w5 w.heap.size 4 _ _ hR5
    have z5 : w5.cell? ⟨w.heap.size, 5, none⟩ = some (.bool false) := by rw [cell_of_row w5 w.heap.size 5 _ _ _ hR5]; rfl
    have y5 := frozen_of_row w5 w.heap.size 5 _ _ hR5
    have z6 : w5.cell? ⟨w.heap.size, 6, none⟩ = some (.int .i64 0) := by rw [cell_of_row w5 w.heap.size 6 _ _ _ hR5]; rfl
    have y6 := frozen_of_row w5 w.heap.size 6 _ _ hR5
    have z7 : w5.cell? ⟨w.heap.size, 7, none⟩ = some (.int .i64 0) := by rw [cell_of_row w5 w.heap.size 7 _ _ _ hR5]; rfl
    have y7 := frozen_of_row w5 w.heap.size 7 _ _ hR5
    have z8 : w5.cell? ⟨w.heap.size, 8, none⟩ = some (.bool false) := by rw [cell_of_row w5 w.heap.size 8 _ _ _ hR5]; rfl
    have y8 := frozen_of_row w5 w.heap.size 8 _ _ hR5
    have z9 : w5.cell? ⟨w.heap.size, 9, none⟩ = some (.int .i64 0) := by rw [cell_of_row w5 w.heap.size 9 _ _ _ hR5]; rfl
    have y9 := frozen_of_row w5 w.heap.size 9 _ _ hR5
    have z10 : w5.cell? ⟨w.heap.size, 10, none⟩ = some (.int .i64 0) := by rw [cell_of_row w5 w.heap.size 10 _ _ _ hR5]; rfl
    have y10 := frozen_of_row w5 w.heap.size 10 _ _ hR5
    go_wp2_with fail
    clear c0 f0 c1 f1 c2 f2 c3 f3 c4 f4 c5 f5 c6 f6 c7 f7 c8 f8 c9 f9 c10 f10
    generalize (((((((((((w5.setCell ⟨B, 0, none⟩ (.int .i64 q0.g)).setCell ⟨B, 1, none⟩ (.int .i64 q0.xx)).setCell ⟨B, 2, none⟩ (.int .i64 q0.xy)).setCell ⟨B, 3, none⟩ (.int .i64 q0.yx)).setCell ⟨B, 4, none⟩ (.int .i64 q0.yy)).setCell ⟨B, 5, none⟩ (.bool q0.m)).setCell ⟨B, 6, none⟩ (.int .i64 q0.dx)).setCell ⟨B, 7, none⟩ (.int .i64 q0.dy)).setCell ⟨B, 8, none⟩ (.bool q0.t)).setCell ⟨B, 9, none⟩ (.int .i64 q0.pa)).setCell ⟨B, 10, none⟩ (.int .i64 q0.ch)) = w6 at *
    clear z0 y0 z1 y1 z2 y2 z3 y3 z4 y4 z5 y5 z6 y6 z7 y7 z8 y8 z9 y9 z10 y10
    have hHF : (((((((((((w6.setCell ⟨w.heap.size, 0, none⟩ (.int .i64 q0.g)).setCell ⟨w.heap.size, 1, none⟩ (.int .i64 q0.xx)).setCell ⟨w.heap.size, 2, none⟩ (.int .i64 q0.xy)).setCell ⟨w.heap.size, 3, none⟩ (.int .i64 q0.yx)).setCell ⟨w.heap.size, 4, none⟩ (.int .i64 q0.yy)).setCell ⟨w.heap.size, 5, none⟩ (.bool q0.m)).setCell ⟨w.heap.size, 6, none⟩ (.int .i64 q0.dx)).setCell ⟨w.heap.size, 7, none⟩ (.int .i64 q0.dy)).setCell ⟨w.heap.size, 8, none⟩ (.bool q0.t)).setCell ⟨w.heap.size, 9, none⟩ (.int .i64 q0.pa)).setCell ⟨w.heap.size, 10, none⟩ (.int .i64 q0.ch)).heap[w.heap.size]? = some (.cells #[.int .i64 q0.g, .int .i64 q0.xx, .int .i64 q0.xy, .int .i64 q0.yx, .int .i64 q0.yy, .bool q0.m, .int .i64 q0.dx, .int .i64 q0.dy, .bool q0.t, .int .i64 q0.pa, .int .i64 q0.ch] 36 (0, 0)) := by exact put11v w.heap.size (.int .i64 q0.g) (.int .i64 q0.xx) (.int .i64 q0.xy) (.int .i64 q0.yx) (.int .i64 q0.yy) (.bool q0.m) (.int .i64 q0.dx) (.int .i64 q0.dy) (.bool q0.t) (.int .i64 q0.pa) (.int .i64 q0.ch) HJ.out.2.2.1
    have hKF : Kp [w.heap.size] w6 (((((((((((w6.setCell ⟨w.heap.size, 0, none⟩ (.int .i64 q0.g)).setCell ⟨w.heap.size, 1, none⟩ (.int .i64 q0.xx)).setCell ⟨w.heap.size, 2, none⟩ (.int .i64 q0.xy)).setCell ⟨w.heap.size, 3, none⟩ (.int .i64 q0.yx)).setCell ⟨w.heap.size, 4, none⟩ (.int .i64 q0.yy)).setCell ⟨w.heap.size, 5, none⟩ (.bool q0.m)).setCell ⟨w.heap.size, 6, none⟩ (.int .i64 q0.dx)).setCell ⟨w.heap.size, 7, none⟩ (.int .i64 q0.dy)).setCell ⟨w.heap.size, 8, none⟩ (.bool q0.t)).setCell ⟨w.heap.size, 9, none⟩ (.int .i64 q0.pa)).setCell ⟨w.heap.size, 10, none⟩ (.int .i64 q0.ch)) := kput11v w.heap.size (.int .i64 q0.g) (.int .i64 q0.xx) (.int .i64 q0.xy) (.int .i64 q0.yx) (.int .i64 q0.yy) (.bool q0.m) (.int .i64 q0.dx) (.int .i64 q0.dy) (.bool q0.t) (.int .i64 q0.pa) (.int .i64 q0.ch) w6
    generalize (((((((((((w6.setCell ⟨w.heap.size, 0, none⟩ (.int .i64 q0.g)).setCell ⟨w.heap.size, 1, none⟩ (.int .i64 q0.xx)).setCell ⟨w.heap.size, 2, none⟩ (.int .i64 q0.xy)).setCell ⟨w.heap.size, 3, none⟩ (.int .i64 q0.yx)).setCell ⟨w.heap.size, 4, none⟩ (.int .i64 q0.yy)).setCell ⟨w.heap.size, 5, none⟩ (.bool q0.m)).setCell ⟨w.heap.size, 6, none⟩ (.int .i64 q0.dx)).setCell ⟨w.heap.size, 7, none⟩ (.int .i64 q0.dy)).setCell ⟨w.heap.size, 8, none⟩ (.bool q0.t)).setCell ⟨w.heap.size, 9, none⟩ (.int .i64 q0.pa)).setCell ⟨w.heap.size, 10, none⟩ (.int .i64 q0.ch)) = W9 at *
    have d0 : W9.cell? ⟨w.heap.size, 0, none⟩ = some (.int .i64 q0.g) := by rw [cell_of_row W9 w.heap.size 0 _ _ _ hHF]; rfl
    have d1 : W9.cell? ⟨w.heap.size, 1, none⟩ = some (.int .i64 q0.xx) := by rw [cell_of_row W9 w.heap.size 1 _ _ _ hHF]; rfl
    have d2 : W9.cell? ⟨w.heap.size, 2, none⟩ = some (.int .i64 q0.xy) := by rw [cell_of_row W9 w.heap.size 2 _ _ _ hHF]; rfl
    have d3 : W9.cell? ⟨w.heap.size, 3, none⟩ = some (.int .i64 q0.yx) := by rw [cell_of_row W9 w.heap.size 3 _ _ _ hHF]; rfl
    have d4 : W9.cell? ⟨w.heap.size, 4, none⟩ = some (.int .i64 q0.yy) := by rw [cell_of_row W9 w.heap.size 4 _ _ _ hHF]; rfl
    have d5 : W9.cell? ⟨w.heap.size, 5, none⟩ = some (.bool q0.m) := by rw [cell_of_row W9 w.heap.size 5 _ _ _ hHF]; rfl
    have d6 : W9.cell? ⟨w.heap.size, 6, none⟩ = some (.int .i64 q0.dx) := by rw [cell_of_row W9 w.heap.size 6 _ _ _ hHF]; rfl
    have d7 : W9.cell? ⟨w.heap.size, 7, none⟩ = some (.int .i64 q0.dy) := by rw [cell_of_row W9 w.heap.size 7 _ _ _ hHF]; rfl
    have d8 : W9.cell? ⟨w.heap.size, 8, none⟩ = some (.bool q0.t) := by rw [cell_of_row W9 w.heap.size 8 _ _ _ hHF]; rfl
    have d9 : W9.cell? ⟨w.heap.size, 9, none⟩ = some (.int .i64 q0.pa) := by rw [cell_of_row W9 w.heap.size 9 _ _ _ hHF]; rfl
    have d10 : W9.cell? ⟨w.heap.size, 10, none⟩ = some (.int .i64 q0.ch) := by rw [cell_of_row W9 w.heap.size 10 _ _ _ hHF]; rfl
    refine bodyPost_ret (v := .tuple #[.agg #[.int .i64 q0.g, .int .i64 q0.xx, .int .i64 q0.xy, .int .i64 q0.yx, .int .i64 q0.yy, .bool q0.m, .int .i64 q0.dx, .int .i64 q0.dy, .bool q0.t, .int .i64 q0.pa, .int .i64 q0.ch], .bool false, .bool false]) (by simp [results, Try.results58, go_sem, d0, d1, d2, d3, d4, d5, d6, d7, d8, d9, d10]) rfl ⟨by rw [HPM.out]; rfl, ?_, ?_⟩
    · rw [HPM.out]; exact HJ.out.1.kp hKF (by simp; have := HJ.out.2.2.2.2.1; omega) (fun t ht e => by simp at ht; subst ht; exact HJ.out.2.2.2.2.2.2.2 e)
    · exact HJ.out.2.2.2.1.trans' hKF (fun t ht => by simp at ht; subst ht; exact .inr (Nat.le_refl _))

end Go.Proofs.Ytodjohoonbkklaa

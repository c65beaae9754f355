/- compose: part. (Written by wip/compose/gencpi.py.) · compose: Decode. (Merged by wip/tools/mergetpl.py out of CpI, CpK.) -/
import Derived.Test.YtafkhnlmipddmaaGreatCmA
namespace Go.Proofs.YtafkhnlmipddmaaGreat.Cp
open Go.RowKit
set_option linter.unusedVariables false
set_option linter.unusedSimpArgs false
/-- A function value that reads one argument at flags & 3 = X, whatever is written into block Bp beside. -/
def ReadF (w4 : World) (r Bp : Nat) (v : Value) (zs : List Int) (X : Int) (K : Nat) (P : Value) : Prop :=
  (∀ (args : Array Value) (w : World), (callFunc K args).run Tryz.prog w = .ok (.enter K args) w) ∧ ∀ (W : World) (t : Rs), Kp [r, Bp] w4 W → RdS W r v zs t.1 t.2 → Calls Tryz.prog K #[P] W fun e w' => e = .returned (.int .i64 (argV X (val zs (argN X) t))) ∧ RdS w' r v zs (stp zs (argN X) t).1 (stp zs (argN X) t).2 ∧ Kp [r] W w'
theorem NumV.read {w3 w4 : World} {r Bp : Nat} {X : Int} {fv v : Value} {zs : List Int} (h : NumV w4 r X fv) (hnew : ∀ B g c, fv = .func g c #[.pointer (some ⟨B, 0, none⟩)] → w3.heap.size ≤ B) (hBp : Bp < w3.heap.size) : ∃ K P, ReadF w4 r Bp v zs X K P ∧ (fv = .func (.func K) #[P] #[] ∨ fv = .func (.func K) #[] #[P]) := by
  rcases h with ⟨rfl, rfl⟩ | ⟨rfl, rfl⟩ | ⟨rfl, rfl⟩ | ⟨rfl, B, rfl, hB, hc⟩
  · exact ⟨_, _, ⟨Tryz.call57, fun W t hk hR => u16S hR⟩, .inl rfl⟩
  · exact ⟨_, _, ⟨Tryz.call71, fun W t hk hR => i16S hR⟩, .inl rfl⟩
  · exact ⟨_, _, ⟨Tryz.call83, fun W t hk hR => u8S hR⟩, .inl rfl⟩
  · have hb := hnew B _ _ rfl
    exact ⟨_, _, ⟨Tryz.call98, fun W t hk hR => num1_calls B hR (hk.cell hc (by simp; omega))⟩, .inr rfl⟩
theorem RdS.setB {w : World} {r B j : Nat} {v : Value} {zs : List Int} {k : Nat} {bad : Bool} (h : RdS w r v zs k bad) (hB : B ≠ r) (hv : blockOf v ≠ some B) (x : Value) : RdS (w.setCell ⟨B, j, none⟩ x) r v zs k bad :=
  h.kp (S := [B]) ((Kp.refl _ _).setCell (.inl (by simp)) _) (by simpa using fun e : r = B => hB e.symm) (fun t ht e => by simp at ht; subst ht; exact hv e)
theorem drew_heap (w : World) : w.drew.heap = w.heap := rfl
/-- A part laid into a block of its own, cell by cell. -/
theorem put11 (R : Nat) (q : Pt) {w : World} (h : w.heap[R]? = some (.cells #[.int .i64 0, .int .i64 0, .int .i64 0, .int .i64 0, .int .i64 0, .bool false, .int .i64 0, .int .i64 0, .bool false, .int .i64 0, .int .i64 0] 34 (0, 0))) :
    (((((((((((w.setCell ⟨R, 0, none⟩ (.int .i64 q.g)).setCell ⟨R, 1, none⟩ (.int .i64 q.xx)).setCell ⟨R, 2, none⟩ (.int .i64 q.xy)).setCell ⟨R, 3, none⟩ (.int .i64 q.yx)).setCell ⟨R, 4, none⟩ (.int .i64 q.yy)).setCell ⟨R, 5, none⟩ (.bool q.m)).setCell ⟨R, 6, none⟩ (.int .i64 q.dx)).setCell ⟨R, 7, none⟩ (.int .i64 q.dy)).setCell ⟨R, 8, none⟩ (.bool q.t)).setCell ⟨R, 9, none⟩ (.int .i64 q.pa)).setCell ⟨R, 10, none⟩ (.int .i64 q.ch)).drew.heap[R]? = some (.cells (ptCells q) 34 (0, 0)) := by
  have e0 : (w.setCell ⟨R, 0, none⟩ (.int .i64 q.g)).heap[R]? = some (.cells #[.int .i64 q.g, .int .i64 0, .int .i64 0, .int .i64 0, .int .i64 0, .bool false, .int .i64 0, .int .i64 0, .bool false, .int .i64 0, .int .i64 0] 34 (0, 0)) := heap_setCell_same _ R 0 _ _ (.int .i64 q.g) h
  have e1 : ((w.setCell ⟨R, 0, none⟩ (.int .i64 q.g)).setCell ⟨R, 1, none⟩ (.int .i64 q.xx)).heap[R]? = some (.cells #[.int .i64 q.g, .int .i64 q.xx, .int .i64 0, .int .i64 0, .int .i64 0, .bool false, .int .i64 0, .int .i64 0, .bool false, .int .i64 0, .int .i64 0] 34 (0, 0)) := heap_setCell_same _ R 1 _ _ (.int .i64 q.xx) e0
  have e2 : (((w.setCell ⟨R, 0, none⟩ (.int .i64 q.g)).setCell ⟨R, 1, none⟩ (.int .i64 q.xx)).setCell ⟨R, 2, none⟩ (.int .i64 q.xy)).heap[R]? = some (.cells #[.int .i64 q.g, .int .i64 q.xx, .int .i64 q.xy, .int .i64 0, .int .i64 0, .bool false, .int .i64 0, .int .i64 0, .bool false, .int .i64 0, .int .i64 0] 34 (0, 0)) := heap_setCell_same _ R 2 _ _ (.int .i64 q.xy) e1
  have e3 : ((((w.setCell ⟨R, 0, none⟩ (.int .i64 q.g)).setCell ⟨R, 1, none⟩ (.int .i64 q.xx)).setCell ⟨R, 2, none⟩ (.int .i64 q.xy)).setCell ⟨R, 3, none⟩ (.int .i64 q.yx)).heap[R]? = some (.cells #[.int .i64 q.g, .int .i64 q.xx, .int .i64 q.xy, .int .i64 q.yx, .int .i64 0, .bool false, .int .i64 0, .int .i64 0, .bool false, .int .i64 0, .int .i64 0] 34 (0, 0)) := heap_setCell_same _ R 3 _ _ (.int .i64 q.yx) e2
  have e4 : (((((w.setCell ⟨R, 0, none⟩ (.int .i64 q.g)).setCell ⟨R, 1, none⟩ (.int .i64 q.xx)).setCell ⟨R, 2, none⟩ (.int .i64 q.xy)).setCell ⟨R, 3, none⟩ (.int .i64 q.yx)).setCell ⟨R, 4, none⟩ (.int .i64 q.yy)).heap[R]? = some (.cells #[.int .i64 q.g, .int .i64 q.xx, .int .i64 q.xy, .int .i64 q.yx, .int .i64 q.yy, .bool false, .int .i64 0, .int .i64 0, .bool false, .int .i64 0, .int .i64 0] 34 (0, 0)) := heap_setCell_same _ R 4 _ _ (.int .i64 q.yy) e3
  have e5 : ((((((w.setCell ⟨R, 0, none⟩ (.int .i64 q.g)).setCell ⟨R, 1, none⟩ (.int .i64 q.xx)).setCell ⟨R, 2, none⟩ (.int .i64 q.xy)).setCell ⟨R, 3, none⟩ (.int .i64 q.yx)).setCell ⟨R, 4, none⟩ (.int .i64 q.yy)).setCell ⟨R, 5, none⟩ (.bool q.m)).heap[R]? = some (.cells #[.int .i64 q.g, .int .i64 q.xx, .int .i64 q.xy, .int .i64 q.yx, .int .i64 q.yy, .bool q.m, .int .i64 0, .int .i64 0, .bool false, .int .i64 0, .int .i64 0] 34 (0, 0)) := heap_setCell_same _ R 5 _ _ (.bool q.m) e4
  have e6 : (((((((w.setCell ⟨R, 0, none⟩ (.int .i64 q.g)).setCell ⟨R, 1, none⟩ (.int .i64 q.xx)).setCell ⟨R, 2, none⟩ (.int .i64 q.xy)).setCell ⟨R, 3, none⟩ (.int .i64 q.yx)).setCell ⟨R, 4, none⟩ (.int .i64 q.yy)).setCell ⟨R, 5, none⟩ (.bool q.m)).setCell ⟨R, 6, none⟩ (.int .i64 q.dx)).heap[R]? = some (.cells #[.int .i64 q.g, .int .i64 q.xx, .int .i64 q.xy, .int .i64 q.yx, .int .i64 q.yy, .bool q.m, .int .i64 q.dx, .int .i64 0, .bool false, .int .i64 0, .int .i64 0] 34 (0, 0)) := heap_setCell_same _ R 6 _ _ (.int .i64 q.dx) e5
  have e7 : ((((((((w.setCell ⟨R, 0, none⟩ (.int .i64 q.g)).setCell ⟨R, 1, none⟩ (.int .i64 q.xx)).setCell ⟨R, 2, none⟩ (.int .i64 q.xy)).setCell ⟨R, 3, none⟩ (.int .i64 q.yx)).setCell ⟨R, 4, none⟩ (.int .i64 q.yy)).setCell ⟨R, 5, none⟩ (.bool q.m)).setCell ⟨R, 6, none⟩ (.int .i64 q.dx)).setCell ⟨R, 7, none⟩ (.int .i64 q.dy)).heap[R]? = some (.cells #[.int .i64 q.g, .int .i64 q.xx, .int .i64 q.xy, .int .i64 q.yx, .int .i64 q.yy, .bool q.m, .int .i64 q.dx, .int .i64 q.dy, .bool false, .int .i64 0, .int .i64 0] 34 (0, 0)) := heap_setCell_same _ R 7 _ _ (.int .i64 q.dy) e6
  have e8 : (((((((((w.setCell ⟨R, 0, none⟩ (.int .i64 q.g)).setCell ⟨R, 1, none⟩ (.int .i64 q.xx)).setCell ⟨R, 2, none⟩ (.int .i64 q.xy)).setCell ⟨R, 3, none⟩ (.int .i64 q.yx)).setCell ⟨R, 4, none⟩ (.int .i64 q.yy)).setCell ⟨R, 5, none⟩ (.bool q.m)).setCell ⟨R, 6, none⟩ (.int .i64 q.dx)).setCell ⟨R, 7, none⟩ (.int .i64 q.dy)).setCell ⟨R, 8, none⟩ (.bool q.t)).heap[R]? = some (.cells #[.int .i64 q.g, .int .i64 q.xx, .int .i64 q.xy, .int .i64 q.yx, .int .i64 q.yy, .bool q.m, .int .i64 q.dx, .int .i64 q.dy, .bool q.t, .int .i64 0, .int .i64 0] 34 (0, 0)) := heap_setCell_same _ R 8 _ _ (.bool q.t) e7
  have e9 : ((((((((((w.setCell ⟨R, 0, none⟩ (.int .i64 q.g)).setCell ⟨R, 1, none⟩ (.int .i64 q.xx)).setCell ⟨R, 2, none⟩ (.int .i64 q.xy)).setCell ⟨R, 3, none⟩ (.int .i64 q.yx)).setCell ⟨R, 4, none⟩ (.int .i64 q.yy)).setCell ⟨R, 5, none⟩ (.bool q.m)).setCell ⟨R, 6, none⟩ (.int .i64 q.dx)).setCell ⟨R, 7, none⟩ (.int .i64 q.dy)).setCell ⟨R, 8, none⟩ (.bool q.t)).setCell ⟨R, 9, none⟩ (.int .i64 q.pa)).heap[R]? = some (.cells #[.int .i64 q.g, .int .i64 q.xx, .int .i64 q.xy, .int .i64 q.yx, .int .i64 q.yy, .bool q.m, .int .i64 q.dx, .int .i64 q.dy, .bool q.t, .int .i64 q.pa, .int .i64 0] 34 (0, 0)) := heap_setCell_same _ R 9 _ _ (.int .i64 q.pa) e8
  have e10 : (((((((((((w.setCell ⟨R, 0, none⟩ (.int .i64 q.g)).setCell ⟨R, 1, none⟩ (.int .i64 q.xx)).setCell ⟨R, 2, none⟩ (.int .i64 q.xy)).setCell ⟨R, 3, none⟩ (.int .i64 q.yx)).setCell ⟨R, 4, none⟩ (.int .i64 q.yy)).setCell ⟨R, 5, none⟩ (.bool q.m)).setCell ⟨R, 6, none⟩ (.int .i64 q.dx)).setCell ⟨R, 7, none⟩ (.int .i64 q.dy)).setCell ⟨R, 8, none⟩ (.bool q.t)).setCell ⟨R, 9, none⟩ (.int .i64 q.pa)).setCell ⟨R, 10, none⟩ (.int .i64 q.ch)).heap[R]? = some (.cells #[.int .i64 q.g, .int .i64 q.xx, .int .i64 q.xy, .int .i64 q.yx, .int .i64 q.yy, .bool q.m, .int .i64 q.dx, .int .i64 q.dy, .bool q.t, .int .i64 q.pa, .int .i64 q.ch] 34 (0, 0)) := heap_setCell_same _ R 10 _ _ (.int .i64 q.ch) e9
  rw [drew_heap]
  exact e10
theorem kput11 (R : Nat) (q : Pt) (w : World) : Kp [R] w (((((((((((w.setCell ⟨R, 0, none⟩ (.int .i64 q.g)).setCell ⟨R, 1, none⟩ (.int .i64 q.xx)).setCell ⟨R, 2, none⟩ (.int .i64 q.xy)).setCell ⟨R, 3, none⟩ (.int .i64 q.yx)).setCell ⟨R, 4, none⟩ (.int .i64 q.yy)).setCell ⟨R, 5, none⟩ (.bool q.m)).setCell ⟨R, 6, none⟩ (.int .i64 q.dx)).setCell ⟨R, 7, none⟩ (.int .i64 q.dy)).setCell ⟨R, 8, none⟩ (.bool q.t)).setCell ⟨R, 9, none⟩ (.int .i64 q.pa)).setCell ⟨R, 10, none⟩ (.int .i64 q.ch)).drew := by
  refine Kp.drew ?_
  repeat (refine Kp.setCell ?_ (.inl (by simp)) _)
  exact Kp.refl _ _
set_option maxRecDepth 100000 in
set_option maxHeartbeats 8000000 in
theorem part_calls {w : World} {r : Nat} {v : Value} {zs : List Int} {s : Rs} (h : RdS w r v zs s.1 s.2) (hvb : ∀ b, blockOf v = some b → b < w.heap.size) :
    Calls Tryz.prog 77 #[.pointer (some ⟨r, 0, none⟩)] w fun e w' => e = .returned (.tuple #[ptV (partM zs s).1, .bool (partM zs s).2.1, .bool (partM zs s).2.2.1]) ∧ RdS w' r v zs (partM zs s).2.2.2.1 (partM zs s).2.2.2.2 ∧ Kp [r] w w' := by
  have H := Lib.hid h
  have hrl := h.lt
  have HRL := Lib.hid hrl
  have HVB := Lib.hid hvb
  clear h hvb
  go_enter Tryz.func77, Tryz.ntmps77
  go_wp2_with fail
  refine (u16S (H.out.kp0 ((Kp.refl _ _).alloc _))).mono ?_; rintro e w1 ⟨rfl, h1, hk1⟩
  have H1 := Lib.hid h1
  have hkw1 : Kp [r] w w1 := ((Kp.refl [r] w).alloc _).trans hk1
  have hR0 := hk1.heap (heap_alloc_new w _) (by simp; omega)
  clear h1
  go_wp2_with fail
  refine (u16S H1.out).mono ?_; rintro e w2 ⟨rfl, h2, hk2⟩
  have H2 := Lib.hid h2
  clear h2
  go_wp2_with fail
  refine (plain_calls _ 0 0 _).mono ?_; rintro e w3 ⟨rfl, hk3⟩
  have H3 := Lib.hid (H2.out.kp0 hk3)
  rw [show ptV (plainPt (rdV zs (rdK zs s.1 s.2 2) (rdB zs s.1 s.2 2) 2) 0 0) = .agg #[.int .i64 (rdV zs (rdK zs s.1 s.2 2) (rdB zs s.1 s.2 2) 2), .int .i64 16384, .int .i64 0, .int .i64 0, .int .i64 16384, .bool false, .int .i64 0, .int .i64 0, .bool false, .int .i64 0, .int .i64 0] from rfl]
  have hkw3 : Kp [r] w w3 := (hkw1.trans hk2).trans0 hk3
  have hR3 := hk3.heap (hk2.heap hR0 (by simp; omega)) (by simp)
  have hBlk := heap_alloc_new w3 (.cells #[.int .i64 (rdV zs (rdK zs s.1 s.2 2) (rdB zs s.1 s.2 2) 2), .int .i64 16384, .int .i64 0, .int .i64 0, .int .i64 16384, .bool false, .int .i64 0, .int .i64 0, .bool false, .int .i64 0, .int .i64 0] 34)
  have H4 := Lib.hid (H3.out.kp0 ((Kp.refl _ w3).alloc (.cells #[.int .i64 (rdV zs (rdK zs s.1 s.2 2) (rdB zs s.1 s.2 2) 2), .int .i64 16384, .int .i64 0, .int .i64 0, .int .i64 16384, .bool false, .int .i64 0, .int .i64 0, .bool false, .int .i64 0, .int .i64 0] 34)))
  have hR4 := ((Kp.refl [] w3).alloc (.cells #[.int .i64 (rdV zs (rdK zs s.1 s.2 2) (rdB zs s.1 s.2 2) 2), .int .i64 16384, .int .i64 0, .int .i64 0, .int .i64 16384, .bool false, .int .i64 0, .int .i64 0, .bool false, .int .i64 0, .int .i64 0] 34)).heap hR3 (by simp)
  have hkw4 : Kp [r] w (w3.alloc (.cells #[.int .i64 (rdV zs (rdK zs s.1 s.2 2) (rdB zs s.1 s.2 2) 2), .int .i64 16384, .int .i64 0, .int .i64 0, .int .i64 16384, .bool false, .int .i64 0, .int .i64 0, .bool false, .int .i64 0, .int .i64 0] 34)) := hkw3.alloc _
  have hBw : w.heap.size < w3.heap.size := Nat.lt_of_lt_of_le (lt_of_block hR3) (Nat.le_refl _)
  go_wp2_with fail
  generalize w3.alloc (.cells #[.int .i64 (rdV zs (rdK zs s.1 s.2 2) (rdB zs s.1 s.2 2) 2), .int .i64 16384, .int .i64 0, .int .i64 0, .int .i64 16384, .bool false, .int .i64 0, .int .i64 0, .bool false, .int .i64 0, .int .i64 0] 34) = w4 at *
  have hB4 : w3.heap.size < w4.heap.size := lt_of_block hBlk
  generalize w3.heap.size = B at *
  clear hR0 hR3 hk1 hk2 hk3 hkw1 hkw3
  refine (number_kinds r _ w4 (by have := hkw4.size; omega)).mono ?_; rintro e w5 ⟨fv, rfl, hnv, hk5, hnew⟩
  obtain ⟨K, PP, HRF, hfv⟩ := hnv.read (v := v) (zs := zs) hnew (Bp := B) hB4
  clear hnew
  have H5 := Lib.hid (H4.out.kp0 hk5)
  have hB5 := hk5.heap hBlk (by simp)
  have hR5 := hk5.heap hR4 (by simp)
  have hkw5 : Kp [r] w w5 := hkw4.trans0 hk5
  have HHD : Hid (headM zs s = ⟨rdV zs s.1 s.2 2, (rdV zs (rdK zs s.1 s.2 2) (rdB zs s.1 s.2 2) 2), argV (rdV zs s.1 s.2 2 % 4) (val zs (argN (rdV zs s.1 s.2 2 % 4)) (stp zs 2 (stp zs 2 s))), argV (rdV zs s.1 s.2 2 % 4) (val zs (argN (rdV zs s.1 s.2 2 % 4)) (stp zs (argN (rdV zs s.1 s.2 2 % 4)) (stp zs 2 (stp zs 2 s)))), stp zs (argN (rdV zs s.1 s.2 2 % 4)) (stp zs (argN (rdV zs s.1 s.2 2 % 4)) (stp zs 2 (stp zs 2 s)))⟩) := rfl
  have H6 : Hid (RdS w5 r v zs (stp zs 2 (stp zs 2 s)).1 (stp zs 2 (stp zs 2 s)).2) := H5.out
  have hent := HRF.1
  have HRD := Lib.hid HRF.2
  clear HRF hnv hBlk hR4 hB4 hkw4 H1 H2 H3 H4 H5
  generalize (rdV zs (rdK zs s.1 s.2 2) (rdB zs s.1 s.2 2) 2) = g at *
  generalize rdV zs s.1 s.2 2 = f at *
  generalize stp zs 2 (stp zs 2 s) = t2 at *
  generalize hX : f % 4 = X at *
  generalize hA : argV X (val zs (argN X) t2) = a at *
  generalize hA2 : argV X (val zs (argN X) (stp zs (argN X) t2)) = b at *
  have HA := Lib.hid hA
  have HA2 := Lib.hid hA2
  clear hX hA hA2
  have HB5 := Lib.hid hB5
  have HR5 := Lib.hid hR5
  have hBr : B ≠ r := by omega
  clear hB5 hR5

  rcases hfv with rfl | rfl
  · by_cases hS : bits .and .i64 f 2 = 0
    · have hs : (bits .and .i64 f 2 != 0) = false := by simpa using hS
      have hs2 : Hid (stepB f = false) := by show _ = _; unfold stepB; exact decide_eq_false (by simpa using hS)
      clear hS
      have c5 := cell_of_row w5 B 5 _ _ _ HB5.out
      have f5 := frozen_of_row w5 B 5 _ _ HB5.out
      simp only [List.getElem?_toArray, List.getElem?_cons_succ, List.getElem?_cons_zero] at c5
      go_wp2_with fail
      have hvB : blockOf v ≠ some B := fun e => by have := HVB.out B e; omega
      have H6b := Lib.hid (H6.out.setB (j := 5) hBr hvB (.bool true))
      have HB5b := Lib.hid (heap_setCell_same w5 B 5 _ _ (.bool true) HB5.out)
      have hkS5 : Kp [B] w5 (w5.setCell ⟨B, 5, none⟩ (.bool true)) := (Kp.refl _ _).setCell (.inl (by simp)) _
      have HR5b := Lib.hid (hkS5.heap HR5.out (by simp; omega))
      have hkw5b := hkw5.trans' hkS5 (fun t ht => by simp at ht; subst ht; exact .inr (by omega))
      have HRDb : Hid (∀ (W : World) (t : Rs), Kp [r] (w5.setCell ⟨B, 5, none⟩ (.bool true)) W → RdS W r v zs t.1 t.2 → Calls Tryz.prog K #[PP] W fun e w' => e = .returned (.int .i64 (argV X (val zs (argN X) t))) ∧ RdS w' r v zs (stp zs (argN X) t).1 (stp zs (argN X) t).2 ∧ Kp [r] W w') := fun W t hk => HRD.out W t (((Kp.refl [r, B] w5).setCell (.inl (by simp)) _).trans (hk.more (fun s hs => .inl (by simp at hs; simp [hs]))))
      clear c5 f5 hkS5 hk5 hkw5 H6 HB5 HR5 HRD
      generalize w5.setCell ⟨B, 5, none⟩ (.bool true) = w5b at *
      go_wp2_with fail
      refine (HRDb.out _ t2 (Kp.refl _ _) H6b.out).mono ?_; rintro e w6 ⟨rfl, h6, hk6⟩
      rw [HA.out]
      have H7 := Lib.hid h6
      clear h6
      go_wp2_with fail
      refine (HRDb.out w6 (stp zs (argN X) t2) hk6 H7.out).mono ?_; rintro e w7 ⟨rfl, h8, hk7⟩
      rw [HA2.out]
      have H8 := Lib.hid h8
      clear h8
      have hkw7 : Kp [r] w w7 := (hkw5b.trans hk6).trans hk7
      have HB7 := Lib.hid (hk7.heap (hk6.heap HB5b.out (by simpa using hBr)) (by simpa using hBr))
      have HR7 := Lib.hid (hk7.heap (hk6.heap HR5b.out (by simp; omega)) (by simp; omega))
      clear hk6 hk7 hkw5b
      have c9 := cell_of_row w7 B 9 _ _ _ HB7.out
      have f9 := frozen_of_row w7 B 9 _ _ HB7.out
      have c10 := cell_of_row w7 B 10 _ _ _ HB7.out
      have f10 := frozen_of_row w7 B 10 _ _ HB7.out
      simp only [List.getElem?_toArray, List.getElem?_cons_succ, List.getElem?_cons_zero, List.setIfInBounds_toArray, List.set_cons_succ, List.set_cons_zero] at c9 c10
      go_wp2_with fail
      have H9 := Lib.hid ((H8.out.setB (j := 9) hBr hvB (.int .i64 a)).setB (j := 10) hBr hvB (.int .i64 b))
      have HB9 : Hid (((w7.setCell ⟨B, 9, none⟩ (.int .i64 a)).setCell ⟨B, 10, none⟩ (.int .i64 b)).heap[B]? = some (.cells (ptCells (bareM (headM zs s))) 34 (0, 0))) := by
        have e := (heap_setCell_same (w7.setCell ⟨B, 9, none⟩ (.int .i64 a)) B 10 _ _ (.int .i64 b) (heap_setCell_same w7 B 9 _ _ (.int .i64 a) HB7.out))
        have e2 : ptCells (bareM (headM zs s)) = #[.int .i64 g, .int .i64 16384, .int .i64 0, .int .i64 0, .int .i64 16384, .bool true, .int .i64 0, .int .i64 0, .bool false, .int .i64 a, .int .i64 b] := by
          rw [HHD.out]; unfold bareM; rw [if_neg (by rw [hs2.out]; decide)]; rfl
        show _ = _
        rw [e2]; exact e
      have hkS : Kp [B] w7 ((w7.setCell ⟨B, 9, none⟩ (.int .i64 a)).setCell ⟨B, 10, none⟩ (.int .i64 b)) := (((Kp.refl _ _).setCell (.inl (by simp)) _).setCell (.inl (by simp)) _)
      have HR9 := Lib.hid (hkS.heap HR7.out (by simp; omega))
      have hkw9 : Kp [r] w ((w7.setCell ⟨B, 9, none⟩ (.int .i64 a)).setCell ⟨B, 10, none⟩ (.int .i64 b)) := hkw7.trans' hkS (fun t ht => by simp at ht; subst ht; exact .inr (by omega))
      clear hkS f9 c9 f10 c10
      generalize ((w7.setCell ⟨B, 9, none⟩ (.int .i64 a)).setCell ⟨B, 10, none⟩ (.int .i64 b)) = w9 at *
      have hBb : B < w9.heap.size := lt_of_block HB9.out
      have HB0 := Lib.hid hBb
      refine (places_calls B f (matM f) rfl w9).mono ?_; rintro e w10 ⟨v10, rfl, hpl, hk10⟩
      obtain ⟨p10, rfl⟩ := hpl.form
      have HPT : Hid (PtSt w w10 r v zs B w9.heap.size (.slice p10 (plM (matM f)).length (plM (matM f)).length) (plM (matM f)) (stp zs (argN X) (stp zs (argN X) t2)) (ptCells (bareM (headM zs s))).toList) :=
        ⟨H9.out.kp0 hk10, by have := hk10.heap HB9.out (by simp); simpa using this, hk10.heap HR9.out (by simp), hpl, hkw9.trans0 hk10, hrl, hBw, hBb, hvB, rfl⟩
      have HOKP := Lib.hid (plM_ok (matM f))
      have hln := plM_len (matM f)
      have HLN := Lib.hid hln.2
      have hln := hln.1
      clear hpl hk10 hkw9 hBb H6b H7 H8 H9 HB5b HR5b HB7 HR7 HB9 HR9 HA HA2 hkw7
      generalize hPL : plM (matM f) = PL at *
      have HPL := Lib.hid hPL
      clear hPL
      generalize w9.heap.size = b0 at *
      obtain ⟨L0, hL0⟩ : ∃ L0, (ptCells (bareM (headM zs s))).toList = L0 := ⟨_, rfl⟩
      rw [hL0] at HPT
      have HL0 := Lib.hid hL0
      clear hL0
      generalize ht4 : stp zs (argN X) (stp zs (argN X) t2) = t4 at *
      obtain ⟨N, hN⟩ : ∃ N, PL.length = N := ⟨_, rfl⟩
      have HN := Lib.hid hN
      rw [hN] at hln HPT
      rw [hN]
      clear hN
      go_wp2_with fail
      go_loopw [51] (fun i wr => ∃ j : Nat, j ≤ N ∧ i = .int .i64 j ∧ Hid (PtSt w wr r v zs B b0 (.slice p10 N N) PL (fillM zs (PL.take j) t4 L0).1 (fillM zs (PL.take j) t4 L0).2)) (fun i _ => N - (intOf i).toNat)
      case atStart => exact ⟨0, by omega, rfl, HPT⟩
      case round =>
        obtain ⟨j, hj, rfl, HJ⟩ := hrel
        by_cases hlt : j < N
        · have hw9 : IntKind.i64.wrap ((j : Int) + 1) = (j : Int) + 1 := by rw [IntKind.wrap_i64]; omega
          have hPj : j < PL.length := by rw [HN.out]; exact hlt
          obtain ⟨G, hG, rest⟩ : ∃ G, p10 = some ⟨G, 0, none⟩ ∧ ∀ j, j < PL.length → ∃ g, wr.cell? ⟨G, j, none⟩ = some (.slice (some ⟨g, 0, none⟩) (PL.getD j []).length (PL.getD j []).length) ∧ b0 ≤ g ∧ ∀ i, i < (PL.getD j []).length → wr.cell? ⟨g, i, none⟩ = some (.pointer (some ⟨B, (PL.getD j []).getD i 0, none⟩)) := by
            rcases HJ.out.2.2.2.1 with ⟨e, h0⟩ | ⟨G, e, _, h3⟩
            · rw [h0] at hPj; simp at hPj
            · cases e; exact ⟨G, rfl, h3⟩
          subst hG
          obtain ⟨g1, hc1, hg1, hc2⟩ := rest j hPj
          have HC2 := Lib.hid hc2
          have hok1 := HOKP.out j hPj
          have hn2 := HLN.out j hPj
          have hts : PL.take (j + 1) = PL.take j ++ [PL.getD j []] := take_snoc PL j [] hPj
          have HTS := Lib.hid hts
          have HOK1 := Lib.hid hok1
          generalize PL.getD j [] = pl at *
          clear rest hc2 hts hok1
          have hfs : Hid (fillM zs (PL.take j ++ [pl]) t4 L0 = (stp zs 2 (fillM zs (PL.take j) t4 L0).1, putAll (fillM zs (PL.take j) t4 L0).2 (s16 (val zs 2 (fillM zs (PL.take j) t4 L0).1)) pl)) := fillM_snoc zs (PL.take j) pl t4 L0
          have HFS : Hid (fillM zs (PL.take (j + 1)) t4 L0 = (stp zs 2 (fillM zs (PL.take j) t4 L0).1, putAll (fillM zs (PL.take j) t4 L0).2 (s16 (val zs 2 (fillM zs (PL.take j) t4 L0).1)) pl)) := by rw [HTS.out]; exact hfs.out
          clear hfs HTS
          generalize fillM zs (PL.take j) t4 L0 = FJ at *
          go_wp2_with fail
          refine (i16S HJ.out.1).mono ?_; rintro e w11 ⟨rfl, h11, hk11⟩
          have H11 := Lib.hid (HJ.out.read (s' := stp zs 2 FJ.1) h11 hk11)
          have HC3 : Hid (∀ i, i < pl.length → w11.cell? ⟨g1, i, none⟩ = some (.pointer (some ⟨B, pl.getD i 0, none⟩))) := fun i hi => hk11.cell (HC2.out i hi) (by have := HJ.out.2.2.2.2.2; simp; omega)
          clear h11 hk11 hc1 HJ HC2
          change Hid (fillM zs (PL.take (j + 1)) t4 L0 = (stp zs 2 FJ.1, putAll FJ.2 (s16 (rdV zs FJ.1.1 FJ.1.2 2)) pl)) at HFS
          generalize s16 (rdV zs FJ.1.1 FJ.1.2 2) = x at *
          go_wp2_with fail
          go_loopw [59] (fun i2 wr2 => ∃ m : Nat, m ≤ pl.length ∧ i2 = .int .i64 m ∧ Hid (PtSt w wr2 r v zs B b0 (.slice (some ⟨G, 0, none⟩) N N) PL (stp zs 2 FJ.1) (putAll FJ.2 x (pl.take m)) ∧ Kp [B] w11 wr2)) (fun i2 _ => pl.length - (intOf i2).toNat)
          case atStart => exact ⟨0, by omega, rfl, H11.out, Kp.refl _ _⟩
          case round =>
            obtain ⟨m, hm, rfl, HM⟩ := hrel
            by_cases hmt : m < pl.length
            · have hw8 : IntKind.i64.wrap ((m : Int) + 1) = (m : Int) + 1 := by rw [IntKind.wrap_i64]; omega
              have hcp := HM.out.2.cell (HC3.out m hmt) (by have := HB0.out; simp; omega)
              obtain ⟨⟨u, hcu⟩, hfu⟩ := HM.out.1.cell (pl.getD m 0) (HOK1.out m hmt)
              have HN2 := Lib.hid (HM.out.1.put (pl.getD m 0) x)
              have HK2 : Hid (Kp [B] w11 (wr.setCell ⟨B, pl.getD m 0, none⟩ (.int .i64 x))) := HM.out.2.setCell (.inl (by simp)) _
              have HTM : Hid (putAll FJ.2 x (pl.take (m + 1)) = (putAll FJ.2 x (pl.take m)).set (pl.getD m 0) (.int .i64 x)) := by show _ = _; rw [take_snoc pl m 0 hmt, putAll_snoc]
              generalize pl.getD m 0 = cc at *
              go_wp2_with fail
              go_round
              case rel => exact ⟨m + 1, by omega, by go_num, by rw [HTM.out]; exact HN2.out, HK2.out⟩
              case measure => simp [intOf]; omega
            · obtain rfl : m = pl.length := by omega
              have HE : Hid (PtSt w wr r v zs B b0 (.slice (some ⟨G, 0, none⟩) N N) PL (fillM zs (PL.take (j + 1)) t4 L0).1 (fillM zs (PL.take (j + 1)) t4 L0).2) := by
                rw [HFS.out]; have := HM.out.1; rw [List.take_length] at this; exact this
              clear HM
              go_wp2_with fail
              go_round
              case rel => exact ⟨j + 1, by omega, by go_num, HE⟩
              case measure => simp [intOf]; omega
        · obtain rfl : j = N := by omega
          have HE : Hid (PtSt w wr r v zs B b0 (.slice p10 j j) PL (fillM zs PL t4 L0).1 (fillM zs PL t4 L0).2) := by
            have := HJ.out; rw [← HN.out, List.take_length] at this; rw [HN.out] at this; exact this
          clear HJ HPT
          have HCP : Hid (fillM zs PL t4 L0 = ((partM zs s).2.2.2, (ptCells (partM zs s).1).toList)) := by
            have := cells_part zs s
            unfold cellsM at this
            rw [HHD.out] at this
            rw [← HL0.out, ← HPL.out, HHD.out]; exact this
          rw [HCP.out] at HE
          have HG : Hid ((partM zs s).2.1 = (bits .and .i64 f 32 != 0) ∧ (partM zs s).2.2.1 = (okM (matM f) && !(partM zs s).2.2.2.2)) := by
            have e : (headM zs s).f = f := by rw [HHD.out]
            have hf := partM_flags zs s
            rw [e] at hf
            refine ⟨hf.1.trans ?_, hf.2⟩
            by_cases h0 : bits .and .i64 f 32 = 0 <;> simp [h0]
          clear HCP
          obtain ⟨PM, hPM⟩ : ∃ PM, partM zs s = PM := ⟨_, rfl⟩
          rw [hPM] at HE HG
          have HPM := Lib.hid hPM
          clear hPM
          obtain ⟨q, G1, G2, s9⟩ := PM
          dsimp only at HE HG
          have k0 : wr.cell? ⟨B, 0, none⟩ = some (.int .i64 q.g) := by rw [cell_of_row wr B 0 _ _ _ HE.out.2.1]; rfl
          have k1 : wr.cell? ⟨B, 1, none⟩ = some (.int .i64 q.xx) := by rw [cell_of_row wr B 1 _ _ _ HE.out.2.1]; rfl
          have k2 : wr.cell? ⟨B, 2, none⟩ = some (.int .i64 q.xy) := by rw [cell_of_row wr B 2 _ _ _ HE.out.2.1]; rfl
          have k3 : wr.cell? ⟨B, 3, none⟩ = some (.int .i64 q.yx) := by rw [cell_of_row wr B 3 _ _ _ HE.out.2.1]; rfl
          have k4 : wr.cell? ⟨B, 4, none⟩ = some (.int .i64 q.yy) := by rw [cell_of_row wr B 4 _ _ _ HE.out.2.1]; rfl
          have k5 : wr.cell? ⟨B, 5, none⟩ = some (.bool q.m) := by rw [cell_of_row wr B 5 _ _ _ HE.out.2.1]; rfl
          have k6 : wr.cell? ⟨B, 6, none⟩ = some (.int .i64 q.dx) := by rw [cell_of_row wr B 6 _ _ _ HE.out.2.1]; rfl
          have k7 : wr.cell? ⟨B, 7, none⟩ = some (.int .i64 q.dy) := by rw [cell_of_row wr B 7 _ _ _ HE.out.2.1]; rfl
          have k8 : wr.cell? ⟨B, 8, none⟩ = some (.bool q.t) := by rw [cell_of_row wr B 8 _ _ _ HE.out.2.1]; rfl
          have k9 : wr.cell? ⟨B, 9, none⟩ = some (.int .i64 q.pa) := by rw [cell_of_row wr B 9 _ _ _ HE.out.2.1]; rfl
          have k10 : wr.cell? ⟨B, 10, none⟩ = some (.int .i64 q.ch) := by rw [cell_of_row wr B 10 _ _ _ HE.out.2.1]; rfl
          have z0 : wr.cell? ⟨w.heap.size, 0, none⟩ = some (.int .i64 0) := by rw [cell_of_row wr w.heap.size 0 _ _ _ HE.out.2.2.1]; rfl
          have y0 := frozen_of_row wr w.heap.size 0 _ _ HE.out.2.2.1
          have z1 : wr.cell? ⟨w.heap.size, 1, none⟩ = some (.int .i64 0) := by rw [cell_of_row wr w.heap.size 1 _ _ _ HE.out.2.2.1]; rfl
          have y1 := frozen_of_row wr w.heap.size 1 _ _ HE.out.2.2.1
          have z2 : wr.cell? ⟨w.heap.size, 2, none⟩ = some (.int .i64 0) := by rw [cell_of_row wr w.heap.size 2 _ _ _ HE.out.2.2.1]; rfl
          have y2 := frozen_of_row wr w.heap.size 2 _ _ HE.out.2.2.1
          have z3 : wr.cell? ⟨w.heap.size, 3, none⟩ = some (.int .i64 0) := by rw [cell_of_row wr w.heap.size 3 _ _ _ HE.out.2.2.1]; rfl
          have y3 := frozen_of_row wr w.heap.size 3 _ _ HE.out.2.2.1
          have z4 : wr.cell? ⟨w.heap.size, 4, none⟩ = some (.int .i64 0) := by rw [cell_of_row wr w.heap.size 4 _ _ _ HE.out.2.2.1]; rfl
          have y4 := frozen_of_row wr w.heap.size 4 _ _ HE.out.2.2.1
          have z5 : wr.cell? ⟨w.heap.size, 5, none⟩ = some (.bool false) := by rw [cell_of_row wr w.heap.size 5 _ _ _ HE.out.2.2.1]; rfl
          have y5 := frozen_of_row wr w.heap.size 5 _ _ HE.out.2.2.1
          have z6 : wr.cell? ⟨w.heap.size, 6, none⟩ = some (.int .i64 0) := by rw [cell_of_row wr w.heap.size 6 _ _ _ HE.out.2.2.1]; rfl
          have y6 := frozen_of_row wr w.heap.size 6 _ _ HE.out.2.2.1
          have z7 : wr.cell? ⟨w.heap.size, 7, none⟩ = some (.int .i64 0) := by rw [cell_of_row wr w.heap.size 7 _ _ _ HE.out.2.2.1]; rfl
          have y7 := frozen_of_row wr w.heap.size 7 _ _ HE.out.2.2.1
          have z8 : wr.cell? ⟨w.heap.size, 8, none⟩ = some (.bool false) := by rw [cell_of_row wr w.heap.size 8 _ _ _ HE.out.2.2.1]; rfl
          have y8 := frozen_of_row wr w.heap.size 8 _ _ HE.out.2.2.1
          have z9 : wr.cell? ⟨w.heap.size, 9, none⟩ = some (.int .i64 0) := by rw [cell_of_row wr w.heap.size 9 _ _ _ HE.out.2.2.1]; rfl
          have y9 := frozen_of_row wr w.heap.size 9 _ _ HE.out.2.2.1
          have z10 : wr.cell? ⟨w.heap.size, 10, none⟩ = some (.int .i64 0) := by rw [cell_of_row wr w.heap.size 10 _ _ _ HE.out.2.2.1]; rfl
          have y10 := frozen_of_row wr w.heap.size 10 _ _ HE.out.2.2.1
          have hBw2 : B ≠ w.heap.size := by omega
          have hRd : RdS wr r v zs s9.1 s9.2 := HE.out.1
          cases hok : okM (matM f)
          · have HOK := Lib.hid hok
            clear hok
            go_wp2_with fail
            (first | go_region_with (fail) | fail)
            all_goals
              go_wp2_with fail
              clear k0 k1 k2 k3 k4 k5 k6 k7 k8 k9 k10 z0 z1 z2 z3 z4 z5 z6 z7 z8 z9 z10 y0 y1 y2 y3 y4 y5 y6 y7 y8 y9 y10
              have hHF := put11 w.heap.size q HE.out.2.2.1
              have hKF := kput11 w.heap.size q wr
              generalize (((((((((((wr.setCell ⟨w.heap.size, 0, none⟩ (.int .i64 q.g)).setCell ⟨w.heap.size, 1, none⟩ (.int .i64 q.xx)).setCell ⟨w.heap.size, 2, none⟩ (.int .i64 q.xy)).setCell ⟨w.heap.size, 3, none⟩ (.int .i64 q.yx)).setCell ⟨w.heap.size, 4, none⟩ (.int .i64 q.yy)).setCell ⟨w.heap.size, 5, none⟩ (.bool q.m)).setCell ⟨w.heap.size, 6, none⟩ (.int .i64 q.dx)).setCell ⟨w.heap.size, 7, none⟩ (.int .i64 q.dy)).setCell ⟨w.heap.size, 8, none⟩ (.bool q.t)).setCell ⟨w.heap.size, 9, none⟩ (.int .i64 q.pa)).setCell ⟨w.heap.size, 10, none⟩ (.int .i64 q.ch)).drew = W at *
              have c0 : W.cell? ⟨w.heap.size, 0, none⟩ = some (.int .i64 q.g) := by rw [cell_of_row W w.heap.size 0 _ _ _ hHF]; rfl
              have c1 : W.cell? ⟨w.heap.size, 1, none⟩ = some (.int .i64 q.xx) := by rw [cell_of_row W w.heap.size 1 _ _ _ hHF]; rfl
              have c2 : W.cell? ⟨w.heap.size, 2, none⟩ = some (.int .i64 q.xy) := by rw [cell_of_row W w.heap.size 2 _ _ _ hHF]; rfl
              have c3 : W.cell? ⟨w.heap.size, 3, none⟩ = some (.int .i64 q.yx) := by rw [cell_of_row W w.heap.size 3 _ _ _ hHF]; rfl
              have c4 : W.cell? ⟨w.heap.size, 4, none⟩ = some (.int .i64 q.yy) := by rw [cell_of_row W w.heap.size 4 _ _ _ hHF]; rfl
              have c5 : W.cell? ⟨w.heap.size, 5, none⟩ = some (.bool q.m) := by rw [cell_of_row W w.heap.size 5 _ _ _ hHF]; rfl
              have c6 : W.cell? ⟨w.heap.size, 6, none⟩ = some (.int .i64 q.dx) := by rw [cell_of_row W w.heap.size 6 _ _ _ hHF]; rfl
              have c7 : W.cell? ⟨w.heap.size, 7, none⟩ = some (.int .i64 q.dy) := by rw [cell_of_row W w.heap.size 7 _ _ _ hHF]; rfl
              have c8 : W.cell? ⟨w.heap.size, 8, none⟩ = some (.bool q.t) := by rw [cell_of_row W w.heap.size 8 _ _ _ hHF]; rfl
              have c9 : W.cell? ⟨w.heap.size, 9, none⟩ = some (.int .i64 q.pa) := by rw [cell_of_row W w.heap.size 9 _ _ _ hHF]; rfl
              have c10 : W.cell? ⟨w.heap.size, 10, none⟩ = some (.int .i64 q.ch) := by rw [cell_of_row W w.heap.size 10 _ _ _ hHF]; rfl
              refine bodyPost_ret (v := .tuple #[.agg #[.int .i64 q.g, .int .i64 q.xx, .int .i64 q.xy, .int .i64 q.yx, .int .i64 q.yy, .bool q.m, .int .i64 q.dx, .int .i64 q.dy, .bool q.t, .int .i64 q.pa, .int .i64 q.ch], .bool (bits .and .i64 f 32 != 0), .bool false]) (by simp [results, Tryz.results77, go_sem, c0, c1, c2, c3, c4, c5, c6, c7, c8, c9, c10]) rfl ⟨by rw [HPM.out, HG.out.1, HG.out.2, HOK.out]; rfl, ?_, ?_⟩
              · rw [HPM.out]; exact hRd.kp hKF (by simp; omega) (by simp; exact fun e => by have := HVB.out _ e; omega)
              · exact HE.out.2.2.2.2.1.trans' hKF (fun t ht => by simp at ht; subst ht; exact .inr (by omega))
          · have HOK := Lib.hid hok
            clear hok
            obtain ⟨kk9, bb9⟩ := s9
            dsimp only at hRd HG HE
            cases bb9
            · go_wp2_with fail
              go_region_with (go_at_call 58; refine (doneS (hRd.kp (S := [w.heap.size]) (by (repeat (first | exact Kp.refl _ _ | assumption | refine Kp.drew ?_ | refine Kp.drewN ?_ _ | refine Kp.alloc ?_ _ | (refine Kp.setCell ?_ (by first | (left; simp; done) | (right; simp; try omega)) _) | (refine Kp.trans' ?_ (by assumption) (by simp; try omega))))) (by simp; omega) (by simp; exact fun e => by have := HVB.out _ e; omega))).mono ?_; rintro e w' ⟨rfl, rfl⟩)
              all_goals
                go_wp2_with fail
                clear k0 k1 k2 k3 k4 k5 k6 k7 k8 k9 k10 z0 z1 z2 z3 z4 z5 z6 z7 z8 z9 z10 y0 y1 y2 y3 y4 y5 y6 y7 y8 y9 y10
                have hHF := put11 w.heap.size q HE.out.2.2.1
                have hKF := kput11 w.heap.size q wr
                generalize (((((((((((wr.setCell ⟨w.heap.size, 0, none⟩ (.int .i64 q.g)).setCell ⟨w.heap.size, 1, none⟩ (.int .i64 q.xx)).setCell ⟨w.heap.size, 2, none⟩ (.int .i64 q.xy)).setCell ⟨w.heap.size, 3, none⟩ (.int .i64 q.yx)).setCell ⟨w.heap.size, 4, none⟩ (.int .i64 q.yy)).setCell ⟨w.heap.size, 5, none⟩ (.bool q.m)).setCell ⟨w.heap.size, 6, none⟩ (.int .i64 q.dx)).setCell ⟨w.heap.size, 7, none⟩ (.int .i64 q.dy)).setCell ⟨w.heap.size, 8, none⟩ (.bool q.t)).setCell ⟨w.heap.size, 9, none⟩ (.int .i64 q.pa)).setCell ⟨w.heap.size, 10, none⟩ (.int .i64 q.ch)).drew = W at *
                have c0 : W.cell? ⟨w.heap.size, 0, none⟩ = some (.int .i64 q.g) := by rw [cell_of_row W w.heap.size 0 _ _ _ hHF]; rfl
                have c1 : W.cell? ⟨w.heap.size, 1, none⟩ = some (.int .i64 q.xx) := by rw [cell_of_row W w.heap.size 1 _ _ _ hHF]; rfl
                have c2 : W.cell? ⟨w.heap.size, 2, none⟩ = some (.int .i64 q.xy) := by rw [cell_of_row W w.heap.size 2 _ _ _ hHF]; rfl
                have c3 : W.cell? ⟨w.heap.size, 3, none⟩ = some (.int .i64 q.yx) := by rw [cell_of_row W w.heap.size 3 _ _ _ hHF]; rfl
                have c4 : W.cell? ⟨w.heap.size, 4, none⟩ = some (.int .i64 q.yy) := by rw [cell_of_row W w.heap.size 4 _ _ _ hHF]; rfl
                have c5 : W.cell? ⟨w.heap.size, 5, none⟩ = some (.bool q.m) := by rw [cell_of_row W w.heap.size 5 _ _ _ hHF]; rfl
                have c6 : W.cell? ⟨w.heap.size, 6, none⟩ = some (.int .i64 q.dx) := by rw [cell_of_row W w.heap.size 6 _ _ _ hHF]; rfl
                have c7 : W.cell? ⟨w.heap.size, 7, none⟩ = some (.int .i64 q.dy) := by rw [cell_of_row W w.heap.size 7 _ _ _ hHF]; rfl
                have c8 : W.cell? ⟨w.heap.size, 8, none⟩ = some (.bool q.t) := by rw [cell_of_row W w.heap.size 8 _ _ _ hHF]; rfl
                have c9 : W.cell? ⟨w.heap.size, 9, none⟩ = some (.int .i64 q.pa) := by rw [cell_of_row W w.heap.size 9 _ _ _ hHF]; rfl
                have c10 : W.cell? ⟨w.heap.size, 10, none⟩ = some (.int .i64 q.ch) := by rw [cell_of_row W w.heap.size 10 _ _ _ hHF]; rfl
                refine bodyPost_ret (v := .tuple #[.agg #[.int .i64 q.g, .int .i64 q.xx, .int .i64 q.xy, .int .i64 q.yx, .int .i64 q.yy, .bool q.m, .int .i64 q.dx, .int .i64 q.dy, .bool q.t, .int .i64 q.pa, .int .i64 q.ch], .bool (bits .and .i64 f 32 != 0), .bool true]) (by simp [results, Tryz.results77, go_sem, c0, c1, c2, c3, c4, c5, c6, c7, c8, c9, c10]) rfl ⟨by rw [HPM.out, HG.out.1, HG.out.2, HOK.out]; rfl, ?_, ?_⟩
                · rw [HPM.out]; exact hRd.kp hKF (by simp; omega) (by simp; exact fun e => by have := HVB.out _ e; omega)
                · exact HE.out.2.2.2.2.1.trans' hKF (fun t ht => by simp at ht; subst ht; exact .inr (by omega))
            · go_wp2_with fail
              go_region_with (go_at_call 58; refine (doneS (hRd.kp (S := [w.heap.size]) (by (repeat (first | exact Kp.refl _ _ | assumption | refine Kp.drew ?_ | refine Kp.drewN ?_ _ | refine Kp.alloc ?_ _ | (refine Kp.setCell ?_ (by first | (left; simp; done) | (right; simp; try omega)) _) | (refine Kp.trans' ?_ (by assumption) (by simp; try omega))))) (by simp; omega) (by simp; exact fun e => by have := HVB.out _ e; omega))).mono ?_; rintro e w' ⟨rfl, rfl⟩)
              all_goals
                go_wp2_with fail
                clear k0 k1 k2 k3 k4 k5 k6 k7 k8 k9 k10 z0 z1 z2 z3 z4 z5 z6 z7 z8 z9 z10 y0 y1 y2 y3 y4 y5 y6 y7 y8 y9 y10
                have hHF := put11 w.heap.size q HE.out.2.2.1
                have hKF := kput11 w.heap.size q wr
                generalize (((((((((((wr.setCell ⟨w.heap.size, 0, none⟩ (.int .i64 q.g)).setCell ⟨w.heap.size, 1, none⟩ (.int .i64 q.xx)).setCell ⟨w.heap.size, 2, none⟩ (.int .i64 q.xy)).setCell ⟨w.heap.size, 3, none⟩ (.int .i64 q.yx)).setCell ⟨w.heap.size, 4, none⟩ (.int .i64 q.yy)).setCell ⟨w.heap.size, 5, none⟩ (.bool q.m)).setCell ⟨w.heap.size, 6, none⟩ (.int .i64 q.dx)).setCell ⟨w.heap.size, 7, none⟩ (.int .i64 q.dy)).setCell ⟨w.heap.size, 8, none⟩ (.bool q.t)).setCell ⟨w.heap.size, 9, none⟩ (.int .i64 q.pa)).setCell ⟨w.heap.size, 10, none⟩ (.int .i64 q.ch)).drew = W at *
                have c0 : W.cell? ⟨w.heap.size, 0, none⟩ = some (.int .i64 q.g) := by rw [cell_of_row W w.heap.size 0 _ _ _ hHF]; rfl
                have c1 : W.cell? ⟨w.heap.size, 1, none⟩ = some (.int .i64 q.xx) := by rw [cell_of_row W w.heap.size 1 _ _ _ hHF]; rfl
                have c2 : W.cell? ⟨w.heap.size, 2, none⟩ = some (.int .i64 q.xy) := by rw [cell_of_row W w.heap.size 2 _ _ _ hHF]; rfl
                have c3 : W.cell? ⟨w.heap.size, 3, none⟩ = some (.int .i64 q.yx) := by rw [cell_of_row W w.heap.size 3 _ _ _ hHF]; rfl
                have c4 : W.cell? ⟨w.heap.size, 4, none⟩ = some (.int .i64 q.yy) := by rw [cell_of_row W w.heap.size 4 _ _ _ hHF]; rfl
                have c5 : W.cell? ⟨w.heap.size, 5, none⟩ = some (.bool q.m) := by rw [cell_of_row W w.heap.size 5 _ _ _ hHF]; rfl
                have c6 : W.cell? ⟨w.heap.size, 6, none⟩ = some (.int .i64 q.dx) := by rw [cell_of_row W w.heap.size 6 _ _ _ hHF]; rfl
                have c7 : W.cell? ⟨w.heap.size, 7, none⟩ = some (.int .i64 q.dy) := by rw [cell_of_row W w.heap.size 7 _ _ _ hHF]; rfl
                have c8 : W.cell? ⟨w.heap.size, 8, none⟩ = some (.bool q.t) := by rw [cell_of_row W w.heap.size 8 _ _ _ hHF]; rfl
                have c9 : W.cell? ⟨w.heap.size, 9, none⟩ = some (.int .i64 q.pa) := by rw [cell_of_row W w.heap.size 9 _ _ _ hHF]; rfl
                have c10 : W.cell? ⟨w.heap.size, 10, none⟩ = some (.int .i64 q.ch) := by rw [cell_of_row W w.heap.size 10 _ _ _ hHF]; rfl
                refine bodyPost_ret (v := .tuple #[.agg #[.int .i64 q.g, .int .i64 q.xx, .int .i64 q.xy, .int .i64 q.yx, .int .i64 q.yy, .bool q.m, .int .i64 q.dx, .int .i64 q.dy, .bool q.t, .int .i64 q.pa, .int .i64 q.ch], .bool (bits .and .i64 f 32 != 0), .bool false]) (by simp [results, Tryz.results77, go_sem, c0, c1, c2, c3, c4, c5, c6, c7, c8, c9, c10]) rfl ⟨by rw [HPM.out, HG.out.1, HG.out.2, HOK.out]; rfl, ?_, ?_⟩
                · rw [HPM.out]; exact hRd.kp hKF (by simp; omega) (by simp; exact fun e => by have := HVB.out _ e; omega)
                · exact HE.out.2.2.2.2.1.trans' hKF (fun t ht => by simp at ht; subst ht; exact .inr (by omega))
    · have hs : (bits .and .i64 f 2 != 0) = true := by simpa using hS
      have hs2 : Hid (stepB f = true) := by show _ = _; unfold stepB; exact decide_eq_true hS
      clear hS
      have H6b := H6; have HB5b := HB5; have HR5b := HR5; have hkw5b := hkw5
      have HRDb : Hid (∀ (W : World) (t : Rs), Kp [r] w5 W → RdS W r v zs t.1 t.2 → Calls Tryz.prog K #[PP] W fun e w' => e = .returned (.int .i64 (argV X (val zs (argN X) t))) ∧ RdS w' r v zs (stp zs (argN X) t).1 (stp zs (argN X) t).2 ∧ Kp [r] W w') := fun W t hk => HRD.out W t (hk.more (fun s hs => .inl (by simp at hs; simp [hs])))
      clear hk5 hkw5 H6 HB5 HR5 HRD
      go_wp2_with fail
      refine (HRDb.out _ t2 (Kp.refl _ _) H6b.out).mono ?_; rintro e w6 ⟨rfl, h6, hk6⟩
      rw [HA.out]
      have H7 := Lib.hid h6
      clear h6
      go_wp2_with fail
      refine (HRDb.out w6 (stp zs (argN X) t2) hk6 H7.out).mono ?_; rintro e w7 ⟨rfl, h8, hk7⟩
      rw [HA2.out]
      have H8 := Lib.hid h8
      clear h8
      have hkw7 : Kp [r] w w7 := (hkw5b.trans hk6).trans hk7
      have HB7 := Lib.hid (hk7.heap (hk6.heap HB5b.out (by simpa using hBr)) (by simpa using hBr))
      have HR7 := Lib.hid (hk7.heap (hk6.heap HR5b.out (by simp; omega)) (by simp; omega))
      clear hk6 hk7 hkw5b
      have c6 := cell_of_row w7 B 6 _ _ _ HB7.out
      have f6 := frozen_of_row w7 B 6 _ _ HB7.out
      have c7 := cell_of_row w7 B 7 _ _ _ HB7.out
      have f7 := frozen_of_row w7 B 7 _ _ HB7.out
      have c8 := cell_of_row w7 B 8 _ _ _ HB7.out
      have f8 := frozen_of_row w7 B 8 _ _ HB7.out
      simp only [List.getElem?_toArray, List.getElem?_cons_succ, List.getElem?_cons_zero, List.setIfInBounds_toArray, List.set_cons_succ, List.set_cons_zero] at c6 c7 c8
      go_wp2_with fail
      have hvB : blockOf v ≠ some B := fun e => by have := HVB.out B e; omega
      have H9 := Lib.hid (((H8.out.setB (j := 6) hBr hvB (.int .i64 a)).setB (j := 7) hBr hvB (.int .i64 b)).setB (j := 8) hBr hvB (.bool (bits .and .i64 f 6144 == 2048)))
      have HB9 : Hid ((((w7.setCell ⟨B, 6, none⟩ (.int .i64 a)).setCell ⟨B, 7, none⟩ (.int .i64 b)).setCell ⟨B, 8, none⟩ (.bool (bits .and .i64 f 6144 == 2048))).heap[B]? = some (.cells (ptCells (bareM (headM zs s))) 34 (0, 0))) := by
        have e := (heap_setCell_same ((w7.setCell ⟨B, 6, none⟩ (.int .i64 a)).setCell ⟨B, 7, none⟩ (.int .i64 b)) B 8 _ _ (.bool (bits .and .i64 f 6144 == 2048)) (heap_setCell_same (w7.setCell ⟨B, 6, none⟩ (.int .i64 a)) B 7 _ _ (.int .i64 b) (heap_setCell_same w7 B 6 _ _ (.int .i64 a) HB7.out)))
        have e2 : ptCells (bareM (headM zs s)) = #[.int .i64 g, .int .i64 16384, .int .i64 0, .int .i64 0, .int .i64 16384, .bool false, .int .i64 a, .int .i64 b, .bool (turnB f), .int .i64 0, .int .i64 0] := by
          rw [HHD.out]; unfold bareM; rw [if_pos hs2.out]; rfl
        show _ = _
        rw [e2]; exact e
      have hkS : Kp [B] w7 (((w7.setCell ⟨B, 6, none⟩ (.int .i64 a)).setCell ⟨B, 7, none⟩ (.int .i64 b)).setCell ⟨B, 8, none⟩ (.bool (bits .and .i64 f 6144 == 2048))) := ((((Kp.refl _ _).setCell (.inl (by simp)) _).setCell (.inl (by simp)) _).setCell (.inl (by simp)) _)
      have HR9 := Lib.hid (hkS.heap HR7.out (by simp; omega))
      have hkw9 : Kp [r] w (((w7.setCell ⟨B, 6, none⟩ (.int .i64 a)).setCell ⟨B, 7, none⟩ (.int .i64 b)).setCell ⟨B, 8, none⟩ (.bool (bits .and .i64 f 6144 == 2048))) := hkw7.trans' hkS (fun t ht => by simp at ht; subst ht; exact .inr (by omega))
      clear hkS f6 c6 f7 c7 f8 c8
      generalize (((w7.setCell ⟨B, 6, none⟩ (.int .i64 a)).setCell ⟨B, 7, none⟩ (.int .i64 b)).setCell ⟨B, 8, none⟩ (.bool (bits .and .i64 f 6144 == 2048))) = w9 at *
      have hBb : B < w9.heap.size := lt_of_block HB9.out
      have HB0 := Lib.hid hBb
      refine (places_calls B f (matM f) rfl w9).mono ?_; rintro e w10 ⟨v10, rfl, hpl, hk10⟩
      obtain ⟨p10, rfl⟩ := hpl.form
      have HPT : Hid (PtSt w w10 r v zs B w9.heap.size (.slice p10 (plM (matM f)).length (plM (matM f)).length) (plM (matM f)) (stp zs (argN X) (stp zs (argN X) t2)) (ptCells (bareM (headM zs s))).toList) :=
        ⟨H9.out.kp0 hk10, by have := hk10.heap HB9.out (by simp); simpa using this, hk10.heap HR9.out (by simp), hpl, hkw9.trans0 hk10, hrl, hBw, hBb, hvB, rfl⟩
      have HOKP := Lib.hid (plM_ok (matM f))
      have hln := plM_len (matM f)
      have HLN := Lib.hid hln.2
      have hln := hln.1
      clear hpl hk10 hkw9 hBb H6b H7 H8 H9 HB5b HR5b HB7 HR7 HB9 HR9 HA HA2 hkw7
      generalize hPL : plM (matM f) = PL at *
      have HPL := Lib.hid hPL
      clear hPL
      generalize w9.heap.size = b0 at *
      obtain ⟨L0, hL0⟩ : ∃ L0, (ptCells (bareM (headM zs s))).toList = L0 := ⟨_, rfl⟩
      rw [hL0] at HPT
      have HL0 := Lib.hid hL0
      clear hL0
      generalize ht4 : stp zs (argN X) (stp zs (argN X) t2) = t4 at *
      obtain ⟨N, hN⟩ : ∃ N, PL.length = N := ⟨_, rfl⟩
      have HN := Lib.hid hN
      rw [hN] at hln HPT
      rw [hN]
      clear hN
      go_wp2_with fail
      go_loopw [51] (fun i wr => ∃ j : Nat, j ≤ N ∧ i = .int .i64 j ∧ Hid (PtSt w wr r v zs B b0 (.slice p10 N N) PL (fillM zs (PL.take j) t4 L0).1 (fillM zs (PL.take j) t4 L0).2)) (fun i _ => N - (intOf i).toNat)
      case atStart => exact ⟨0, by omega, rfl, HPT⟩
      case round =>
        obtain ⟨j, hj, rfl, HJ⟩ := hrel
        by_cases hlt : j < N
        · have hw9 : IntKind.i64.wrap ((j : Int) + 1) = (j : Int) + 1 := by rw [IntKind.wrap_i64]; omega
          have hPj : j < PL.length := by rw [HN.out]; exact hlt
          obtain ⟨G, hG, rest⟩ : ∃ G, p10 = some ⟨G, 0, none⟩ ∧ ∀ j, j < PL.length → ∃ g, wr.cell? ⟨G, j, none⟩ = some (.slice (some ⟨g, 0, none⟩) (PL.getD j []).length (PL.getD j []).length) ∧ b0 ≤ g ∧ ∀ i, i < (PL.getD j []).length → wr.cell? ⟨g, i, none⟩ = some (.pointer (some ⟨B, (PL.getD j []).getD i 0, none⟩)) := by
            rcases HJ.out.2.2.2.1 with ⟨e, h0⟩ | ⟨G, e, _, h3⟩
            · rw [h0] at hPj; simp at hPj
            · cases e; exact ⟨G, rfl, h3⟩
          subst hG
          obtain ⟨g1, hc1, hg1, hc2⟩ := rest j hPj
          have HC2 := Lib.hid hc2
          have hok1 := HOKP.out j hPj
          have hn2 := HLN.out j hPj
          have hts : PL.take (j + 1) = PL.take j ++ [PL.getD j []] := take_snoc PL j [] hPj
          have HTS := Lib.hid hts
          have HOK1 := Lib.hid hok1
          generalize PL.getD j [] = pl at *
          clear rest hc2 hts hok1
          have hfs : Hid (fillM zs (PL.take j ++ [pl]) t4 L0 = (stp zs 2 (fillM zs (PL.take j) t4 L0).1, putAll (fillM zs (PL.take j) t4 L0).2 (s16 (val zs 2 (fillM zs (PL.take j) t4 L0).1)) pl)) := fillM_snoc zs (PL.take j) pl t4 L0
          have HFS : Hid (fillM zs (PL.take (j + 1)) t4 L0 = (stp zs 2 (fillM zs (PL.take j) t4 L0).1, putAll (fillM zs (PL.take j) t4 L0).2 (s16 (val zs 2 (fillM zs (PL.take j) t4 L0).1)) pl)) := by rw [HTS.out]; exact hfs.out
          clear hfs HTS
          generalize fillM zs (PL.take j) t4 L0 = FJ at *
          go_wp2_with fail
          refine (i16S HJ.out.1).mono ?_; rintro e w11 ⟨rfl, h11, hk11⟩
          have H11 := Lib.hid (HJ.out.read (s' := stp zs 2 FJ.1) h11 hk11)
          have HC3 : Hid (∀ i, i < pl.length → w11.cell? ⟨g1, i, none⟩ = some (.pointer (some ⟨B, pl.getD i 0, none⟩))) := fun i hi => hk11.cell (HC2.out i hi) (by have := HJ.out.2.2.2.2.2; simp; omega)
          clear h11 hk11 hc1 HJ HC2
          change Hid (fillM zs (PL.take (j + 1)) t4 L0 = (stp zs 2 FJ.1, putAll FJ.2 (s16 (rdV zs FJ.1.1 FJ.1.2 2)) pl)) at HFS
          generalize s16 (rdV zs FJ.1.1 FJ.1.2 2) = x at *
          go_wp2_with fail
          go_loopw [59] (fun i2 wr2 => ∃ m : Nat, m ≤ pl.length ∧ i2 = .int .i64 m ∧ Hid (PtSt w wr2 r v zs B b0 (.slice (some ⟨G, 0, none⟩) N N) PL (stp zs 2 FJ.1) (putAll FJ.2 x (pl.take m)) ∧ Kp [B] w11 wr2)) (fun i2 _ => pl.length - (intOf i2).toNat)
          case atStart => exact ⟨0, by omega, rfl, H11.out, Kp.refl _ _⟩
          case round =>
            obtain ⟨m, hm, rfl, HM⟩ := hrel
            by_cases hmt : m < pl.length
            · have hw8 : IntKind.i64.wrap ((m : Int) + 1) = (m : Int) + 1 := by rw [IntKind.wrap_i64]; omega
              have hcp := HM.out.2.cell (HC3.out m hmt) (by have := HB0.out; simp; omega)
              obtain ⟨⟨u, hcu⟩, hfu⟩ := HM.out.1.cell (pl.getD m 0) (HOK1.out m hmt)
              have HN2 := Lib.hid (HM.out.1.put (pl.getD m 0) x)
              have HK2 : Hid (Kp [B] w11 (wr.setCell ⟨B, pl.getD m 0, none⟩ (.int .i64 x))) := HM.out.2.setCell (.inl (by simp)) _
              have HTM : Hid (putAll FJ.2 x (pl.take (m + 1)) = (putAll FJ.2 x (pl.take m)).set (pl.getD m 0) (.int .i64 x)) := by show _ = _; rw [take_snoc pl m 0 hmt, putAll_snoc]
              generalize pl.getD m 0 = cc at *
              go_wp2_with fail
              go_round
              case rel => exact ⟨m + 1, by omega, by go_num, by rw [HTM.out]; exact HN2.out, HK2.out⟩
              case measure => simp [intOf]; omega
            · obtain rfl : m = pl.length := by omega
              have HE : Hid (PtSt w wr r v zs B b0 (.slice (some ⟨G, 0, none⟩) N N) PL (fillM zs (PL.take (j + 1)) t4 L0).1 (fillM zs (PL.take (j + 1)) t4 L0).2) := by
                rw [HFS.out]; have := HM.out.1; rw [List.take_length] at this; exact this
              clear HM
              go_wp2_with fail
              go_round
              case rel => exact ⟨j + 1, by omega, by go_num, HE⟩
              case measure => simp [intOf]; omega
        · obtain rfl : j = N := by omega
          have HE : Hid (PtSt w wr r v zs B b0 (.slice p10 j j) PL (fillM zs PL t4 L0).1 (fillM zs PL t4 L0).2) := by
            have := HJ.out; rw [← HN.out, List.take_length] at this; rw [HN.out] at this; exact this
          clear HJ HPT
          have HCP : Hid (fillM zs PL t4 L0 = ((partM zs s).2.2.2, (ptCells (partM zs s).1).toList)) := by
            have := cells_part zs s
            unfold cellsM at this
            rw [HHD.out] at this
            rw [← HL0.out, ← HPL.out, HHD.out]; exact this
          rw [HCP.out] at HE
          have HG : Hid ((partM zs s).2.1 = (bits .and .i64 f 32 != 0) ∧ (partM zs s).2.2.1 = (okM (matM f) && !(partM zs s).2.2.2.2)) := by
            have e : (headM zs s).f = f := by rw [HHD.out]
            have hf := partM_flags zs s
            rw [e] at hf
            refine ⟨hf.1.trans ?_, hf.2⟩
            by_cases h0 : bits .and .i64 f 32 = 0 <;> simp [h0]
          clear HCP
          obtain ⟨PM, hPM⟩ : ∃ PM, partM zs s = PM := ⟨_, rfl⟩
          rw [hPM] at HE HG
          have HPM := Lib.hid hPM
          clear hPM
          obtain ⟨q, G1, G2, s9⟩ := PM
          dsimp only at HE HG
          have k0 : wr.cell? ⟨B, 0, none⟩ = some (.int .i64 q.g) := by rw [cell_of_row wr B 0 _ _ _ HE.out.2.1]; rfl
          have k1 : wr.cell? ⟨B, 1, none⟩ = some (.int .i64 q.xx) := by rw [cell_of_row wr B 1 _ _ _ HE.out.2.1]; rfl
          have k2 : wr.cell? ⟨B, 2, none⟩ = some (.int .i64 q.xy) := by rw [cell_of_row wr B 2 _ _ _ HE.out.2.1]; rfl
          have k3 : wr.cell? ⟨B, 3, none⟩ = some (.int .i64 q.yx) := by rw [cell_of_row wr B 3 _ _ _ HE.out.2.1]; rfl
          have k4 : wr.cell? ⟨B, 4, none⟩ = some (.int .i64 q.yy) := by rw [cell_of_row wr B 4 _ _ _ HE.out.2.1]; rfl
          have k5 : wr.cell? ⟨B, 5, none⟩ = some (.bool q.m) := by rw [cell_of_row wr B 5 _ _ _ HE.out.2.1]; rfl
          have k6 : wr.cell? ⟨B, 6, none⟩ = some (.int .i64 q.dx) := by rw [cell_of_row wr B 6 _ _ _ HE.out.2.1]; rfl
          have k7 : wr.cell? ⟨B, 7, none⟩ = some (.int .i64 q.dy) := by rw [cell_of_row wr B 7 _ _ _ HE.out.2.1]; rfl
          have k8 : wr.cell? ⟨B, 8, none⟩ = some (.bool q.t) := by rw [cell_of_row wr B 8 _ _ _ HE.out.2.1]; rfl
          have k9 : wr.cell? ⟨B, 9, none⟩ = some (.int .i64 q.pa) := by rw [cell_of_row wr B 9 _ _ _ HE.out.2.1]; rfl
          have k10 : wr.cell? ⟨B, 10, none⟩ = some (.int .i64 q.ch) := by rw [cell_of_row wr B 10 _ _ _ HE.out.2.1]; rfl
          have z0 : wr.cell? ⟨w.heap.size, 0, none⟩ = some (.int .i64 0) := by rw [cell_of_row wr w.heap.size 0 _ _ _ HE.out.2.2.1]; rfl
          have y0 := frozen_of_row wr w.heap.size 0 _ _ HE.out.2.2.1
          have z1 : wr.cell? ⟨w.heap.size, 1, none⟩ = some (.int .i64 0) := by rw [cell_of_row wr w.heap.size 1 _ _ _ HE.out.2.2.1]; rfl
          have y1 := frozen_of_row wr w.heap.size 1 _ _ HE.out.2.2.1
          have z2 : wr.cell? ⟨w.heap.size, 2, none⟩ = some (.int .i64 0) := by rw [cell_of_row wr w.heap.size 2 _ _ _ HE.out.2.2.1]; rfl
          have y2 := frozen_of_row wr w.heap.size 2 _ _ HE.out.2.2.1
          have z3 : wr.cell? ⟨w.heap.size, 3, none⟩ = some (.int .i64 0) := by rw [cell_of_row wr w.heap.size 3 _ _ _ HE.out.2.2.1]; rfl
          have y3 := frozen_of_row wr w.heap.size 3 _ _ HE.out.2.2.1
          have z4 : wr.cell? ⟨w.heap.size, 4, none⟩ = some (.int .i64 0) := by rw [cell_of_row wr w.heap.size 4 _ _ _ HE.out.2.2.1]; rfl
          have y4 := frozen_of_row wr w.heap.size 4 _ _ HE.out.2.2.1
          have z5 : wr.cell? ⟨w.heap.size, 5, none⟩ = some (.bool false) := by rw [cell_of_row wr w.heap.size 5 _ _ _ HE.out.2.2.1]; rfl
          have y5 := frozen_of_row wr w.heap.size 5 _ _ HE.out.2.2.1
          have z6 : wr.cell? ⟨w.heap.size, 6, none⟩ = some (.int .i64 0) := by rw [cell_of_row wr w.heap.size 6 _ _ _ HE.out.2.2.1]; rfl
          have y6 := frozen_of_row wr w.heap.size 6 _ _ HE.out.2.2.1
          have z7 : wr.cell? ⟨w.heap.size, 7, none⟩ = some (.int .i64 0) := by rw [cell_of_row wr w.heap.size 7 _ _ _ HE.out.2.2.1]; rfl
          have y7 := frozen_of_row wr w.heap.size 7 _ _ HE.out.2.2.1
          have z8 : wr.cell? ⟨w.heap.size, 8, none⟩ = some (.bool false) := by rw [cell_of_row wr w.heap.size 8 _ _ _ HE.out.2.2.1]; rfl
          have y8 := frozen_of_row wr w.heap.size 8 _ _ HE.out.2.2.1
          have z9 : wr.cell? ⟨w.heap.size, 9, none⟩ = some (.int .i64 0) := by rw [cell_of_row wr w.heap.size 9 _ _ _ HE.out.2.2.1]; rfl
          have y9 := frozen_of_row wr w.heap.size 9 _ _ HE.out.2.2.1
          have z10 : wr.cell? ⟨w.heap.size, 10, none⟩ = some (.int .i64 0) := by rw [cell_of_row wr w.heap.size 10 _ _ _ HE.out.2.2.1]; rfl
          have y10 := frozen_of_row wr w.heap.size 10 _ _ HE.out.2.2.1
          have hBw2 : B ≠ w.heap.size := by omega
          have hRd : RdS wr r v zs s9.1 s9.2 := HE.out.1
          cases hok : okM (matM f)
          · have HOK := Lib.hid hok
            clear hok
            go_wp2_with fail
            (first | go_region_with (fail) | fail)
            all_goals
              go_wp2_with fail
              clear k0 k1 k2 k3 k4 k5 k6 k7 k8 k9 k10 z0 z1 z2 z3 z4 z5 z6 z7 z8 z9 z10 y0 y1 y2 y3 y4 y5 y6 y7 y8 y9 y10
              have hHF := put11 w.heap.size q HE.out.2.2.1
              have hKF := kput11 w.heap.size q wr
              generalize (((((((((((wr.setCell ⟨w.heap.size, 0, none⟩ (.int .i64 q.g)).setCell ⟨w.heap.size, 1, none⟩ (.int .i64 q.xx)).setCell ⟨w.heap.size, 2, none⟩ (.int .i64 q.xy)).setCell ⟨w.heap.size, 3, none⟩ (.int .i64 q.yx)).setCell ⟨w.heap.size, 4, none⟩ (.int .i64 q.yy)).setCell ⟨w.heap.size, 5, none⟩ (.bool q.m)).setCell ⟨w.heap.size, 6, none⟩ (.int .i64 q.dx)).setCell ⟨w.heap.size, 7, none⟩ (.int .i64 q.dy)).setCell ⟨w.heap.size, 8, none⟩ (.bool q.t)).setCell ⟨w.heap.size, 9, none⟩ (.int .i64 q.pa)).setCell ⟨w.heap.size, 10, none⟩ (.int .i64 q.ch)).drew = W at *
              have c0 : W.cell? ⟨w.heap.size, 0, none⟩ = some (.int .i64 q.g) := by rw [cell_of_row W w.heap.size 0 _ _ _ hHF]; rfl
              have c1 : W.cell? ⟨w.heap.size, 1, none⟩ = some (.int .i64 q.xx) := by rw [cell_of_row W w.heap.size 1 _ _ _ hHF]; rfl
              have c2 : W.cell? ⟨w.heap.size, 2, none⟩ = some (.int .i64 q.xy) := by rw [cell_of_row W w.heap.size 2 _ _ _ hHF]; rfl
              have c3 : W.cell? ⟨w.heap.size, 3, none⟩ = some (.int .i64 q.yx) := by rw [cell_of_row W w.heap.size 3 _ _ _ hHF]; rfl
              have c4 : W.cell? ⟨w.heap.size, 4, none⟩ = some (.int .i64 q.yy) := by rw [cell_of_row W w.heap.size 4 _ _ _ hHF]; rfl
              have c5 : W.cell? ⟨w.heap.size, 5, none⟩ = some (.bool q.m) := by rw [cell_of_row W w.heap.size 5 _ _ _ hHF]; rfl
              have c6 : W.cell? ⟨w.heap.size, 6, none⟩ = some (.int .i64 q.dx) := by rw [cell_of_row W w.heap.size 6 _ _ _ hHF]; rfl
              have c7 : W.cell? ⟨w.heap.size, 7, none⟩ = some (.int .i64 q.dy) := by rw [cell_of_row W w.heap.size 7 _ _ _ hHF]; rfl
              have c8 : W.cell? ⟨w.heap.size, 8, none⟩ = some (.bool q.t) := by rw [cell_of_row W w.heap.size 8 _ _ _ hHF]; rfl
              have c9 : W.cell? ⟨w.heap.size, 9, none⟩ = some (.int .i64 q.pa) := by rw [cell_of_row W w.heap.size 9 _ _ _ hHF]; rfl
              have c10 : W.cell? ⟨w.heap.size, 10, none⟩ = some (.int .i64 q.ch) := by rw [cell_of_row W w.heap.size 10 _ _ _ hHF]; rfl
              refine bodyPost_ret (v := .tuple #[.agg #[.int .i64 q.g, .int .i64 q.xx, .int .i64 q.xy, .int .i64 q.yx, .int .i64 q.yy, .bool q.m, .int .i64 q.dx, .int .i64 q.dy, .bool q.t, .int .i64 q.pa, .int .i64 q.ch], .bool (bits .and .i64 f 32 != 0), .bool false]) (by simp [results, Tryz.results77, go_sem, c0, c1, c2, c3, c4, c5, c6, c7, c8, c9, c10]) rfl ⟨by rw [HPM.out, HG.out.1, HG.out.2, HOK.out]; rfl, ?_, ?_⟩
              · rw [HPM.out]; exact hRd.kp hKF (by simp; omega) (by simp; exact fun e => by have := HVB.out _ e; omega)
              · exact HE.out.2.2.2.2.1.trans' hKF (fun t ht => by simp at ht; subst ht; exact .inr (by omega))
          · have HOK := Lib.hid hok
            clear hok
            obtain ⟨kk9, bb9⟩ := s9
            dsimp only at hRd HG HE
            cases bb9
            · go_wp2_with fail
              go_region_with (go_at_call 58; refine (doneS (hRd.kp (S := [w.heap.size]) (by (repeat (first | exact Kp.refl _ _ | assumption | refine Kp.drew ?_ | refine Kp.drewN ?_ _ | refine Kp.alloc ?_ _ | (refine Kp.setCell ?_ (by first | (left; simp; done) | (right; simp; try omega)) _) | (refine Kp.trans' ?_ (by assumption) (by simp; try omega))))) (by simp; omega) (by simp; exact fun e => by have := HVB.out _ e; omega))).mono ?_; rintro e w' ⟨rfl, rfl⟩)
              all_goals
                go_wp2_with fail
                clear k0 k1 k2 k3 k4 k5 k6 k7 k8 k9 k10 z0 z1 z2 z3 z4 z5 z6 z7 z8 z9 z10 y0 y1 y2 y3 y4 y5 y6 y7 y8 y9 y10
                have hHF := put11 w.heap.size q HE.out.2.2.1
                have hKF := kput11 w.heap.size q wr
                generalize (((((((((((wr.setCell ⟨w.heap.size, 0, none⟩ (.int .i64 q.g)).setCell ⟨w.heap.size, 1, none⟩ (.int .i64 q.xx)).setCell ⟨w.heap.size, 2, none⟩ (.int .i64 q.xy)).setCell ⟨w.heap.size, 3, none⟩ (.int .i64 q.yx)).setCell ⟨w.heap.size, 4, none⟩ (.int .i64 q.yy)).setCell ⟨w.heap.size, 5, none⟩ (.bool q.m)).setCell ⟨w.heap.size, 6, none⟩ (.int .i64 q.dx)).setCell ⟨w.heap.size, 7, none⟩ (.int .i64 q.dy)).setCell ⟨w.heap.size, 8, none⟩ (.bool q.t)).setCell ⟨w.heap.size, 9, none⟩ (.int .i64 q.pa)).setCell ⟨w.heap.size, 10, none⟩ (.int .i64 q.ch)).drew = W at *
                have c0 : W.cell? ⟨w.heap.size, 0, none⟩ = some (.int .i64 q.g) := by rw [cell_of_row W w.heap.size 0 _ _ _ hHF]; rfl
                have c1 : W.cell? ⟨w.heap.size, 1, none⟩ = some (.int .i64 q.xx) := by rw [cell_of_row W w.heap.size 1 _ _ _ hHF]; rfl
                have c2 : W.cell? ⟨w.heap.size, 2, none⟩ = some (.int .i64 q.xy) := by rw [cell_of_row W w.heap.size 2 _ _ _ hHF]; rfl
                have c3 : W.cell? ⟨w.heap.size, 3, none⟩ = some (.int .i64 q.yx) := by rw [cell_of_row W w.heap.size 3 _ _ _ hHF]; rfl
                have c4 : W.cell? ⟨w.heap.size, 4, none⟩ = some (.int .i64 q.yy) := by rw [cell_of_row W w.heap.size 4 _ _ _ hHF]; rfl
                have c5 : W.cell? ⟨w.heap.size, 5, none⟩ = some (.bool q.m) := by rw [cell_of_row W w.heap.size 5 _ _ _ hHF]; rfl
                have c6 : W.cell? ⟨w.heap.size, 6, none⟩ = some (.int .i64 q.dx) := by rw [cell_of_row W w.heap.size 6 _ _ _ hHF]; rfl
                have c7 : W.cell? ⟨w.heap.size, 7, none⟩ = some (.int .i64 q.dy) := by rw [cell_of_row W w.heap.size 7 _ _ _ hHF]; rfl
                have c8 : W.cell? ⟨w.heap.size, 8, none⟩ = some (.bool q.t) := by rw [cell_of_row W w.heap.size 8 _ _ _ hHF]; rfl
                have c9 : W.cell? ⟨w.heap.size, 9, none⟩ = some (.int .i64 q.pa) := by rw [cell_of_row W w.heap.size 9 _ _ _ hHF]; rfl
                have c10 : W.cell? ⟨w.heap.size, 10, none⟩ = some (.int .i64 q.ch) := by rw [cell_of_row W w.heap.size 10 _ _ _ hHF]; rfl
                refine bodyPost_ret (v := .tuple #[.agg #[.int .i64 q.g, .int .i64 q.xx, .int .i64 q.xy, .int .i64 q.yx, .int .i64 q.yy, .bool q.m, .int .i64 q.dx, .int .i64 q.dy, .bool q.t, .int .i64 q.pa, .int .i64 q.ch], .bool (bits .and .i64 f 32 != 0), .bool true]) (by simp [results, Tryz.results77, go_sem, c0, c1, c2, c3, c4, c5, c6, c7, c8, c9, c10]) rfl ⟨by rw [HPM.out, HG.out.1, HG.out.2, HOK.out]; rfl, ?_, ?_⟩
                · rw [HPM.out]; exact hRd.kp hKF (by simp; omega) (by simp; exact fun e => by have := HVB.out _ e; omega)
                · exact HE.out.2.2.2.2.1.trans' hKF (fun t ht => by simp at ht; subst ht; exact .inr (by omega))
            · go_wp2_with fail
              go_region_with (go_at_call 58; refine (doneS (hRd.kp (S := [w.heap.size]) (by (repeat (first | exact Kp.refl _ _ | assumption | refine Kp.drew ?_ | refine Kp.drewN ?_ _ | refine Kp.alloc ?_ _ | (refine Kp.setCell ?_ (by first | (left; simp; done) | (right; simp; try omega)) _) | (refine Kp.trans' ?_ (by assumption) (by simp; try omega))))) (by simp; omega) (by simp; exact fun e => by have := HVB.out _ e; omega))).mono ?_; rintro e w' ⟨rfl, rfl⟩)
              all_goals
                go_wp2_with fail
                clear k0 k1 k2 k3 k4 k5 k6 k7 k8 k9 k10 z0 z1 z2 z3 z4 z5 z6 z7 z8 z9 z10 y0 y1 y2 y3 y4 y5 y6 y7 y8 y9 y10
                have hHF := put11 w.heap.size q HE.out.2.2.1
                have hKF := kput11 w.heap.size q wr
                generalize (((((((((((wr.setCell ⟨w.heap.size, 0, none⟩ (.int .i64 q.g)).setCell ⟨w.heap.size, 1, none⟩ (.int .i64 q.xx)).setCell ⟨w.heap.size, 2, none⟩ (.int .i64 q.xy)).setCell ⟨w.heap.size, 3, none⟩ (.int .i64 q.yx)).setCell ⟨w.heap.size, 4, none⟩ (.int .i64 q.yy)).setCell ⟨w.heap.size, 5, none⟩ (.bool q.m)).setCell ⟨w.heap.size, 6, none⟩ (.int .i64 q.dx)).setCell ⟨w.heap.size, 7, none⟩ (.int .i64 q.dy)).setCell ⟨w.heap.size, 8, none⟩ (.bool q.t)).setCell ⟨w.heap.size, 9, none⟩ (.int .i64 q.pa)).setCell ⟨w.heap.size, 10, none⟩ (.int .i64 q.ch)).drew = W at *
                have c0 : W.cell? ⟨w.heap.size, 0, none⟩ = some (.int .i64 q.g) := by rw [cell_of_row W w.heap.size 0 _ _ _ hHF]; rfl
                have c1 : W.cell? ⟨w.heap.size, 1, none⟩ = some (.int .i64 q.xx) := by rw [cell_of_row W w.heap.size 1 _ _ _ hHF]; rfl
                have c2 : W.cell? ⟨w.heap.size, 2, none⟩ = some (.int .i64 q.xy) := by rw [cell_of_row W w.heap.size 2 _ _ _ hHF]; rfl
                have c3 : W.cell? ⟨w.heap.size, 3, none⟩ = some (.int .i64 q.yx) := by rw [cell_of_row W w.heap.size 3 _ _ _ hHF]; rfl
                have c4 : W.cell? ⟨w.heap.size, 4, none⟩ = some (.int .i64 q.yy) := by rw [cell_of_row W w.heap.size 4 _ _ _ hHF]; rfl
                have c5 : W.cell? ⟨w.heap.size, 5, none⟩ = some (.bool q.m) := by rw [cell_of_row W w.heap.size 5 _ _ _ hHF]; rfl
                have c6 : W.cell? ⟨w.heap.size, 6, none⟩ = some (.int .i64 q.dx) := by rw [cell_of_row W w.heap.size 6 _ _ _ hHF]; rfl
                have c7 : W.cell? ⟨w.heap.size, 7, none⟩ = some (.int .i64 q.dy) := by rw [cell_of_row W w.heap.size 7 _ _ _ hHF]; rfl
                have c8 : W.cell? ⟨w.heap.size, 8, none⟩ = some (.bool q.t) := by rw [cell_of_row W w.heap.size 8 _ _ _ hHF]; rfl
                have c9 : W.cell? ⟨w.heap.size, 9, none⟩ = some (.int .i64 q.pa) := by rw [cell_of_row W w.heap.size 9 _ _ _ hHF]; rfl
                have c10 : W.cell? ⟨w.heap.size, 10, none⟩ = some (.int .i64 q.ch) := by rw [cell_of_row W w.heap.size 10 _ _ _ hHF]; rfl
                refine bodyPost_ret (v := .tuple #[.agg #[.int .i64 q.g, .int .i64 q.xx, .int .i64 q.xy, .int .i64 q.yx, .int .i64 q.yy, .bool q.m, .int .i64 q.dx, .int .i64 q.dy, .bool q.t, .int .i64 q.pa, .int .i64 q.ch], .bool (bits .and .i64 f 32 != 0), .bool false]) (by simp [results, Tryz.results77, go_sem, c0, c1, c2, c3, c4, c5, c6, c7, c8, c9, c10]) rfl ⟨by rw [HPM.out, HG.out.1, HG.out.2, HOK.out]; rfl, ?_, ?_⟩
                · rw [HPM.out]; exact hRd.kp hKF (by simp; omega) (by simp; exact fun e => by have := HVB.out _ e; omega)
                · exact HE.out.2.2.2.2.1.trans' hKF (fun t ht => by simp at ht; subst ht; exact .inr (by omega))
  · by_cases hS : bits .and .i64 f 2 = 0
    · have hs : (bits .and .i64 f 2 != 0) = false := by simpa using hS
      have hs2 : Hid (stepB f = false) := by show _ = _; unfold stepB; exact decide_eq_false (by simpa using hS)
      clear hS
      have c5 := cell_of_row w5 B 5 _ _ _ HB5.out
      have f5 := frozen_of_row w5 B 5 _ _ HB5.out
      simp only [List.getElem?_toArray, List.getElem?_cons_succ, List.getElem?_cons_zero] at c5
      go_wp2_with fail
      have hvB : blockOf v ≠ some B := fun e => by have := HVB.out B e; omega
      have H6b := Lib.hid (H6.out.setB (j := 5) hBr hvB (.bool true))
      have HB5b := Lib.hid (heap_setCell_same w5 B 5 _ _ (.bool true) HB5.out)
      have hkS5 : Kp [B] w5 (w5.setCell ⟨B, 5, none⟩ (.bool true)) := (Kp.refl _ _).setCell (.inl (by simp)) _
      have HR5b := Lib.hid (hkS5.heap HR5.out (by simp; omega))
      have hkw5b := hkw5.trans' hkS5 (fun t ht => by simp at ht; subst ht; exact .inr (by omega))
      have HRDb : Hid (∀ (W : World) (t : Rs), Kp [r] (w5.setCell ⟨B, 5, none⟩ (.bool true)) W → RdS W r v zs t.1 t.2 → Calls Tryz.prog K #[PP] W fun e w' => e = .returned (.int .i64 (argV X (val zs (argN X) t))) ∧ RdS w' r v zs (stp zs (argN X) t).1 (stp zs (argN X) t).2 ∧ Kp [r] W w') := fun W t hk => HRD.out W t (((Kp.refl [r, B] w5).setCell (.inl (by simp)) _).trans (hk.more (fun s hs => .inl (by simp at hs; simp [hs]))))
      clear c5 f5 hkS5 hk5 hkw5 H6 HB5 HR5 HRD
      generalize w5.setCell ⟨B, 5, none⟩ (.bool true) = w5b at *
      go_wp2_with fail
      refine (HRDb.out _ t2 (Kp.refl _ _) H6b.out).mono ?_; rintro e w6 ⟨rfl, h6, hk6⟩
      rw [HA.out]
      have H7 := Lib.hid h6
      clear h6
      go_wp2_with fail
      refine (HRDb.out w6 (stp zs (argN X) t2) hk6 H7.out).mono ?_; rintro e w7 ⟨rfl, h8, hk7⟩
      rw [HA2.out]
      have H8 := Lib.hid h8
      clear h8
      have hkw7 : Kp [r] w w7 := (hkw5b.trans hk6).trans hk7
      have HB7 := Lib.hid (hk7.heap (hk6.heap HB5b.out (by simpa using hBr)) (by simpa using hBr))
      have HR7 := Lib.hid (hk7.heap (hk6.heap HR5b.out (by simp; omega)) (by simp; omega))
      clear hk6 hk7 hkw5b
      have c9 := cell_of_row w7 B 9 _ _ _ HB7.out
      have f9 := frozen_of_row w7 B 9 _ _ HB7.out
      have c10 := cell_of_row w7 B 10 _ _ _ HB7.out
      have f10 := frozen_of_row w7 B 10 _ _ HB7.out
      simp only [List.getElem?_toArray, List.getElem?_cons_succ, List.getElem?_cons_zero, List.setIfInBounds_toArray, List.set_cons_succ, List.set_cons_zero] at c9 c10
      go_wp2_with fail
      have H9 := Lib.hid ((H8.out.setB (j := 9) hBr hvB (.int .i64 a)).setB (j := 10) hBr hvB (.int .i64 b))
      have HB9 : Hid (((w7.setCell ⟨B, 9, none⟩ (.int .i64 a)).setCell ⟨B, 10, none⟩ (.int .i64 b)).heap[B]? = some (.cells (ptCells (bareM (headM zs s))) 34 (0, 0))) := by
        have e := (heap_setCell_same (w7.setCell ⟨B, 9, none⟩ (.int .i64 a)) B 10 _ _ (.int .i64 b) (heap_setCell_same w7 B 9 _ _ (.int .i64 a) HB7.out))
        have e2 : ptCells (bareM (headM zs s)) = #[.int .i64 g, .int .i64 16384, .int .i64 0, .int .i64 0, .int .i64 16384, .bool true, .int .i64 0, .int .i64 0, .bool false, .int .i64 a, .int .i64 b] := by
          rw [HHD.out]; unfold bareM; rw [if_neg (by rw [hs2.out]; decide)]; rfl
        show _ = _
        rw [e2]; exact e
      have hkS : Kp [B] w7 ((w7.setCell ⟨B, 9, none⟩ (.int .i64 a)).setCell ⟨B, 10, none⟩ (.int .i64 b)) := (((Kp.refl _ _).setCell (.inl (by simp)) _).setCell (.inl (by simp)) _)
      have HR9 := Lib.hid (hkS.heap HR7.out (by simp; omega))
      have hkw9 : Kp [r] w ((w7.setCell ⟨B, 9, none⟩ (.int .i64 a)).setCell ⟨B, 10, none⟩ (.int .i64 b)) := hkw7.trans' hkS (fun t ht => by simp at ht; subst ht; exact .inr (by omega))
      clear hkS f9 c9 f10 c10
      generalize ((w7.setCell ⟨B, 9, none⟩ (.int .i64 a)).setCell ⟨B, 10, none⟩ (.int .i64 b)) = w9 at *
      have hBb : B < w9.heap.size := lt_of_block HB9.out
      have HB0 := Lib.hid hBb
      refine (places_calls B f (matM f) rfl w9).mono ?_; rintro e w10 ⟨v10, rfl, hpl, hk10⟩
      obtain ⟨p10, rfl⟩ := hpl.form
      have HPT : Hid (PtSt w w10 r v zs B w9.heap.size (.slice p10 (plM (matM f)).length (plM (matM f)).length) (plM (matM f)) (stp zs (argN X) (stp zs (argN X) t2)) (ptCells (bareM (headM zs s))).toList) :=
        ⟨H9.out.kp0 hk10, by have := hk10.heap HB9.out (by simp); simpa using this, hk10.heap HR9.out (by simp), hpl, hkw9.trans0 hk10, hrl, hBw, hBb, hvB, rfl⟩
      have HOKP := Lib.hid (plM_ok (matM f))
      have hln := plM_len (matM f)
      have HLN := Lib.hid hln.2
      have hln := hln.1
      clear hpl hk10 hkw9 hBb H6b H7 H8 H9 HB5b HR5b HB7 HR7 HB9 HR9 HA HA2 hkw7
      generalize hPL : plM (matM f) = PL at *
      have HPL := Lib.hid hPL
      clear hPL
      generalize w9.heap.size = b0 at *
      obtain ⟨L0, hL0⟩ : ∃ L0, (ptCells (bareM (headM zs s))).toList = L0 := ⟨_, rfl⟩
      rw [hL0] at HPT
      have HL0 := Lib.hid hL0
      clear hL0
      generalize ht4 : stp zs (argN X) (stp zs (argN X) t2) = t4 at *
      obtain ⟨N, hN⟩ : ∃ N, PL.length = N := ⟨_, rfl⟩
      have HN := Lib.hid hN
      rw [hN] at hln HPT
      rw [hN]
      clear hN
      go_wp2_with fail
      go_loopw [51] (fun i wr => ∃ j : Nat, j ≤ N ∧ i = .int .i64 j ∧ Hid (PtSt w wr r v zs B b0 (.slice p10 N N) PL (fillM zs (PL.take j) t4 L0).1 (fillM zs (PL.take j) t4 L0).2)) (fun i _ => N - (intOf i).toNat)
      case atStart => exact ⟨0, by omega, rfl, HPT⟩
      case round =>
        obtain ⟨j, hj, rfl, HJ⟩ := hrel
        by_cases hlt : j < N
        · have hw9 : IntKind.i64.wrap ((j : Int) + 1) = (j : Int) + 1 := by rw [IntKind.wrap_i64]; omega
          have hPj : j < PL.length := by rw [HN.out]; exact hlt
          obtain ⟨G, hG, rest⟩ : ∃ G, p10 = some ⟨G, 0, none⟩ ∧ ∀ j, j < PL.length → ∃ g, wr.cell? ⟨G, j, none⟩ = some (.slice (some ⟨g, 0, none⟩) (PL.getD j []).length (PL.getD j []).length) ∧ b0 ≤ g ∧ ∀ i, i < (PL.getD j []).length → wr.cell? ⟨g, i, none⟩ = some (.pointer (some ⟨B, (PL.getD j []).getD i 0, none⟩)) := by
            rcases HJ.out.2.2.2.1 with ⟨e, h0⟩ | ⟨G, e, _, h3⟩
            · rw [h0] at hPj; simp at hPj
            · cases e; exact ⟨G, rfl, h3⟩
          subst hG
          obtain ⟨g1, hc1, hg1, hc2⟩ := rest j hPj
          have HC2 := Lib.hid hc2
          have hok1 := HOKP.out j hPj
          have hn2 := HLN.out j hPj
          have hts : PL.take (j + 1) = PL.take j ++ [PL.getD j []] := take_snoc PL j [] hPj
          have HTS := Lib.hid hts
          have HOK1 := Lib.hid hok1
          generalize PL.getD j [] = pl at *
          clear rest hc2 hts hok1
          have hfs : Hid (fillM zs (PL.take j ++ [pl]) t4 L0 = (stp zs 2 (fillM zs (PL.take j) t4 L0).1, putAll (fillM zs (PL.take j) t4 L0).2 (s16 (val zs 2 (fillM zs (PL.take j) t4 L0).1)) pl)) := fillM_snoc zs (PL.take j) pl t4 L0
          have HFS : Hid (fillM zs (PL.take (j + 1)) t4 L0 = (stp zs 2 (fillM zs (PL.take j) t4 L0).1, putAll (fillM zs (PL.take j) t4 L0).2 (s16 (val zs 2 (fillM zs (PL.take j) t4 L0).1)) pl)) := by rw [HTS.out]; exact hfs.out
          clear hfs HTS
          generalize fillM zs (PL.take j) t4 L0 = FJ at *
          go_wp2_with fail
          refine (i16S HJ.out.1).mono ?_; rintro e w11 ⟨rfl, h11, hk11⟩
          have H11 := Lib.hid (HJ.out.read (s' := stp zs 2 FJ.1) h11 hk11)
          have HC3 : Hid (∀ i, i < pl.length → w11.cell? ⟨g1, i, none⟩ = some (.pointer (some ⟨B, pl.getD i 0, none⟩))) := fun i hi => hk11.cell (HC2.out i hi) (by have := HJ.out.2.2.2.2.2; simp; omega)
          clear h11 hk11 hc1 HJ HC2
          change Hid (fillM zs (PL.take (j + 1)) t4 L0 = (stp zs 2 FJ.1, putAll FJ.2 (s16 (rdV zs FJ.1.1 FJ.1.2 2)) pl)) at HFS
          generalize s16 (rdV zs FJ.1.1 FJ.1.2 2) = x at *
          go_wp2_with fail
          go_loopw [59] (fun i2 wr2 => ∃ m : Nat, m ≤ pl.length ∧ i2 = .int .i64 m ∧ Hid (PtSt w wr2 r v zs B b0 (.slice (some ⟨G, 0, none⟩) N N) PL (stp zs 2 FJ.1) (putAll FJ.2 x (pl.take m)) ∧ Kp [B] w11 wr2)) (fun i2 _ => pl.length - (intOf i2).toNat)
          case atStart => exact ⟨0, by omega, rfl, H11.out, Kp.refl _ _⟩
          case round =>
            obtain ⟨m, hm, rfl, HM⟩ := hrel
            by_cases hmt : m < pl.length
            · have hw8 : IntKind.i64.wrap ((m : Int) + 1) = (m : Int) + 1 := by rw [IntKind.wrap_i64]; omega
              have hcp := HM.out.2.cell (HC3.out m hmt) (by have := HB0.out; simp; omega)
              obtain ⟨⟨u, hcu⟩, hfu⟩ := HM.out.1.cell (pl.getD m 0) (HOK1.out m hmt)
              have HN2 := Lib.hid (HM.out.1.put (pl.getD m 0) x)
              have HK2 : Hid (Kp [B] w11 (wr.setCell ⟨B, pl.getD m 0, none⟩ (.int .i64 x))) := HM.out.2.setCell (.inl (by simp)) _
              have HTM : Hid (putAll FJ.2 x (pl.take (m + 1)) = (putAll FJ.2 x (pl.take m)).set (pl.getD m 0) (.int .i64 x)) := by show _ = _; rw [take_snoc pl m 0 hmt, putAll_snoc]
              generalize pl.getD m 0 = cc at *
              go_wp2_with fail
              go_round
              case rel => exact ⟨m + 1, by omega, by go_num, by rw [HTM.out]; exact HN2.out, HK2.out⟩
              case measure => simp [intOf]; omega
            · obtain rfl : m = pl.length := by omega
              have HE : Hid (PtSt w wr r v zs B b0 (.slice (some ⟨G, 0, none⟩) N N) PL (fillM zs (PL.take (j + 1)) t4 L0).1 (fillM zs (PL.take (j + 1)) t4 L0).2) := by
                rw [HFS.out]; have := HM.out.1; rw [List.take_length] at this; exact this
              clear HM
              go_wp2_with fail
              go_round
              case rel => exact ⟨j + 1, by omega, by go_num, HE⟩
              case measure => simp [intOf]; omega
        · obtain rfl : j = N := by omega
          have HE : Hid (PtSt w wr r v zs B b0 (.slice p10 j j) PL (fillM zs PL t4 L0).1 (fillM zs PL t4 L0).2) := by
            have := HJ.out; rw [← HN.out, List.take_length] at this; rw [HN.out] at this; exact this
          clear HJ HPT
          have HCP : Hid (fillM zs PL t4 L0 = ((partM zs s).2.2.2, (ptCells (partM zs s).1).toList)) := by
            have := cells_part zs s
            unfold cellsM at this
            rw [HHD.out] at this
            rw [← HL0.out, ← HPL.out, HHD.out]; exact this
          rw [HCP.out] at HE
          have HG : Hid ((partM zs s).2.1 = (bits .and .i64 f 32 != 0) ∧ (partM zs s).2.2.1 = (okM (matM f) && !(partM zs s).2.2.2.2)) := by
            have e : (headM zs s).f = f := by rw [HHD.out]
            have hf := partM_flags zs s
            rw [e] at hf
            refine ⟨hf.1.trans ?_, hf.2⟩
            by_cases h0 : bits .and .i64 f 32 = 0 <;> simp [h0]
          clear HCP
          obtain ⟨PM, hPM⟩ : ∃ PM, partM zs s = PM := ⟨_, rfl⟩
          rw [hPM] at HE HG
          have HPM := Lib.hid hPM
          clear hPM
          obtain ⟨q, G1, G2, s9⟩ := PM
          dsimp only at HE HG
          have k0 : wr.cell? ⟨B, 0, none⟩ = some (.int .i64 q.g) := by rw [cell_of_row wr B 0 _ _ _ HE.out.2.1]; rfl
          have k1 : wr.cell? ⟨B, 1, none⟩ = some (.int .i64 q.xx) := by rw [cell_of_row wr B 1 _ _ _ HE.out.2.1]; rfl
          have k2 : wr.cell? ⟨B, 2, none⟩ = some (.int .i64 q.xy) := by rw [cell_of_row wr B 2 _ _ _ HE.out.2.1]; rfl
          have k3 : wr.cell? ⟨B, 3, none⟩ = some (.int .i64 q.yx) := by rw [cell_of_row wr B 3 _ _ _ HE.out.2.1]; rfl
          have k4 : wr.cell? ⟨B, 4, none⟩ = some (.int .i64 q.yy) := by rw [cell_of_row wr B 4 _ _ _ HE.out.2.1]; rfl
          have k5 : wr.cell? ⟨B, 5, none⟩ = some (.bool q.m) := by rw [cell_of_row wr B 5 _ _ _ HE.out.2.1]; rfl
          have k6 : wr.cell? ⟨B, 6, none⟩ = some (.int .i64 q.dx) := by rw [cell_of_row wr B 6 _ _ _ HE.out.2.1]; rfl
          have k7 : wr.cell? ⟨B, 7, none⟩ = some (.int .i64 q.dy) := by rw [cell_of_row wr B 7 _ _ _ HE.out.2.1]; rfl
          have k8 : wr.cell? ⟨B, 8, none⟩ = some (.bool q.t) := by rw [cell_of_row wr B 8 _ _ _ HE.out.2.1]; rfl
          have k9 : wr.cell? ⟨B, 9, none⟩ = some (.int .i64 q.pa) := by rw [cell_of_row wr B 9 _ _ _ HE.out.2.1]; rfl
          have k10 : wr.cell? ⟨B, 10, none⟩ = some (.int .i64 q.ch) := by rw [cell_of_row wr B 10 _ _ _ HE.out.2.1]; rfl
          have z0 : wr.cell? ⟨w.heap.size, 0, none⟩ = some (.int .i64 0) := by rw [cell_of_row wr w.heap.size 0 _ _ _ HE.out.2.2.1]; rfl
          have y0 := frozen_of_row wr w.heap.size 0 _ _ HE.out.2.2.1
          have z1 : wr.cell? ⟨w.heap.size, 1, none⟩ = some (.int .i64 0) := by rw [cell_of_row wr w.heap.size 1 _ _ _ HE.out.2.2.1]; rfl
          have y1 := frozen_of_row wr w.heap.size 1 _ _ HE.out.2.2.1
          have z2 : wr.cell? ⟨w.heap.size, 2, none⟩ = some (.int .i64 0) := by rw [cell_of_row wr w.heap.size 2 _ _ _ HE.out.2.2.1]; rfl
          have y2 := frozen_of_row wr w.heap.size 2 _ _ HE.out.2.2.1
          have z3 : wr.cell? ⟨w.heap.size, 3, none⟩ = some (.int .i64 0) := by rw [cell_of_row wr w.heap.size 3 _ _ _ HE.out.2.2.1]; rfl
          have y3 := frozen_of_row wr w.heap.size 3 _ _ HE.out.2.2.1
          have z4 : wr.cell? ⟨w.heap.size, 4, none⟩ = some (.int .i64 0) := by rw [cell_of_row wr w.heap.size 4 _ _ _ HE.out.2.2.1]; rfl
          have y4 := frozen_of_row wr w.heap.size 4 _ _ HE.out.2.2.1
          have z5 : wr.cell? ⟨w.heap.size, 5, none⟩ = some (.bool false) := by rw [cell_of_row wr w.heap.size 5 _ _ _ HE.out.2.2.1]; rfl
          have y5 := frozen_of_row wr w.heap.size 5 _ _ HE.out.2.2.1
          have z6 : wr.cell? ⟨w.heap.size, 6, none⟩ = some (.int .i64 0) := by rw [cell_of_row wr w.heap.size 6 _ _ _ HE.out.2.2.1]; rfl
          have y6 := frozen_of_row wr w.heap.size 6 _ _ HE.out.2.2.1
          have z7 : wr.cell? ⟨w.heap.size, 7, none⟩ = some (.int .i64 0) := by rw [cell_of_row wr w.heap.size 7 _ _ _ HE.out.2.2.1]; rfl
          have y7 := frozen_of_row wr w.heap.size 7 _ _ HE.out.2.2.1
          have z8 : wr.cell? ⟨w.heap.size, 8, none⟩ = some (.bool false) := by rw [cell_of_row wr w.heap.size 8 _ _ _ HE.out.2.2.1]; rfl
          have y8 := frozen_of_row wr w.heap.size 8 _ _ HE.out.2.2.1
          have z9 : wr.cell? ⟨w.heap.size, 9, none⟩ = some (.int .i64 0) := by rw [cell_of_row wr w.heap.size 9 _ _ _ HE.out.2.2.1]; rfl
          have y9 := frozen_of_row wr w.heap.size 9 _ _ HE.out.2.2.1
          have z10 : wr.cell? ⟨w.heap.size, 10, none⟩ = some (.int .i64 0) := by rw [cell_of_row wr w.heap.size 10 _ _ _ HE.out.2.2.1]; rfl
          have y10 := frozen_of_row wr w.heap.size 10 _ _ HE.out.2.2.1
          have hBw2 : B ≠ w.heap.size := by omega
          have hRd : RdS wr r v zs s9.1 s9.2 := HE.out.1
          cases hok : okM (matM f)
          · have HOK := Lib.hid hok
            clear hok
            go_wp2_with fail
            (first | go_region_with (fail) | fail)
            all_goals
              go_wp2_with fail
              clear k0 k1 k2 k3 k4 k5 k6 k7 k8 k9 k10 z0 z1 z2 z3 z4 z5 z6 z7 z8 z9 z10 y0 y1 y2 y3 y4 y5 y6 y7 y8 y9 y10
              have hHF := put11 w.heap.size q HE.out.2.2.1
              have hKF := kput11 w.heap.size q wr
              generalize (((((((((((wr.setCell ⟨w.heap.size, 0, none⟩ (.int .i64 q.g)).setCell ⟨w.heap.size, 1, none⟩ (.int .i64 q.xx)).setCell ⟨w.heap.size, 2, none⟩ (.int .i64 q.xy)).setCell ⟨w.heap.size, 3, none⟩ (.int .i64 q.yx)).setCell ⟨w.heap.size, 4, none⟩ (.int .i64 q.yy)).setCell ⟨w.heap.size, 5, none⟩ (.bool q.m)).setCell ⟨w.heap.size, 6, none⟩ (.int .i64 q.dx)).setCell ⟨w.heap.size, 7, none⟩ (.int .i64 q.dy)).setCell ⟨w.heap.size, 8, none⟩ (.bool q.t)).setCell ⟨w.heap.size, 9, none⟩ (.int .i64 q.pa)).setCell ⟨w.heap.size, 10, none⟩ (.int .i64 q.ch)).drew = W at *
              have c0 : W.cell? ⟨w.heap.size, 0, none⟩ = some (.int .i64 q.g) := by rw [cell_of_row W w.heap.size 0 _ _ _ hHF]; rfl
              have c1 : W.cell? ⟨w.heap.size, 1, none⟩ = some (.int .i64 q.xx) := by rw [cell_of_row W w.heap.size 1 _ _ _ hHF]; rfl
              have c2 : W.cell? ⟨w.heap.size, 2, none⟩ = some (.int .i64 q.xy) := by rw [cell_of_row W w.heap.size 2 _ _ _ hHF]; rfl
              have c3 : W.cell? ⟨w.heap.size, 3, none⟩ = some (.int .i64 q.yx) := by rw [cell_of_row W w.heap.size 3 _ _ _ hHF]; rfl
              have c4 : W.cell? ⟨w.heap.size, 4, none⟩ = some (.int .i64 q.yy) := by rw [cell_of_row W w.heap.size 4 _ _ _ hHF]; rfl
              have c5 : W.cell? ⟨w.heap.size, 5, none⟩ = some (.bool q.m) := by rw [cell_of_row W w.heap.size 5 _ _ _ hHF]; rfl
              have c6 : W.cell? ⟨w.heap.size, 6, none⟩ = some (.int .i64 q.dx) := by rw [cell_of_row W w.heap.size 6 _ _ _ hHF]; rfl
              have c7 : W.cell? ⟨w.heap.size, 7, none⟩ = some (.int .i64 q.dy) := by rw [cell_of_row W w.heap.size 7 _ _ _ hHF]; rfl
              have c8 : W.cell? ⟨w.heap.size, 8, none⟩ = some (.bool q.t) := by rw [cell_of_row W w.heap.size 8 _ _ _ hHF]; rfl
              have c9 : W.cell? ⟨w.heap.size, 9, none⟩ = some (.int .i64 q.pa) := by rw [cell_of_row W w.heap.size 9 _ _ _ hHF]; rfl
              have c10 : W.cell? ⟨w.heap.size, 10, none⟩ = some (.int .i64 q.ch) := by rw [cell_of_row W w.heap.size 10 _ _ _ hHF]; rfl
              refine bodyPost_ret (v := .tuple #[.agg #[.int .i64 q.g, .int .i64 q.xx, .int .i64 q.xy, .int .i64 q.yx, .int .i64 q.yy, .bool q.m, .int .i64 q.dx, .int .i64 q.dy, .bool q.t, .int .i64 q.pa, .int .i64 q.ch], .bool (bits .and .i64 f 32 != 0), .bool false]) (by simp [results, Tryz.results77, go_sem, c0, c1, c2, c3, c4, c5, c6, c7, c8, c9, c10]) rfl ⟨by rw [HPM.out, HG.out.1, HG.out.2, HOK.out]; rfl, ?_, ?_⟩
              · rw [HPM.out]; exact hRd.kp hKF (by simp; omega) (by simp; exact fun e => by have := HVB.out _ e; omega)
              · exact HE.out.2.2.2.2.1.trans' hKF (fun t ht => by simp at ht; subst ht; exact .inr (by omega))
          · have HOK := Lib.hid hok
            clear hok
            obtain ⟨kk9, bb9⟩ := s9
            dsimp only at hRd HG HE
            cases bb9
            · go_wp2_with fail
              go_region_with (go_at_call 58; refine (doneS (hRd.kp (S := [w.heap.size]) (by (repeat (first | exact Kp.refl _ _ | assumption | refine Kp.drew ?_ | refine Kp.drewN ?_ _ | refine Kp.alloc ?_ _ | (refine Kp.setCell ?_ (by first | (left; simp; done) | (right; simp; try omega)) _) | (refine Kp.trans' ?_ (by assumption) (by simp; try omega))))) (by simp; omega) (by simp; exact fun e => by have := HVB.out _ e; omega))).mono ?_; rintro e w' ⟨rfl, rfl⟩)
              all_goals
                go_wp2_with fail
                clear k0 k1 k2 k3 k4 k5 k6 k7 k8 k9 k10 z0 z1 z2 z3 z4 z5 z6 z7 z8 z9 z10 y0 y1 y2 y3 y4 y5 y6 y7 y8 y9 y10
                have hHF := put11 w.heap.size q HE.out.2.2.1
                have hKF := kput11 w.heap.size q wr
                generalize (((((((((((wr.setCell ⟨w.heap.size, 0, none⟩ (.int .i64 q.g)).setCell ⟨w.heap.size, 1, none⟩ (.int .i64 q.xx)).setCell ⟨w.heap.size, 2, none⟩ (.int .i64 q.xy)).setCell ⟨w.heap.size, 3, none⟩ (.int .i64 q.yx)).setCell ⟨w.heap.size, 4, none⟩ (.int .i64 q.yy)).setCell ⟨w.heap.size, 5, none⟩ (.bool q.m)).setCell ⟨w.heap.size, 6, none⟩ (.int .i64 q.dx)).setCell ⟨w.heap.size, 7, none⟩ (.int .i64 q.dy)).setCell ⟨w.heap.size, 8, none⟩ (.bool q.t)).setCell ⟨w.heap.size, 9, none⟩ (.int .i64 q.pa)).setCell ⟨w.heap.size, 10, none⟩ (.int .i64 q.ch)).drew = W at *
                have c0 : W.cell? ⟨w.heap.size, 0, none⟩ = some (.int .i64 q.g) := by rw [cell_of_row W w.heap.size 0 _ _ _ hHF]; rfl
                have c1 : W.cell? ⟨w.heap.size, 1, none⟩ = some (.int .i64 q.xx) := by rw [cell_of_row W w.heap.size 1 _ _ _ hHF]; rfl
                have c2 : W.cell? ⟨w.heap.size, 2, none⟩ = some (.int .i64 q.xy) := by rw [cell_of_row W w.heap.size 2 _ _ _ hHF]; rfl
                have c3 : W.cell? ⟨w.heap.size, 3, none⟩ = some (.int .i64 q.yx) := by rw [cell_of_row W w.heap.size 3 _ _ _ hHF]; rfl
                have c4 : W.cell? ⟨w.heap.size, 4, none⟩ = some (.int .i64 q.yy) := by rw [cell_of_row W w.heap.size 4 _ _ _ hHF]; rfl
                have c5 : W.cell? ⟨w.heap.size, 5, none⟩ = some (.bool q.m) := by rw [cell_of_row W w.heap.size 5 _ _ _ hHF]; rfl
                have c6 : W.cell? ⟨w.heap.size, 6, none⟩ = some (.int .i64 q.dx) := by rw [cell_of_row W w.heap.size 6 _ _ _ hHF]; rfl
                have c7 : W.cell? ⟨w.heap.size, 7, none⟩ = some (.int .i64 q.dy) := by rw [cell_of_row W w.heap.size 7 _ _ _ hHF]; rfl
                have c8 : W.cell? ⟨w.heap.size, 8, none⟩ = some (.bool q.t) := by rw [cell_of_row W w.heap.size 8 _ _ _ hHF]; rfl
                have c9 : W.cell? ⟨w.heap.size, 9, none⟩ = some (.int .i64 q.pa) := by rw [cell_of_row W w.heap.size 9 _ _ _ hHF]; rfl
                have c10 : W.cell? ⟨w.heap.size, 10, none⟩ = some (.int .i64 q.ch) := by rw [cell_of_row W w.heap.size 10 _ _ _ hHF]; rfl
                refine bodyPost_ret (v := .tuple #[.agg #[.int .i64 q.g, .int .i64 q.xx, .int .i64 q.xy, .int .i64 q.yx, .int .i64 q.yy, .bool q.m, .int .i64 q.dx, .int .i64 q.dy, .bool q.t, .int .i64 q.pa, .int .i64 q.ch], .bool (bits .and .i64 f 32 != 0), .bool true]) (by simp [results, Tryz.results77, go_sem, c0, c1, c2, c3, c4, c5, c6, c7, c8, c9, c10]) rfl ⟨by rw [HPM.out, HG.out.1, HG.out.2, HOK.out]; rfl, ?_, ?_⟩
                · rw [HPM.out]; exact hRd.kp hKF (by simp; omega) (by simp; exact fun e => by have := HVB.out _ e; omega)
                · exact HE.out.2.2.2.2.1.trans' hKF (fun t ht => by simp at ht; subst ht; exact .inr (by omega))
            · go_wp2_with fail
              go_region_with (go_at_call 58; refine (doneS (hRd.kp (S := [w.heap.size]) (by (repeat (first | exact Kp.refl _ _ | assumption | refine Kp.drew ?_ | refine Kp.drewN ?_ _ | refine Kp.alloc ?_ _ | (refine Kp.setCell ?_ (by first | (left; simp; done) | (right; simp; try omega)) _) | (refine Kp.trans' ?_ (by assumption) (by simp; try omega))))) (by simp; omega) (by simp; exact fun e => by have := HVB.out _ e; omega))).mono ?_; rintro e w' ⟨rfl, rfl⟩)
              all_goals
                go_wp2_with fail
                clear k0 k1 k2 k3 k4 k5 k6 k7 k8 k9 k10 z0 z1 z2 z3 z4 z5 z6 z7 z8 z9 z10 y0 y1 y2 y3 y4 y5 y6 y7 y8 y9 y10
                have hHF := put11 w.heap.size q HE.out.2.2.1
                have hKF := kput11 w.heap.size q wr
                generalize (((((((((((wr.setCell ⟨w.heap.size, 0, none⟩ (.int .i64 q.g)).setCell ⟨w.heap.size, 1, none⟩ (.int .i64 q.xx)).setCell ⟨w.heap.size, 2, none⟩ (.int .i64 q.xy)).setCell ⟨w.heap.size, 3, none⟩ (.int .i64 q.yx)).setCell ⟨w.heap.size, 4, none⟩ (.int .i64 q.yy)).setCell ⟨w.heap.size, 5, none⟩ (.bool q.m)).setCell ⟨w.heap.size, 6, none⟩ (.int .i64 q.dx)).setCell ⟨w.heap.size, 7, none⟩ (.int .i64 q.dy)).setCell ⟨w.heap.size, 8, none⟩ (.bool q.t)).setCell ⟨w.heap.size, 9, none⟩ (.int .i64 q.pa)).setCell ⟨w.heap.size, 10, none⟩ (.int .i64 q.ch)).drew = W at *
                have c0 : W.cell? ⟨w.heap.size, 0, none⟩ = some (.int .i64 q.g) := by rw [cell_of_row W w.heap.size 0 _ _ _ hHF]; rfl
                have c1 : W.cell? ⟨w.heap.size, 1, none⟩ = some (.int .i64 q.xx) := by rw [cell_of_row W w.heap.size 1 _ _ _ hHF]; rfl
                have c2 : W.cell? ⟨w.heap.size, 2, none⟩ = some (.int .i64 q.xy) := by rw [cell_of_row W w.heap.size 2 _ _ _ hHF]; rfl
                have c3 : W.cell? ⟨w.heap.size, 3, none⟩ = some (.int .i64 q.yx) := by rw [cell_of_row W w.heap.size 3 _ _ _ hHF]; rfl
                have c4 : W.cell? ⟨w.heap.size, 4, none⟩ = some (.int .i64 q.yy) := by rw [cell_of_row W w.heap.size 4 _ _ _ hHF]; rfl
                have c5 : W.cell? ⟨w.heap.size, 5, none⟩ = some (.bool q.m) := by rw [cell_of_row W w.heap.size 5 _ _ _ hHF]; rfl
                have c6 : W.cell? ⟨w.heap.size, 6, none⟩ = some (.int .i64 q.dx) := by rw [cell_of_row W w.heap.size 6 _ _ _ hHF]; rfl
                have c7 : W.cell? ⟨w.heap.size, 7, none⟩ = some (.int .i64 q.dy) := by rw [cell_of_row W w.heap.size 7 _ _ _ hHF]; rfl
                have c8 : W.cell? ⟨w.heap.size, 8, none⟩ = some (.bool q.t) := by rw [cell_of_row W w.heap.size 8 _ _ _ hHF]; rfl
                have c9 : W.cell? ⟨w.heap.size, 9, none⟩ = some (.int .i64 q.pa) := by rw [cell_of_row W w.heap.size 9 _ _ _ hHF]; rfl
                have c10 : W.cell? ⟨w.heap.size, 10, none⟩ = some (.int .i64 q.ch) := by rw [cell_of_row W w.heap.size 10 _ _ _ hHF]; rfl
                refine bodyPost_ret (v := .tuple #[.agg #[.int .i64 q.g, .int .i64 q.xx, .int .i64 q.xy, .int .i64 q.yx, .int .i64 q.yy, .bool q.m, .int .i64 q.dx, .int .i64 q.dy, .bool q.t, .int .i64 q.pa, .int .i64 q.ch], .bool (bits .and .i64 f 32 != 0), .bool false]) (by simp [results, Tryz.results77, go_sem, c0, c1, c2, c3, c4, c5, c6, c7, c8, c9, c10]) rfl ⟨by rw [HPM.out, HG.out.1, HG.out.2, HOK.out]; rfl, ?_, ?_⟩
                · rw [HPM.out]; exact hRd.kp hKF (by simp; omega) (by simp; exact fun e => by have := HVB.out _ e; omega)
                · exact HE.out.2.2.2.2.1.trans' hKF (fun t ht => by simp at ht; subst ht; exact .inr (by omega))
    · have hs : (bits .and .i64 f 2 != 0) = true := by simpa using hS
      have hs2 : Hid (stepB f = true) := by show _ = _; unfold stepB; exact decide_eq_true hS
      clear hS
      have H6b := H6; have HB5b := HB5; have HR5b := HR5; have hkw5b := hkw5
      have HRDb : Hid (∀ (W : World) (t : Rs), Kp [r] w5 W → RdS W r v zs t.1 t.2 → Calls Tryz.prog K #[PP] W fun e w' => e = .returned (.int .i64 (argV X (val zs (argN X) t))) ∧ RdS w' r v zs (stp zs (argN X) t).1 (stp zs (argN X) t).2 ∧ Kp [r] W w') := fun W t hk => HRD.out W t (hk.more (fun s hs => .inl (by simp at hs; simp [hs])))
      clear hk5 hkw5 H6 HB5 HR5 HRD
      go_wp2_with fail
      refine (HRDb.out _ t2 (Kp.refl _ _) H6b.out).mono ?_; rintro e w6 ⟨rfl, h6, hk6⟩
      rw [HA.out]
      have H7 := Lib.hid h6
      clear h6
      go_wp2_with fail
      refine (HRDb.out w6 (stp zs (argN X) t2) hk6 H7.out).mono ?_; rintro e w7 ⟨rfl, h8, hk7⟩
      rw [HA2.out]
      have H8 := Lib.hid h8
      clear h8
      have hkw7 : Kp [r] w w7 := (hkw5b.trans hk6).trans hk7
      have HB7 := Lib.hid (hk7.heap (hk6.heap HB5b.out (by simpa using hBr)) (by simpa using hBr))
      have HR7 := Lib.hid (hk7.heap (hk6.heap HR5b.out (by simp; omega)) (by simp; omega))
      clear hk6 hk7 hkw5b
      have c6 := cell_of_row w7 B 6 _ _ _ HB7.out
      have f6 := frozen_of_row w7 B 6 _ _ HB7.out
      have c7 := cell_of_row w7 B 7 _ _ _ HB7.out
      have f7 := frozen_of_row w7 B 7 _ _ HB7.out
      have c8 := cell_of_row w7 B 8 _ _ _ HB7.out
      have f8 := frozen_of_row w7 B 8 _ _ HB7.out
      simp only [List.getElem?_toArray, List.getElem?_cons_succ, List.getElem?_cons_zero, List.setIfInBounds_toArray, List.set_cons_succ, List.set_cons_zero] at c6 c7 c8
      go_wp2_with fail
      have hvB : blockOf v ≠ some B := fun e => by have := HVB.out B e; omega
      have H9 := Lib.hid (((H8.out.setB (j := 6) hBr hvB (.int .i64 a)).setB (j := 7) hBr hvB (.int .i64 b)).setB (j := 8) hBr hvB (.bool (bits .and .i64 f 6144 == 2048)))
      have HB9 : Hid ((((w7.setCell ⟨B, 6, none⟩ (.int .i64 a)).setCell ⟨B, 7, none⟩ (.int .i64 b)).setCell ⟨B, 8, none⟩ (.bool (bits .and .i64 f 6144 == 2048))).heap[B]? = some (.cells (ptCells (bareM (headM zs s))) 34 (0, 0))) := by
        have e := (heap_setCell_same ((w7.setCell ⟨B, 6, none⟩ (.int .i64 a)).setCell ⟨B, 7, none⟩ (.int .i64 b)) B 8 _ _ (.bool (bits .and .i64 f 6144 == 2048)) (heap_setCell_same (w7.setCell ⟨B, 6, none⟩ (.int .i64 a)) B 7 _ _ (.int .i64 b) (heap_setCell_same w7 B 6 _ _ (.int .i64 a) HB7.out)))
        have e2 : ptCells (bareM (headM zs s)) = #[.int .i64 g, .int .i64 16384, .int .i64 0, .int .i64 0, .int .i64 16384, .bool false, .int .i64 a, .int .i64 b, .bool (turnB f), .int .i64 0, .int .i64 0] := by
          rw [HHD.out]; unfold bareM; rw [if_pos hs2.out]; rfl
        show _ = _
        rw [e2]; exact e
      have hkS : Kp [B] w7 (((w7.setCell ⟨B, 6, none⟩ (.int .i64 a)).setCell ⟨B, 7, none⟩ (.int .i64 b)).setCell ⟨B, 8, none⟩ (.bool (bits .and .i64 f 6144 == 2048))) := ((((Kp.refl _ _).setCell (.inl (by simp)) _).setCell (.inl (by simp)) _).setCell (.inl (by simp)) _)
      have HR9 := Lib.hid (hkS.heap HR7.out (by simp; omega))
      have hkw9 : Kp [r] w (((w7.setCell ⟨B, 6, none⟩ (.int .i64 a)).setCell ⟨B, 7, none⟩ (.int .i64 b)).setCell ⟨B, 8, none⟩ (.bool (bits .and .i64 f 6144 == 2048))) := hkw7.trans' hkS (fun t ht => by simp at ht; subst ht; exact .inr (by omega))
      clear hkS f6 c6 f7 c7 f8 c8
      generalize (((w7.setCell ⟨B, 6, none⟩ (.int .i64 a)).setCell ⟨B, 7, none⟩ (.int .i64 b)).setCell ⟨B, 8, none⟩ (.bool (bits .and .i64 f 6144 == 2048))) = w9 at *
      have hBb : B < w9.heap.size := lt_of_block HB9.out
      have HB0 := Lib.hid hBb
      refine (places_calls B f (matM f) rfl w9).mono ?_; rintro e w10 ⟨v10, rfl, hpl, hk10⟩
      obtain ⟨p10, rfl⟩ := hpl.form
      have HPT : Hid (PtSt w w10 r v zs B w9.heap.size (.slice p10 (plM (matM f)).length (plM (matM f)).length) (plM (matM f)) (stp zs (argN X) (stp zs (argN X) t2)) (ptCells (bareM (headM zs s))).toList) :=
        ⟨H9.out.kp0 hk10, by have := hk10.heap HB9.out (by simp); simpa using this, hk10.heap HR9.out (by simp), hpl, hkw9.trans0 hk10, hrl, hBw, hBb, hvB, rfl⟩
      have HOKP := Lib.hid (plM_ok (matM f))
      have hln := plM_len (matM f)
      have HLN := Lib.hid hln.2
      have hln := hln.1
      clear hpl hk10 hkw9 hBb H6b H7 H8 H9 HB5b HR5b HB7 HR7 HB9 HR9 HA HA2 hkw7
      generalize hPL : plM (matM f) = PL at *
      have HPL := Lib.hid hPL
      clear hPL
      generalize w9.heap.size = b0 at *
      obtain ⟨L0, hL0⟩ : ∃ L0, (ptCells (bareM (headM zs s))).toList = L0 := ⟨_, rfl⟩
      rw [hL0] at HPT
      have HL0 := Lib.hid hL0
      clear hL0
      generalize ht4 : stp zs (argN X) (stp zs (argN X) t2) = t4 at *
      obtain ⟨N, hN⟩ : ∃ N, PL.length = N := ⟨_, rfl⟩
      have HN := Lib.hid hN
      rw [hN] at hln HPT
      rw [hN]
      clear hN
      go_wp2_with fail
      go_loopw [51] (fun i wr => ∃ j : Nat, j ≤ N ∧ i = .int .i64 j ∧ Hid (PtSt w wr r v zs B b0 (.slice p10 N N) PL (fillM zs (PL.take j) t4 L0).1 (fillM zs (PL.take j) t4 L0).2)) (fun i _ => N - (intOf i).toNat)
      case atStart => exact ⟨0, by omega, rfl, HPT⟩
      case round =>
        obtain ⟨j, hj, rfl, HJ⟩ := hrel
        by_cases hlt : j < N
        · have hw9 : IntKind.i64.wrap ((j : Int) + 1) = (j : Int) + 1 := by rw [IntKind.wrap_i64]; omega
          have hPj : j < PL.length := by rw [HN.out]; exact hlt
          obtain ⟨G, hG, rest⟩ : ∃ G, p10 = some ⟨G, 0, none⟩ ∧ ∀ j, j < PL.length → ∃ g, wr.cell? ⟨G, j, none⟩ = some (.slice (some ⟨g, 0, none⟩) (PL.getD j []).length (PL.getD j []).length) ∧ b0 ≤ g ∧ ∀ i, i < (PL.getD j []).length → wr.cell? ⟨g, i, none⟩ = some (.pointer (some ⟨B, (PL.getD j []).getD i 0, none⟩)) := by
            rcases HJ.out.2.2.2.1 with ⟨e, h0⟩ | ⟨G, e, _, h3⟩
            · rw [h0] at hPj; simp at hPj
            · cases e; exact ⟨G, rfl, h3⟩
          subst hG
          obtain ⟨g1, hc1, hg1, hc2⟩ := rest j hPj
          have HC2 := Lib.hid hc2
          have hok1 := HOKP.out j hPj
          have hn2 := HLN.out j hPj
          have hts : PL.take (j + 1) = PL.take j ++ [PL.getD j []] := take_snoc PL j [] hPj
          have HTS := Lib.hid hts
          have HOK1 := Lib.hid hok1
          generalize PL.getD j [] = pl at *
          clear rest hc2 hts hok1
          have hfs : Hid (fillM zs (PL.take j ++ [pl]) t4 L0 = (stp zs 2 (fillM zs (PL.take j) t4 L0).1, putAll (fillM zs (PL.take j) t4 L0).2 (s16 (val zs 2 (fillM zs (PL.take j) t4 L0).1)) pl)) := fillM_snoc zs (PL.take j) pl t4 L0
          have HFS : Hid (fillM zs (PL.take (j + 1)) t4 L0 = (stp zs 2 (fillM zs (PL.take j) t4 L0).1, putAll (fillM zs (PL.take j) t4 L0).2 (s16 (val zs 2 (fillM zs (PL.take j) t4 L0).1)) pl)) := by rw [HTS.out]; exact hfs.out
          clear hfs HTS
          generalize fillM zs (PL.take j) t4 L0 = FJ at *
          go_wp2_with fail
          refine (i16S HJ.out.1).mono ?_; rintro e w11 ⟨rfl, h11, hk11⟩
          have H11 := Lib.hid (HJ.out.read (s' := stp zs 2 FJ.1) h11 hk11)
          have HC3 : Hid (∀ i, i < pl.length → w11.cell? ⟨g1, i, none⟩ = some (.pointer (some ⟨B, pl.getD i 0, none⟩))) := fun i hi => hk11.cell (HC2.out i hi) (by have := HJ.out.2.2.2.2.2; simp; omega)
          clear h11 hk11 hc1 HJ HC2
          change Hid (fillM zs (PL.take (j + 1)) t4 L0 = (stp zs 2 FJ.1, putAll FJ.2 (s16 (rdV zs FJ.1.1 FJ.1.2 2)) pl)) at HFS
          generalize s16 (rdV zs FJ.1.1 FJ.1.2 2) = x at *
          go_wp2_with fail
          go_loopw [59] (fun i2 wr2 => ∃ m : Nat, m ≤ pl.length ∧ i2 = .int .i64 m ∧ Hid (PtSt w wr2 r v zs B b0 (.slice (some ⟨G, 0, none⟩) N N) PL (stp zs 2 FJ.1) (putAll FJ.2 x (pl.take m)) ∧ Kp [B] w11 wr2)) (fun i2 _ => pl.length - (intOf i2).toNat)
          case atStart => exact ⟨0, by omega, rfl, H11.out, Kp.refl _ _⟩
          case round =>
            obtain ⟨m, hm, rfl, HM⟩ := hrel
            by_cases hmt : m < pl.length
            · have hw8 : IntKind.i64.wrap ((m : Int) + 1) = (m : Int) + 1 := by rw [IntKind.wrap_i64]; omega
              have hcp := HM.out.2.cell (HC3.out m hmt) (by have := HB0.out; simp; omega)
              obtain ⟨⟨u, hcu⟩, hfu⟩ := HM.out.1.cell (pl.getD m 0) (HOK1.out m hmt)
              have HN2 := Lib.hid (HM.out.1.put (pl.getD m 0) x)
              have HK2 : Hid (Kp [B] w11 (wr.setCell ⟨B, pl.getD m 0, none⟩ (.int .i64 x))) := HM.out.2.setCell (.inl (by simp)) _
              have HTM : Hid (putAll FJ.2 x (pl.take (m + 1)) = (putAll FJ.2 x (pl.take m)).set (pl.getD m 0) (.int .i64 x)) := by show _ = _; rw [take_snoc pl m 0 hmt, putAll_snoc]
              generalize pl.getD m 0 = cc at *
              go_wp2_with fail
              go_round
              case rel => exact ⟨m + 1, by omega, by go_num, by rw [HTM.out]; exact HN2.out, HK2.out⟩
              case measure => simp [intOf]; omega
            · obtain rfl : m = pl.length := by omega
              have HE : Hid (PtSt w wr r v zs B b0 (.slice (some ⟨G, 0, none⟩) N N) PL (fillM zs (PL.take (j + 1)) t4 L0).1 (fillM zs (PL.take (j + 1)) t4 L0).2) := by
                rw [HFS.out]; have := HM.out.1; rw [List.take_length] at this; exact this
              clear HM
              go_wp2_with fail
              go_round
              case rel => exact ⟨j + 1, by omega, by go_num, HE⟩
              case measure => simp [intOf]; omega
        · obtain rfl : j = N := by omega
          have HE : Hid (PtSt w wr r v zs B b0 (.slice p10 j j) PL (fillM zs PL t4 L0).1 (fillM zs PL t4 L0).2) := by
            have := HJ.out; rw [← HN.out, List.take_length] at this; rw [HN.out] at this; exact this
          clear HJ HPT
          have HCP : Hid (fillM zs PL t4 L0 = ((partM zs s).2.2.2, (ptCells (partM zs s).1).toList)) := by
            have := cells_part zs s
            unfold cellsM at this
            rw [HHD.out] at this
            rw [← HL0.out, ← HPL.out, HHD.out]; exact this
          rw [HCP.out] at HE
          have HG : Hid ((partM zs s).2.1 = (bits .and .i64 f 32 != 0) ∧ (partM zs s).2.2.1 = (okM (matM f) && !(partM zs s).2.2.2.2)) := by
            have e : (headM zs s).f = f := by rw [HHD.out]
            have hf := partM_flags zs s
            rw [e] at hf
            refine ⟨hf.1.trans ?_, hf.2⟩
            by_cases h0 : bits .and .i64 f 32 = 0 <;> simp [h0]
          clear HCP
          obtain ⟨PM, hPM⟩ : ∃ PM, partM zs s = PM := ⟨_, rfl⟩
          rw [hPM] at HE HG
          have HPM := Lib.hid hPM
          clear hPM
          obtain ⟨q, G1, G2, s9⟩ := PM
          dsimp only at HE HG
          have k0 : wr.cell? ⟨B, 0, none⟩ = some (.int .i64 q.g) := by rw [cell_of_row wr B 0 _ _ _ HE.out.2.1]; rfl
          have k1 : wr.cell? ⟨B, 1, none⟩ = some (.int .i64 q.xx) := by rw [cell_of_row wr B 1 _ _ _ HE.out.2.1]; rfl
          have k2 : wr.cell? ⟨B, 2, none⟩ = some (.int .i64 q.xy) := by rw [cell_of_row wr B 2 _ _ _ HE.out.2.1]; rfl
          have k3 : wr.cell? ⟨B, 3, none⟩ = some (.int .i64 q.yx) := by rw [cell_of_row wr B 3 _ _ _ HE.out.2.1]; rfl
          have k4 : wr.cell? ⟨B, 4, none⟩ = some (.int .i64 q.yy) := by rw [cell_of_row wr B 4 _ _ _ HE.out.2.1]; rfl
          have k5 : wr.cell? ⟨B, 5, none⟩ = some (.bool q.m) := by rw [cell_of_row wr B 5 _ _ _ HE.out.2.1]; rfl
          have k6 : wr.cell? ⟨B, 6, none⟩ = some (.int .i64 q.dx) := by rw [cell_of_row wr B 6 _ _ _ HE.out.2.1]; rfl
          have k7 : wr.cell? ⟨B, 7, none⟩ = some (.int .i64 q.dy) := by rw [cell_of_row wr B 7 _ _ _ HE.out.2.1]; rfl
          have k8 : wr.cell? ⟨B, 8, none⟩ = some (.bool q.t) := by rw [cell_of_row wr B 8 _ _ _ HE.out.2.1]; rfl
          have k9 : wr.cell? ⟨B, 9, none⟩ = some (.int .i64 q.pa) := by rw [cell_of_row wr B 9 _ _ _ HE.out.2.1]; rfl
          have k10 : wr.cell? ⟨B, 10, none⟩ = some (.int .i64 q.ch) := by rw [cell_of_row wr B 10 _ _ _ HE.out.2.1]; rfl
          have z0 : wr.cell? ⟨w.heap.size, 0, none⟩ = some (.int .i64 0) := by rw [cell_of_row wr w.heap.size 0 _ _ _ HE.out.2.2.1]; rfl
          have y0 := frozen_of_row wr w.heap.size 0 _ _ HE.out.2.2.1
          have z1 : wr.cell? ⟨w.heap.size, 1, none⟩ = some (.int .i64 0) := by rw [cell_of_row wr w.heap.size 1 _ _ _ HE.out.2.2.1]; rfl
          have y1 := frozen_of_row wr w.heap.size 1 _ _ HE.out.2.2.1
          have z2 : wr.cell? ⟨w.heap.size, 2, none⟩ = some (.int .i64 0) := by rw [cell_of_row wr w.heap.size 2 _ _ _ HE.out.2.2.1]; rfl
          have y2 := frozen_of_row wr w.heap.size 2 _ _ HE.out.2.2.1
          have z3 : wr.cell? ⟨w.heap.size, 3, none⟩ = some (.int .i64 0) := by rw [cell_of_row wr w.heap.size 3 _ _ _ HE.out.2.2.1]; rfl
          have y3 := frozen_of_row wr w.heap.size 3 _ _ HE.out.2.2.1
          have z4 : wr.cell? ⟨w.heap.size, 4, none⟩ = some (.int .i64 0) := by rw [cell_of_row wr w.heap.size 4 _ _ _ HE.out.2.2.1]; rfl
          have y4 := frozen_of_row wr w.heap.size 4 _ _ HE.out.2.2.1
          have z5 : wr.cell? ⟨w.heap.size, 5, none⟩ = some (.bool false) := by rw [cell_of_row wr w.heap.size 5 _ _ _ HE.out.2.2.1]; rfl
          have y5 := frozen_of_row wr w.heap.size 5 _ _ HE.out.2.2.1
          have z6 : wr.cell? ⟨w.heap.size, 6, none⟩ = some (.int .i64 0) := by rw [cell_of_row wr w.heap.size 6 _ _ _ HE.out.2.2.1]; rfl
          have y6 := frozen_of_row wr w.heap.size 6 _ _ HE.out.2.2.1
          have z7 : wr.cell? ⟨w.heap.size, 7, none⟩ = some (.int .i64 0) := by rw [cell_of_row wr w.heap.size 7 _ _ _ HE.out.2.2.1]; rfl
          have y7 := frozen_of_row wr w.heap.size 7 _ _ HE.out.2.2.1
          have z8 : wr.cell? ⟨w.heap.size, 8, none⟩ = some (.bool false) := by rw [cell_of_row wr w.heap.size 8 _ _ _ HE.out.2.2.1]; rfl
          have y8 := frozen_of_row wr w.heap.size 8 _ _ HE.out.2.2.1
          have z9 : wr.cell? ⟨w.heap.size, 9, none⟩ = some (.int .i64 0) := by rw [cell_of_row wr w.heap.size 9 _ _ _ HE.out.2.2.1]; rfl
          have y9 := frozen_of_row wr w.heap.size 9 _ _ HE.out.2.2.1
          have z10 : wr.cell? ⟨w.heap.size, 10, none⟩ = some (.int .i64 0) := by rw [cell_of_row wr w.heap.size 10 _ _ _ HE.out.2.2.1]; rfl
          have y10 := frozen_of_row wr w.heap.size 10 _ _ HE.out.2.2.1
          have hBw2 : B ≠ w.heap.size := by omega
          have hRd : RdS wr r v zs s9.1 s9.2 := HE.out.1
          cases hok : okM (matM f)
          · have HOK := Lib.hid hok
            clear hok
            go_wp2_with fail
            (first | go_region_with (fail) | fail)
            all_goals
              go_wp2_with fail
              clear k0 k1 k2 k3 k4 k5 k6 k7 k8 k9 k10 z0 z1 z2 z3 z4 z5 z6 z7 z8 z9 z10 y0 y1 y2 y3 y4 y5 y6 y7 y8 y9 y10
              have hHF := put11 w.heap.size q HE.out.2.2.1
              have hKF := kput11 w.heap.size q wr
              generalize (((((((((((wr.setCell ⟨w.heap.size, 0, none⟩ (.int .i64 q.g)).setCell ⟨w.heap.size, 1, none⟩ (.int .i64 q.xx)).setCell ⟨w.heap.size, 2, none⟩ (.int .i64 q.xy)).setCell ⟨w.heap.size, 3, none⟩ (.int .i64 q.yx)).setCell ⟨w.heap.size, 4, none⟩ (.int .i64 q.yy)).setCell ⟨w.heap.size, 5, none⟩ (.bool q.m)).setCell ⟨w.heap.size, 6, none⟩ (.int .i64 q.dx)).setCell ⟨w.heap.size, 7, none⟩ (.int .i64 q.dy)).setCell ⟨w.heap.size, 8, none⟩ (.bool q.t)).setCell ⟨w.heap.size, 9, none⟩ (.int .i64 q.pa)).setCell ⟨w.heap.size, 10, none⟩ (.int .i64 q.ch)).drew = W at *
              have c0 : W.cell? ⟨w.heap.size, 0, none⟩ = some (.int .i64 q.g) := by rw [cell_of_row W w.heap.size 0 _ _ _ hHF]; rfl
              have c1 : W.cell? ⟨w.heap.size, 1, none⟩ = some (.int .i64 q.xx) := by rw [cell_of_row W w.heap.size 1 _ _ _ hHF]; rfl
              have c2 : W.cell? ⟨w.heap.size, 2, none⟩ = some (.int .i64 q.xy) := by rw [cell_of_row W w.heap.size 2 _ _ _ hHF]; rfl
              have c3 : W.cell? ⟨w.heap.size, 3, none⟩ = some (.int .i64 q.yx) := by rw [cell_of_row W w.heap.size 3 _ _ _ hHF]; rfl
              have c4 : W.cell? ⟨w.heap.size, 4, none⟩ = some (.int .i64 q.yy) := by rw [cell_of_row W w.heap.size 4 _ _ _ hHF]; rfl
              have c5 : W.cell? ⟨w.heap.size, 5, none⟩ = some (.bool q.m) := by rw [cell_of_row W w.heap.size 5 _ _ _ hHF]; rfl
              have c6 : W.cell? ⟨w.heap.size, 6, none⟩ = some (.int .i64 q.dx) := by rw [cell_of_row W w.heap.size 6 _ _ _ hHF]; rfl
              have c7 : W.cell? ⟨w.heap.size, 7, none⟩ = some (.int .i64 q.dy) := by rw [cell_of_row W w.heap.size 7 _ _ _ hHF]; rfl
              have c8 : W.cell? ⟨w.heap.size, 8, none⟩ = some (.bool q.t) := by rw [cell_of_row W w.heap.size 8 _ _ _ hHF]; rfl
              have c9 : W.cell? ⟨w.heap.size, 9, none⟩ = some (.int .i64 q.pa) := by rw [cell_of_row W w.heap.size 9 _ _ _ hHF]; rfl
              have c10 : W.cell? ⟨w.heap.size, 10, none⟩ = some (.int .i64 q.ch) := by rw [cell_of_row W w.heap.size 10 _ _ _ hHF]; rfl
              refine bodyPost_ret (v := .tuple #[.agg #[.int .i64 q.g, .int .i64 q.xx, .int .i64 q.xy, .int .i64 q.yx, .int .i64 q.yy, .bool q.m, .int .i64 q.dx, .int .i64 q.dy, .bool q.t, .int .i64 q.pa, .int .i64 q.ch], .bool (bits .and .i64 f 32 != 0), .bool false]) (by simp [results, Tryz.results77, go_sem, c0, c1, c2, c3, c4, c5, c6, c7, c8, c9, c10]) rfl ⟨by rw [HPM.out, HG.out.1, HG.out.2, HOK.out]; rfl, ?_, ?_⟩
              · rw [HPM.out]; exact hRd.kp hKF (by simp; omega) (by simp; exact fun e => by have := HVB.out _ e; omega)
              · exact HE.out.2.2.2.2.1.trans' hKF (fun t ht => by simp at ht; subst ht; exact .inr (by omega))
          · have HOK := Lib.hid hok
            clear hok
            obtain ⟨kk9, bb9⟩ := s9
            dsimp only at hRd HG HE
            cases bb9
            · go_wp2_with fail
              go_region_with (go_at_call 58; refine (doneS (hRd.kp (S := [w.heap.size]) (by (repeat (first | exact Kp.refl _ _ | assumption | refine Kp.drew ?_ | refine Kp.drewN ?_ _ | refine Kp.alloc ?_ _ | (refine Kp.setCell ?_ (by first | (left; simp; done) | (right; simp; try omega)) _) | (refine Kp.trans' ?_ (by assumption) (by simp; try omega))))) (by simp; omega) (by simp; exact fun e => by have := HVB.out _ e; omega))).mono ?_; rintro e w' ⟨rfl, rfl⟩)
              all_goals
                go_wp2_with fail
                clear k0 k1 k2 k3 k4 k5 k6 k7 k8 k9 k10 z0 z1 z2 z3 z4 z5 z6 z7 z8 z9 z10 y0 y1 y2 y3 y4 y5 y6 y7 y8 y9 y10
                have hHF := put11 w.heap.size q HE.out.2.2.1
                have hKF := kput11 w.heap.size q wr
                generalize (((((((((((wr.setCell ⟨w.heap.size, 0, none⟩ (.int .i64 q.g)).setCell ⟨w.heap.size, 1, none⟩ (.int .i64 q.xx)).setCell ⟨w.heap.size, 2, none⟩ (.int .i64 q.xy)).setCell ⟨w.heap.size, 3, none⟩ (.int .i64 q.yx)).setCell ⟨w.heap.size, 4, none⟩ (.int .i64 q.yy)).setCell ⟨w.heap.size, 5, none⟩ (.bool q.m)).setCell ⟨w.heap.size, 6, none⟩ (.int .i64 q.dx)).setCell ⟨w.heap.size, 7, none⟩ (.int .i64 q.dy)).setCell ⟨w.heap.size, 8, none⟩ (.bool q.t)).setCell ⟨w.heap.size, 9, none⟩ (.int .i64 q.pa)).setCell ⟨w.heap.size, 10, none⟩ (.int .i64 q.ch)).drew = W at *
                have c0 : W.cell? ⟨w.heap.size, 0, none⟩ = some (.int .i64 q.g) := by rw [cell_of_row W w.heap.size 0 _ _ _ hHF]; rfl
                have c1 : W.cell? ⟨w.heap.size, 1, none⟩ = some (.int .i64 q.xx) := by rw [cell_of_row W w.heap.size 1 _ _ _ hHF]; rfl
                have c2 : W.cell? ⟨w.heap.size, 2, none⟩ = some (.int .i64 q.xy) := by rw [cell_of_row W w.heap.size 2 _ _ _ hHF]; rfl
                have c3 : W.cell? ⟨w.heap.size, 3, none⟩ = some (.int .i64 q.yx) := by rw [cell_of_row W w.heap.size 3 _ _ _ hHF]; rfl
                have c4 : W.cell? ⟨w.heap.size, 4, none⟩ = some (.int .i64 q.yy) := by rw [cell_of_row W w.heap.size 4 _ _ _ hHF]; rfl
                have c5 : W.cell? ⟨w.heap.size, 5, none⟩ = some (.bool q.m) := by rw [cell_of_row W w.heap.size 5 _ _ _ hHF]; rfl
                have c6 : W.cell? ⟨w.heap.size, 6, none⟩ = some (.int .i64 q.dx) := by rw [cell_of_row W w.heap.size 6 _ _ _ hHF]; rfl
                have c7 : W.cell? ⟨w.heap.size, 7, none⟩ = some (.int .i64 q.dy) := by rw [cell_of_row W w.heap.size 7 _ _ _ hHF]; rfl
                have c8 : W.cell? ⟨w.heap.size, 8, none⟩ = some (.bool q.t) := by rw [cell_of_row W w.heap.size 8 _ _ _ hHF]; rfl
                have c9 : W.cell? ⟨w.heap.size, 9, none⟩ = some (.int .i64 q.pa) := by rw [cell_of_row W w.heap.size 9 _ _ _ hHF]; rfl
                have c10 : W.cell? ⟨w.heap.size, 10, none⟩ = some (.int .i64 q.ch) := by rw [cell_of_row W w.heap.size 10 _ _ _ hHF]; rfl
                refine bodyPost_ret (v := .tuple #[.agg #[.int .i64 q.g, .int .i64 q.xx, .int .i64 q.xy, .int .i64 q.yx, .int .i64 q.yy, .bool q.m, .int .i64 q.dx, .int .i64 q.dy, .bool q.t, .int .i64 q.pa, .int .i64 q.ch], .bool (bits .and .i64 f 32 != 0), .bool true]) (by simp [results, Tryz.results77, go_sem, c0, c1, c2, c3, c4, c5, c6, c7, c8, c9, c10]) rfl ⟨by rw [HPM.out, HG.out.1, HG.out.2, HOK.out]; rfl, ?_, ?_⟩
                · rw [HPM.out]; exact hRd.kp hKF (by simp; omega) (by simp; exact fun e => by have := HVB.out _ e; omega)
                · exact HE.out.2.2.2.2.1.trans' hKF (fun t ht => by simp at ht; subst ht; exact .inr (by omega))
            · go_wp2_with fail
              go_region_with (go_at_call 58; refine (doneS (hRd.kp (S := [w.heap.size]) (by (repeat (first | exact Kp.refl _ _ | assumption | refine Kp.drew ?_ | refine Kp.drewN ?_ _ | refine Kp.alloc ?_ _ | (refine Kp.setCell ?_ (by first | (left; simp; done) | (right; simp; try omega)) _) | (refine Kp.trans' ?_ (by assumption) (by simp; try omega))))) (by simp; omega) (by simp; exact fun e => by have := HVB.out _ e; omega))).mono ?_; rintro e w' ⟨rfl, rfl⟩)
              all_goals
                go_wp2_with fail
                clear k0 k1 k2 k3 k4 k5 k6 k7 k8 k9 k10 z0 z1 z2 z3 z4 z5 z6 z7 z8 z9 z10 y0 y1 y2 y3 y4 y5 y6 y7 y8 y9 y10
                have hHF := put11 w.heap.size q HE.out.2.2.1
                have hKF := kput11 w.heap.size q wr
                generalize (((((((((((wr.setCell ⟨w.heap.size, 0, none⟩ (.int .i64 q.g)).setCell ⟨w.heap.size, 1, none⟩ (.int .i64 q.xx)).setCell ⟨w.heap.size, 2, none⟩ (.int .i64 q.xy)).setCell ⟨w.heap.size, 3, none⟩ (.int .i64 q.yx)).setCell ⟨w.heap.size, 4, none⟩ (.int .i64 q.yy)).setCell ⟨w.heap.size, 5, none⟩ (.bool q.m)).setCell ⟨w.heap.size, 6, none⟩ (.int .i64 q.dx)).setCell ⟨w.heap.size, 7, none⟩ (.int .i64 q.dy)).setCell ⟨w.heap.size, 8, none⟩ (.bool q.t)).setCell ⟨w.heap.size, 9, none⟩ (.int .i64 q.pa)).setCell ⟨w.heap.size, 10, none⟩ (.int .i64 q.ch)).drew = W at *
                have c0 : W.cell? ⟨w.heap.size, 0, none⟩ = some (.int .i64 q.g) := by rw [cell_of_row W w.heap.size 0 _ _ _ hHF]; rfl
                have c1 : W.cell? ⟨w.heap.size, 1, none⟩ = some (.int .i64 q.xx) := by rw [cell_of_row W w.heap.size 1 _ _ _ hHF]; rfl
                have c2 : W.cell? ⟨w.heap.size, 2, none⟩ = some (.int .i64 q.xy) := by rw [cell_of_row W w.heap.size 2 _ _ _ hHF]; rfl
                have c3 : W.cell? ⟨w.heap.size, 3, none⟩ = some (.int .i64 q.yx) := by rw [cell_of_row W w.heap.size 3 _ _ _ hHF]; rfl
                have c4 : W.cell? ⟨w.heap.size, 4, none⟩ = some (.int .i64 q.yy) := by rw [cell_of_row W w.heap.size 4 _ _ _ hHF]; rfl
                have c5 : W.cell? ⟨w.heap.size, 5, none⟩ = some (.bool q.m) := by rw [cell_of_row W w.heap.size 5 _ _ _ hHF]; rfl
                have c6 : W.cell? ⟨w.heap.size, 6, none⟩ = some (.int .i64 q.dx) := by rw [cell_of_row W w.heap.size 6 _ _ _ hHF]; rfl
                have c7 : W.cell? ⟨w.heap.size, 7, none⟩ = some (.int .i64 q.dy) := by rw [cell_of_row W w.heap.size 7 _ _ _ hHF]; rfl
                have c8 : W.cell? ⟨w.heap.size, 8, none⟩ = some (.bool q.t) := by rw [cell_of_row W w.heap.size 8 _ _ _ hHF]; rfl
                have c9 : W.cell? ⟨w.heap.size, 9, none⟩ = some (.int .i64 q.pa) := by rw [cell_of_row W w.heap.size 9 _ _ _ hHF]; rfl
                have c10 : W.cell? ⟨w.heap.size, 10, none⟩ = some (.int .i64 q.ch) := by rw [cell_of_row W w.heap.size 10 _ _ _ hHF]; rfl
                refine bodyPost_ret (v := .tuple #[.agg #[.int .i64 q.g, .int .i64 q.xx, .int .i64 q.xy, .int .i64 q.yx, .int .i64 q.yy, .bool q.m, .int .i64 q.dx, .int .i64 q.dy, .bool q.t, .int .i64 q.pa, .int .i64 q.ch], .bool (bits .and .i64 f 32 != 0), .bool false]) (by simp [results, Tryz.results77, go_sem, c0, c1, c2, c3, c4, c5, c6, c7, c8, c9, c10]) rfl ⟨by rw [HPM.out, HG.out.1, HG.out.2, HOK.out]; rfl, ?_, ?_⟩
                · rw [HPM.out]; exact hRd.kp hKF (by simp; omega) (by simp; exact fun e => by have := HVB.out _ e; omega)
                · exact HE.out.2.2.2.2.1.trans' hKF (fun t ht => by simp at ht; subst ht; exact .inr (by omega))
end Go.Proofs.YtafkhnlmipddmaaGreat.Cp
namespace Go.Proofs.YtafkhnlmipddmaaGreat.Cp
open Go.RowKit
set_option linter.unusedVariables false
set_option linter.unusedSimpArgs false
/-- What Decode reads: the parts, and an error's number. -/
def decGo (zs : List Int) : Nat → Rs → List Pt → List Pt × Int
  | 0, _, _ => ([], 120)
  | n + 1, s, acc => if (partM zs s).2.2.1 = false then ([], 110) else if (partM zs s).2.1 = false then (acc ++ [(partM zs s).1], 0) else decGo zs n (partM zs s).2.2.2 (acc ++ [(partM zs s).1])
def decM (zs : List Int) : List Pt × Int :=
  let s1 := stp zs 2 (0, false)
  let s2 := stp zs 8 s1
  if s2.2 = true ∨ 0 ≤ s16 (val zs 2 (0, false)) then ([], 110) else decGo zs 64 s2 []
def DcSt (w wr : World) (r : Nat) (v : Value) (zs : List Int) (s : Rs) (acc : List Pt) (l : Value) : Prop :=
  RdS wr r v zs s.1 s.2 ∧ wr.ownsRow (r + 1) 34 11 l acc.length (ptsCells acc) ∧ Kp [] w wr ∧ w.heap.size ≤ r
theorem ptsCells_one (acc : List Pt) (p : Pt) (w : World) (n base : Nat) (v : Value) (hn : n = acc.length + 1) (h : w.ownsRow base 34 11 v n (ptsCells acc ++ [.int .i64 p.g, .int .i64 p.xx, .int .i64 p.xy, .int .i64 p.yx, .int .i64 p.yy, .bool p.m, .int .i64 p.dx, .int .i64 p.dy, .bool p.t, .int .i64 p.pa, .int .i64 p.ch])) : w.ownsRow base 34 11 v (acc ++ [p]).length (ptsCells (acc ++ [p])) := by
  subst hn; rw [ptsCells_snoc]; simpa [ptCells] using h
set_option maxRecDepth 100000 in
set_option maxHeartbeats 4000000 in
theorem decode_calls {w : World} {v : Value} {zs : List Int} (hz : IsInts .u8 w v zs) (hb : ∀ c ∈ zs, 0 ≤ c ∧ c ≤ 255) (hv : ∀ b, blockOf v = some b → b < w.heap.size) :
    Calls Tryz.prog 61 #[v] w fun e w' => ∃ v', e = .returned (.tuple #[v', .int .i64 (decM zs).2]) ∧ IsPts w' v' (decM zs).1 ∧ Kp [] w w' := by
  obtain ⟨i0, hi, hz0, hz1, hz2⟩ := info_parts infoPt
  obtain ⟨pa, ca, hva⟩ : ∃ p c, v = .slice p zs.length c := by
    rcases hz with ⟨⟨ad, rfl⟩, rfl⟩ | ⟨g, off, c, rfl, _⟩
    · exact ⟨_, 0, rfl⟩
    · exact ⟨_, c, rfl⟩
  have HZ := Lib.hid hz
  have HB := Lib.hid hb
  have HV := Lib.hid hv
  have HVA := Lib.hid hva
  clear hz hb hv hva
  go_enter Tryz.func61, Tryz.ntmps61
  go_wp2_with fail
  refine (new_calls v pa zs.length ca HVA.out _).mono ?_; rintro e w1 ⟨rfl, hw1⟩
  have hk1 : Kp [] w w1 := by subst hw1; (repeat (first | exact Kp.refl _ _ | assumption | refine Kp.drew ?_ | refine Kp.drewN ?_ _ | refine Kp.alloc ?_ _ | (refine Kp.setCell ?_ (by first | (left; simp; done) | (right; simp; try omega)) _) | (refine Kp.trans' ?_ (by assumption) (by simp; try omega))))
  have hsz : w.heap.size < w1.heap.size := by subst hw1; simp
  have H1 : Hid (RdS w1 w.heap.size v zs 0 false) := ⟨by subst hw1; exact heap_alloc_new w _, HZ.out.kp hk1 (by simp), HB.out, fun e => by have := HV.out _ e; omega, by omega⟩
  clear hw1
  generalize hr : w.heap.size = r at *
  have hrw : w.heap.size ≤ r := by omega
  clear hr
  go_wp2_with fail
  refine (i16S H1.out).mono ?_; rintro e w2 ⟨rfl, h2, hk2⟩
  have H2 := Lib.hid h2
  have hkw2 : Kp [] w w2 := hk1.trans' hk2 (fun t ht => by simp at ht; subst ht; exact .inr hrw)
  clear h2
  go_wp2_with fail
  refine (takeS 8 (by decide) (by decide) H2.out).mono ?_; rintro e w3 ⟨⟨v3, rfl⟩, h3, hk3⟩
  have H3 := Lib.hid h3
  have hkw3 : Kp [] w w3 := hkw2.trans' hk3 (fun t ht => by simp at ht; subst ht; exact .inr hrw)
  clear h3 hkw2 hk1 hk2 hk3
  go_wp2_with fail
  refine (doneS H3.out).mono ?_; rintro e w4 ⟨rfl, rfl⟩
  have HD : Hid (decM zs = if rdB zs (rdK zs 0 false 2) (rdB zs 0 false 2) 8 = true ∨ 0 ≤ s16 (rdV zs 0 false 2) then ([], 110) else decGo zs 64 (rdK zs (rdK zs 0 false 2) (rdB zs 0 false 2) 8, rdB zs (rdK zs 0 false 2) (rdB zs 0 false 2) 8) []) := rfl
  generalize s16 (rdV zs 0 false 2) = k0 at *
  generalize rdK zs (rdK zs 0 false 2) (rdB zs 0 false 2) 8 = kk at *
  generalize rdB zs (rdK zs 0 false 2) (rdB zs 0 false 2) 8 = bb at *
  cases bb
  · by_cases hk : 0 ≤ k0
    · have HE : Hid (decM zs = ([], 110)) := by show _ = _; rw [HD.out, if_pos (.inr hk)]
      clear HD
      go_wp2_with fail
      go_ret2
      rw [HE.out]
      exact ⟨_, rfl, IsPts.nil _ _, hkw3⟩
    · have HE : Hid (decM zs = decGo zs (64 - ([] : List Pt).length) (kk, false) []) := by show _ = _; rw [HD.out, if_neg (by simp; omega)]; rfl
      clear HD
      have HS : Hid (DcSt w w3 r v zs (kk, false) [] (.slice none 0 0)) := ⟨H3.out, World.ownsRow_nil _ _ _ _, hkw3, hrw⟩
      have hk' : decide (0 ≤ k0) = false := decide_eq_false hk
      clear H1 H2 H3 hkw3
      go_wp2_with fail
      go_loopw [6] (fun l wr => ∃ (s : Rs) (acc : List Pt), acc.length < 64 ∧ Hid (DcSt w wr r v zs s acc l ∧ decM zs = decGo zs (64 - acc.length) s acc)) (fun l _ => 64 - vlen l)
      case atStart => exact ⟨(kk, false), [], by simp, HS.out, HE.out⟩
      case round =>
        obtain ⟨s, acc, hl, HJ⟩ := hrel
        clear HS HE hk' hk
        obtain ⟨pl, cl, hle⟩ := slice_own HJ.out.1.2.1
        subst hle
        have hsz2 : r < wr.heap.size := HJ.out.1.1.lt
        go_wp2_with fail
        refine (part_calls HJ.out.1.1 (fun b hb => by have := HV.out b hb; have := HJ.out.1.2.2.1.size; omega)).mono ?_; rintro e w5 ⟨rfl, h5, hk5⟩
        have H5 := Lib.hid h5
        have HG : Hid (decM zs = if (partM zs s).2.2.1 = false then ([], 110) else if (partM zs s).2.1 = false then (acc ++ [(partM zs s).1], 0) else decGo zs (64 - (acc.length + 1)) (partM zs s).2.2.2 (acc ++ [(partM zs s).1])) := by
          show _ = _; rw [HJ.out.2, show 64 - acc.length = (64 - (acc.length + 1)) + 1 by omega]; rfl
        clear h5
        generalize partM zs s = PM at *
        obtain ⟨p, more, ok, s5⟩ := PM
        dsimp only at H5 HG ⊢
        have hkw5 : Kp [] w w5 := HJ.out.1.2.2.1.trans' hk5 (fun t ht => by simp at ht; subst ht; exact .inr hrw)
        have HO5 : Hid (w5.ownsRow (r + 1) 34 11 (.slice pl acc.length cl) acc.length (ptsCells acc)) := hk5.row HJ.out.1.2.1 (fun t ht e => by simp at ht; subst ht; have := own_ge HJ.out.1.2.1 _ e; omega)
        have hsz5 : r < w5.heap.size := H5.out.lt
        clear HJ hk5 hsz2
        rw [show ptV p = .agg #[.int .i64 p.g, .int .i64 p.xx, .int .i64 p.xy, .int .i64 p.yx, .int .i64 p.yy, .bool p.m, .int .i64 p.dx, .int .i64 p.dy, .bool p.t, .int .i64 p.pa, .int .i64 p.ch] from rfl]
        cases ok
        · have HE : Hid (decM zs = ([], 110)) := by show _ = _; rw [HG.out]; rfl
          clear HG
          go_wp2_with fail
          go_ret2
          rw [HE.out]
          exact ⟨_, rfl, IsPts.nil _ _, by (repeat (first | exact Kp.refl _ _ | assumption | refine Kp.drew ?_ | refine Kp.drewN ?_ _ | refine Kp.alloc ?_ _ | (refine Kp.setCell ?_ (by first | (left; simp; done) | (right; simp; try omega)) _) | (refine Kp.trans' ?_ (by assumption) (by simp; try omega))))⟩
        · go_wp2_with (at_builtin; refine wpList_app rfl _ _ 35 rfl (r + 1) 34 (.agg #[.int .i64 0, .int .i64 0, .int .i64 0, .int .i64 0, .int .i64 0, .bool false, .int .i64 0, .int .i64 0, .bool false, .int .i64 0, .int .i64 0]) 11 88 Tryz.underlying35 infoPt rfl (by decide) (by decide) (.slice pl acc.length cl) acc.length (ptsCells acc) rfl ?hown _ 1 [.int .i64 p.g, .int .i64 p.xx, .int .i64 p.xy, .int .i64 p.yx, .int .i64 p.yy, .bool p.m, .int .i64 p.dx, .int .i64 p.dy, .bool p.t, .int .i64 p.pa, .int .i64 p.ch] rfl ?hsrc ?hone ?hb1 ?hb2 ?hk)
          case hown => exact Kp.row (S := []) (by (repeat (first | exact Kp.refl _ _ | assumption | refine Kp.drew ?_ | refine Kp.drewN ?_ _ | refine Kp.alloc ?_ _ | (refine Kp.setCell ?_ (by first | (left; simp; done) | (right; simp; try omega)) _) | (refine Kp.trans' ?_ (by assumption) (by simp; try omega))))) HO5.out (by simp)
          case hsrc => exact Reads.made _ _ 11 1 _ _ (by simp) rfl (by decide)
          case hone => exact oneCell_pt p
          case hb1 => omega
          case hb2 => simp; omega
          case hk =>
          intro u w6 hown hgr
          have hob : ∀ k ∈ (Value.slice pl acc.length cl).ownBlock.toList, r + 1 ≤ k := fun k hk => own_ge HO5.out k (by simpa using hk)
          have hk56 : Kp (Value.slice pl acc.length cl).ownBlock.toList w5 w6 := Kp.grown (by (repeat (first | exact Kp.refl _ _ | assumption | refine Kp.drew ?_ | refine Kp.drewN ?_ _ | refine Kp.alloc ?_ _ | (refine Kp.setCell ?_ (by first | (left; simp; done) | (right; simp; try omega)) _) | (refine Kp.trans' ?_ (by assumption) (by simp; try omega))))) hgr (fun k hk => .inl (by simp [hk]))
          have H6 := Lib.hid (H5.out.kp hk56 (fun h => by have := hob _ h; omega) (fun t ht e => by have := hob _ ht; have := HV.out _ e; omega))
          have hkw6 : Kp [] w w6 := hkw5.trans' hk56 (fun t ht => .inr (by have := hob _ ht; omega))
          clear hob hk56
          have HO6 := Lib.hid (ptsCells_one acc p w6 _ _ _ rfl hown)
          obtain ⟨p9, c9, rfl⟩ := slice_own hown
          clear hown hgr
          cases more
          · have HE : Hid (decM zs = (acc ++ [p], 0)) := by show _ = _; rw [HG.out]; rfl
            clear HG
            go_wp2_with fail
            go_ret2
            rw [HE.out]
            exact ⟨_, rfl, IsPts.owned rfl HO6.out, by (repeat (first | exact Kp.refl _ _ | assumption | refine Kp.drew ?_ | refine Kp.drewN ?_ _ | refine Kp.alloc ?_ _ | (refine Kp.setCell ?_ (by first | (left; simp; done) | (right; simp; try omega)) _) | (refine Kp.trans' ?_ (by assumption) (by simp; try omega))))⟩
          · by_cases h64 : acc.length + 1 = 64
            · have HE : Hid (decM zs = ([], 120)) := by show _ = _; rw [HG.out, h64]; rfl
              clear HG
              go_wp2_with fail
              go_ret2
              rw [HE.out]
              exact ⟨_, rfl, IsPts.nil _ _, by (repeat (first | exact Kp.refl _ _ | assumption | refine Kp.drew ?_ | refine Kp.drewN ?_ _ | refine Kp.alloc ?_ _ | (refine Kp.setCell ?_ (by first | (left; simp; done) | (right; simp; try omega)) _) | (refine Kp.trans' ?_ (by assumption) (by simp; try omega))))⟩
            · have hne : ((acc.length : Int) + 1 == 64) = false := by simp; omega
              go_wp2_with fail
              go_roundw
              case rel => exact ⟨s5, acc ++ [p], by simp; omega, ⟨H6.out, by first | exact HO6.out | simpa using HO6.out, hkw6, hrw⟩, by rw [HG.out]; simp⟩
              case measure => simp [vlen]; omega
  · have HE : Hid (decM zs = ([], 110)) := by show _ = _; rw [HD.out, if_pos (.inl rfl)]
    clear HD
    go_wp2_with fail
    go_ret2
    rw [HE.out]
    exact ⟨_, rfl, IsPts.nil _ _, hkw3⟩
end Go.Proofs.YtafkhnlmipddmaaGreat.Cp

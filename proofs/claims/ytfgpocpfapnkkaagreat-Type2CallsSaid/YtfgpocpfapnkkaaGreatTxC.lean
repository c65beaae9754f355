/- type2: the other strokes. (Written by wip/type2/gentyh.py.) · type2: flex1, and the strokes' closures · type2: the strokes' closures, the table of strokes, right. (Merged by wip/tools/mergetpl.py out of TyH, TyI, TyJ.) -/
import Derived.Test.YtfgpocpfapnkkaaGreatTxB
import Derived.Lib.MinMax
namespace Go.Proofs.YtfgpocpfapnkkaaGreat
open Go.RowKit
set_option linter.unusedVariables false
set_option linter.unusedSimpArgs false
theorem okP_lines : ∀ (xs : List Int) (q : Pe), okP q → okP (linesP q xs)
  | [], _, h => h
  | [_], _, h => h
  | a :: b :: t, q, h => by rw [linesP]; exact okP_lines t _ (okP_put h _ _ _)
theorem okP_curves : ∀ (xs : List Int) (q : Pe), okP q → okP (curvesP q xs)
  | [], _, h => h
  | [_], _, h => h
  | [_, _], _, h => h
  | [_, _, _], _, h => h
  | [_, _, _, _], _, h => h
  | [_, _, _, _, _], _, h => h
  | a :: b :: c :: d :: e :: f :: t, q, h => by rw [curvesP]; exact okP_curves t _ (okP_curve h _ _ _ _ _ _)
theorem may_lo {x : Int} (h : mayB x = true) : -2147483648 ≤ x ∧ x ≤ 2147483648 := by simpa [mayB] using h
def curvesLineP (q : Pe) (xs : List Int) : Pe := linesP (curvesP q (xs.take (xs.length - 2))) (xs.drop (xs.length - 2))
set_option maxRecDepth 100000 in
set_option maxHeartbeats 8000000 in
theorem pcurvesLine_calls (p B : Nat) (q : Pe) (v : Value) (xs : List Int) (w : World) (h : PenA w p B q) (ok : okP q) (hBw : B ≤ w.heap.size) (hx : RdI w 0 v xs) (h8 : 8 ≤ xs.length) :
    Calls Tryz.prog 77 #[.pointer (some ⟨p, 0, none⟩), v] w (PenP w p B (curvesLineP q xs)) := by
  have hle := hx.1.le
  unfold maxLen at hle
  obtain ⟨g, off, cap, rfl, hc1, hc2, _⟩ := hx.at (by omega)
  obtain ⟨m, hm⟩ : ∃ m, xs.length = m + 2 := ⟨xs.length - 2, by omega⟩
  have HQ : Hid (curvesLineP q xs = linesP (curvesP q (xs.take m)) (xs.drop m)) := by show _ = _; unfold curvesLineP; rw [hm, Nat.add_sub_cancel]
  rw [hm] at hx hle hc1 h8 ⊢
  have H1 := Lib.hid (pcurves_calls p B q _ (xs.take m) w h ok hBw (hx.take m (by omega) (by omega)))
  have HD := Lib.hid (hx.drop m (by omega) (by omega))
  have h2 : m + 2 - m = 2 := by omega
  rw [h2] at HD
  have hok := Lib.hid (okP_curves (xs.take m) q ok)
  have hw : IntKind.i64.wrap ((m : Int) + 2 - 2) = (m : Int) := by rw [IntKind.wrap_i64]; omega
  have hm1 : ((m : Int) + 2 - 2) = (m : Int) := by omega
  have hmc : m < cap := by omega
  generalize xs.take m = x1 at *
  generalize xs.drop m = x2 at *
  clear h ok hx hm h2
  unfold maxLen at hc2
  go_enter Tryz.func77, Tryz.ntmps77
  go_wp2_with fail
  refine H1.out.mono ?_; rintro r w1 ⟨rfl, hA1, hk1⟩
  have HA1 := Lib.hid hA1
  have HK1 := Lib.hid hk1
  have HD1 := Lib.hid (HD.out.pen hk1)
  clear hA1 hk1
  go_wp2_with fail
  refine (plines_calls p B _ _ x2 w1 HA1.out hok.out (Nat.le_trans hBw HK1.out.size) (by first | exact HD1.out | (have := HD1.out; simpa using this))).mono ?_; rintro r w2 ⟨rfl, hA2, hk2⟩
  go_wp2_with fail
  go_end0
  exact ⟨rfl, by rw [HQ.out]; exact hA2, HK1.out.trans hk2⟩
def linesCurveP (q : Pe) (xs : List Int) : Pe := curvesP (linesP q (xs.take (xs.length - 6))) (xs.drop (xs.length - 6))
set_option maxRecDepth 100000 in
set_option maxHeartbeats 8000000 in
theorem plinesCurve_calls (p B : Nat) (q : Pe) (v : Value) (xs : List Int) (w : World) (h : PenA w p B q) (ok : okP q) (hBw : B ≤ w.heap.size) (hx : RdI w 0 v xs) (h8 : 8 ≤ xs.length) :
    Calls Tryz.prog 78 #[.pointer (some ⟨p, 0, none⟩), v] w (PenP w p B (linesCurveP q xs)) := by
  have hle := hx.1.le
  unfold maxLen at hle
  obtain ⟨g, off, cap, rfl, hc1, hc2, _⟩ := hx.at (by omega)
  obtain ⟨m, hm⟩ : ∃ m, xs.length = m + 6 := ⟨xs.length - 6, by omega⟩
  have HQ : Hid (linesCurveP q xs = curvesP (linesP q (xs.take m)) (xs.drop m)) := by show _ = _; unfold linesCurveP; rw [hm, Nat.add_sub_cancel]
  rw [hm] at hx hle hc1 h8 ⊢
  have H1 := Lib.hid (plines_calls p B q _ (xs.take m) w h ok hBw (hx.take m (by omega) (by omega)))
  have HD := Lib.hid (hx.drop m (by omega) (by omega))
  have h2 : m + 6 - m = 6 := by omega
  rw [h2] at HD
  have hok := Lib.hid (okP_lines (xs.take m) q ok)
  have hw : IntKind.i64.wrap ((m : Int) + 6 - 6) = (m : Int) := by rw [IntKind.wrap_i64]; omega
  have hm1 : ((m : Int) + 6 - 6) = (m : Int) := by omega
  have hmc : m < cap := by omega
  generalize xs.take m = x1 at *
  generalize xs.drop m = x2 at *
  clear h ok hx hm h2
  unfold maxLen at hc2
  go_enter Tryz.func78, Tryz.ntmps78
  go_wp2_with fail
  refine H1.out.mono ?_; rintro r w1 ⟨rfl, hA1, hk1⟩
  have HA1 := Lib.hid hA1
  have HK1 := Lib.hid hk1
  have HD1 := Lib.hid (HD.out.pen hk1)
  clear hA1 hk1
  go_wp2_with fail
  refine (pcurves_calls p B _ _ x2 w1 HA1.out hok.out (Nat.le_trans hBw HK1.out.size) (by first | exact HD1.out | (have := HD1.out; simpa using this))).mono ?_; rintro r w2 ⟨rfl, hA2, hk2⟩
  go_wp2_with fail
  go_end0
  exact ⟨rfl, by rw [HQ.out]; exact hA2, HK1.out.trans hk2⟩
def hflexP (q : Pe) : List Int → Pe
  | [x0, x1, x2, x3, x4, x5, x6] => curveP (curveP q x0 0 x1 x2 x3 0) x4 0 x5 (-x2) x6 0
  | _ => q
set_option maxRecDepth 100000 in
set_option maxHeartbeats 8000000 in
theorem phflex_calls (p B : Nat) (q : Pe) (v : Value) (x0 x1 x2 x3 x4 x5 x6 : Int) (w : World) (h : PenA w p B q) (ok : okP q) (hBw : B ≤ w.heap.size) (hx : RdI w 0 v [x0, x1, x2, x3, x4, x5, x6]) (hm : ∀ x ∈ [x0, x1, x2, x3, x4, x5, x6], mayB x = true) :
    Calls Tryz.prog 84 #[.pointer (some ⟨p, 0, none⟩), v] w (PenP w p B (hflexP q [x0, x1, x2, x3, x4, x5, x6])) := by
  obtain ⟨g, off, cap, rfl, hc1, hc2, _⟩ := hx.at (by simp)
  have HX := Lib.hid hx
  have HA := Lib.hid h
  have HOK := Lib.hid ok
  have HP : Hid (∀ q1 v a b c d e f t W, PenA W p B q1 → okP q1 → B ≤ W.heap.size → RdI W 0 v (a :: b :: c :: d :: e :: f :: t) → Calls Tryz.prog 97 #[.pointer (some ⟨p, 0, none⟩), v] W (PenP W p B (curveP q1 a b c d e f))) := fun q1 v a b c d e f t W h ok hB hx => pcurve_calls p B q1 v a b c d e f t W h ok hB hx
  have HR : Hid (hflexP q [x0, x1, x2, x3, x4, x5, x6] = curveP (curveP q x0 0 x1 x2 x3 0) x4 0 x5 (-x2) x6 0) := rfl
  rw [show ([x0, x1, x2, x3, x4, x5, x6] : List Int).length = 7 from rfl] at HX hc1 ⊢
  have h2 := may_lo (hm x2 (by simp))
  have hw2 : IntKind.i64.wrap (-x2) = -x2 := by rw [IntKind.wrap_i64]; omega
  clear h ok hx hm
  go_enter Tryz.func84, Tryz.ntmps84
  go_wp2_with fail
  have c0 : w.cell? ⟨g, off, none⟩ = some (.int .i64 x0) := by have := HX.out.cells (B := B) 0 (by simp) (KT.refl [] penTs B w) x0 rfl; rwa [Nat.add_zero] at this
  have c1 := HX.out.cells (B := B) 1 (by simp) (KT.refl [] penTs B w) x1 rfl
  have c2 := HX.out.cells (B := B) 2 (by simp) (KT.refl [] penTs B w) x2 rfl
  have c3 := HX.out.cells (B := B) 3 (by simp) (KT.refl [] penTs B w) x3 rfl
  have q0 := KW.cell c0
  have q1 := KW.cell c1
  have q2 := KW.cell c2
  have q3 := KW.cell c3
  clear c0 c1 c2 c3
  refine wp_region_plan [0] [1, 2, 3, 4, 5, 6, 7, 8, 9, 10, 11, 12] [13, 14] (by kernel_rfl) (by kernel_rfl) ?_
  simp only [pickAt_nil, pickAt_cons, List.getElem?_cons_zero, List.getElem?_cons_succ, Option.toList_some, List.cons_append, List.nil_append]
  repeat (go_big_quiet_step (fail))
  refine wpQuiet_nil ?_
  repeat (go_big_quiet_step (fail))
  refine wpQuiet_nil ?_
  intro w1 hw'
  obtain ⟨⟨_, hkw1⟩, rfl⟩ := hw'
  try dsimp only
  go_wp2_with fail
  refine (HP.out q _ x0 0 x1 x2 x3 0 [] _ (HA.out.kp0 (hkw1.trans ((Kp.refl _ _).alloc _))) HOK.out (by have := hkw1.size; simp; omega) (by exact RdI.made w1 [x0, 0, x1, x2, x3, 0] 6 _ rfl (by decide) (by decide) rfl)).mono ?_; rintro r w2 ⟨rfl, hA2, hk2⟩
  have HA2 := Lib.hid hA2
  have HK2 : Hid (KT [] penTs B w w2) := (KT.of_kp0 (hkw1.trans ((Kp.refl _ _).alloc _))).trans hk2
  clear hA2 hk2 q0 q1 q2 q3
  go_wp2_with fail
  refine QN.intro ?_
  go_wp2_with fail
  have c4 := HX.out.cells (B := B) 4 (by simp) HK2.out x4 rfl
  have c5 := HX.out.cells (B := B) 5 (by simp) HK2.out x5 rfl
  have c2 := HX.out.cells (B := B) 2 (by simp) HK2.out x2 rfl
  have c6 := HX.out.cells (B := B) 6 (by simp) HK2.out x6 rfl
  have q4 := KW.cell c4
  have q5 := KW.cell c5
  have q2 := KW.cell c2
  have q6 := KW.cell c6
  clear c4 c5 c2 c6
  refine wp_region_plan [0] [1, 2, 3, 4, 5, 6, 7, 8, 9, 10, 11, 12, 13] [14, 15] (by kernel_rfl) (by kernel_rfl) ?_
  simp only [pickAt_nil, pickAt_cons, List.getElem?_cons_zero, List.getElem?_cons_succ, Option.toList_some, List.cons_append, List.nil_append]
  repeat (go_big_quiet_step (fail))
  refine wpQuiet_nil ?_
  repeat (go_big_quiet_step (fail))
  refine wpQuiet_nil ?_
  intro w3 hw'
  obtain ⟨⟨_, hkw3⟩, rfl⟩ := hw'
  try dsimp only
  go_wp2_with fail
  refine (HP.out _ _ x4 0 x5 (-x2) x6 0 [] _ (HA2.out.kp0 (hkw3.trans ((Kp.refl _ _).alloc _))) (okP_curve HOK.out _ _ _ _ _ _) (by have := HK2.out.size; have := hkw3.size; simp; omega) (by exact RdI.made w3 [x4, 0, x5, (-x2), x6, 0] 6 _ rfl (by decide) (by decide) rfl)).mono ?_; rintro r w4 ⟨rfl, hA4, hk4⟩
  go_wp2_with fail
  refine QN.intro ?_
  go_wp2_with fail
  go_end0
  exact ⟨rfl, by rw [HR.out]; exact hA4, HK2.out.trans ((KT.of_kp0 (hkw3.trans ((Kp.refl _ _).alloc _))).trans hk4)⟩
def hflex1P (q : Pe) : List Int → Pe
  | [x0, x1, x2, x3, x4, x5, x6, x7, x8] => curveP (curveP q x0 x1 x2 x3 x4 0) x5 0 x6 x7 x8 (-(x1 + x3 + x7))
  | _ => q
set_option maxRecDepth 100000 in
set_option maxHeartbeats 8000000 in
theorem phflex1_calls (p B : Nat) (q : Pe) (v : Value) (x0 x1 x2 x3 x4 x5 x6 x7 x8 : Int) (w : World) (h : PenA w p B q) (ok : okP q) (hBw : B ≤ w.heap.size) (hx : RdI w 0 v [x0, x1, x2, x3, x4, x5, x6, x7, x8]) (hm : ∀ x ∈ [x0, x1, x2, x3, x4, x5, x6, x7, x8], mayB x = true) :
    Calls Tryz.prog 86 #[.pointer (some ⟨p, 0, none⟩), v] w (PenP w p B (hflex1P q [x0, x1, x2, x3, x4, x5, x6, x7, x8])) := by
  obtain ⟨g, off, cap, rfl, hc1, hc2, _⟩ := hx.at (by simp)
  have HX := Lib.hid hx
  have HA := Lib.hid h
  have HOK := Lib.hid ok
  have HP : Hid (∀ q1 v a b c d e f t W, PenA W p B q1 → okP q1 → B ≤ W.heap.size → RdI W 0 v (a :: b :: c :: d :: e :: f :: t) → Calls Tryz.prog 97 #[.pointer (some ⟨p, 0, none⟩), v] W (PenP W p B (curveP q1 a b c d e f))) := fun q1 v a b c d e f t W h ok hB hx => pcurve_calls p B q1 v a b c d e f t W h ok hB hx
  have HR : Hid (hflex1P q [x0, x1, x2, x3, x4, x5, x6, x7, x8] = curveP (curveP q x0 x1 x2 x3 x4 0) x5 0 x6 x7 x8 (-(x1 + x3 + x7))) := rfl
  rw [show ([x0, x1, x2, x3, x4, x5, x6, x7, x8] : List Int).length = 9 from rfl] at HX hc1 ⊢
  have h1 := may_lo (hm x1 (by simp))
  have h3 := may_lo (hm x3 (by simp))
  have h7 := may_lo (hm x7 (by simp))
  have hw1 : IntKind.i64.wrap (x1 + x3) = x1 + x3 := by rw [IntKind.wrap_i64]; omega
  have hw2 : IntKind.i64.wrap (x1 + x3 + x7) = x1 + x3 + x7 := by rw [IntKind.wrap_i64]; omega
  have hw3 : IntKind.i64.wrap (-(x1 + x3 + x7)) = -(x1 + x3 + x7) := by rw [IntKind.wrap_i64]; omega
  clear h1 h3 h7
  clear h ok hx hm
  go_enter Tryz.func86, Tryz.ntmps86
  go_wp2_with fail
  have c0 : w.cell? ⟨g, off, none⟩ = some (.int .i64 x0) := by have := HX.out.cells (B := B) 0 (by simp) (KT.refl [] penTs B w) x0 rfl; rwa [Nat.add_zero] at this
  have c1 := HX.out.cells (B := B) 1 (by simp) (KT.refl [] penTs B w) x1 rfl
  have c2 := HX.out.cells (B := B) 2 (by simp) (KT.refl [] penTs B w) x2 rfl
  have c3 := HX.out.cells (B := B) 3 (by simp) (KT.refl [] penTs B w) x3 rfl
  have c4 := HX.out.cells (B := B) 4 (by simp) (KT.refl [] penTs B w) x4 rfl
  have q0 := KW.cell c0
  have q1 := KW.cell c1
  have q2 := KW.cell c2
  have q3 := KW.cell c3
  have q4 := KW.cell c4
  clear c0 c1 c2 c3 c4
  refine wp_region_plan [0] [1, 2, 3, 4, 5, 6, 7, 8, 9, 10, 11, 12, 13, 14, 15] [16, 17] (by kernel_rfl) (by kernel_rfl) ?_
  simp only [pickAt_nil, pickAt_cons, List.getElem?_cons_zero, List.getElem?_cons_succ, Option.toList_some, List.cons_append, List.nil_append]
  repeat (go_big_quiet_step (fail))
  refine wpQuiet_nil ?_
  repeat (go_big_quiet_step (fail))
  refine wpQuiet_nil ?_
  intro w1 hw'
  obtain ⟨⟨_, hkw1⟩, rfl⟩ := hw'
  try dsimp only
  go_wp2_with fail
  refine (HP.out q _ x0 x1 x2 x3 x4 0 [] _ (HA.out.kp0 (hkw1.trans ((Kp.refl _ _).alloc _))) HOK.out (by have := hkw1.size; simp; omega) (by exact RdI.made w1 [x0, x1, x2, x3, x4, 0] 6 _ rfl (by decide) (by decide) rfl)).mono ?_; rintro r w2 ⟨rfl, hA2, hk2⟩
  have HA2 := Lib.hid hA2
  have HK2 : Hid (KT [] penTs B w w2) := (KT.of_kp0 (hkw1.trans ((Kp.refl _ _).alloc _))).trans hk2
  clear hA2 hk2 q0 q1 q2 q3 q4
  go_wp2_with fail
  refine QN.intro ?_
  go_wp2_with fail
  have c5 := HX.out.cells (B := B) 5 (by simp) HK2.out x5 rfl
  have c6 := HX.out.cells (B := B) 6 (by simp) HK2.out x6 rfl
  have c7 := HX.out.cells (B := B) 7 (by simp) HK2.out x7 rfl
  have c8 := HX.out.cells (B := B) 8 (by simp) HK2.out x8 rfl
  have c1 := HX.out.cells (B := B) 1 (by simp) HK2.out x1 rfl
  have c3 := HX.out.cells (B := B) 3 (by simp) HK2.out x3 rfl
  have q5 := KW.cell c5
  have q6 := KW.cell c6
  have q7 := KW.cell c7
  have q8 := KW.cell c8
  have q1 := KW.cell c1
  have q3 := KW.cell c3
  clear c5 c6 c7 c8 c1 c3
  refine wp_region_plan [0] [1, 2, 3, 4, 5, 6, 7, 8, 9, 10, 11, 12, 13, 14, 15, 16, 17, 18, 19, 20, 21, 22, 23, 24] [25, 26] (by kernel_rfl) (by kernel_rfl) ?_
  simp only [pickAt_nil, pickAt_cons, List.getElem?_cons_zero, List.getElem?_cons_succ, Option.toList_some, List.cons_append, List.nil_append]
  repeat (go_big_quiet_step (fail))
  refine wpQuiet_nil ?_
  repeat (go_big_quiet_step (fail))
  refine wpQuiet_nil ?_
  intro w3 hw'
  obtain ⟨⟨_, hkw3⟩, rfl⟩ := hw'
  try dsimp only
  go_wp2_with fail
  refine (HP.out _ _ x5 0 x6 x7 x8 (-(x1 + x3 + x7)) [] _ (HA2.out.kp0 (hkw3.trans ((Kp.refl _ _).alloc _))) (okP_curve HOK.out _ _ _ _ _ _) (by have := HK2.out.size; have := hkw3.size; simp; omega) (by exact RdI.made w3 [x5, 0, x6, x7, x8, (-(x1 + x3 + x7))] 6 _ rfl (by decide) (by decide) rfl)).mono ?_; rintro r w4 ⟨rfl, hA4, hk4⟩
  go_wp2_with fail
  refine QN.intro ?_
  go_wp2_with fail
  go_end0
  exact ⟨rfl, by rw [HR.out]; exact hA4, HK2.out.trans ((KT.of_kp0 (hkw3.trans ((Kp.refl _ _).alloc _))).trans hk4)⟩
end Go.Proofs.YtfgpocpfapnkkaaGreat
namespace Go.Proofs.YtfgpocpfapnkkaaGreat
open Go.RowKit
set_option linter.unusedVariables false
set_option linter.unusedSimpArgs false
def sumA (xs : List Int) (o : Nat) : Nat → Int
  | 0 => 0
  | j + 1 => sumA xs o j + xs.getD (2 * j + o) 0
def flex1Q (q : Pe) (x0 x1 x2 x3 x4 x5 x6 x7 x8 x9 x10 X Y : Int) : Pe :=
  if max X (-X) ≤ max Y (-Y) then curveP (curveP q x0 x1 x2 x3 x4 x5) x6 x7 x8 x9 (-X) x10 else curveP (curveP q x0 x1 x2 x3 x4 x5) x6 x7 x8 x9 x10 (-Y)
def flex1P (q : Pe) : List Int → Pe
  | [x0, x1, x2, x3, x4, x5, x6, x7, x8, x9, x10] => flex1Q q x0 x1 x2 x3 x4 x5 x6 x7 x8 x9 x10 (sumA [x0, x1, x2, x3, x4, x5, x6, x7, x8, x9, x10] 0 5) (sumA [x0, x1, x2, x3, x4, x5, x6, x7, x8, x9, x10] 1 5)
  | _ => q
set_option maxRecDepth 100000 in
set_option maxHeartbeats 8000000 in
theorem pflex1_calls (p B : Nat) (q : Pe) (v : Value) (x0 x1 x2 x3 x4 x5 x6 x7 x8 x9 x10 : Int) (w : World) (h : PenA w p B q) (ok : okP q) (hBw : B ≤ w.heap.size) (hx : RdI w 0 v [x0, x1, x2, x3, x4, x5, x6, x7, x8, x9, x10]) (hm : ∀ x ∈ [x0, x1, x2, x3, x4, x5, x6, x7, x8, x9, x10], mayB x = true) :
    Calls Tryz.prog 87 #[.pointer (some ⟨p, 0, none⟩), v] w (PenP w p B (flex1P q [x0, x1, x2, x3, x4, x5, x6, x7, x8, x9, x10])) := by
  obtain ⟨g, off, cap, rfl, hc1, hc2, _⟩ := hx.at (by simp)
  have HX := Lib.hid hx
  have HA := Lib.hid h
  have HOK := Lib.hid ok
  have HP : Hid (∀ q1 v a b c d e f t W, PenA W p B q1 → okP q1 → B ≤ W.heap.size → RdI W 0 v (a :: b :: c :: d :: e :: f :: t) → Calls Tryz.prog 97 #[.pointer (some ⟨p, 0, none⟩), v] W (PenP W p B (curveP q1 a b c d e f))) := fun q1 v a b c d e f t W h ok hB hx => pcurve_calls p B q1 v a b c d e f t W h ok hB hx
  have HT6 := Lib.hid (hx.take 6 (by decide) (by simp))
  obtain ⟨xs, hxs⟩ : ∃ xs, [x0, x1, x2, x3, x4, x5, x6, x7, x8, x9, x10] = xs := ⟨_, rfl⟩
  have hl : xs.length = 11 := by rw [← hxs]; rfl
  have HL := Lib.hid hl
  have HG : Hid (xs.getD 6 0 = x6 ∧ xs.getD 7 0 = x7 ∧ xs.getD 8 0 = x8 ∧ xs.getD 9 0 = x9 ∧ xs.getD 10 0 = x10) := by show _ ∧ _; rw [← hxs]; exact ⟨rfl, rfl, rfl, rfl, rfl⟩
  have HR : Hid (flex1P q xs = flex1Q q x0 x1 x2 x3 x4 x5 x6 x7 x8 x9 x10 (sumA xs 0 5) (sumA xs 1 5)) := by rw [← hxs]; exact rfl
  have HMB : Hid (∀ i, i < 11 → mayB (xs.getD i 0) = true) := fun i hi => hm _ (by rw [hxs, List.getD_eq_getElem?_getD, List.getElem?_eq_getElem (by omega)]; exact List.getElem_mem _)
  have HT6b : Hid (RdI w 0 (.slice (some ⟨g, off, none⟩) 6 cap) [x0, x1, x2, x3, x4, x5]) := HT6.out
  rw [hxs] at HX hc1 ⊢
  rw [hl] at HX hc1 ⊢
  have HS : Hid (∀ o j, sumA xs o (j + 1) = sumA xs o j + xs.getD (2 * j + o) 0) := fun _ _ => rfl
  have HS0 : Hid (sumA xs 0 0 = 0 ∧ sumA xs 1 0 = 0) := ⟨rfl, rfl⟩
  clear h ok hx hm hl hxs HT6
  unfold maxLen at hc2
  go_enter Tryz.func87, Tryz.ntmps87
  go_wp2_with fail
  go_loopw [4, 5, 6] (fun xv yv iv wr => ∃ (j i : Nat) (X Y : Int), j ≤ 5 ∧ xv = .int .i64 X ∧ yv = .int .i64 Y ∧ iv = .int .i64 (i : Nat) ∧ i = 2 * j ∧ -(2147483648 * (j : Int)) ≤ X ∧ X ≤ 2147483648 * (j : Int) ∧ -(2147483648 * (j : Int)) ≤ Y ∧ Y ≤ 2147483648 * (j : Int) ∧ Hid (X = sumA xs 0 j ∧ Y = sumA xs 1 j ∧ Kp [] w wr)) (fun _ _ iv _ => 10 - (intOf iv).toNat)
  case atStart => exact ⟨0, 0, 0, 0, by omega, rfl, rfl, rfl, rfl, by decide, by decide, by decide, by decide, HS0.out.1.symm, HS0.out.2.symm, Kp.refl _ _⟩
  case round =>
    obtain ⟨j, i, X, Y, hj, rfl, rfl, rfl, hij, hX1, hX2, hY1, hY2, HJ⟩ := hrel
    have HIJ := Lib.hid hij
    by_cases hlt : j < 5
    · obtain ⟨a, ha⟩ : ∃ a, xs.getD i 0 = a := ⟨_, rfl⟩
      obtain ⟨b, hb⟩ : ∃ b, xs.getD (i + 1) 0 = b := ⟨_, rfl⟩
      have ma := HMB.out i (by omega)
      have mb := HMB.out (i + 1) (by omega)
      rw [ha] at ma
      rw [hb] at mb
      have ma' := may_lo ma
      have mb' := may_lo mb
      have c0 := HX.out.cells (B := B) i (by rw [HL.out]; omega) (KT.of_kp0 HJ.out.2.2) a ha
      have c1 := HX.out.cells (B := B) (i + 1) (by rw [HL.out]; omega) (KT.of_kp0 HJ.out.2.2) b hb
      have HJ1 : Hid (X + a = sumA xs 0 (j + 1)) := by show _ = _; rw [HS.out, HJ.out.1, ← ha, hij]; rfl
      have HJ2 : Hid (Y + b = sumA xs 1 (j + 1)) := by show _ = _; rw [HS.out, HJ.out.2.1, ← hb, hij]
      have HK := Lib.hid HJ.out.2.2
      have hwx : IntKind.i64.wrap (X + a) = X + a := by rw [IntKind.wrap_i64]; omega
      have hwy : IntKind.i64.wrap (Y + b) = Y + b := by rw [IntKind.wrap_i64]; omega
      have hi10 : (i : Int) < 10 := by omega
      have hX1' : -(2147483648 * ((j + 1 : Nat) : Int)) ≤ X + a := by omega
      have hX2' : X + a ≤ 2147483648 * ((j + 1 : Nat) : Int) := by omega
      have hY1' : -(2147483648 * ((j + 1 : Nat) : Int)) ≤ Y + b := by omega
      have hY2' : Y + b ≤ 2147483648 * ((j + 1 : Nat) : Int) := by omega
      have HB4 := Lib.hid (And.intro hX1' (And.intro hX2' (And.intro hY1' hY2')))
      have hi8 : i ≤ 8 := by omega
      clear ha hb ma mb ma' mb' HJ hij hX1 hX2 hY1 hY2 hX1' hX2' hY1' hY2'
      go_wp2_with fail
      have q0 := KW.cell c0
      have q1 := KW.cell c1
      clear c0 c1
      refine wp_region_kq (by kernel_rfl) (by kernel_rfl) ?_
      repeat (go_big_quiet_step (fail))
      refine wpQuiet_nil ?_
      intro w1 hw'
      obtain ⟨⟨_, hkw1⟩, rfl⟩ := hw'
      clear q0 q1
      go_wp2_with fail
      have hrel' : (j + 1 : Nat) ≤ 5 ∧ Hid (X + a = sumA xs 0 (j + 1) ∧ Y + b = sumA xs 1 (j + 1) ∧ Kp [] w w1) := ⟨by omega, HJ1.out, HJ2.out, HK.out.trans hkw1⟩
      go_roundw
      case rel => first | exact ⟨j + 1, i + 2, _, _, hrel'.1, rfl, rfl, int_eq' (by omega), by have := HIJ.out; omega, HB4.out.1, HB4.out.2.1, HB4.out.2.2.1, HB4.out.2.2.2, hrel'.2⟩ | ((repeat apply Exists.intro); exact ⟨⟨j + 1, i + 2, _, _, hrel'.1, rfl, rfl, int_eq' (by omega), by have := HIJ.out; omega, HB4.out.1, HB4.out.2.1, HB4.out.2.2.1, HB4.out.2.2.2, hrel'.2⟩, rfl⟩)
      case measure => simp [intOf]; omega
    · obtain rfl : j = 5 := by omega
      obtain rfl : i = 10 := by omega
      have HXY : Hid (sumA xs 0 5 = X ∧ sumA xs 1 5 = Y) := ⟨HJ.out.1.symm, HJ.out.2.1.symm⟩
      rw [HXY.out.1, HXY.out.2] at HR
      have HK := Lib.hid HJ.out.2.2
      have hwx : IntKind.i64.wrap (-X) = -X := by rw [IntKind.wrap_i64]; omega
      have hwy : IntKind.i64.wrap (-Y) = -Y := by rw [IntKind.wrap_i64]; omega
      have c10 := HX.out.cells (B := B) 10 (by rw [HL.out]; omega) (KT.of_kp0 HK.out) x10 HG.out.2.2.2.2
      clear HJ HIJ HXY hX1 hX2 hY1 hY2 hij hlt hj
      go_wp2_with fail
      refine (HP.out q _ x0 x1 x2 x3 x4 x5 [] _ (HA.out.kp0 HK.out) HOK.out (Nat.le_trans hBw HK.out.size) (by exact HT6b.out.kp0 HK.out)).mono ?_; rintro r w2 ⟨rfl, hA2, hk2⟩
      have HA2 := Lib.hid hA2
      have HK2 : Hid (KT [] penTs B w w2) := (KT.of_kp0 HK.out).trans hk2
      have c10' := HX.out.cells (B := B) 10 (by rw [HL.out]; omega) HK2.out x10 HG.out.2.2.2.2
      have c6 := HX.out.cells (B := B) 6 (by rw [HL.out]; omega) HK2.out x6 HG.out.1
      have c7 := HX.out.cells (B := B) 7 (by rw [HL.out]; omega) HK2.out x7 HG.out.2.1
      have c8 := HX.out.cells (B := B) 8 (by rw [HL.out]; omega) HK2.out x8 HG.out.2.2.1
      have c9 := HX.out.cells (B := B) 9 (by rw [HL.out]; omega) HK2.out x9 HG.out.2.2.2.1
      have HQS : Hid (∀ W, Kp [] w2 W → W.cell? ⟨g, off + 6, none⟩ = some (.int .i64 x6) ∧ W.cell? ⟨g, off + 7, none⟩ = some (.int .i64 x7) ∧ W.cell? ⟨g, off + 8, none⟩ = some (.int .i64 x8) ∧ W.cell? ⟨g, off + 9, none⟩ = some (.int .i64 x9)) := fun W hW => ⟨hW.cell c6 (by simp), hW.cell c7 (by simp), hW.cell c8 (by simp), hW.cell c9 (by simp)⟩
      clear hA2 hk2 c10 c6 c7 c8 c9
      by_cases hcmp : max X (-X) ≤ max Y (-Y)
      · have HRR : Hid (flex1P q xs = curveP (curveP q x0 x1 x2 x3 x4 x5) x6 x7 x8 x9 (-X) x10) := HR.out.trans (if_pos hcmp)
        have hd : decide (max X (-X) ≤ max Y (-Y)) = true := decide_eq_true hcmp
        clear hcmp
        go_wp2_with fail
        have q10 := KW.cell c10'
        refine wp_region_kq (by kernel_rfl) (by kernel_rfl) ?_
        repeat (go_big_quiet_step (fail))
        refine wpQuiet_nil ?_
        intro w3 hw'
        obtain ⟨⟨_, hkw3⟩, rfl⟩ := hw'
        clear q10
        go_wp2_with fail
        obtain ⟨d6, d7, d8, d9⟩ := HQS.out w3 hkw3
        have q6 := KW.cell d6
        have q7 := KW.cell d7
        have q8 := KW.cell d8
        have q9 := KW.cell d9
        clear d6 d7 d8 d9
        refine wp_region_plan [0] [1, 2, 3, 4, 5, 6, 7, 8, 9, 10, 11, 12, 13, 14] [15, 16] (by kernel_rfl) (by kernel_rfl) ?_
        simp only [pickAt_nil, pickAt_cons, List.getElem?_cons_zero, List.getElem?_cons_succ, Option.toList_some, List.cons_append, List.nil_append]
        repeat (go_big_quiet_step (fail))
        refine wpQuiet_nil ?_
        repeat (go_big_quiet_step (fail))
        refine wpQuiet_nil ?_
        intro w4 hw'
        obtain ⟨⟨_, hkw4⟩, rfl⟩ := hw'
        try dsimp only
        go_wp2_with fail
        refine (HP.out _ _ x6 x7 x8 x9 (-X) x10 [] _ (HA2.out.kp0 (hkw3.trans (hkw4.trans ((Kp.refl _ _).alloc _)))) (okP_curve HOK.out _ _ _ _ _ _) (by have := HK2.out.size; have := hkw3.size; have := hkw4.size; simp; omega) (by exact RdI.made w4 [x6, x7, x8, x9, -X, x10] 6 _ rfl (by decide) (by decide) rfl)).mono ?_; rintro r w5 ⟨rfl, hA5, hk5⟩
        go_wp2_with fail
        refine QN.intro ?_
        go_wp2_with fail
        go_end0
        exact ⟨rfl, by rw [HRR.out]; exact hA5, HK2.out.trans ((KT.of_kp0 (hkw3.trans (hkw4.trans ((Kp.refl _ _).alloc _)))).trans hk5)⟩
      · have HRR : Hid (flex1P q xs = curveP (curveP q x0 x1 x2 x3 x4 x5) x6 x7 x8 x9 x10 (-Y)) := HR.out.trans (if_neg hcmp)
        have hd : decide (max X (-X) ≤ max Y (-Y)) = false := decide_eq_false hcmp
        clear hcmp
        go_wp2_with fail
        obtain ⟨d6, d7, d8, d9⟩ := HQS.out w2 (Kp.refl _ _)
        have q6 := KW.cell d6
        have q7 := KW.cell d7
        have q8 := KW.cell d8
        have q9 := KW.cell d9
        clear d6 d7 d8 d9
        refine wp_region_plan [0] [1, 2, 3, 4, 5, 6, 7, 8, 9, 10, 11, 12, 13, 14] [15, 16] (by kernel_rfl) (by kernel_rfl) ?_
        simp only [pickAt_nil, pickAt_cons, List.getElem?_cons_zero, List.getElem?_cons_succ, Option.toList_some, List.cons_append, List.nil_append]
        repeat (go_big_quiet_step (fail))
        refine wpQuiet_nil ?_
        repeat (go_big_quiet_step (fail))
        refine wpQuiet_nil ?_
        intro w4 hw'
        obtain ⟨⟨_, hkw4⟩, rfl⟩ := hw'
        try dsimp only
        go_wp2_with fail
        refine (HP.out _ _ x6 x7 x8 x9 x10 (-Y) [] _ (HA2.out.kp0 (hkw4.trans ((Kp.refl _ _).alloc _))) (okP_curve HOK.out _ _ _ _ _ _) (by have := HK2.out.size; have := hkw4.size; simp; omega) (by exact RdI.made w4 [x6, x7, x8, x9, x10, -Y] 6 _ rfl (by decide) (by decide) rfl)).mono ?_; rintro r w5 ⟨rfl, hA5, hk5⟩
        go_wp2_with fail
        refine QN.intro ?_
        go_wp2_with fail
        go_end0
        exact ⟨rfl, by rw [HRR.out]; exact hA5, HK2.out.trans ((KT.of_kp0 (hkw4.trans ((Kp.refl _ _).alloc _))).trans hk5)⟩
end Go.Proofs.YtfgpocpfapnkkaaGreat
namespace Go.Proofs.YtfgpocpfapnkkaaGreat
open Go.RowKit
set_option linter.unusedVariables false
set_option linter.unusedSimpArgs false
theorem wp_genT {P : Program} {c : Code} {Q : Exit → Act → World → Prop} {a : Act} {w : World} (h : ∀ W, W = w → Code.wp P c Q a W) : Code.wp P c Q a w := h w rfl
section
variable (p B : Nat) (q : Pe) (v : Value) (w : World) (h : PenA w p B q) (ok : okP q) (hBw : B ≤ w.heap.size)
include h ok hBw
set_option maxRecDepth 100000 in
theorem ps1_calls (a b : Int) (hx : RdI w 0 v [a, b]) : Calls Tryz.prog 68 #[.pointer (some ⟨p, 0, none⟩), v] w (PenP w p B (moveP q a b)) := by
  obtain ⟨g, off, cap, rfl, hc1, hc2, _⟩ := hx.at (by simp)
  have HX := Lib.hid hx
  have HA := Lib.hid h
  have HOK := Lib.hid ok
  have c0 : w.cell? ⟨g, off, none⟩ = some (.int .i64 a) := by have := HX.out.cells (B := B) 0 (by simp) (KT.refl [] penTs B w) a rfl; rwa [Nat.add_zero] at this
  have c1 := HX.out.cells (B := B) 1 (by simp) (KT.refl [] penTs B w) b rfl
  rw [show ([a, b] : List Int).length = 2 from rfl] at hc1 ⊢
  clear hx h ok
  go_enter Tryz.func68, Tryz.ntmps68
  go_wp2_with fail
  have q0 := KW.cell c0
  have q1 := KW.cell c1
  clear c0 c1
  refine wp_region_kqt 7 (by kernel_rfl) (by kernel_rfl) ?_
  simp only [List.take_succ_cons, List.take_zero, List.drop_succ_cons, List.drop_zero]
  repeat (go_big_quiet_step (fail))
  refine wpQuiet_nil ?_
  intro w1 hw'
  obtain ⟨⟨_, hkw1⟩, rfl⟩ := hw'
  try dsimp only
  go_wp2_with fail
  refine (pmove_calls p B q a b w1 (HA.out.kp0 hkw1) HOK.out (Nat.le_trans hBw hkw1.size)).mono ?_; rintro r w2 ⟨rfl, hA2, hk2⟩
  go_wp2_with fail
  go_end0
  exact ⟨rfl, hA2, (KT.of_kp0 hkw1).trans hk2⟩
set_option maxRecDepth 100000 in
theorem ps2_calls (a : Int) (hx : RdI w 0 v [a]) : Calls Tryz.prog 70 #[.pointer (some ⟨p, 0, none⟩), v] w (PenP w p B (moveP q a 0)) := by
  obtain ⟨g, off, cap, rfl, hc1, hc2, _⟩ := hx.at (by simp)
  have HP := Lib.hid (pmove_calls p B q a 0 w h ok hBw)
  have c0 : w.cell? ⟨g, off, none⟩ = some (.int .i64 a) := by have := hx.cells (B := B) 0 (by simp) (KT.refl [] penTs B w) a rfl; rwa [Nat.add_zero] at this
  rw [show ([a] : List Int).length = 1 from rfl] at hc1 ⊢
  clear hx h ok
  go_enter Tryz.func70, Tryz.ntmps70
  go_wp2_with fail
  refine HP.out.mono ?_; rintro r w2 ⟨rfl, hA2, hk2⟩
  go_wp2_with fail
  go_end0
  exact ⟨rfl, hA2, hk2⟩
set_option maxRecDepth 100000 in
theorem ps3_calls (a : Int) (hx : RdI w 0 v [a]) : Calls Tryz.prog 71 #[.pointer (some ⟨p, 0, none⟩), v] w (PenP w p B (moveP q 0 a)) := by
  obtain ⟨g, off, cap, rfl, hc1, hc2, _⟩ := hx.at (by simp)
  have HP := Lib.hid (pmove_calls p B q 0 a w h ok hBw)
  have c0 : w.cell? ⟨g, off, none⟩ = some (.int .i64 a) := by have := hx.cells (B := B) 0 (by simp) (KT.refl [] penTs B w) a rfl; rwa [Nat.add_zero] at this
  rw [show ([a] : List Int).length = 1 from rfl] at hc1 ⊢
  clear hx h ok
  go_enter Tryz.func71, Tryz.ntmps71
  go_wp2_with fail
  refine HP.out.mono ?_; rintro r w2 ⟨rfl, hA2, hk2⟩
  go_wp2_with fail
  go_end0
  exact ⟨rfl, hA2, hk2⟩
theorem ps4_calls (xs : List Int) (hx : RdI w 0 v xs) : Calls Tryz.prog 73 #[.pointer (some ⟨p, 0, none⟩), v] w (PenP w p B (stepsP q true xs)) := by
  have HP := Lib.hid (psteps_calls p B q v xs true w h ok hBw hx)
  obtain ⟨pa, ca, rfl⟩ := hx.form
  generalize xs.length = N at *
  clear hx h ok
  go_enter Tryz.func73, Tryz.ntmps73
  go_wp2_with fail
  refine HP.out.mono ?_; rintro r w2 ⟨rfl, hA2, hk2⟩
  go_wp2_with fail
  go_end0
  exact ⟨rfl, hA2, hk2⟩
theorem ps5_calls (xs : List Int) (hx : RdI w 0 v xs) : Calls Tryz.prog 75 #[.pointer (some ⟨p, 0, none⟩), v] w (PenP w p B (stepsP q false xs)) := by
  have HP := Lib.hid (psteps_calls p B q v xs false w h ok hBw hx)
  obtain ⟨pa, ca, rfl⟩ := hx.form
  generalize xs.length = N at *
  clear hx h ok
  go_enter Tryz.func75, Tryz.ntmps75
  go_wp2_with fail
  refine HP.out.mono ?_; rintro r w2 ⟨rfl, hA2, hk2⟩
  go_wp2_with fail
  go_end0
  exact ⟨rfl, hA2, hk2⟩
theorem ps6_calls (xs : List Int) (hx : RdI w 0 v xs) : Calls Tryz.prog 81 #[.pointer (some ⟨p, 0, none⟩), v] w (PenP w p B (turnsP q false xs)) := by
  have HP := Lib.hid (pturns_calls p B q v xs false w h ok hBw hx)
  obtain ⟨pa, ca, rfl⟩ := hx.form
  generalize xs.length = N at *
  clear hx h ok
  go_enter Tryz.func81, Tryz.ntmps81
  go_wp2_with fail
  refine HP.out.mono ?_; rintro r w2 ⟨rfl, hA2, hk2⟩
  go_wp2_with fail
  go_end0
  exact ⟨rfl, hA2, hk2⟩
theorem ps7_calls (xs : List Int) (hx : RdI w 0 v xs) : Calls Tryz.prog 83 #[.pointer (some ⟨p, 0, none⟩), v] w (PenP w p B (turnsP q true xs)) := by
  have HP := Lib.hid (pturns_calls p B q v xs true w h ok hBw hx)
  obtain ⟨pa, ca, rfl⟩ := hx.form
  generalize xs.length = N at *
  clear hx h ok
  go_enter Tryz.func83, Tryz.ntmps83
  go_wp2_with fail
  refine HP.out.mono ?_; rintro r w2 ⟨rfl, hA2, hk2⟩
  go_wp2_with fail
  go_end0
  exact ⟨rfl, hA2, hk2⟩
theorem ps8_calls (xs : List Int) (hx : RdI w 0 v xs) (hl : xs.length = 13) : Calls Tryz.prog 85 #[.pointer (some ⟨p, 0, none⟩), v] w (PenP w p B (curvesP q (xs.take 12))) := by
  obtain ⟨g, off, cap, rfl, hc1, hc2, _⟩ := hx.at (by omega)
  have HP := Lib.hid (pcurves_calls p B q _ (xs.take 12) w h ok hBw (hx.take 12 (by decide) (by omega)))
  rw [hl] at hc1 ⊢
  generalize xs.take 12 = x2 at *
  clear hx h ok hl
  unfold maxLen at hc2
  go_enter Tryz.func85, Tryz.ntmps85
  go_wp2_with fail
  refine HP.out.mono ?_; rintro r w2 ⟨rfl, hA2, hk2⟩
  go_wp2_with fail
  go_end0
  exact ⟨rfl, hA2, hk2⟩
end
/-- An operator that draws. -/
structure Sk where
  op : Int
  least : Nat
  by_ : Nat
  over : Nat
  wide : Bool
  k : Nat
  F : Pe → List Int → Pe
def skOk (s : Sk) (n : Nat) : Bool := if s.by_ = 0 then decide (n = s.least) else decide (s.least ≤ n) && decide ((n - s.least) % s.by_ ≤ s.over)
def skCells (s : Sk) : Array Value := #[.int .i64 s.op, .int .i64 s.least, .int .i64 s.by_, .int .i64 s.over, .bool s.wide, .func (.func s.k) #[] #[]]
def sks : List Sk := [
  ⟨21, 2, 0, 0, true, 68, fun q l => moveP q (l.getD 0 0) (l.getD 1 0)⟩,
  ⟨22, 1, 0, 0, true, 70, fun q l => moveP q (l.getD 0 0) 0⟩,
  ⟨4, 1, 0, 0, true, 71, fun q l => moveP q 0 (l.getD 0 0)⟩,
  ⟨5, 2, 2, 0, false, 72, linesP⟩,
  ⟨6, 1, 1, 0, false, 73, fun q l => stepsP q true l⟩,
  ⟨7, 1, 1, 0, false, 75, fun q l => stepsP q false l⟩,
  ⟨8, 6, 6, 0, false, 76, curvesP⟩,
  ⟨24, 8, 6, 0, false, 77, curvesLineP⟩,
  ⟨25, 8, 2, 0, false, 78, linesCurveP⟩,
  ⟨26, 4, 4, 1, false, 79, fun q l => uprightP q (extraV l) (extraL l)⟩,
  ⟨27, 4, 4, 1, false, 80, fun q l => levelP q (extraV l) (extraL l)⟩,
  ⟨30, 4, 4, 1, false, 81, fun q l => turnsP q false l⟩,
  ⟨31, 4, 4, 1, false, 83, fun q l => turnsP q true l⟩,
  ⟨290, 7, 0, 0, false, 84, hflexP⟩,
  ⟨291, 13, 0, 0, false, 85, fun q l => curvesP q (l.take 12)⟩,
  ⟨292, 9, 0, 0, false, 86, hflex1P⟩,
  ⟨293, 11, 0, 0, false, 87, flex1P⟩]
/-- What an operator's function does. -/
def SkC (s : Sk) : Prop := (∀ (args : Array Value) (w : World), (callFunc s.k args).run Tryz.prog w = .ok (.enter s.k args) w) ∧
  ∀ (p B : Nat) (q : Pe) (v : Value) (xs : List Int) (w : World), PenA w p B q → okP q → B ≤ w.heap.size → RdI w 0 v xs → (∀ x ∈ xs, mayB x = true) → skOk s xs.length = true → Calls Tryz.prog s.k #[.pointer (some ⟨p, 0, none⟩), v] w (PenP w p B (s.F q xs))
theorem extra_len (xs : List Int) (h : 4 ≤ xs.length ∧ (xs.length - 4) % 4 ≤ 1) : (extraL xs).length % 4 = 0 := by
  unfold extraL
  split
  · assumption
  · simp; omega
theorem sk_all : ∀ s ∈ sks, SkC s := by
  intro s hs
  simp only [sks, List.mem_cons, List.not_mem_nil, or_false] at hs
  rcases hs with rfl | rfl | rfl | rfl | rfl | rfl | rfl | rfl | rfl | rfl | rfl | rfl | rfl | rfl | rfl | rfl | rfl
  · refine ⟨Tryz.call68, fun p B q v xs w h ok hB hx hm hl => ?_⟩
    have hl2 : xs.length = 2 := by simpa [skOk] using hl
    match xs, hl2 with
    | [a, b], _ => exact ps1_calls p B q v w h ok hB a b hx
  · refine ⟨Tryz.call70, fun p B q v xs w h ok hB hx hm hl => ?_⟩
    have hl2 : xs.length = 1 := by simpa [skOk] using hl
    match xs, hl2 with
    | [a], _ => exact ps2_calls p B q v w h ok hB a hx
  · refine ⟨Tryz.call71, fun p B q v xs w h ok hB hx hm hl => ?_⟩
    have hl2 : xs.length = 1 := by simpa [skOk] using hl
    match xs, hl2 with
    | [a], _ => exact ps3_calls p B q v w h ok hB a hx
  · exact ⟨Tryz.call72, fun p B q v xs w h ok hB hx hm hl => plines_calls p B q v xs w h ok hB hx⟩
  · exact ⟨Tryz.call73, fun p B q v xs w h ok hB hx hm hl => ps4_calls p B q v w h ok hB xs hx⟩
  · exact ⟨Tryz.call75, fun p B q v xs w h ok hB hx hm hl => ps5_calls p B q v w h ok hB xs hx⟩
  · exact ⟨Tryz.call76, fun p B q v xs w h ok hB hx hm hl => pcurves_calls p B q v xs w h ok hB hx⟩
  · exact ⟨Tryz.call77, fun p B q v xs w h ok hB hx hm hl => pcurvesLine_calls p B q v xs w h ok hB hx (by simp [skOk] at hl; omega)⟩
  · exact ⟨Tryz.call78, fun p B q v xs w h ok hB hx hm hl => plinesCurve_calls p B q v xs w h ok hB hx (by simp [skOk] at hl; omega)⟩
  · exact ⟨Tryz.call79, fun p B q v xs w h ok hB hx hm hl => pupright_calls p B q v xs w h ok hB hx (extra_len xs (by simpa [skOk] using hl))⟩
  · exact ⟨Tryz.call80, fun p B q v xs w h ok hB hx hm hl => plevel_calls p B q v xs w h ok hB hx (extra_len xs (by simpa [skOk] using hl))⟩
  · exact ⟨Tryz.call81, fun p B q v xs w h ok hB hx hm hl => ps6_calls p B q v w h ok hB xs hx⟩
  · exact ⟨Tryz.call83, fun p B q v xs w h ok hB hx hm hl => ps7_calls p B q v w h ok hB xs hx⟩
  · refine ⟨Tryz.call84, fun p B q v xs w h ok hB hx hm hl => ?_⟩
    have hl2 : xs.length = 7 := by simpa [skOk] using hl
    match xs, hl2 with
    | [x0, x1, x2, x3, x4, x5, x6], _ => exact phflex_calls p B q v x0 x1 x2 x3 x4 x5 x6 w h ok hB hx hm
  · exact ⟨Tryz.call85, fun p B q v xs w h ok hB hx hm hl => ps8_calls p B q v w h ok hB xs hx (by simpa [skOk] using hl)⟩
  · refine ⟨Tryz.call86, fun p B q v xs w h ok hB hx hm hl => ?_⟩
    have hl2 : xs.length = 9 := by simpa [skOk] using hl
    match xs, hl2 with
    | [x0, x1, x2, x3, x4, x5, x6, x7, x8], _ => exact phflex1_calls p B q v x0 x1 x2 x3 x4 x5 x6 x7 x8 w h ok hB hx hm
  · refine ⟨Tryz.call87, fun p B q v xs w h ok hB hx hm hl => ?_⟩
    have hl2 : xs.length = 11 := by simpa [skOk] using hl
    match xs, hl2 with
    | [x0, x1, x2, x3, x4, x5, x6, x7, x8, x9, x10], _ => exact pflex1_calls p B q v x0 x1 x2 x3 x4 x5 x6 x7 x8 x9 x10 w h ok hB hx hm
end Go.Proofs.YtfgpocpfapnkkaaGreat

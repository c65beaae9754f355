/- corner, Dots, lives (Written by wip/curve/gencul.py.) -/
import Derived.Test.YtfdognnjghdikaaCuH
namespace Go.Proofs.Ytfdognnjghdikaa
open Go.RowKit
set_option linter.unusedVariables false
set_option linter.unusedSimpArgs false
theorem box9k {W X : World} {b : Nat} {v0 v1 v2 v3 v4 v5 v6 v7 v8 : Value} (hk : Kp [] W X) (h : W.cell? ⟨b, 0, none⟩ = some v0 ∧ W.cell? ⟨b, 1, none⟩ = some v1 ∧ W.cell? ⟨b, 2, none⟩ = some v2 ∧ W.cell? ⟨b, 3, none⟩ = some v3 ∧ W.cell? ⟨b, 4, none⟩ = some v4 ∧ W.cell? ⟨b, 5, none⟩ = some v5 ∧ W.cell? ⟨b, 6, none⟩ = some v6 ∧ W.cell? ⟨b, 7, none⟩ = some v7 ∧ W.cell? ⟨b, 8, none⟩ = some v8) :
    X.cell? ⟨b, 0, none⟩ = some v0 ∧ X.cell? ⟨b, 1, none⟩ = some v1 ∧ X.cell? ⟨b, 2, none⟩ = some v2 ∧ X.cell? ⟨b, 3, none⟩ = some v3 ∧ X.cell? ⟨b, 4, none⟩ = some v4 ∧ X.cell? ⟨b, 5, none⟩ = some v5 ∧ X.cell? ⟨b, 6, none⟩ = some v6 ∧ X.cell? ⟨b, 7, none⟩ = some v7 ∧ X.cell? ⟨b, 8, none⟩ = some v8 := by
  obtain ⟨h0, h1, h2, h3, h4, h5, h6, h7, h8⟩ := h
  exact ⟨hk.cell h0 (by simp), hk.cell h1 (by simp), hk.cell h2 (by simp), hk.cell h3 (by simp), hk.cell h4 (by simp), hk.cell h5 (by simp), hk.cell h6 (by simp), hk.cell h7 (by simp), hk.cell h8 (by simp)⟩
theorem box2k {W X : World} {b : Nat} {v0 v1 : Value} (hk : Kp [] W X) (h : W.cell? ⟨b, 0, none⟩ = some v0 ∧ W.cell? ⟨b, 1, none⟩ = some v1) : X.cell? ⟨b, 0, none⟩ = some v0 ∧ X.cell? ⟨b, 1, none⟩ = some v1 :=
  ⟨hk.cell h.1 (by simp), hk.cell h.2 (by simp)⟩
theorem neq_func (f : Fn) (g : Array Value) (cs : Array Value) (w : World) : (binOp .neq 36 (.func f g cs) .nilFunc).run Try.prog w = .ok (.bool true) w := by
  first | rfl | kernel_rfl | (simp [binOp, go_sem]; done)
theorem field_a (v0 v1 v2 v3 v4 v5 v6 v7 v8 : Value) (w : World) : (Instr.field 25 (.agg #[v0, v1, v2, v3, v4, v5, v6, v7, v8]) 1).run Try.prog w = .ok (.agg #[v1, v2]) w := by
  first | rfl | kernel_rfl | (simp [Instr.field, go_sem]; done)
def cornerQ : Bw := ⟨2, (0, 0), (64, 0), (0, 0), (64, 64)⟩
theorem corner_calls (w : World) : Calls Try.prog 23 #[] w fun e w' => e = .returned (bowV cornerQ) ∧ Kp [] w w' := by
  go_enter Try.func23, Try.ntmps23
  go_wp2_with fail
  refine bodyPost_ret (v := bowV cornerQ) (by simp [results, Try.results23, go_sem, bowV, cornerQ]) rfl ⟨rfl, by (repeat (first | exact Kp.refl _ _ | assumption | refine Kp.drew ?_ | refine Kp.drewN ?_ _ | refine Kp.alloc ?_ _ | (refine Kp.setCell ?_ (by first | (left; simp; done) | (right; simp; try omega)) _) | (refine Kp.trans' ?_ (by assumption) (by simp; try omega))))⟩
theorem corner_may : mayW cornerQ = true := by decide
theorem zero_may : mayW ⟨0, (0, 0), (0, 0), (0, 0), (0, 0)⟩ = false := by decide
theorem corner_at : atQ cornerQ 1 2 = (48, 16) := by decide
theorem corner_bend : bendQ cornerQ = 64 := by decide
theorem corner_pieces : piecesQ (needsQ cornerQ) = 3 := by decide
theorem cdots_calls (q : Bw) (w : World) : Calls Try.prog 19 #[bowV q] w fun e w' => e = .returned (.func (.func 30) #[] #[.pointer (some ⟨w.heap.size, 0, none⟩)]) ∧ w' = (w.alloc (.cells #[.int .i64 q.k, .int .i64 q.a.1, .int .i64 q.a.2, .int .i64 q.b.1, .int .i64 q.b.2, .int .i64 q.c.1, .int .i64 q.c.2, .int .i64 q.d.1, .int .i64 q.d.2] 25)) := by
  show Calls Try.prog 19 #[.agg #[.int .i64 q.k, .int .i64 q.a.1, .int .i64 q.a.2, .int .i64 q.b.1, .int .i64 q.b.2, .int .i64 q.c.1, .int .i64 q.c.2, .int .i64 q.d.1, .int .i64 q.d.2]] w _
  go_enter Try.func19, Try.ntmps19
  go_wp2_with fail
  go_ret
  exact ⟨rfl, rfl⟩
set_option maxRecDepth 100000 in
set_option maxHeartbeats 4000000 in
theorem lives20_calls (w : World) : Calls Try.prog 10 #[] w fun e w' => e = .returned (.bool true) ∧ Kp [] w w' := by
  have HAT : Hid (∀ w : World, Calls Try.prog 17 #[.agg #[.int .i64 2, .int .i64 0, .int .i64 0, .int .i64 64, .int .i64 0, .int .i64 0, .int .i64 0, .int .i64 64, .int .i64 64], .int .i64 1, .int .i64 2] w fun e w' => e = .returned (.tuple #[.agg #[.int .i64 48, .int .i64 16], .int .i64 0]) ∧ Kp [] w w') := fun w => by
    have := cat_ok cornerQ corner_may 1 2 (by decide) (by decide) (by decide) (by decide) w
    rw [corner_at] at this; exact this
  have HNO : Hid (∀ w : World, Calls Try.prog 17 #[.agg #[.int .i64 2, .int .i64 0, .int .i64 0, .int .i64 64, .int .i64 0, .int .i64 0, .int .i64 0, .int .i64 64, .int .i64 64], .int .i64 3, .int .i64 2] w fun e w' => e = .returned (.tuple #[.agg #[.int .i64 0, .int .i64 0], .int .i64 1]) ∧ Kp [] w w') := fun w => cat_no cornerQ 3 2 (by decide) w
  have HMY : Hid (∀ w : World, Calls Try.prog 11 #[.agg #[.int .i64 2, .int .i64 0, .int .i64 0, .int .i64 64, .int .i64 0, .int .i64 0, .int .i64 0, .int .i64 64, .int .i64 64]] w fun e w' => e = .returned (.bool true) ∧ Kp [] w w') := fun w => by
    have := cmay_calls cornerQ w
    rw [corner_may] at this; exact this
  have HMZ : Hid (∀ w : World, Calls Try.prog 11 #[.agg #[.int .i64 0, .int .i64 0, .int .i64 0, .int .i64 0, .int .i64 0, .int .i64 0, .int .i64 0, .int .i64 0, .int .i64 0]] w fun e w' => e = .returned (.bool false) ∧ Kp [] w w') := fun w => by
    have := cmay_calls ⟨0, (0, 0), (0, 0), (0, 0), (0, 0)⟩ w
    rw [zero_may] at this; exact this
  have HBE : Hid (∀ w : World, Calls Try.prog 8 #[.agg #[.int .i64 2, .int .i64 0, .int .i64 0, .int .i64 64, .int .i64 0, .int .i64 0, .int .i64 0, .int .i64 64, .int .i64 64]] w fun e w' => e = .returned (.int .i64 64) ∧ Kp [] w w') := fun w => by
    have := cbend_calls cornerQ corner_may w
    rw [corner_bend] at this; exact this
  have HPC : Hid (∀ w : World, Calls Try.prog 9 #[.agg #[.int .i64 2, .int .i64 0, .int .i64 0, .int .i64 64, .int .i64 0, .int .i64 0, .int .i64 0, .int .i64 64, .int .i64 64]] w fun e w' => e = .returned (.int .i64 3) ∧ Kp [] w w') := fun w => by
    have := cpieces_calls cornerQ corner_may w
    rw [corner_pieces] at this; exact this
  have HTU : Hid (∀ w : World, Calls Try.prog 13 #[.agg #[.int .i64 2, .int .i64 0, .int .i64 0, .int .i64 64, .int .i64 0, .int .i64 0, .int .i64 0, .int .i64 64, .int .i64 64]] w fun e w' => e = .returned (.agg #[.int .i64 2, .int .i64 64, .int .i64 64, .int .i64 64, .int .i64 0, .int .i64 0, .int .i64 0, .int .i64 0, .int .i64 0]) ∧ Kp [] w w') := fun w => turn_calls cornerQ w
  have HDO : Hid (∀ w : World, Calls Try.prog 19 #[.agg #[.int .i64 2, .int .i64 0, .int .i64 0, .int .i64 64, .int .i64 0, .int .i64 0, .int .i64 0, .int .i64 64, .int .i64 64]] w fun e w' => (∃ g cs, e = .returned (.func (.func 30) g cs)) ∧ Kp [] w w') := fun w => (cdots_calls cornerQ w).mono fun e w' ⟨h, h2⟩ => ⟨⟨_, _, h⟩, by rw [h2]; exact (Kp.refl _ _).alloc _⟩
  have HCO : Hid (∀ w : World, Calls Try.prog 23 #[] w fun e w' => e = .returned (.agg #[.int .i64 2, .int .i64 0, .int .i64 0, .int .i64 64, .int .i64 0, .int .i64 0, .int .i64 0, .int .i64 64, .int .i64 64]) ∧ Kp [] w w') := fun w => corner_calls w
  go_enter Try.func10, Try.ntmps10
  go_wp2_with fail
  have Z_w : Kp [] w w := Kp.refl _ _
  refine (HCO.out _).mono ?_; rintro e v1 ⟨rfl, hkv1⟩
  have Z_v1 : Kp [] w v1 := by first | exact Z_w.trans hkv1 | exact Z_w.trans (((Kp.refl _ _).alloc _).trans hkv1) | exact Z_w.trans ((Kp.refl _ _).drew.trans hkv1)
  go_wp2_with fail
  refine (HAT.out _).mono ?_; rintro e v2 ⟨rfl, hkv2⟩
  have Z_v2 : Kp [] w v2 := by first | exact Z_v1.trans hkv2 | exact Z_v1.trans (((Kp.refl _ _).alloc _).trans hkv2) | exact Z_v1.trans ((Kp.refl _ _).drew.trans hkv2)
  have hkv2a : Kp [] v2 (v2.alloc (.cells #[.int .i64 48, .int .i64 16] 23)) := (Kp.refl _ _).alloc _
  have hcb := box2 (Kp.refl [] (v2.alloc (.cells #[.int .i64 48, .int .i64 16] 23)))
  have Z_v2a : Kp [] w (v2.alloc (.cells #[.int .i64 48, .int .i64 16] 23)) := Z_v2.trans hkv2a
  go_wp2_with fail
  generalize v2.alloc (.cells #[.int .i64 48, .int .i64 16] 23) = v2a at *
  generalize v2.heap.size = Bv2 at *
  have Hv2 := Lib.hid hcb
  clear hcb
  have K_v2a_v2a : Kp [] v2a v2a := Kp.refl _ _
  obtain ⟨e2_0, e2_1⟩ := Hv2.out
  refine (HCO.out _).mono ?_; rintro e v3 ⟨rfl, hkv3⟩
  clear e2_0 e2_1
  have Z_v3 : Kp [] w v3 := by first | exact Z_v2a.trans hkv3 | exact Z_v2a.trans (((Kp.refl _ _).alloc _).trans hkv3) | exact Z_v2a.trans ((Kp.refl _ _).drew.trans hkv3)
  have K_v2a_v3 : Kp [] v2a v3 := by first | exact K_v2a_v2a.trans hkv3 | exact K_v2a_v2a.trans (((Kp.refl _ _).alloc _).trans hkv3) | exact K_v2a_v2a.trans ((Kp.refl _ _).drew.trans hkv3)
  obtain ⟨e2_0, e2_1⟩ := box2k K_v2a_v3 Hv2.out
  go_wp2_with fail
  refine (HNO.out _).mono ?_; rintro e v4 ⟨rfl, hkv4⟩
  clear e2_0 e2_1
  have Z_v4 : Kp [] w v4 := by first | exact Z_v3.trans hkv4 | exact Z_v3.trans (((Kp.refl _ _).alloc _).trans hkv4) | exact Z_v3.trans ((Kp.refl _ _).drew.trans hkv4)
  have K_v2a_v4 : Kp [] v2a v4 := by first | exact K_v2a_v3.trans hkv4 | exact K_v2a_v3.trans (((Kp.refl _ _).alloc _).trans hkv4) | exact K_v2a_v3.trans ((Kp.refl _ _).drew.trans hkv4)
  obtain ⟨e2_0, e2_1⟩ := box2k K_v2a_v4 Hv2.out
  go_wp2_with fail
  refine (HCO.out _).mono ?_; rintro e v5 ⟨rfl, hkv5⟩
  clear e2_0 e2_1
  have Z_v5 : Kp [] w v5 := by first | exact Z_v4.trans hkv5 | exact Z_v4.trans (((Kp.refl _ _).alloc _).trans hkv5) | exact Z_v4.trans ((Kp.refl _ _).drew.trans hkv5)
  have K_v2a_v5 : Kp [] v2a v5 := by first | exact K_v2a_v4.trans hkv5 | exact K_v2a_v4.trans (((Kp.refl _ _).alloc _).trans hkv5) | exact K_v2a_v4.trans ((Kp.refl _ _).drew.trans hkv5)
  obtain ⟨e2_0, e2_1⟩ := box2k K_v2a_v5 Hv2.out
  go_wp2_with fail
  refine (HMY.out _).mono ?_; rintro e v6 ⟨rfl, hkv6⟩
  clear e2_0 e2_1
  have Z_v6 : Kp [] w v6 := by first | exact Z_v5.trans hkv6 | exact Z_v5.trans (((Kp.refl _ _).alloc _).trans hkv6) | exact Z_v5.trans ((Kp.refl _ _).drew.trans hkv6)
  have K_v2a_v6 : Kp [] v2a v6 := by first | exact K_v2a_v5.trans hkv6 | exact K_v2a_v5.trans (((Kp.refl _ _).alloc _).trans hkv6) | exact K_v2a_v5.trans ((Kp.refl _ _).drew.trans hkv6)
  obtain ⟨e2_0, e2_1⟩ := box2k K_v2a_v6 Hv2.out
  go_wp2_with fail
  refine (HMZ.out _).mono ?_; rintro e v7 ⟨rfl, hkv7⟩
  clear e2_0 e2_1
  have Z_v7 : Kp [] w v7 := by first | exact Z_v6.trans hkv7 | exact Z_v6.trans (((Kp.refl _ _).alloc _).trans hkv7) | exact Z_v6.trans ((Kp.refl _ _).drew.trans hkv7)
  have K_v2a_v7 : Kp [] v2a v7 := by first | exact K_v2a_v6.trans hkv7 | exact K_v2a_v6.trans (((Kp.refl _ _).alloc _).trans hkv7) | exact K_v2a_v6.trans ((Kp.refl _ _).drew.trans hkv7)
  obtain ⟨e2_0, e2_1⟩ := box2k K_v2a_v7 Hv2.out
  go_wp2_with fail
  refine (HCO.out _).mono ?_; rintro e v8 ⟨rfl, hkv8⟩
  clear e2_0 e2_1
  have Z_v8 : Kp [] w v8 := by first | exact Z_v7.trans hkv8 | exact Z_v7.trans (((Kp.refl _ _).alloc _).trans hkv8) | exact Z_v7.trans ((Kp.refl _ _).drew.trans hkv8)
  have K_v2a_v8 : Kp [] v2a v8 := by first | exact K_v2a_v7.trans hkv8 | exact K_v2a_v7.trans (((Kp.refl _ _).alloc _).trans hkv8) | exact K_v2a_v7.trans ((Kp.refl _ _).drew.trans hkv8)
  obtain ⟨e2_0, e2_1⟩ := box2k K_v2a_v8 Hv2.out
  go_wp2_with fail
  refine (HBE.out _).mono ?_; rintro e v9 ⟨rfl, hkv9⟩
  clear e2_0 e2_1
  have Z_v9 : Kp [] w v9 := by first | exact Z_v8.trans hkv9 | exact Z_v8.trans (((Kp.refl _ _).alloc _).trans hkv9) | exact Z_v8.trans ((Kp.refl _ _).drew.trans hkv9)
  have K_v2a_v9 : Kp [] v2a v9 := by first | exact K_v2a_v8.trans hkv9 | exact K_v2a_v8.trans (((Kp.refl _ _).alloc _).trans hkv9) | exact K_v2a_v8.trans ((Kp.refl _ _).drew.trans hkv9)
  obtain ⟨e2_0, e2_1⟩ := box2k K_v2a_v9 Hv2.out
  go_wp2_with fail
  refine (HCO.out _).mono ?_; rintro e v10 ⟨rfl, hkv10⟩
  clear e2_0 e2_1
  have Z_v10 : Kp [] w v10 := by first | exact Z_v9.trans hkv10 | exact Z_v9.trans (((Kp.refl _ _).alloc _).trans hkv10) | exact Z_v9.trans ((Kp.refl _ _).drew.trans hkv10)
  have K_v2a_v10 : Kp [] v2a v10 := by first | exact K_v2a_v9.trans hkv10 | exact K_v2a_v9.trans (((Kp.refl _ _).alloc _).trans hkv10) | exact K_v2a_v9.trans ((Kp.refl _ _).drew.trans hkv10)
  obtain ⟨e2_0, e2_1⟩ := box2k K_v2a_v10 Hv2.out
  go_wp2_with fail
  refine (HPC.out _).mono ?_; rintro e v11 ⟨rfl, hkv11⟩
  clear e2_0 e2_1
  have Z_v11 : Kp [] w v11 := by first | exact Z_v10.trans hkv11 | exact Z_v10.trans (((Kp.refl _ _).alloc _).trans hkv11) | exact Z_v10.trans ((Kp.refl _ _).drew.trans hkv11)
  have K_v2a_v11 : Kp [] v2a v11 := by first | exact K_v2a_v10.trans hkv11 | exact K_v2a_v10.trans (((Kp.refl _ _).alloc _).trans hkv11) | exact K_v2a_v10.trans ((Kp.refl _ _).drew.trans hkv11)
  obtain ⟨e2_0, e2_1⟩ := box2k K_v2a_v11 Hv2.out
  go_wp2_with fail
  refine (HCO.out _).mono ?_; rintro e v12 ⟨rfl, hkv12⟩
  clear e2_0 e2_1
  have Z_v12 : Kp [] w v12 := by first | exact Z_v11.trans hkv12 | exact Z_v11.trans (((Kp.refl _ _).alloc _).trans hkv12) | exact Z_v11.trans ((Kp.refl _ _).drew.trans hkv12)
  have K_v2a_v12 : Kp [] v2a v12 := by first | exact K_v2a_v11.trans hkv12 | exact K_v2a_v11.trans (((Kp.refl _ _).alloc _).trans hkv12) | exact K_v2a_v11.trans ((Kp.refl _ _).drew.trans hkv12)
  obtain ⟨e2_0, e2_1⟩ := box2k K_v2a_v12 Hv2.out
  go_wp2_with fail
  refine (HDO.out _).mono ?_; rintro e v13 ⟨⟨g, cs, rfl⟩, hkv13⟩
  clear e2_0 e2_1
  have Z_v13 : Kp [] w v13 := by first | exact Z_v12.trans hkv13 | exact Z_v12.trans (((Kp.refl _ _).alloc _).trans hkv13) | exact Z_v12.trans ((Kp.refl _ _).drew.trans hkv13)
  have K_v2a_v13 : Kp [] v2a v13 := by first | exact K_v2a_v12.trans hkv13 | exact K_v2a_v12.trans (((Kp.refl _ _).alloc _).trans hkv13) | exact K_v2a_v12.trans ((Kp.refl _ _).drew.trans hkv13)
  obtain ⟨e2_0, e2_1⟩ := box2k K_v2a_v13 Hv2.out
  go_wp2_with fail
  rw [neq_func]
  go_wp2_with fail
  refine (HCO.out _).mono ?_; rintro e v14 ⟨rfl, hkv14⟩
  clear e2_0 e2_1
  have Z_v14 : Kp [] w v14 := by first | exact Z_v13.trans hkv14 | exact Z_v13.trans (((Kp.refl _ _).alloc _).trans hkv14) | exact Z_v13.trans ((Kp.refl _ _).drew.trans hkv14)
  have K_v2a_v14 : Kp [] v2a v14 := by first | exact K_v2a_v13.trans hkv14 | exact K_v2a_v13.trans (((Kp.refl _ _).alloc _).trans hkv14) | exact K_v2a_v13.trans ((Kp.refl _ _).drew.trans hkv14)
  obtain ⟨e2_0, e2_1⟩ := box2k K_v2a_v14 Hv2.out
  go_wp2_with fail
  refine (HTU.out _).mono ?_; rintro e v15 ⟨rfl, hkv15⟩
  clear e2_0 e2_1
  have Z_v15 : Kp [] w v15 := by first | exact Z_v14.trans hkv15 | exact Z_v14.trans (((Kp.refl _ _).alloc _).trans hkv15) | exact Z_v14.trans ((Kp.refl _ _).drew.trans hkv15)
  have K_v2a_v15 : Kp [] v2a v15 := by first | exact K_v2a_v14.trans hkv15 | exact K_v2a_v14.trans (((Kp.refl _ _).alloc _).trans hkv15) | exact K_v2a_v14.trans ((Kp.refl _ _).drew.trans hkv15)
  obtain ⟨e2_0, e2_1⟩ := box2k K_v2a_v15 Hv2.out
  go_wp2_with fail
  rw [field_a]
  go_wp2_with fail
  go_ret
  exact ⟨by first | rfl | simp, by first | exact Z_v15 | exact Z_v15.alloc _ | exact Z_v15.drew | exact Z_v15.drewN _⟩
end Go.Proofs.Ytfdognnjghdikaa

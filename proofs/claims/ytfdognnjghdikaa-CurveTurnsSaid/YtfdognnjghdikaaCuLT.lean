/- The walk of CurveTurns. (Written by wip/curve/gencul.py.) -/
import Derived.Test.YtfdognnjghdikaaCuL
namespace Go.Proofs.Ytfdognnjghdikaa
open Go.RowKit
set_option linter.unusedVariables false
set_option linter.unusedSimpArgs false
set_option maxRecDepth 100000 in
set_option maxHeartbeats 4000000 in
theorem law_CurveTurns (q : Bw) (w : World) : Calls Try.prog 7 #[bowV q] w fun e w' => e = .returned (.bool true) ∧ Kp [] w w' := by
  show Calls Try.prog 7 #[.agg #[.int .i64 q.k, .int .i64 q.a.1, .int .i64 q.a.2, .int .i64 q.b.1, .int .i64 q.b.2, .int .i64 q.c.1, .int .i64 q.c.2, .int .i64 q.d.1, .int .i64 q.d.2]] w _
  cases hm : mayW q
  · obtain ⟨x1, x2, x3, x4, hx⟩ : ∃ x1 x2 x3 x4 : Int, bowV (turnQ q) = .agg #[.int .i64 q.k, .int .i64 q.d.1, .int .i64 q.d.2, .int .i64 x1, .int .i64 x2, .int .i64 x3, .int .i64 x4, .int .i64 q.a.1, .int .i64 q.a.2] := ⟨_, _, _, _, rfl⟩
    have HMY : Hid (∀ w : World, Calls Try.prog 11 #[.agg #[.int .i64 q.k, .int .i64 q.a.1, .int .i64 q.a.2, .int .i64 q.b.1, .int .i64 q.b.2, .int .i64 q.c.1, .int .i64 q.c.2, .int .i64 q.d.1, .int .i64 q.d.2]] w fun e w' => e = .returned (.bool false) ∧ Kp [] w w') := fun w => by have := cmay_calls q w; rw [hm] at this; exact this
    have HRM : Hid (∀ w : World, Calls Try.prog 12 #[.agg #[.int .i64 q.k, .int .i64 q.a.1, .int .i64 q.a.2, .int .i64 q.b.1, .int .i64 q.b.2, .int .i64 q.c.1, .int .i64 q.c.2, .int .i64 q.d.1, .int .i64 q.d.2]] w fun e w' => e = .returned (.bool false) ∧ Kp [] w w') := fun w => by have := rmayw_calls q w; rw [hm] at this; exact this
    have HTU : Hid (∀ w : World, Calls Try.prog 13 #[.agg #[.int .i64 q.k, .int .i64 q.a.1, .int .i64 q.a.2, .int .i64 q.b.1, .int .i64 q.b.2, .int .i64 q.c.1, .int .i64 q.c.2, .int .i64 q.d.1, .int .i64 q.d.2]] w fun e w' => e = .returned (.agg #[.int .i64 q.k, .int .i64 q.d.1, .int .i64 q.d.2, .int .i64 x1, .int .i64 x2, .int .i64 x3, .int .i64 x4, .int .i64 q.a.1, .int .i64 q.a.2]) ∧ Kp [] w w') := fun w => by have := turn_calls q w; rw [hx] at this; exact this
    have HRT : Hid (∀ w : World, Calls Try.prog 14 #[.agg #[.int .i64 q.k, .int .i64 q.a.1, .int .i64 q.a.2, .int .i64 q.b.1, .int .i64 q.b.2, .int .i64 q.c.1, .int .i64 q.c.2, .int .i64 q.d.1, .int .i64 q.d.2]] w fun e w' => e = .returned (.agg #[.int .i64 q.k, .int .i64 q.d.1, .int .i64 q.d.2, .int .i64 x1, .int .i64 x2, .int .i64 x3, .int .i64 x4, .int .i64 q.a.1, .int .i64 q.a.2]) ∧ Kp [] w w') := fun w => by have := rturn_calls q w; rw [hx] at this; exact this
    have HLI := Lib.hid lives20_calls
    have HBE : Hid (∀ w : World, Calls Try.prog 8 #[.agg #[.int .i64 q.k, .int .i64 q.a.1, .int .i64 q.a.2, .int .i64 q.b.1, .int .i64 q.b.2, .int .i64 q.c.1, .int .i64 q.c.2, .int .i64 q.d.1, .int .i64 q.d.2]] w fun e w' => e = .returned (.int .i64 0) ∧ Kp [] w w') := fun w => cbend_no q hm w
    have HPC : Hid (∀ w : World, Calls Try.prog 9 #[.agg #[.int .i64 q.k, .int .i64 q.a.1, .int .i64 q.a.2, .int .i64 q.b.1, .int .i64 q.b.2, .int .i64 q.c.1, .int .i64 q.c.2, .int .i64 q.d.1, .int .i64 q.d.2]] w fun e w' => e = .returned (.int .i64 0) ∧ Kp [] w w') := fun w => cpieces_no q hm w
    clear hx hm
    have hKW : Kp [] w (w.alloc (.cells #[.int .i64 q.k, .int .i64 q.a.1, .int .i64 q.a.2, .int .i64 q.b.1, .int .i64 q.b.2, .int .i64 q.c.1, .int .i64 q.c.2, .int .i64 q.d.1, .int .i64 q.d.2] 25)) := (Kp.refl _ _).alloc _
    have hcb := box9 (Kp.refl [] (w.alloc (.cells #[.int .i64 q.k, .int .i64 q.a.1, .int .i64 q.a.2, .int .i64 q.b.1, .int .i64 q.b.2, .int .i64 q.c.1, .int .i64 q.c.2, .int .i64 q.d.1, .int .i64 q.d.2] 25)))
    go_enter Try.func7, Try.ntmps7
    go_wp2_with fail
    generalize (w.alloc (.cells #[.int .i64 q.k, .int .i64 q.a.1, .int .i64 q.a.2, .int .i64 q.b.1, .int .i64 q.b.2, .int .i64 q.c.1, .int .i64 q.c.2, .int .i64 q.d.1, .int .i64 q.d.2] 25)) = WB at *
    generalize w.heap.size = BX at *
    have HCB := Lib.hid hcb
    clear hcb
    have Z_WB : Kp [] w WB := hKW
    have K_WB_WB : Kp [] WB WB := Kp.refl _ _
    obtain ⟨cb0, cb1, cb2, cb3, cb4, cb5, cb6, cb7, cb8⟩ := HCB.out
    refine (HTU.out _).mono ?_; rintro e v1 ⟨rfl, hkv1⟩
    clear cb0 cb1 cb2 cb3 cb4 cb5 cb6 cb7 cb8
    have Z_v1 : Kp [] w v1 := by first | exact Z_WB.trans hkv1 | exact Z_WB.trans (((Kp.refl _ _).alloc _).trans hkv1) | exact Z_WB.trans ((Kp.refl _ _).drew.trans hkv1)
    have K_WB_v1 : Kp [] WB v1 := by first | exact K_WB_WB.trans hkv1 | exact K_WB_WB.trans (((Kp.refl _ _).alloc _).trans hkv1) | exact K_WB_WB.trans ((Kp.refl _ _).drew.trans hkv1)
    obtain ⟨cb0, cb1, cb2, cb3, cb4, cb5, cb6, cb7, cb8⟩ := box9k K_WB_v1 HCB.out
    clear cb0 cb1 cb2 cb3 cb4 cb5 cb6 cb7 cb8
    have hkv1a : Kp [] v1 (v1.alloc (.cells #[.int .i64 q.k, .int .i64 q.d.1, .int .i64 q.d.2, .int .i64 x1, .int .i64 x2, .int .i64 x3, .int .i64 x4, .int .i64 q.a.1, .int .i64 q.a.2] 25)) := (Kp.refl _ _).alloc _
    have hcb := box9 (Kp.refl [] (v1.alloc (.cells #[.int .i64 q.k, .int .i64 q.d.1, .int .i64 q.d.2, .int .i64 x1, .int .i64 x2, .int .i64 x3, .int .i64 x4, .int .i64 q.a.1, .int .i64 q.a.2] 25)))
    have Z_v1a : Kp [] w (v1.alloc (.cells #[.int .i64 q.k, .int .i64 q.d.1, .int .i64 q.d.2, .int .i64 x1, .int .i64 x2, .int .i64 x3, .int .i64 x4, .int .i64 q.a.1, .int .i64 q.a.2] 25)) := Z_v1.trans hkv1a
    have K_WB_v1a : Kp [] WB (v1.alloc (.cells #[.int .i64 q.k, .int .i64 q.d.1, .int .i64 q.d.2, .int .i64 x1, .int .i64 x2, .int .i64 x3, .int .i64 x4, .int .i64 q.a.1, .int .i64 q.a.2] 25)) := K_WB_v1.trans hkv1a
    obtain ⟨cb0, cb1, cb2, cb3, cb4, cb5, cb6, cb7, cb8⟩ := box9k K_WB_v1a HCB.out
    go_wp2_with fail
    generalize v1.alloc (.cells #[.int .i64 q.k, .int .i64 q.d.1, .int .i64 q.d.2, .int .i64 x1, .int .i64 x2, .int .i64 x3, .int .i64 x4, .int .i64 q.a.1, .int .i64 q.a.2] 25) = v1a at *
    generalize v1.heap.size = Bv1 at *
    have Hv1 := Lib.hid hcb
    clear hcb
    have K_v1a_v1a : Kp [] v1a v1a := Kp.refl _ _
    obtain ⟨e1_0, e1_1, e1_2, e1_3, e1_4, e1_5, e1_6, e1_7, e1_8⟩ := Hv1.out
    refine (HLI.out _).mono ?_; rintro e v2 ⟨rfl, hkv2⟩
    clear cb0 cb1 cb2 cb3 cb4 cb5 cb6 cb7 cb8 e1_0 e1_1 e1_2 e1_3 e1_4 e1_5 e1_6 e1_7 e1_8
    have Z_v2 : Kp [] w v2 := by first | exact Z_v1a.trans hkv2 | exact Z_v1a.trans (((Kp.refl _ _).alloc _).trans hkv2) | exact Z_v1a.trans ((Kp.refl _ _).drew.trans hkv2)
    have K_WB_v2 : Kp [] WB v2 := by first | exact K_WB_v1a.trans hkv2 | exact K_WB_v1a.trans (((Kp.refl _ _).alloc _).trans hkv2) | exact K_WB_v1a.trans ((Kp.refl _ _).drew.trans hkv2)
    obtain ⟨cb0, cb1, cb2, cb3, cb4, cb5, cb6, cb7, cb8⟩ := box9k K_WB_v2 HCB.out
    have K_v1a_v2 : Kp [] v1a v2 := by first | exact K_v1a_v1a.trans hkv2 | exact K_v1a_v1a.trans (((Kp.refl _ _).alloc _).trans hkv2) | exact K_v1a_v1a.trans ((Kp.refl _ _).drew.trans hkv2)
    obtain ⟨e1_0, e1_1, e1_2, e1_3, e1_4, e1_5, e1_6, e1_7, e1_8⟩ := box9k K_v1a_v2 Hv1.out
    go_wp2_with fail
    refine (HRM.out _).mono ?_; rintro e v3 ⟨rfl, hkv3⟩
    clear cb0 cb1 cb2 cb3 cb4 cb5 cb6 cb7 cb8 e1_0 e1_1 e1_2 e1_3 e1_4 e1_5 e1_6 e1_7 e1_8
    have Z_v3 : Kp [] w v3 := by first | exact Z_v2.trans hkv3 | exact Z_v2.trans (((Kp.refl _ _).alloc _).trans hkv3) | exact Z_v2.trans ((Kp.refl _ _).drew.trans hkv3)
    have K_WB_v3 : Kp [] WB v3 := by first | exact K_WB_v2.trans hkv3 | exact K_WB_v2.trans (((Kp.refl _ _).alloc _).trans hkv3) | exact K_WB_v2.trans ((Kp.refl _ _).drew.trans hkv3)
    obtain ⟨cb0, cb1, cb2, cb3, cb4, cb5, cb6, cb7, cb8⟩ := box9k K_WB_v3 HCB.out
    have K_v1a_v3 : Kp [] v1a v3 := by first | exact K_v1a_v2.trans hkv3 | exact K_v1a_v2.trans (((Kp.refl _ _).alloc _).trans hkv3) | exact K_v1a_v2.trans ((Kp.refl _ _).drew.trans hkv3)
    obtain ⟨e1_0, e1_1, e1_2, e1_3, e1_4, e1_5, e1_6, e1_7, e1_8⟩ := box9k K_v1a_v3 Hv1.out
    go_wp2_with fail
    refine (HLI.out _).mono ?_; rintro e v4 ⟨rfl, hkv4⟩
    clear cb0 cb1 cb2 cb3 cb4 cb5 cb6 cb7 cb8 e1_0 e1_1 e1_2 e1_3 e1_4 e1_5 e1_6 e1_7 e1_8
    have Z_v4 : Kp [] w v4 := by first | exact Z_v3.trans hkv4 | exact Z_v3.trans (((Kp.refl _ _).alloc _).trans hkv4) | exact Z_v3.trans ((Kp.refl _ _).drew.trans hkv4)
    have K_WB_v4 : Kp [] WB v4 := by first | exact K_WB_v3.trans hkv4 | exact K_WB_v3.trans (((Kp.refl _ _).alloc _).trans hkv4) | exact K_WB_v3.trans ((Kp.refl _ _).drew.trans hkv4)
    obtain ⟨cb0, cb1, cb2, cb3, cb4, cb5, cb6, cb7, cb8⟩ := box9k K_WB_v4 HCB.out
    have K_v1a_v4 : Kp [] v1a v4 := by first | exact K_v1a_v3.trans hkv4 | exact K_v1a_v3.trans (((Kp.refl _ _).alloc _).trans hkv4) | exact K_v1a_v3.trans ((Kp.refl _ _).drew.trans hkv4)
    obtain ⟨e1_0, e1_1, e1_2, e1_3, e1_4, e1_5, e1_6, e1_7, e1_8⟩ := box9k K_v1a_v4 Hv1.out
    go_wp2_with fail
    go_ret
    exact ⟨by first | rfl | simp, by first | exact Z_v4 | exact Z_v4.alloc _ | exact Z_v4.drew | exact Z_v4.drewN _⟩
  · obtain ⟨x1, x2, x3, x4, hx⟩ : ∃ x1 x2 x3 x4 : Int, bowV (turnQ q) = .agg #[.int .i64 q.k, .int .i64 q.d.1, .int .i64 q.d.2, .int .i64 x1, .int .i64 x2, .int .i64 x3, .int .i64 x4, .int .i64 q.a.1, .int .i64 q.a.2] := ⟨_, _, _, _, rfl⟩
    have HMY : Hid (∀ w : World, Calls Try.prog 11 #[.agg #[.int .i64 q.k, .int .i64 q.a.1, .int .i64 q.a.2, .int .i64 q.b.1, .int .i64 q.b.2, .int .i64 q.c.1, .int .i64 q.c.2, .int .i64 q.d.1, .int .i64 q.d.2]] w fun e w' => e = .returned (.bool true) ∧ Kp [] w w') := fun w => by have := cmay_calls q w; rw [hm] at this; exact this
    have HRM : Hid (∀ w : World, Calls Try.prog 12 #[.agg #[.int .i64 q.k, .int .i64 q.a.1, .int .i64 q.a.2, .int .i64 q.b.1, .int .i64 q.b.2, .int .i64 q.c.1, .int .i64 q.c.2, .int .i64 q.d.1, .int .i64 q.d.2]] w fun e w' => e = .returned (.bool true) ∧ Kp [] w w') := fun w => by have := rmayw_calls q w; rw [hm] at this; exact this
    have HTU : Hid (∀ w : World, Calls Try.prog 13 #[.agg #[.int .i64 q.k, .int .i64 q.a.1, .int .i64 q.a.2, .int .i64 q.b.1, .int .i64 q.b.2, .int .i64 q.c.1, .int .i64 q.c.2, .int .i64 q.d.1, .int .i64 q.d.2]] w fun e w' => e = .returned (.agg #[.int .i64 q.k, .int .i64 q.d.1, .int .i64 q.d.2, .int .i64 x1, .int .i64 x2, .int .i64 x3, .int .i64 x4, .int .i64 q.a.1, .int .i64 q.a.2]) ∧ Kp [] w w') := fun w => by have := turn_calls q w; rw [hx] at this; exact this
    have HRT : Hid (∀ w : World, Calls Try.prog 14 #[.agg #[.int .i64 q.k, .int .i64 q.a.1, .int .i64 q.a.2, .int .i64 q.b.1, .int .i64 q.b.2, .int .i64 q.c.1, .int .i64 q.c.2, .int .i64 q.d.1, .int .i64 q.d.2]] w fun e w' => e = .returned (.agg #[.int .i64 q.k, .int .i64 q.d.1, .int .i64 q.d.2, .int .i64 x1, .int .i64 x2, .int .i64 x3, .int .i64 x4, .int .i64 q.a.1, .int .i64 q.a.2]) ∧ Kp [] w w') := fun w => by have := rturn_calls q w; rw [hx] at this; exact this
    have HLI := Lib.hid lives20_calls
    have HBE : Hid (∀ w : World, Calls Try.prog 8 #[.agg #[.int .i64 q.k, .int .i64 q.a.1, .int .i64 q.a.2, .int .i64 q.b.1, .int .i64 q.b.2, .int .i64 q.c.1, .int .i64 q.c.2, .int .i64 q.d.1, .int .i64 q.d.2]] w fun e w' => e = .returned (.int .i64 (bendQ q)) ∧ Kp [] w w') := fun w => cbend_calls q hm w
    have HRB : Hid (∀ w : World, Calls Try.prog 15 #[.agg #[.int .i64 q.k, .int .i64 q.a.1, .int .i64 q.a.2, .int .i64 q.b.1, .int .i64 q.b.2, .int .i64 q.c.1, .int .i64 q.c.2, .int .i64 q.d.1, .int .i64 q.d.2]] w fun e w' => e = .returned (.int .i64 (bendQ q)) ∧ Kp [] w w') := fun w => rbend_calls q hm w
    have HPC : Hid (∀ w : World, Calls Try.prog 9 #[.agg #[.int .i64 q.k, .int .i64 q.a.1, .int .i64 q.a.2, .int .i64 q.b.1, .int .i64 q.b.2, .int .i64 q.c.1, .int .i64 q.c.2, .int .i64 q.d.1, .int .i64 q.d.2]] w fun e w' => e = .returned (.int .i64 (piecesQ (needsQ q))) ∧ Kp [] w w') := fun w => cpieces_calls q hm w
    have HRP : Hid (∀ w : World, Calls Try.prog 16 #[.agg #[.int .i64 q.k, .int .i64 q.a.1, .int .i64 q.a.2, .int .i64 q.b.1, .int .i64 q.b.2, .int .i64 q.c.1, .int .i64 q.c.2, .int .i64 q.d.1, .int .i64 q.d.2]] w fun e w' => e = .returned (.int .i64 (piecesQ (needsQ q))) ∧ Kp [] w w') := fun w => rpieces_calls q hm w
    obtain ⟨y1, y2, y3, y4, hy⟩ : ∃ y1 y2 y3 y4 : Int, bowV (turnQ (turnQ q)) = .agg #[.int .i64 q.k, .int .i64 q.a.1, .int .i64 q.a.2, .int .i64 y1, .int .i64 y2, .int .i64 y3, .int .i64 y4, .int .i64 q.d.1, .int .i64 q.d.2] := ⟨_, _, _, _, rfl⟩
    have HMT : Hid (∀ w : World, Calls Try.prog 11 #[.agg #[.int .i64 q.k, .int .i64 q.d.1, .int .i64 q.d.2, .int .i64 x1, .int .i64 x2, .int .i64 x3, .int .i64 x4, .int .i64 q.a.1, .int .i64 q.a.2]] w fun e w' => e = .returned (.bool true) ∧ Kp [] w w') := fun w => by have := cmay_calls (turnQ q) w; rw [turn_may hm, hx] at this; exact this
    have HBT : Hid (∀ w : World, Calls Try.prog 8 #[.agg #[.int .i64 q.k, .int .i64 q.d.1, .int .i64 q.d.2, .int .i64 x1, .int .i64 x2, .int .i64 x3, .int .i64 x4, .int .i64 q.a.1, .int .i64 q.a.2]] w fun e w' => e = .returned (.int .i64 (bendQ q)) ∧ Kp [] w w') := fun w => by have := cbend_calls (turnQ q) (turn_may hm) w; rw [turn_bend, hx] at this; exact this
    have HPT : Hid (∀ w : World, Calls Try.prog 9 #[.agg #[.int .i64 q.k, .int .i64 q.d.1, .int .i64 q.d.2, .int .i64 x1, .int .i64 x2, .int .i64 x3, .int .i64 x4, .int .i64 q.a.1, .int .i64 q.a.2]] w fun e w' => e = .returned (.int .i64 (piecesQ (needsQ q))) ∧ Kp [] w w') := fun w => by have := cpieces_calls (turnQ q) (turn_may hm) w; rw [turn_needs, hx] at this; exact this
    have HTT : Hid (∀ w : World, Calls Try.prog 13 #[.agg #[.int .i64 q.k, .int .i64 q.d.1, .int .i64 q.d.2, .int .i64 x1, .int .i64 x2, .int .i64 x3, .int .i64 x4, .int .i64 q.a.1, .int .i64 q.a.2]] w fun e w' => e = .returned (.agg #[.int .i64 q.k, .int .i64 q.a.1, .int .i64 q.a.2, .int .i64 y1, .int .i64 y2, .int .i64 y3, .int .i64 y4, .int .i64 q.d.1, .int .i64 q.d.2]) ∧ Kp [] w w') := fun w => by have := turn_calls (turnQ q) w; rw [hy, hx] at this; exact this
    have HBU : Hid (∀ w : World, Calls Try.prog 8 #[.agg #[.int .i64 q.k, .int .i64 q.a.1, .int .i64 q.a.2, .int .i64 y1, .int .i64 y2, .int .i64 y3, .int .i64 y4, .int .i64 q.d.1, .int .i64 q.d.2]] w fun e w' => e = .returned (.int .i64 (bendQ q)) ∧ Kp [] w w') := fun w => by have := cbend_calls (turnQ (turnQ q)) (turn_may (turn_may hm)) w; rw [turn_bend, turn_bend, hy] at this; exact this
    clear hy
    clear hx hm
    have hKW : Kp [] w (w.alloc (.cells #[.int .i64 q.k, .int .i64 q.a.1, .int .i64 q.a.2, .int .i64 q.b.1, .int .i64 q.b.2, .int .i64 q.c.1, .int .i64 q.c.2, .int .i64 q.d.1, .int .i64 q.d.2] 25)) := (Kp.refl _ _).alloc _
    have hcb := box9 (Kp.refl [] (w.alloc (.cells #[.int .i64 q.k, .int .i64 q.a.1, .int .i64 q.a.2, .int .i64 q.b.1, .int .i64 q.b.2, .int .i64 q.c.1, .int .i64 q.c.2, .int .i64 q.d.1, .int .i64 q.d.2] 25)))
    go_enter Try.func7, Try.ntmps7
    go_wp2_with fail
    generalize (w.alloc (.cells #[.int .i64 q.k, .int .i64 q.a.1, .int .i64 q.a.2, .int .i64 q.b.1, .int .i64 q.b.2, .int .i64 q.c.1, .int .i64 q.c.2, .int .i64 q.d.1, .int .i64 q.d.2] 25)) = WB at *
    generalize w.heap.size = BX at *
    have HCB := Lib.hid hcb
    clear hcb
    have Z_WB : Kp [] w WB := hKW
    have K_WB_WB : Kp [] WB WB := Kp.refl _ _
    obtain ⟨cb0, cb1, cb2, cb3, cb4, cb5, cb6, cb7, cb8⟩ := HCB.out
    refine (HTU.out _).mono ?_; rintro e v1 ⟨rfl, hkv1⟩
    clear cb0 cb1 cb2 cb3 cb4 cb5 cb6 cb7 cb8
    have Z_v1 : Kp [] w v1 := by first | exact Z_WB.trans hkv1 | exact Z_WB.trans (((Kp.refl _ _).alloc _).trans hkv1) | exact Z_WB.trans ((Kp.refl _ _).drew.trans hkv1)
    have K_WB_v1 : Kp [] WB v1 := by first | exact K_WB_WB.trans hkv1 | exact K_WB_WB.trans (((Kp.refl _ _).alloc _).trans hkv1) | exact K_WB_WB.trans ((Kp.refl _ _).drew.trans hkv1)
    obtain ⟨cb0, cb1, cb2, cb3, cb4, cb5, cb6, cb7, cb8⟩ := box9k K_WB_v1 HCB.out
    clear cb0 cb1 cb2 cb3 cb4 cb5 cb6 cb7 cb8
    have hkv1a : Kp [] v1 (v1.alloc (.cells #[.int .i64 q.k, .int .i64 q.d.1, .int .i64 q.d.2, .int .i64 x1, .int .i64 x2, .int .i64 x3, .int .i64 x4, .int .i64 q.a.1, .int .i64 q.a.2] 25)) := (Kp.refl _ _).alloc _
    have hcb := box9 (Kp.refl [] (v1.alloc (.cells #[.int .i64 q.k, .int .i64 q.d.1, .int .i64 q.d.2, .int .i64 x1, .int .i64 x2, .int .i64 x3, .int .i64 x4, .int .i64 q.a.1, .int .i64 q.a.2] 25)))
    have Z_v1a : Kp [] w (v1.alloc (.cells #[.int .i64 q.k, .int .i64 q.d.1, .int .i64 q.d.2, .int .i64 x1, .int .i64 x2, .int .i64 x3, .int .i64 x4, .int .i64 q.a.1, .int .i64 q.a.2] 25)) := Z_v1.trans hkv1a
    have K_WB_v1a : Kp [] WB (v1.alloc (.cells #[.int .i64 q.k, .int .i64 q.d.1, .int .i64 q.d.2, .int .i64 x1, .int .i64 x2, .int .i64 x3, .int .i64 x4, .int .i64 q.a.1, .int .i64 q.a.2] 25)) := K_WB_v1.trans hkv1a
    obtain ⟨cb0, cb1, cb2, cb3, cb4, cb5, cb6, cb7, cb8⟩ := box9k K_WB_v1a HCB.out
    go_wp2_with fail
    generalize v1.alloc (.cells #[.int .i64 q.k, .int .i64 q.d.1, .int .i64 q.d.2, .int .i64 x1, .int .i64 x2, .int .i64 x3, .int .i64 x4, .int .i64 q.a.1, .int .i64 q.a.2] 25) = v1a at *
    generalize v1.heap.size = Bv1 at *
    have Hv1 := Lib.hid hcb
    clear hcb
    have K_v1a_v1a : Kp [] v1a v1a := Kp.refl _ _
    obtain ⟨e1_0, e1_1, e1_2, e1_3, e1_4, e1_5, e1_6, e1_7, e1_8⟩ := Hv1.out
    refine (HLI.out _).mono ?_; rintro e v2 ⟨rfl, hkv2⟩
    clear cb0 cb1 cb2 cb3 cb4 cb5 cb6 cb7 cb8 e1_0 e1_1 e1_2 e1_3 e1_4 e1_5 e1_6 e1_7 e1_8
    have Z_v2 : Kp [] w v2 := by first | exact Z_v1a.trans hkv2 | exact Z_v1a.trans (((Kp.refl _ _).alloc _).trans hkv2) | exact Z_v1a.trans ((Kp.refl _ _).drew.trans hkv2)
    have K_WB_v2 : Kp [] WB v2 := by first | exact K_WB_v1a.trans hkv2 | exact K_WB_v1a.trans (((Kp.refl _ _).alloc _).trans hkv2) | exact K_WB_v1a.trans ((Kp.refl _ _).drew.trans hkv2)
    obtain ⟨cb0, cb1, cb2, cb3, cb4, cb5, cb6, cb7, cb8⟩ := box9k K_WB_v2 HCB.out
    have K_v1a_v2 : Kp [] v1a v2 := by first | exact K_v1a_v1a.trans hkv2 | exact K_v1a_v1a.trans (((Kp.refl _ _).alloc _).trans hkv2) | exact K_v1a_v1a.trans ((Kp.refl _ _).drew.trans hkv2)
    obtain ⟨e1_0, e1_1, e1_2, e1_3, e1_4, e1_5, e1_6, e1_7, e1_8⟩ := box9k K_v1a_v2 Hv1.out
    go_wp2_with fail
    refine (HRM.out _).mono ?_; rintro e v3 ⟨rfl, hkv3⟩
    clear cb0 cb1 cb2 cb3 cb4 cb5 cb6 cb7 cb8 e1_0 e1_1 e1_2 e1_3 e1_4 e1_5 e1_6 e1_7 e1_8
    have Z_v3 : Kp [] w v3 := by first | exact Z_v2.trans hkv3 | exact Z_v2.trans (((Kp.refl _ _).alloc _).trans hkv3) | exact Z_v2.trans ((Kp.refl _ _).drew.trans hkv3)
    have K_WB_v3 : Kp [] WB v3 := by first | exact K_WB_v2.trans hkv3 | exact K_WB_v2.trans (((Kp.refl _ _).alloc _).trans hkv3) | exact K_WB_v2.trans ((Kp.refl _ _).drew.trans hkv3)
    obtain ⟨cb0, cb1, cb2, cb3, cb4, cb5, cb6, cb7, cb8⟩ := box9k K_WB_v3 HCB.out
    have K_v1a_v3 : Kp [] v1a v3 := by first | exact K_v1a_v2.trans hkv3 | exact K_v1a_v2.trans (((Kp.refl _ _).alloc _).trans hkv3) | exact K_v1a_v2.trans ((Kp.refl _ _).drew.trans hkv3)
    obtain ⟨e1_0, e1_1, e1_2, e1_3, e1_4, e1_5, e1_6, e1_7, e1_8⟩ := box9k K_v1a_v3 Hv1.out
    go_wp2_with fail
    have qcb0 := KW.cell cb0
    have qcb1 := KW.cell cb1
    have qcb2 := KW.cell cb2
    have qcb3 := KW.cell cb3
    have qcb4 := KW.cell cb4
    have qcb5 := KW.cell cb5
    have qcb6 := KW.cell cb6
    have qcb7 := KW.cell cb7
    have qcb8 := KW.cell cb8
    have qe1_0 := KW.cell e1_0
    have qe1_1 := KW.cell e1_1
    have qe1_2 := KW.cell e1_2
    have qe1_3 := KW.cell e1_3
    have qe1_4 := KW.cell e1_4
    have qe1_5 := KW.cell e1_5
    have qe1_6 := KW.cell e1_6
    have qe1_7 := KW.cell e1_7
    have qe1_8 := KW.cell e1_8
    clear cb0 cb1 cb2 cb3 cb4 cb5 cb6 cb7 cb8 e1_0 e1_1 e1_2 e1_3 e1_4 e1_5 e1_6 e1_7 e1_8
    refine wp_region_kq (by kernel_rfl) (by kernel_rfl) ?_
    repeat (go_big_quiet_step ((first | (go_at_call 11; with_reducible exact Calls.kq (HMT.out _)) | (go_at_call 8; with_reducible exact Calls.kq (HBT.out _)) | (go_at_call 8; with_reducible exact Calls.kq (HBU.out _)) | (go_at_call 15; with_reducible exact Calls.kq (HRB.out _)) | (go_at_call 9; with_reducible exact Calls.kq (HPT.out _)) | (go_at_call 16; with_reducible exact Calls.kq (HRP.out _)) | (go_at_call 13; with_reducible exact Calls.kq (HTT.out _)))))
    refine wpQuiet_nil ?_
    intro v4 hw'
    obtain ⟨⟨_, hkv4⟩, rfl⟩ := hw'
    clear qcb0 qcb1 qcb2 qcb3 qcb4 qcb5 qcb6 qcb7 qcb8 qe1_0 qe1_1 qe1_2 qe1_3 qe1_4 qe1_5 qe1_6 qe1_7 qe1_8
    have Z_v4 : Kp [] w v4 := by first | exact Z_v3.trans hkv4 | exact Z_v3.trans (((Kp.refl _ _).alloc _).trans hkv4) | exact Z_v3.trans ((Kp.refl _ _).drew.trans hkv4)
    have K_WB_v4 : Kp [] WB v4 := by first | exact K_WB_v3.trans hkv4 | exact K_WB_v3.trans (((Kp.refl _ _).alloc _).trans hkv4) | exact K_WB_v3.trans ((Kp.refl _ _).drew.trans hkv4)
    obtain ⟨cb0, cb1, cb2, cb3, cb4, cb5, cb6, cb7, cb8⟩ := box9k K_WB_v4 HCB.out
    have K_v1a_v4 : Kp [] v1a v4 := by first | exact K_v1a_v3.trans hkv4 | exact K_v1a_v3.trans (((Kp.refl _ _).alloc _).trans hkv4) | exact K_v1a_v3.trans ((Kp.refl _ _).drew.trans hkv4)
    obtain ⟨e1_0, e1_1, e1_2, e1_3, e1_4, e1_5, e1_6, e1_7, e1_8⟩ := box9k K_v1a_v4 Hv1.out
    go_wp2_with fail
    go_ret
    exact ⟨by first | rfl | simp, by first | exact Z_v4 | exact Z_v4.alloc _ | exact Z_v4.drew | exact Z_v4.drewN _⟩
end Go.Proofs.Ytfdognnjghdikaa

/- The walk of CurveBends. (Written by wip/curve/gencul.py.) -/
import Derived.Test.YtfdognnjghdikaaCuL
namespace Go.Proofs.Ytfdognnjghdikaa
open Go.RowKit
set_option linter.unusedVariables false
set_option linter.unusedSimpArgs false
set_option maxRecDepth 100000 in
set_option maxHeartbeats 4000000 in
theorem law_CurveBends (q : Bw) (w : World) : Calls Try.prog 3 #[bowV q] w fun e w' => e = .returned (.bool true) ∧ Kp [] w w' := by
  show Calls Try.prog 3 #[.agg #[.int .i64 q.k, .int .i64 q.a.1, .int .i64 q.a.2, .int .i64 q.b.1, .int .i64 q.b.2, .int .i64 q.c.1, .int .i64 q.c.2, .int .i64 q.d.1, .int .i64 q.d.2]] w _
  cases hm : mayW q
  · obtain ⟨x1, x2, x3, x4, hx⟩ : ∃ x1 x2 x3 x4 : Int, bowV (turnQ q) = .agg #[.int .i64 q.k, .int .i64 q.d.1, .int .i64 q.d.2, .int .i64 x1, .int .i64 x2, .int .i64 x3, .int .i64 x4, .int .i64 q.a.1, .int .i64 q.a.2] := ⟨_, _, _, _, rfl⟩
    have HMY : Hid (∀ w : World, Calls Try.prog 11 #[.agg #[.int .i64 q.k, .int .i64 q.a.1, .int .i64 q.a.2, .int .i64 q.b.1, .int .i64 q.b.2, .int .i64 q.c.1, .int .i64 q.c.2, .int .i64 q.d.1, .int .i64 q.d.2]] w fun e w' => e = .returned (.bool false) ∧ Kp [] w w') := fun w => by have := cmay_calls q w; rw [hm] at this; exact this
    have HRM : Hid (∀ w : World, Calls Try.prog 12 #[.agg #[.int .i64 q.k, .int .i64 q.a.1, .int .i64 q.a.2, .int .i64 q.b.1, .int .i64 q.b.2, .int .i64 q.c.1, .int .i64 q.c.2, .int .i64 q.d.1, .int .i64 q.d.2]] w fun e w' => e = .returned (.bool false) ∧ Kp [] w w') := fun w => by have := rmayw_calls q w; rw [hm] at this; exact this
    have HTU : Hid (∀ w : World, Calls Try.prog 13 #[.agg #[.int .i64 q.k, .int .i64 q.a.1, .int .i64 q.a.2, .int .i64 q.b.1, .int .i64 q.b.2, .int .i64 q.c.1, .int .i64 q.c.2, .int .i64 q.d.1, .int .i64 q.d.2]] w fun e w' => e = .returned (.agg #[.int .i64 q.k, .int .i64 q.d.1, .int .i64 q.d.2, .int .i64 x1, .int .i64 x2, .int .i64 x3, .int .i64 x4, .int .i64 q.a.1, .int .i64 q.a.2]) ∧ Kp [] w w') := fun w => by have := turn_calls q w; rw [hx] at this; exact this
    have HRT : Hid (∀ w : World, Calls Try.prog 14 #[.agg #[.int .i64 q.k, .int .i64 q.a.1, .int .i64 q.a.2, .int .i64 q.b.1, .int .i64 q.b.2, .int .i64 q.c.1, .int .i64 q.c.2, .int .i64 q.d.1, .int .i64 q.d.2]] w fun e w' => e = .returned (.agg #[.int .i64 q.k, .int .i64 q.d.1, .int .i64 q.d.2, .int .i64 x1, .int .i64 x2, .int .i64 x3, .int .i64 x4, .int .i64 q.a.1, .int .i64 q.a.2]) ∧ Kp [] w w') := fun w => by have := rturn_calls q w; rw [hx] at this; exact this
    have HLI := Lib.hid lives20_calls
    have HBE : Hid (∀ w : World, Calls Try.prog 8 #[.agg #[.int .i64 q.k, .int .i64 q.a.1, .int .i64 q.a.2, .int .i64 q.b.1, .int .i64 q.b.2, .int .i64 q.c.1, .int .i64 q.c.2, .int .i64 q.d.1, .int .i64 q.d.2]] w fun e w' => e = .returned (.int .i64 0) ∧ Kp [] w w') := fun w => cbend_no q hm w
    have HPC : Hid (∀ w : World, Calls Try.prog 9 #[.agg #[.int .i64 q.k, .int .i64 q.a.1, .int .i64 q.a.2, .int .i64 q.b.1, .int .i64 q.b.2, .int .i64 q.c.1, .int .i64 q.c.2, .int .i64 q.d.1, .int .i64 q.d.2]] w fun e w' => e = .returned (.int .i64 0) ∧ Kp [] w w') := fun w => cpieces_no q hm w
    clear hx hm
    have hKW : Kp [] w (w.alloc (.cells #[.int .i64 q.k, .int .i64 q.a.1, .int .i64 q.a.2, .int .i64 q.b.1, .int .i64 q.b.2, .int .i64 q.c.1, .int .i64 q.c.2, .int .i64 q.d.1, .int .i64 q.d.2] 25)) := (Kp.refl _ _).alloc _
    have hcb := box9 (Kp.refl [] (w.alloc (.cells #[.int .i64 q.k, .int .i64 q.a.1, .int .i64 q.a.2, .int .i64 q.b.1, .int .i64 q.b.2, .int .i64 q.c.1, .int .i64 q.c.2, .int .i64 q.d.1, .int .i64 q.d.2] 25)))
    go_enter Try.func3, Try.ntmps3
    go_wp2_with fail
    generalize (w.alloc (.cells #[.int .i64 q.k, .int .i64 q.a.1, .int .i64 q.a.2, .int .i64 q.b.1, .int .i64 q.b.2, .int .i64 q.c.1, .int .i64 q.c.2, .int .i64 q.d.1, .int .i64 q.d.2] 25)) = WB at *
    generalize w.heap.size = BX at *
    have HCB := Lib.hid hcb
    clear hcb
    have Z_WB : Kp [] w WB := hKW
    have K_WB_WB : Kp [] WB WB := Kp.refl _ _
    obtain ⟨cb0, cb1, cb2, cb3, cb4, cb5, cb6, cb7, cb8⟩ := HCB.out
    have qcb0 := KW.cell cb0
    have qcb1 := KW.cell cb1
    have qcb2 := KW.cell cb2
    have qcb3 := KW.cell cb3
    have qcb4 := KW.cell cb4
    have qcb5 := KW.cell cb5
    have qcb6 := KW.cell cb6
    have qcb7 := KW.cell cb7
    have qcb8 := KW.cell cb8
    clear cb0 cb1 cb2 cb3 cb4 cb5 cb6 cb7 cb8
    refine wp_region_kq (by kernel_rfl) (by kernel_rfl) ?_
    repeat (go_big_quiet_step ((first | (go_at_call 8; with_reducible exact Calls.kq (HBE.out _)) | (go_at_call 9; with_reducible exact Calls.kq (HPC.out _)))))
    refine wpQuiet_nil ?_
    intro v1 hw'
    obtain ⟨⟨_, hkv1⟩, rfl⟩ := hw'
    clear qcb0 qcb1 qcb2 qcb3 qcb4 qcb5 qcb6 qcb7 qcb8
    have Z_v1 : Kp [] w v1 := by first | exact Z_WB.trans hkv1 | exact Z_WB.trans (((Kp.refl _ _).alloc _).trans hkv1) | exact Z_WB.trans ((Kp.refl _ _).drew.trans hkv1)
    have K_WB_v1 : Kp [] WB v1 := by first | exact K_WB_WB.trans hkv1 | exact K_WB_WB.trans (((Kp.refl _ _).alloc _).trans hkv1) | exact K_WB_WB.trans ((Kp.refl _ _).drew.trans hkv1)
    obtain ⟨cb0, cb1, cb2, cb3, cb4, cb5, cb6, cb7, cb8⟩ := box9k K_WB_v1 HCB.out
    go_wp2_with fail
    have qcb0 := KW.cell cb0
    have qcb1 := KW.cell cb1
    have qcb2 := KW.cell cb2
    have qcb3 := KW.cell cb3
    have qcb4 := KW.cell cb4
    have qcb5 := KW.cell cb5
    have qcb6 := KW.cell cb6
    have qcb7 := KW.cell cb7
    have qcb8 := KW.cell cb8
    clear cb0 cb1 cb2 cb3 cb4 cb5 cb6 cb7 cb8
    refine wp_region_kq (by kernel_rfl) (by kernel_rfl) ?_
    repeat (go_big_quiet_step ((first | (go_at_call 10; with_reducible exact Calls.kq (HLI.out _)) | (go_at_call 11; with_reducible exact Calls.kq (HMY.out _)) | (go_at_call 12; with_reducible exact Calls.kq (HRM.out _)) | (go_at_call 13; with_reducible exact Calls.kq (HTU.out _)) | (go_at_call 14; with_reducible exact Calls.kq (HRT.out _)))))
    refine wpQuiet_nil ?_
    intro v2 hw'
    obtain ⟨⟨_, hkv2⟩, rfl⟩ := hw'
    clear qcb0 qcb1 qcb2 qcb3 qcb4 qcb5 qcb6 qcb7 qcb8
    have Z_v2 : Kp [] w v2 := by first | exact Z_v1.trans hkv2 | exact Z_v1.trans (((Kp.refl _ _).alloc _).trans hkv2) | exact Z_v1.trans ((Kp.refl _ _).drew.trans hkv2)
    have K_WB_v2 : Kp [] WB v2 := by first | exact K_WB_v1.trans hkv2 | exact K_WB_v1.trans (((Kp.refl _ _).alloc _).trans hkv2) | exact K_WB_v1.trans ((Kp.refl _ _).drew.trans hkv2)
    obtain ⟨cb0, cb1, cb2, cb3, cb4, cb5, cb6, cb7, cb8⟩ := box9k K_WB_v2 HCB.out
    go_wp2_with fail
    refine (HRM.out _).mono ?_; rintro e v3 ⟨rfl, hkv3⟩
    clear cb0 cb1 cb2 cb3 cb4 cb5 cb6 cb7 cb8
    have Z_v3 : Kp [] w v3 := by first | exact Z_v2.trans hkv3 | exact Z_v2.trans (((Kp.refl _ _).alloc _).trans hkv3) | exact Z_v2.trans ((Kp.refl _ _).drew.trans hkv3)
    have K_WB_v3 : Kp [] WB v3 := by first | exact K_WB_v2.trans hkv3 | exact K_WB_v2.trans (((Kp.refl _ _).alloc _).trans hkv3) | exact K_WB_v2.trans ((Kp.refl _ _).drew.trans hkv3)
    obtain ⟨cb0, cb1, cb2, cb3, cb4, cb5, cb6, cb7, cb8⟩ := box9k K_WB_v3 HCB.out
    go_wp2_with fail
    go_ret
    exact ⟨by first | rfl | simp, by first | exact Z_v3 | exact Z_v3.alloc _ | exact Z_v3.drew | exact Z_v3.drewN _⟩
  · obtain ⟨x1, x2, x3, x4, hx⟩ : ∃ x1 x2 x3 x4 : Int, bowV (turnQ q) = .agg #[.int .i64 q.k, .int .i64 q.d.1, .int .i64 q.d.2, .int .i64 x1, .int .i64 x2, .int .i64 x3, .int .i64 x4, .int .i64 q.a.1, .int .i64 q.a.2] := ⟨_, _, _, _, rfl⟩
    have HMY : Hid (∀ w : World, Calls Try.prog 11 #[.agg #[.int .i64 q.k, .int .i64 q.a.1, .int .i64 q.a.2, .int .i64 q.b.1, .int .i64 q.b.2, .int .i64 q.c.1, .int .i64 q.c.2, .int .i64 q.d.1, .int .i64 q.d.2]] w fun e w' => e = .returned (.bool true) ∧ Kp [] w w') := fun w => by have := cmay_calls q w; rw [hm] at this; exact this
    have HRM : Hid (∀ w : World, Calls Try.prog 12 #[.agg #[.int .i64 q.k, .int .i64 q.a.1, .int .i64 q.a.2, .int .i64 q.b.1, .int .i64 q.b.2, .int .i64 q.c.1, .int .i64 q.c.2, .int .i64 q.d.1, .int .i64 q.d.2]] w fun e w' => e = .returned (.bool true) ∧ Kp [] w w') := fun w => by have := rmayw_calls q w; rw [hm] at this; exact this
    have HTU : Hid (∀ w : World, Calls Try.prog 13 #[.agg #[.int .i64 q.k, .int .i64 q.a.1, .int .i64 q.a.2, .int .i64 q.b.1, .int .i64 q.b.2, .int .i64 q.c.1, .int .i64 q.c.2, .int .i64 q.d.1, .int .i64 q.d.2]] w fun e w' => e = .returned (.agg #[.int .i64 q.k, .int .i64 q.d.1, .int .i64 q.d.2, .int .i64 x1, .int .i64 x2, .int .i64 x3, .int .i64 x4, .int .i64 q.a.1, .int .i64 q.a.2]) ∧ Kp [] w w') := fun w => by have := turn_calls q w; rw [hx] at this; exact this
    have HRT : Hid (∀ w : World, Calls Try.prog 14 #[.agg #[.int .i64 q.k, .int .i64 q.a.1, .int .i64 q.a.2, .int .i64 q.b.1, .int .i64 q.b.2, .int .i64 q.c.1, .int .i64 q.c.2, .int .i64 q.d.1, .int .i64 q.d.2]] w fun e w' => e = .returned (.agg #[.int .i64 q.k, .int .i64 q.d.1, .int .i64 q.d.2, .int .i64 x1, .int .i64 x2, .int .i64 x3, .int .i64 x4, .int .i64 q.a.1, .int .i64 q.a.2]) ∧ Kp [] w w') := fun w => by have := rturn_calls q w; rw [hx] at this; exact this
    have HLI := Lib.hid lives20_calls
    have HBE : Hid (∀ w : World, Calls Try.prog 8 #[.agg #[.int .i64 q.k, .int .i64 q.a.1, .int .i64 q.a.2, .int .i64 q.b.1, .int .i64 q.b.2, .int .i64 q.c.1, .int .i64 q.c.2, .int .i64 q.d.1, .int .i64 q.d.2]] w fun e w' => e = .returned (.int .i64 (bendQ q)) ∧ Kp [] w w') := fun w => cbend_calls q hm w
    have HRB : Hid (∀ w : World, Calls Try.prog 15 #[.agg #[.int .i64 q.k, .int .i64 q.a.1, .int .i64 q.a.2, .int .i64 q.b.1, .int .i64 q.b.2, .int .i64 q.c.1, .int .i64 q.c.2, .int .i64 q.d.1, .int .i64 q.d.2]] w fun e w' => e = .returned (.int .i64 (bendQ q)) ∧ Kp [] w w') := fun w => rbend_calls q hm w
    have HPC : Hid (∀ w : World, Calls Try.prog 9 #[.agg #[.int .i64 q.k, .int .i64 q.a.1, .int .i64 q.a.2, .int .i64 q.b.1, .int .i64 q.b.2, .int .i64 q.c.1, .int .i64 q.c.2, .int .i64 q.d.1, .int .i64 q.d.2]] w fun e w' => e = .returned (.int .i64 (piecesQ (needsQ q))) ∧ Kp [] w w') := fun w => cpieces_calls q hm w
    have HRP : Hid (∀ w : World, Calls Try.prog 16 #[.agg #[.int .i64 q.k, .int .i64 q.a.1, .int .i64 q.a.2, .int .i64 q.b.1, .int .i64 q.b.2, .int .i64 q.c.1, .int .i64 q.c.2, .int .i64 q.d.1, .int .i64 q.d.2]] w fun e w' => e = .returned (.int .i64 (piecesQ (needsQ q))) ∧ Kp [] w w') := fun w => rpieces_calls q hm w
    clear hx hm
    have hKW : Kp [] w (w.alloc (.cells #[.int .i64 q.k, .int .i64 q.a.1, .int .i64 q.a.2, .int .i64 q.b.1, .int .i64 q.b.2, .int .i64 q.c.1, .int .i64 q.c.2, .int .i64 q.d.1, .int .i64 q.d.2] 25)) := (Kp.refl _ _).alloc _
    have hcb := box9 (Kp.refl [] (w.alloc (.cells #[.int .i64 q.k, .int .i64 q.a.1, .int .i64 q.a.2, .int .i64 q.b.1, .int .i64 q.b.2, .int .i64 q.c.1, .int .i64 q.c.2, .int .i64 q.d.1, .int .i64 q.d.2] 25)))
    go_enter Try.func3, Try.ntmps3
    go_wp2_with fail
    generalize (w.alloc (.cells #[.int .i64 q.k, .int .i64 q.a.1, .int .i64 q.a.2, .int .i64 q.b.1, .int .i64 q.b.2, .int .i64 q.c.1, .int .i64 q.c.2, .int .i64 q.d.1, .int .i64 q.d.2] 25)) = WB at *
    generalize w.heap.size = BX at *
    have HCB := Lib.hid hcb
    clear hcb
    have Z_WB : Kp [] w WB := hKW
    have K_WB_WB : Kp [] WB WB := Kp.refl _ _
    obtain ⟨cb0, cb1, cb2, cb3, cb4, cb5, cb6, cb7, cb8⟩ := HCB.out
    have qcb0 := KW.cell cb0
    have qcb1 := KW.cell cb1
    have qcb2 := KW.cell cb2
    have qcb3 := KW.cell cb3
    have qcb4 := KW.cell cb4
    have qcb5 := KW.cell cb5
    have qcb6 := KW.cell cb6
    have qcb7 := KW.cell cb7
    have qcb8 := KW.cell cb8
    clear cb0 cb1 cb2 cb3 cb4 cb5 cb6 cb7 cb8
    refine wp_region_kq (by kernel_rfl) (by kernel_rfl) ?_
    repeat (go_big_quiet_step ((first | (go_at_call 8; with_reducible exact Calls.kq (HBE.out _)) | (go_at_call 9; with_reducible exact Calls.kq (HPC.out _)))))
    refine wpQuiet_nil ?_
    intro v1 hw'
    obtain ⟨⟨_, hkv1⟩, rfl⟩ := hw'
    clear qcb0 qcb1 qcb2 qcb3 qcb4 qcb5 qcb6 qcb7 qcb8
    have Z_v1 : Kp [] w v1 := by first | exact Z_WB.trans hkv1 | exact Z_WB.trans (((Kp.refl _ _).alloc _).trans hkv1) | exact Z_WB.trans ((Kp.refl _ _).drew.trans hkv1)
    have K_WB_v1 : Kp [] WB v1 := by first | exact K_WB_WB.trans hkv1 | exact K_WB_WB.trans (((Kp.refl _ _).alloc _).trans hkv1) | exact K_WB_WB.trans ((Kp.refl _ _).drew.trans hkv1)
    obtain ⟨cb0, cb1, cb2, cb3, cb4, cb5, cb6, cb7, cb8⟩ := box9k K_WB_v1 HCB.out
    go_wp2_with fail
    have qcb0 := KW.cell cb0
    have qcb1 := KW.cell cb1
    have qcb2 := KW.cell cb2
    have qcb3 := KW.cell cb3
    have qcb4 := KW.cell cb4
    have qcb5 := KW.cell cb5
    have qcb6 := KW.cell cb6
    have qcb7 := KW.cell cb7
    have qcb8 := KW.cell cb8
    clear cb0 cb1 cb2 cb3 cb4 cb5 cb6 cb7 cb8
    refine wp_region_kq (by kernel_rfl) (by kernel_rfl) ?_
    repeat (go_big_quiet_step ((first | (go_at_call 10; with_reducible exact Calls.kq (HLI.out _)) | (go_at_call 11; with_reducible exact Calls.kq (HMY.out _)) | (go_at_call 12; with_reducible exact Calls.kq (HRM.out _)) | (go_at_call 13; with_reducible exact Calls.kq (HTU.out _)) | (go_at_call 14; with_reducible exact Calls.kq (HRT.out _)))))
    refine wpQuiet_nil ?_
    intro v2 hw'
    obtain ⟨⟨_, hkv2⟩, rfl⟩ := hw'
    clear qcb0 qcb1 qcb2 qcb3 qcb4 qcb5 qcb6 qcb7 qcb8
    have Z_v2 : Kp [] w v2 := by first | exact Z_v1.trans hkv2 | exact Z_v1.trans (((Kp.refl _ _).alloc _).trans hkv2) | exact Z_v1.trans ((Kp.refl _ _).drew.trans hkv2)
    have K_WB_v2 : Kp [] WB v2 := by first | exact K_WB_v1.trans hkv2 | exact K_WB_v1.trans (((Kp.refl _ _).alloc _).trans hkv2) | exact K_WB_v1.trans ((Kp.refl _ _).drew.trans hkv2)
    obtain ⟨cb0, cb1, cb2, cb3, cb4, cb5, cb6, cb7, cb8⟩ := box9k K_WB_v2 HCB.out
    go_wp2_with fail
    refine (HRM.out _).mono ?_; rintro e v3 ⟨rfl, hkv3⟩
    clear cb0 cb1 cb2 cb3 cb4 cb5 cb6 cb7 cb8
    have Z_v3 : Kp [] w v3 := by first | exact Z_v2.trans hkv3 | exact Z_v2.trans (((Kp.refl _ _).alloc _).trans hkv3) | exact Z_v2.trans ((Kp.refl _ _).drew.trans hkv3)
    have K_WB_v3 : Kp [] WB v3 := by first | exact K_WB_v2.trans hkv3 | exact K_WB_v2.trans (((Kp.refl _ _).alloc _).trans hkv3) | exact K_WB_v2.trans ((Kp.refl _ _).drew.trans hkv3)
    obtain ⟨cb0, cb1, cb2, cb3, cb4, cb5, cb6, cb7, cb8⟩ := box9k K_WB_v3 HCB.out
    go_wp2_with fail
    refine (HRB.out _).mono ?_; rintro e v4 ⟨rfl, hkv4⟩
    clear cb0 cb1 cb2 cb3 cb4 cb5 cb6 cb7 cb8
    have Z_v4 : Kp [] w v4 := by first | exact Z_v3.trans hkv4 | exact Z_v3.trans (((Kp.refl _ _).alloc _).trans hkv4) | exact Z_v3.trans ((Kp.refl _ _).drew.trans hkv4)
    have K_WB_v4 : Kp [] WB v4 := by first | exact K_WB_v3.trans hkv4 | exact K_WB_v3.trans (((Kp.refl _ _).alloc _).trans hkv4) | exact K_WB_v3.trans ((Kp.refl _ _).drew.trans hkv4)
    obtain ⟨cb0, cb1, cb2, cb3, cb4, cb5, cb6, cb7, cb8⟩ := box9k K_WB_v4 HCB.out
    go_wp2_with fail
    refine (HRP.out _).mono ?_; rintro e v5 ⟨rfl, hkv5⟩
    clear cb0 cb1 cb2 cb3 cb4 cb5 cb6 cb7 cb8
    have Z_v5 : Kp [] w v5 := by first | exact Z_v4.trans hkv5 | exact Z_v4.trans (((Kp.refl _ _).alloc _).trans hkv5) | exact Z_v4.trans ((Kp.refl _ _).drew.trans hkv5)
    have K_WB_v5 : Kp [] WB v5 := by first | exact K_WB_v4.trans hkv5 | exact K_WB_v4.trans (((Kp.refl _ _).alloc _).trans hkv5) | exact K_WB_v4.trans ((Kp.refl _ _).drew.trans hkv5)
    obtain ⟨cb0, cb1, cb2, cb3, cb4, cb5, cb6, cb7, cb8⟩ := box9k K_WB_v5 HCB.out
    go_wp2_with fail
    go_ret
    exact ⟨by first | rfl | simp, by first | exact Z_v5 | exact Z_v5.alloc _ | exact Z_v5.drew | exact Z_v5.drewN _⟩
end Go.Proofs.Ytfdognnjghdikaa

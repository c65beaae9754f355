/- The walk of CurvePlaces. (Written by wip/curve/gencul.py.) -/
import Derived.Test.YtfdognnjghdikaaCuL
namespace Go.Proofs.Ytfdognnjghdikaa
open Go.RowKit
set_option linter.unusedVariables false
set_option linter.unusedSimpArgs false
set_option maxRecDepth 100000 in
set_option maxHeartbeats 4000000 in
theorem law_CurvePlaces (q : Bw) (i n : Int) (w : World) : Calls Try.prog 4 #[bowV q, .int .i64 i, .int .i64 n] w fun e w' => e = .returned (.bool true) ∧ Kp [] w w' := by
  show Calls Try.prog 4 #[.agg #[.int .i64 q.k, .int .i64 q.a.1, .int .i64 q.a.2, .int .i64 q.b.1, .int .i64 q.b.2, .int .i64 q.c.1, .int .i64 q.c.2, .int .i64 q.d.1, .int .i64 q.d.2], .int .i64 i, .int .i64 n] w _
  by_cases hin : mayW q = true ∧ 1 ≤ n ∧ n ≤ 512 ∧ 0 ≤ i ∧ i ≤ n
  · obtain ⟨hm, h1, h2, h3, h4⟩ := hin
    have h1' : decide (n < 1) = false := decide_eq_false (by omega)
    have h2' : decide (512 < n) = false := decide_eq_false (by omega)
    have h3' : decide (i < 0) = false := decide_eq_false (by omega)
    have h4' : decide (n < i) = false := decide_eq_false (by omega)
    have HLI := Lib.hid lives20_calls
    have HRM : Hid (∀ w : World, Calls Try.prog 12 #[.agg #[.int .i64 q.k, .int .i64 q.a.1, .int .i64 q.a.2, .int .i64 q.b.1, .int .i64 q.b.2, .int .i64 q.c.1, .int .i64 q.c.2, .int .i64 q.d.1, .int .i64 q.d.2]] w fun e w' => e = .returned (.bool true) ∧ Kp [] w w') := fun w => by have := rmayw_calls q w; rw [hm] at this; exact this
    obtain ⟨p1, p2, hp⟩ : ∃ p1 p2 : Int, atQ q i n = (p1, p2) := ⟨_, _, rfl⟩
    have HAT : Hid (∀ w : World, Calls Try.prog 17 #[.agg #[.int .i64 q.k, .int .i64 q.a.1, .int .i64 q.a.2, .int .i64 q.b.1, .int .i64 q.b.2, .int .i64 q.c.1, .int .i64 q.c.2, .int .i64 q.d.1, .int .i64 q.d.2], .int .i64 i, .int .i64 n] w fun e w' => e = .returned (.tuple #[.agg #[.int .i64 p1, .int .i64 p2], .int .i64 0]) ∧ Kp [] w w') := fun w => by have := cat_ok q hm i n h1 h2 h3 h4 w; rw [hp] at this; exact this
    have HRA : Hid (∀ w : World, Calls Try.prog 18 #[.agg #[.int .i64 q.k, .int .i64 q.a.1, .int .i64 q.a.2, .int .i64 q.b.1, .int .i64 q.b.2, .int .i64 q.c.1, .int .i64 q.c.2, .int .i64 q.d.1, .int .i64 q.d.2], .int .i64 i, .int .i64 n] w fun e w' => e = .returned (.agg #[.int .i64 p1, .int .i64 p2]) ∧ Kp [] w w') := fun w => by have := rat_calls q hm i n h1 h2 h3 h4 w; rw [hp] at this; exact this
    have HA0 : Hid (∀ w : World, Calls Try.prog 17 #[.agg #[.int .i64 q.k, .int .i64 q.a.1, .int .i64 q.a.2, .int .i64 q.b.1, .int .i64 q.b.2, .int .i64 q.c.1, .int .i64 q.c.2, .int .i64 q.d.1, .int .i64 q.d.2], .int .i64 0, .int .i64 n] w fun e w' => e = .returned (.tuple #[.agg #[.int .i64 q.a.1, .int .i64 q.a.2], .int .i64 0]) ∧ Kp [] w w') := fun w => by have := cat_ok q hm 0 n h1 h2 (by omega) (by omega) w; rw [at_0 q n (by omega)] at this; exact this
    have HAN : Hid (∀ w : World, Calls Try.prog 17 #[.agg #[.int .i64 q.k, .int .i64 q.a.1, .int .i64 q.a.2, .int .i64 q.b.1, .int .i64 q.b.2, .int .i64 q.c.1, .int .i64 q.c.2, .int .i64 q.d.1, .int .i64 q.d.2], .int .i64 n, .int .i64 n] w fun e w' => e = .returned (.tuple #[.agg #[.int .i64 q.d.1, .int .i64 q.d.2], .int .i64 0]) ∧ Kp [] w w') := fun w => by have := cat_ok q hm n n h1 h2 (by omega) (by omega) w; rw [at_n q n (by omega)] at this; exact this
    clear hp hm
    have hKW : Kp [] w (w.alloc (.cells #[.int .i64 q.k, .int .i64 q.a.1, .int .i64 q.a.2, .int .i64 q.b.1, .int .i64 q.b.2, .int .i64 q.c.1, .int .i64 q.c.2, .int .i64 q.d.1, .int .i64 q.d.2] 25)) := (Kp.refl _ _).alloc _
    have hcb := box9 (Kp.refl [] (w.alloc (.cells #[.int .i64 q.k, .int .i64 q.a.1, .int .i64 q.a.2, .int .i64 q.b.1, .int .i64 q.b.2, .int .i64 q.c.1, .int .i64 q.c.2, .int .i64 q.d.1, .int .i64 q.d.2] 25)))
    go_enter Try.func4, Try.ntmps4
    go_wp2_with fail
    generalize (w.alloc (.cells #[.int .i64 q.k, .int .i64 q.a.1, .int .i64 q.a.2, .int .i64 q.b.1, .int .i64 q.b.2, .int .i64 q.c.1, .int .i64 q.c.2, .int .i64 q.d.1, .int .i64 q.d.2] 25)) = WB at *
    generalize w.heap.size = BX at *
    have HCB := Lib.hid hcb
    clear hcb
    have Z_WB : Kp [] w WB := hKW
    have K_WB_WB : Kp [] WB WB := Kp.refl _ _
    obtain ⟨cb0, cb1, cb2, cb3, cb4, cb5, cb6, cb7, cb8⟩ := HCB.out
    refine (HAT.out _).mono ?_; rintro e v1 ⟨rfl, hkv1⟩
    clear cb0 cb1 cb2 cb3 cb4 cb5 cb6 cb7 cb8
    have Z_v1 : Kp [] w v1 := by first | exact Z_WB.trans hkv1 | exact Z_WB.trans (((Kp.refl _ _).alloc _).trans hkv1) | exact Z_WB.trans ((Kp.refl _ _).drew.trans hkv1)
    have K_WB_v1 : Kp [] WB v1 := by first | exact K_WB_WB.trans hkv1 | exact K_WB_WB.trans (((Kp.refl _ _).alloc _).trans hkv1) | exact K_WB_WB.trans ((Kp.refl _ _).drew.trans hkv1)
    obtain ⟨cb0, cb1, cb2, cb3, cb4, cb5, cb6, cb7, cb8⟩ := box9k K_WB_v1 HCB.out
    clear cb0 cb1 cb2 cb3 cb4 cb5 cb6 cb7 cb8
    have hkv1a : Kp [] v1 (v1.alloc (.cells #[.int .i64 p1, .int .i64 p2] 23)) := (Kp.refl _ _).alloc _
    have hcb := box2 (Kp.refl [] (v1.alloc (.cells #[.int .i64 p1, .int .i64 p2] 23)))
    have Z_v1a : Kp [] w (v1.alloc (.cells #[.int .i64 p1, .int .i64 p2] 23)) := Z_v1.trans hkv1a
    have K_WB_v1a : Kp [] WB (v1.alloc (.cells #[.int .i64 p1, .int .i64 p2] 23)) := K_WB_v1.trans hkv1a
    obtain ⟨cb0, cb1, cb2, cb3, cb4, cb5, cb6, cb7, cb8⟩ := box9k K_WB_v1a HCB.out
    go_wp2_with fail
    generalize v1.alloc (.cells #[.int .i64 p1, .int .i64 p2] 23) = v1a at *
    generalize v1.heap.size = Bv1 at *
    have Hv1 := Lib.hid hcb
    clear hcb
    have K_v1a_v1a : Kp [] v1a v1a := Kp.refl _ _
    obtain ⟨e1_0, e1_1⟩ := Hv1.out
    refine (HLI.out _).mono ?_; rintro e v2 ⟨rfl, hkv2⟩
    clear cb0 cb1 cb2 cb3 cb4 cb5 cb6 cb7 cb8 e1_0 e1_1
    have Z_v2 : Kp [] w v2 := by first | exact Z_v1a.trans hkv2 | exact Z_v1a.trans (((Kp.refl _ _).alloc _).trans hkv2) | exact Z_v1a.trans ((Kp.refl _ _).drew.trans hkv2)
    have K_WB_v2 : Kp [] WB v2 := by first | exact K_WB_v1a.trans hkv2 | exact K_WB_v1a.trans (((Kp.refl _ _).alloc _).trans hkv2) | exact K_WB_v1a.trans ((Kp.refl _ _).drew.trans hkv2)
    obtain ⟨cb0, cb1, cb2, cb3, cb4, cb5, cb6, cb7, cb8⟩ := box9k K_WB_v2 HCB.out
    have K_v1a_v2 : Kp [] v1a v2 := by first | exact K_v1a_v1a.trans hkv2 | exact K_v1a_v1a.trans (((Kp.refl _ _).alloc _).trans hkv2) | exact K_v1a_v1a.trans ((Kp.refl _ _).drew.trans hkv2)
    obtain ⟨e1_0, e1_1⟩ := box2k K_v1a_v2 Hv1.out
    go_wp2_with fail
    refine (HRM.out _).mono ?_; rintro e v3 ⟨rfl, hkv3⟩
    clear cb0 cb1 cb2 cb3 cb4 cb5 cb6 cb7 cb8 e1_0 e1_1
    have Z_v3 : Kp [] w v3 := by first | exact Z_v2.trans hkv3 | exact Z_v2.trans (((Kp.refl _ _).alloc _).trans hkv3) | exact Z_v2.trans ((Kp.refl _ _).drew.trans hkv3)
    have K_WB_v3 : Kp [] WB v3 := by first | exact K_WB_v2.trans hkv3 | exact K_WB_v2.trans (((Kp.refl _ _).alloc _).trans hkv3) | exact K_WB_v2.trans ((Kp.refl _ _).drew.trans hkv3)
    obtain ⟨cb0, cb1, cb2, cb3, cb4, cb5, cb6, cb7, cb8⟩ := box9k K_WB_v3 HCB.out
    have K_v1a_v3 : Kp [] v1a v3 := by first | exact K_v1a_v2.trans hkv3 | exact K_v1a_v2.trans (((Kp.refl _ _).alloc _).trans hkv3) | exact K_v1a_v2.trans ((Kp.refl _ _).drew.trans hkv3)
    obtain ⟨e1_0, e1_1⟩ := box2k K_v1a_v3 Hv1.out
    go_wp2_with fail
    refine (HA0.out _).mono ?_; rintro e v4 ⟨rfl, hkv4⟩
    clear cb0 cb1 cb2 cb3 cb4 cb5 cb6 cb7 cb8 e1_0 e1_1
    have Z_v4 : Kp [] w v4 := by first | exact Z_v3.trans hkv4 | exact Z_v3.trans (((Kp.refl _ _).alloc _).trans hkv4) | exact Z_v3.trans ((Kp.refl _ _).drew.trans hkv4)
    have K_WB_v4 : Kp [] WB v4 := by first | exact K_WB_v3.trans hkv4 | exact K_WB_v3.trans (((Kp.refl _ _).alloc _).trans hkv4) | exact K_WB_v3.trans ((Kp.refl _ _).drew.trans hkv4)
    obtain ⟨cb0, cb1, cb2, cb3, cb4, cb5, cb6, cb7, cb8⟩ := box9k K_WB_v4 HCB.out
    have K_v1a_v4 : Kp [] v1a v4 := by first | exact K_v1a_v3.trans hkv4 | exact K_v1a_v3.trans (((Kp.refl _ _).alloc _).trans hkv4) | exact K_v1a_v3.trans ((Kp.refl _ _).drew.trans hkv4)
    obtain ⟨e1_0, e1_1⟩ := box2k K_v1a_v4 Hv1.out
    clear cb0 cb1 cb2 cb3 cb4 cb5 cb6 cb7 cb8 e1_0 e1_1
    have hkv4a : Kp [] v4 (v4.alloc (.cells #[.int .i64 q.a.1, .int .i64 q.a.2] 23)) := (Kp.refl _ _).alloc _
    have hcb := box2 (Kp.refl [] (v4.alloc (.cells #[.int .i64 q.a.1, .int .i64 q.a.2] 23)))
    have Z_v4a : Kp [] w (v4.alloc (.cells #[.int .i64 q.a.1, .int .i64 q.a.2] 23)) := Z_v4.trans hkv4a
    have K_WB_v4a : Kp [] WB (v4.alloc (.cells #[.int .i64 q.a.1, .int .i64 q.a.2] 23)) := K_WB_v4.trans hkv4a
    obtain ⟨cb0, cb1, cb2, cb3, cb4, cb5, cb6, cb7, cb8⟩ := box9k K_WB_v4a HCB.out
    have K_v1a_v4a : Kp [] v1a (v4.alloc (.cells #[.int .i64 q.a.1, .int .i64 q.a.2] 23)) := K_v1a_v4.trans hkv4a
    obtain ⟨e1_0, e1_1⟩ := box2k K_v1a_v4a Hv1.out
    go_wp2_with fail
    generalize v4.alloc (.cells #[.int .i64 q.a.1, .int .i64 q.a.2] 23) = v4a at *
    generalize v4.heap.size = Bv4 at *
    have Hv4 := Lib.hid hcb
    clear hcb
    have K_v4a_v4a : Kp [] v4a v4a := Kp.refl _ _
    obtain ⟨e4_0, e4_1⟩ := Hv4.out
    refine (HAN.out _).mono ?_; rintro e v5 ⟨rfl, hkv5⟩
    clear cb0 cb1 cb2 cb3 cb4 cb5 cb6 cb7 cb8 e1_0 e1_1 e4_0 e4_1
    have Z_v5 : Kp [] w v5 := by first | exact Z_v4a.trans hkv5 | exact Z_v4a.trans (((Kp.refl _ _).alloc _).trans hkv5) | exact Z_v4a.trans ((Kp.refl _ _).drew.trans hkv5)
    have K_WB_v5 : Kp [] WB v5 := by first | exact K_WB_v4a.trans hkv5 | exact K_WB_v4a.trans (((Kp.refl _ _).alloc _).trans hkv5) | exact K_WB_v4a.trans ((Kp.refl _ _).drew.trans hkv5)
    obtain ⟨cb0, cb1, cb2, cb3, cb4, cb5, cb6, cb7, cb8⟩ := box9k K_WB_v5 HCB.out
    have K_v1a_v5 : Kp [] v1a v5 := by first | exact K_v1a_v4a.trans hkv5 | exact K_v1a_v4a.trans (((Kp.refl _ _).alloc _).trans hkv5) | exact K_v1a_v4a.trans ((Kp.refl _ _).drew.trans hkv5)
    obtain ⟨e1_0, e1_1⟩ := box2k K_v1a_v5 Hv1.out
    have K_v4a_v5 : Kp [] v4a v5 := by first | exact K_v4a_v4a.trans hkv5 | exact K_v4a_v4a.trans (((Kp.refl _ _).alloc _).trans hkv5) | exact K_v4a_v4a.trans ((Kp.refl _ _).drew.trans hkv5)
    obtain ⟨e4_0, e4_1⟩ := box2k K_v4a_v5 Hv4.out
    clear cb0 cb1 cb2 cb3 cb4 cb5 cb6 cb7 cb8 e1_0 e1_1 e4_0 e4_1
    have hkv5a : Kp [] v5 (v5.alloc (.cells #[.int .i64 q.d.1, .int .i64 q.d.2] 23)) := (Kp.refl _ _).alloc _
    have hcb := box2 (Kp.refl [] (v5.alloc (.cells #[.int .i64 q.d.1, .int .i64 q.d.2] 23)))
    have Z_v5a : Kp [] w (v5.alloc (.cells #[.int .i64 q.d.1, .int .i64 q.d.2] 23)) := Z_v5.trans hkv5a
    have K_WB_v5a : Kp [] WB (v5.alloc (.cells #[.int .i64 q.d.1, .int .i64 q.d.2] 23)) := K_WB_v5.trans hkv5a
    obtain ⟨cb0, cb1, cb2, cb3, cb4, cb5, cb6, cb7, cb8⟩ := box9k K_WB_v5a HCB.out
    have K_v1a_v5a : Kp [] v1a (v5.alloc (.cells #[.int .i64 q.d.1, .int .i64 q.d.2] 23)) := K_v1a_v5.trans hkv5a
    obtain ⟨e1_0, e1_1⟩ := box2k K_v1a_v5a Hv1.out
    have K_v4a_v5a : Kp [] v4a (v5.alloc (.cells #[.int .i64 q.d.1, .int .i64 q.d.2] 23)) := K_v4a_v5.trans hkv5a
    obtain ⟨e4_0, e4_1⟩ := box2k K_v4a_v5a Hv4.out
    go_wp2_with fail
    generalize v5.alloc (.cells #[.int .i64 q.d.1, .int .i64 q.d.2] 23) = v5a at *
    generalize v5.heap.size = Bv5 at *
    have Hv5 := Lib.hid hcb
    clear hcb
    have K_v5a_v5a : Kp [] v5a v5a := Kp.refl _ _
    obtain ⟨e5_0, e5_1⟩ := Hv5.out
    have qcb0 := KW.cell cb0
    have qcb1 := KW.cell cb1
    have qcb2 := KW.cell cb2
    have qcb3 := KW.cell cb3
    have qcb4 := KW.cell cb4
    have qcb5 := KW.cell cb5
    have qcb6 := KW.cell cb6
    have qcb7 := KW.cell cb7
    have qcb8 := KW.cell cb8
    have qe1_0 := KW.cell e1_0
    have qe1_1 := KW.cell e1_1
    have qe4_0 := KW.cell e4_0
    have qe4_1 := KW.cell e4_1
    have qe5_0 := KW.cell e5_0
    have qe5_1 := KW.cell e5_1
    clear cb0 cb1 cb2 cb3 cb4 cb5 cb6 cb7 cb8 e1_0 e1_1 e4_0 e4_1 e5_0 e5_1
    refine wp_region_kq (by kernel_rfl) (by kernel_rfl) ?_
    repeat (go_big_quiet_step ((go_at_call 18; with_reducible exact Calls.kq (HRA.out _))))
    refine wpQuiet_nil ?_
    intro v6 hw'
    obtain ⟨⟨_, hkv6⟩, rfl⟩ := hw'
    clear qcb0 qcb1 qcb2 qcb3 qcb4 qcb5 qcb6 qcb7 qcb8 qe1_0 qe1_1 qe4_0 qe4_1 qe5_0 qe5_1
    have Z_v6 : Kp [] w v6 := by first | exact Z_v5a.trans hkv6 | exact Z_v5a.trans (((Kp.refl _ _).alloc _).trans hkv6) | exact Z_v5a.trans ((Kp.refl _ _).drew.trans hkv6)
    have K_WB_v6 : Kp [] WB v6 := by first | exact K_WB_v5a.trans hkv6 | exact K_WB_v5a.trans (((Kp.refl _ _).alloc _).trans hkv6) | exact K_WB_v5a.trans ((Kp.refl _ _).drew.trans hkv6)
    obtain ⟨cb0, cb1, cb2, cb3, cb4, cb5, cb6, cb7, cb8⟩ := box9k K_WB_v6 HCB.out
    have K_v1a_v6 : Kp [] v1a v6 := by first | exact K_v1a_v5a.trans hkv6 | exact K_v1a_v5a.trans (((Kp.refl _ _).alloc _).trans hkv6) | exact K_v1a_v5a.trans ((Kp.refl _ _).drew.trans hkv6)
    obtain ⟨e1_0, e1_1⟩ := box2k K_v1a_v6 Hv1.out
    have K_v4a_v6 : Kp [] v4a v6 := by first | exact K_v4a_v5a.trans hkv6 | exact K_v4a_v5a.trans (((Kp.refl _ _).alloc _).trans hkv6) | exact K_v4a_v5a.trans ((Kp.refl _ _).drew.trans hkv6)
    obtain ⟨e4_0, e4_1⟩ := box2k K_v4a_v6 Hv4.out
    have K_v5a_v6 : Kp [] v5a v6 := by first | exact K_v5a_v5a.trans hkv6 | exact K_v5a_v5a.trans (((Kp.refl _ _).alloc _).trans hkv6) | exact K_v5a_v5a.trans ((Kp.refl _ _).drew.trans hkv6)
    obtain ⟨e5_0, e5_1⟩ := box2k K_v5a_v6 Hv5.out
    go_wp2_with fail
    go_ret
    exact ⟨by first | rfl | simp, by first | exact Z_v6 | exact Z_v6.alloc _ | exact Z_v6.drew | exact Z_v6.drewN _⟩
  · cases hm : mayW q
    · have HLI := Lib.hid lives20_calls
      have HRM : Hid (∀ w : World, Calls Try.prog 12 #[.agg #[.int .i64 q.k, .int .i64 q.a.1, .int .i64 q.a.2, .int .i64 q.b.1, .int .i64 q.b.2, .int .i64 q.c.1, .int .i64 q.c.2, .int .i64 q.d.1, .int .i64 q.d.2]] w fun e w' => e = .returned (.bool false) ∧ Kp [] w w') := fun w => by have := rmayw_calls q w; rw [hm] at this; exact this
      have HAT : Hid (∀ w : World, Calls Try.prog 17 #[.agg #[.int .i64 q.k, .int .i64 q.a.1, .int .i64 q.a.2, .int .i64 q.b.1, .int .i64 q.b.2, .int .i64 q.c.1, .int .i64 q.c.2, .int .i64 q.d.1, .int .i64 q.d.2], .int .i64 i, .int .i64 n] w fun e w' => e = .returned (.tuple #[.agg #[.int .i64 0, .int .i64 0], .int .i64 1]) ∧ Kp [] w w') := fun w => cat_no q i n hin w
      clear hm hin
      have hKW : Kp [] w (w.alloc (.cells #[.int .i64 q.k, .int .i64 q.a.1, .int .i64 q.a.2, .int .i64 q.b.1, .int .i64 q.b.2, .int .i64 q.c.1, .int .i64 q.c.2, .int .i64 q.d.1, .int .i64 q.d.2] 25)) := (Kp.refl _ _).alloc _
      have hcb := box9 (Kp.refl [] (w.alloc (.cells #[.int .i64 q.k, .int .i64 q.a.1, .int .i64 q.a.2, .int .i64 q.b.1, .int .i64 q.b.2, .int .i64 q.c.1, .int .i64 q.c.2, .int .i64 q.d.1, .int .i64 q.d.2] 25)))
      go_enter Try.func4, Try.ntmps4
      go_wp2_with fail
      generalize (w.alloc (.cells #[.int .i64 q.k, .int .i64 q.a.1, .int .i64 q.a.2, .int .i64 q.b.1, .int .i64 q.b.2, .int .i64 q.c.1, .int .i64 q.c.2, .int .i64 q.d.1, .int .i64 q.d.2] 25)) = WB at *
      generalize w.heap.size = BX at *
      have HCB := Lib.hid hcb
      clear hcb
      have Z_WB : Kp [] w WB := hKW
      have K_WB_WB : Kp [] WB WB := Kp.refl _ _
      obtain ⟨cb0, cb1, cb2, cb3, cb4, cb5, cb6, cb7, cb8⟩ := HCB.out
      refine (HAT.out _).mono ?_; rintro e v1 ⟨rfl, hkv1⟩
      clear cb0 cb1 cb2 cb3 cb4 cb5 cb6 cb7 cb8
      have Z_v1 : Kp [] w v1 := by first | exact Z_WB.trans hkv1 | exact Z_WB.trans (((Kp.refl _ _).alloc _).trans hkv1) | exact Z_WB.trans ((Kp.refl _ _).drew.trans hkv1)
      have K_WB_v1 : Kp [] WB v1 := by first | exact K_WB_WB.trans hkv1 | exact K_WB_WB.trans (((Kp.refl _ _).alloc _).trans hkv1) | exact K_WB_WB.trans ((Kp.refl _ _).drew.trans hkv1)
      obtain ⟨cb0, cb1, cb2, cb3, cb4, cb5, cb6, cb7, cb8⟩ := box9k K_WB_v1 HCB.out
      clear cb0 cb1 cb2 cb3 cb4 cb5 cb6 cb7 cb8
      have hkv1a : Kp [] v1 (v1.alloc (.cells #[.int .i64 0, .int .i64 0] 23)) := (Kp.refl _ _).alloc _
      have hcb := box2 (Kp.refl [] (v1.alloc (.cells #[.int .i64 0, .int .i64 0] 23)))
      have Z_v1a : Kp [] w (v1.alloc (.cells #[.int .i64 0, .int .i64 0] 23)) := Z_v1.trans hkv1a
      have K_WB_v1a : Kp [] WB (v1.alloc (.cells #[.int .i64 0, .int .i64 0] 23)) := K_WB_v1.trans hkv1a
      obtain ⟨cb0, cb1, cb2, cb3, cb4, cb5, cb6, cb7, cb8⟩ := box9k K_WB_v1a HCB.out
      go_wp2_with fail
      generalize v1.alloc (.cells #[.int .i64 0, .int .i64 0] 23) = v1a at *
      generalize v1.heap.size = Bv1 at *
      have Hv1 := Lib.hid hcb
      clear hcb
      have K_v1a_v1a : Kp [] v1a v1a := Kp.refl _ _
      obtain ⟨e1_0, e1_1⟩ := Hv1.out
      refine (HLI.out _).mono ?_; rintro e v2 ⟨rfl, hkv2⟩
      clear cb0 cb1 cb2 cb3 cb4 cb5 cb6 cb7 cb8 e1_0 e1_1
      have Z_v2 : Kp [] w v2 := by first | exact Z_v1a.trans hkv2 | exact Z_v1a.trans (((Kp.refl _ _).alloc _).trans hkv2) | exact Z_v1a.trans ((Kp.refl _ _).drew.trans hkv2)
      have K_WB_v2 : Kp [] WB v2 := by first | exact K_WB_v1a.trans hkv2 | exact K_WB_v1a.trans (((Kp.refl _ _).alloc _).trans hkv2) | exact K_WB_v1a.trans ((Kp.refl _ _).drew.trans hkv2)
      obtain ⟨cb0, cb1, cb2, cb3, cb4, cb5, cb6, cb7, cb8⟩ := box9k K_WB_v2 HCB.out
      have K_v1a_v2 : Kp [] v1a v2 := by first | exact K_v1a_v1a.trans hkv2 | exact K_v1a_v1a.trans (((Kp.refl _ _).alloc _).trans hkv2) | exact K_v1a_v1a.trans ((Kp.refl _ _).drew.trans hkv2)
      obtain ⟨e1_0, e1_1⟩ := box2k K_v1a_v2 Hv1.out
      go_wp2_with fail
      refine (HRM.out _).mono ?_; rintro e v3 ⟨rfl, hkv3⟩
      clear cb0 cb1 cb2 cb3 cb4 cb5 cb6 cb7 cb8 e1_0 e1_1
      have Z_v3 : Kp [] w v3 := by first | exact Z_v2.trans hkv3 | exact Z_v2.trans (((Kp.refl _ _).alloc _).trans hkv3) | exact Z_v2.trans ((Kp.refl _ _).drew.trans hkv3)
      have K_WB_v3 : Kp [] WB v3 := by first | exact K_WB_v2.trans hkv3 | exact K_WB_v2.trans (((Kp.refl _ _).alloc _).trans hkv3) | exact K_WB_v2.trans ((Kp.refl _ _).drew.trans hkv3)
      obtain ⟨cb0, cb1, cb2, cb3, cb4, cb5, cb6, cb7, cb8⟩ := box9k K_WB_v3 HCB.out
      have K_v1a_v3 : Kp [] v1a v3 := by first | exact K_v1a_v2.trans hkv3 | exact K_v1a_v2.trans (((Kp.refl _ _).alloc _).trans hkv3) | exact K_v1a_v2.trans ((Kp.refl _ _).drew.trans hkv3)
      obtain ⟨e1_0, e1_1⟩ := box2k K_v1a_v3 Hv1.out
      go_wp2_with fail
      go_ret
      exact ⟨by first | rfl | simp, by first | exact Z_v3 | exact Z_v3.alloc _ | exact Z_v3.drew | exact Z_v3.drewN _⟩
    · by_cases h1 : n < 1
      · have HLI := Lib.hid lives20_calls
        have HRM : Hid (∀ w : World, Calls Try.prog 12 #[.agg #[.int .i64 q.k, .int .i64 q.a.1, .int .i64 q.a.2, .int .i64 q.b.1, .int .i64 q.b.2, .int .i64 q.c.1, .int .i64 q.c.2, .int .i64 q.d.1, .int .i64 q.d.2]] w fun e w' => e = .returned (.bool true) ∧ Kp [] w w') := fun w => by have := rmayw_calls q w; rw [hm] at this; exact this
        have HAT : Hid (∀ w : World, Calls Try.prog 17 #[.agg #[.int .i64 q.k, .int .i64 q.a.1, .int .i64 q.a.2, .int .i64 q.b.1, .int .i64 q.b.2, .int .i64 q.c.1, .int .i64 q.c.2, .int .i64 q.d.1, .int .i64 q.d.2], .int .i64 i, .int .i64 n] w fun e w' => e = .returned (.tuple #[.agg #[.int .i64 0, .int .i64 0], .int .i64 1]) ∧ Kp [] w w') := fun w => cat_no q i n hin w
        clear hm hin
        have hKW : Kp [] w (w.alloc (.cells #[.int .i64 q.k, .int .i64 q.a.1, .int .i64 q.a.2, .int .i64 q.b.1, .int .i64 q.b.2, .int .i64 q.c.1, .int .i64 q.c.2, .int .i64 q.d.1, .int .i64 q.d.2] 25)) := (Kp.refl _ _).alloc _
        have hcb := box9 (Kp.refl [] (w.alloc (.cells #[.int .i64 q.k, .int .i64 q.a.1, .int .i64 q.a.2, .int .i64 q.b.1, .int .i64 q.b.2, .int .i64 q.c.1, .int .i64 q.c.2, .int .i64 q.d.1, .int .i64 q.d.2] 25)))
        go_enter Try.func4, Try.ntmps4
        go_wp2_with fail
        generalize (w.alloc (.cells #[.int .i64 q.k, .int .i64 q.a.1, .int .i64 q.a.2, .int .i64 q.b.1, .int .i64 q.b.2, .int .i64 q.c.1, .int .i64 q.c.2, .int .i64 q.d.1, .int .i64 q.d.2] 25)) = WB at *
        generalize w.heap.size = BX at *
        have HCB := Lib.hid hcb
        clear hcb
        have Z_WB : Kp [] w WB := hKW
        have K_WB_WB : Kp [] WB WB := Kp.refl _ _
        obtain ⟨cb0, cb1, cb2, cb3, cb4, cb5, cb6, cb7, cb8⟩ := HCB.out
        refine (HAT.out _).mono ?_; rintro e v1 ⟨rfl, hkv1⟩
        clear cb0 cb1 cb2 cb3 cb4 cb5 cb6 cb7 cb8
        have Z_v1 : Kp [] w v1 := by first | exact Z_WB.trans hkv1 | exact Z_WB.trans (((Kp.refl _ _).alloc _).trans hkv1) | exact Z_WB.trans ((Kp.refl _ _).drew.trans hkv1)
        have K_WB_v1 : Kp [] WB v1 := by first | exact K_WB_WB.trans hkv1 | exact K_WB_WB.trans (((Kp.refl _ _).alloc _).trans hkv1) | exact K_WB_WB.trans ((Kp.refl _ _).drew.trans hkv1)
        obtain ⟨cb0, cb1, cb2, cb3, cb4, cb5, cb6, cb7, cb8⟩ := box9k K_WB_v1 HCB.out
        clear cb0 cb1 cb2 cb3 cb4 cb5 cb6 cb7 cb8
        have hkv1a : Kp [] v1 (v1.alloc (.cells #[.int .i64 0, .int .i64 0] 23)) := (Kp.refl _ _).alloc _
        have hcb := box2 (Kp.refl [] (v1.alloc (.cells #[.int .i64 0, .int .i64 0] 23)))
        have Z_v1a : Kp [] w (v1.alloc (.cells #[.int .i64 0, .int .i64 0] 23)) := Z_v1.trans hkv1a
        have K_WB_v1a : Kp [] WB (v1.alloc (.cells #[.int .i64 0, .int .i64 0] 23)) := K_WB_v1.trans hkv1a
        obtain ⟨cb0, cb1, cb2, cb3, cb4, cb5, cb6, cb7, cb8⟩ := box9k K_WB_v1a HCB.out
        go_wp2_with fail
        generalize v1.alloc (.cells #[.int .i64 0, .int .i64 0] 23) = v1a at *
        generalize v1.heap.size = Bv1 at *
        have Hv1 := Lib.hid hcb
        clear hcb
        have K_v1a_v1a : Kp [] v1a v1a := Kp.refl _ _
        obtain ⟨e1_0, e1_1⟩ := Hv1.out
        refine (HLI.out _).mono ?_; rintro e v2 ⟨rfl, hkv2⟩
        clear cb0 cb1 cb2 cb3 cb4 cb5 cb6 cb7 cb8 e1_0 e1_1
        have Z_v2 : Kp [] w v2 := by first | exact Z_v1a.trans hkv2 | exact Z_v1a.trans (((Kp.refl _ _).alloc _).trans hkv2) | exact Z_v1a.trans ((Kp.refl _ _).drew.trans hkv2)
        have K_WB_v2 : Kp [] WB v2 := by first | exact K_WB_v1a.trans hkv2 | exact K_WB_v1a.trans (((Kp.refl _ _).alloc _).trans hkv2) | exact K_WB_v1a.trans ((Kp.refl _ _).drew.trans hkv2)
        obtain ⟨cb0, cb1, cb2, cb3, cb4, cb5, cb6, cb7, cb8⟩ := box9k K_WB_v2 HCB.out
        have K_v1a_v2 : Kp [] v1a v2 := by first | exact K_v1a_v1a.trans hkv2 | exact K_v1a_v1a.trans (((Kp.refl _ _).alloc _).trans hkv2) | exact K_v1a_v1a.trans ((Kp.refl _ _).drew.trans hkv2)
        obtain ⟨e1_0, e1_1⟩ := box2k K_v1a_v2 Hv1.out
        go_wp2_with fail
        refine (HRM.out _).mono ?_; rintro e v3 ⟨rfl, hkv3⟩
        clear cb0 cb1 cb2 cb3 cb4 cb5 cb6 cb7 cb8 e1_0 e1_1
        have Z_v3 : Kp [] w v3 := by first | exact Z_v2.trans hkv3 | exact Z_v2.trans (((Kp.refl _ _).alloc _).trans hkv3) | exact Z_v2.trans ((Kp.refl _ _).drew.trans hkv3)
        have K_WB_v3 : Kp [] WB v3 := by first | exact K_WB_v2.trans hkv3 | exact K_WB_v2.trans (((Kp.refl _ _).alloc _).trans hkv3) | exact K_WB_v2.trans ((Kp.refl _ _).drew.trans hkv3)
        obtain ⟨cb0, cb1, cb2, cb3, cb4, cb5, cb6, cb7, cb8⟩ := box9k K_WB_v3 HCB.out
        have K_v1a_v3 : Kp [] v1a v3 := by first | exact K_v1a_v2.trans hkv3 | exact K_v1a_v2.trans (((Kp.refl _ _).alloc _).trans hkv3) | exact K_v1a_v2.trans ((Kp.refl _ _).drew.trans hkv3)
        obtain ⟨e1_0, e1_1⟩ := box2k K_v1a_v3 Hv1.out
        go_wp2_with fail
        go_ret
        exact ⟨by first | rfl | simp, by first | exact Z_v3 | exact Z_v3.alloc _ | exact Z_v3.drew | exact Z_v3.drewN _⟩
      · have h1' : decide (n < 1) = false := decide_eq_false h1
        by_cases h2 : 512 < n
        · have HLI := Lib.hid lives20_calls
          have HRM : Hid (∀ w : World, Calls Try.prog 12 #[.agg #[.int .i64 q.k, .int .i64 q.a.1, .int .i64 q.a.2, .int .i64 q.b.1, .int .i64 q.b.2, .int .i64 q.c.1, .int .i64 q.c.2, .int .i64 q.d.1, .int .i64 q.d.2]] w fun e w' => e = .returned (.bool true) ∧ Kp [] w w') := fun w => by have := rmayw_calls q w; rw [hm] at this; exact this
          have HAT : Hid (∀ w : World, Calls Try.prog 17 #[.agg #[.int .i64 q.k, .int .i64 q.a.1, .int .i64 q.a.2, .int .i64 q.b.1, .int .i64 q.b.2, .int .i64 q.c.1, .int .i64 q.c.2, .int .i64 q.d.1, .int .i64 q.d.2], .int .i64 i, .int .i64 n] w fun e w' => e = .returned (.tuple #[.agg #[.int .i64 0, .int .i64 0], .int .i64 1]) ∧ Kp [] w w') := fun w => cat_no q i n hin w
          clear hm hin
          have hKW : Kp [] w (w.alloc (.cells #[.int .i64 q.k, .int .i64 q.a.1, .int .i64 q.a.2, .int .i64 q.b.1, .int .i64 q.b.2, .int .i64 q.c.1, .int .i64 q.c.2, .int .i64 q.d.1, .int .i64 q.d.2] 25)) := (Kp.refl _ _).alloc _
          have hcb := box9 (Kp.refl [] (w.alloc (.cells #[.int .i64 q.k, .int .i64 q.a.1, .int .i64 q.a.2, .int .i64 q.b.1, .int .i64 q.b.2, .int .i64 q.c.1, .int .i64 q.c.2, .int .i64 q.d.1, .int .i64 q.d.2] 25)))
          go_enter Try.func4, Try.ntmps4
          go_wp2_with fail
          generalize (w.alloc (.cells #[.int .i64 q.k, .int .i64 q.a.1, .int .i64 q.a.2, .int .i64 q.b.1, .int .i64 q.b.2, .int .i64 q.c.1, .int .i64 q.c.2, .int .i64 q.d.1, .int .i64 q.d.2] 25)) = WB at *
          generalize w.heap.size = BX at *
          have HCB := Lib.hid hcb
          clear hcb
          have Z_WB : Kp [] w WB := hKW
          have K_WB_WB : Kp [] WB WB := Kp.refl _ _
          obtain ⟨cb0, cb1, cb2, cb3, cb4, cb5, cb6, cb7, cb8⟩ := HCB.out
          refine (HAT.out _).mono ?_; rintro e v1 ⟨rfl, hkv1⟩
          clear cb0 cb1 cb2 cb3 cb4 cb5 cb6 cb7 cb8
          have Z_v1 : Kp [] w v1 := by first | exact Z_WB.trans hkv1 | exact Z_WB.trans (((Kp.refl _ _).alloc _).trans hkv1) | exact Z_WB.trans ((Kp.refl _ _).drew.trans hkv1)
          have K_WB_v1 : Kp [] WB v1 := by first | exact K_WB_WB.trans hkv1 | exact K_WB_WB.trans (((Kp.refl _ _).alloc _).trans hkv1) | exact K_WB_WB.trans ((Kp.refl _ _).drew.trans hkv1)
          obtain ⟨cb0, cb1, cb2, cb3, cb4, cb5, cb6, cb7, cb8⟩ := box9k K_WB_v1 HCB.out
          clear cb0 cb1 cb2 cb3 cb4 cb5 cb6 cb7 cb8
          have hkv1a : Kp [] v1 (v1.alloc (.cells #[.int .i64 0, .int .i64 0] 23)) := (Kp.refl _ _).alloc _
          have hcb := box2 (Kp.refl [] (v1.alloc (.cells #[.int .i64 0, .int .i64 0] 23)))
          have Z_v1a : Kp [] w (v1.alloc (.cells #[.int .i64 0, .int .i64 0] 23)) := Z_v1.trans hkv1a
          have K_WB_v1a : Kp [] WB (v1.alloc (.cells #[.int .i64 0, .int .i64 0] 23)) := K_WB_v1.trans hkv1a
          obtain ⟨cb0, cb1, cb2, cb3, cb4, cb5, cb6, cb7, cb8⟩ := box9k K_WB_v1a HCB.out
          go_wp2_with fail
          generalize v1.alloc (.cells #[.int .i64 0, .int .i64 0] 23) = v1a at *
          generalize v1.heap.size = Bv1 at *
          have Hv1 := Lib.hid hcb
          clear hcb
          have K_v1a_v1a : Kp [] v1a v1a := Kp.refl _ _
          obtain ⟨e1_0, e1_1⟩ := Hv1.out
          refine (HLI.out _).mono ?_; rintro e v2 ⟨rfl, hkv2⟩
          clear cb0 cb1 cb2 cb3 cb4 cb5 cb6 cb7 cb8 e1_0 e1_1
          have Z_v2 : Kp [] w v2 := by first | exact Z_v1a.trans hkv2 | exact Z_v1a.trans (((Kp.refl _ _).alloc _).trans hkv2) | exact Z_v1a.trans ((Kp.refl _ _).drew.trans hkv2)
          have K_WB_v2 : Kp [] WB v2 := by first | exact K_WB_v1a.trans hkv2 | exact K_WB_v1a.trans (((Kp.refl _ _).alloc _).trans hkv2) | exact K_WB_v1a.trans ((Kp.refl _ _).drew.trans hkv2)
          obtain ⟨cb0, cb1, cb2, cb3, cb4, cb5, cb6, cb7, cb8⟩ := box9k K_WB_v2 HCB.out
          have K_v1a_v2 : Kp [] v1a v2 := by first | exact K_v1a_v1a.trans hkv2 | exact K_v1a_v1a.trans (((Kp.refl _ _).alloc _).trans hkv2) | exact K_v1a_v1a.trans ((Kp.refl _ _).drew.trans hkv2)
          obtain ⟨e1_0, e1_1⟩ := box2k K_v1a_v2 Hv1.out
          go_wp2_with fail
          refine (HRM.out _).mono ?_; rintro e v3 ⟨rfl, hkv3⟩
          clear cb0 cb1 cb2 cb3 cb4 cb5 cb6 cb7 cb8 e1_0 e1_1
          have Z_v3 : Kp [] w v3 := by first | exact Z_v2.trans hkv3 | exact Z_v2.trans (((Kp.refl _ _).alloc _).trans hkv3) | exact Z_v2.trans ((Kp.refl _ _).drew.trans hkv3)
          have K_WB_v3 : Kp [] WB v3 := by first | exact K_WB_v2.trans hkv3 | exact K_WB_v2.trans (((Kp.refl _ _).alloc _).trans hkv3) | exact K_WB_v2.trans ((Kp.refl _ _).drew.trans hkv3)
          obtain ⟨cb0, cb1, cb2, cb3, cb4, cb5, cb6, cb7, cb8⟩ := box9k K_WB_v3 HCB.out
          have K_v1a_v3 : Kp [] v1a v3 := by first | exact K_v1a_v2.trans hkv3 | exact K_v1a_v2.trans (((Kp.refl _ _).alloc _).trans hkv3) | exact K_v1a_v2.trans ((Kp.refl _ _).drew.trans hkv3)
          obtain ⟨e1_0, e1_1⟩ := box2k K_v1a_v3 Hv1.out
          go_wp2_with fail
          go_ret
          exact ⟨by first | rfl | simp, by first | exact Z_v3 | exact Z_v3.alloc _ | exact Z_v3.drew | exact Z_v3.drewN _⟩
        · have h2' : decide (512 < n) = false := decide_eq_false h2
          by_cases h3 : i < 0
          · have HLI := Lib.hid lives20_calls
            have HRM : Hid (∀ w : World, Calls Try.prog 12 #[.agg #[.int .i64 q.k, .int .i64 q.a.1, .int .i64 q.a.2, .int .i64 q.b.1, .int .i64 q.b.2, .int .i64 q.c.1, .int .i64 q.c.2, .int .i64 q.d.1, .int .i64 q.d.2]] w fun e w' => e = .returned (.bool true) ∧ Kp [] w w') := fun w => by have := rmayw_calls q w; rw [hm] at this; exact this
            have HAT : Hid (∀ w : World, Calls Try.prog 17 #[.agg #[.int .i64 q.k, .int .i64 q.a.1, .int .i64 q.a.2, .int .i64 q.b.1, .int .i64 q.b.2, .int .i64 q.c.1, .int .i64 q.c.2, .int .i64 q.d.1, .int .i64 q.d.2], .int .i64 i, .int .i64 n] w fun e w' => e = .returned (.tuple #[.agg #[.int .i64 0, .int .i64 0], .int .i64 1]) ∧ Kp [] w w') := fun w => cat_no q i n hin w
            clear hm hin
            have hKW : Kp [] w (w.alloc (.cells #[.int .i64 q.k, .int .i64 q.a.1, .int .i64 q.a.2, .int .i64 q.b.1, .int .i64 q.b.2, .int .i64 q.c.1, .int .i64 q.c.2, .int .i64 q.d.1, .int .i64 q.d.2] 25)) := (Kp.refl _ _).alloc _
            have hcb := box9 (Kp.refl [] (w.alloc (.cells #[.int .i64 q.k, .int .i64 q.a.1, .int .i64 q.a.2, .int .i64 q.b.1, .int .i64 q.b.2, .int .i64 q.c.1, .int .i64 q.c.2, .int .i64 q.d.1, .int .i64 q.d.2] 25)))
            go_enter Try.func4, Try.ntmps4
            go_wp2_with fail
            generalize (w.alloc (.cells #[.int .i64 q.k, .int .i64 q.a.1, .int .i64 q.a.2, .int .i64 q.b.1, .int .i64 q.b.2, .int .i64 q.c.1, .int .i64 q.c.2, .int .i64 q.d.1, .int .i64 q.d.2] 25)) = WB at *
            generalize w.heap.size = BX at *
            have HCB := Lib.hid hcb
            clear hcb
            have Z_WB : Kp [] w WB := hKW
            have K_WB_WB : Kp [] WB WB := Kp.refl _ _
            obtain ⟨cb0, cb1, cb2, cb3, cb4, cb5, cb6, cb7, cb8⟩ := HCB.out
            refine (HAT.out _).mono ?_; rintro e v1 ⟨rfl, hkv1⟩
            clear cb0 cb1 cb2 cb3 cb4 cb5 cb6 cb7 cb8
            have Z_v1 : Kp [] w v1 := by first | exact Z_WB.trans hkv1 | exact Z_WB.trans (((Kp.refl _ _).alloc _).trans hkv1) | exact Z_WB.trans ((Kp.refl _ _).drew.trans hkv1)
            have K_WB_v1 : Kp [] WB v1 := by first | exact K_WB_WB.trans hkv1 | exact K_WB_WB.trans (((Kp.refl _ _).alloc _).trans hkv1) | exact K_WB_WB.trans ((Kp.refl _ _).drew.trans hkv1)
            obtain ⟨cb0, cb1, cb2, cb3, cb4, cb5, cb6, cb7, cb8⟩ := box9k K_WB_v1 HCB.out
            clear cb0 cb1 cb2 cb3 cb4 cb5 cb6 cb7 cb8
            have hkv1a : Kp [] v1 (v1.alloc (.cells #[.int .i64 0, .int .i64 0] 23)) := (Kp.refl _ _).alloc _
            have hcb := box2 (Kp.refl [] (v1.alloc (.cells #[.int .i64 0, .int .i64 0] 23)))
            have Z_v1a : Kp [] w (v1.alloc (.cells #[.int .i64 0, .int .i64 0] 23)) := Z_v1.trans hkv1a
            have K_WB_v1a : Kp [] WB (v1.alloc (.cells #[.int .i64 0, .int .i64 0] 23)) := K_WB_v1.trans hkv1a
            obtain ⟨cb0, cb1, cb2, cb3, cb4, cb5, cb6, cb7, cb8⟩ := box9k K_WB_v1a HCB.out
            go_wp2_with fail
            generalize v1.alloc (.cells #[.int .i64 0, .int .i64 0] 23) = v1a at *
            generalize v1.heap.size = Bv1 at *
            have Hv1 := Lib.hid hcb
            clear hcb
            have K_v1a_v1a : Kp [] v1a v1a := Kp.refl _ _
            obtain ⟨e1_0, e1_1⟩ := Hv1.out
            refine (HLI.out _).mono ?_; rintro e v2 ⟨rfl, hkv2⟩
            clear cb0 cb1 cb2 cb3 cb4 cb5 cb6 cb7 cb8 e1_0 e1_1
            have Z_v2 : Kp [] w v2 := by first | exact Z_v1a.trans hkv2 | exact Z_v1a.trans (((Kp.refl _ _).alloc _).trans hkv2) | exact Z_v1a.trans ((Kp.refl _ _).drew.trans hkv2)
            have K_WB_v2 : Kp [] WB v2 := by first | exact K_WB_v1a.trans hkv2 | exact K_WB_v1a.trans (((Kp.refl _ _).alloc _).trans hkv2) | exact K_WB_v1a.trans ((Kp.refl _ _).drew.trans hkv2)
            obtain ⟨cb0, cb1, cb2, cb3, cb4, cb5, cb6, cb7, cb8⟩ := box9k K_WB_v2 HCB.out
            have K_v1a_v2 : Kp [] v1a v2 := by first | exact K_v1a_v1a.trans hkv2 | exact K_v1a_v1a.trans (((Kp.refl _ _).alloc _).trans hkv2) | exact K_v1a_v1a.trans ((Kp.refl _ _).drew.trans hkv2)
            obtain ⟨e1_0, e1_1⟩ := box2k K_v1a_v2 Hv1.out
            go_wp2_with fail
            refine (HRM.out _).mono ?_; rintro e v3 ⟨rfl, hkv3⟩
            clear cb0 cb1 cb2 cb3 cb4 cb5 cb6 cb7 cb8 e1_0 e1_1
            have Z_v3 : Kp [] w v3 := by first | exact Z_v2.trans hkv3 | exact Z_v2.trans (((Kp.refl _ _).alloc _).trans hkv3) | exact Z_v2.trans ((Kp.refl _ _).drew.trans hkv3)
            have K_WB_v3 : Kp [] WB v3 := by first | exact K_WB_v2.trans hkv3 | exact K_WB_v2.trans (((Kp.refl _ _).alloc _).trans hkv3) | exact K_WB_v2.trans ((Kp.refl _ _).drew.trans hkv3)
            obtain ⟨cb0, cb1, cb2, cb3, cb4, cb5, cb6, cb7, cb8⟩ := box9k K_WB_v3 HCB.out
            have K_v1a_v3 : Kp [] v1a v3 := by first | exact K_v1a_v2.trans hkv3 | exact K_v1a_v2.trans (((Kp.refl _ _).alloc _).trans hkv3) | exact K_v1a_v2.trans ((Kp.refl _ _).drew.trans hkv3)
            obtain ⟨e1_0, e1_1⟩ := box2k K_v1a_v3 Hv1.out
            go_wp2_with fail
            go_ret
            exact ⟨by first | rfl | simp, by first | exact Z_v3 | exact Z_v3.alloc _ | exact Z_v3.drew | exact Z_v3.drewN _⟩
          · have h3' : decide (i < 0) = false := decide_eq_false h3
            have h4 : n < i := by
              apply Classical.byContradiction; intro h4; exact hin ⟨hm, by omega, by omega, by omega, by omega⟩
            have HLI := Lib.hid lives20_calls
            have HRM : Hid (∀ w : World, Calls Try.prog 12 #[.agg #[.int .i64 q.k, .int .i64 q.a.1, .int .i64 q.a.2, .int .i64 q.b.1, .int .i64 q.b.2, .int .i64 q.c.1, .int .i64 q.c.2, .int .i64 q.d.1, .int .i64 q.d.2]] w fun e w' => e = .returned (.bool true) ∧ Kp [] w w') := fun w => by have := rmayw_calls q w; rw [hm] at this; exact this
            have HAT : Hid (∀ w : World, Calls Try.prog 17 #[.agg #[.int .i64 q.k, .int .i64 q.a.1, .int .i64 q.a.2, .int .i64 q.b.1, .int .i64 q.b.2, .int .i64 q.c.1, .int .i64 q.c.2, .int .i64 q.d.1, .int .i64 q.d.2], .int .i64 i, .int .i64 n] w fun e w' => e = .returned (.tuple #[.agg #[.int .i64 0, .int .i64 0], .int .i64 1]) ∧ Kp [] w w') := fun w => cat_no q i n hin w
            clear hm hin
            have hKW : Kp [] w (w.alloc (.cells #[.int .i64 q.k, .int .i64 q.a.1, .int .i64 q.a.2, .int .i64 q.b.1, .int .i64 q.b.2, .int .i64 q.c.1, .int .i64 q.c.2, .int .i64 q.d.1, .int .i64 q.d.2] 25)) := (Kp.refl _ _).alloc _
            have hcb := box9 (Kp.refl [] (w.alloc (.cells #[.int .i64 q.k, .int .i64 q.a.1, .int .i64 q.a.2, .int .i64 q.b.1, .int .i64 q.b.2, .int .i64 q.c.1, .int .i64 q.c.2, .int .i64 q.d.1, .int .i64 q.d.2] 25)))
            go_enter Try.func4, Try.ntmps4
            go_wp2_with fail
            generalize (w.alloc (.cells #[.int .i64 q.k, .int .i64 q.a.1, .int .i64 q.a.2, .int .i64 q.b.1, .int .i64 q.b.2, .int .i64 q.c.1, .int .i64 q.c.2, .int .i64 q.d.1, .int .i64 q.d.2] 25)) = WB at *
            generalize w.heap.size = BX at *
            have HCB := Lib.hid hcb
            clear hcb
            have Z_WB : Kp [] w WB := hKW
            have K_WB_WB : Kp [] WB WB := Kp.refl _ _
            obtain ⟨cb0, cb1, cb2, cb3, cb4, cb5, cb6, cb7, cb8⟩ := HCB.out
            refine (HAT.out _).mono ?_; rintro e v1 ⟨rfl, hkv1⟩
            clear cb0 cb1 cb2 cb3 cb4 cb5 cb6 cb7 cb8
            have Z_v1 : Kp [] w v1 := by first | exact Z_WB.trans hkv1 | exact Z_WB.trans (((Kp.refl _ _).alloc _).trans hkv1) | exact Z_WB.trans ((Kp.refl _ _).drew.trans hkv1)
            have K_WB_v1 : Kp [] WB v1 := by first | exact K_WB_WB.trans hkv1 | exact K_WB_WB.trans (((Kp.refl _ _).alloc _).trans hkv1) | exact K_WB_WB.trans ((Kp.refl _ _).drew.trans hkv1)
            obtain ⟨cb0, cb1, cb2, cb3, cb4, cb5, cb6, cb7, cb8⟩ := box9k K_WB_v1 HCB.out
            clear cb0 cb1 cb2 cb3 cb4 cb5 cb6 cb7 cb8
            have hkv1a : Kp [] v1 (v1.alloc (.cells #[.int .i64 0, .int .i64 0] 23)) := (Kp.refl _ _).alloc _
            have hcb := box2 (Kp.refl [] (v1.alloc (.cells #[.int .i64 0, .int .i64 0] 23)))
            have Z_v1a : Kp [] w (v1.alloc (.cells #[.int .i64 0, .int .i64 0] 23)) := Z_v1.trans hkv1a
            have K_WB_v1a : Kp [] WB (v1.alloc (.cells #[.int .i64 0, .int .i64 0] 23)) := K_WB_v1.trans hkv1a
            obtain ⟨cb0, cb1, cb2, cb3, cb4, cb5, cb6, cb7, cb8⟩ := box9k K_WB_v1a HCB.out
            go_wp2_with fail
            generalize v1.alloc (.cells #[.int .i64 0, .int .i64 0] 23) = v1a at *
            generalize v1.heap.size = Bv1 at *
            have Hv1 := Lib.hid hcb
            clear hcb
            have K_v1a_v1a : Kp [] v1a v1a := Kp.refl _ _
            obtain ⟨e1_0, e1_1⟩ := Hv1.out
            refine (HLI.out _).mono ?_; rintro e v2 ⟨rfl, hkv2⟩
            clear cb0 cb1 cb2 cb3 cb4 cb5 cb6 cb7 cb8 e1_0 e1_1
            have Z_v2 : Kp [] w v2 := by first | exact Z_v1a.trans hkv2 | exact Z_v1a.trans (((Kp.refl _ _).alloc _).trans hkv2) | exact Z_v1a.trans ((Kp.refl _ _).drew.trans hkv2)
            have K_WB_v2 : Kp [] WB v2 := by first | exact K_WB_v1a.trans hkv2 | exact K_WB_v1a.trans (((Kp.refl _ _).alloc _).trans hkv2) | exact K_WB_v1a.trans ((Kp.refl _ _).drew.trans hkv2)
            obtain ⟨cb0, cb1, cb2, cb3, cb4, cb5, cb6, cb7, cb8⟩ := box9k K_WB_v2 HCB.out
            have K_v1a_v2 : Kp [] v1a v2 := by first | exact K_v1a_v1a.trans hkv2 | exact K_v1a_v1a.trans (((Kp.refl _ _).alloc _).trans hkv2) | exact K_v1a_v1a.trans ((Kp.refl _ _).drew.trans hkv2)
            obtain ⟨e1_0, e1_1⟩ := box2k K_v1a_v2 Hv1.out
            go_wp2_with fail
            refine (HRM.out _).mono ?_; rintro e v3 ⟨rfl, hkv3⟩
            clear cb0 cb1 cb2 cb3 cb4 cb5 cb6 cb7 cb8 e1_0 e1_1
            have Z_v3 : Kp [] w v3 := by first | exact Z_v2.trans hkv3 | exact Z_v2.trans (((Kp.refl _ _).alloc _).trans hkv3) | exact Z_v2.trans ((Kp.refl _ _).drew.trans hkv3)
            have K_WB_v3 : Kp [] WB v3 := by first | exact K_WB_v2.trans hkv3 | exact K_WB_v2.trans (((Kp.refl _ _).alloc _).trans hkv3) | exact K_WB_v2.trans ((Kp.refl _ _).drew.trans hkv3)
            obtain ⟨cb0, cb1, cb2, cb3, cb4, cb5, cb6, cb7, cb8⟩ := box9k K_WB_v3 HCB.out
            have K_v1a_v3 : Kp [] v1a v3 := by first | exact K_v1a_v2.trans hkv3 | exact K_v1a_v2.trans (((Kp.refl _ _).alloc _).trans hkv3) | exact K_v1a_v2.trans ((Kp.refl _ _).drew.trans hkv3)
            obtain ⟨e1_0, e1_1⟩ := box2k K_v1a_v3 Hv1.out
            go_wp2_with fail
            go_ret
            exact ⟨by first | rfl | simp, by first | exact Z_v3 | exact Z_v3.alloc _ | exact Z_v3.drew | exact Z_v3.drewN _⟩
end Go.Proofs.Ytfdognnjghdikaa

/- stack: Do at a short stack, at no operator, at nil; IsOp. -/
import Derived.Test.YtfgpocpfapnkkaaGreatStL
namespace Go.Proofs.YtfgpocpfapnkkaaGreat
open Go.RowKit
set_option linter.unusedVariables false
set_option linter.unusedSimpArgs false
theorem do_nil (op : Int) (w : World) : Calls Tryz.prog 54 #[.pointer none, .int .i64 op] w fun e w' => e = .returned (.int .i64 6) ∧ w = w' := by
  go_enter Tryz.func54, Tryz.ntmps54
  go_wp2_with fail
  go_ret
  exact ⟨rfl, rfl⟩
set_option maxRecDepth 100000 in
set_option maxHeartbeats 1000000 in
theorem do_none (op : Int) (s : Addr) (w : World) (hf : Calls Tryz.prog 64 #[.int .i64 op] w fun e w' => e = .returned (.tuple #[.agg #[.int .i64 op, .int .i64 1, .nilFunc, .nilFunc], .bool false]) ∧ Kp [] w w') :
    Calls Tryz.prog 54 #[.pointer (some s), .int .i64 op] w fun e w' => e = .returned (.int .i64 1) ∧ Kp [] w w' := by
  have HF := Lib.hid hf
  clear hf
  go_enter Tryz.func54, Tryz.ntmps54
  go_wp2_with fail
  refine HF.out.mono ?_; rintro e w1 ⟨rfl, hk1⟩
  have hka := hk1.alloc (.cells #[.int .i64 op, .int .i64 1, .nilFunc, .nilFunc] 93)
  go_wp2_with fail
  go_ret
  exact ⟨rfl, by first | exact hka | (repeat (first | exact Kp.refl _ _ | assumption | refine Kp.drew ?_ | refine Kp.drewN ?_ _ | refine Kp.alloc ?_ _ | (refine Kp.setCell ?_ (by first | (left; simp; done) | (right; simp; try omega)) _) | (refine Kp.trans' ?_ (by assumption) (by simp; try omega))))⟩
set_option maxRecDepth 100000 in
set_option maxHeartbeats 1000000 in
theorem do_short (op : Int) (k : Nat) (s base : Nat) (vl vd : Value) (l st dr : List Int) (w : World) (h : StS w s base vl l st vd dr) (hl : l.length < k) (hk : k ≤ 4)
    (hf : Calls Tryz.prog 64 #[.int .i64 op] w fun e w' => ∃ f d, e = .returned (.tuple #[.agg #[.int .i64 op, .int .i64 k, f, d], .bool true]) ∧ (∃ a cs, (f = .func a #[] cs ∧ d = .nilFunc) ∨ (f = .nilFunc ∧ d = .func a #[] cs)) ∧ Kp [] w w') :
    Calls Tryz.prog 54 #[.pointer (some ⟨s, 0, none⟩), .int .i64 op] w fun e w' => e = .returned (.int .i64 170) ∧ Kp [] w w' := by
  have HF := Lib.hid hf
  have c0 := h.cell0
  obtain ⟨p, c, rfl⟩ := h.2.2.2.1.form
  clear h hf
  go_enter Tryz.func54, Tryz.ntmps54
  go_wp2_with fail
  refine HF.out.mono ?_; rintro e w1 ⟨f, d, rfl, ⟨a, cs, hfd⟩, hk1⟩
  have hli : (l.length : Int) < k := by omega
  rcases hfd with ⟨rfl, rfl⟩ | ⟨rfl, rfl⟩
  · have hka : Kp [] w (w1.alloc (.cells #[.int .i64 op, .int .i64 k, .func a #[] cs, .nilFunc] 93)) := hk1.alloc _
    obtain ⟨b0, b1, b2, b3⟩ := box4s (Kp.refl [] (w1.alloc (.cells #[.int .i64 op, .int .i64 k, .func a #[] cs, .nilFunc] 93)))
    have d0 := hka.cell c0 (by simp)
    have hli : (l.length : Int) < k := by omega
    go_wp2_with fail
    generalize w1.alloc (.cells #[.int .i64 op, .int .i64 k, .func a #[] cs, .nilFunc] 93) = WB at *
    generalize w1.heap.size = BX at *
    have q1 := KW.cell b1
    have qd := KW.cell d0
    refine wp_region_kq (by kernel_rfl) (by kernel_rfl) ?_
    repeat (go_big_quiet_step (fail))
    refine wpQuiet_nil ?_
    intro v1 hw'
    obtain ⟨⟨_, hkv1⟩, rfl⟩ := hw'
    clear q1 qd
    go_wp2_with fail
    go_ret
    exact ⟨rfl, hka.trans hkv1⟩
  · have hka : Kp [] w (w1.alloc (.cells #[.int .i64 op, .int .i64 k, .nilFunc, .func a #[] cs] 93)) := hk1.alloc _
    obtain ⟨b0, b1, b2, b3⟩ := box4s (Kp.refl [] (w1.alloc (.cells #[.int .i64 op, .int .i64 k, .nilFunc, .func a #[] cs] 93)))
    have d0 := hka.cell c0 (by simp)
    have hli : (l.length : Int) < k := by omega
    go_wp2_with fail
    generalize w1.alloc (.cells #[.int .i64 op, .int .i64 k, .nilFunc, .func a #[] cs] 93) = WB at *
    generalize w1.heap.size = BX at *
    have q1 := KW.cell b1
    have qd := KW.cell d0
    refine wp_region_kq (by kernel_rfl) (by kernel_rfl) ?_
    repeat (go_big_quiet_step (fail))
    refine wpQuiet_nil ?_
    intro v1 hw'
    obtain ⟨⟨_, hkv1⟩, rfl⟩ := hw'
    clear q1 qd
    go_wp2_with fail
    go_ret
    exact ⟨rfl, hka.trans hkv1⟩
end Go.Proofs.YtfgpocpfapnkkaaGreat

/- compose: put of the reference. (Written by wip/compose/gencpr.py.) -/
import Derived.Test.YtodjohoonbkklaaCpQ
import Derived.Deep.RegionHeld3
import Derived.Deep.DeepCutAuto
import Derived.Deep.CutBlock
namespace Go.Proofs.Ytodjohoonbkklaa
open Go.RowKit
set_option linter.unusedVariables false
set_option linter.unusedSimpArgs false
theorem or_sumR (F : Int) (hF : F = 0 ∨ F = 8 ∨ F = 64 ∨ F = 128) : ∀ t ∈ [(0 : Int), 1, 2050, 2051, 4098, 4099], (F ≠ 0 → bits .or .i64 t F = F + t) ∧ bits .or .i64 (F + t) 32 = F + t + 32 := by
  rcases hF with rfl | rfl | rfl | rfl <;> decide
theorem or_start : bits .or .i64 2 2048 = 2050 ∧ bits .or .i64 2 4096 = 4098 ∧ bits .or .i64 0 1 = 1 ∧ bits .or .i64 2050 1 = 2051 ∧ bits .or .i64 4098 1 = 4099 := by decide
theorem RWt.step {w w' : World} {r : Nat} {room : Int} {acc : List Int} (h : RWt w r room acc) (hk : Kp [] w w') : RWt w' r room acc := h.kp0 hk
theorem rwu2_calls (r : Nat) (room : Int) (acc : List Int) (x : Int) (g1 : -9223372036854775808 ≤ x) (g2 : x ≤ 9223372036854775807) (w : World) (h : RWt w r room acc) (hn : (acc.length : Int) + 2 ≤ room) (hr : room ≤ 1073741824) :
    Calls Try.prog 66 #[.pointer (some ⟨r, 0, none⟩), .int .i64 2, .int .i64 x] w fun e w' => e = .returned (.tuple #[]) ∧ RWt w' r room (acc ++ bytesN 2 x) ∧ Kp [r] w w' := rwu_calls r room acc 2 x (by decide) (by decide) g1 g2 w h hn hr
theorem rwu1_calls (r : Nat) (room : Int) (acc : List Int) (x : Int) (g1 : -9223372036854775808 ≤ x) (g2 : x ≤ 9223372036854775807) (w : World) (h : RWt w r room acc) (hn : (acc.length : Int) + 1 ≤ room) (hr : room ≤ 1073741824) :
    Calls Try.prog 66 #[.pointer (some ⟨r, 0, none⟩), .int .i64 1, .int .i64 x] w fun e w' => e = .returned (.tuple #[]) ∧ RWt w' r room (acc ++ bytesN 1 x) ∧ Kp [r] w w' := rwu_calls r room acc 1 x (by decide) (by decide) g1 g2 w h hn hr
/-- What stands behind the switch over the matrix. -/
def SwSt (w1 wx : World) (B : Nat) (v : Value) (nums : List Int) : Prop := IsInts .i64 wx v nums ∧ (∀ k, blockOf v = some k → B < k) ∧ Kp [] w1 wx
end Go.Proofs.Ytodjohoonbkklaa

/- compose: put. (Written by wip/compose/gencpq.py.) -/
import Derived.Test.YtodjohoonbkklaaCpP
import Derived.Test.YtodjohoonbkklaaCpH
import Derived.Test.YtodjohoonbkklaaWireG
import Derived.Test.YtodjohoonbkklaaPair
import Derived.BigQuiet
import Derived.Deep.QuietTactic
namespace Go.Proofs.Ytodjohoonbkklaa
open Go.RowKit
set_option linter.unusedVariables false
set_option linter.unusedSimpArgs false
/-- The two numbers of a part as they are put. -/
def numA (p : Pt) : Int := if p.m then p.pa else p.dx
def numB (p : Pt) : Int := if p.m then p.ch else p.dy
def tinyB (p : Pt) : Bool := if p.m then bothB p.pa p.ch 0 255 else bothB p.dx p.dy (-128) 127
def tflag (p : Pt) : Int := if p.m then 0 else if p.t then 2050 else 4098
def flagsM (p : Pt) (G : Bool) : Int := mflag p.xx p.xy p.yx p.yy + tflag p + (if G then 32 else 0) + (if tinyB p then 0 else 1)
def lenN (p : Pt) : Nat := if tinyB p then 1 else 2
/-- A part's bytes. -/
def putM (p : Pt) (G : Bool) : List Int := bytesN 2 (flagsM p G) ++ bytesN 2 p.g ++ bytesN (lenN p) (numA p) ++ bytesN (lenN p) (numB p) ++ (mnums p.xx p.xy p.yx p.yy).flatMap (bytesN 2)
theorem mflag_cases (a b c d : Int) : mflag a b c d = 0 ∨ mflag a b c d = 8 ∨ mflag a b c d = 64 ∨ mflag a b c d = 128 := by
  unfold mflag; split
  · simp
  · split
    · simp
    · split <;> simp
theorem mnums_len (a b c d : Int) : (mnums a b c d).length ≤ 4 := by
  unfold mnums; split
  · simp
  · split
    · simp
    · split <;> simp
theorem mnums_in (a b c d : Int) (h : fitsM a b c d = true) : ∀ x ∈ mnums a b c d, -32768 ≤ x ∧ x < 32768 := by
  unfold fitsM s16B at h
  simp only [Bool.and_eq_true, decide_eq_true_eq] at h
  unfold mnums; split
  · simp
  · split
    · simp; omega
    · split <;> simp <;> omega
theorem flat2_len (l : List Int) : (l.flatMap (bytesN 2)).length = 2 * l.length := by
  induction l with
  | nil => rfl
  | cons x l ih => simp [List.flatMap_cons, bytesN_length, ih]; omega
theorem putM_len (p : Pt) (G : Bool) : (putM p G).length ≤ 16 := by
  have h1 := mnums_len p.xx p.xy p.yx p.yy
  have h2 : lenN p ≤ 2 := by unfold lenN; split <;> omega
  unfold putM
  simp only [List.length_append, bytesN_length, flat2_len]
  omega
/-- The bits of a part's flags lie apart: 'or' is the sum. -/
theorem or_sum (F : Int) (hF : F = 0 ∨ F = 8 ∨ F = 64 ∨ F = 128) : ∀ t ∈ [(0 : Int), 2050, 4098], ∀ g ∈ [(0 : Int), 32], bits .or .i64 F t = F + t ∧ bits .or .i64 (F + t) g = F + t + g ∧ bits .or .i64 (F + t + g) 1 = F + t + g + 1 := by
  rcases hF with rfl | rfl | rfl | rfl <;> decide
set_option maxRecDepth 100000 in
theorem both_as (a b lo hi : Int) (Y : Bool) (h : bothB a b lo hi = Y) (w : World) (n : Nat) : Calls Try.prog 69 #[.int .i64 a, .int .i64 b, .int .i64 lo, .int .i64 hi] (w.drewN n) fun e w'' => e = .returned (.bool Y) ∧ ∃ m, w'' = w.drewN m :=
  Calls.quiet_of_same ((both_calls a b lo hi _).mono fun _ _ ⟨x, y⟩ => ⟨by rw [← h]; exact x, y.symm⟩)
theorem flat_snoc (l : List Int) (j : Nat) (h : j < l.length) : (l.take (j + 1)).flatMap (bytesN 2) = (l.take j).flatMap (bytesN 2) ++ bytesN 2 (l.getD j 0) := by
  rw [take_snoc l j 0 h, List.flatMap_append]; simp
theorem WSt.step {w w' : World} {r : Nat} {room : Int} {v : Value} {acc : List Int} (h : WSt w r room v acc) (hk : Kp [] w w') : WSt w' r room v acc ∧ WK w w' r v v := ⟨h.kp hk (by simp) (by simp), hk.more (by simp), fun k h => .inl h⟩
theorem stepS {w a b : World} {r : Nat} {room : Int} {v : Value} {acc : List Int} (h : WSt a r room v acc ∧ WK w a r v v) (hk : Kp [] a b) : WSt b r room v acc ∧ WK w b r v v := ⟨(h.1.step hk).1, h.2.trans (h.1.step hk).2⟩
theorem WK.next {w a b c : World} {r : Nat} {room : Int} {v u u' : Value} {acc : List Int} (h : WK w a r v u) (hs : WSt a r room u acc) (hk : Kp [] a b) (k : WK b c r u u') : WK w c r v u' := (h.trans (hs.step hk).2).trans k
end Go.Proofs.Ytodjohoonbkklaa

/- The contracts of the layer fixed that only compute: May, abs, Mul64, Div64 at products below 2^64, ratio. -/
import Derived.Test.YtfgpocpfapnkkaaGreatRows
import Derived.Test.YtfgpocpfapnkkaaGreatShelf
import Derived.Test.YtfgpocpfapnkkaaGreatFixPlain
import Derived.WalkKit
import Derived.ProofKit
import Derived.BigQuiet
import Derived.Deep.QuietTactic
import Derived.WalkLawsBesides
import Derived.WalkSpells
namespace Go.Proofs.YtfgpocpfapnkkaaGreat
open Go.RowKit

def mayB (x : Int) : Bool := decide (-2147483648 ≤ x) && decide (x ≤ 2147483648)

theorem may_calls (x : Int) (w : World) : Calls Tryz.prog 16 #[.int .i64 x] w fun e w' => e = .returned (.bool (mayB x)) ∧ w = w' := by
  by_cases h1 : -2147483648 ≤ x
  · by_cases h2 : x ≤ 2147483648
    · go_enter Tryz.func16, Tryz.ntmps16
      go_wp2
      go_ret
      exact ⟨by simp [mayB, h1, h2], rfl⟩
    · go_enter Tryz.func16, Tryz.ntmps16
      go_wp2
      go_ret
      exact ⟨by simp [mayB, h1, h2], rfl⟩
  · have h2 : decide (-2147483648 ≤ x) = false := by simpa using h1
    go_enter Tryz.func16, Tryz.ntmps16
    go_wp2
    go_ret
    exact ⟨by unfold mayB; rw [h2]; rfl, rfl⟩

theorem wrap_neg (x : Int) (h1 : x < 0) (h2 : -9223372036854775808 ≤ x) : IntKind.u64.wrap (-IntKind.u64.wrap x) = (x.natAbs : Int) := by
  simp only [IntKind.wrap_u64]; omega
theorem wrap_pos (x : Int) (h1 : 0 ≤ x) (h2 : x ≤ 9223372036854775807) : IntKind.u64.wrap x = (x.natAbs : Int) := by
  simp only [IntKind.wrap_u64]; omega
theorem abs_calls (x : Int) (h2 : -9223372036854775808 ≤ x) (h3 : x ≤ 9223372036854775807) (w : World) :
    Calls Tryz.prog 125 #[.int .i64 x] w fun e w' => e = .returned (.tuple #[.int .u64 (x.natAbs : Int), .bool (decide (x < 0))]) ∧ w = w' := by
  by_cases h1 : x < 0
  · go_enter Tryz.func125, Tryz.ntmps125
    go_wp2
    go_ret2
    exact ⟨by simp [h1, wrap_neg x h1 h2], rfl⟩
  · go_enter Tryz.func125, Tryz.ntmps125
    go_wp2
    go_ret2
    exact ⟨by simp [h1]; omega, rfl⟩

theorem mul64_small (x y : Nat) (hx : x < 18446744073709551616) (hy : y < 18446744073709551616) (h : x * y < 18446744073709551616) (w : World) :
    Calls Tryz.prog 126 #[.int .u64 x, .int .u64 y] w fun e w' => e = .returned (.tuple #[.int .u64 0, .int .u64 ((x * y : Nat) : Int)]) ∧ w = w' :=
  (Tryz.bits_Mul64 x y hx hy w).mono fun e w' ⟨he, hw⟩ => by
    rw [Nat.div_eq_of_lt h, Nat.mod_eq_of_lt h] at he
    exact ⟨he, hw.symm⟩

theorem wrap_nat (i : Int) (l y : Nat) (e : i = ((l / y : Nat) : Int)) (h : l < 18446744073709551616) : IntKind.u64.wrap i = i := by
  have h1 := Nat.div_le_self l y
  generalize l / y = q at *
  subst e
  rw [IntKind.wrap_u64]; omega
def Drew (w w' : World) : Prop := ∃ n, w' = w.drewN n
theorem div64_small (l y : Nat) (h2 : l < 18446744073709551616) (h3 : 0 < y) (h4 : y < 18446744073709551616) (w : World) :
    Calls Tryz.prog 127 #[.int .u64 0, .int .u64 l, .int .u64 y] w fun e w' => e = .returned (.tuple #[.int .u64 ((l / y : Nat) : Int), .int .u64 ((l % y : Nat) : Int)]) ∧ Drew w w' := by
  have g : ((y : Int) == 0) = false := by rw [beq_eq_false_iff_ne]; omega
  go_enter Tryz.func127, Tryz.ntmps127
  go_wp2
  go_quiet (fail)
  go_wp2
  go_ret2
  have e1 : IntKind.u64.wrap ((l : Int) / (y : Int)) = (l : Int) / (y : Int) := by
    exact wrap_nat _ l y (Int.natCast_ediv _ _).symm h2
  exact ⟨by simp [e1], _, rfl⟩

set_option maxRecDepth 100000 in
set_option maxHeartbeats 4000000 in
theorem ratio_calls (a b c : Int) (ha : -9223372036854775808 ≤ a) (ha' : a ≤ 9223372036854775807) (hb : -9223372036854775808 ≤ b) (hb' : b ≤ 9223372036854775807)
    (hc : -9223372036854775808 ≤ c) (hc' : c ≤ 9223372036854775807) (hc0 : c ≠ 0) (hp : a.natAbs * b.natAbs ≤ 4611686018427387904) (w : World) :
    Calls Tryz.prog 121 #[.int .i64 a, .int .i64 b, .int .i64 c] w fun e w' => e = .returned (.int .i64 (nearQ (a * b) c)) ∧ Drew w w' := by
  have xb : a.natAbs < 18446744073709551616 := by omega
  have yb : b.natAbs < 18446744073709551616 := by omega
  have zb : c.natAbs < 18446744073709551616 := by omega
  have z0 : 0 < c.natAbs := by omega
  have pb : a.natAbs * b.natAbs < 18446744073709551616 := by omega
  have hfin : Hid _ := ratio_near a b c hc0
  go_enter Tryz.func121, Tryz.ntmps121
  go_wp2_with fail
  refine (abs_calls _ ha ha' _).mono ?_; rintro e w' ⟨rfl, rfl⟩
  clear ha ha'
  go_wp2_with fail
  refine (abs_calls _ hb hb' _).mono ?_; rintro e w' ⟨rfl, rfl⟩
  clear hb hb'
  go_wp2_with fail
  refine (abs_calls _ hc hc' _).mono ?_; rintro e w' ⟨rfl, rfl⟩
  clear hc hc'
  generalize decide (a < 0) = m1 at hfin ⊢
  generalize decide (b < 0) = m2 at hfin ⊢
  generalize decide (c < 0) = m3 at hfin ⊢
  go_wp2_with fail
  refine (mul64_small _ _ xb yb pb _).mono ?_; rintro e w' ⟨rfl, rfl⟩
  generalize a.natAbs * b.natAbs = p at *
  generalize c.natAbs = z at *
  generalize a.natAbs = x at *
  generalize b.natAbs = y at *
  go_wp2_with fail
  refine (div64_small _ _ pb z0 zb _).mono ?_; rintro e w1 ⟨rfl, hd1⟩
  have hr : p % z < z := Nat.mod_lt _ z0
  have hq : p / z ≤ p := Nat.div_le_self _ _
  generalize p % z = r at *
  generalize p / z = q at *
  clear hc0 xb yb z0
  have hq2 : q ≤ 4611686018427387904 := by omega
  clear hp hq pb
  rcases Nat.lt_trichotomy (z - r) r with h1 | h1 | h1
  · cases m1 <;> cases m2 <;> cases m3
    all_goals
      simp only [ratioQ, if_pos h1, if_pos (Nat.le_of_lt h1)] at hfin
      go_wp2
      go_ret
      exact ⟨by rw [hfin.out]; simp, hd1⟩
  · have h2 := Nat.le_of_eq h1
    have h3 := Nat.le_of_eq h1.symm
    obtain rfl : z = r + r := by omega
    have h4 : ((r : Int) == (r : Int) + (r : Int) - (r : Int)) = true := by rw [beq_iff_eq]; omega
    cases m1 <;> cases m2 <;> cases m3
    all_goals
      simp only [ratioQ, if_neg (Nat.not_lt.2 h3), if_pos h2] at hfin
      clear h1 h2 h3
      go_wp2
      go_ret
      exact ⟨by rw [hfin.out]; simp, hd1⟩
  · cases m1 <;> cases m2 <;> cases m3
    all_goals
      simp only [ratioQ, if_neg (Nat.not_lt.2 (Nat.le_of_lt h1)), if_neg (Nat.not_le.2 h1)] at hfin
      go_wp2
      go_ret
      exact ⟨by rw [hfin.out]; simp, hd1⟩
end Go.Proofs.YtfgpocpfapnkkaaGreat

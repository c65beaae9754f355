/- The plain arithmetic of the layer fixed: the nearest whole number to a quotient, by signs and by floor. No program in sight. -/
import Init
namespace Go.Proofs.YtfgpocpfapnkkaaGreat
set_option linter.unusedVariables false
theorem div_is {x b k r : Int} (hb : 0 < b) (h : r + b * k = x) (h0 : 0 ≤ r) (h1 : r < b) : x / b = k :=
  ((Int.ediv_emod_unique hb).2 ⟨h, h0, h1⟩).1

theorem near_pos (P z : Nat) (hz : 0 < z) : (2 * (P : Int) + z) / (2 * z) = if z - P % z ≤ P % z then ((P / z : Nat) : Int) + 1 else ((P / z : Nat) : Int) := by
  have hr := Nat.mod_lt P hz
  have e := Nat.div_add_mod P z
  generalize P % z = r at *
  generalize P / z = q at *
  subst e
  split
  · refine div_is (r := 2 * (r : Int) - z) (by omega) ?_ (by omega) (by omega)
    grind
  · refine div_is (r := 2 * (r : Int) + z) (by omega) ?_ (by omega) (by omega)
    grind
theorem near_neg (P z : Nat) (hz : 0 < z) : (2 * -(P : Int) + z) / (2 * z) = if z - P % z < P % z then -(((P / z : Nat) : Int) + 1) else -((P / z : Nat) : Int) := by
  have hr := Nat.mod_lt P hz
  have e := Nat.div_add_mod P z
  generalize P % z = r at *
  generalize P / z = q at *
  subst e
  split
  · refine div_is (r := 3 * (z : Int) - 2 * r) (by omega) ?_ (by omega) (by omega)
    grind
  · refine div_is (r := (z : Int) - 2 * r) (by omega) ?_ (by omega) (by omega)
    grind
def nearQ (p c : Int) : Int := if 0 < c then (2 * p + c) / (2 * c) else (2 * -p + -c) / (2 * -c)
def ratioQ (q r z : Nat) (m1 m2 m3 : Bool) : Int :=
  if m1 != (m2 != m3) then (if z - r < r then -((q : Int) + 1) else -(q : Int)) else (if z - r ≤ r then (q : Int) + 1 else (q : Int))
theorem ratio_near (a b c : Int) (hc0 : c ≠ 0) :
    nearQ (a * b) c = ratioQ (a.natAbs * b.natAbs / c.natAbs) (a.natAbs * b.natAbs % c.natAbs) c.natAbs (decide (a < 0)) (decide (b < 0)) (decide (c < 0)) := by
  have hz : 0 < c.natAbs := by omega
  have hp := near_pos (a.natAbs * b.natAbs) c.natAbs hz
  have hn := near_neg (a.natAbs * b.natAbs) c.natAbs hz
  have hA : ((a.natAbs * b.natAbs : Nat) : Int) = (a.natAbs : Int) * (b.natAbs : Int) := Int.natCast_mul _ _
  unfold nearQ ratioQ
  rw [← hp, ← hn, hA]
  have a1 : (a.natAbs : Int) = if a < 0 then -a else a := by split <;> omega
  have b1 : (b.natAbs : Int) = if b < 0 then -b else b := by split <;> omega
  have c1 : (c.natAbs : Int) = if c < 0 then -c else c := by split <;> omega
  rw [a1, b1, c1]
  by_cases ha : a < 0 <;> by_cases hb : b < 0 <;> by_cases hc : c < 0 <;> simp [ha, hb, hc, Int.neg_mul, Int.mul_neg] <;> (first | (intro h; omega) | skip)
  all_goals (try omega)
theorem floor_same (a b : Int) (ha : a < 0) (hb : 0 < b) (h : a.tmod b = 0) : a.tdiv b = a / b := by
  rw [Int.tdiv_eq_ediv, if_pos (Or.inr (Int.dvd_of_tmod_eq_zero h))]; omega
theorem floor_less (a b : Int) (ha : a < 0) (hb : 0 < b) (h : a.tmod b ≠ 0) : a.tdiv b - 1 = a / b := by
  have : ¬ (0 ≤ a ∨ b ∣ a) := by
    rintro (h1 | h1)
    · omega
    · exact h (Int.tmod_eq_zero_of_dvd h1)
  rw [Int.tdiv_eq_ediv, if_neg this, Int.sign_eq_one_of_pos hb]; omega
theorem tdiv_bounds (a b : Int) (ha : a < 0) (hb : 0 < b) : a ≤ a.tdiv b ∧ a.tdiv b ≤ 0 := by
  have h1 : (-a).tdiv b = -(a.tdiv b) := Int.neg_tdiv a b
  have h2 : (-a).tdiv b = (-a) / b := Int.tdiv_eq_ediv_of_nonneg (by omega)
  have h3 : 0 ≤ (-a) / b := Int.ediv_nonneg (by omega) (by omega)
  have h4 : (-a) / b ≤ -a := Int.ediv_le_self _ (by omega)
  omega
theorem ediv_bounds (a b : Int) (ha : 0 ≤ a) (hb : 0 < b) : 0 ≤ a / b ∧ a / b ≤ a :=
  ⟨Int.ediv_nonneg (by omega) (by omega), Int.ediv_le_self _ ha⟩
theorem rnear_pos (p c : Int) (hc : 0 < c) : (2 * p + c) / (2 * c) = if c ≤ 2 * (p - p / c * c) then p / c + 1 else p / c := by
  have e := Int.mul_ediv_add_emod p c
  have h0 := Int.emod_nonneg p (Int.ne_of_gt hc)
  have h1 := Int.emod_lt_of_pos p hc
  generalize p % c = r at *
  generalize p / c = q at *
  subst e
  have e2 : c * q + r - q * c = r := by grind
  rw [e2]
  split
  · exact div_is (r := 2 * r - c) (by omega) (by grind) (by omega) (by omega)
  · exact div_is (r := 2 * r + c) (by omega) (by grind) (by omega) (by omega)
theorem rnear_neg (p c : Int) (hc : 0 < c) : (2 * -p + c) / (2 * c) = if p - p / c * c = 0 then -(p / c) else if c ≤ 2 * (c - (p - p / c * c)) then -(p / c) - 1 + 1 else -(p / c) - 1 := by
  have e := Int.mul_ediv_add_emod p c
  have h0 := Int.emod_nonneg p (Int.ne_of_gt hc)
  have h1 := Int.emod_lt_of_pos p hc
  generalize p % c = r at *
  generalize p / c = q at *
  subst e
  have e2 : c * q + r - q * c = r := by grind
  rw [e2]
  split
  · exact div_is (r := c) (by omega) (by grind) (by omega) (by omega)
  · split
    · exact div_is (r := c - 2 * r) (by omega) (by grind) (by omega) (by omega)
    · exact div_is (r := 3 * c - 2 * r) (by omega) (by grind) (by omega) (by omega)
theorem nearQ_neg (p d : Int) (h : 0 < d) : nearQ p (-d) = if p - p / d * d = 0 then -(p / d) else if d ≤ 2 * (d - (p - p / d * d)) then -(p / d) - 1 + 1 else -(p / d) - 1 := by
  have e : nearQ p (-d) = (2 * -p + d) / (2 * d) := by unfold nearQ; rw [if_neg (by omega), Int.neg_neg]
  exact e.trans (rnear_neg p d h)
/-- What is left lies in 0 .. c - 1; the quotient is no further from 0 than the number. -/
theorem rest_bounds (p c : Int) (hc : 0 < c) : 0 ≤ p - p / c * c ∧ p - p / c * c < c ∧ -p.natAbs ≤ p / c ∧ p / c ≤ p.natAbs := by
  have e := Int.mul_ediv_add_emod p c
  have h0 := Int.emod_nonneg p (Int.ne_of_gt hc)
  have h1 := Int.emod_lt_of_pos p hc
  have e2 : p - p / c * c = p % c := by grind
  have h2 : (p / c).natAbs ≤ p.natAbs := Int.natAbs_ediv_le_natAbs p c
  omega

end Go.Proofs.YtfgpocpfapnkkaaGreat

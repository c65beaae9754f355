/- Plain arithmetic of curves; no program in sight. -/
import Derived.Test.YtpbmefojhgcniaaFixPlain
namespace Go.Proofs.Ytpbmefojhgcniaa
set_option linter.unusedVariables false
set_option linter.unusedSimpArgs false
theorem near_err (p c : Int) (hc : 0 < c) : -c ≤ 2 * p - 2 * (c * nearQ p c) ∧ 2 * p - 2 * (c * nearQ p c) ≤ c := by
  unfold nearQ
  rw [if_pos hc]
  have h1 := Int.mul_ediv_add_emod (2 * p + c) (2 * c)
  have h2 := Int.emod_nonneg (2 * p + c) (show 2 * c ≠ 0 by omega)
  have h3 := Int.emod_lt_of_pos (2 * p + c) (show 0 < 2 * c by omega)
  generalize (2 * p + c) / (2 * c) = q at *
  generalize (2 * p + c) % (2 * c) = r at *
  rw [Int.mul_assoc] at h1
  generalize c * q = t at *
  omega
theorem near_mul (a c : Int) (hc : 0 < c) : nearQ (c * a) c = a := by
  unfold nearQ
  rw [if_pos hc, show 2 * (c * a) + c = c + 2 * c * a by rw [Int.mul_assoc]; omega, Int.add_mul_ediv_left _ _ (by omega)]
  rw [Int.ediv_eq_zero_of_lt (by omega) (by omega)]; omega
/-- The weighed sums of the three degrees: weights of i and k. -/
def sum1 (i k a d : Int) : Int := k * a + i * d
def sum2 (i k a b d : Int) : Int := k * k * a + 2 * i * k * b + i * i * d
def sum3 (i k a b c d : Int) : Int := k * k * k * a + 3 * i * k * k * b + 3 * i * i * k * c + i * i * i * d
theorem flat_of (N x bound : Int) (hN : 0 < N) (h1 : -(6 * N) ≤ N * x) (h2 : N * x ≤ 6 * N) : -6 ≤ x ∧ x ≤ 6 := by
  constructor
  · exact Int.le_of_mul_le_mul_left (by rw [show N * -6 = -(6 * N) by omega]; exact h1) hN
  · exact Int.le_of_mul_le_mul_left (by rw [show N * 6 = 6 * N by omega]; exact h2) hN
theorem flat1 (n i k a d M P Q : Int) (hn : 0 < n) (hk : k = n - i)
    (hP : P = nearQ (sum1 i k a d) n) (hQ : Q = nearQ (sum1 (i + 1) (k - 1) a d) n) (hM : M = nearQ (sum1 (2 * i + 1) (2 * k - 1) a d) (2 * n)) :
    -6 ≤ 2 * M - P - Q ∧ 2 * M - P - Q ≤ 6 := by
  have e1 := near_err (sum1 i k a d) n hn
  have e2 := near_err (sum1 (i + 1) (k - 1) a d) n hn
  have e3 := near_err (sum1 (2 * i + 1) (2 * k - 1) a d) (2 * n) (by omega)
  rw [← hP] at e1; rw [← hQ] at e2; rw [← hM] at e3
  have hid : sum1 (2 * i + 1) (2 * k - 1) a d = sum1 i k a d + sum1 (i + 1) (k - 1) a d := by unfold sum1; grind
  have hx : n * (2 * M - P - Q) = 2 * n * M - n * P - n * Q := by grind
  have hy : 2 * n * M = 2 * (n * M) := by grind
  rw [hy] at e3 hx
  exact flat_of n _ 0 hn (by omega) (by omega)
theorem flat2 (n i k a b d M P Q : Int) (hn : 0 < n) (hk : k = n - i) (hneed : -(8 * (n * n)) ≤ a - 2 * b + d ∧ a - 2 * b + d ≤ 8 * (n * n))
    (hP : P = nearQ (sum2 i k a b d) (n * n)) (hQ : Q = nearQ (sum2 (i + 1) (k - 1) a b d) (n * n)) (hM : M = nearQ (sum2 (2 * i + 1) (2 * k - 1) a b d) (2 * n * (2 * n))) :
    -6 ≤ 2 * M - P - Q ∧ 2 * M - P - Q ≤ 6 := by
  have hN : 0 < n * n := Int.mul_pos hn hn
  rw [show 2 * n * (2 * n) = 4 * (n * n) by grind] at hM
  generalize hNN : n * n = N at *
  have e1 := near_err (sum2 i k a b d) N hN
  have e2 := near_err (sum2 (i + 1) (k - 1) a b d) N hN
  have e3 := near_err (sum2 (2 * i + 1) (2 * k - 1) a b d) (4 * N) (by omega)
  rw [← hP] at e1; rw [← hQ] at e2; rw [← hM] at e3
  have hid : sum2 (2 * i + 1) (2 * k - 1) a b d = 2 * sum2 i k a b d + 2 * sum2 (i + 1) (k - 1) a b d - (a - 2 * b + d) := by unfold sum2; grind
  have hx : N * (2 * M - P - Q) = 2 * (N * M) - N * P - N * Q := by grind
  have hy : 4 * N * M = 4 * (N * M) := by grind
  rw [hy] at e3
  exact flat_of N _ 0 hN (by omega) (by omega)
theorem flat3 (n i k a b c d M P Q B : Int) (hn : 0 < n) (hk : k = n - i) (hi : 0 ≤ i) (hk1 : 1 ≤ k) (hneed : 3 * B ≤ 8 * (n * n))
    (h1 : -B ≤ a - 2 * b + c ∧ a - 2 * b + c ≤ B) (h2 : -B ≤ b - 2 * c + d ∧ b - 2 * c + d ≤ B)
    (hP : P = nearQ (sum3 i k a b c d) (n * n * n)) (hQ : Q = nearQ (sum3 (i + 1) (k - 1) a b c d) (n * n * n)) (hM : M = nearQ (sum3 (2 * i + 1) (2 * k - 1) a b c d) (2 * n * (2 * n) * (2 * n))) :
    -6 ≤ 2 * M - P - Q ∧ 2 * M - P - Q ≤ 6 := by
  have hN : 0 < n * n * n := Int.mul_pos (Int.mul_pos hn hn) hn
  rw [show 2 * n * (2 * n) * (2 * n) = 8 * (n * n * n) by grind] at hM
  have hb : 3 * (2 * n * B) ≤ 16 * (n * n * n) := by
    have := Int.mul_le_mul_of_nonneg_left hneed (show 0 ≤ 2 * n by omega)
    have e : 2 * n * (8 * (n * n)) = 16 * (n * n * n) := by grind
    have e' : 2 * n * (3 * B) = 3 * (2 * n * B) := by grind
    omega
  generalize hNN : n * n * n = N at *
  have e1 := near_err (sum3 i k a b c d) N hN
  have e2 := near_err (sum3 (i + 1) (k - 1) a b c d) N hN
  have e3 := near_err (sum3 (2 * i + 1) (2 * k - 1) a b c d) (8 * N) (by omega)
  rw [← hP] at e1; rw [← hQ] at e2; rw [← hM] at e3
  have hid : sum3 (2 * i + 1) (2 * k - 1) a b c d = 4 * sum3 i k a b c d + 4 * sum3 (i + 1) (k - 1) a b c d - 3 * ((2 * k - 1) * (a - 2 * b + c) + (2 * i + 1) * (b - 2 * c + d)) := by unfold sum3; grind
  have hx : N * (2 * M - P - Q) = 2 * (N * M) - N * P - N * Q := by grind
  have hy : 8 * N * M = 8 * (N * M) := by grind
  have l1 := Int.mul_le_mul_of_nonneg_left h1.2 (show 0 ≤ 2 * k - 1 by omega)
  have l2 := Int.mul_le_mul_of_nonneg_left h1.1 (show 0 ≤ 2 * k - 1 by omega)
  have l3 := Int.mul_le_mul_of_nonneg_left h2.2 (show 0 ≤ 2 * i + 1 by omega)
  have l4 := Int.mul_le_mul_of_nonneg_left h2.1 (show 0 ≤ 2 * i + 1 by omega)
  have l5 : (2 * k - 1) * B + (2 * i + 1) * B = 2 * n * B := by rw [hk]; grind
  have l6 : (2 * k - 1) * -B = -((2 * k - 1) * B) := by grind
  have l7 : (2 * i + 1) * -B = -((2 * i + 1) * B) := by grind
  rw [hy] at e3
  generalize (2 * k - 1) * (a - 2 * b + c) = t1 at *
  generalize (2 * i + 1) * (b - 2 * c + d) = t2 at *
  generalize (2 * k - 1) * B = t3 at *
  generalize (2 * i + 1) * B = t4 at *
  exact flat_of N _ 0 hN (by omega) (by omega)
/-- The least number of pieces from n on. -/
def piecesFrom (needs : Int) : Nat → Nat → Nat
  | 0, n => n
  | f + 1, n => if n < 256 ∧ 8 * (n : Int) * n < needs then piecesFrom needs f (n + 1) else n
def piecesQ (needs : Int) : Nat := piecesFrom needs 256 1
theorem piecesFrom_at (needs : Int) : ∀ (f n m : Nat), n ≤ m → m ≤ n + f → (∀ k, n ≤ k → k < m → k < 256 ∧ 8 * (k : Int) * k < needs) → ¬ (m < 256 ∧ 8 * (m : Int) * m < needs) → piecesFrom needs f n = m := by
  intro f
  induction f with
  | zero => intro n m h1 h2 _ _; unfold piecesFrom; omega
  | succ f ih =>
    intro n m h1 h2 h3 h4
    unfold piecesFrom
    by_cases hn : n = m
    · subst hn; rw [if_neg h4]
    · rw [if_pos (h3 n (Nat.le_refl _) (by omega))]
      exact ih (n + 1) m (by omega) (by omega) (fun k hk => h3 k (by omega)) h4
/-- The least number whose square is enough, or 256. -/
theorem piecesQ_is (needs : Int) (m : Nat) (h1 : 1 ≤ m) (h2 : m ≤ 256) (h3 : ∀ k : Nat, 1 ≤ k → k < m → 8 * (k : Int) * k < needs) (h4 : m = 256 ∨ needs ≤ 8 * (m : Int) * m) : piecesQ needs = m :=
  piecesFrom_at needs 256 1 m h1 (by omega) (fun k hk hm => ⟨by omega, h3 k hk hm⟩) (fun h => by rcases h4 with h4 | h4 <;> omega)
theorem sq_mono (a b : Nat) (h : a ≤ b) : 8 * (a : Int) * a ≤ 8 * (b : Int) * b := by
  have h1 : (a : Int) ≤ b := by omega
  have := Int.mul_le_mul h1 h1 (by omega) (by omega)
  rw [Int.mul_assoc, Int.mul_assoc]; omega
end Go.Proofs.Ytpbmefojhgcniaa

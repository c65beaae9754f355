/- Masks of an int: 'n & (2^k - 1)' is n modulo 2^k, whatever n. -/
import Derived.Laws.BitsLemmas
namespace Go.Proofs.YtlhkaoccnpgkeaaGreat
theorem i64_mask (k : Nat) (m : Int) (n : Int) (hk : k ≤ 62) (hm : m = ((2 ^ k - 1 : Nat) : Int)) : bits .and .i64 n m = n % (2 ^ k : Nat) := by
  subst hm
  have hp : 2 ^ k ≤ 2 ^ 62 := Nat.pow_le_pow_right (by decide) hk
  have hp0 : 0 < 2 ^ k := Nat.pow_pos (by decide)
  have hM : (BitVec.ofInt 64 ((2 ^ k - 1 : Nat) : Int)).toNat = 2 ^ k - 1 := by
    rw [BitVec.toNat_ofInt]; generalize 2 ^ k = P at *; omega
  have key : (BitVec.ofInt 64 n &&& BitVec.ofInt 64 ((2 ^ k - 1 : Nat) : Int)).toNat = (n % ((2 ^ 64 : Nat) : Int)).toNat % 2 ^ k := by
    rw [BitVec.toNat_and, BitVec.toNat_ofInt, hM, Nat.and_two_pow_sub_one_eq_mod]
  show IntKind.i64.wrap ((BitVec.ofInt 64 n &&& BitVec.ofInt 64 ((2 ^ k - 1 : Nat) : Int)).toNat : Nat) = n % (2 ^ k : Nat)
  rw [key, IntKind.wrap_i64]
  have e : 2 ^ 64 = 2 ^ k * 2 ^ (64 - k) := by rw [← Nat.pow_add]; congr 1; omega
  have e1 : (((n % ((2 ^ 64 : Nat) : Int)).toNat % 2 ^ k : Nat) : Int) = n % (2 ^ k : Nat) := by
    rw [Int.natCast_emod, Int.toNat_of_nonneg (Int.emod_nonneg _ (by decide)), e, Int.natCast_mul, Int.emod_emod_of_dvd _ (Int.dvd_mul_right _ _)]
  rw [e1]
  have h0 := Int.emod_nonneg n (b := ((2 ^ k : Nat) : Int)) (by omega)
  have h1 := Int.emod_lt_of_pos n (b := ((2 ^ k : Nat) : Int)) (by omega)
  generalize n % ((2 ^ k : Nat) : Int) = r at *
  omega
theorem i64_and1 (n : Int) : bits .and .i64 n 1 = n % 2 := i64_mask 1 1 n (by decide) rfl
theorem i64_and3 (n : Int) : bits .and .i64 n 3 = n % 4 := i64_mask 2 3 n (by decide) rfl
theorem i64_and7 (n : Int) : bits .and .i64 n 7 = n % 8 := i64_mask 3 7 n (by decide) rfl
theorem i64_and15 (n : Int) : bits .and .i64 n 15 = n % 16 := i64_mask 4 15 n (by decide) rfl
theorem i64_and63 (n : Int) : bits .and .i64 n 63 = n % 64 := i64_mask 6 63 n (by decide) rfl
theorem i64_and255 (n : Int) : bits .and .i64 n 255 = n % 256 := i64_mask 8 255 n (by decide) rfl
theorem i64_and65535 (n : Int) : bits .and .i64 n 65535 = n % 65536 := i64_mask 16 65535 n (by decide) (by decide)
theorem wraps_i64' (n : Int) (h0 : 0 ≤ n) (h1 : n < 2 ^ 63) : IntKind.i64.wrap n = n := by rw [IntKind.wrap_i64]; omega
/-- A number shifted to the left, and a byte. -/
theorem i64_or8 (x y : Int) (h0 : 0 ≤ x) (h1 : x < 36028797018963968) (g0 : 0 ≤ y) (g1 : y < 256) : bits .or .i64 (x * 256) y = x * 256 + y :=
  bits_join .i64 63 (by decide) wraps_i64' 8 (x * 256) y (by omega) (by omega) (by omega) g0 (by omega) (by omega)
end Go.Proofs.YtlhkaoccnpgkeaaGreat

/- The contracts of the layer fixed: Root, and its reference's; and the reference's Div and MulDiv. -/
import Derived.Test.YtfgpocpfapnkkaaGreatFixD
namespace Go.Proofs.YtfgpocpfapnkkaaGreat
open Go.RowKit
set_option linter.unusedVariables false
/-- r is the whole square root of n. -/
def IsRoot (n r : Int) : Prop := 0 ≤ r ∧ r * r ≤ n ∧ n < (r + 1) * (r + 1)
theorem root_uniq (n r s : Int) (h : IsRoot n r) (k : IsRoot n s) : r = s := by
  obtain ⟨h0, h1, h2⟩ := h
  obtain ⟨k0, k1, k2⟩ := k
  rcases Int.lt_trichotomy r s with g | g | g
  · have := Int.mul_le_mul (show r + 1 ≤ s by omega) (show r + 1 ≤ s by omega) (by omega) (by omega); omega
  · exact g
  · have := Int.mul_le_mul (show s + 1 ≤ r by omega) (show s + 1 ≤ r by omega) (by omega) (by omega); omega
open Classical in
noncomputable def rootV (n : Int) : Int := if h : ∃ r, IsRoot n r then h.choose else 0
theorem rootV_of (n r : Int) (h : IsRoot n r) : rootV n = r := by
  have hx : ∃ r, IsRoot n r := ⟨r, h⟩
  unfold rootV; rw [dif_pos hx]; exact root_uniq n _ _ hx.choose_spec h
/-- Where the search stands: lo * lo ≤ n < hi * hi. -/
def Between (n lo hi : Int) : Prop := lo * lo ≤ n ∧ n < hi * hi
theorem sq_le {a b : Int} (h0 : 0 ≤ a) (h : a ≤ b) : a * a ≤ b * b := Int.mul_le_mul h h h0 (by omega)
/-- One step of the digits' way: with the digit, and without it. -/
def Digits (n : Int) (m : Nat) (rest root bit : Int) : Prop :=
  ∃ s : Int, 0 ≤ s ∧ s ≤ 16777216 ∧ root = s * (2 ^ m : Nat) ∧ rest = n - s * s ∧ s * s ≤ n ∧ n < (s + (2 ^ m : Nat)) * (s + (2 ^ m : Nat)) ∧ bit = (4 ^ m / 4 : Nat)
theorem pow_facts (m : Nat) : ((2 ^ (m + 1) : Nat) : Int) = 2 * (2 ^ m : Nat) ∧ ((4 ^ (m + 1) / 4 : Nat) : Int) = (2 ^ m : Nat) * (2 ^ m : Nat) ∧ ((2 ^ m : Nat) : Int) * (2 ^ m : Nat) / 4 = (4 ^ m / 4 : Nat) ∧ 0 < ((2 ^ m : Nat) : Int) := by
  have e1 : 2 ^ (m + 1) = 2 * 2 ^ m := by rw [Nat.pow_succ]; omega
  have e2 : 4 ^ (m + 1) / 4 = 4 ^ m := by rw [Nat.pow_succ]; omega
  have e3 : 4 ^ m = 2 ^ m * 2 ^ m := by rw [← Nat.mul_pow]
  have hp : 0 < 2 ^ m := Nat.pow_pos (by decide)
  refine ⟨by rw [e1]; omega, by rw [e2, e3]; exact Int.natCast_mul _ _, ?_, by omega⟩
  rw [← Int.natCast_mul, ← e3]; rfl
theorem half_dbl (s P : Int) : s * (2 * P) / 2 = s * P := by rw [show s * (2 * P) = 2 * (s * P) by grind]; omega
theorem digits_yes (n : Int) (m : Nat) (rest root bit : Int) (h : Digits n (m + 1) rest root bit) (ht : root + bit ≤ rest) (hn : n ≤ 140737488355328) : Digits n m (rest - (root + bit)) (root / 2 + bit) (bit / 4) := by
  obtain ⟨s, h0, hs, rfl, rfl, h3, h4, rfl⟩ := h
  obtain ⟨e1, e2, e3, hp⟩ := pow_facts m
  unfold Digits
  rw [← e3]
  rw [e1, e2] at ht
  rw [e1] at h4
  rw [e1, e2, half_dbl]
  generalize ((2 ^ m : Nat) : Int) = P at *
  clear e1 e2 e3
  have e6 : s * (2 * P) + P * P = (s + P) * (s + P) - s * s := by grind
  rw [e6] at ht ⊢
  refine ⟨s + P, by omega, ?_, by grind, by omega, by omega, ?_, rfl⟩
  · apply Classical.byContradiction
    intro hc
    have := Int.mul_le_mul (show (16777217 : Int) ≤ s + P by omega) (show (16777217 : Int) ≤ s + P by omega) (by omega) (by omega)
    omega
  · rw [show s + P + P = s + 2 * P by omega]; exact h4
theorem digits_no (n : Int) (m : Nat) (rest root bit : Int) (h : Digits n (m + 1) rest root bit) (ht : ¬ root + bit ≤ rest) : Digits n m rest (root / 2) (bit / 4) := by
  obtain ⟨s, h0, hs, rfl, rfl, h3, h4, rfl⟩ := h
  obtain ⟨e1, e2, e3, hp⟩ := pow_facts m
  unfold Digits
  rw [← e3]
  rw [e1, e2] at ht
  rw [e1] at h4
  rw [e1, e2, half_dbl]
  generalize ((2 ^ m : Nat) : Int) = P at *
  clear e1 e2 e3
  have e6 : s * (2 * P) + P * P = (s + P) * (s + P) - s * s := by grind
  rw [e6] at ht
  exact ⟨s, h0, hs, rfl, rfl, h3, by omega, rfl⟩
theorem digits_end (n rest root bit : Int) (h : Digits n 0 rest root bit) : bit = 0 ∧ rootV n = root := by
  obtain ⟨s, h0, hs, rfl, rfl, h3, h4, rfl⟩ := h
  refine ⟨by decide, ?_⟩
  simp only [Nat.pow_zero, Int.natCast_one, Int.mul_one] at h4 ⊢
  exact rootV_of _ _ ⟨h0, h3, h4⟩
theorem digits_start (n : Int) (h0 : 0 ≤ n) (hn : n ≤ 140737488355328) : Digits n 24 n 0 70368744177664 :=
  ⟨0, by omega, by omega, by omega, by omega, by omega, by have : (2 ^ 24 : Nat) = 16777216 := by decide
                                                           rw [this]; omega, by decide⟩
theorem digits_pos (n : Int) (m : Nat) (rest root bit : Int) (h : Digits n (m + 1) rest root bit) : 0 < bit := by
  obtain ⟨s, h0, hs, rfl, rfl, h3, h4, rfl⟩ := h
  obtain ⟨e1, e2, e3, hp⟩ := pow_facts m
  rw [e2]; exact Int.mul_pos hp hp
/-- What a step must know of its numbers. -/
theorem digits_bounds (n : Int) (m : Nat) (rest root bit : Int) (hm : m ≤ 24) (h : Digits n m rest root bit) (hn : n ≤ 140737488355328) :
    0 ≤ rest ∧ rest ≤ 140737488355328 ∧ 0 ≤ root ∧ root ≤ 281474976710656 ∧ 0 ≤ bit ∧ bit ≤ 70368744177664 := by
  obtain ⟨s, h0, hs, rfl, rfl, h3, h4, rfl⟩ := h
  have hp : 2 ^ m ≤ 2 ^ 24 := Nat.pow_le_pow_right (by decide) hm
  have hp4 : 4 ^ m ≤ 4 ^ 24 := Nat.pow_le_pow_right (by decide) hm
  generalize 2 ^ m = P at *
  generalize 4 ^ m = Q at *
  have q1 : 0 ≤ s * ((P : Nat) : Int) := Int.mul_nonneg h0 (by omega)
  have q2 : s * ((P : Nat) : Int) ≤ 16777216 * 16777216 := Int.mul_le_mul hs (by omega) (by omega) (by omega)
  have q3 : 0 ≤ s * s := Int.mul_nonneg h0 h0
  refine ⟨by omega, by omega, q1, by omega, by omega, by omega⟩
theorem root_calls (x : Int) (h0 : 0 ≤ x) (h1 : x ≤ 2147483648) (w : World) :
    Calls Tryz.prog 101 #[.int .i64 x] w fun e w' => e = .returned (.tuple #[.int .i64 (rootV (x * 65536)), .int .i64 0]) ∧ w = w' := by
  have hm : mayB x = true := by simp [mayB]; omega
  have hx0 : decide (x < 0) = false := by simpa using h0
  have hst : Hid _ := digits_start (x * 65536) (by omega) (by omega)
  go_enter Tryz.func101, Tryz.ntmps101
  go_wp2_with (first | (go_at_call 16; refine (may_calls _ _).mono ?_; rintro e w' ⟨rfl, rfl⟩) | fail)
  go_loop [4, 5, 6] (fun a b c => ∃ (m : Nat) (rest root bit : Int), m ≤ 24 ∧ a = .int .u64 rest ∧ b = .int .u64 root ∧ c = .int .u64 bit ∧ Digits (x * 65536) m rest root bit) (fun _ _ c => (intOf c).toNat)
  case atStart => exact ⟨24, _, _, _, by omega, rfl, rfl, rfl, hst.out⟩
  case round =>
    obtain ⟨m, rest, root, bit, hm24, rfl, rfl, rfl, hd⟩ := hrel
    obtain ⟨d1, d2, d3, d4, d5, d6⟩ := digits_bounds _ m rest root bit hm24 hd (by omega)
    match m, hm24, hd with
    | 0, _, hd =>
      obtain ⟨rfl, he0⟩ := digits_end _ _ _ _ hd
      have he : Hid _ := he0
      clear hd he0
      go_wp2
      go_ret2
      exact ⟨by rw [he.out]; simp, rfl⟩
    | m + 1, hm24, hd =>
      have hpos := digits_pos _ _ _ _ _ hd
      by_cases ht : root + bit ≤ rest
      · have hd2 := digits_yes _ _ _ _ _ hd ht (by omega)
        clear hd
        go_wp2
        go_round
        case rel => exact ⟨m, _, _, _, by omega, rfl, rfl, rfl, hd2⟩
        case measure => simp [intOf]; omega
      · have hd2 := digits_no _ _ _ _ _ hd ht
        clear hd
        go_wp2
        go_round
        case rel => exact ⟨m, _, _, _, by omega, rfl, rfl, rfl, hd2⟩
        case measure => simp [intOf]; omega
theorem root_over (x : Int) (h : mayB x = false) (w : World) :
    Calls Tryz.prog 101 #[.int .i64 x] w fun e w' => e = .returned (.tuple #[.int .i64 0, .int .i64 10]) ∧ w = w' := by
  go_enter Tryz.func101, Tryz.ntmps101
  go_wp2_with (first | (go_at_call 16; refine (may_calls _ _).mono ?_; rintro e w' ⟨rfl, rfl⟩) | fail)
  go_ret2
  exact ⟨by simp, rfl⟩
theorem root_neg (x : Int) (h : mayB x = true) (h0 : x < 0) (w : World) :
    Calls Tryz.prog 101 #[.int .i64 x] w fun e w' => e = .returned (.tuple #[.int .i64 0, .int .i64 1]) ∧ w = w' := by
  go_enter Tryz.func101, Tryz.ntmps101
  go_wp2_with (first | (go_at_call 16; refine (may_calls _ _).mono ?_; rintro e w' ⟨rfl, rfl⟩) | fail)
  go_ret2
  exact ⟨by simp, rfl⟩
end Go.Proofs.YtfgpocpfapnkkaaGreat

/- Charsets: the first place of a number. -/
import Derived.Test.YthmokldmdcjklaaChA
namespace Go.Proofs.Ythmokldmdcjklaa
open Go.RowKit
set_option linter.unusedVariables false
/-- The first place of x in a list, counted from i; -1: there is none. -/
def firstFrom (x : Int) : List Int → Nat → Int
  | [], _ => -1
  | a :: l, i => if a = x then i else firstFrom x l (i + 1)
theorem firstFrom_hit (x : Int) (xs : List Int) (j : Nat) (h : j < xs.length) (he : xs.getD j 0 = x) : firstFrom x (xs.drop j) j = j := by
  rw [List.drop_eq_getElem_cons h]
  rw [List.getD_eq_getElem?_getD, List.getElem?_eq_getElem h] at he
  exact if_pos he
theorem firstFrom_miss (x : Int) (xs : List Int) (j : Nat) (h : j < xs.length) (he : ¬ xs.getD j 0 = x) : firstFrom x (xs.drop j) j = firstFrom x (xs.drop (j + 1)) (j + 1) := by
  rw [List.drop_eq_getElem_cons h]
  rw [List.getD_eq_getElem?_getD, List.getElem?_eq_getElem h] at he
  exact if_neg he
theorem firstFrom_ge (x : Int) : ∀ (l : List Int) (i : Nat), -1 ≤ firstFrom x l i ∧ firstFrom x l i < (i : Int) + l.length ∨ firstFrom x l i = -1 := by
  intro l
  induction l with
  | nil => intro i; right; rfl
  | cons a l ih =>
    intro i
    unfold firstFrom
    split
    · left; simp; omega
    · rcases ih (i + 1) with h | h
      · left; simp; omega
      · right; exact h
theorem rfind_calls (v : Value) (xs : List Int) (x : Int) (w : World) (hv : IsInts .i64 w v xs) :
    Calls Try.prog 16 #[v, .int .i64 x] w fun e w' => e = .returned (.int .i64 (firstFrom x xs 0)) ∧ w = w' := by
  have hle := hv.le
  unfold maxLen at hle
  obtain ⟨pa, ca, rfl, hca⟩ : ∃ p c, v = .slice p xs.length c ∧ (0 < xs.length → ∃ g off, p = some ⟨g, off, none⟩ ∧ ∀ i, i < xs.length → w.cell? ⟨g, off + i, none⟩ = some (.int .i64 (xs.getD i 0))) := by
    rcases hv with ⟨⟨ad, rfl⟩, rfl⟩ | ⟨g, off, c, rfl, _, _, h⟩
    · exact ⟨_, 0, rfl, fun h => absurd h (by simp)⟩
    · exact ⟨_, c, rfl, fun _ => ⟨g, off, rfl, h⟩⟩
  have Ha : Hid _ := hca
  clear hca hv
  go_enter Try.func16, Try.ntmps16
  go_wp2
  go_loop [5] (fun i => ∃ j : Nat, j ≤ xs.length ∧ i = .int .i64 j ∧ Hid (firstFrom x (xs.drop j) j = firstFrom x xs 0)) (fun i => xs.length - (intOf i).toNat)
  case atStart => exact ⟨0, by omega, rfl, by simp [Hid]⟩
  case round =>
    obtain ⟨j, hj, rfl, hf⟩ := hrel
    by_cases hlt : j < xs.length
    · obtain ⟨g1, o1, rfl, h1⟩ := Ha.out (by omega)
      have c1 := h1 j hlt
      clear h1
      by_cases he : xs.getD j 0 = x
      · have hr : Hid (firstFrom x xs 0 = j) := by rw [← hf.out]; exact firstFrom_hit x xs j hlt he
        have hb : (xs.getD j 0 == x) = true := by rw [beq_iff_eq]; exact he
        clear he
        generalize xs.getD j 0 = z at *
        go_wp2
        go_ret
        exact ⟨by rw [hr.out]; simp, rfl⟩
      · have hr : Hid (firstFrom x (xs.drop (j + 1)) (j + 1) = firstFrom x xs 0) := by rw [← hf.out]; exact (firstFrom_miss x xs j hlt he).symm
        have hb : (xs.getD j 0 == x) = false := by rw [beq_eq_false_iff_ne]; exact he
        clear he
        generalize xs.getD j 0 = z at *
        go_wp2
        go_round
        case rel => exact ⟨j + 1, by omega, by go_num, hr⟩
        case measure => simp [intOf]; omega
    · obtain rfl : j = xs.length := by omega
      have hr : Hid (firstFrom x xs 0 = -1) := by rw [← hf.out, List.drop_length]; rfl
      go_wp2
      go_ret
      exact ⟨by rw [hr.out]; simp, rfl⟩
theorem index_calls (v : Value) (xs : List Int) (x : Int) (w : World) (hv : IsInts .i64 w v xs) :
    Calls Try.prog 50 #[v, .int .i64 x] w fun e w' => e = .returned (.int .i64 (firstFrom x xs 0)) ∧ w = w' := by
  have hle := hv.le
  unfold maxLen at hle
  obtain ⟨pa, ca, rfl, hca⟩ : ∃ p c, v = .slice p xs.length c ∧ (0 < xs.length → ∃ g off, p = some ⟨g, off, none⟩ ∧ ∀ i, i < xs.length → w.cell? ⟨g, off + i, none⟩ = some (.int .i64 (xs.getD i 0))) := by
    rcases hv with ⟨⟨ad, rfl⟩, rfl⟩ | ⟨g, off, c, rfl, _, _, h⟩
    · exact ⟨_, 0, rfl, fun h => absurd h (by simp)⟩
    · exact ⟨_, c, rfl, fun _ => ⟨g, off, rfl, h⟩⟩
  have Ha : Hid _ := hca
  clear hca hv
  go_enter Try.func50, Try.ntmps50
  go_wp2
  go_loop [5, 8] (fun _ i => ∃ j : Nat, j ≤ xs.length ∧ i = .int .i64 j ∧ Hid (firstFrom x (xs.drop j) j = firstFrom x xs 0)) (fun _ i => xs.length - (intOf i).toNat)
  case atStart => exact ⟨0, by omega, rfl, by simp [Hid]⟩
  case round =>
    obtain ⟨j, hj, rfl, hf⟩ := hrel
    by_cases hlt : j < xs.length
    · obtain ⟨g1, o1, rfl, h1⟩ := Ha.out (by omega)
      have c1 := h1 j hlt
      clear h1
      by_cases he : xs.getD j 0 = x
      · have hr : Hid (firstFrom x xs 0 = j) := by rw [← hf.out]; exact firstFrom_hit x xs j hlt he
        have hb : (x == xs.getD j 0) = true := by rw [beq_iff_eq]; exact he.symm
        clear he
        generalize xs.getD j 0 = z at *
        go_wp2
        go_ret
        exact ⟨by rw [hr.out]; simp, rfl⟩
      · have hr : Hid (firstFrom x (xs.drop (j + 1)) (j + 1) = firstFrom x xs 0) := by rw [← hf.out]; exact (firstFrom_miss x xs j hlt he).symm
        have hb : (x == xs.getD j 0) = false := by rw [beq_eq_false_iff_ne]; exact fun e => he e.symm
        clear he
        generalize xs.getD j 0 = z at *
        go_wp2
        go_round
        case rel => exact ⟨j + 1, by omega, by go_num, hr⟩
        case measure => simp [intOf]; omega
    · obtain rfl : j = xs.length := by omega
      have hr : Hid (firstFrom x xs 0 = -1) := by rw [← hf.out, List.drop_length]; rfl
      go_wp2
      go_ret
      exact ⟨by rw [hr.out]; simp, rfl⟩
def findV (x : Int) : Int := if 0 ≤ x then x else 0
def findE (x : Int) : Int := if 0 ≤ x then 0 else 4
theorem find_calls (v : Value) (xs : List Int) (x : Int) (w : World) (hv : IsInts .i64 w v xs) :
    Calls Try.prog 15 #[v, .int .i64 x] w fun e w' => e = .returned (.tuple #[.int .i64 (findV (firstFrom x xs 0)), .int .i64 (findE (firstFrom x xs 0))]) ∧ w = w' := by
  by_cases h : 0 ≤ firstFrom x xs 0
  · have h1 : Hid (findV (firstFrom x xs 0) = _) := if_pos h
    have h2 : Hid (findE (firstFrom x xs 0) = _) := if_pos h
    go_enter Try.func15, Try.ntmps15
    go_wp2_with fail
    refine (index_calls v xs x _ hv).mono ?_; rintro e w' ⟨rfl, rfl⟩
    go_wp2_with fail
    go_ret2
    exact ⟨by rw [h1.out, h2.out]; simp, rfl⟩
  · have h1 : Hid (findV (firstFrom x xs 0) = _) := if_neg h
    have h2 : Hid (findE (firstFrom x xs 0) = _) := if_neg h
    go_enter Try.func15, Try.ntmps15
    go_wp2_with fail
    refine (index_calls v xs x _ hv).mono ?_; rintro e w' ⟨rfl, rfl⟩
    go_wp2_with fail
    go_ret2
    exact ⟨by rw [h1.out, h2.out]; simp, rfl⟩
end Go.Proofs.Ythmokldmdcjklaa

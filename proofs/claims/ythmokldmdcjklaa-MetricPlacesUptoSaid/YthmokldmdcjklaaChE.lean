/- Functions handed to the library: slices.IndexFunc, slices.ContainsFunc, at integers; within. -/
import Derived.Test.YthmokldmdcjklaaChA
import Derived.Lib.Hide

namespace Go.Proofs.Ythmokldmdcjklaa
open Go.RowKit
set_option linter.unusedVariables false
/-- The first place whose number is so, counted from i; -1: there is none. -/
def posFrom (p : Int → Bool) : List Int → Nat → Int
  | [], _ => -1
  | a :: l, i => if p a then i else posFrom p l (i + 1)
theorem posFrom_hit (p : Int → Bool) (xs : List Int) (j : Nat) (h : j < xs.length) (he : p (xs.getD j 0) = true) : posFrom p (xs.drop j) j = j := by
  rw [List.drop_eq_getElem_cons h]
  rw [List.getD_eq_getElem?_getD, List.getElem?_eq_getElem h] at he
  exact if_pos he
theorem posFrom_miss (p : Int → Bool) (xs : List Int) (j : Nat) (h : j < xs.length) (he : p (xs.getD j 0) = false) : posFrom p (xs.drop j) j = posFrom p (xs.drop (j + 1)) (j + 1) := by
  rw [List.drop_eq_getElem_cons h]
  rw [List.getD_eq_getElem?_getD, List.getElem?_eq_getElem h] at he
  exact if_neg (by simpa using he)
theorem posFrom_any (p : Int → Bool) : ∀ (l : List Int) (i : Nat), decide (0 ≤ posFrom p l i) = l.any p := by
  intro l
  induction l with
  | nil => intro i; rfl
  | cons a l ih =>
    intro i
    unfold posFrom
    cases h : p a
    · simp [h, ih]
    · simp [h]
theorem indexFunc_calls (k : Nat) (hent : ∀ (args : Array Value) (w : World), (callFunc k args).run Try.prog w = .ok (.enter k args) w) (cap : Value) (p : Int → Bool) (v : Value) (xs : List Int) (w : World) (hv : IsInts .i64 w v xs)
    (hp : ∀ i, i < xs.length → ∀ wr, Kp [] w wr → Calls Try.prog k #[.int .i64 (xs.getD i 0), cap] wr fun e w' => e = .returned (.bool (p (xs.getD i 0))) ∧ Kp [] wr w') :
    Calls Try.prog 86 #[v, .func (.func k) #[] #[cap]] w fun e w' => e = .returned (.int .i64 (posFrom p xs 0)) ∧ Kp [] w w' := by
  have hle := hv.le
  unfold maxLen at hle
  obtain ⟨pa, ca, rfl, hca⟩ : ∃ p c, v = .slice p xs.length c ∧ (0 < xs.length → ∃ g off, p = some ⟨g, off, none⟩ ∧ ∀ i, i < xs.length → w.cell? ⟨g, off + i, none⟩ = some (.int .i64 (xs.getD i 0))) := by
    rcases hv with ⟨⟨ad, rfl⟩, rfl⟩ | ⟨g, off, c, rfl, _, _, h⟩
    · exact ⟨_, 0, rfl, fun h => absurd h (by simp)⟩
    · exact ⟨_, c, rfl, fun _ => ⟨g, off, rfl, h⟩⟩
  have Ha : Hid _ := hca
  have HP : Hid _ := hp
  clear hca hv hp
  go_enter Try.func86, Try.ntmps86
  go_wp2_with fail
  go_loopw [5, 8] (fun _ i wr => ∃ j : Nat, j ≤ xs.length ∧ i = .int .i64 j ∧ Hid (posFrom p (xs.drop j) j = posFrom p xs 0) ∧ Kp [] w wr) (fun _ i _ => xs.length - (intOf i).toNat)
  case atStart => exact ⟨0, by omega, rfl, by simp [Hid], Kp.refl _ _⟩
  case round =>
    obtain ⟨j, hj, rfl, hf, hk⟩ := hrel
    by_cases hlt : j < xs.length
    · obtain ⟨g1, o1, rfl, h1⟩ := Ha.out (by omega)
      have c1 := hk.cell (h1 j hlt) (by simp)
      clear h1
      have hcl := Lib.hid (HP.out j hlt wr hk)
      cases he : p (xs.getD j 0)
      · have hr : Hid (posFrom p (xs.drop (j + 1)) (j + 1) = posFrom p xs 0) := by rw [← hf.out]; exact (posFrom_miss p xs j hlt he).symm
        rw [he] at hcl
        clear he
        generalize xs.getD j 0 = z at *
        go_wp2_with fail
        refine Calls.mono hcl.out ?_; rintro e w2 ⟨rfl, hk2⟩
        go_wp2_with fail
        go_roundw
        case rel => exact ⟨j + 1, by omega, by go_num, hr, by (repeat (first | exact Kp.refl _ _ | assumption | refine Kp.drew ?_ | refine Kp.drewN ?_ _ | refine Kp.alloc ?_ _ | (refine Kp.setCell ?_ (by first | (left; simp; done) | (right; simp; try omega)) _) | (refine Kp.trans' ?_ (by assumption) (by simp; try omega))))⟩
        case measure => simp [intOf]; omega
      · have hr : Hid (posFrom p xs 0 = j) := by rw [← hf.out]; exact posFrom_hit p xs j hlt he
        rw [he] at hcl
        clear he
        generalize xs.getD j 0 = z at *
        go_wp2_with fail
        refine Calls.mono hcl.out ?_; rintro e w2 ⟨rfl, hk2⟩
        go_wp2_with fail
        go_ret
        exact ⟨by rw [hr.out]; simp, by (repeat (first | exact Kp.refl _ _ | assumption | refine Kp.drew ?_ | refine Kp.drewN ?_ _ | refine Kp.alloc ?_ _ | (refine Kp.setCell ?_ (by first | (left; simp; done) | (right; simp; try omega)) _) | (refine Kp.trans' ?_ (by assumption) (by simp; try omega))))⟩
    · obtain rfl : j = xs.length := by omega
      have hr : Hid (posFrom p xs 0 = -1) := by rw [← hf.out, List.drop_length]; rfl
      go_wp2
      go_ret
      exact ⟨by rw [hr.out]; simp, hk⟩
theorem containsFunc_calls (k : Nat) (hent : ∀ (args : Array Value) (w : World), (callFunc k args).run Try.prog w = .ok (.enter k args) w) (cap : Value) (p : Int → Bool) (v : Value) (xs : List Int) (w : World) (hv : IsInts .i64 w v xs)
    (hp : ∀ i, i < xs.length → ∀ wr, Kp [] w wr → Calls Try.prog k #[.int .i64 (xs.getD i 0), cap] wr fun e w' => e = .returned (.bool (p (xs.getD i 0))) ∧ Kp [] wr w') :
    Calls Try.prog 75 #[v, .func (.func k) #[] #[cap]] w fun e w' => e = .returned (.bool (xs.any p)) ∧ Kp [] w w' := by
  have hf := Lib.hid (indexFunc_calls k hent cap p v xs w hv hp)
  have ha := Lib.hid (posFrom_any p xs 0)
  clear hp hv
  go_enter Try.func75, Try.ntmps75
  go_wp2_with fail
  refine Calls.mono hf.out ?_; rintro e w1 ⟨rfl, hk⟩
  have hb := Lib.hid ha.out
  clear hf ha
  generalize posFrom p xs 0 = x at *
  go_wp2_with fail
  go_ret
  exact ⟨by rw [← hb.out]; simp, hk⟩
/-- From 0 up to one. -/
def inB (most x : Int) : Bool := decide (0 ≤ x) && decide (x ≤ most)
theorem within1_calls (most x : Int) (b : Nat) (w : World) (h : w.cell? ⟨b, 0, none⟩ = some (.int .i64 most)) :
    Calls Try.prog 76 #[.int .i64 x, .pointer (some ⟨b, 0, none⟩)] w fun e w' => e = .returned (.bool (!inB most x)) ∧ Kp [] w w' := by
  by_cases h1 : x < 0
  · have e : Hid (inB most x = false) := by unfold Hid inB; simp; omega
    go_enter Try.func76, Try.ntmps76
    go_wp2
    go_ret
    exact ⟨by rw [e.out]; simp, Kp.refl _ _⟩
  · have h2 : decide (x < 0) = false := by simpa using h1
    have e : Hid ((!inB most x) = decide (most < x)) := by unfold Hid inB; by_cases h3 : most < x <;> simp [h3] <;> omega
    go_enter Try.func76, Try.ntmps76
    go_wp2
    go_ret
    exact ⟨by rw [e.out]; simp, Kp.refl _ _⟩
theorem within_calls (v : Value) (xs : List Int) (most : Int) (w : World) (hv : IsInts .i64 w v xs) :
    Calls Try.prog 51 #[v, .int .i64 most] w fun e w' => e = .returned (.bool (xs.all (inB most))) ∧ Kp [] w w' := by
  have ha : Hid ((!(xs.any fun x => !inB most x)) = xs.all (inB most)) := by unfold Hid; rw [List.not_any_eq_all_not]; simp
  have hk1 : Kp [] w (w.alloc (.cells #[.int .i64 most] 3)) := (Kp.refl _ _).alloc _
  have hc := Lib.hid (containsFunc_calls 76 Try.call76 (.pointer (some ⟨w.heap.size, 0, none⟩)) (fun x => !inB most x) v xs _ (hv.kp hk1 (by simp)) (fun i hi wr hk => within1_calls most _ _ wr (hk.cell (by go_simp) (by simp))))
  obtain ⟨p, n, c, rfl⟩ : ∃ p n c, v = .slice p n c := by
    rcases hv with ⟨⟨ad, rfl⟩, rfl⟩ | ⟨g, off, c, rfl, _⟩
    · exact ⟨_, _, _, rfl⟩
    · exact ⟨_, _, _, rfl⟩
  clear hv
  go_enter Try.func51, Try.ntmps51
  go_wp2_with fail
  refine Calls.mono hc.out ?_; rintro e w1 ⟨rfl, hk⟩
  go_wp2_with fail
  go_ret
  exact ⟨by rw [← ha.out]; simp, hk1.trans hk⟩
end Go.Proofs.Ythmokldmdcjklaa

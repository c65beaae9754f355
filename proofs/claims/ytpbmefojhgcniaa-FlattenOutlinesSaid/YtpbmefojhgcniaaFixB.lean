/- The contracts of the reference of the layer fixed, and of the rest of the layer. -/
import Derived.Test.YtpbmefojhgcniaaFixA
import Derived.Test.YtpbmefojhgcniaaBel
namespace Go.Proofs.Ytpbmefojhgcniaa
open Go.RowKit
set_option linter.unusedVariables false
theorem Drew.bel {w w' : World} (h : Drew w w') : Bel w w' := by obtain ⟨n, rfl⟩ := h; exact Bel.drewN (Bel.refl _) n
theorem rfloor_calls (a b : Int) (ha : -9223372036854775808 ≤ a) (hq : -9223372036854775808 ≤ a / b) (ha' : a ≤ 9223372036854775807) (hb : 0 < b) (hb' : b ≤ 9223372036854775807) (w : World) :
    Calls Try.prog 35 #[.int .i64 a, .int .i64 b] w fun e w' => e = .returned (.int .i64 (a / b)) ∧ Bel w w' := by
  have hb0 : (b == 0) = false := by rw [beq_eq_false_iff_ne]; omega
  by_cases h : a < 0
  · obtain ⟨h1, h2⟩ := tdiv_bounds a b h hb
    by_cases hm : a.tmod b = 0
    · have h3 : (a.tmod b != 0) = false := by rw [bne_eq_false_iff_eq]; exact hm
      have hf : Hid _ := floor_same a b h hb hm
      clear hm
      go_enter Try.func35, Try.ntmps35
      go_wp2
      go_ret
      exact ⟨by rw [← hf.out]; simp, by (repeat (first | exact Bel.refl _ | assumption | refine Bel.drew ?_ | refine Bel.drewN ?_ _ | refine Bel.alloc ?_ _ | refine Bel.trans (by assumption) ?_ | (refine Bel.setCell ?_ (by simp; try omega) _)))⟩
    · have h3 : (a.tmod b != 0) = true := by rw [bne_iff_ne]; exact hm
      have hf : Hid _ := floor_less a b h hb hm
      have hb2 : -9223372036854775808 ≤ a.tdiv b - 1 := by rw [floor_less a b h hb hm]; exact hq
      clear hq
      clear hm
      go_enter Try.func35, Try.ntmps35
      go_wp2
      go_ret
      exact ⟨by rw [← hf.out]; simp, by (repeat (first | exact Bel.refl _ | assumption | refine Bel.drew ?_ | refine Bel.drewN ?_ _ | refine Bel.alloc ?_ _ | refine Bel.trans (by assumption) ?_ | (refine Bel.setCell ?_ (by simp; try omega) _)))⟩
  · obtain ⟨h1, h2⟩ := ediv_bounds a b (by omega) hb
    have h4 : 0 ≤ a := by omega
    have h5 : decide (a < 0) = false := by simpa using h4
    by_cases hm : a % b = 0
    · have h3 : (a % b != 0) = false := by rw [bne_eq_false_iff_eq]; exact hm
      clear hm h
      go_enter Try.func35, Try.ntmps35
      go_wp2
      go_ret
      exact ⟨by simp, by (repeat (first | exact Bel.refl _ | assumption | refine Bel.drew ?_ | refine Bel.drewN ?_ _ | refine Bel.alloc ?_ _ | refine Bel.trans (by assumption) ?_ | (refine Bel.setCell ?_ (by simp; try omega) _)))⟩
    · have h3 : (a % b != 0) = true := by rw [bne_iff_ne]; exact hm
      clear hm h
      go_enter Try.func35, Try.ntmps35
      go_wp2
      go_ret
      exact ⟨by simp, by (repeat (first | exact Bel.refl _ | assumption | refine Bel.drew ?_ | refine Bel.drewN ?_ _ | refine Bel.alloc ?_ _ | refine Bel.trans (by assumption) ?_ | (refine Bel.setCell ?_ (by simp; try omega) _)))⟩
theorem rmay_calls (x : Int) (w : World) : Calls Try.prog 33 #[.int .i64 x] w fun e w' => e = .returned (.bool (mayB x)) ∧ w = w' := by
  by_cases h1 : -2147483648 ≤ x
  · by_cases h2 : x ≤ 2147483648
    · go_enter Try.func33, Try.ntmps33
      go_wp2
      go_ret
      exact ⟨by simp [mayB, h1, h2], rfl⟩
    · go_enter Try.func33, Try.ntmps33
      go_wp2
      go_ret
      exact ⟨by simp [mayB, h1, h2], rfl⟩
  · have h2 : decide (-2147483648 ≤ x) = false := by simpa using h1
    go_enter Try.func33, Try.ntmps33
    go_wp2
    go_ret
    exact ⟨by unfold mayB; rw [h2]; rfl, rfl⟩
/-- A result, if it may be, and its error's number. -/
def outV (x : Int) : Int := if mayB x then x else 0
def outE (x : Int) : Int := if mayB x then 0 else 10
theorem all_take_succ (f : Int → Bool) (xs : List Int) (k : Nat) (h : k < xs.length) (hp : (xs.take k).all f = true) (hm : f (xs.getD k 0) = true) : (xs.take (k + 1)).all f = true := by
  rw [List.take_succ_eq_append_getElem h, List.all_append, hp]
  rw [List.getD_eq_getElem?_getD, List.getElem?_eq_getElem h] at hm
  simpa using hm
theorem all_false_at (f : Int → Bool) (xs : List Int) (k : Nat) (h : k < xs.length) (hm : f (xs.getD k 0) = false) : xs.all f = false := by
  rw [List.getD_eq_getElem?_getD, List.getElem?_eq_getElem h] at hm
  rw [List.all_eq_false]; exact ⟨xs[k], List.getElem_mem h, by simpa using hm⟩
theorem two_cells (W : World) (n : Nat) (hn : n = W.heap.size) (a b : Int) (T : TypeId) : ∀ k, k < 2 → (W.alloc (.cells #[.int .i64 a, .int .i64 b] T)).cell? ⟨n, k, none⟩ = some (.int .i64 ([a, b].getD k 0)) := by
  subst hn
  intro k hk
  rcases (show k = 0 ∨ k = 1 by omega) with rfl | rfl
  · go_simp
  · go_simp
theorem three_cells (W : World) (n : Nat) (hn : n = W.heap.size) (a b c : Int) (T : TypeId) : ∀ k, k < 3 → (W.alloc (.cells #[.int .i64 a, .int .i64 b, .int .i64 c] T)).cell? ⟨n, k, none⟩ = some (.int .i64 ([a, b, c].getD k 0)) := by
  subst hn
  intro k hk
  rcases (show k = 0 ∨ k = 1 ∨ k = 2 by omega) with rfl | rfl | rfl
  · go_simp
  · go_simp
  · go_simp
theorem may_le {x : Int} (h : mayB x = true) : -2147483648 ≤ x ∧ x ≤ 2147483648 := by
  simpa [mayB] using h
theorem abs_prod {a b : Int} {m n : Nat} (h : a.natAbs ≤ m) (h2 : b.natAbs ≤ n) : a.natAbs * b.natAbs ≤ m * n := Nat.mul_le_mul h h2
theorem prod_le {a b : Int} (h : -2147483648 ≤ a ∧ a ≤ 2147483648) (h2 : -2147483648 ≤ b ∧ b ≤ 2147483648) : -4611686018427387904 ≤ a * b ∧ a * b ≤ 4611686018427387904 := by
  have h5 := abs_prod (a := a) (b := b) (m := 2147483648) (n := 2147483648) (by omega) (by omega)
  rw [← Int.natAbs_mul] at h5
  generalize a * b = p at *
  omega
end Go.Proofs.Ytpbmefojhgcniaa

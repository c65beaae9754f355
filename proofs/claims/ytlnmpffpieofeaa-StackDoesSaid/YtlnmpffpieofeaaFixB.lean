/- The contracts of the reference of the layer fixed, and of the rest of the layer. -/
import Derived.Test.YtlnmpffpieofeaaFixA
import Derived.Test.YtlnmpffpieofeaaBel
namespace Go.Proofs.Ytlnmpffpieofeaa
open Go.RowKit
set_option linter.unusedVariables false
theorem Drew.bel {w w' : World} (h : Drew w w') : Bel w w' := by obtain ⟨n, rfl⟩ := h; exact Bel.drewN (Bel.refl _) n
theorem rfloor_calls (a b : Int) (ha : -9223372036854775808 ≤ a) (hq : -9223372036854775808 ≤ a / b) (ha' : a ≤ 9223372036854775807) (hb : 0 < b) (hb' : b ≤ 9223372036854775807) (w : World) :
    Calls Try.prog 30 #[.int .i64 a, .int .i64 b] w fun e w' => e = .returned (.int .i64 (a / b)) ∧ Bel w w' := by
  have hb0 : (b == 0) = false := by rw [beq_eq_false_iff_ne]; omega
  by_cases h : a < 0
  · obtain ⟨h1, h2⟩ := tdiv_bounds a b h hb
    by_cases hm : a.tmod b = 0
    · have h3 : (a.tmod b != 0) = false := by rw [bne_eq_false_iff_eq]; exact hm
      have hf : Hid _ := floor_same a b h hb hm
      clear hm
      go_enter Try.func30, Try.ntmps30
      go_wp2
      go_ret
      exact ⟨by rw [← hf.out]; simp, by (repeat (first | exact Bel.refl _ | assumption | refine Bel.drew ?_ | refine Bel.drewN ?_ _ | refine Bel.alloc ?_ _ | refine Bel.trans (by assumption) ?_ | (refine Bel.setCell ?_ (by simp; try omega) _)))⟩
    · have h3 : (a.tmod b != 0) = true := by rw [bne_iff_ne]; exact hm
      have hf : Hid _ := floor_less a b h hb hm
      have hb2 : -9223372036854775808 ≤ a.tdiv b - 1 := by rw [floor_less a b h hb hm]; exact hq
      clear hq
      clear hm
      go_enter Try.func30, Try.ntmps30
      go_wp2
      go_ret
      exact ⟨by rw [← hf.out]; simp, by (repeat (first | exact Bel.refl _ | assumption | refine Bel.drew ?_ | refine Bel.drewN ?_ _ | refine Bel.alloc ?_ _ | refine Bel.trans (by assumption) ?_ | (refine Bel.setCell ?_ (by simp; try omega) _)))⟩
  · obtain ⟨h1, h2⟩ := ediv_bounds a b (by omega) hb
    have h4 : 0 ≤ a := by omega
    have h5 : decide (a < 0) = false := by simpa using h4
    by_cases hm : a % b = 0
    · have h3 : (a % b != 0) = false := by rw [bne_eq_false_iff_eq]; exact hm
      clear hm h
      go_enter Try.func30, Try.ntmps30
      go_wp2
      go_ret
      exact ⟨by simp, by (repeat (first | exact Bel.refl _ | assumption | refine Bel.drew ?_ | refine Bel.drewN ?_ _ | refine Bel.alloc ?_ _ | refine Bel.trans (by assumption) ?_ | (refine Bel.setCell ?_ (by simp; try omega) _)))⟩
    · have h3 : (a % b != 0) = true := by rw [bne_iff_ne]; exact hm
      clear hm h
      go_enter Try.func30, Try.ntmps30
      go_wp2
      go_ret
      exact ⟨by simp, by (repeat (first | exact Bel.refl _ | assumption | refine Bel.drew ?_ | refine Bel.drewN ?_ _ | refine Bel.alloc ?_ _ | refine Bel.trans (by assumption) ?_ | (refine Bel.setCell ?_ (by simp; try omega) _)))⟩
theorem rmay_calls (x : Int) (w : World) : Calls Try.prog 11 #[.int .i64 x] w fun e w' => e = .returned (.bool (mayB x)) ∧ w = w' := by
  by_cases h1 : -2147483648 ≤ x
  · by_cases h2 : x ≤ 2147483648
    · go_enter Try.func11, Try.ntmps11
      go_wp2
      go_ret
      exact ⟨by simp [mayB, h1, h2], rfl⟩
    · go_enter Try.func11, Try.ntmps11
      go_wp2
      go_ret
      exact ⟨by simp [mayB, h1, h2], rfl⟩
  · have h2 : decide (-2147483648 ≤ x) = false := by simpa using h1
    go_enter Try.func11, Try.ntmps11
    go_wp2
    go_ret
    exact ⟨by unfold mayB; rw [h2]; rfl, rfl⟩
theorem rnear_pos_calls (a b c : Int) (h : 0 < c) (hc' : c ≤ 4611686018427387904)
    (hp : -4611686018427387904 ≤ a * b) (hp' : a * b ≤ 4611686018427387904) (w : World) :
    Calls Try.prog 59 #[.int .i64 a, .int .i64 b, .int .i64 c] w fun e w' => e = .returned (.int .i64 (nearQ (a * b) c)) ∧ Bel w w' := by
  obtain ⟨h1, h2, h3, h4⟩ := rest_bounds (a * b) c h
  have hn : Hid (nearQ (a * b) c = _) := (if_pos h).trans (rnear_pos (a * b) c h)
  have h5 : -9223372036854775808 ≤ a * b / c * c := by omega
  have h6 : a * b / c * c ≤ 9223372036854775807 := by omega
  have h0 : 0 ≤ c := by omega
  by_cases h7 : c ≤ 2 * (a * b - a * b / c * c)
  · rw [if_pos h7] at hn
    go_enter Try.func59, Try.ntmps59
    go_wp2_with fail
    refine (rfloor_calls _ _ (by omega) (by omega) (by omega) h (by omega) _).mono ?_; rintro e w' ⟨rfl, hb1⟩
    go_wp2_with fail
    go_ret
    exact ⟨by rw [hn.out]; simp, hb1⟩
  · rw [if_neg h7] at hn
    go_enter Try.func59, Try.ntmps59
    go_wp2_with fail
    refine (rfloor_calls _ _ (by omega) (by omega) (by omega) h (by omega) _).mono ?_; rintro e w' ⟨rfl, hb1⟩
    go_wp2_with fail
    go_ret
    exact ⟨by rw [hn.out]; simp, hb1⟩
theorem rnear_neg_calls (a b d : Int) (h : 0 < d) (hc' : d ≤ 4611686018427387903)
    (hp : -4611686018427387904 ≤ a * b) (hp' : a * b ≤ 4611686018427387904) (w : World) :
    Calls Try.prog 59 #[.int .i64 a, .int .i64 b, .int .i64 (-d)] w fun e w' => e = .returned (.int .i64 (nearQ (a * b) (-d))) ∧ Bel w w' := by
  obtain ⟨h1, h2, h3, h4⟩ := rest_bounds (a * b) d h
  have hn : Hid _ := nearQ_neg (a * b) d h
  have h5 : -9223372036854775808 ≤ a * b / d * d := by omega
  have h6 : a * b / d * d ≤ 9223372036854775807 := by omega
  by_cases h8 : a * b - a * b / d * d = 0
  · rw [if_pos h8] at hn
    have h9 : (a * b - a * b / d * d == 0) = true := by rw [beq_iff_eq]; exact h8
    clear h8
    go_enter Try.func59, Try.ntmps59
    go_wp2_with fail
    refine (rfloor_calls _ _ (by omega) (by omega) (by omega) h (by omega) _).mono ?_; rintro e w' ⟨rfl, hb1⟩
    go_wp2_with fail
    go_ret
    exact ⟨by rw [hn.out]; simp, hb1⟩
  · rw [if_neg h8] at hn
    have h9 : (a * b - a * b / d * d == 0) = false := by rw [beq_eq_false_iff_ne]; exact h8
    clear h8
    by_cases h7 : d ≤ 2 * (d - (a * b - a * b / d * d))
    · rw [if_pos h7] at hn
      go_enter Try.func59, Try.ntmps59
      go_wp2_with fail
      refine (rfloor_calls _ _ (by omega) (by omega) (by omega) h (by omega) _).mono ?_; rintro e w' ⟨rfl, hb1⟩
      go_wp2_with fail
      go_ret
      exact ⟨by rw [hn.out]; simp, hb1⟩
    · rw [if_neg h7] at hn
      go_enter Try.func59, Try.ntmps59
      go_wp2_with fail
      refine (rfloor_calls _ _ (by omega) (by omega) (by omega) h (by omega) _).mono ?_; rintro e w' ⟨rfl, hb1⟩
      go_wp2_with fail
      go_ret
      exact ⟨by rw [hn.out]; simp, hb1⟩
theorem rnear_calls (a b c : Int) (hc1 : -4611686018427387903 ≤ c) (hc' : c ≤ 4611686018427387904) (hc0 : c ≠ 0)
    (hp : -4611686018427387904 ≤ a * b) (hp' : a * b ≤ 4611686018427387904) (w : World) :
    Calls Try.prog 59 #[.int .i64 a, .int .i64 b, .int .i64 c] w fun e w' => e = .returned (.int .i64 (nearQ (a * b) c)) ∧ Bel w w' := by
  by_cases h : 0 < c
  · exact rnear_pos_calls a b c h hc' hp hp' w
  · have := rnear_neg_calls a b (-c) (by omega) (by omega) hp hp' w
    rwa [Int.neg_neg] at this
/-- A result, if it may be, and its error's number. -/
def outV (x : Int) : Int := if mayB x then x else 0
def outE (x : Int) : Int := if mayB x then 0 else 10
theorem out_calls (x : Int) (w : World) : Calls Try.prog 58 #[.int .i64 x] w fun e w' => e = .returned (.tuple #[.int .i64 (outV x), .int .i64 (outE x)]) ∧ Bel w w' := by
  by_cases h : mayB x = true
  · go_enter Try.func58, Try.ntmps58
    go_wp2_with (go_at_call 11; refine (rmay_calls _ _).mono ?_; rintro e w' ⟨rfl, rfl⟩)
    go_ret2
    exact ⟨by unfold outV outE; rw [if_pos h, if_pos h]; simp, Bel.refl _⟩
  · have h' : mayB x = false := by simpa using h
    go_enter Try.func58, Try.ntmps58
    go_wp2_with (go_at_call 11; refine (rmay_calls _ _).mono ?_; rintro e w' ⟨rfl, rfl⟩)
    go_ret2
    exact ⟨by unfold outV outE; rw [if_neg h, if_neg h]; simp, Bel.refl _⟩
theorem within_calls (x : Int) (w : World) : Calls Try.prog 69 #[.int .i64 x] w fun e w' => e = .returned (.tuple #[.int .i64 (outV x), .int .i64 (outE x)]) ∧ w = w' := by
  by_cases h : mayB x = true
  · go_enter Try.func69, Try.ntmps69
    go_wp2_with (go_at_call 25; refine (may_calls _ _).mono ?_; rintro e w' ⟨rfl, rfl⟩)
    go_ret2
    exact ⟨by unfold outV outE; rw [if_pos h, if_pos h]; simp, rfl⟩
  · have h' : mayB x = false := by simpa using h
    go_enter Try.func69, Try.ntmps69
    go_wp2_with (go_at_call 25; refine (may_calls _ _).mono ?_; rintro e w' ⟨rfl, rfl⟩)
    go_ret2
    exact ⟨by unfold outV outE; rw [if_neg h, if_neg h]; simp, rfl⟩
theorem all_take_succ (f : Int → Bool) (xs : List Int) (k : Nat) (h : k < xs.length) (hp : (xs.take k).all f = true) (hm : f (xs.getD k 0) = true) : (xs.take (k + 1)).all f = true := by
  rw [List.take_succ_eq_append_getElem h, List.all_append, hp]
  rw [List.getD_eq_getElem?_getD, List.getElem?_eq_getElem h] at hm
  simpa using hm
theorem all_false_at (f : Int → Bool) (xs : List Int) (k : Nat) (h : k < xs.length) (hm : f (xs.getD k 0) = false) : xs.all f = false := by
  rw [List.getD_eq_getElem?_getD, List.getElem?_eq_getElem h] at hm
  rw [List.all_eq_false]; exact ⟨xs[k], List.getElem_mem h, by simpa using hm⟩
theorem all_calls (b : Nat) (xs : List Int) (n : Nat) (hn : n = xs.length) (hn1 : n ≤ 1000) (w : World) (hc : ∀ k, k < n → w.cell? ⟨b, k, none⟩ = some (.int .i64 (xs.getD k 0))) :
    Calls Try.prog 68 #[.slice (some ⟨b, 0, none⟩) n n] w fun e w' => e = .returned (.bool (xs.all mayB)) ∧ w = w' := by
  have hn2 : Hid _ := hn
  clear hn
  have hc2 : Hid _ := hc
  clear hc
  go_enter Try.func68, Try.ntmps68
  go_wp2_with fail
  go_loop [4, 7] (fun _ i => ∃ k : Nat, k ≤ n ∧ i = .int .i64 k ∧ Hid ((xs.take k).all mayB = true)) (fun _ i => n - (intOf i).toNat)
  case atStart => exact ⟨0, by omega, rfl, rfl⟩
  case round =>
    obtain ⟨k, hk, rfl, hp⟩ := hrel
    by_cases hlt : k < n
    · have hcell := hc2.out k hlt
      by_cases hm : mayB (xs.getD k 0) = true
      · have hp2 : Hid ((xs.take (k + 1)).all mayB = true) := all_take_succ mayB xs k (by rw [← hn2.out]; exact hlt) hp.out hm
        generalize xs.getD k 0 = x at *
        go_wp2_with (go_at_call 25; refine (may_calls _ _).mono ?_; rintro e w' ⟨rfl, rfl⟩)
        go_round
        case rel => exact ⟨k + 1, by omega, by go_num, hp2⟩
        case measure => simp [intOf]; omega
      · have hm' : mayB (xs.getD k 0) = false := by simpa using hm
        have hp2 : Hid (xs.all mayB = false) := all_false_at mayB xs k (by rw [← hn2.out]; exact hlt) hm'
        clear hm
        generalize xs.getD k 0 = x at *
        go_wp2_with (go_at_call 25; refine (may_calls _ _).mono ?_; rintro e w' ⟨rfl, rfl⟩)
        go_ret
        exact ⟨by rw [hp2.out]; simp, rfl⟩
    · have hk2 : k = n := by omega
      have hp2 : Hid (xs.all mayB = true) := by have := hp.out; rw [hk2, hn2.out, List.take_length] at this; exact this
      clear hk2
      go_wp2_with (go_at_call 25; refine (may_calls _ _).mono ?_; rintro e w' ⟨rfl, rfl⟩)
      go_ret
      exact ⟨by rw [hp2.out]; simp, rfl⟩

theorem two_cells (W : World) (n : Nat) (hn : n = W.heap.size) (a b : Int) (T : TypeId) : ∀ k, k < 2 → (W.alloc (.cells #[.int .i64 a, .int .i64 b] T)).cell? ⟨n, k, none⟩ = some (.int .i64 ([a, b].getD k 0)) := by
  subst hn
  intro k hk
  rcases (show k = 0 ∨ k = 1 by omega) with rfl | rfl
  · go_simp
  · go_simp
theorem three_cells (W : World) (n : Nat) (hn : n = W.heap.size) (a b c : Int) (T : TypeId) : ∀ k, k < 3 → (W.alloc (.cells #[.int .i64 a, .int .i64 b, .int .i64 c] T)).cell? ⟨n, k, none⟩ = some (.int .i64 ([a, b, c].getD k 0)) := by
  subst hn
  intro k hk
  rcases (show k = 0 ∨ k = 1 ∨ k = 2 by omega) with rfl | rfl | rfl
  · go_simp
  · go_simp
  · go_simp
theorem may_le {x : Int} (h : mayB x = true) : -2147483648 ≤ x ∧ x ≤ 2147483648 := by
  simpa [mayB] using h
theorem abs_prod {a b : Int} {m n : Nat} (h : a.natAbs ≤ m) (h2 : b.natAbs ≤ n) : a.natAbs * b.natAbs ≤ m * n := Nat.mul_le_mul h h2
theorem prod_le {a b : Int} (h : -2147483648 ≤ a ∧ a ≤ 2147483648) (h2 : -2147483648 ≤ b ∧ b ≤ 2147483648) : -4611686018427387904 ≤ a * b ∧ a * b ≤ 4611686018427387904 := by
  have h5 := abs_prod (a := a) (b := b) (m := 2147483648) (n := 2147483648) (by omega) (by omega)
  rw [← Int.natAbs_mul] at h5
  generalize a * b = p at *
  omega
end Go.Proofs.Ytlnmpffpieofeaa

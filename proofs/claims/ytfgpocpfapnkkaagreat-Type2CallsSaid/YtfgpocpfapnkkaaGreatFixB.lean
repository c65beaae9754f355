/- The contracts of the reference of the layer fixed, and of the rest of the layer. -/
import Derived.Test.YtfgpocpfapnkkaaGreatFixA
import Derived.Test.YtfgpocpfapnkkaaGreatBel
namespace Go.Proofs.YtfgpocpfapnkkaaGreat
open Go.RowKit
set_option linter.unusedVariables false
theorem Drew.bel {w w' : World} (h : Drew w w') : Bel w w' := by obtain ⟨n, rfl⟩ := h; exact Bel.drewN (Bel.refl _) n
theorem rmay_calls (x : Int) (w : World) : Calls Tryz.prog 33 #[.int .i64 x] w fun e w' => e = .returned (.bool (mayB x)) ∧ w = w' := by
  by_cases h1 : -2147483648 ≤ x
  · by_cases h2 : x ≤ 2147483648
    · go_enter Tryz.func33, Tryz.ntmps33
      go_wp2
      go_ret
      exact ⟨by simp [mayB, h1, h2], rfl⟩
    · go_enter Tryz.func33, Tryz.ntmps33
      go_wp2
      go_ret
      exact ⟨by simp [mayB, h1, h2], rfl⟩
  · have h2 : decide (-2147483648 ≤ x) = false := by simpa using h1
    go_enter Tryz.func33, Tryz.ntmps33
    go_wp2
    go_ret
    exact ⟨by unfold mayB; rw [h2]; rfl, rfl⟩
/-- A result, if it may be, and its error's number. -/
def outV (x : Int) : Int := if mayB x then x else 0
def outE (x : Int) : Int := if mayB x then 0 else 10
theorem within_calls (x : Int) (w : World) : Calls Tryz.prog 116 #[.int .i64 x] w fun e w' => e = .returned (.tuple #[.int .i64 (outV x), .int .i64 (outE x)]) ∧ w = w' := by
  by_cases h : mayB x = true
  · go_enter Tryz.func116, Tryz.ntmps116
    go_wp2_with (go_at_call 16; refine (may_calls _ _).mono ?_; rintro e w' ⟨rfl, rfl⟩)
    go_ret2
    exact ⟨by unfold outV outE; rw [if_pos h, if_pos h]; simp, rfl⟩
  · have h' : mayB x = false := by simpa using h
    go_enter Tryz.func116, Tryz.ntmps116
    go_wp2_with (go_at_call 16; refine (may_calls _ _).mono ?_; rintro e w' ⟨rfl, rfl⟩)
    go_ret2
    exact ⟨by unfold outV outE; rw [if_neg h, if_neg h]; simp, rfl⟩
theorem all_take_succ (f : Int → Bool) (xs : List Int) (k : Nat) (h : k < xs.length) (hp : (xs.take k).all f = true) (hm : f (xs.getD k 0) = true) : (xs.take (k + 1)).all f = true := by
  rw [List.take_succ_eq_append_getElem h, List.all_append, hp]
  rw [List.getD_eq_getElem?_getD, List.getElem?_eq_getElem h] at hm
  simpa using hm
theorem all_false_at (f : Int → Bool) (xs : List Int) (k : Nat) (h : k < xs.length) (hm : f (xs.getD k 0) = false) : xs.all f = false := by
  rw [List.getD_eq_getElem?_getD, List.getElem?_eq_getElem h] at hm
  rw [List.all_eq_false]; exact ⟨xs[k], List.getElem_mem h, by simpa using hm⟩
theorem all_calls (b : Nat) (xs : List Int) (n : Nat) (hn : n = xs.length) (hn1 : n ≤ 1000) (w : World) (hc : ∀ k, k < n → w.cell? ⟨b, k, none⟩ = some (.int .i64 (xs.getD k 0))) :
    Calls Tryz.prog 115 #[.slice (some ⟨b, 0, none⟩) n n] w fun e w' => e = .returned (.bool (xs.all mayB)) ∧ w = w' := by
  have hn2 : Hid _ := hn
  clear hn
  have hc2 : Hid _ := hc
  clear hc
  go_enter Tryz.func115, Tryz.ntmps115
  go_wp2_with fail
  go_loop [4, 7] (fun _ i => ∃ k : Nat, k ≤ n ∧ i = .int .i64 k ∧ Hid ((xs.take k).all mayB = true)) (fun _ i => n - (intOf i).toNat)
  case atStart => exact ⟨0, by omega, rfl, rfl⟩
  case round =>
    obtain ⟨k, hk, rfl, hp⟩ := hrel
    by_cases hlt : k < n
    · have hcell := hc2.out k hlt
      by_cases hm : mayB (xs.getD k 0) = true
      · have hp2 : Hid ((xs.take (k + 1)).all mayB = true) := all_take_succ mayB xs k (by rw [← hn2.out]; exact hlt) hp.out hm
        generalize xs.getD k 0 = x at *
        go_wp2_with (go_at_call 16; refine (may_calls _ _).mono ?_; rintro e w' ⟨rfl, rfl⟩)
        go_round
        case rel => exact ⟨k + 1, by omega, by go_num, hp2⟩
        case measure => simp [intOf]; omega
      · have hm' : mayB (xs.getD k 0) = false := by simpa using hm
        have hp2 : Hid (xs.all mayB = false) := all_false_at mayB xs k (by rw [← hn2.out]; exact hlt) hm'
        clear hm
        generalize xs.getD k 0 = x at *
        go_wp2_with (go_at_call 16; refine (may_calls _ _).mono ?_; rintro e w' ⟨rfl, rfl⟩)
        go_ret
        exact ⟨by rw [hp2.out]; simp, rfl⟩
    · have hk2 : k = n := by omega
      have hp2 : Hid (xs.all mayB = true) := by have := hp.out; rw [hk2, hn2.out, List.take_length] at this; exact this
      clear hk2
      go_wp2_with (go_at_call 16; refine (may_calls _ _).mono ?_; rintro e w' ⟨rfl, rfl⟩)
      go_ret
      exact ⟨by rw [hp2.out]; simp, rfl⟩

theorem two_cells (W : World) (n : Nat) (hn : n = W.heap.size) (a b : Int) (T : TypeId) : ∀ k, k < 2 → (W.alloc (.cells #[.int .i64 a, .int .i64 b] T)).cell? ⟨n, k, none⟩ = some (.int .i64 ([a, b].getD k 0)) := by
  subst hn
  intro k hk
  rcases (show k = 0 ∨ k = 1 by omega) with rfl | rfl
  · go_simp
  · go_simp
theorem three_cells (W : World) (n : Nat) (hn : n = W.heap.size) (a b c : Int) (T : TypeId) : ∀ k, k < 3 → (W.alloc (.cells #[.int .i64 a, .int .i64 b, .int .i64 c] T)).cell? ⟨n, k, none⟩ = some (.int .i64 ([a, b, c].getD k 0)) := by
  subst hn
  intro k hk
  rcases (show k = 0 ∨ k = 1 ∨ k = 2 by omega) with rfl | rfl | rfl
  · go_simp
  · go_simp
  · go_simp
theorem may_le {x : Int} (h : mayB x = true) : -2147483648 ≤ x ∧ x ≤ 2147483648 := by
  simpa [mayB] using h
theorem abs_prod {a b : Int} {m n : Nat} (h : a.natAbs ≤ m) (h2 : b.natAbs ≤ n) : a.natAbs * b.natAbs ≤ m * n := Nat.mul_le_mul h h2
theorem prod_le {a b : Int} (h : -2147483648 ≤ a ∧ a ≤ 2147483648) (h2 : -2147483648 ≤ b ∧ b ≤ 2147483648) : -4611686018427387904 ≤ a * b ∧ a * b ≤ 4611686018427387904 := by
  have h5 := abs_prod (a := a) (b := b) (m := 2147483648) (n := 2147483648) (by omega) (by omega)
  rw [← Int.natAbs_mul] at h5
  generalize a * b = p at *
  omega
end Go.Proofs.YtfgpocpfapnkkaaGreat

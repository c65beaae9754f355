/- The contracts of the layer wire: the reader. -/
import Derived.Test.YtodjohoonbkklaaRows
import Derived.Test.YtodjohoonbkklaaMem
import Derived.Test.YtodjohoonbkklaaBits
import Derived.WalkKit
import Derived.ProofKit
import Derived.BigQuiet
import Derived.Deep.QuietTactic
import Derived.WalkLawsBesides
import Derived.WalkSpells
namespace Go.Proofs.Ytodjohoonbkklaa
open Go.RowKit
set_option linter.unusedVariables false
set_option linter.unusedSimpArgs false

/-- Block r is a reader over the bytes of v, at a place, bad or not. -/
def Rdr (w : World) (r : Nat) (v : Value) (at_ : Int) (bad : Bool) : Prop := w.heap[r]? = some (.cells #[v, .int .i64 at_, .bool bad] 131 (0, 0))
theorem Rdr.kp {S : List Nat} {w w' : World} {r : Nat} {v : Value} {k : Int} {bad : Bool} (h : Rdr w r v k bad) (hk : Kp S w w') (hr : r ∉ S) : Rdr w' r v k bad := hk.heap h hr
theorem Rdr.facts {w : World} {r : Nat} {v : Value} {k : Int} {bad : Bool} (h : Rdr w r v k bad) :
    w.cell? ⟨r, 0, none⟩ = some v ∧ w.cell? ⟨r, 1, none⟩ = some (.int .i64 k) ∧ w.cell? ⟨r, 2, none⟩ = some (.bool bad) ∧ w.frozen? ⟨r, 1, none⟩ = false ∧ w.frozen? ⟨r, 2, none⟩ = false :=
  ⟨by rw [cell_of_row w r 0 _ _ _ h]; rfl, by rw [cell_of_row w r 1 _ _ _ h]; rfl, by rw [cell_of_row w r 2 _ _ _ h]; rfl, frozen_of_row w r 1 _ _ h, frozen_of_row w r 2 _ _ h⟩
theorem Rdr.setAt {w : World} {r : Nat} {v : Value} {k : Int} {bad : Bool} (h : Rdr w r v k bad) (m : Int) : Rdr (w.setCell ⟨r, 1, none⟩ (.int .i64 m)) r v m bad := heap_setCell_same w r 1 _ _ _ h
theorem Rdr.setBad {w : World} {r : Nat} {v : Value} {k : Int} {bad : Bool} (h : Rdr w r v k bad) (m : Bool) : Rdr (w.setCell ⟨r, 2, none⟩ (.bool m)) r v k m := heap_setCell_same w r 2 _ _ _ h

theorem new_calls (v : Value) (a : Option Addr) (n c : Nat) (hv : v = .slice a n c) (w : World) :
    Calls Try.prog 51 #[v] w fun e w' => e = .returned (.pointer (some ⟨w.heap.size, 0, none⟩)) ∧ w' = w.alloc (.cells #[v, .int .i64 0, .bool false] 131) := by
  subst hv
  go_enter Try.func51, Try.ntmps51
  go_wp2
  go_ret
  exact ⟨rfl, rfl⟩
theorem wrong_calls (r : Nat) (v : Value) (k : Int) (bad : Bool) (w : World) (h : Rdr w r v k bad) :
    Calls Try.prog 111 #[.pointer (some ⟨r, 0, none⟩)] w fun e w' => e = .returned (.bool bad) ∧ w = w' := by
  obtain ⟨c0, c1, c2, f1, f2⟩ := h.facts
  go_enter Try.func111, Try.ntmps111
  go_wp2
  go_ret
  exact ⟨rfl, rfl⟩
theorem done_calls (r : Nat) (v : Value) (k : Int) (bad : Bool) (w : World) (h : Rdr w r v k bad) :
    Calls Try.prog 54 #[.pointer (some ⟨r, 0, none⟩)] w fun e w' => e = .returned (.int .i64 (bif bad then 30 else 0)) ∧ w = w' := by
  cases bad
  all_goals
    go_enter Try.func54, Try.ntmps54
    go_wp2_with fail
    refine (wrong_calls _ _ _ _ _ h).mono ?_; rintro e w' ⟨rfl, rfl⟩
    go_wp2
    go_ret
    exact ⟨rfl, rfl⟩
theorem spoil_calls (r : Nat) (v : Value) (k : Int) (bad : Bool) (w : World) (h : Rdr w r v k bad) :
    Calls Try.prog 145 #[.pointer (some ⟨r, 0, none⟩)] w fun e w' => e = .returned (.tuple #[]) ∧ w' = w.setCell ⟨r, 2, none⟩ (.bool true) := by
  obtain ⟨c0, c1, c2, f1, f2⟩ := h.facts
  go_enter Try.func145, Try.ntmps145
  go_wp2
  go_end0
  exact ⟨rfl, rfl⟩
theorem next_bad (r : Nat) (v : Value) (k n : Int) (w : World) (h : Rdr w r v k true) :
    Calls Try.prog 110 #[.pointer (some ⟨r, 0, none⟩), .int .i64 n] w fun e w' => e = .returned (.slice none 0 0) ∧ Rdr w' r v k true ∧ Kp [r] w w' := by
  go_enter Try.func110, Try.ntmps110
  go_wp2
  go_quiet ((go_at_call 111; exact Calls.quiet_of_same ((wrong_calls r v k true _ (by exact h)).mono fun _ _ ⟨a, b⟩ => ⟨a, b.symm⟩)))
  go_wp2_with fail
  refine (spoil_calls r v k true _ (by exact h)).mono ?_; rintro e w' ⟨rfl, rfl⟩
  go_wp2_with fail
  go_ret
  exact ⟨rfl, Rdr.setBad (by exact h) _, ((Kp.refl [r] w).drewN _).setCell (.inl (by simp)) _⟩
theorem next_short (r : Nat) (a : Option Addr) (N c k : Nat) (n : Int) (w : World) (h : Rdr w r (.slice a N c) k false) (h1 : 0 ≤ n) (h2 : (N : Int) - k < n) (hN : N ≤ maxLen) (hk : k ≤ N) :
    Calls Try.prog 110 #[.pointer (some ⟨r, 0, none⟩), .int .i64 n] w fun e w' => e = .returned (.slice none 0 0) ∧ Rdr w' r (.slice a N c) k true ∧ Kp [r] w w' := by
  obtain ⟨c0, c1, c2, f1, f2⟩ := h.facts
  unfold maxLen at hN
  have hlt : decide (n < 0) = false := by simpa using h1
  go_enter Try.func110, Try.ntmps110
  go_wp2
  go_quiet ((go_at_call 111; exact Calls.quiet_of_same ((wrong_calls r (.slice a N c) k false _ (by exact h)).mono fun _ _ ⟨a, b⟩ => ⟨a, b.symm⟩)))
  go_wp2_with fail
  refine (spoil_calls r (.slice a N c) k false _ (by exact h)).mono ?_; rintro e w' ⟨rfl, rfl⟩
  go_wp2_with fail
  go_ret
  exact ⟨rfl, Rdr.setBad (by exact h) _, ((Kp.refl [r] w).drewN _).setCell (.inl (by simp)) _⟩
theorem next_ok (r g off N c k m : Nat) (n : Int) (hn : n = m) (w : World) (h : Rdr w r (.slice (some ⟨g, off, none⟩) N c) k false) (h1 : 1 ≤ n) (h2 : n ≤ (N : Int) - k) (hN : N ≤ c) (hc : c ≤ maxLen) :
    Calls Try.prog 110 #[.pointer (some ⟨r, 0, none⟩), .int .i64 n] w fun e w' => e = .returned (.slice (some ⟨g, off + k, none⟩) m (c - k)) ∧ Rdr w' r (.slice (some ⟨g, off, none⟩) N c) ((k + m : Nat) : Int) false ∧ Kp [r] w w' := by
  subst hn
  obtain ⟨c0, c1, c2, f1, f2⟩ := h.facts
  unfold maxLen at hc
  have hlt : decide ((m : Int) < 0) = false := by simp
  go_enter Try.func110, Try.ntmps110
  go_wp2
  go_quiet ((go_at_call 111; exact Calls.quiet_of_same ((wrong_calls r (.slice (some ⟨g, off, none⟩) N c) k false _ (by exact h)).mono fun _ _ ⟨a, b⟩ => ⟨a, b.symm⟩)))
  go_wp2_with fail
  go_quiet (fail)
  go_wp2
  go_ret
  refine ⟨?_, Rdr.setAt (k := (k : Int)) (by exact h) _, by (repeat (first | exact Kp.refl _ _ | assumption | refine Kp.drew ?_ | refine Kp.drewN ?_ _ | refine Kp.alloc ?_ _ | (refine Kp.setCell ?_ (by first | (left; simp; done) | (right; simp; try omega)) _) | (refine Kp.trans' ?_ (by assumption) (by simp; try omega))))⟩
  simp
end Go.Proofs.Ytodjohoonbkklaa

/- metric: where a glyph's outline begins and ends; how many there are; where a load of places refuses. -/
import Derived.Test.YthmokldmdcjklaaMtJ
namespace Go.Proofs.Ythmokldmdcjklaa
open Go.RowKit
set_option linter.unusedVariables false
set_option linter.unusedSimpArgs false
theorem pllen_nil (w : World) : Calls Try.prog 42 #[.pointer none] w fun e w' => e = .returned (.int .i64 0) ∧ w' = w := by
  go_enter Try.func42, Try.ntmps42
  go_wp2
  go_ret
  exact ⟨rfl, rfl⟩
theorem IsPl.form {w : World} {q : Nat} {A : List Int} (h : IsPl w q A) : ∃ p c, w.cell? ⟨q, 0, none⟩ = some (.slice p A.length c) ∧ q < w.heap.size ∧ IsInts .i64 w (.slice p A.length c) A := by
  obtain ⟨va, h1, h2⟩ := h
  have hq := lt_of_block h1
  have c1 : w.cell? ⟨q, 0, none⟩ = some va := by rw [cell_of_row w q 0 _ _ _ h1]; rfl
  have h3 := h2
  rcases h2 with ⟨⟨ad, rfl⟩, rfl⟩ | ⟨g, off, c, rfl, _⟩
  · exact ⟨_, 0, c1, hq, h3⟩
  · exact ⟨_, c, c1, hq, h3⟩
theorem pllen_calls (q : Nat) (A : List Int) (w : World) (h : IsPl w q A) (hl : A.length ≤ 70000) : Calls Try.prog 42 #[.pointer (some ⟨q, 0, none⟩)] w fun e w' => e = .returned (.int .i64 (A.length - 1)) ∧ w' = w := by
  obtain ⟨p, c, c1, hq, _⟩ := h.form
  clear h
  go_enter Try.func42, Try.ntmps42
  go_wp2
  go_ret
  exact ⟨by simp, rfl⟩
theorem plat_nil (g : Int) (w : World) : Calls Try.prog 40 #[.pointer none, .int .i64 g] w fun e w' => e = .returned (.tuple #[.int .i64 0, .int .i64 0, .int .i64 6]) ∧ Kp [] w w' := by
  go_enter Try.func40, Try.ntmps40
  go_wp2_with fail
  go_ret3
  exact ⟨rfl, by (repeat (first | exact Kp.refl _ _ | assumption | refine Kp.drew ?_ | refine Kp.drewN ?_ _ | refine Kp.alloc ?_ _ | (refine Kp.setCell ?_ (by first | (left; simp; done) | (right; simp; try omega)) _) | (refine Kp.trans' ?_ (by assumption) (by simp; try omega))))⟩
theorem plat_out (q : Nat) (A : List Int) (g : Int) (w : World) (h : IsPl w q A) (hl : A.length ≤ 70000) (hg : g < 0 ∨ (A.length : Int) - 1 ≤ g) :
    Calls Try.prog 40 #[.pointer (some ⟨q, 0, none⟩), .int .i64 g] w fun e w' => e = .returned (.tuple #[.int .i64 0, .int .i64 0, .int .i64 62]) ∧ Kp [] w w' := by
  obtain ⟨p, c, c1, hq, _⟩ := h.form
  clear h
  by_cases h0 : g < 0
  · go_enter Try.func40, Try.ntmps40
    go_wp2_with fail
    go_ret3
    exact ⟨rfl, by (repeat (first | exact Kp.refl _ _ | assumption | refine Kp.drew ?_ | refine Kp.drewN ?_ _ | refine Kp.alloc ?_ _ | (refine Kp.setCell ?_ (by first | (left; simp; done) | (right; simp; try omega)) _) | (refine Kp.trans' ?_ (by assumption) (by simp; try omega))))⟩
  · have h0' : decide (g < 0) = false := decide_eq_false h0
    have h2 : (A.length : Int) - 1 ≤ g := by omega
    go_enter Try.func40, Try.ntmps40
    go_wp2_with fail
    go_ret3
    exact ⟨rfl, by (repeat (first | exact Kp.refl _ _ | assumption | refine Kp.drew ?_ | refine Kp.drewN ?_ _ | refine Kp.alloc ?_ _ | (refine Kp.setCell ?_ (by first | (left; simp; done) | (right; simp; try omega)) _) | (refine Kp.trans' ?_ (by assumption) (by simp; try omega))))⟩
theorem plat_in (q : Nat) (A : List Int) (g : Nat) (w : World) (h : IsPl w q A) (hl : A.length ≤ 70000) (hg : g + 1 < A.length) :
    Calls Try.prog 40 #[.pointer (some ⟨q, 0, none⟩), .int .i64 g] w fun e w' => e = .returned (.tuple #[.int .i64 (A.getD g 0), .int .i64 (A.getD (g + 1) 0), .int .i64 0]) ∧ Kp [] w w' := by
  obtain ⟨p, c, c1, hq, hi⟩ := h.form
  rcases hi with ⟨⟨ad, e⟩, rfl⟩ | ⟨g1, o1, k1, e, a1, b1, d1⟩
  · simp at hg
  · cases e
    have e1 := d1 g (by omega)
    have e2 := d1 (g + 1) hg
    have hg1 : g1 < w.heap.size := World.block_lt_of_cell? w _ e1
    have hgA : (g : Int) < A.length := by omega
    have hgB : (g : Int) + 1 < A.length := by omega
    have hgT : ((g : Int) + 1).toNat = g + 1 := by omega
    have hg0 : decide ((g : Int) < 0) = false := decide_eq_false (by omega)
    have hgC : decide ((A.length : Int) - 1 ≤ g) = false := decide_eq_false (by omega)
    clear d1 h
    generalize A.getD g 0 = x at *
    generalize A.getD (g + 1) 0 = y at *
    go_enter Try.func40, Try.ntmps40
    go_wp2_with fail
    go_quiet (fail)
    go_wp2_with fail
    go_ret3
    exact ⟨rfl, by (repeat (first | exact Kp.refl _ _ | assumption | refine Kp.drew ?_ | refine Kp.drewN ?_ _ | refine Kp.alloc ?_ _ | (refine Kp.setCell ?_ (by first | (left; simp; done) | (right; simp; try omega)) _) | (refine Kp.trans' ?_ (by assumption) (by simp; try omega))))⟩
set_option maxRecDepth 100000 in
theorem plload_no (v : Value) (n : Int) (long : Bool) (size : Int) (w : World) (h : ¬ (1 ≤ n ∧ n ≤ 65535 ∧ 0 ≤ size ∧ size ≤ 1048576)) :
    Calls Try.prog 35 #[v, .int .i64 n, .bool long, .int .i64 size] w fun e w' => e = .returned (.tuple #[.pointer none, .int .i64 1]) ∧ Kp [] w w' := by
  by_cases hn : 1 ≤ n ∧ n ≤ 65535
  · by_cases h1 : size < 0
    · go_enter Try.func35, Try.ntmps35
      go_wp2_with fail
      refine (mcount_yes _ hn.1 hn.2 _).mono ?_; rintro e w' ⟨rfl, rfl⟩
      go_wp2_with fail
      go_ret2
      exact ⟨rfl, by (repeat (first | exact Kp.refl _ _ | assumption | refine Kp.drew ?_ | refine Kp.drewN ?_ _ | refine Kp.alloc ?_ _ | (refine Kp.setCell ?_ (by first | (left; simp; done) | (right; simp; try omega)) _) | (refine Kp.trans' ?_ (by assumption) (by simp; try omega))))⟩
    · have h1' : decide (size < 0) = false := decide_eq_false h1
      have h2 : 1048576 < size := by omega
      clear h
      go_enter Try.func35, Try.ntmps35
      go_wp2_with fail
      refine (mcount_yes _ hn.1 hn.2 _).mono ?_; rintro e w' ⟨rfl, rfl⟩
      go_wp2_with fail
      go_ret2
      exact ⟨rfl, by (repeat (first | exact Kp.refl _ _ | assumption | refine Kp.drew ?_ | refine Kp.drewN ?_ _ | refine Kp.alloc ?_ _ | (refine Kp.setCell ?_ (by first | (left; simp; done) | (right; simp; try omega)) _) | (refine Kp.trans' ?_ (by assumption) (by simp; try omega))))⟩
  · go_enter Try.func35, Try.ntmps35
    go_wp2_with fail
    refine (mcount_no _ (by omega) _).mono ?_; rintro e w' ⟨rfl, rfl⟩
    go_wp2_with fail
    go_ret2
    exact ⟨rfl, by (repeat (first | exact Kp.refl _ _ | assumption | refine Kp.drew ?_ | refine Kp.drewN ?_ _ | refine Kp.alloc ?_ _ | (refine Kp.setCell ?_ (by first | (left; simp; done) | (right; simp; try omega)) _) | (refine Kp.trans' ?_ (by assumption) (by simp; try omega))))⟩
end Go.Proofs.Ythmokldmdcjklaa

/- metric: what a glyph's metric is; how many there are; where a load refuses. -/
import Derived.Test.YthmokldmdcjklaaMtE
import Derived.Deep.RegionHeld3
namespace Go.Proofs.Ythmokldmdcjklaa
open Go.RowKit
set_option linter.unusedVariables false
set_option linter.unusedSimpArgs false
theorem metlen_nil (w : World) : Calls Try.prog 41 #[.pointer none] w fun e w' => e = .returned (.int .i64 0) ∧ w' = w := by
  go_enter Try.func41, Try.ntmps41
  go_wp2
  go_ret
  exact ⟨rfl, rfl⟩
theorem metlen_calls (q : Nat) (A B : List Int) (w : World) (h : IsMet w q A B) : Calls Try.prog 41 #[.pointer (some ⟨q, 0, none⟩)] w fun e w' => e = .returned (.int .i64 B.length) ∧ w' = w := by
  obtain ⟨va, vb, h1, h2, h3⟩ := h
  obtain ⟨p, c, hvb⟩ : ∃ p c, vb = .slice p B.length c := by
    rcases h3 with ⟨⟨ad, rfl⟩, rfl⟩ | ⟨g, off, c, rfl, _⟩
    · exact ⟨_, 0, rfl⟩
    · exact ⟨_, c, rfl⟩
  subst hvb
  have c1 : w.cell? ⟨q, 1, none⟩ = some (.slice p B.length c) := by rw [cell_of_row w q 1 _ _ _ h1]; rfl
  clear h1 h2 h3
  go_enter Try.func41, Try.ntmps41
  go_wp2
  go_ret
  exact ⟨rfl, rfl⟩
theorem metat_nil (g : Int) (w : World) : Calls Try.prog 39 #[.pointer none, .int .i64 g] w fun e w' => e = .returned (.tuple #[.agg #[.int .i64 0, .int .i64 0], .int .i64 6]) ∧ Kp [] w w' := by
  go_enter Try.func39, Try.ntmps39
  go_wp2_with fail
  refine bodyPost_ret (v := .tuple #[.agg #[.int .i64 0, .int .i64 0], .int .i64 6]) (by simp [results, Try.results39, go_sem]) rfl ⟨rfl, by (repeat (first | exact Kp.refl _ _ | assumption | refine Kp.drew ?_ | refine Kp.drewN ?_ _ | refine Kp.alloc ?_ _ | (refine Kp.setCell ?_ (by first | (left; simp; done) | (right; simp; try omega)) _) | (refine Kp.trans' ?_ (by assumption) (by simp; try omega))))⟩
theorem metat_out (q : Nat) (A B : List Int) (g : Int) (w : World) (h : IsMet w q A B) (hg : g < 0 ∨ (B.length : Int) ≤ g) :
    Calls Try.prog 39 #[.pointer (some ⟨q, 0, none⟩), .int .i64 g] w fun e w' => e = .returned (.tuple #[.agg #[.int .i64 0, .int .i64 0], .int .i64 62]) ∧ Kp [] w w' := by
  obtain ⟨va, vb, h1, h2, h3⟩ := h
  obtain ⟨p, c, hvb⟩ : ∃ p c, vb = .slice p B.length c := by
    rcases h3 with ⟨⟨ad, rfl⟩, rfl⟩ | ⟨g, off, c, rfl, _⟩
    · exact ⟨_, 0, rfl⟩
    · exact ⟨_, c, rfl⟩
  subst hvb
  have c1 : w.cell? ⟨q, 1, none⟩ = some (.slice p B.length c) := by rw [cell_of_row w q 1 _ _ _ h1]; rfl
  have hq : q < w.heap.size := lt_of_block h1
  clear h1 h2 h3
  by_cases h0 : g < 0
  · go_enter Try.func39, Try.ntmps39
    go_wp2_with fail
    refine bodyPost_ret (v := .tuple #[.agg #[.int .i64 0, .int .i64 0], .int .i64 62]) (by simp [results, Try.results39, go_sem]) rfl ⟨rfl, by (repeat (first | exact Kp.refl _ _ | assumption | refine Kp.drew ?_ | refine Kp.drewN ?_ _ | refine Kp.alloc ?_ _ | (refine Kp.setCell ?_ (by first | (left; simp; done) | (right; simp; try omega)) _) | (refine Kp.trans' ?_ (by assumption) (by simp; try omega))))⟩
  · have h0' : decide (g < 0) = false := decide_eq_false h0
    have h2 : (B.length : Int) ≤ g := by omega
    go_enter Try.func39, Try.ntmps39
    go_wp2_with fail
    refine bodyPost_ret (v := .tuple #[.agg #[.int .i64 0, .int .i64 0], .int .i64 62]) (by simp [results, Try.results39, go_sem]) rfl ⟨rfl, by (repeat (first | exact Kp.refl _ _ | assumption | refine Kp.drew ?_ | refine Kp.drewN ?_ _ | refine Kp.alloc ?_ _ | (refine Kp.setCell ?_ (by first | (left; simp; done) | (right; simp; try omega)) _) | (refine Kp.trans' ?_ (by assumption) (by simp; try omega))))⟩
set_option maxRecDepth 100000 in
theorem metat_lo (q : Nat) (A B : List Int) (g : Nat) (w : World) (h : IsMet w q A B) (hg : g < B.length) (hA : 1 ≤ A.length) (hA2 : A.length ≤ 65535) (hcase : g < A.length) :
    Calls Try.prog 39 #[.pointer (some ⟨q, 0, none⟩), .int .i64 g] w fun e w' => e = .returned (.tuple #[.agg #[.int .i64 (A.getD (g) 0), .int .i64 (B.getD g 0)], .int .i64 0]) ∧ Kp [] w w' := by
  obtain ⟨va, vb, h1, h2, h3⟩ := h
  have hq : q < w.heap.size := lt_of_block h1
  have c0 : w.cell? ⟨q, 0, none⟩ = some va := by rw [cell_of_row w q 0 _ _ _ h1]; rfl
  have c1 : w.cell? ⟨q, 1, none⟩ = some vb := by rw [cell_of_row w q 1 _ _ _ h1]; rfl
  rcases h3 with ⟨⟨ad, rfl⟩, rfl⟩ | ⟨g2, o2, k2, rfl, a2, b2, d2⟩
  · simp at hg
  rcases h2 with ⟨⟨ad, rfl⟩, rfl⟩ | ⟨g1, o1, k1, rfl, a1, b1, d1⟩
  · simp at hA
  have e2 := d2 g hg
  have e1 := d1 (g) (by omega)
  have hg1 : g1 < w.heap.size := World.block_lt_of_cell? w _ e1
  have hg2 : g2 < w.heap.size := World.block_lt_of_cell? w _ e2
  have hgA : (g : Int) < B.length := by omega
  have hwA : IntKind.i64.wrap ((A.length : Int) - 1) = (A.length : Int) - 1 := by rw [IntKind.wrap_i64]; omega
  have hg0 : decide ((g : Int) < 0) = false := decide_eq_false (by omega)
  have hgB : decide ((B.length : Int) ≤ g) = false := decide_eq_false (by omega)
  have hlt : ¬ ((A.length : Int) - 1 < g) := by omega
  have hmI : (g : Int) < A.length := by omega
  clear d1 d2 h1
  generalize A.getD (g) 0 = x at *
  generalize B.getD g 0 = y at *
  go_enter Try.func39, Try.ntmps39
  go_wp2_with fail
  go_region_held (fun w' => w'.cell? ⟨q, 0, none⟩ = some (.slice (some ⟨g1, o1, none⟩) A.length k1) ∧ w'.cell? ⟨q, 1, none⟩ = some (.slice (some ⟨g2, o2, none⟩) B.length k2) ∧ w'.cell? ⟨g1, o1 + (g), none⟩ = some (.int .i64 x) ∧ w'.cell? ⟨g2, o2 + g, none⟩ = some (.int .i64 y))
    (go_keep) (fail)
  go_wp2_with fail
  refine bodyPost_ret (v := .tuple #[.agg #[.int .i64 x, .int .i64 y], .int .i64 0]) (by simp [results, Try.results39, go_sem]) rfl ⟨rfl, by (repeat (first | exact Kp.refl _ _ | assumption | refine Kp.drew ?_ | refine Kp.drewN ?_ _ | refine Kp.alloc ?_ _ | (refine Kp.setCell ?_ (by first | (left; simp; done) | (right; simp; try omega)) _) | (refine Kp.trans' ?_ (by assumption) (by simp; try omega))))⟩
set_option maxRecDepth 100000 in
theorem metat_hi (q : Nat) (A B : List Int) (g : Nat) (w : World) (h : IsMet w q A B) (hg : g < B.length) (hA : 1 ≤ A.length) (hA2 : A.length ≤ 65535) (hcase : A.length ≤ g) :
    Calls Try.prog 39 #[.pointer (some ⟨q, 0, none⟩), .int .i64 g] w fun e w' => e = .returned (.tuple #[.agg #[.int .i64 (A.getD (A.length - 1) 0), .int .i64 (B.getD g 0)], .int .i64 0]) ∧ Kp [] w w' := by
  obtain ⟨va, vb, h1, h2, h3⟩ := h
  have hq : q < w.heap.size := lt_of_block h1
  have c0 : w.cell? ⟨q, 0, none⟩ = some va := by rw [cell_of_row w q 0 _ _ _ h1]; rfl
  have c1 : w.cell? ⟨q, 1, none⟩ = some vb := by rw [cell_of_row w q 1 _ _ _ h1]; rfl
  rcases h3 with ⟨⟨ad, rfl⟩, rfl⟩ | ⟨g2, o2, k2, rfl, a2, b2, d2⟩
  · simp at hg
  rcases h2 with ⟨⟨ad, rfl⟩, rfl⟩ | ⟨g1, o1, k1, rfl, a1, b1, d1⟩
  · simp at hA
  have e2 := d2 g hg
  have e1 := d1 (A.length - 1) (by omega)
  have hg1 : g1 < w.heap.size := World.block_lt_of_cell? w _ e1
  have hg2 : g2 < w.heap.size := World.block_lt_of_cell? w _ e2
  have hgA : (g : Int) < B.length := by omega
  have hwA : IntKind.i64.wrap ((A.length : Int) - 1) = (A.length : Int) - 1 := by rw [IntKind.wrap_i64]; omega
  have hg0 : decide ((g : Int) < 0) = false := decide_eq_false (by omega)
  have hgB : decide ((B.length : Int) ≤ g) = false := decide_eq_false (by omega)
  have hlt : (A.length : Int) - 1 < g := by omega
  have hmI : (A.length : Int) - 1 < A.length := by omega
  have hmJ : (0 : Int) ≤ (A.length : Int) - 1 := by omega
  have hmK : ((A.length : Int) - 1).toNat = A.length - 1 := by omega
  clear d1 d2 h1
  generalize A.getD (A.length - 1) 0 = x at *
  generalize B.getD g 0 = y at *
  go_enter Try.func39, Try.ntmps39
  go_wp2_with fail
  go_region_held (fun w' => w'.cell? ⟨q, 0, none⟩ = some (.slice (some ⟨g1, o1, none⟩) A.length k1) ∧ w'.cell? ⟨q, 1, none⟩ = some (.slice (some ⟨g2, o2, none⟩) B.length k2) ∧ w'.cell? ⟨g1, o1 + (A.length - 1), none⟩ = some (.int .i64 x) ∧ w'.cell? ⟨g2, o2 + g, none⟩ = some (.int .i64 y))
    (go_keep) (fail)
  go_wp2_with fail
  refine bodyPost_ret (v := .tuple #[.agg #[.int .i64 x, .int .i64 y], .int .i64 0]) (by simp [results, Try.results39, go_sem]) rfl ⟨rfl, by (repeat (first | exact Kp.refl _ _ | assumption | refine Kp.drew ?_ | refine Kp.drewN ?_ _ | refine Kp.alloc ?_ _ | (refine Kp.setCell ?_ (by first | (left; simp; done) | (right; simp; try omega)) _) | (refine Kp.trans' ?_ (by assumption) (by simp; try omega))))⟩
theorem metat_in (q : Nat) (A B : List Int) (g : Nat) (w : World) (h : IsMet w q A B) (hg : g < B.length) (hA : 1 ≤ A.length) (hA2 : A.length ≤ 65535) :
    Calls Try.prog 39 #[.pointer (some ⟨q, 0, none⟩), .int .i64 g] w fun e w' => e = .returned (.tuple #[.agg #[.int .i64 (A.getD (min g (A.length - 1)) 0), .int .i64 (B.getD g 0)], .int .i64 0]) ∧ Kp [] w w' := by
  by_cases hc : g < A.length
  · rw [show min g (A.length - 1) = g by omega]; exact metat_lo q A B g w h hg hA hA2 hc
  · rw [show min g (A.length - 1) = A.length - 1 by omega]; exact metat_hi q A B g w h hg hA hA2 (by omega)
set_option maxRecDepth 100000 in
theorem metload_no (v : Value) (n m : Int) (w : World) (h : ¬ (1 ≤ n ∧ n ≤ 65535 ∧ 1 ≤ m ∧ m ≤ n)) :
    Calls Try.prog 29 #[v, .int .i64 n, .int .i64 m] w fun e w' => e = .returned (.tuple #[.pointer none, .int .i64 1]) ∧ Kp [] w w' := by
  by_cases hn : 1 ≤ n ∧ n ≤ 65535
  · by_cases h1 : m < 1
    · go_enter Try.func29, Try.ntmps29
      go_wp2_with fail
      refine (mcount_yes _ hn.1 hn.2 _).mono ?_; rintro e w' ⟨rfl, rfl⟩
      go_wp2_with fail
      go_ret2
      exact ⟨rfl, Kp.refl _ _⟩
    · have h1' : decide (m < 1) = false := decide_eq_false h1
      have h2 : n < m := by omega
      clear h
      go_enter Try.func29, Try.ntmps29
      go_wp2_with fail
      refine (mcount_yes _ hn.1 hn.2 _).mono ?_; rintro e w' ⟨rfl, rfl⟩
      go_wp2_with fail
      go_ret2
      exact ⟨rfl, Kp.refl _ _⟩
  · go_enter Try.func29, Try.ntmps29
    go_wp2_with fail
    refine (mcount_no _ (by omega) _).mono ?_; rintro e w' ⟨rfl, rfl⟩
    go_wp2_with fail
    go_ret2
    exact ⟨rfl, Kp.refl _ _⟩
end Go.Proofs.Ythmokldmdcjklaa

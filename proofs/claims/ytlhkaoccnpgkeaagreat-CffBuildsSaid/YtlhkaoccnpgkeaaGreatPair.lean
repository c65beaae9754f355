/- A slice of pairs of integers, as the walks read it. -/
import Derived.Test.YtlhkaoccnpgkeaaGreatApp
namespace Go.Proofs.YtlhkaoccnpgkeaaGreat
open Go.RowKit
set_option linter.unusedVariables false
set_option linter.unusedSimpArgs false
theorem int_eq' {k : IntKind} {a b : Int} (h : a = b) : Value.int k a = Value.int k b := by rw [h]
/-- Pairs as cells. -/
def pairCells (l : List (Int × Int)) : List Value := l.flatMap fun p => [.int .i64 p.1, .int .i64 p.2]
theorem pairCells_length (l : List (Int × Int)) : (pairCells l).length = l.length * 2 := by
  induction l with
  | nil => rfl
  | cons p l ih => simp [pairCells] at ih ⊢; omega
theorem pairCells_app (l r : List (Int × Int)) : pairCells (l ++ r) = pairCells l ++ pairCells r := by simp [pairCells]
theorem pairCells_snoc (l : List (Int × Int)) (a b : Int) : pairCells (l ++ [(a, b)]) = pairCells l ++ [.int .i64 a, .int .i64 b] := by simp [pairCells]
theorem pairCells_at (l : List (Int × Int)) (i : Nat) (h : i < l.length) : (pairCells l)[2 * i]? = some (.int .i64 (l.getD i (0, 0)).1) ∧ (pairCells l)[2 * i + 1]? = some (.int .i64 (l.getD i (0, 0)).2) := by
  induction l generalizing i with
  | nil => simp at h
  | cons p l ih =>
    cases i with
    | zero => simp [pairCells]
    | succ i =>
      have := ih i (by simpa using h)
      rw [show 2 * (i + 1) = 2 * i + 1 + 1 by omega]
      simpa [pairCells] using this
/-- A slice of pairs that can be read. -/
def IsPairs (w : World) (v : Value) (l : List (Int × Int)) : Prop := Reads 2 w v l.length (pairCells l)
theorem IsPairs.kp {S : List Nat} {w w' : World} {v : Value} {l : List (Int × Int)} (h : IsPairs w v l) (hk : Kp S w w') (hS : ∀ s ∈ S, blockOf v ≠ some s) : IsPairs w' v l := Reads.kp h hk hS
/-- It is empty, or its cells lie at an address. -/
theorem IsPairs.cases {w : World} {v : Value} {l : List (Int × Int)} (h : IsPairs w v l) :
    (∃ ad, v = .slice ad 0 0 ∧ l = []) ∨
    ∃ g off c, v = .slice (some ⟨g, off, none⟩) l.length c ∧ l.length ≤ c ∧ c ≤ maxLen ∧ ∀ i, i < l.length → w.cell? ⟨g, off + i * 2, none⟩ = some (.int .i64 (l.getD i (0, 0)).1) ∧ w.cell? ⟨g, off + i * 2 + 1, none⟩ = some (.int .i64 (l.getD i (0, 0)).2) := by
  rcases h.2 with ⟨⟨ad, rfl⟩, h0⟩ | ⟨g, off, c, rfl, h1, h2, h3⟩
  · have hl : l = [] := List.eq_nil_of_length_eq_zero (by first | exact h0 | simpa using h0)
    subst hl
    exact .inl ⟨ad, rfl, rfl⟩
  · refine .inr ⟨g, off, c, rfl, h1, h2, fun i hi => ?_⟩
    have := pairCells_at l i hi
    have a := h3 (2 * i) _ this.1
    have b := h3 (2 * i + 1) _ this.2
    rw [Nat.mul_comm] at a b
    exact ⟨a, by rw [← Nat.add_assoc] at b; exact b⟩
theorem IsPairs.form {w : World} {v : Value} {l : List (Int × Int)} (h : IsPairs w v l) : ∃ p c, v = .slice p l.length c := by
  rcases h.cases with ⟨ad, rfl, rfl⟩ | ⟨g, off, c, rfl, _⟩
  · exact ⟨_, 0, rfl⟩
  · exact ⟨_, c, rfl⟩
theorem IsPairs.le {w : World} {v : Value} {l : List (Int × Int)} (h : IsPairs w v l) : l.length ≤ maxLen := by
  rcases h.cases with ⟨ad, rfl, rfl⟩ | ⟨g, off, c, rfl, h1, h2, _⟩
  · simp
  · omega
theorem IsPairs.owned {w : World} {base : Nat} {e : TypeId} {v : Value} {n : Nat} {l : List (Int × Int)} (hn : n = l.length) (h : w.ownsRow base e 2 v n (pairCells l)) : IsPairs w v l := by
  subst hn; exact Reads.owned h
end Go.Proofs.YtlhkaoccnpgkeaaGreat

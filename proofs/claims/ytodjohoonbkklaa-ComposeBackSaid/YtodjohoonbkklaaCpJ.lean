/- compose: a slice of parts, as the walks read it. -/
import Derived.Test.YtodjohoonbkklaaCpC
import Derived.Test.YtodjohoonbkklaaApp
namespace Go.Proofs.Ytodjohoonbkklaa
open Go.RowKit
set_option linter.unusedVariables false
set_option linter.unusedSimpArgs false
/-- Parts as cells. -/
def ptsCells (l : List Pt) : List Value := l.flatMap fun p => (ptCells p).toList
theorem ptsCells_length (l : List Pt) : (ptsCells l).length = l.length * 11 := by
  induction l with
  | nil => rfl
  | cons p l ih => simp [ptsCells, ptCells] at ih ⊢; omega
theorem ptsCells_app (l r : List Pt) : ptsCells (l ++ r) = ptsCells l ++ ptsCells r := by simp [ptsCells]
theorem ptsCells_snoc (l : List Pt) (p : Pt) : ptsCells (l ++ [p]) = ptsCells l ++ (ptCells p).toList := by simp [ptsCells]
def pt0 : Pt := ⟨0, 0, 0, 0, 0, false, 0, 0, false, 0, 0⟩
theorem ptsCells_at (l : List Pt) (i : Nat) (h : i < l.length) : ∀ j, j < 11 → (ptsCells l)[i * 11 + j]? = (ptCells (l.getD i pt0))[j]? := by
  induction l generalizing i with
  | nil => simp at h
  | cons p l ih =>
    intro j hj
    have e : ptsCells (p :: l) = (ptCells p).toList ++ ptsCells l := by simp [ptsCells]
    have hl : (ptCells p).toList.length = 11 := rfl
    cases i with
    | zero =>
      rw [e, List.getElem?_append_left (by omega)]
      simp
    | succ i =>
      have := ih i (by simpa using h) j hj
      rw [e, List.getElem?_append_right (by omega), hl, show (i + 1) * 11 + j - 11 = i * 11 + j by omega, this]
      simp
/-- A slice of parts that can be read. -/
def IsPts (w : World) (v : Value) (l : List Pt) : Prop := Reads 11 w v l.length (ptsCells l)
theorem IsPts.kp {S : List Nat} {w w' : World} {v : Value} {l : List Pt} (h : IsPts w v l) (hk : Kp S w w') (hS : ∀ s ∈ S, blockOf v ≠ some s) : IsPts w' v l := Reads.kp h hk hS
theorem IsPts.nil (w : World) (a : Option Addr) : IsPts w (.slice a 0 0) [] := ⟨rfl, .inl ⟨⟨a, rfl⟩, rfl⟩⟩
/-- It is empty, or its cells lie at an address. -/
theorem IsPts.cases {w : World} {v : Value} {l : List Pt} (h : IsPts w v l) :
    (∃ ad, v = .slice ad 0 0 ∧ l = []) ∨
    ∃ g off c, v = .slice (some ⟨g, off, none⟩) l.length c ∧ l.length ≤ c ∧ c ≤ maxLen ∧ ∀ i, i < l.length → ∀ j u, (ptCells (l.getD i pt0))[j]? = some u → w.cell? ⟨g, off + i * 11 + j, none⟩ = some u := by
  rcases h.2 with ⟨⟨ad, rfl⟩, h0⟩ | ⟨g, off, c, rfl, h1, h2, h3⟩
  · have hl : l = [] := List.eq_nil_of_length_eq_zero (by first | exact h0 | simpa using h0)
    subst hl
    exact .inl ⟨ad, rfl, rfl⟩
  · refine .inr ⟨g, off, c, rfl, h1, h2, fun i hi j u hu => ?_⟩
    have hj : j < 11 := by
      have := (Array.getElem?_eq_some_iff.1 hu).1
      exact this
    have := h3 (i * 11 + j) u (by rw [ptsCells_at l i hi j hj]; exact hu)
    rwa [← Nat.add_assoc] at this
theorem IsPts.form {w : World} {v : Value} {l : List Pt} (h : IsPts w v l) : ∃ p c, v = .slice p l.length c := by
  rcases h.cases with ⟨ad, rfl, rfl⟩ | ⟨g, off, c, rfl, _⟩
  · exact ⟨_, 0, rfl⟩
  · exact ⟨_, c, rfl⟩
theorem IsPts.le {w : World} {v : Value} {l : List Pt} (h : IsPts w v l) : l.length ≤ maxLen := by
  rcases h.cases with ⟨ad, rfl, rfl⟩ | ⟨g, off, c, rfl, h1, h2, _⟩
  · simp
  · omega
theorem IsPts.owned {w : World} {base : Nat} {e : TypeId} {v : Value} {n : Nat} {l : List Pt} (hn : n = l.length) (h : w.ownsRow base e 11 v n (ptsCells l)) : IsPts w v l := by
  subst hn; exact Reads.owned h
theorem infoPt : (Try.prog.info? 36).map (fun i => (i.zero, i.size, i.bytes)) = some (some (.agg #[.int .i64 0, .int .i64 0, .int .i64 0, .int .i64 0, .int .i64 0, .bool false, .int .i64 0, .int .i64 0, .bool false, .int .i64 0, .int .i64 0]), 11, 88) := by kernel_rfl
theorem oneCell_pt (p : Pt) : ∀ u ∈ (ptCells p).toList, u.oneCell' = true := by
  intro u hu; simp only [ptCells, List.mem_cons, List.not_mem_nil, or_false] at hu
  rcases hu with rfl | rfl | rfl | rfl | rfl | rfl | rfl | rfl | rfl | rfl | rfl <;> rfl
theorem oneCell_pts (l : List Pt) : ∀ u ∈ ptsCells l, u.oneCell' = true := by
  intro u hu; simp only [ptsCells, List.mem_flatMap] at hu
  obtain ⟨p, _, hp⟩ := hu
  exact oneCell_pt p u hp
end Go.Proofs.Ytodjohoonbkklaa

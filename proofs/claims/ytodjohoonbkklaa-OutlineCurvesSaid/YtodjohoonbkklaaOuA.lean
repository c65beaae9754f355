/- outline: points, contours (slices of points), outlines (slices of contours), as the walks read them. (Written by wip/outline/genoua.py.) -/
import Derived.Test.YtodjohoonbkklaaProg
import Derived.Test.YtodjohoonbkklaaApp
import Derived.Test.YtodjohoonbkklaaPair
import Derived.Test.YtodjohoonbkklaaQuiet
import Derived.KernelRfl
import Derived.Deep.QuietTactic
import Derived.BigQuiet
import Derived.RegionTactic
namespace Go.Proofs.Ytodjohoonbkklaa
open Go.RowKit
set_option linter.unusedVariables false
set_option linter.unusedSimpArgs false
/-- A point. -/
structure Pn where
  x : Int
  y : Int
  k : Int
deriving DecidableEq
def pnCells (p : Pn) : Array Value := #[.int .i64 p.x, .int .i64 p.y, .int .i64 p.k]
def pnV (p : Pn) : Value := .agg (pnCells p)
/-- Points as cells. -/
def psCells (l : List Pn) : List Value := l.flatMap fun p => (pnCells p).toList
theorem psCells_length (l : List Pn) : (psCells l).length = l.length * 3 := by
  induction l with
  | nil => rfl
  | cons p l ih => simp [psCells, pnCells] at ih ⊢; omega
theorem psCells_app (l r : List Pn) : psCells (l ++ r) = psCells l ++ psCells r := by simp [psCells]
theorem psCells_snoc (l : List Pn) (p : Pn) : psCells (l ++ [p]) = psCells l ++ (pnCells p).toList := by simp [psCells]
def pn0 : Pn := ⟨0, 0, 0⟩
theorem psCells_at (l : List Pn) (i : Nat) (h : i < l.length) : ∀ j, j < 3 → (psCells l)[i * 3 + j]? = (pnCells (l.getD i pn0))[j]? := by
  induction l generalizing i with
  | nil => simp at h
  | cons p l ih =>
    intro j hj
    have e : psCells (p :: l) = (pnCells p).toList ++ psCells l := by simp [psCells]
    have hl : (pnCells p).toList.length = 3 := rfl
    cases i with
    | zero =>
      rw [e, List.getElem?_append_left (by omega)]
      simp
    | succ i =>
      have := ih i (by simpa using h) j hj
      rw [e, List.getElem?_append_right (by omega), hl, show (i + 1) * 3 + j - 3 = i * 3 + j by omega, this]
      simp
/-- A slice of points that can be read. -/
def IsPs (w : World) (v : Value) (l : List Pn) : Prop := Reads 3 w v l.length (psCells l)
theorem IsPs.kp {S : List Nat} {w w' : World} {v : Value} {l : List Pn} (h : IsPs w v l) (hk : Kp S w w') (hS : ∀ s ∈ S, blockOf v ≠ some s) : IsPs w' v l := Reads.kp h hk hS
theorem IsPs.nil (w : World) (a : Option Addr) : IsPs w (.slice a 0 0) [] := ⟨rfl, .inl ⟨⟨a, rfl⟩, rfl⟩⟩
/-- It is empty, or its cells lie at an address. -/
theorem IsPs.cases {w : World} {v : Value} {l : List Pn} (h : IsPs w v l) :
    (∃ ad, v = .slice ad 0 0 ∧ l = []) ∨
    ∃ g off c, v = .slice (some ⟨g, off, none⟩) l.length c ∧ l.length ≤ c ∧ c ≤ maxLen ∧ ∀ i, i < l.length → ∀ j u, (pnCells (l.getD i pn0))[j]? = some u → w.cell? ⟨g, off + i * 3 + j, none⟩ = some u := by
  rcases h.2 with ⟨⟨ad, rfl⟩, h0⟩ | ⟨g, off, c, rfl, h1, h2, h3⟩
  · have hl : l = [] := List.eq_nil_of_length_eq_zero (by first | exact h0 | simpa using h0)
    subst hl
    exact .inl ⟨ad, rfl, rfl⟩
  · refine .inr ⟨g, off, c, rfl, h1, h2, fun i hi j u hu => ?_⟩
    have hj : j < 3 := by
      have := (Array.getElem?_eq_some_iff.1 hu).1
      exact this
    have := h3 (i * 3 + j) u (by rw [psCells_at l i hi j hj]; exact hu)
    rwa [← Nat.add_assoc] at this
theorem IsPs.form {w : World} {v : Value} {l : List Pn} (h : IsPs w v l) : ∃ p c, v = .slice p l.length c := by
  rcases h.cases with ⟨ad, rfl, rfl⟩ | ⟨g, off, c, rfl, _⟩
  · exact ⟨_, 0, rfl⟩
  · exact ⟨_, c, rfl⟩
theorem IsPs.le {w : World} {v : Value} {l : List Pn} (h : IsPs w v l) : l.length ≤ maxLen := by
  rcases h.cases with ⟨ad, rfl, rfl⟩ | ⟨g, off, c, rfl, h1, h2, _⟩
  · simp
  · omega
theorem IsPs.owned {w : World} {base : Nat} {e : TypeId} {v : Value} {n : Nat} {l : List Pn} (hn : n = l.length) (h : w.ownsRow base e 3 v n (psCells l)) : IsPs w v l := by
  subst hn; exact Reads.owned h
theorem infoPn : (Try.prog.info? 61).map (fun i => (i.zero, i.size, i.bytes)) = some (some (.agg #[.int .i64 0, .int .i64 0, .int .i64 0]), 3, 24) := by kernel_rfl
theorem oneCell_pn (p : Pn) : ∀ u ∈ (pnCells p).toList, u.oneCell' = true := by
  intro u hu; simp only [pnCells, List.mem_cons, List.not_mem_nil, or_false] at hu
  rcases hu with rfl | rfl | rfl <;> rfl
theorem oneCell_ps (l : List Pn) : ∀ u ∈ psCells l, u.oneCell' = true := by
  intro u hu; simp only [psCells, List.mem_flatMap] at hu
  obtain ⟨p, _, hp⟩ := hu
  exact oneCell_pn p u hp
theorem IsPs.kp0 {w w' : World} {v : Value} {l : List Pn} (h : IsPs w v l) (hk : Kp [] w w') : IsPs w' v l := h.kp hk (by simp)
/-- A point of a contour lies in three cells. -/
theorem IsPs.row {w : World} {v : Value} {l : List Pn} (h : IsPs w v l) {i : Nat} (hi : i < l.length) : ∃ g off c, v = .slice (some ⟨g, off, none⟩) l.length c ∧ l.length ≤ c ∧ c ≤ maxLen ∧ w.cell? ⟨g, off + i * 3, none⟩ = some (.int .i64 (l.getD i pn0).x) ∧ w.cell? ⟨g, off + i * 3 + 1, none⟩ = some (.int .i64 (l.getD i pn0).y) ∧ w.cell? ⟨g, off + i * 3 + 2, none⟩ = some (.int .i64 (l.getD i pn0).k) := by
  rcases h.cases with ⟨ad, rfl, rfl⟩ | ⟨g, off, c, rfl, h1, h2, h3⟩
  · simp at hi
  · exact ⟨g, off, c, rfl, h1, h2, by have := h3 i hi 0 (.int .i64 (l.getD i pn0).x) rfl; rwa [Nat.add_zero] at this, h3 i hi 1 _ rfl, h3 i hi 2 _ rfl⟩
/-- An outline: a slice whose cells are contours. -/
def IsOut (w : World) (v : Value) (o : List (List Pn)) : Prop :=
  ∃ vs : List Value, Reads 1 w v o.length vs ∧ ∀ i, i < o.length → IsPs w (vs.getD i (.slice none 0 0)) (o.getD i [])
theorem IsOut.kp0 {w w' : World} {v : Value} {o : List (List Pn)} (h : IsOut w v o) (hk : Kp [] w w') : IsOut w' v o := by
  obtain ⟨vs, h1, h2⟩ := h
  exact ⟨vs, Reads.kp h1 hk (by simp), fun i hi => (h2 i hi).kp0 hk⟩
theorem IsOut.nil (w : World) (a : Option Addr) : IsOut w (.slice a 0 0) [] := ⟨[], ⟨rfl, .inl ⟨⟨a, rfl⟩, rfl⟩⟩, fun i hi => by simp at hi⟩
theorem IsOut.form {w : World} {v : Value} {o : List (List Pn)} (h : IsOut w v o) : ∃ p c, v = .slice p o.length c := by
  obtain ⟨vs, h1, _⟩ := h
  rcases h1.2 with ⟨⟨ad, rfl⟩, h0⟩ | ⟨g, off, c, rfl, _⟩
  · exact ⟨_, 0, by rw [h0]⟩
  · exact ⟨_, c, rfl⟩
theorem IsOut.le {w : World} {v : Value} {o : List (List Pn)} (h : IsOut w v o) : o.length ≤ maxLen := by
  obtain ⟨vs, h1, _⟩ := h
  rcases h1.2 with ⟨⟨ad, rfl⟩, h0⟩ | ⟨g, off, c, rfl, h2, h3, _⟩
  · rw [h0]; simp
  · omega
/-- A contour of an outline lies in one cell. -/
theorem IsOut.row {w : World} {v : Value} {o : List (List Pn)} (h : IsOut w v o) {i : Nat} (hi : i < o.length) : ∃ g off c p cv, v = .slice (some ⟨g, off, none⟩) o.length c ∧ o.length ≤ c ∧ c ≤ maxLen ∧ w.cell? ⟨g, off + i, none⟩ = some (.slice p (o.getD i []).length cv) ∧ IsPs w (.slice p (o.getD i []).length cv) (o.getD i []) := by
  obtain ⟨vs, h1, h2⟩ := h
  have hp := h2 i hi
  obtain ⟨p, cv, hv⟩ := hp.form
  rcases h1.2 with ⟨⟨ad, rfl⟩, h0⟩ | ⟨g, off, c, rfl, h3, h4, h5⟩
  · omega
  · refine ⟨g, off, c, p, cv, rfl, h3, h4, ?_, by rw [← hv]; exact hp⟩
    have hl : i < vs.length := by have := h1.1; omega
    have := h5 i _ (List.getElem?_eq_getElem hl)
    rw [this, ← hv, List.getD_eq_getElem?_getD, List.getElem?_eq_getElem hl]; rfl
/-- How many points there are ahead of contour j. -/
def cntTo (o : List (List Pn)) : Nat → Nat
  | 0 => 0
  | j + 1 => cntTo o j + (o.getD j []).length
def cnt (o : List (List Pn)) : Nat := cntTo o o.length
theorem cntTo_mono (o : List (List Pn)) : ∀ (d j : Nat), cntTo o j ≤ cntTo o (j + d) := by
  intro d
  induction d with
  | zero => intro j; exact Nat.le_refl _
  | succ d ih => intro j; have := ih j; rw [← Nat.add_assoc, cntTo]; omega
theorem cntTo_le (o : List (List Pn)) {j : Nat} (h : j ≤ o.length) : cntTo o j ≤ cnt o := by
  obtain ⟨d, hd⟩ : ∃ d, o.length = j + d := ⟨o.length - j, by omega⟩
  unfold cnt; rw [hd]; exact cntTo_mono o d j
end Go.Proofs.Ytodjohoonbkklaa

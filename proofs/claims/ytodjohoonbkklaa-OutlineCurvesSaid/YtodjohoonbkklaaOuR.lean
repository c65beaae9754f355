/- outline: explicit (plain). -/
import Derived.Test.YtodjohoonbkklaaOuQ
namespace Go.Proofs.Ytodjohoonbkklaa
open Go.RowKit
set_option linter.unusedVariables false
set_option linter.unusedSimpArgs false
/-- The explicit points up to a place. -/
def expG (c : List Pn) : Nat → List Pn
  | 0 => [c.getD 0 pn0]
  | j + 1 => expG c j ++ (if (c.getD (j + 1) pn0).k = 2 ∧ (c.getD j pn0).k = 2 then [midP (c.getD j pn0) (c.getD (j + 1) pn0)] else []) ++ [c.getD (j + 1) pn0]
theorem expG_len (c : List Pn) (j : Nat) : 0 < (expG c j).length ∧ (expG c j).length ≤ 2 * j + 1 := by
  induction j with
  | zero => simp [expG]
  | succ j ih =>
    unfold expG
    simp only [List.length_append, List.length_cons, List.length_nil]
    split <;> simp <;> omega
def expC (c : List Pn) : List Pn := expG (turnP c) ((turnP c).length - 1)
theorem turnP_len (c : List Pn) (h : 0 < c.length) : 0 < (turnP c).length ∧ (turnP c).length ≤ c.length + 1 := by
  unfold turnP; split
  · rename_i h1; rw [List.length_append, List.length_drop, List.length_take]; omega
  · simp
theorem numsP_mem {c : List Pn} (h : numsP c) : ∀ p ∈ c, numF p.x = true ∧ numF p.y = true := fun p hp => by
  obtain ⟨i, hi, rfl⟩ := List.mem_iff_getElem.1 hp
  have := h i hi
  rwa [List.getD_eq_getElem?_getD, List.getElem?_eq_getElem hi] at this
theorem numsP_of {c : List Pn} (h : ∀ p ∈ c, numF p.x = true ∧ numF p.y = true) : numsP c := fun i hi => by
  rw [List.getD_eq_getElem?_getD, List.getElem?_eq_getElem hi]; exact h _ (List.getElem_mem hi)
theorem numF_mid {a b : Int} (ha : numF a = true) (hb : numF b = true) : numF ((a + b) / 2) = true := by
  obtain ⟨a1, a2⟩ := (numF_iff _).1 ha
  obtain ⟨b1, b2⟩ := (numF_iff _).1 hb
  exact (numF_iff _).2 ⟨by omega, by omega⟩
theorem numsP_turn {c : List Pn} (h0 : 0 < c.length) (h : numsP c) : numsP (turnP c) := by
  refine numsP_of fun p hp => ?_
  have hm := numsP_mem h
  unfold turnP at hp; split at hp
  · rcases List.mem_append.1 hp with hp | hp
    · exact hm p (List.mem_of_mem_drop hp)
    · exact hm p (List.mem_of_mem_take hp)
  · rcases List.mem_cons.1 hp with rfl | hp
    · have a := h (c.length - 1) (by omega)
      have b := h 0 h0
      exact ⟨numF_mid a.1 b.1, numF_mid a.2 b.2⟩
    · exact hm p hp
end Go.Proofs.Ytodjohoonbkklaa

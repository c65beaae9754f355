/- Ranges of a selection, glyph by glyph. Plain lists; no program in sight. -/
import Derived.Test.YthmokldmdcjklaaChI
namespace Go.Proofs.Ythmokldmdcjklaa
set_option linter.unusedVariables false
set_option linter.unusedSimpArgs false
def fiP (l : List (Int × Int)) (i : Nat) : Int := (l.getD i (0, 0)).1
def xP (l : List (Int × Int)) (i : Nat) : Int := (l.getD i (0, 0)).2
/-- Where range i ends. -/
def endP (l : List (Int × Int)) (n i : Nat) : Int := if i + 1 < l.length then fiP l (i + 1) else n
def runP (l : List (Int × Int)) (n i : Nat) : List Int := List.replicate (endP l n i - fiP l i).toNat (xP l i)
def runsP (l : List (Int × Int)) (n : Nat) : Nat → List Int
  | 0 => []
  | i + 1 => runsP l n i ++ runP l n i
/-- A selection's glyphs, out of its ranges. -/
def spreadL (l : List (Int × Int)) (n : Nat) : List Int := runsP l n l.length
/-- Ranges that may be: the first one begins at 0, each begins behind the one before it, all of them ahead of n. -/
structure PartsOk (l : List (Int × Int)) (n : Nat) (q : Int) : Prop where
  zero : l ≠ [] → fiP l 0 = 0
  ge : ∀ i, i < l.length → 0 ≤ fiP l i ∧ fiP l i < n ∧ 0 ≤ xP l i ∧ xP l i < q
  lt : ∀ i, i + 1 < l.length → fiP l i < fiP l (i + 1)
theorem fiP_app (l : List (Int × Int)) (p : Int × Int) (i : Nat) (h : i < l.length) : fiP (l ++ [p]) i = fiP l i ∧ xP (l ++ [p]) i = xP l i := by
  unfold fiP xP; simp [List.getD_eq_getElem?_getD, List.getElem?_append_left h]
theorem fiP_new (l : List (Int × Int)) (p : Int × Int) : fiP (l ++ [p]) l.length = p.1 ∧ xP (l ++ [p]) l.length = p.2 := by
  unfold fiP xP; simp [List.getD_eq_getElem?_getD]
theorem PartsOk.snoc {l : List (Int × Int)} {n : Nat} {q : Int} (h : PartsOk l n q) (f x : Int) (b : Bool) (hb : ¬ pBad n q l f x b) (hf : 0 ≤ f) (hx : 0 ≤ x) : PartsOk (l ++ [(f, x)]) n q := by
  unfold pBad at hb
  have e1 : ¬ q ≤ x := fun e => hb (.inr (.inl e))
  have e2 : ¬ (n : Int) ≤ f := fun e => hb (.inr (.inr (.inl e)))
  have e3 : l = [] ↔ f = 0 := Classical.byContradiction fun e => hb (.inr (.inr (.inr (.inl e))))
  have e4 : l ≠ [] → (l.getD (l.length - 1) (0, 0)).1 < f := fun hl => Int.not_le.1 fun e => hb (.inr (.inr (.inr (.inr ⟨hl, e⟩))))
  refine ⟨fun _ => ?_, fun i hi => ?_, fun i hi => ?_⟩
  · by_cases hl : l = []
    · subst hl; exact e3.1 rfl
    · rw [(fiP_app l _ 0 (List.length_pos_iff.2 hl)).1]; exact h.zero hl
  · rw [List.length_append, List.length_singleton] at hi
    by_cases hl : i < l.length
    · rw [(fiP_app l _ i hl).1, (fiP_app l _ i hl).2]; exact h.ge i hl
    · obtain rfl : i = l.length := by omega
      rw [(fiP_new l _).1, (fiP_new l _).2]; simp only; omega
  · rw [List.length_append, List.length_singleton] at hi
    by_cases hl : i + 1 < l.length
    · rw [(fiP_app l _ i (by omega)).1, (fiP_app l _ (i + 1) hl).1]; exact h.lt i hl
    · have hi2 : i + 1 = l.length := by omega
      rw [(fiP_app l _ i (by omega)).1, hi2, (fiP_new l _).1]
      have := e4 (fun e => by rw [e] at hi2; simp at hi2)
      rw [← hi2] at this; exact this
theorem partGo_ok (zs : List Int) (n : Nat) (q : Int) (hb : ∀ c ∈ zs, 0 ≤ c ∧ c ≤ 255) : ∀ (m : Nat) (l : List (Int × Int)) (k : Nat) (l' : List (Int × Int)) (k' : Nat), PartsOk l n q → partGo zs n q m l k = some (l', k') → PartsOk l' n q := by
  intro m
  induction m with
  | zero => intro l k l' k' h e; simp [partGo] at e; rw [← e.1]; exact h
  | succ m ih =>
    intro l k l' k' h e
    unfold partGo at e
    split at e
    · simp at e
    · rename_i hn
      exact ih _ _ _ _ (h.snoc _ _ _ hn (rdV_bounds _ _ _ _ hb).1 (rdV_bounds _ _ _ _ hb).1) e
theorem partsOf_ok (zs : List Int) (n : Nat) (q : Int) (k : Nat) (l : List (Int × Int)) (hb : ∀ c ∈ zs, 0 ≤ c ∧ c ≤ 255) (h : partsOf zs n q k = some l) : PartsOk l n q ∧ l ≠ [] := by
  unfold partsOf at h
  split at h
  · simp at h
  · cases hg : partGo zs n q (rdV zs k false 2).toNat [] (rdK zs k false 2) with
    | none => rw [hg] at h; simp at h
    | some p =>
      rw [hg] at h
      simp only [Option.bind_some, partFin] at h
      split at h
      · rename_i hc
        simp at h
        subst h
        exact ⟨partGo_ok zs n q hb _ _ _ _ p.2 ⟨fun e => absurd rfl e, fun i hi => by simp at hi, fun i hi => by simp at hi⟩ hg, hc.1⟩
      · simp at h
theorem PartsOk.step {l : List (Int × Int)} {n : Nat} {q : Int} (h : PartsOk l n q) (i : Nat) (hi : i < l.length) : fiP l i < endP l n i ∧ endP l n i ≤ n := by
  unfold endP
  split
  · rename_i h1; have := h.lt i h1; have := h.ge (i + 1) h1; omega
  · have := h.ge i hi; omega
theorem PartsOk.runs {l : List (Int × Int)} {n : Nat} {q : Int} (h : PartsOk l n q) (hl : l ≠ []) : ∀ i, i ≤ l.length → ((runsP l n i).length : Int) = if i < l.length then fiP l i else n := by
  intro i
  induction i with
  | zero => intro _; rw [if_pos (List.length_pos_iff.2 hl), h.zero hl]; rfl
  | succ i ih =>
    intro hi
    have h1 := ih (by omega)
    rw [if_pos (by omega)] at h1
    have h2 := h.step i (by omega)
    have h3 := h.ge i (by omega)
    simp only [runsP, List.length_append, runP, List.length_replicate]
    have e : endP l n i = if i + 1 < l.length then fiP l (i + 1) else n := rfl
    rw [← e]
    omega
theorem spreadL_length {l : List (Int × Int)} {n : Nat} {q : Int} (h : PartsOk l n q) (hl : l ≠ []) : (spreadL l n).length = n := by
  have := h.runs hl l.length (Nat.le_refl _)
  rw [if_neg (by omega)] at this
  unfold spreadL; omega
/-- A selection that is being spread: the runs so far, j numbers of the next one, zeros. -/
def partly (l : List (Int × Int)) (n i j : Nat) : List Int := runsP l n i ++ List.replicate j (xP l i) ++ List.replicate (n - (runsP l n i).length - j) 0
theorem partly_set (l : List (Int × Int)) (n i j : Nat) (h : (runsP l n i).length + j < n) : (partly l n i j).set ((runsP l n i).length + j) (xP l i) = partly l n i (j + 1) := by
  unfold partly
  rw [List.set_append, if_neg (by simp), List.length_append, List.length_replicate, Nat.sub_self]
  rw [show n - (runsP l n i).length - j = (n - (runsP l n i).length - (j + 1)) + 1 by omega, List.replicate_succ, List.set_cons_zero, List.replicate_succ', List.append_assoc, List.append_assoc, List.append_assoc]
  rfl
theorem partly_next {l : List (Int × Int)} {n : Nat} {q : Int} (h : PartsOk l n q) (hl : l ≠ []) (i : Nat) (hi : i < l.length) : partly l n i (endP l n i - fiP l i).toNat = partly l n (i + 1) 0 := by
  have h1 := h.runs hl i (by omega)
  rw [if_pos hi] at h1
  have h2 := h.step i hi
  have h3 := h.ge i hi
  unfold partly
  simp only [runsP, runP, List.length_append, List.length_replicate, List.replicate_zero, List.append_nil]
  congr 2
  omega
theorem partly_end {l : List (Int × Int)} {n : Nat} {q : Int} (h : PartsOk l n q) (hl : l ≠ []) : partly l n l.length 0 = spreadL l n := by
  have := spreadL_length h hl
  unfold spreadL at this
  unfold partly spreadL
  rw [this]; simp
theorem partly_length (l : List (Int × Int)) (n i j : Nat) (h : (runsP l n i).length + j ≤ n) : (partly l n i j).length = n := by
  unfold partly; simp; omega
theorem partly_start (l : List (Int × Int)) (n : Nat) : partly l n 0 0 = List.replicate n 0 := by simp [partly, runsP]
end Go.Proofs.Ythmokldmdcjklaa

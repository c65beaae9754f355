/- simple: Decode (plain). -/
import Derived.Test.YtodjohoonbkklaaSiD
import Derived.Test.YtodjohoonbkklaaSiE
namespace Go.Proofs.Ytodjohoonbkklaa
open Go.RowKit
set_option linter.unusedVariables false
set_option linter.unusedSimpArgs false
/-- Did the steps go? -/
def okT (q : Option (List Int) × Rs) : Bool := q.1.isSome && !q.2.2
/-- Behind the flags. -/
def decG (zs es fl : List Int) (s : Rs) : List (List Pn) × Int :=
  if okT (stepsR zs 2 16 fl 0 s []) = true ∧ okT (stepsR zs 4 32 fl 0 (stepsR zs 2 16 fl 0 s []).2 []) = true then
    (contsE (ptsOf fl ((stepsR zs 2 16 fl 0 s []).1.getD []) ((stepsR zs 4 32 fl 0 (stepsR zs 2 16 fl 0 s []).2 []).1.getD [])) es, 0) else ([], 110)
/-- Behind the instructions. -/
def decF (zs es : List Int) (n : Nat) (s : Rs) : List (List Pn) × Int :=
  if s.2 = true then ([], 110) else match flagsR zs n (n + 1) s [] with
  | none => ([], 110)
  | some q => decG zs es q.1 q.2
/-- Behind the last points' numbers. -/
def decE (zs : List Int) (q : List Int × Int × Rs) : List (List Pn) × Int :=
  if q.2.1 ≠ 0 then ([], q.2.1) else decF zs q.1 (fromE q.1 q.1.length) (stp zs (val zs 2 q.2.2).toNat (stp zs 2 q.2.2))
/-- What any bytes are as a glyph. -/
def decS (zs : List Int) : List (List Pn) × Int :=
  if zs.length = 0 then ([], 0)
  else if (stp zs 2 (0, false)).2 = true ∨ s16 (val zs 2 (0, false)) < 0 then ([], 110)
  else if 256 < s16 (val zs 2 (0, false)) then ([], 100)
  else decE zs (endsR zs (s16 (val zs 2 (0, false))).toNat (-1) (stp zs 8 (stp zs 2 (0, false))) [])
/-- The last points' numbers so far. -/
structure RiseP (l : List Int) (last : Int) : Prop where
  each : ∀ j, j < l.length → 0 ≤ l.getD j 0 ∧ fromE l j ≤ (l.getD j 0).toNat
  mono : ∀ j, j ≤ l.length → fromE l j ≤ fromE l l.length
  top : (fromE l l.length : Int) = last + 1
  le : last ≤ 4095
theorem fromE_app (l : List Int) (x : Int) (j : Nat) (h : j ≤ l.length) : fromE (l ++ [x]) j = fromE l j := by
  cases j with
  | zero => rfl
  | succ j =>
    show ((l ++ [x]).getD j 0).toNat + 1 = (l.getD j 0).toNat + 1
    rw [List.getD_eq_getElem?_getD, List.getElem?_append_left (by omega), ← List.getD_eq_getElem?_getD]
theorem getD_snoc (l : List Int) (x : Int) : (l ++ [x]).getD l.length 0 = x := by
  rw [List.getD_eq_getElem?_getD, List.getElem?_append_right (Nat.le_refl _), Nat.sub_self]; rfl
theorem RiseP.push {l : List Int} {last x : Int} (h : RiseP l last) (h1 : last < x) (h2 : x ≤ 4095) (h0 : 0 ≤ x) : RiseP (l ++ [x]) x := by
  have ht := h.top
  have e1 : fromE (l ++ [x]) (l ++ [x]).length = x.toNat + 1 := by
    rw [List.length_append, List.length_singleton]
    show ((l ++ [x]).getD l.length 0).toNat + 1 = _
    rw [getD_snoc]
  refine ⟨fun j hj => ?_, fun j hj => ?_, by rw [e1]; omega, h2⟩
  · rw [List.length_append, List.length_singleton] at hj
    by_cases e : j < l.length
    · rw [fromE_app l x j (by omega), List.getD_eq_getElem?_getD, List.getElem?_append_left e, ← List.getD_eq_getElem?_getD]
      exact h.each j e
    · obtain rfl : j = l.length := by omega
      rw [fromE_app l x _ (Nat.le_refl _), getD_snoc]
      exact ⟨h0, by omega⟩
  · rw [List.length_append, List.length_singleton] at hj
    rw [e1]
    by_cases e : j ≤ l.length
    · rw [fromE_app l x j e]
      have := h.mono j e
      omega
    · obtain rfl : j = (l ++ [x]).length := by rw [List.length_append, List.length_singleton]; omega
      rw [e1]; exact Nat.le_refl _
theorem RiseP.nil : RiseP [] (-1) := by
  refine ⟨fun j hj => by simp at hj, fun j hj => ?_, by decide, by decide⟩
  have : j = 0 := by simpa using hj
  subst this
  exact Nat.le_refl _
theorem endsR_facts (zs : List Int) (hb : ∀ c ∈ zs, 0 ≤ c ∧ c ≤ 255) : ∀ (n : Nat) (last : Int) (s : Rs) (l : List Int), RiseP l last → (endsR zs n last s l).2.1 = 0 → (endsR zs n last s l).1.length = l.length + n ∧ ∃ la, RiseP (endsR zs n last s l).1 la := by
  intro n
  induction n with
  | zero => intro last s l h _; exact ⟨rfl, last, h⟩
  | succ n ih =>
    intro last s l h h0
    unfold endsR at h0 ⊢
    split
    · rename_i hc; rw [if_pos hc] at h0; simp at h0
    · rename_i hc
      rw [if_neg hc] at h0
      split
      · rename_i hc2; rw [if_pos hc2] at h0; simp at h0
      · rename_i hc2
        rw [if_neg hc2] at h0
        have hv := val_bounds zs 2 s hb
        have := ih _ _ _ (h.push (x := val zs 2 s) (by have : ¬ val zs 2 s ≤ last := fun e => hc (.inr e); omega) (by omega) hv.1) h0
        rw [List.length_append, List.length_singleton] at this
        exact ⟨by omega, this.2⟩
theorem RiseP.rise {l : List Int} {la : Int} (h : RiseP l la) : RiseE l (fromE l l.length) ∧ fromE l l.length ≤ 4096 := by
  have ht := h.top
  have hl := h.le
  refine ⟨fun j hj => ⟨(h.each j hj).1, (h.each j hj).2, ?_⟩, by omega⟩
  have := h.mono (j + 1) hj
  exact this
theorem flagsR_facts (zs : List Int) (hb : ∀ c ∈ zs, 0 ≤ c ∧ c ≤ 255) (n : Nat) : ∀ (f : Nat) (s : Rs) (l : List Int) (q : List Int × Rs), flagsR zs n f s l = some q → l.length ≤ n → (∀ c ∈ l, 0 ≤ c ∧ c < 256) → q.1.length = n ∧ ∀ c ∈ q.1, 0 ≤ c ∧ c < 256 := by
  intro f
  induction f with
  | zero => intro s l q h; cases h
  | succ f ih =>
    intro s l q h hl hc
    unfold flagsR at h
    split at h
    · cases h
      refine ⟨?_, hc⟩
      show l.length = n
      omega
    · split at h
      · cases h
      · rename_i h1 h2
        have hM := flM_bounds zs s hb
        have hv := val_bounds zs 1 s hb
        have e1 : (256 ^ 1 : Nat) = 256 := by decide
        rw [e1] at hv
        refine ih _ _ q h ?_ ?_
        · rw [List.length_append, List.length_replicate]
          have : ¬ ((n : Int) - (l.length : Int) ≤ flM zs s) := fun e => h2 (.inr e)
          omega
        · intro c hcc
          rcases List.mem_append.1 hcc with h3 | h3
          · exact hc c h3
          · have := (List.mem_replicate.1 h3).2
            rw [this]; exact ⟨hv.1, by simpa using hv.2⟩
theorem stepsR_facts (zs : List Int) (sh sa : Int) : ∀ (fl : List Int) (x : Int) (s : Rs) (acc : List Int) (q : List Int), (stepsR zs sh sa fl x s acc).1 = some q → (∀ c ∈ acc, -32768 ≤ c ∧ c ≤ 32767) → q.length = acc.length + fl.length ∧ ∀ c ∈ q, -32768 ≤ c ∧ c ≤ 32767 := by
  intro fl
  induction fl with
  | nil => intro x s acc q h hc; cases h; exact ⟨rfl, hc⟩
  | cons f fl ih =>
    intro x s acc q h hc
    unfold stepsR at h
    split at h
    · rename_i hu
      have := ih _ _ _ q h (fun c hcc => by
        rcases List.mem_append.1 hcc with h3 | h3
        · exact hc c h3
        · obtain rfl : c = _ := by simpa using h3
          unfold unitB at hu; simpa using hu)
      rw [List.length_append, List.length_singleton] at this
      exact ⟨by rw [List.length_cons]; omega, this.2⟩
    · cases h
end Go.Proofs.Ytodjohoonbkklaa

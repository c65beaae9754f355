/- outline: the reference's explicit. (Written by wip/outline/genouu.py.) -/
import Derived.Test.YtodjohoonbkklaaOuT
namespace Go.Proofs.Ytodjohoonbkklaa
open Go.RowKit
set_option linter.unusedVariables false
set_option linter.unusedSimpArgs false
/-- What the reference has laid behind k points (from place f on). -/
def outR (c : List Pn) (f : Nat) (pre : List Pn) : Nat → List Pn
  | 0 => pre
  | k + 1 => outR c f pre k ++ [ringAt c ((f : Int) + k)] ++ (if ((ringAt c ((f : Int) + k)).k = 2 ∧ (ringAt c ((f : Int) + k + 1)).k = 2) ∧ ¬ (k + 1 = c.length ∧ (c.getD f pn0).k = 2) then [midP (ringAt c ((f : Int) + k)) (ringAt c ((f : Int) + k + 1))] else [])
theorem ringAt_lt (c : List Pn) (i : Nat) (h : i < c.length) : ringAt c (i : Int) = c.getD i pn0 := by
  unfold ringAt
  have : (i : Int) % (c.length : Int) = i := Int.emod_eq_of_lt (by omega) (by omega)
  rw [this]; rfl
theorem ringAt_wrap (c : List Pn) (i : Nat) (h1 : c.length ≤ i) (h2 : i < 2 * c.length) : ringAt c (i : Int) = c.getD (i - c.length) pn0 := by
  have h := ringAt_lt c (i - c.length) (by omega)
  rw [← h, ← ring_back c (((i - c.length : Nat)) : Int)]
  congr 1; omega
theorem turn_at (c : List Pn) (k : Nat) (hf : onAt c < c.length) (hk : k < c.length) : (turnP c).getD k pn0 = ringAt c ((onAt c : Int) + k) := by
  unfold turnP; rw [if_pos hf]
  have e : ((onAt c : Int) + k) = ((onAt c + k : Nat) : Int) := by omega
  rw [e, List.getD_eq_getElem?_getD]
  by_cases h : onAt c + k < c.length
  · rw [ringAt_lt c _ h, List.getElem?_append_left (by rw [List.length_drop]; omega), List.getElem?_drop, List.getD_eq_getElem?_getD]
  · rw [ringAt_wrap c _ (by omega) (by omega), List.getElem?_append_right (by rw [List.length_drop]; omega), List.length_drop, List.getElem?_take, if_pos (by omega), List.getD_eq_getElem?_getD]
    congr 2; omega
theorem onAt_k (c : List Pn) (h : onAt c < c.length) : (c.getD (onAt c) pn0).k = 1 := by
  induction c with
  | nil => simp at h
  | cons p l ih =>
    unfold onAt at h ⊢
    split
    · rename_i h1; simpa using h1
    · rename_i h1
      rw [if_neg h1] at h
      simp only [List.length_cons] at h
      simpa using ih (by omega)
theorem outR_on (c : List Pn) (h : onAt c < c.length) : ∀ k, k < c.length → outR c (onAt c) [] (k + 1) = expG (turnP c) k ++ (if k + 1 < c.length ∧ ((turnP c).getD k pn0).k = 2 ∧ ((turnP c).getD (k + 1) pn0).k = 2 then [midP ((turnP c).getD k pn0) ((turnP c).getD (k + 1) pn0)] else []) := by
  intro k
  induction k with
  | zero =>
    intro hk
    have h0 := turn_at c 0 h hk
    have hk1 : ((turnP c).getD 0 pn0).k = 1 := by rw [h0]; have := ringAt_lt c (onAt c) h; simp only [Int.ofNat_zero, Int.add_zero]; first | (rw [this]; exact onAt_k c h) | (simp; rw [this]; exact onAt_k c h)
    rw [outR, outR, ← h0, if_neg (by rw [hk1]; simp), if_neg (by rw [hk1]; simp)]
    rfl
  | succ k ih =>
    intro hk
    have hkk := ih (by omega)
    have h1 := turn_at c (k + 1) h hk
    have e1 : ((onAt c : Int) + ((k + 1 : Nat) : Int)) = (onAt c : Int) + k + 1 := by omega
    rw [outR, hkk, ← h1, expG]
    have hon : ¬ (c.getD (onAt c) pn0).k = 2 := by rw [onAt_k c h]; simp
    have c1 : (k + 1 < c.length ∧ ((turnP c).getD k pn0).k = 2 ∧ ((turnP c).getD (k + 1) pn0).k = 2) = (((turnP c).getD (k + 1) pn0).k = 2 ∧ ((turnP c).getD k pn0).k = 2) := propext ⟨fun x => ⟨x.2.2, x.2.1⟩, fun x => ⟨by omega, x.2, x.1⟩⟩
    simp only [c1]
    have key : (if (((turnP c).getD (k + 1) pn0).k = 2 ∧ (ringAt c ((onAt c : Int) + ((k + 1 : Nat) : Int) + 1)).k = 2) ∧ ¬ (k + 1 + 1 = c.length ∧ (c.getD (onAt c) pn0).k = 2) then [midP ((turnP c).getD (k + 1) pn0) (ringAt c ((onAt c : Int) + ((k + 1 : Nat) : Int) + 1))] else []) = (if k + 1 + 1 < c.length ∧ ((turnP c).getD (k + 1) pn0).k = 2 ∧ ((turnP c).getD (k + 1 + 1) pn0).k = 2 then [midP ((turnP c).getD (k + 1) pn0) ((turnP c).getD (k + 1 + 1) pn0)] else []) := by
      by_cases hl : k + 1 + 1 < c.length
      · have h2 := turn_at c (k + 1 + 1) h hl
        have e2 : ((onAt c : Int) + ((k + 1 : Nat) : Int) + 1) = (onAt c : Int) + ((k + 1 + 1 : Nat) : Int) := by omega
        rw [e2, ← h2]
        have c2 : ((((turnP c).getD (k + 1) pn0).k = 2 ∧ ((turnP c).getD (k + 1 + 1) pn0).k = 2) ∧ ¬ (k + 1 + 1 = c.length ∧ (c.getD (onAt c) pn0).k = 2)) = (k + 1 + 1 < c.length ∧ ((turnP c).getD (k + 1) pn0).k = 2 ∧ ((turnP c).getD (k + 1 + 1) pn0).k = 2) := propext ⟨fun x => ⟨hl, x.1⟩, fun x => ⟨x.2, fun y => hon y.2⟩⟩
        simp only [c2]
      · have h2 : (ringAt c ((onAt c : Int) + ((k + 1 : Nat) : Int) + 1)).k = 1 := by
          have e2 : ((onAt c : Int) + ((k + 1 : Nat) : Int) + 1) = ((onAt c : Int)) + (c.length : Int) := by omega
          rw [e2, ring_back, ringAt_lt c _ h]; exact onAt_k c h
        rw [if_neg (fun x => by rw [h2] at x; exact absurd x.1.2 (by decide)), if_neg (fun x => hl x.1)]
    rw [key]
theorem outR_expC (c : List Pn) (h : onAt c < c.length) : outR c (onAt c) [] c.length = expC c := by
  have hl : (turnP c).length = c.length := by unfold turnP; rw [if_pos h, List.length_append, List.length_drop, List.length_take]; omega
  obtain ⟨n, hn⟩ : ∃ n, c.length = n + 1 := ⟨c.length - 1, by omega⟩
  have := outR_on c h n (by omega)
  rw [hn, this, if_neg (by omega), List.append_nil]
  unfold expC; rw [hl, hn]; rfl
/-- A contour without a point on the outline has control points of one kind alone. -/
theorem quads {c : List Pn} (hm : mayCo c = true) (h : c.length ≤ onAt c) : ∀ i, i < c.length → (c.getD i pn0).k = 2 := by
  obtain ⟨h0, _, h2⟩ := mayCo_facts hm
  have hoff := offTo_onAt c
  have hno : ∀ i, i < c.length → (c.getD i pn0).k ≠ 1 := fun i hi => hoff i (by omega)
  have hring : ∀ i : Int, ((ringAt c i).k == 1) = false := fun i => by
    obtain ⟨k, hk, _, hr⟩ := ring_idx c i h0
    rw [hr]; simpa using hno k hk
  intro i hi
  have := h2 i hi
  unfold mayPn standsB kindsB at this
  have h1 := hno i hi
  simp only [hring, Bool.false_and, Bool.and_false, Bool.or_false, Bool.and_eq_true, Bool.or_eq_true, beq_iff_eq] at this
  rcases this.2.2 with h | h
  · exact absurd h h1
  · simpa using h
theorem expG_succ (c : List Pn) (j : Nat) : expG c (j + 1) = expG c j ++ (if (c.getD (j + 1) pn0).k = 2 ∧ (c.getD j pn0).k = 2 then [midP (c.getD j pn0) (c.getD (j + 1) pn0)] else []) ++ [c.getD (j + 1) pn0] := rfl
theorem outR_none (c : List Pn) (hm : mayCo c = true) (h : c.length ≤ onAt c) : ∀ k, k < c.length → outR c 0 [midP (c.getD (c.length - 1) pn0) (c.getD 0 pn0)] (k + 1) = expG (turnP c) (k + 1) ++ (if k + 1 < c.length then [midP (c.getD k pn0) (c.getD (k + 1) pn0)] else []) := by
  have hq := quads hm h
  have hT : turnP c = midP (c.getD (c.length - 1) pn0) (c.getD 0 pn0) :: c := by unfold turnP; rw [if_neg (by omega)]
  have hTs : ∀ k, (turnP c).getD (k + 1) pn0 = c.getD k pn0 := fun k => by rw [hT]; simp
  have ring0 : ∀ k, k < c.length → ringAt c ((0 : Nat) + (k : Int)) = c.getD k pn0 := fun k hk => by rw [Int.natCast_zero, Int.zero_add]; exact ringAt_lt c k hk
  intro k
  have step : ∀ k, k < c.length → (if ((ringAt c ((0 : Nat) + (k : Int))).k = 2 ∧ (ringAt c ((0 : Nat) + (k : Int) + 1)).k = 2) ∧ ¬ (k + 1 = c.length ∧ (c.getD 0 pn0).k = 2) then [midP (ringAt c ((0 : Nat) + (k : Int))) (ringAt c ((0 : Nat) + (k : Int) + 1))] else []) = (if k + 1 < c.length then [midP (c.getD k pn0) (c.getD (k + 1) pn0)] else []) := by
    intro k hk
    rw [ring0 k hk]
    have e : ((0 : Nat) : Int) + (k : Int) + 1 = (0 : Nat) + ((k + 1 : Nat) : Int) := by omega
    rw [e]
    by_cases hl : k + 1 < c.length
    · rw [ring0 (k + 1) hl, if_pos ⟨⟨hq k hk, hq _ hl⟩, fun x => by omega⟩, if_pos hl]
    · rw [if_neg (fun x => x.2 ⟨by omega, hq 0 (by omega)⟩), if_neg hl]
  induction k with
  | zero =>
    intro hk
    have e0 : expG (turnP c) (0 + 1) = [midP (c.getD (c.length - 1) pn0) (c.getD 0 pn0)] ++ [c.getD 0 pn0] := by
      rw [expG_succ, hTs, if_neg (fun x => by rw [hT] at x; exact absurd x.2 (by simp [midP])), List.append_nil, hT]; rfl
    rw [outR, outR, step 0 hk, ring0 0 hk, e0]
  | succ k ih =>
    intro hk
    have e1 : expG (turnP c) (k + 1 + 1) = expG (turnP c) (k + 1) ++ [midP (c.getD k pn0) (c.getD (k + 1) pn0)] ++ [c.getD (k + 1) pn0] := by
      rw [expG_succ, hTs, hTs, if_pos ⟨hq _ hk, hq _ (by omega)⟩]
    rw [outR, ih (by omega), step (k + 1) hk, ring0 (k + 1) hk, e1, if_pos (show k + 1 < c.length by omega)]
theorem outR_expC0 (c : List Pn) (hm : mayCo c = true) (h : c.length ≤ onAt c) : outR c 0 [midP (c.getD (c.length - 1) pn0) (c.getD 0 pn0)] c.length = expC c := by
  obtain ⟨h0, _⟩ := mayCo_facts hm
  obtain ⟨n, hn⟩ : ∃ n, c.length = n + 1 := ⟨c.length - 1, by omega⟩
  have := outR_none c hm h n (by omega)
  have hl : (turnP c).length = c.length + 1 := by unfold turnP; rw [if_neg (by omega)]; simp
  unfold expC
  rw [hl, Nat.add_sub_cancel]
  conv => lhs; rw [hn]
  rw [hn] at this ⊢
  rw [this, if_neg (by omega), List.append_nil]
theorem outR_len (c : List Pn) (f : Nat) (pre : List Pn) (k : Nat) : (outR c f pre k).length ≤ pre.length + 2 * k := by
  induction k with
  | zero => simp [outR]
  | succ k ih => unfold outR; simp only [List.length_append, List.length_cons, List.length_nil]; split <;> simp <;> omega
end Go.Proofs.Ytodjohoonbkklaa

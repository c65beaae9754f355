/- outline: the curves of an explicit contour (plain) · outline: the program's curve. (Written by wip/outline/genovm.py.) · outline: curves in rows; the program's curve in one word · outline: the reference's Curves. (Written by wip/outline/genovo.py.). (Merged by wip/tools/mergetpl.py out of OvL, OvM, OvN, OvO.) -/
import Derived.Test.YtpbmefojhgcniaaOmE
import Derived.Deep.DeepCutAuto
import Derived.Test.YtpbmefojhgcniaaInv
import Derived.Deep.RegionHeld3
import Derived.Test.YtpbmefojhgcniaaPlan
namespace Go.Proofs.Ytpbmefojhgcniaa
open Go.RowKit
set_option linter.unusedVariables false
set_option linter.unusedSimpArgs false
theorem turnP_head (c : List Pn) (h0 : 0 < c.length) : ((turnP c).getD 0 pn0).k = 1 := by
  by_cases h : onAt c < c.length
  · rw [turn_at c 0 h h0]
    have := ringAt_lt c (onAt c) h
    simp only [Int.ofNat_zero, Int.add_zero]
    first | (rw [this]; exact onAt_k c h) | (simp; rw [this]; exact onAt_k c h)
  · unfold turnP; rw [if_neg h]; rfl
theorem expO_at (o : List (List Pn)) (j : Nat) (h : j < o.length) : (expO o).getD j [] = expC (o.getD j []) := by
  unfold expO
  rw [List.getD_eq_getElem?_getD, List.getElem?_map, List.getElem?_eq_getElem h, List.getD_eq_getElem?_getD, List.getElem?_eq_getElem h]; rfl
/-- A contour as it is read point by point: 0: a point on the outline is to come; 1: behind one; 2: behind a quadratic one's control point; 3, 4: behind the first, the second of a cubic one's. -/
def okS : Nat → List Pn → Bool
  | 0, [] => true
  | 0, p :: l => p.k == 1 && okS 1 l
  | 1, [] => true
  | 1, p :: l => (p.k == 1 && okS 1 l) || ((p.k == 2 && okS 2 l) || (p.k == 3 && okS 3 l))
  | 2, [] => true
  | 2, p :: l => (p.k == 1 && okS 1 l) || (p.k == 2 && okS 2 l)
  | 3, [] => false
  | 3, p :: l => p.k == 3 && okS 4 l
  | 4, [] => true
  | 4, p :: l => p.k == 1 && okS 1 l
  | _, _ => false
/-- The same without two quadratic ones side by side. -/
def okE : Nat → List Pn → Bool
  | 0, [] => true
  | 0, p :: l => p.k == 1 && okE 1 l
  | 1, [] => true
  | 1, p :: l => (p.k == 1 && okE 1 l) || ((p.k == 2 && okE 2 l) || (p.k == 3 && okE 3 l))
  | 2, [] => true
  | 2, p :: l => p.k == 1 && okE 1 l
  | 3, [] => false
  | 3, p :: l => p.k == 3 && okE 4 l
  | 4, [] => true
  | 4, p :: l => p.k == 1 && okE 1 l
  | _, _ => false
/-- What is laid behind a point. -/
def expT : Pn → List Pn → List Pn
  | _, [] => []
  | p, q :: l => (if q.k = 2 ∧ p.k = 2 then [midP p q] else []) ++ q :: expT q l
theorem okE_exp : ∀ (l : List Pn) (p : Pn) (st : Nat), (st = 1 ∨ st = 2 ∨ st = 3 ∨ st = 4) → (st = 2 ↔ p.k = 2) → okS st l = true → okE st (expT p l) = true := by
  intro l
  induction l with
  | nil =>
    intro p st hst _ h
    rcases hst with rfl | rfl | rfl | rfl <;> simp_all [okS, okE, expT]
  | cons q l ih =>
    intro p st hst hp h
    unfold expT
    rcases hst with rfl | rfl | rfl | rfl
    · rw [if_neg (fun x => by have := hp.2 x.2; omega)]
      simp only [okS, Bool.or_eq_true, Bool.and_eq_true, beq_iff_eq] at h
      simp only [List.nil_append, okE, Bool.or_eq_true, Bool.and_eq_true, beq_iff_eq]
      rcases h with ⟨h1, h2⟩ | ⟨h1, h2⟩ | ⟨h1, h2⟩
      · exact .inl ⟨h1, ih q 1 (by simp) (by simp [h1]) h2⟩
      · exact .inr (.inl ⟨h1, ih q 2 (by simp) (by simp [h1]) h2⟩)
      · exact .inr (.inr ⟨h1, ih q 3 (by simp) (by simp [h1]) h2⟩)
    · simp only [okS, Bool.or_eq_true, Bool.and_eq_true, beq_iff_eq] at h
      rcases h with ⟨h1, h2⟩ | ⟨h1, h2⟩
      · rw [if_neg (fun x => by rw [h1] at x; exact absurd x.1 (by decide))]
        simp only [List.nil_append, okE, Bool.and_eq_true, beq_iff_eq]
        exact ⟨h1, ih q 1 (by simp) (by simp [h1]) h2⟩
      · rw [if_pos ⟨h1, hp.1 rfl⟩]
        simp only [List.cons_append, List.nil_append, okE, Bool.or_eq_true, Bool.and_eq_true, beq_iff_eq]
        exact ⟨rfl, .inr (.inl ⟨h1, ih q 2 (by simp) (by simp [h1]) h2⟩)⟩
    · rw [if_neg (fun x => by have := hp.2 x.2; omega)]
      simp only [okS, Bool.and_eq_true, beq_iff_eq] at h
      simp only [List.nil_append, okE, Bool.and_eq_true, beq_iff_eq]
      exact ⟨h.1, ih q 4 (by simp) (by simp [h.1]) h.2⟩
    · rw [if_neg (fun x => by have := hp.2 x.2; omega)]
      simp only [okS, Bool.and_eq_true, beq_iff_eq] at h
      simp only [List.nil_append, okE, Bool.and_eq_true, beq_iff_eq]
      exact ⟨h.1, ih q 1 (by simp) (by simp [h.1]) h.2⟩
theorem expS_snoc : ∀ (l : List Pn) (p q : Pn), expT p (l ++ [q]) = expT p l ++ ((if q.k = 2 ∧ ((p :: l).getD l.length pn0).k = 2 then [midP ((p :: l).getD l.length pn0) q] else []) ++ [q]) := by
  intro l
  induction l with
  | nil => intro p q; simp [expT]
  | cons r l ih =>
    intro p q
    rw [List.cons_append, expT, ih r q, expT, List.append_assoc, List.cons_append]
    simp
theorem expG_S (T : List Pn) : ∀ j, j < T.length → expG T j = T.getD 0 pn0 :: expT (T.getD 0 pn0) ((T.drop 1).take j) := by
  intro j
  induction j with
  | zero => intro hj; simp [expG, expT]
  | succ j ih =>
    intro hj
    have hd : j < (T.drop 1).length := by rw [List.length_drop]; omega
    have h1 : (T.drop 1)[j] = T.getD (j + 1) pn0 := by
      rw [List.getElem_drop, List.getD_eq_getElem?_getD, List.getElem?_eq_getElem (by omega)]
      simp [Nat.add_comm]
    rw [expG_succ, ih (by omega), List.take_succ_eq_append_getElem hd, h1, expS_snoc]
    have h2 : ((T.getD 0 pn0 :: (T.drop 1).take j).getD ((T.drop 1).take j).length pn0) = T.getD j pn0 := by
      have hl : ((T.drop 1).take j).length = j := by rw [List.length_take]; omega
      rw [hl]
      cases j with
      | zero => rfl
      | succ j =>
        rw [List.getD_eq_getElem?_getD, List.getElem?_cons_succ, List.getElem?_take, if_pos (by omega), List.getElem?_drop, List.getD_eq_getElem?_getD, Nat.add_comm]
    rw [h2]
    simp [List.append_assoc]
theorem expC_S (c : List Pn) (h0 : 0 < c.length) : expC c = (turnP c).getD 0 pn0 :: expT ((turnP c).getD 0 pn0) ((turnP c).drop 1) := by
  have hT := turnP_len c h0
  unfold expC
  rw [expG_S (turnP c) _ (by omega), List.take_of_length_le (by rw [List.length_drop]; omega)]
/-- The kinds that stand side by side in a list, its beginning behind its end. -/
structure Loc (k : Nat → Int) (n : Nat) : Prop where
  kind : ∀ i, i < n → k i = 1 ∨ k i = 2 ∨ k i = 3
  cub : ∀ i, i < n → k i = 1 → k (i + 1) = 3 → k (i + 2) = 3 ∧ k (i + 3) = 1
  quad : ∀ i, i < n → k i = 2 → k (i + 1) ≠ 3
  cub2 : ∀ i, i < n → k i = 3 → k (i + 1) = 3 → k (i + 2) = 1
  cub3 : ∀ i, i < n → k i = 3 → k (i + 1) = 3 ∨ k (i + 1) = 1
/-- The state behind a point. -/
def stOf (a b : Int) : Nat := if a = 1 then 1 else if a = 2 then 2 else if b = 3 then 3 else 4
theorem st1 (x : Int) : stOf 1 x = 1 := if_pos rfl
theorem st2 (x : Int) : stOf 2 x = 2 := by unfold stOf; rw [if_neg (by decide), if_pos rfl]
theorem st33 : stOf 3 3 = 3 := rfl
theorem st31 : stOf 3 1 = 4 := rfl
theorem okS_loc (k : Nat → Int) (n : Nat) (h : Loc k n) (hn : k n = 1) (T : List Pn) (hT : T.length = n) (hk : ∀ i, i < n → (T.getD i pn0).k = k i) :
    ∀ d j, j + d = n → 1 ≤ j → (k (j - 1) = 3 → k j = 3 → 2 ≤ j ∧ k (j - 2) = 1) → okS (stOf (k (j - 1)) (k j)) (T.drop j) = true := by
  intro d
  induction d with
  | zero =>
    intro j hj h1 _
    have : T.drop j = [] := List.drop_eq_nil_of_le (by omega)
    rw [this]
    obtain rfl : j = n := by omega
    unfold stOf
    rw [hn]
    rcases h.kind (j - 1) (by omega) with e | e | e <;> rw [e] <;> decide
  | succ d ih =>
    intro j hj h1 hc
    have hjT : j < T.length := by omega
    have hcons : T.drop j = T.getD j pn0 :: T.drop (j + 1) := by
      rw [List.drop_eq_getElem_cons hjT, List.getD_eq_getElem?_getD, List.getElem?_eq_getElem hjT]; rfl
    have hkj := hk j (by omega)
    rw [hcons]
    have e1 : j - 1 + 1 = j := by omega
    have e2 : j - 1 + 2 = j + 1 := by omega
    have e3 : j - 1 + 3 = j + 2 := by omega
    have q1 := h.cub (j - 1) (by omega)
    have q2 := h.quad (j - 1) (by omega)
    have q3 := h.cub2 (j - 1) (by omega)
    have q4 := h.cub3 (j - 1) (by omega)
    have q5 := h.cub3 j (by omega)
    rw [e1, e2, e3] at q1
    rw [e1] at q2 q4
    rw [e1, e2] at q3
    have hn2 := ih (j + 1) (by omega) (by omega) (by
      rw [Nat.add_sub_cancel, show j + 1 - 2 = j - 1 by omega]
      intro a b
      refine ⟨by omega, ?_⟩
      rcases h.kind (j - 1) (by omega) with e | e | e
      · exact e
      · exact absurd a (q2 e)
      · have := q3 e a; rw [this] at b; exact absurd b (by decide))
    rw [Nat.add_sub_cancel] at hn2
    rcases h.kind (j - 1) (by omega) with e | e | e
    · rcases h.kind j (by omega) with f | f | f
      · rw [f] at hkj hn2
        rw [e, st1]
        rw [st1] at hn2
        simp only [okS, hkj, hn2]; simp
      · rw [f] at hkj hn2
        rw [e, st1]
        rw [st2] at hn2
        simp only [okS, hkj, hn2]; simp
      · have := (q1 e f).1
        rw [f, this, st33] at hn2
        rw [f] at hkj
        rw [e, st1]
        simp only [okS, hkj, hn2]; simp
    · rcases h.kind j (by omega) with f | f | f
      · rw [f] at hkj hn2
        rw [e, st2]
        rw [st1] at hn2
        simp only [okS, hkj, hn2]; simp
      · rw [f] at hkj hn2
        rw [e, st2]
        rw [st2] at hn2
        simp only [okS, hkj, hn2]; simp
      · exact absurd f (q2 e)
    · rcases q4 e with f | f
      · have hg := q3 e f
        rw [f, hg, st31] at hn2
        rw [f] at hkj
        rw [e, f, st33]
        simp only [okS, hkj, hn2]; simp
      · rw [f] at hkj hn2
        rw [e, f, st31]
        rw [st1] at hn2
        simp only [okS, hkj, hn2]; simp
theorem ring_shift (c : List Pn) (i d : Int) : ringAt c (i % (c.length : Int) + d) = ringAt c (i + d) := by
  unfold ringAt; rw [Int.emod_add_emod]
theorem may_ring {c : List Pn} (h : mayCo c = true) (i : Int) : (ringAt c i).k = 1 ∨ (ringAt c i).k = 2 ∨ ((ringAt c i).k = 3 ∧ (((ringAt c (i - 1)).k = 1 ∧ (ringAt c (i + 1)).k = 3 ∧ (ringAt c (i + 2)).k = 1) ∨ ((ringAt c (i + 1)).k = 1 ∧ (ringAt c (i - 1)).k = 3 ∧ (ringAt c (i - 2)).k = 1))) := by
  obtain ⟨h0, _, h2⟩ := mayCo_facts h
  obtain ⟨m, hm, hmod, hr⟩ := ring_idx c i h0
  have h3 := h2 m hm
  unfold mayPn standsB kindsB at h3
  rw [← hr] at h3
  have s1 : ringAt c ((m : Int) - 1) = ringAt c (i - 1) := by rw [← hmod]; exact ring_shift c i (-1)
  have s2 : ringAt c ((m : Int) + 1) = ringAt c (i + 1) := by rw [← hmod]; exact ring_shift c i 1
  have s3 : ringAt c ((m : Int) + 2) = ringAt c (i + 2) := by rw [← hmod]; exact ring_shift c i 2
  have s4 : ringAt c ((m : Int) - 2) = ringAt c (i - 2) := by rw [← hmod]; exact ring_shift c i (-2)
  rw [s1, s2, s3, s4] at h3
  simp only [Bool.and_eq_true, Bool.or_eq_true, beq_iff_eq, decide_eq_true_eq] at h3
  rcases h3.2.2 with h | h | ⟨h, _, h4⟩
  · exact .inl h
  · exact .inr (.inl h)
  · exact .inr (.inr ⟨h, h4⟩)
theorem loc_of {c : List Pn} (h : mayCo c = true) (f : Int) (n : Nat) : Loc (fun i => (ringAt c (f + (i : Nat))).k) n := by
  have key := fun i : Nat => may_ring h (f + i)
  have a1 : ∀ i : Nat, f + ((i + 1 : Nat) : Int) - 1 = f + i := fun i => by omega
  have a2 : ∀ i : Nat, f + ((i + 1 : Nat) : Int) + 1 = f + ((i + 2 : Nat) : Int) := fun i => by omega
  have a3 : ∀ i : Nat, f + ((i + 1 : Nat) : Int) + 2 = f + ((i + 3 : Nat) : Int) := fun i => by omega
  have a4 : ∀ i : Nat, f + (i : Int) + 1 = f + ((i + 1 : Nat) : Int) := fun i => by omega
  refine ⟨fun i _ => ?_, fun i _ h1 h2 => ?_, fun i _ h1 h2 => ?_, fun i _ h1 h2 => ?_, fun i _ h1 => ?_⟩
  · rcases key i with h | h | ⟨h, _⟩
    · exact .inl h
    · exact .inr (.inl h)
    · exact .inr (.inr h)
  · rcases key (i + 1) with e | e | ⟨_, ⟨_, e2, e3⟩ | ⟨_, e2, _⟩⟩
    · rw [e] at h2; exact absurd h2 (by decide)
    · rw [e] at h2; exact absurd h2 (by decide)
    · rw [a2] at e2; rw [a3] at e3; exact ⟨e2, e3⟩
    · rw [a1] at e2; rw [e2] at h1; exact absurd h1 (by decide)
  · rcases key (i + 1) with e | e | ⟨_, ⟨e2, _, _⟩ | ⟨_, e2, _⟩⟩
    · rw [e] at h2; exact absurd h2 (by decide)
    · rw [e] at h2; exact absurd h2 (by decide)
    · rw [a1] at e2; rw [e2] at h1; exact absurd h1 (by decide)
    · rw [a1] at e2; rw [e2] at h1; exact absurd h1 (by decide)
  · rcases key (i + 1) with e | e | ⟨_, ⟨e2, _, _⟩ | ⟨e3, e2, _⟩⟩
    · rw [e] at h2; exact absurd h2 (by decide)
    · rw [e] at h2; exact absurd h2 (by decide)
    · rw [a1] at e2; rw [e2] at h1; exact absurd h1 (by decide)
    · rw [a2] at e3; exact e3
  · rcases key i with e | e | ⟨_, ⟨_, e2, _⟩ | ⟨e2, _, _⟩⟩
    · rw [e] at h1; exact absurd h1 (by decide)
    · rw [e] at h1; exact absurd h1 (by decide)
    · rw [a4] at e2; exact .inl e2
    · rw [a4] at e2; exact .inr e2
theorem okS_quads (l : List Pn) (h : ∀ i, i < l.length → (l.getD i pn0).k = 2) : okS 2 l = true := by
  induction l with
  | nil => rfl
  | cons p l ih =>
    have h0 : p.k = 2 := h 0 (by simp)
    have h1 := ih (fun i hi => h (i + 1) (by simpa using hi))
    simp only [okS, h0, h1]; simp
/-- An explicit contour goes from curve to curve. -/
theorem okE_expC {c : List Pn} (h : mayCo c = true) : okE 0 (expC c) = true := by
  obtain ⟨h0, _, _⟩ := mayCo_facts h
  have hT := turnP_len c h0
  have hhead := turnP_head c h0
  rw [expC_S c h0]
  have hS : okS 1 ((turnP c).drop 1) = true := by
    by_cases hf : onAt c < c.length
    · have hlen : (turnP c).length = c.length := by unfold turnP; rw [if_pos hf, List.length_append, List.length_drop, List.length_take]; omega
      have hk0 : (ringAt c ((onAt c : Int) + ((0 : Nat) : Int))).k = 1 := by rw [← turn_at c 0 hf h0]; exact hhead
      have hkn : (ringAt c ((onAt c : Int) + ((c.length : Nat) : Int))).k = 1 := by
        rw [ring_back]; simpa using hk0
      have := okS_loc (fun i => (ringAt c ((onAt c : Int) + (i : Nat))).k) c.length (loc_of h _ _) hkn (turnP c) hlen (fun i hi => by rw [turn_at c i hf hi]) (c.length - 1) 1 (by omega) (Nat.le_refl _) (fun a => by
        rw [Nat.sub_self] at a; rw [hk0] at a; exact absurd a (by decide))
      rw [Nat.sub_self, hk0, st1] at this
      exact this
    · have hT2 : turnP c = midP (c.getD (c.length - 1) pn0) (c.getD 0 pn0) :: c := by unfold turnP; rw [if_neg hf]
      rw [hT2]
      have hq := quads h (by omega)
      match c, h0, hq with
      | p :: l, _, hq =>
        have e0 : p.k = 2 := hq 0 (by simp)
        have := okS_quads l (fun i hi => hq (i + 1) (by simpa using hi))
        show okS 1 (p :: l) = true
        simp only [okS, e0, this]; simp
  have hE := okE_exp _ _ 1 (.inl rfl) (by rw [hhead]; decide) hS
  simp only [okE, hhead, hE]; rfl
theorem okE_at : ∀ (l : List Pn) (st : Nat), (st = 0 ∨ st = 1 ∨ st = 2 ∨ st = 3 ∨ st = 4) → okE st l = true → ∀ i, i < l.length → ((l.getD i pn0).k = 1 → okE 1 (l.drop (i + 1)) = true) ∧ ((l.getD i pn0).k = 1 ∨ (l.getD i pn0).k = 2 ∨ (l.getD i pn0).k = 3) := by
  intro l
  induction l with
  | nil => intro st _ _ i hi; simp at hi
  | cons p l ih =>
    intro st hst h i hi
    have next : ∃ st', (st' = 0 ∨ st' = 1 ∨ st' = 2 ∨ st' = 3 ∨ st' = 4) ∧ okE st' l = true ∧ (p.k = 1 → st' = 1) ∧ (p.k = 1 ∨ p.k = 2 ∨ p.k = 3) := by
      rcases hst with rfl | rfl | rfl | rfl | rfl <;> simp only [okE, Bool.or_eq_true, Bool.and_eq_true, beq_iff_eq] at h
      · exact ⟨1, by simp, h.2, fun _ => rfl, .inl h.1⟩
      · rcases h with ⟨h1, h2⟩ | ⟨h1, h2⟩ | ⟨h1, h2⟩
        · exact ⟨1, by simp, h2, fun _ => rfl, .inl h1⟩
        · exact ⟨2, by simp, h2, fun e => by rw [h1] at e; exact absurd e (by decide), .inr (.inl h1)⟩
        · exact ⟨3, by simp, h2, fun e => by rw [h1] at e; exact absurd e (by decide), .inr (.inr h1)⟩
      · exact ⟨1, by simp, h.2, fun _ => rfl, .inl h.1⟩
      · exact ⟨4, by simp, h.2, fun e => by rw [h.1] at e; exact absurd e (by decide), .inr (.inr h.1)⟩
      · exact ⟨1, by simp, h.2, fun _ => rfl, .inl h.1⟩
    obtain ⟨st', h1, h2, h3, h4⟩ := next
    cases i with
    | zero => exact ⟨fun e => by have h5 := h3 e; subst h5; exact h2, h4⟩
    | succ i =>
      have := ih st' h1 h2 i (by simpa using hi)
      simpa using this
/-- How many points on a curve's end is. -/
def stepN (e : List Pn) (i : Nat) : Nat := if (ringAt e ((i : Int) + 1)).k = 2 then 2 else if (ringAt e ((i : Int) + 1)).k = 3 then 3 else 1
theorem drop_nil_or (e : List Pn) (j : Nat) (hj : j ≤ e.length) : e.drop j = [] ∧ j = e.length ∨ j < e.length ∧ e.drop j = e.getD j pn0 :: e.drop (j + 1) := by
  by_cases h : j < e.length
  · refine .inr ⟨h, ?_⟩
    rw [List.drop_eq_getElem_cons h, List.getD_eq_getElem?_getD, List.getElem?_eq_getElem h]; rfl
  · exact .inl ⟨List.drop_eq_nil_of_le (by omega), by omega⟩
theorem step_facts {e : List Pn} (h : okE 0 e = true) {i : Nat} (hi : i < e.length) (hk : (e.getD i pn0).k = 1) :
    i + stepN e i ≤ e.length ∧ (∀ t, i < t → t < i + stepN e i → (e.getD t pn0).k ≠ 1) ∧ (i + stepN e i < e.length → (e.getD (i + stepN e i) pn0).k = 1) ∧ ((ringAt e ((i : Int) + 1)).k = 1 ∨ (ringAt e ((i : Int) + 1)).k = 2 ∨ (ringAt e ((i : Int) + 1)).k = 3) := by
  have h1 := ((okE_at e 0 (by simp) h i hi).1 hk)
  have hh : (e.getD 0 pn0).k = 1 := by
    match e, h, hi with
    | p :: l, h, _ =>
      simp only [okE, Bool.and_eq_true, beq_iff_eq] at h
      exact h.1
  have r0 : (ringAt e ((e.length : Nat) : Int)).k = 1 := by
    have := ringAt_wrap e e.length (Nat.le_refl _) (by omega)
    rw [this, Nat.sub_self]; exact hh
  have ei : ((i : Int) + 1) = ((i + 1 : Nat) : Int) := by omega
  unfold stepN
  rw [ei]
  rcases drop_nil_or e (i + 1) (by omega) with ⟨d1, l1⟩ | ⟨l1, d1⟩
  · rw [← l1] at r0
    rw [r0, if_neg (by decide), if_neg (by decide)]
    exact ⟨by omega, fun t a b => by omega, fun a => by omega, .inl rfl⟩
  · have r1 := ringAt_lt e (i + 1) l1
    rw [r1]
    rw [d1] at h1
    simp only [okE, Bool.or_eq_true, Bool.and_eq_true, beq_iff_eq] at h1
    rcases h1 with ⟨a, b⟩ | ⟨a, b⟩ | ⟨a, b⟩
    · rw [a, if_neg (by decide), if_neg (by decide)]
      exact ⟨by omega, fun t x y => by omega, fun _ => a, .inl rfl⟩
    · rw [a, if_pos rfl]
      refine ⟨by omega, fun t x y => ?_, fun l2 => ?_, .inr (.inl rfl)⟩
      · obtain rfl : t = i + 1 := by omega
        rw [a]; decide
      · rcases drop_nil_or e (i + 1 + 1) (by omega) with ⟨_, l3⟩ | ⟨l3, d3⟩
        · omega
        · rw [d3] at b
          simp only [okE, Bool.and_eq_true, beq_iff_eq] at b
          exact b.1
    · rw [a, if_neg (by decide), if_pos rfl]
      rcases drop_nil_or e (i + 1 + 1) (by omega) with ⟨d3, _⟩ | ⟨l3, d3⟩
      · rw [d3] at b; simp [okE] at b
      · rw [d3] at b
        simp only [okE, Bool.and_eq_true, beq_iff_eq] at b
        refine ⟨by omega, fun t x y => ?_, fun l4 => ?_, .inr (.inr rfl)⟩
        · rcases (show t = i + 1 ∨ t = i + 1 + 1 by omega) with rfl | rfl
          · rw [a]; decide
          · rw [b.1]; decide
        · rcases drop_nil_or e (i + 1 + 1 + 1) (by omega) with ⟨_, l5⟩ | ⟨l5, d5⟩
          · omega
          · have b2 := b.2
            rw [d5] at b2
            simp only [okE, Bool.and_eq_true, beq_iff_eq] at b2
            exact b2.1
/-- A curve. -/
structure Cv where
  k : Int
  a : Pn
  b : Pn
  c : Pn
  d : Pn
deriving DecidableEq
def cvCells (q : Cv) : Array Value := #[.int .i64 q.k, .int .i64 q.a.x, .int .i64 q.a.y, .int .i64 q.a.k, .int .i64 q.b.x, .int .i64 q.b.y, .int .i64 q.b.k, .int .i64 q.c.x, .int .i64 q.c.y, .int .i64 q.c.k, .int .i64 q.d.x, .int .i64 q.d.y, .int .i64 q.d.k]
def cvV (q : Cv) : Value := .agg (cvCells q)
/-- The curve that begins at a place. -/
def cvAt (e : List Pn) (i : Nat) : Cv :=
  if (ringAt e ((i : Int) + 1)).k = 2 then ⟨2, e.getD i pn0, ringAt e ((i : Int) + 1), pn0, ringAt e ((i : Int) + 2)⟩
  else if (ringAt e ((i : Int) + 1)).k = 3 then ⟨3, e.getD i pn0, ringAt e ((i : Int) + 1), ringAt e ((i : Int) + 2), ringAt e ((i : Int) + 3)⟩
  else ⟨1, e.getD i pn0, pn0, pn0, ringAt e ((i : Int) + 1)⟩
theorem cvAt_a (e : List Pn) (i : Nat) : (cvAt e i).a = e.getD i pn0 := by unfold cvAt; split <;> (try split) <;> rfl
theorem cvAt_d (e : List Pn) (i : Nat) : (cvAt e i).d = ringAt e ((i : Int) + (stepN e i : Nat)) := by
  unfold cvAt stepN; split
  · rfl
  · split <;> rfl
/-- The curves that begin ahead of a place. -/
def refTo (e : List Pn) : Nat → List Cv
  | 0 => []
  | k + 1 => refTo e k ++ (if (e.getD k pn0).k = 1 then [cvAt e k] else [])
theorem refTo_skip (e : List Pn) (i : Nat) : ∀ d, (∀ t, i < t → t < i + 1 + d → (e.getD t pn0).k ≠ 1) → refTo e (i + 1 + d) = refTo e (i + 1) := by
  intro d
  induction d with
  | zero => intro _; rfl
  | succ d ih =>
    intro h
    rw [show i + 1 + (d + 1) = (i + 1 + d) + 1 by omega, refTo, if_neg (h (i + 1 + d) (by omega) (by omega)), List.append_nil]
    exact ih (fun t a b => h t a (by omega))
theorem refTo_step {e : List Pn} (h : okE 0 e = true) {i : Nat} (hi : i < e.length) (hk : (e.getD i pn0).k = 1) : refTo e (i + stepN e i) = refTo e i ++ [cvAt e i] := by
  obtain ⟨_, h2, _, _⟩ := step_facts h hi hk
  have h1 : 1 ≤ stepN e i := by unfold stepN; split <;> (try split) <;> omega
  obtain ⟨d, hd⟩ : ∃ d, i + stepN e i = i + 1 + d := ⟨stepN e i - 1, by omega⟩
  rw [hd] at h2 ⊢
  rw [refTo_skip e i d h2, refTo, if_pos hk]
/-- The curves of the first j contours. -/
def curvesTo (o : List (List Pn)) : Nat → List Cv
  | 0 => []
  | j + 1 => curvesTo o j ++ refTo (o.getD j []) (o.getD j []).length
end Go.Proofs.Ytpbmefojhgcniaa
namespace Go.Proofs.Ytpbmefojhgcniaa
open Go.RowKit
set_option linter.unusedVariables false
set_option linter.unusedSimpArgs false
/-- A curve lies in block R. -/
def CvAt (W : World) (R : Nat) (q : Cv) : Prop := W.heap[R]? = some (.cells (cvCells q) 75)
theorem CvAt.kp {S : List Nat} {W W' : World} {R : Nat} {q : Cv} (h : CvAt W R q) (hk : Kp S W W') (hR : R ∉ S) : CvAt W' R q := hk.heap h hR
theorem CvAt.cells {W : World} {R : Nat} {q : Cv} (h : CvAt W R q) : W.cell? ⟨R, 0, none⟩ = some (.int .i64 q.k) ∧ W.cell? ⟨R, 1, none⟩ = some (.int .i64 q.a.x) ∧ W.cell? ⟨R, 2, none⟩ = some (.int .i64 q.a.y) ∧ W.cell? ⟨R, 3, none⟩ = some (.int .i64 q.a.k) ∧ W.cell? ⟨R, 4, none⟩ = some (.int .i64 q.b.x) ∧ W.cell? ⟨R, 5, none⟩ = some (.int .i64 q.b.y) ∧ W.cell? ⟨R, 6, none⟩ = some (.int .i64 q.b.k) ∧ W.cell? ⟨R, 7, none⟩ = some (.int .i64 q.c.x) ∧ W.cell? ⟨R, 8, none⟩ = some (.int .i64 q.c.y) ∧ W.cell? ⟨R, 9, none⟩ = some (.int .i64 q.c.k) ∧ W.cell? ⟨R, 10, none⟩ = some (.int .i64 q.d.x) ∧ W.cell? ⟨R, 11, none⟩ = some (.int .i64 q.d.y) ∧ W.cell? ⟨R, 12, none⟩ = some (.int .i64 q.d.k) := by
  refine ⟨?_, ?_, ?_, ?_, ?_, ?_, ?_, ?_, ?_, ?_, ?_, ?_, ?_⟩
  · rw [cell_of_row W R 0 _ _ (0, 0) h]; rfl
  · rw [cell_of_row W R 1 _ _ (0, 0) h]; rfl
  · rw [cell_of_row W R 2 _ _ (0, 0) h]; rfl
  · rw [cell_of_row W R 3 _ _ (0, 0) h]; rfl
  · rw [cell_of_row W R 4 _ _ (0, 0) h]; rfl
  · rw [cell_of_row W R 5 _ _ (0, 0) h]; rfl
  · rw [cell_of_row W R 6 _ _ (0, 0) h]; rfl
  · rw [cell_of_row W R 7 _ _ (0, 0) h]; rfl
  · rw [cell_of_row W R 8 _ _ (0, 0) h]; rfl
  · rw [cell_of_row W R 9 _ _ (0, 0) h]; rfl
  · rw [cell_of_row W R 10 _ _ (0, 0) h]; rfl
  · rw [cell_of_row W R 11 _ _ (0, 0) h]; rfl
  · rw [cell_of_row W R 12 _ _ (0, 0) h]; rfl
theorem CvAt.frozen {W : World} {R : Nat} {q : Cv} (h : CvAt W R q) : W.frozen? ⟨R, 0, none⟩ = false ∧ W.frozen? ⟨R, 1, none⟩ = false ∧ W.frozen? ⟨R, 2, none⟩ = false ∧ W.frozen? ⟨R, 3, none⟩ = false ∧ W.frozen? ⟨R, 4, none⟩ = false ∧ W.frozen? ⟨R, 5, none⟩ = false ∧ W.frozen? ⟨R, 6, none⟩ = false ∧ W.frozen? ⟨R, 7, none⟩ = false ∧ W.frozen? ⟨R, 8, none⟩ = false ∧ W.frozen? ⟨R, 9, none⟩ = false ∧ W.frozen? ⟨R, 10, none⟩ = false ∧ W.frozen? ⟨R, 11, none⟩ = false ∧ W.frozen? ⟨R, 12, none⟩ = false :=
  ⟨frozen_of_row W R 0 _ _ h, frozen_of_row W R 1 _ _ h, frozen_of_row W R 2 _ _ h, frozen_of_row W R 3 _ _ h, frozen_of_row W R 4 _ _ h, frozen_of_row W R 5 _ _ h, frozen_of_row W R 6 _ _ h, frozen_of_row W R 7 _ _ h, frozen_of_row W R 8 _ _ h, frozen_of_row W R 9 _ _ h, frozen_of_row W R 10 _ _ h, frozen_of_row W R 11 _ _ h, frozen_of_row W R 12 _ _ h⟩
theorem CvAt.put {w W : World} {R : Nat} {q : Cv} (h : CvAt W R q) (hk : Kp [] w W) (hR : w.heap.size ≤ R) (v0 v1 v2 v3 v4 v5 v6 v7 v8 v9 v10 v11 v12 : Int) :
    CvAt (((((((((((((W.setCell ⟨R, 0, none⟩ (.int .i64 v0)).setCell ⟨R, 1, none⟩ (.int .i64 v1)).setCell ⟨R, 2, none⟩ (.int .i64 v2)).setCell ⟨R, 3, none⟩ (.int .i64 v3)).setCell ⟨R, 4, none⟩ (.int .i64 v4)).setCell ⟨R, 5, none⟩ (.int .i64 v5)).setCell ⟨R, 6, none⟩ (.int .i64 v6)).setCell ⟨R, 7, none⟩ (.int .i64 v7)).setCell ⟨R, 8, none⟩ (.int .i64 v8)).setCell ⟨R, 9, none⟩ (.int .i64 v9)).setCell ⟨R, 10, none⟩ (.int .i64 v10)).setCell ⟨R, 11, none⟩ (.int .i64 v11)).setCell ⟨R, 12, none⟩ (.int .i64 v12)) R ⟨v0, ⟨v1, v2, v3⟩, ⟨v4, v5, v6⟩, ⟨v7, v8, v9⟩, ⟨v10, v11, v12⟩⟩ ∧ Kp [] w (((((((((((((W.setCell ⟨R, 0, none⟩ (.int .i64 v0)).setCell ⟨R, 1, none⟩ (.int .i64 v1)).setCell ⟨R, 2, none⟩ (.int .i64 v2)).setCell ⟨R, 3, none⟩ (.int .i64 v3)).setCell ⟨R, 4, none⟩ (.int .i64 v4)).setCell ⟨R, 5, none⟩ (.int .i64 v5)).setCell ⟨R, 6, none⟩ (.int .i64 v6)).setCell ⟨R, 7, none⟩ (.int .i64 v7)).setCell ⟨R, 8, none⟩ (.int .i64 v8)).setCell ⟨R, 9, none⟩ (.int .i64 v9)).setCell ⟨R, 10, none⟩ (.int .i64 v10)).setCell ⟨R, 11, none⟩ (.int .i64 v11)).setCell ⟨R, 12, none⟩ (.int .i64 v12)) := by
  have h0 := heap_setCell_same W R 0 _ _ (.int .i64 v0) h
  have h1 := heap_setCell_same _ R 1 _ _ (.int .i64 v1) h0
  have h2 := heap_setCell_same _ R 2 _ _ (.int .i64 v2) h1
  have h3 := heap_setCell_same _ R 3 _ _ (.int .i64 v3) h2
  have h4 := heap_setCell_same _ R 4 _ _ (.int .i64 v4) h3
  have h5 := heap_setCell_same _ R 5 _ _ (.int .i64 v5) h4
  have h6 := heap_setCell_same _ R 6 _ _ (.int .i64 v6) h5
  have h7 := heap_setCell_same _ R 7 _ _ (.int .i64 v7) h6
  have h8 := heap_setCell_same _ R 8 _ _ (.int .i64 v8) h7
  have h9 := heap_setCell_same _ R 9 _ _ (.int .i64 v9) h8
  have h10 := heap_setCell_same _ R 10 _ _ (.int .i64 v10) h9
  have h11 := heap_setCell_same _ R 11 _ _ (.int .i64 v11) h10
  have h12 := heap_setCell_same _ R 12 _ _ (.int .i64 v12) h11
  refine ⟨by simpa [CvAt, cvCells] using h12, ?_⟩
  have k0 := hk.setCell (p := ⟨R, 0, none⟩) (.inr hR) (.int .i64 v0)
  have k1 := k0.setCell (p := ⟨R, 1, none⟩) (.inr hR) (.int .i64 v1)
  have k2 := k1.setCell (p := ⟨R, 2, none⟩) (.inr hR) (.int .i64 v2)
  have k3 := k2.setCell (p := ⟨R, 3, none⟩) (.inr hR) (.int .i64 v3)
  have k4 := k3.setCell (p := ⟨R, 4, none⟩) (.inr hR) (.int .i64 v4)
  have k5 := k4.setCell (p := ⟨R, 5, none⟩) (.inr hR) (.int .i64 v5)
  have k6 := k5.setCell (p := ⟨R, 6, none⟩) (.inr hR) (.int .i64 v6)
  have k7 := k6.setCell (p := ⟨R, 7, none⟩) (.inr hR) (.int .i64 v7)
  have k8 := k7.setCell (p := ⟨R, 8, none⟩) (.inr hR) (.int .i64 v8)
  have k9 := k8.setCell (p := ⟨R, 9, none⟩) (.inr hR) (.int .i64 v9)
  have k10 := k9.setCell (p := ⟨R, 10, none⟩) (.inr hR) (.int .i64 v10)
  have k11 := k10.setCell (p := ⟨R, 11, none⟩) (.inr hR) (.int .i64 v11)
  have k12 := k11.setCell (p := ⟨R, 12, none⟩) (.inr hR) (.int .i64 v12)
  exact k12
def cv0 : Cv := ⟨0, pn0, pn0, pn0, pn0⟩
/-- What curve holds behind its first line: the result's block, and its two points' blocks. -/
def CuSt (w W : World) (A B : Nat) (p q : Pn) : Prop :=
  CvAt W w.heap.size cv0 ∧ (W.cell? ⟨A, 0, none⟩ = some (.int .i64 p.x) ∧ W.cell? ⟨A, 1, none⟩ = some (.int .i64 p.y) ∧ W.cell? ⟨A, 2, none⟩ = some (.int .i64 p.k)) ∧
  (W.cell? ⟨B, 0, none⟩ = some (.int .i64 q.x) ∧ W.cell? ⟨B, 1, none⟩ = some (.int .i64 q.y) ∧ W.cell? ⟨B, 2, none⟩ = some (.int .i64 q.k)) ∧ Kp [] w W
theorem box_kept {w W : World} {B : Nat} {x y z : Int} {t : TypeId} (hk : Kp [] w W) (h : w.heap[B]? = some (.cells #[.int .i64 x, .int .i64 y, .int .i64 z] t)) :
    (W.cell? ⟨B, 0, none⟩ = some (.int .i64 x) ∧ W.cell? ⟨B, 1, none⟩ = some (.int .i64 y) ∧ W.cell? ⟨B, 2, none⟩ = some (.int .i64 z)) ∧ W.frozen? ⟨B, 0, none⟩ = false ∧ W.frozen? ⟨B, 1, none⟩ = false ∧ W.frozen? ⟨B, 2, none⟩ = false := by
  have h2 := hk.heap h (by simp)
  exact ⟨⟨by rw [cell_of_row W B 0 _ _ (0, 0) h2]; rfl, by rw [cell_of_row W B 1 _ _ (0, 0) h2]; rfl, by rw [cell_of_row W B 2 _ _ (0, 0) h2]; rfl⟩, frozen_of_row W B 0 _ _ h2, frozen_of_row W B 1 _ _ h2, frozen_of_row W B 2 _ _ h2⟩
theorem kept2 {w W : World} {x y z x2 y2 z2 : Int} {t t2 : TypeId} (hk : Kp [] ((w.alloc (.cells #[.int .i64 x, .int .i64 y, .int .i64 z] t)).alloc (.cells #[.int .i64 x2, .int .i64 y2, .int .i64 z2] t2)).drew W) :
    ((W.cell? ⟨w.heap.size, 0, none⟩ = some (.int .i64 x) ∧ W.cell? ⟨w.heap.size, 1, none⟩ = some (.int .i64 y) ∧ W.cell? ⟨w.heap.size, 2, none⟩ = some (.int .i64 z)) ∧ W.frozen? ⟨w.heap.size, 0, none⟩ = false ∧ W.frozen? ⟨w.heap.size, 1, none⟩ = false ∧ W.frozen? ⟨w.heap.size, 2, none⟩ = false) ∧
    ((W.cell? ⟨w.heap.size + 1, 0, none⟩ = some (.int .i64 x2) ∧ W.cell? ⟨w.heap.size + 1, 1, none⟩ = some (.int .i64 y2) ∧ W.cell? ⟨w.heap.size + 1, 2, none⟩ = some (.int .i64 z2)) ∧ W.frozen? ⟨w.heap.size + 1, 0, none⟩ = false ∧ W.frozen? ⟨w.heap.size + 1, 1, none⟩ = false ∧ W.frozen? ⟨w.heap.size + 1, 2, none⟩ = false) := by
  obtain ⟨h1, h2⟩ := two_heap (w := w) (A := .cells #[.int .i64 x, .int .i64 y, .int .i64 z] t) (B := .cells #[.int .i64 x2, .int .i64 y2, .int .i64 z2] t2) rfl
  have hk2 : Kp [] ((w.alloc (.cells #[.int .i64 x, .int .i64 y, .int .i64 z] t)).alloc (.cells #[.int .i64 x2, .int .i64 y2, .int .i64 z2] t2)) W := ((Kp.refl _ _).drew).trans hk
  exact ⟨box_kept hk2 h1, box_kept hk2 h2⟩
theorem kept1 {w W : World} {x y z : Int} {t : TypeId} (hk : Kp [] (w.alloc (.cells #[.int .i64 x, .int .i64 y, .int .i64 z] t)).drew W) :
    (W.cell? ⟨w.heap.size, 0, none⟩ = some (.int .i64 x) ∧ W.cell? ⟨w.heap.size, 1, none⟩ = some (.int .i64 y) ∧ W.cell? ⟨w.heap.size, 2, none⟩ = some (.int .i64 z)) ∧ W.frozen? ⟨w.heap.size, 0, none⟩ = false ∧ W.frozen? ⟨w.heap.size, 1, none⟩ = false ∧ W.frozen? ⟨w.heap.size, 2, none⟩ = false :=
  box_kept (((Kp.refl _ _).drew).trans hk) (heap_alloc_new w _)
/-- A new block for a point. -/
def NewP (W w : World) (v : Value) (P : Pn → Prop) : Prop := ∃ A p, v = .pointer (some ⟨A, 0, none⟩) ∧ W.heap.size ≤ A ∧ w.heap[A]? = some (.cells (pnCells p) 25) ∧ P p
theorem NewP.mp {W w w' : World} {v : Value} {P Q : Pn → Prop} (h : NewP W w v P) (hk : Kp [] w w') (hPQ : ∀ x, P x → Q x) : NewP W w' v Q := by
  obtain ⟨A, p, h1, h2, h3, h4⟩ := h
  exact ⟨A, p, h1, h2, hk.heap h3 (by simp), hPQ p h4⟩
theorem NewP.ne {W w : World} {v : Value} {P : Pn → Prop} (h : NewP W w v P) : Value.pointer (some ⟨w.heap.size, 0, none⟩) ≠ v := by
  obtain ⟨A, p, rfl, h2, h3, h4⟩ := h
  intro e
  have h5 : w.heap.size = A := by simpa using e
  have := lt_of_block h3; omega
/-- What curve's first line has left, operation by operation. -/
structure CuI (W w : World) (N cp g off i : Nat) (p q : Pn) (L : Nat → Prop) (t6 t7 t8 t9 t10 t11 t12 t13 t14 t15 : Value) : Prop where
  kp : Kp [] W w
  e0 : L 0 → t8 = .slice (some ⟨g, off, none⟩) N cp
  e1 : L 1 → t9 = .int .i64 i
  e2 : L 2 → t10 = .pointer (some ⟨g, off + i * 3, none⟩)
  e3 : L 3 → t11 = pnV p
  e4 : L 4 → t12 = .slice (some ⟨g, off, none⟩) N cp
  e5 : L 5 → t13 = .int .i64 i
  e6 : L 6 → t14 = .int .i64 ((i : Int) + 1)
  e7 : L 7 → t15 = pnV q
  e8 : L 8 → NewP W w t6 (fun x => L 10 → x = p)
  e9 : L 9 → NewP W w t7 (fun x => L 11 → x = q)
  ne : L 8 → L 9 → t6 ≠ t7
  o10 : L 10 → L 8
  o11 : L 11 → L 9
theorem CuI.start (W : World) (N cp g off i : Nat) (p q : Pn) (t6 t7 t8 t9 t10 t11 t12 t13 t14 t15 : Value) : CuI W W.drew N cp g off i p q (fun _ => False) t6 t7 t8 t9 t10 t11 t12 t13 t14 t15 :=
  ⟨(Kp.refl _ _).drew, False.elim, False.elim, False.elim, False.elim, False.elim, False.elim, False.elim, False.elim, False.elim, False.elim, False.elim, False.elim, False.elim⟩
theorem CuI.s0 {W w : World} {N cp g off i : Nat} {p q : Pn} {L : Nat → Prop} {t6 t7 t8 t9 t10 t11 t12 t13 t14 t15 : Value} (h : CuI W w N cp g off i p q L t6 t7 t8 t9 t10 t11 t12 t13 t14 t15) : CuI W w N cp g off i p q (fun x => x = 0 ∨ L x) t6 t7 (.slice (some ⟨g, off, none⟩) N cp) t9 t10 t11 t12 t13 t14 t15 :=
  ⟨h.kp, fun _ => rfl, fun hL => h.e1 (hL.resolve_left (by decide)), fun hL => h.e2 (hL.resolve_left (by decide)), fun hL => h.e3 (hL.resolve_left (by decide)), fun hL => h.e4 (hL.resolve_left (by decide)), fun hL => h.e5 (hL.resolve_left (by decide)), fun hL => h.e6 (hL.resolve_left (by decide)), fun hL => h.e7 (hL.resolve_left (by decide)), fun hL => (h.e8 (hL.resolve_left (by decide))).mp (Kp.refl _ _) (fun _ hx hy => hx (hy.resolve_left (by decide))), fun hL => (h.e9 (hL.resolve_left (by decide))).mp (Kp.refl _ _) (fun _ hx hy => hx (hy.resolve_left (by decide))), fun ha hb => h.ne (ha.resolve_left (by decide)) (hb.resolve_left (by decide)), fun hL => .inr (h.o10 (hL.resolve_left (by decide))), fun hL => .inr (h.o11 (hL.resolve_left (by decide)))⟩
theorem CuI.s1 {W w : World} {N cp g off i : Nat} {p q : Pn} {L : Nat → Prop} {t6 t7 t8 t9 t10 t11 t12 t13 t14 t15 : Value} (h : CuI W w N cp g off i p q L t6 t7 t8 t9 t10 t11 t12 t13 t14 t15) : CuI W w N cp g off i p q (fun x => x = 1 ∨ L x) t6 t7 t8 (.int .i64 i) t10 t11 t12 t13 t14 t15 :=
  ⟨h.kp, fun hL => h.e0 (hL.resolve_left (by decide)), fun _ => rfl, fun hL => h.e2 (hL.resolve_left (by decide)), fun hL => h.e3 (hL.resolve_left (by decide)), fun hL => h.e4 (hL.resolve_left (by decide)), fun hL => h.e5 (hL.resolve_left (by decide)), fun hL => h.e6 (hL.resolve_left (by decide)), fun hL => h.e7 (hL.resolve_left (by decide)), fun hL => (h.e8 (hL.resolve_left (by decide))).mp (Kp.refl _ _) (fun _ hx hy => hx (hy.resolve_left (by decide))), fun hL => (h.e9 (hL.resolve_left (by decide))).mp (Kp.refl _ _) (fun _ hx hy => hx (hy.resolve_left (by decide))), fun ha hb => h.ne (ha.resolve_left (by decide)) (hb.resolve_left (by decide)), fun hL => .inr (h.o10 (hL.resolve_left (by decide))), fun hL => .inr (h.o11 (hL.resolve_left (by decide)))⟩
theorem CuI.s2 {W w : World} {N cp g off i : Nat} {p q : Pn} {L : Nat → Prop} {t6 t7 t8 t9 t10 t11 t12 t13 t14 t15 : Value} (h : CuI W w N cp g off i p q L t6 t7 t8 t9 t10 t11 t12 t13 t14 t15) : CuI W w N cp g off i p q (fun x => x = 2 ∨ L x) t6 t7 t8 t9 (.pointer (some ⟨g, off + i * 3, none⟩)) t11 t12 t13 t14 t15 :=
  ⟨h.kp, fun hL => h.e0 (hL.resolve_left (by decide)), fun hL => h.e1 (hL.resolve_left (by decide)), fun _ => rfl, fun hL => h.e3 (hL.resolve_left (by decide)), fun hL => h.e4 (hL.resolve_left (by decide)), fun hL => h.e5 (hL.resolve_left (by decide)), fun hL => h.e6 (hL.resolve_left (by decide)), fun hL => h.e7 (hL.resolve_left (by decide)), fun hL => (h.e8 (hL.resolve_left (by decide))).mp (Kp.refl _ _) (fun _ hx hy => hx (hy.resolve_left (by decide))), fun hL => (h.e9 (hL.resolve_left (by decide))).mp (Kp.refl _ _) (fun _ hx hy => hx (hy.resolve_left (by decide))), fun ha hb => h.ne (ha.resolve_left (by decide)) (hb.resolve_left (by decide)), fun hL => .inr (h.o10 (hL.resolve_left (by decide))), fun hL => .inr (h.o11 (hL.resolve_left (by decide)))⟩
theorem CuI.s3 {W w : World} {N cp g off i : Nat} {p q : Pn} {L : Nat → Prop} {t6 t7 t8 t9 t10 t11 t12 t13 t14 t15 : Value} (h : CuI W w N cp g off i p q L t6 t7 t8 t9 t10 t11 t12 t13 t14 t15) : CuI W w N cp g off i p q (fun x => x = 3 ∨ L x) t6 t7 t8 t9 t10 (pnV p) t12 t13 t14 t15 :=
  ⟨h.kp, fun hL => h.e0 (hL.resolve_left (by decide)), fun hL => h.e1 (hL.resolve_left (by decide)), fun hL => h.e2 (hL.resolve_left (by decide)), fun _ => rfl, fun hL => h.e4 (hL.resolve_left (by decide)), fun hL => h.e5 (hL.resolve_left (by decide)), fun hL => h.e6 (hL.resolve_left (by decide)), fun hL => h.e7 (hL.resolve_left (by decide)), fun hL => (h.e8 (hL.resolve_left (by decide))).mp (Kp.refl _ _) (fun _ hx hy => hx (hy.resolve_left (by decide))), fun hL => (h.e9 (hL.resolve_left (by decide))).mp (Kp.refl _ _) (fun _ hx hy => hx (hy.resolve_left (by decide))), fun ha hb => h.ne (ha.resolve_left (by decide)) (hb.resolve_left (by decide)), fun hL => .inr (h.o10 (hL.resolve_left (by decide))), fun hL => .inr (h.o11 (hL.resolve_left (by decide)))⟩
theorem CuI.s4 {W w : World} {N cp g off i : Nat} {p q : Pn} {L : Nat → Prop} {t6 t7 t8 t9 t10 t11 t12 t13 t14 t15 : Value} (h : CuI W w N cp g off i p q L t6 t7 t8 t9 t10 t11 t12 t13 t14 t15) : CuI W w N cp g off i p q (fun x => x = 4 ∨ L x) t6 t7 t8 t9 t10 t11 (.slice (some ⟨g, off, none⟩) N cp) t13 t14 t15 :=
  ⟨h.kp, fun hL => h.e0 (hL.resolve_left (by decide)), fun hL => h.e1 (hL.resolve_left (by decide)), fun hL => h.e2 (hL.resolve_left (by decide)), fun hL => h.e3 (hL.resolve_left (by decide)), fun _ => rfl, fun hL => h.e5 (hL.resolve_left (by decide)), fun hL => h.e6 (hL.resolve_left (by decide)), fun hL => h.e7 (hL.resolve_left (by decide)), fun hL => (h.e8 (hL.resolve_left (by decide))).mp (Kp.refl _ _) (fun _ hx hy => hx (hy.resolve_left (by decide))), fun hL => (h.e9 (hL.resolve_left (by decide))).mp (Kp.refl _ _) (fun _ hx hy => hx (hy.resolve_left (by decide))), fun ha hb => h.ne (ha.resolve_left (by decide)) (hb.resolve_left (by decide)), fun hL => .inr (h.o10 (hL.resolve_left (by decide))), fun hL => .inr (h.o11 (hL.resolve_left (by decide)))⟩
theorem CuI.s5 {W w : World} {N cp g off i : Nat} {p q : Pn} {L : Nat → Prop} {t6 t7 t8 t9 t10 t11 t12 t13 t14 t15 : Value} (h : CuI W w N cp g off i p q L t6 t7 t8 t9 t10 t11 t12 t13 t14 t15) : CuI W w N cp g off i p q (fun x => x = 5 ∨ L x) t6 t7 t8 t9 t10 t11 t12 (.int .i64 i) t14 t15 :=
  ⟨h.kp, fun hL => h.e0 (hL.resolve_left (by decide)), fun hL => h.e1 (hL.resolve_left (by decide)), fun hL => h.e2 (hL.resolve_left (by decide)), fun hL => h.e3 (hL.resolve_left (by decide)), fun hL => h.e4 (hL.resolve_left (by decide)), fun _ => rfl, fun hL => h.e6 (hL.resolve_left (by decide)), fun hL => h.e7 (hL.resolve_left (by decide)), fun hL => (h.e8 (hL.resolve_left (by decide))).mp (Kp.refl _ _) (fun _ hx hy => hx (hy.resolve_left (by decide))), fun hL => (h.e9 (hL.resolve_left (by decide))).mp (Kp.refl _ _) (fun _ hx hy => hx (hy.resolve_left (by decide))), fun ha hb => h.ne (ha.resolve_left (by decide)) (hb.resolve_left (by decide)), fun hL => .inr (h.o10 (hL.resolve_left (by decide))), fun hL => .inr (h.o11 (hL.resolve_left (by decide)))⟩
theorem CuI.s6 {W w : World} {N cp g off i : Nat} {p q : Pn} {L : Nat → Prop} {t6 t7 t8 t9 t10 t11 t12 t13 t14 t15 : Value} (h : CuI W w N cp g off i p q L t6 t7 t8 t9 t10 t11 t12 t13 t14 t15) : CuI W w N cp g off i p q (fun x => x = 6 ∨ L x) t6 t7 t8 t9 t10 t11 t12 t13 (.int .i64 ((i : Int) + 1)) t15 :=
  ⟨h.kp, fun hL => h.e0 (hL.resolve_left (by decide)), fun hL => h.e1 (hL.resolve_left (by decide)), fun hL => h.e2 (hL.resolve_left (by decide)), fun hL => h.e3 (hL.resolve_left (by decide)), fun hL => h.e4 (hL.resolve_left (by decide)), fun hL => h.e5 (hL.resolve_left (by decide)), fun _ => rfl, fun hL => h.e7 (hL.resolve_left (by decide)), fun hL => (h.e8 (hL.resolve_left (by decide))).mp (Kp.refl _ _) (fun _ hx hy => hx (hy.resolve_left (by decide))), fun hL => (h.e9 (hL.resolve_left (by decide))).mp (Kp.refl _ _) (fun _ hx hy => hx (hy.resolve_left (by decide))), fun ha hb => h.ne (ha.resolve_left (by decide)) (hb.resolve_left (by decide)), fun hL => .inr (h.o10 (hL.resolve_left (by decide))), fun hL => .inr (h.o11 (hL.resolve_left (by decide)))⟩
theorem CuI.s7 {W w : World} {N cp g off i : Nat} {p q : Pn} {L : Nat → Prop} {t6 t7 t8 t9 t10 t11 t12 t13 t14 t15 : Value} (h : CuI W w N cp g off i p q L t6 t7 t8 t9 t10 t11 t12 t13 t14 t15) {w' : World} (hk : Kp [] w w') : CuI W w' N cp g off i p q (fun x => x = 7 ∨ L x) t6 t7 t8 t9 t10 t11 t12 t13 t14 (pnV q) :=
  ⟨h.kp.trans hk, fun hL => h.e0 (hL.resolve_left (by decide)), fun hL => h.e1 (hL.resolve_left (by decide)), fun hL => h.e2 (hL.resolve_left (by decide)), fun hL => h.e3 (hL.resolve_left (by decide)), fun hL => h.e4 (hL.resolve_left (by decide)), fun hL => h.e5 (hL.resolve_left (by decide)), fun hL => h.e6 (hL.resolve_left (by decide)), fun _ => rfl, fun hL => (h.e8 (hL.resolve_left (by decide))).mp hk (fun _ hx hy => hx (hy.resolve_left (by decide))), fun hL => (h.e9 (hL.resolve_left (by decide))).mp hk (fun _ hx hy => hx (hy.resolve_left (by decide))), fun ha hb => h.ne (ha.resolve_left (by decide)) (hb.resolve_left (by decide)), fun hL => .inr (h.o10 (hL.resolve_left (by decide))), fun hL => .inr (h.o11 (hL.resolve_left (by decide)))⟩
theorem CuI.s8 {W w : World} {N cp g off i : Nat} {p q : Pn} {L : Nat → Prop} {t6 t7 t8 t9 t10 t11 t12 t13 t14 t15 : Value} (h : CuI W w N cp g off i p q L t6 t7 t8 t9 t10 t11 t12 t13 t14 t15) (hn : ¬ L 8) : CuI W (w.alloc (.cells #[.int .i64 0, .int .i64 0, .int .i64 0] 25)) N cp g off i p q (fun x => x = 8 ∨ L x) (.pointer (some ⟨w.heap.size, 0, none⟩)) t7 t8 t9 t10 t11 t12 t13 t14 t15 :=
  ⟨h.kp.alloc _, fun hL => h.e0 (hL.resolve_left (by decide)), fun hL => h.e1 (hL.resolve_left (by decide)), fun hL => h.e2 (hL.resolve_left (by decide)), fun hL => h.e3 (hL.resolve_left (by decide)), fun hL => h.e4 (hL.resolve_left (by decide)), fun hL => h.e5 (hL.resolve_left (by decide)), fun hL => h.e6 (hL.resolve_left (by decide)), fun hL => h.e7 (hL.resolve_left (by decide)), fun _ => ⟨w.heap.size, pn0, rfl, h.kp.size, heap_alloc_new w _, fun hy => absurd (h.o10 (hy.resolve_left (by decide))) hn⟩, fun hL => (h.e9 (hL.resolve_left (by decide))).mp ((Kp.refl _ _).alloc _) (fun _ hx hy => hx (hy.resolve_left (by decide))), fun _ hb => (h.e9 (hb.resolve_left (by decide))).ne, fun hL => .inr (h.o10 (hL.resolve_left (by decide))), fun hL => .inr (h.o11 (hL.resolve_left (by decide)))⟩
theorem CuI.s9 {W w : World} {N cp g off i : Nat} {p q : Pn} {L : Nat → Prop} {t6 t7 t8 t9 t10 t11 t12 t13 t14 t15 : Value} (h : CuI W w N cp g off i p q L t6 t7 t8 t9 t10 t11 t12 t13 t14 t15) (hn : ¬ L 9) : CuI W (w.alloc (.cells #[.int .i64 0, .int .i64 0, .int .i64 0] 25)) N cp g off i p q (fun x => x = 9 ∨ L x) t6 (.pointer (some ⟨w.heap.size, 0, none⟩)) t8 t9 t10 t11 t12 t13 t14 t15 :=
  ⟨h.kp.alloc _, fun hL => h.e0 (hL.resolve_left (by decide)), fun hL => h.e1 (hL.resolve_left (by decide)), fun hL => h.e2 (hL.resolve_left (by decide)), fun hL => h.e3 (hL.resolve_left (by decide)), fun hL => h.e4 (hL.resolve_left (by decide)), fun hL => h.e5 (hL.resolve_left (by decide)), fun hL => h.e6 (hL.resolve_left (by decide)), fun hL => h.e7 (hL.resolve_left (by decide)), fun hL => (h.e8 (hL.resolve_left (by decide))).mp ((Kp.refl _ _).alloc _) (fun _ hx hy => hx (hy.resolve_left (by decide))), fun _ => ⟨w.heap.size, pn0, rfl, h.kp.size, heap_alloc_new w _, fun hy => absurd (h.o11 (hy.resolve_left (by decide))) hn⟩, fun ha _ e => (h.e8 (ha.resolve_left (by decide))).ne e.symm, fun hL => .inr (h.o10 (hL.resolve_left (by decide))), fun hL => .inr (h.o11 (hL.resolve_left (by decide)))⟩
theorem put3 {W : World} {A : Nat} {p : Pn} (h : W.heap[A]? = some (.cells (pnCells p) 25)) (x y z : Int) : (((W.setCell ⟨A, 0, none⟩ (.int .i64 x)).setCell ⟨A, 1, none⟩ (.int .i64 y)).setCell ⟨A, 2, none⟩ (.int .i64 z)).heap[A]? = some (.cells (pnCells ⟨x, y, z⟩) 25) := by
  have h1 := heap_setCell_same W A 0 _ _ (.int .i64 x) h
  have h2 := heap_setCell_same _ A 1 _ _ (.int .i64 y) h1
  have h3 := heap_setCell_same _ A 2 _ _ (.int .i64 z) h2
  simpa [pnCells] using h3
theorem put3_far {W : World} {A B : Nat} {o : Obj} (h : W.heap[B]? = some o) (hne : B ≠ A) (x y z : Value) : (((W.setCell ⟨A, 0, none⟩ x).setCell ⟨A, 1, none⟩ y).setCell ⟨A, 2, none⟩ z).heap[B]? = some o := by
  rw [heap_setCell_other _ _ B _ hne, heap_setCell_other _ _ B _ hne, heap_setCell_other _ _ B _ hne]; exact h
theorem put3_kp {W w : World} {A : Nat} (h : Kp [] W w) (hA : W.heap.size ≤ A) (x y z : Value) : Kp [] W (((w.setCell ⟨A, 0, none⟩ x).setCell ⟨A, 1, none⟩ y).setCell ⟨A, 2, none⟩ z) :=
  ((h.setCell (.inr hA) _).setCell (.inr hA) _).setCell (.inr hA) _
theorem CuI.s10 {W w : World} {N cp g off i A : Nat} {p q : Pn} {L : Nat → Prop} {t7 t8 t9 t10 t11 t12 t13 t14 t15 : Value} (h : CuI W w N cp g off i p q L (.pointer (some ⟨A, 0, none⟩)) t7 t8 t9 t10 t11 t12 t13 t14 t15) {r0 : Pn} (hA : W.heap.size ≤ A) (hb : w.heap[A]? = some (.cells (pnCells r0) 25)) (hl : L 8) : CuI W (((w.setCell ⟨A, 0, none⟩ (.int .i64 p.x)).setCell ⟨A, 1, none⟩ (.int .i64 p.y)).setCell ⟨A, 2, none⟩ (.int .i64 p.k)) N cp g off i p q (fun x => x = 10 ∨ L x) (.pointer (some ⟨A, 0, none⟩)) t7 t8 t9 t10 t11 t12 t13 t14 t15 := by
  refine ⟨put3_kp h.kp hA _ _ _, fun hL => h.e0 (hL.resolve_left (by decide)), fun hL => h.e1 (hL.resolve_left (by decide)), fun hL => h.e2 (hL.resolve_left (by decide)), fun hL => h.e3 (hL.resolve_left (by decide)), fun hL => h.e4 (hL.resolve_left (by decide)), fun hL => h.e5 (hL.resolve_left (by decide)), fun hL => h.e6 (hL.resolve_left (by decide)), fun hL => h.e7 (hL.resolve_left (by decide)), ?_, ?_, fun ha hb => h.ne (ha.resolve_left (by decide)) (hb.resolve_left (by decide)), fun _ => .inr hl, fun hL => .inr (h.o11 (hL.resolve_left (by decide)))⟩
  · exact fun _ => ⟨A, p, rfl, hA, put3 hb _ _ _, fun _ => rfl⟩
  · exact fun hL => by
      have h1 := h.e9 (hL.resolve_left (by decide))
      have hne := fun e => h.ne hl (hL.resolve_left (by decide)) (Eq.symm e)
      obtain ⟨B, r, rfl, h2, h3, h4⟩ := h1
      exact ⟨B, r, rfl, h2, put3_far h3 (fun e => hne (by rw [e])) _ _ _, fun hy => h4 (hy.resolve_left (by decide))⟩
theorem CuI.s11 {W w : World} {N cp g off i A : Nat} {p q : Pn} {L : Nat → Prop} {t6 t8 t9 t10 t11 t12 t13 t14 t15 : Value} (h : CuI W w N cp g off i p q L t6 (.pointer (some ⟨A, 0, none⟩)) t8 t9 t10 t11 t12 t13 t14 t15) {r0 : Pn} (hA : W.heap.size ≤ A) (hb : w.heap[A]? = some (.cells (pnCells r0) 25)) (hl : L 9) : CuI W (((w.setCell ⟨A, 0, none⟩ (.int .i64 q.x)).setCell ⟨A, 1, none⟩ (.int .i64 q.y)).setCell ⟨A, 2, none⟩ (.int .i64 q.k)) N cp g off i p q (fun x => x = 11 ∨ L x) t6 (.pointer (some ⟨A, 0, none⟩)) t8 t9 t10 t11 t12 t13 t14 t15 := by
  refine ⟨put3_kp h.kp hA _ _ _, fun hL => h.e0 (hL.resolve_left (by decide)), fun hL => h.e1 (hL.resolve_left (by decide)), fun hL => h.e2 (hL.resolve_left (by decide)), fun hL => h.e3 (hL.resolve_left (by decide)), fun hL => h.e4 (hL.resolve_left (by decide)), fun hL => h.e5 (hL.resolve_left (by decide)), fun hL => h.e6 (hL.resolve_left (by decide)), fun hL => h.e7 (hL.resolve_left (by decide)), ?_, ?_, fun ha hb => h.ne (ha.resolve_left (by decide)) (hb.resolve_left (by decide)), fun hL => .inr (h.o10 (hL.resolve_left (by decide))), fun _ => .inr hl⟩
  · exact fun hL => by
      have h1 := h.e8 (hL.resolve_left (by decide))
      have hne := h.ne (hL.resolve_left (by decide)) hl
      obtain ⟨B, r, rfl, h2, h3, h4⟩ := h1
      exact ⟨B, r, rfl, h2, put3_far h3 (fun e => hne (by rw [e])) _ _ _, fun hy => h4 (hy.resolve_left (by decide))⟩
  · exact fun _ => ⟨A, q, rfl, hA, put3 hb _ _ _, fun _ => rfl⟩
set_option maxRecDepth 100000 in
set_option maxHeartbeats 1000000 in
theorem curve1_calls (v : Value) (e : List Pn) (i : Nat) (p q q2 q3 : Pn) (hp : e.getD i pn0 = p) (hq : ringAt e ((i : Int) + 1) = q) (hq2 : ringAt e ((i : Int) + 2) = q2) (hq3 : ringAt e ((i : Int) + 3) = q3) (w : World) (hv : IsPs w v e) (hi : i < e.length) (hl : e.length ≤ 1048576) (hkk : q.k = 1) :
    Calls Try.prog 76 #[v, .int .i64 i] w fun r w' => r = .returned (.tuple #[cvV ⟨1, p, pn0, pn0, q⟩, .int .i64 1]) ∧ Kp [] w w' := by
  have HA1 : Hid (∀ W, Kp [] w W → Calls Try.prog 86 #[v, .int .i64 ((i : Int) + 1)] W fun r w' => r = .returned (pnV q) ∧ Kp [] W w') := fun W hW => by
    have := at_calls v e ((i : Int) + 1) W (hv.kp0 hW) (by omega) (by omega) (by omega) (by omega)
    rwa [hq] at this
  have HA2 : Hid (∀ W, Kp [] w W → Calls Try.prog 86 #[v, .int .i64 ((i : Int) + 2)] W fun r w' => r = .returned (pnV q2) ∧ Kp [] W w') := fun W hW => by
    have := at_calls v e ((i : Int) + 2) W (hv.kp0 hW) (by omega) (by omega) (by omega) (by omega)
    rwa [hq2] at this
  have HA3 : Hid (∀ W, Kp [] w W → Calls Try.prog 86 #[v, .int .i64 ((i : Int) + 3)] W fun r w' => r = .returned (pnV q3) ∧ Kp [] W w') := fun W hW => by
    have := at_calls v e ((i : Int) + 3) W (hv.kp0 hW) (by omega) (by omega) (by omega) (by omega)
    rwa [hq3] at this
  obtain ⟨g, off, cp, rfl, _, _, x0, y0, z0⟩ := hv.row hi
  rw [hp] at x0 y0 z0
  have HC : Hid (∀ W, Kp [] w W → W.cell? ⟨g, off + i * 3, none⟩ = some (.int .i64 p.x) ∧ W.cell? ⟨g, off + i * 3 + 1, none⟩ = some (.int .i64 p.y) ∧ W.cell? ⟨g, off + i * 3 + 2, none⟩ = some (.int .i64 p.k)) := fun W hW => ⟨hW.cell x0 (by simp), hW.cell y0 (by simp), hW.cell z0 (by simp)⟩
  have hg : g < w.heap.size := World.block_lt_of_cell? w _ x0
  generalize e.length = N at *
  obtain ⟨qx, qy, qk⟩ := q
  obtain ⟨px, py, pk⟩ := p
  obtain ⟨rx, ry, rk⟩ := q2
  obtain ⟨sx, sy, sk⟩ := q3
  simp only at hkk
  subst hkk
  rw [show pnV ⟨qx, qy, 1⟩ = .agg #[.int .i64 qx, .int .i64 qy, .int .i64 1] from rfl] at HA1
  rw [show pnV ⟨rx, ry, rk⟩ = .agg #[.int .i64 rx, .int .i64 ry, .int .i64 rk] from rfl] at HA2
  rw [show pnV ⟨sx, sy, sk⟩ = .agg #[.int .i64 sx, .int .i64 sy, .int .i64 sk] from rfl] at HA3
  dsimp only at HC
  clear hv hp hq hq2 hq3 x0 y0 z0
  have n0 : (0 : Int) ≤ (i : Int) := by omega
  have n1 : (i : Int) < (N : Int) := by omega
  go_enter Try.func76, Try.ntmps76
  go_upto_region 1 with fail
  go_cut [6, 7] (fun s6 s7 wx => ∃ A B, s6 = .pointer (some ⟨A, 0, none⟩) ∧ s7 = .pointer (some ⟨B, 0, none⟩) ∧ Hid (CuSt w wx A B ⟨px, py, pk⟩ ⟨qx, qy, 1⟩))
  case first =>
    refine wp_gen ?_; intro W hW
    have hkW : Kp [] w W := by rw [hW]; (repeat (first | exact Kp.refl _ _ | assumption | refine Kp.drew ?_ | refine Kp.drewN ?_ _ | refine Kp.alloc ?_ _ | (refine Kp.setCell ?_ (by first | (left; simp; done) | (right; simp; try omega)) _) | (refine Kp.trans' ?_ (by assumption) (by simp; try omega))))
    have HR : Hid (CvAt W w.heap.size cv0) := by show CvAt _ _ _; rw [hW]; exact heap_alloc_new w _
    obtain ⟨x0, y0, z0⟩ := HC.out W hkW
    clear hW
    have hRW : w.heap.size < W.heap.size := lt_of_block HR.out
    refine wp_region_inv (by kernel_rfl) (by kernel_rfl) (fun L a wx => ∃ t6 t7 t8 t9 t10 t11 t12 t13 t14 t15, a = { tmps := ((.slice (some ⟨g, off, none⟩) N cp : Value) :: .int .i64 i :: undef :: undef :: .pointer (some ⟨w.heap.size, 0, none⟩) :: .int .i64 0 :: t6 :: t7 :: t8 :: t9 :: t10 :: t11 :: t12 :: t13 :: t14 :: t15 :: undef :: undef :: undef :: undef :: undef :: undef :: undef :: undef :: undef :: undef :: undef :: undef :: undef :: undef :: undef :: undef :: undef :: undef :: undef :: undef :: undef :: undef :: undef :: undef :: undef :: undef :: undef :: []).toArray, defers := [] } ∧ CuI W wx N cp g off i ⟨px, py, pk⟩ ⟨qx, qy, 1⟩ L t6 t7 t8 t9 t10 t11 t12 t13 t14 t15) ?_ ?_ ?_
    · exact ⟨_, _, _, _, _, _, _, _, _, _, rfl, CuI.start _ _ _ _ _ _ _ _ _ _ _ _ _ _ _ _ _ _⟩
    · rintro L a wx j o ho ⟨t6, t7, t8, t9, t10, t11, t12, t13, t14, t15, rfl, hI⟩ hnl hd
      have hj : j < 12 := by have := (Array.getElem?_eq_some_iff.1 ho).1; simpa using this
      rcases (show j = 0 ∨ j = 1 ∨ j = 2 ∨ j = 3 ∨ j = 4 ∨ j = 5 ∨ j = 6 ∨ j = 7 ∨ j = 8 ∨ j = 9 ∨ j = 10 ∨ j = 11 by omega) with rfl | rfl | rfl | rfl | rfl | rfl | rfl | rfl | rfl | rfl | rfl | rfl
      all_goals obtain rfl := Option.some.inj ho
      · refine wpOp_step rfl (fun K' hK' => ?_)
        go_simp
        exact hK' _ _ ⟨_, _, _, _, _, _, _, _, _, _, rfl, hI.s0⟩
      · refine wpOp_step rfl (fun K' hK' => ?_)
        go_simp
        exact hK' _ _ ⟨_, _, _, _, _, _, _, _, _, _, rfl, hI.s1⟩
      · refine wpOp_step rfl (fun K' hK' => ?_)
        have d0 : L 0 := hd ⟨0, .data⟩ (by simp) rfl
        have d1 : L 1 := hd ⟨1, .data⟩ (by simp) rfl
        have f0 := hI.e0 d0
        subst f0
        have f1 := hI.e1 d1
        subst f1
        go_simp
        exact hK' _ _ ⟨_, _, _, _, _, _, _, _, _, _, rfl, hI.s2⟩
      · refine wpOp_step rfl (fun K' hK' => ?_)
        have d2 : L 2 := hd ⟨2, .data⟩ (by simp) rfl
        have f2 := hI.e2 d2
        subst f2
        obtain ⟨x1, y1, z1⟩ := HC.out wx (hkW.trans hI.kp)
        go_simp
        exact hK' _ _ ⟨_, _, _, _, _, _, _, _, _, _, rfl, hI.s3⟩
      · refine wpOp_step rfl (fun K' hK' => ?_)
        go_simp
        exact hK' _ _ ⟨_, _, _, _, _, _, _, _, _, _, rfl, hI.s4⟩
      · refine wpOp_step rfl (fun K' hK' => ?_)
        go_simp
        exact hK' _ _ ⟨_, _, _, _, _, _, _, _, _, _, rfl, hI.s5⟩
      · refine wpOp_step rfl (fun K' hK' => ?_)
        have d5 : L 5 := hd ⟨5, .data⟩ (by simp) rfl
        have f5 := hI.e5 d5
        subst f5
        have hw6 : IntKind.i64.wrap ((i : Int) + 1) = (i : Int) + 1 := by rw [IntKind.wrap_i64]; omega
        go_simp
        exact hK' _ _ ⟨_, _, _, _, _, _, _, _, _, _, rfl, hI.s6⟩
      · refine wpOp_step rfl (fun K' hK' => ?_)
        have d4 : L 4 := hd ⟨4, .data⟩ (by simp) rfl
        have d6 : L 6 := hd ⟨6, .data⟩ (by simp) rfl
        have f4 := hI.e4 d4
        subst f4
        have f6 := hI.e6 d6
        subst f6
        go_simp
        refine (HA1.out _ (hkW.trans hI.kp)).mono ?_
        rintro r w2 ⟨rfl, hk2⟩
        exact hK' _ _ ⟨_, _, _, _, _, _, _, _, _, _, rfl, hI.s7 hk2⟩
      · refine wpOp_step rfl (fun K' hK' => ?_)
        go_simp
        exact hK' _ _ ⟨_, _, _, _, _, _, _, _, _, _, rfl, hI.s8 hnl⟩
      · refine wpOp_step rfl (fun K' hK' => ?_)
        go_simp
        exact hK' _ _ ⟨_, _, _, _, _, _, _, _, _, _, rfl, hI.s9 hnl⟩
      · refine wpOp_step rfl (fun K' hK' => ?_)
        have d8 : L 8 := hd ⟨8, .data⟩ (by simp) rfl
        have d3 : L 3 := hd ⟨3, .data⟩ (by simp) rfl
        have f3 := hI.e3 d3
        subst f3
        obtain ⟨A, r0, rfl, hA, hb, hP⟩ := hI.e8 d8
        obtain ⟨⟨c0, c1, c2⟩, f0, f1, f2⟩ := box_kept (Kp.refl [] wx) hb
        have hs := hI.s10 hA hb d8
        rw [show pnV ⟨px, py, pk⟩ = .agg #[.int .i64 px, .int .i64 py, .int .i64 pk] from rfl] at hs ⊢
        go_simp
        exact hK' _ _ ⟨_, _, _, _, _, _, _, _, _, _, rfl, hs⟩
      · refine wpOp_step rfl (fun K' hK' => ?_)
        have d9 : L 9 := hd ⟨9, .data⟩ (by simp) rfl
        have d7 : L 7 := hd ⟨7, .data⟩ (by simp) rfl
        have f7 := hI.e7 d7
        subst f7
        obtain ⟨A, r0, rfl, hA, hb, hP⟩ := hI.e9 d9
        obtain ⟨⟨c0, c1, c2⟩, f0, f1, f2⟩ := box_kept (Kp.refl [] wx) hb
        have hs := hI.s11 hA hb d9
        rw [show pnV ⟨qx, qy, 1⟩ = .agg #[.int .i64 qx, .int .i64 qy, .int .i64 1] from rfl] at hs ⊢
        go_simp
        exact hK' _ _ ⟨_, _, _, _, _, _, _, _, _, _, rfl, hs⟩
    · rintro L a wx ⟨t6, t7, t8, t9, t10, t11, t12, t13, t14, t15, rfl, hI⟩ hall
      obtain ⟨A, r0, rfl, hA, hb, hP⟩ := hI.e8 (hall 8 (by decide))
      obtain ⟨B, r1, rfl, hB, hb2, hP2⟩ := hI.e9 (hall 9 (by decide))
      have hr0 := hP (hall 10 (by decide))
      have hr1 := hP2 (hall 11 (by decide))
      subst hr0
      subst hr1
      have HST : Hid (CuSt w wx A B ⟨px, py, pk⟩ ⟨qx, qy, 1⟩) := ⟨HR.out.kp hI.kp (by simp), (box_kept (Kp.refl [] wx) hb).1, (box_kept (Kp.refl [] wx) hb2).1, hkW.trans hI.kp⟩
      go_wp2_with fail
      go_meet
      exact ⟨A, B, rfl, rfl, HST⟩
  case rest =>
    obtain ⟨A, B, rfl, rfl, HS⟩ := hcut
    have HS0 := Lib.hid HS.1
    have hk0 : Kp [] w wc := HS.2.2.2
    obtain ⟨a0, a1, a2⟩ := HS.2.1
    obtain ⟨b0, b1, b2⟩ := HS.2.2.1
    dsimp only at a0 a1 a2 b0 b1 b2
    clear HS
    have HSR := HS0
    have hk9 := hk0
    obtain ⟨c0, c1, c2, c3, c4, c5, c6, c7, c8, c9, c10, c11, c12⟩ := HSR.out.cells
    obtain ⟨f0, f1, f2, f3, f4, f5, f6, f7, f8, f9, f10, f11, f12⟩ := HSR.out.frozen
    have HP := Lib.hid ((HSR.out.put hk9 (Nat.le_refl _) 1 px py pk 0 0 0 0 0 0 qx qy 1).2)
    simp only [cv0, pn0] at c0 c1 c2 c3 c4 c5 c6 c7 c8 c9 c10 c11 c12
    go_wp2_with fail
    refine bodyPost_ret (v := .tuple #[cvV ⟨1, ⟨px, py, pk⟩, pn0, pn0, ⟨qx, qy, 1⟩⟩, .int .i64 1]) (by simp [results, Try.results76, go_sem, cvV, cvCells, pn0, c0, c1, c2, c3, c4, c5, c6, c7, c8, c9, c10, c11, c12]) rfl ⟨rfl, HP.out⟩
set_option maxRecDepth 100000 in
set_option maxHeartbeats 1000000 in
theorem curve2_calls (v : Value) (e : List Pn) (i : Nat) (p q q2 q3 : Pn) (hp : e.getD i pn0 = p) (hq : ringAt e ((i : Int) + 1) = q) (hq2 : ringAt e ((i : Int) + 2) = q2) (hq3 : ringAt e ((i : Int) + 3) = q3) (w : World) (hv : IsPs w v e) (hi : i < e.length) (hl : e.length ≤ 1048576) (hkk : q.k = 2) :
    Calls Try.prog 76 #[v, .int .i64 i] w fun r w' => r = .returned (.tuple #[cvV ⟨2, p, q, pn0, q2⟩, .int .i64 2]) ∧ Kp [] w w' := by
  have HA1 : Hid (∀ W, Kp [] w W → Calls Try.prog 86 #[v, .int .i64 ((i : Int) + 1)] W fun r w' => r = .returned (pnV q) ∧ Kp [] W w') := fun W hW => by
    have := at_calls v e ((i : Int) + 1) W (hv.kp0 hW) (by omega) (by omega) (by omega) (by omega)
    rwa [hq] at this
  have HA2 : Hid (∀ W, Kp [] w W → Calls Try.prog 86 #[v, .int .i64 ((i : Int) + 2)] W fun r w' => r = .returned (pnV q2) ∧ Kp [] W w') := fun W hW => by
    have := at_calls v e ((i : Int) + 2) W (hv.kp0 hW) (by omega) (by omega) (by omega) (by omega)
    rwa [hq2] at this
  have HA3 : Hid (∀ W, Kp [] w W → Calls Try.prog 86 #[v, .int .i64 ((i : Int) + 3)] W fun r w' => r = .returned (pnV q3) ∧ Kp [] W w') := fun W hW => by
    have := at_calls v e ((i : Int) + 3) W (hv.kp0 hW) (by omega) (by omega) (by omega) (by omega)
    rwa [hq3] at this
  obtain ⟨g, off, cp, rfl, _, _, x0, y0, z0⟩ := hv.row hi
  rw [hp] at x0 y0 z0
  have HC : Hid (∀ W, Kp [] w W → W.cell? ⟨g, off + i * 3, none⟩ = some (.int .i64 p.x) ∧ W.cell? ⟨g, off + i * 3 + 1, none⟩ = some (.int .i64 p.y) ∧ W.cell? ⟨g, off + i * 3 + 2, none⟩ = some (.int .i64 p.k)) := fun W hW => ⟨hW.cell x0 (by simp), hW.cell y0 (by simp), hW.cell z0 (by simp)⟩
  have hg : g < w.heap.size := World.block_lt_of_cell? w _ x0
  generalize e.length = N at *
  obtain ⟨qx, qy, qk⟩ := q
  obtain ⟨px, py, pk⟩ := p
  obtain ⟨rx, ry, rk⟩ := q2
  obtain ⟨sx, sy, sk⟩ := q3
  simp only at hkk
  subst hkk
  rw [show pnV ⟨qx, qy, 2⟩ = .agg #[.int .i64 qx, .int .i64 qy, .int .i64 2] from rfl] at HA1
  rw [show pnV ⟨rx, ry, rk⟩ = .agg #[.int .i64 rx, .int .i64 ry, .int .i64 rk] from rfl] at HA2
  rw [show pnV ⟨sx, sy, sk⟩ = .agg #[.int .i64 sx, .int .i64 sy, .int .i64 sk] from rfl] at HA3
  dsimp only at HC
  clear hv hp hq hq2 hq3 x0 y0 z0
  have n0 : (0 : Int) ≤ (i : Int) := by omega
  have n1 : (i : Int) < (N : Int) := by omega
  go_enter Try.func76, Try.ntmps76
  go_upto_region 1 with fail
  go_cut [6, 7] (fun s6 s7 wx => ∃ A B, s6 = .pointer (some ⟨A, 0, none⟩) ∧ s7 = .pointer (some ⟨B, 0, none⟩) ∧ Hid (CuSt w wx A B ⟨px, py, pk⟩ ⟨qx, qy, 2⟩))
  case first =>
    refine wp_gen ?_; intro W hW
    have hkW : Kp [] w W := by rw [hW]; (repeat (first | exact Kp.refl _ _ | assumption | refine Kp.drew ?_ | refine Kp.drewN ?_ _ | refine Kp.alloc ?_ _ | (refine Kp.setCell ?_ (by first | (left; simp; done) | (right; simp; try omega)) _) | (refine Kp.trans' ?_ (by assumption) (by simp; try omega))))
    have HR : Hid (CvAt W w.heap.size cv0) := by show CvAt _ _ _; rw [hW]; exact heap_alloc_new w _
    obtain ⟨x0, y0, z0⟩ := HC.out W hkW
    clear hW
    have hRW : w.heap.size < W.heap.size := lt_of_block HR.out
    refine wp_region_inv (by kernel_rfl) (by kernel_rfl) (fun L a wx => ∃ t6 t7 t8 t9 t10 t11 t12 t13 t14 t15, a = { tmps := ((.slice (some ⟨g, off, none⟩) N cp : Value) :: .int .i64 i :: undef :: undef :: .pointer (some ⟨w.heap.size, 0, none⟩) :: .int .i64 0 :: t6 :: t7 :: t8 :: t9 :: t10 :: t11 :: t12 :: t13 :: t14 :: t15 :: undef :: undef :: undef :: undef :: undef :: undef :: undef :: undef :: undef :: undef :: undef :: undef :: undef :: undef :: undef :: undef :: undef :: undef :: undef :: undef :: undef :: undef :: undef :: undef :: undef :: undef :: undef :: []).toArray, defers := [] } ∧ CuI W wx N cp g off i ⟨px, py, pk⟩ ⟨qx, qy, 2⟩ L t6 t7 t8 t9 t10 t11 t12 t13 t14 t15) ?_ ?_ ?_
    · exact ⟨_, _, _, _, _, _, _, _, _, _, rfl, CuI.start _ _ _ _ _ _ _ _ _ _ _ _ _ _ _ _ _ _⟩
    · rintro L a wx j o ho ⟨t6, t7, t8, t9, t10, t11, t12, t13, t14, t15, rfl, hI⟩ hnl hd
      have hj : j < 12 := by have := (Array.getElem?_eq_some_iff.1 ho).1; simpa using this
      rcases (show j = 0 ∨ j = 1 ∨ j = 2 ∨ j = 3 ∨ j = 4 ∨ j = 5 ∨ j = 6 ∨ j = 7 ∨ j = 8 ∨ j = 9 ∨ j = 10 ∨ j = 11 by omega) with rfl | rfl | rfl | rfl | rfl | rfl | rfl | rfl | rfl | rfl | rfl | rfl
      all_goals obtain rfl := Option.some.inj ho
      · refine wpOp_step rfl (fun K' hK' => ?_)
        go_simp
        exact hK' _ _ ⟨_, _, _, _, _, _, _, _, _, _, rfl, hI.s0⟩
      · refine wpOp_step rfl (fun K' hK' => ?_)
        go_simp
        exact hK' _ _ ⟨_, _, _, _, _, _, _, _, _, _, rfl, hI.s1⟩
      · refine wpOp_step rfl (fun K' hK' => ?_)
        have d0 : L 0 := hd ⟨0, .data⟩ (by simp) rfl
        have d1 : L 1 := hd ⟨1, .data⟩ (by simp) rfl
        have f0 := hI.e0 d0
        subst f0
        have f1 := hI.e1 d1
        subst f1
        go_simp
        exact hK' _ _ ⟨_, _, _, _, _, _, _, _, _, _, rfl, hI.s2⟩
      · refine wpOp_step rfl (fun K' hK' => ?_)
        have d2 : L 2 := hd ⟨2, .data⟩ (by simp) rfl
        have f2 := hI.e2 d2
        subst f2
        obtain ⟨x1, y1, z1⟩ := HC.out wx (hkW.trans hI.kp)
        go_simp
        exact hK' _ _ ⟨_, _, _, _, _, _, _, _, _, _, rfl, hI.s3⟩
      · refine wpOp_step rfl (fun K' hK' => ?_)
        go_simp
        exact hK' _ _ ⟨_, _, _, _, _, _, _, _, _, _, rfl, hI.s4⟩
      · refine wpOp_step rfl (fun K' hK' => ?_)
        go_simp
        exact hK' _ _ ⟨_, _, _, _, _, _, _, _, _, _, rfl, hI.s5⟩
      · refine wpOp_step rfl (fun K' hK' => ?_)
        have d5 : L 5 := hd ⟨5, .data⟩ (by simp) rfl
        have f5 := hI.e5 d5
        subst f5
        have hw6 : IntKind.i64.wrap ((i : Int) + 1) = (i : Int) + 1 := by rw [IntKind.wrap_i64]; omega
        go_simp
        exact hK' _ _ ⟨_, _, _, _, _, _, _, _, _, _, rfl, hI.s6⟩
      · refine wpOp_step rfl (fun K' hK' => ?_)
        have d4 : L 4 := hd ⟨4, .data⟩ (by simp) rfl
        have d6 : L 6 := hd ⟨6, .data⟩ (by simp) rfl
        have f4 := hI.e4 d4
        subst f4
        have f6 := hI.e6 d6
        subst f6
        go_simp
        refine (HA1.out _ (hkW.trans hI.kp)).mono ?_
        rintro r w2 ⟨rfl, hk2⟩
        exact hK' _ _ ⟨_, _, _, _, _, _, _, _, _, _, rfl, hI.s7 hk2⟩
      · refine wpOp_step rfl (fun K' hK' => ?_)
        go_simp
        exact hK' _ _ ⟨_, _, _, _, _, _, _, _, _, _, rfl, hI.s8 hnl⟩
      · refine wpOp_step rfl (fun K' hK' => ?_)
        go_simp
        exact hK' _ _ ⟨_, _, _, _, _, _, _, _, _, _, rfl, hI.s9 hnl⟩
      · refine wpOp_step rfl (fun K' hK' => ?_)
        have d8 : L 8 := hd ⟨8, .data⟩ (by simp) rfl
        have d3 : L 3 := hd ⟨3, .data⟩ (by simp) rfl
        have f3 := hI.e3 d3
        subst f3
        obtain ⟨A, r0, rfl, hA, hb, hP⟩ := hI.e8 d8
        obtain ⟨⟨c0, c1, c2⟩, f0, f1, f2⟩ := box_kept (Kp.refl [] wx) hb
        have hs := hI.s10 hA hb d8
        rw [show pnV ⟨px, py, pk⟩ = .agg #[.int .i64 px, .int .i64 py, .int .i64 pk] from rfl] at hs ⊢
        go_simp
        exact hK' _ _ ⟨_, _, _, _, _, _, _, _, _, _, rfl, hs⟩
      · refine wpOp_step rfl (fun K' hK' => ?_)
        have d9 : L 9 := hd ⟨9, .data⟩ (by simp) rfl
        have d7 : L 7 := hd ⟨7, .data⟩ (by simp) rfl
        have f7 := hI.e7 d7
        subst f7
        obtain ⟨A, r0, rfl, hA, hb, hP⟩ := hI.e9 d9
        obtain ⟨⟨c0, c1, c2⟩, f0, f1, f2⟩ := box_kept (Kp.refl [] wx) hb
        have hs := hI.s11 hA hb d9
        rw [show pnV ⟨qx, qy, 2⟩ = .agg #[.int .i64 qx, .int .i64 qy, .int .i64 2] from rfl] at hs ⊢
        go_simp
        exact hK' _ _ ⟨_, _, _, _, _, _, _, _, _, _, rfl, hs⟩
    · rintro L a wx ⟨t6, t7, t8, t9, t10, t11, t12, t13, t14, t15, rfl, hI⟩ hall
      obtain ⟨A, r0, rfl, hA, hb, hP⟩ := hI.e8 (hall 8 (by decide))
      obtain ⟨B, r1, rfl, hB, hb2, hP2⟩ := hI.e9 (hall 9 (by decide))
      have hr0 := hP (hall 10 (by decide))
      have hr1 := hP2 (hall 11 (by decide))
      subst hr0
      subst hr1
      have HST : Hid (CuSt w wx A B ⟨px, py, pk⟩ ⟨qx, qy, 2⟩) := ⟨HR.out.kp hI.kp (by simp), (box_kept (Kp.refl [] wx) hb).1, (box_kept (Kp.refl [] wx) hb2).1, hkW.trans hI.kp⟩
      go_wp2_with fail
      go_meet
      exact ⟨A, B, rfl, rfl, HST⟩
  case rest =>
    obtain ⟨A, B, rfl, rfl, HS⟩ := hcut
    have HS0 := Lib.hid HS.1
    have hk0 : Kp [] w wc := HS.2.2.2
    obtain ⟨a0, a1, a2⟩ := HS.2.1
    obtain ⟨b0, b1, b2⟩ := HS.2.2.1
    dsimp only at a0 a1 a2 b0 b1 b2
    clear HS
    have hw2 : wrap64 ((i : Int) + 2) = (i : Int) + 2 := by unfold wrap64; omega
    go_wp2_with fail
    have q0 := KW.cell a0
    have q1 := KW.cell a1
    have q2 := KW.cell a2
    have q3 := KW.cell b0
    have q4 := KW.cell b1
    have q5 := KW.cell b2
    refine wp_region_kqt 7 (by kernel_rfl) (by kernel_rfl) ?_
    simp only [List.take_succ_cons, List.take_zero, List.drop_succ_cons, List.drop_zero]
    repeat (go_big_quiet_step ((go_at_call 86; exact Calls.kq (HA2.out _ (hk0.trans (KW.h _))))))
    refine wpQuiet_nil ?_
    intro w1 hw'
    obtain ⟨⟨_, hkw1⟩, rfl⟩ := hw'
    try dsimp only
    have HSR := Lib.hid (HS0.out.kp hkw1 (by simp))
    have hk9 : Kp [] w w1 := hk0.trans hkw1
    clear q0 q1 q2 q3 q4 q5 a0 a1 a2 b0 b1 b2 HS0
    obtain ⟨c0, c1, c2, c3, c4, c5, c6, c7, c8, c9, c10, c11, c12⟩ := HSR.out.cells
    obtain ⟨f0, f1, f2, f3, f4, f5, f6, f7, f8, f9, f10, f11, f12⟩ := HSR.out.frozen
    have HP := Lib.hid ((HSR.out.put hk9 (Nat.le_refl _) 2 px py pk qx qy 2 0 0 0 rx ry rk).2)
    simp only [cv0, pn0] at c0 c1 c2 c3 c4 c5 c6 c7 c8 c9 c10 c11 c12
    go_wp2_with fail
    refine bodyPost_ret (v := .tuple #[cvV ⟨2, ⟨px, py, pk⟩, ⟨qx, qy, 2⟩, pn0, ⟨rx, ry, rk⟩⟩, .int .i64 2]) (by simp [results, Try.results76, go_sem, cvV, cvCells, pn0, c0, c1, c2, c3, c4, c5, c6, c7, c8, c9, c10, c11, c12]) rfl ⟨rfl, HP.out⟩
set_option maxRecDepth 100000 in
set_option maxHeartbeats 1000000 in
theorem curve3_calls (v : Value) (e : List Pn) (i : Nat) (p q q2 q3 : Pn) (hp : e.getD i pn0 = p) (hq : ringAt e ((i : Int) + 1) = q) (hq2 : ringAt e ((i : Int) + 2) = q2) (hq3 : ringAt e ((i : Int) + 3) = q3) (w : World) (hv : IsPs w v e) (hi : i < e.length) (hl : e.length ≤ 1048576) (hkk : q.k = 3) :
    Calls Try.prog 76 #[v, .int .i64 i] w fun r w' => r = .returned (.tuple #[cvV ⟨3, p, q, q2, q3⟩, .int .i64 3]) ∧ Kp [] w w' := by
  have HA1 : Hid (∀ W, Kp [] w W → Calls Try.prog 86 #[v, .int .i64 ((i : Int) + 1)] W fun r w' => r = .returned (pnV q) ∧ Kp [] W w') := fun W hW => by
    have := at_calls v e ((i : Int) + 1) W (hv.kp0 hW) (by omega) (by omega) (by omega) (by omega)
    rwa [hq] at this
  have HA2 : Hid (∀ W, Kp [] w W → Calls Try.prog 86 #[v, .int .i64 ((i : Int) + 2)] W fun r w' => r = .returned (pnV q2) ∧ Kp [] W w') := fun W hW => by
    have := at_calls v e ((i : Int) + 2) W (hv.kp0 hW) (by omega) (by omega) (by omega) (by omega)
    rwa [hq2] at this
  have HA3 : Hid (∀ W, Kp [] w W → Calls Try.prog 86 #[v, .int .i64 ((i : Int) + 3)] W fun r w' => r = .returned (pnV q3) ∧ Kp [] W w') := fun W hW => by
    have := at_calls v e ((i : Int) + 3) W (hv.kp0 hW) (by omega) (by omega) (by omega) (by omega)
    rwa [hq3] at this
  obtain ⟨g, off, cp, rfl, _, _, x0, y0, z0⟩ := hv.row hi
  rw [hp] at x0 y0 z0
  have HC : Hid (∀ W, Kp [] w W → W.cell? ⟨g, off + i * 3, none⟩ = some (.int .i64 p.x) ∧ W.cell? ⟨g, off + i * 3 + 1, none⟩ = some (.int .i64 p.y) ∧ W.cell? ⟨g, off + i * 3 + 2, none⟩ = some (.int .i64 p.k)) := fun W hW => ⟨hW.cell x0 (by simp), hW.cell y0 (by simp), hW.cell z0 (by simp)⟩
  have hg : g < w.heap.size := World.block_lt_of_cell? w _ x0
  generalize e.length = N at *
  obtain ⟨qx, qy, qk⟩ := q
  obtain ⟨px, py, pk⟩ := p
  obtain ⟨rx, ry, rk⟩ := q2
  obtain ⟨sx, sy, sk⟩ := q3
  simp only at hkk
  subst hkk
  rw [show pnV ⟨qx, qy, 3⟩ = .agg #[.int .i64 qx, .int .i64 qy, .int .i64 3] from rfl] at HA1
  rw [show pnV ⟨rx, ry, rk⟩ = .agg #[.int .i64 rx, .int .i64 ry, .int .i64 rk] from rfl] at HA2
  rw [show pnV ⟨sx, sy, sk⟩ = .agg #[.int .i64 sx, .int .i64 sy, .int .i64 sk] from rfl] at HA3
  dsimp only at HC
  clear hv hp hq hq2 hq3 x0 y0 z0
  have n0 : (0 : Int) ≤ (i : Int) := by omega
  have n1 : (i : Int) < (N : Int) := by omega
  go_enter Try.func76, Try.ntmps76
  go_upto_region 1 with fail
  go_cut [6, 7] (fun s6 s7 wx => ∃ A B, s6 = .pointer (some ⟨A, 0, none⟩) ∧ s7 = .pointer (some ⟨B, 0, none⟩) ∧ Hid (CuSt w wx A B ⟨px, py, pk⟩ ⟨qx, qy, 3⟩))
  case first =>
    refine wp_gen ?_; intro W hW
    have hkW : Kp [] w W := by rw [hW]; (repeat (first | exact Kp.refl _ _ | assumption | refine Kp.drew ?_ | refine Kp.drewN ?_ _ | refine Kp.alloc ?_ _ | (refine Kp.setCell ?_ (by first | (left; simp; done) | (right; simp; try omega)) _) | (refine Kp.trans' ?_ (by assumption) (by simp; try omega))))
    have HR : Hid (CvAt W w.heap.size cv0) := by show CvAt _ _ _; rw [hW]; exact heap_alloc_new w _
    obtain ⟨x0, y0, z0⟩ := HC.out W hkW
    clear hW
    have hRW : w.heap.size < W.heap.size := lt_of_block HR.out
    refine wp_region_inv (by kernel_rfl) (by kernel_rfl) (fun L a wx => ∃ t6 t7 t8 t9 t10 t11 t12 t13 t14 t15, a = { tmps := ((.slice (some ⟨g, off, none⟩) N cp : Value) :: .int .i64 i :: undef :: undef :: .pointer (some ⟨w.heap.size, 0, none⟩) :: .int .i64 0 :: t6 :: t7 :: t8 :: t9 :: t10 :: t11 :: t12 :: t13 :: t14 :: t15 :: undef :: undef :: undef :: undef :: undef :: undef :: undef :: undef :: undef :: undef :: undef :: undef :: undef :: undef :: undef :: undef :: undef :: undef :: undef :: undef :: undef :: undef :: undef :: undef :: undef :: undef :: undef :: []).toArray, defers := [] } ∧ CuI W wx N cp g off i ⟨px, py, pk⟩ ⟨qx, qy, 3⟩ L t6 t7 t8 t9 t10 t11 t12 t13 t14 t15) ?_ ?_ ?_
    · exact ⟨_, _, _, _, _, _, _, _, _, _, rfl, CuI.start _ _ _ _ _ _ _ _ _ _ _ _ _ _ _ _ _ _⟩
    · rintro L a wx j o ho ⟨t6, t7, t8, t9, t10, t11, t12, t13, t14, t15, rfl, hI⟩ hnl hd
      have hj : j < 12 := by have := (Array.getElem?_eq_some_iff.1 ho).1; simpa using this
      rcases (show j = 0 ∨ j = 1 ∨ j = 2 ∨ j = 3 ∨ j = 4 ∨ j = 5 ∨ j = 6 ∨ j = 7 ∨ j = 8 ∨ j = 9 ∨ j = 10 ∨ j = 11 by omega) with rfl | rfl | rfl | rfl | rfl | rfl | rfl | rfl | rfl | rfl | rfl | rfl
      all_goals obtain rfl := Option.some.inj ho
      · refine wpOp_step rfl (fun K' hK' => ?_)
        go_simp
        exact hK' _ _ ⟨_, _, _, _, _, _, _, _, _, _, rfl, hI.s0⟩
      · refine wpOp_step rfl (fun K' hK' => ?_)
        go_simp
        exact hK' _ _ ⟨_, _, _, _, _, _, _, _, _, _, rfl, hI.s1⟩
      · refine wpOp_step rfl (fun K' hK' => ?_)
        have d0 : L 0 := hd ⟨0, .data⟩ (by simp) rfl
        have d1 : L 1 := hd ⟨1, .data⟩ (by simp) rfl
        have f0 := hI.e0 d0
        subst f0
        have f1 := hI.e1 d1
        subst f1
        go_simp
        exact hK' _ _ ⟨_, _, _, _, _, _, _, _, _, _, rfl, hI.s2⟩
      · refine wpOp_step rfl (fun K' hK' => ?_)
        have d2 : L 2 := hd ⟨2, .data⟩ (by simp) rfl
        have f2 := hI.e2 d2
        subst f2
        obtain ⟨x1, y1, z1⟩ := HC.out wx (hkW.trans hI.kp)
        go_simp
        exact hK' _ _ ⟨_, _, _, _, _, _, _, _, _, _, rfl, hI.s3⟩
      · refine wpOp_step rfl (fun K' hK' => ?_)
        go_simp
        exact hK' _ _ ⟨_, _, _, _, _, _, _, _, _, _, rfl, hI.s4⟩
      · refine wpOp_step rfl (fun K' hK' => ?_)
        go_simp
        exact hK' _ _ ⟨_, _, _, _, _, _, _, _, _, _, rfl, hI.s5⟩
      · refine wpOp_step rfl (fun K' hK' => ?_)
        have d5 : L 5 := hd ⟨5, .data⟩ (by simp) rfl
        have f5 := hI.e5 d5
        subst f5
        have hw6 : IntKind.i64.wrap ((i : Int) + 1) = (i : Int) + 1 := by rw [IntKind.wrap_i64]; omega
        go_simp
        exact hK' _ _ ⟨_, _, _, _, _, _, _, _, _, _, rfl, hI.s6⟩
      · refine wpOp_step rfl (fun K' hK' => ?_)
        have d4 : L 4 := hd ⟨4, .data⟩ (by simp) rfl
        have d6 : L 6 := hd ⟨6, .data⟩ (by simp) rfl
        have f4 := hI.e4 d4
        subst f4
        have f6 := hI.e6 d6
        subst f6
        go_simp
        refine (HA1.out _ (hkW.trans hI.kp)).mono ?_
        rintro r w2 ⟨rfl, hk2⟩
        exact hK' _ _ ⟨_, _, _, _, _, _, _, _, _, _, rfl, hI.s7 hk2⟩
      · refine wpOp_step rfl (fun K' hK' => ?_)
        go_simp
        exact hK' _ _ ⟨_, _, _, _, _, _, _, _, _, _, rfl, hI.s8 hnl⟩
      · refine wpOp_step rfl (fun K' hK' => ?_)
        go_simp
        exact hK' _ _ ⟨_, _, _, _, _, _, _, _, _, _, rfl, hI.s9 hnl⟩
      · refine wpOp_step rfl (fun K' hK' => ?_)
        have d8 : L 8 := hd ⟨8, .data⟩ (by simp) rfl
        have d3 : L 3 := hd ⟨3, .data⟩ (by simp) rfl
        have f3 := hI.e3 d3
        subst f3
        obtain ⟨A, r0, rfl, hA, hb, hP⟩ := hI.e8 d8
        obtain ⟨⟨c0, c1, c2⟩, f0, f1, f2⟩ := box_kept (Kp.refl [] wx) hb
        have hs := hI.s10 hA hb d8
        rw [show pnV ⟨px, py, pk⟩ = .agg #[.int .i64 px, .int .i64 py, .int .i64 pk] from rfl] at hs ⊢
        go_simp
        exact hK' _ _ ⟨_, _, _, _, _, _, _, _, _, _, rfl, hs⟩
      · refine wpOp_step rfl (fun K' hK' => ?_)
        have d9 : L 9 := hd ⟨9, .data⟩ (by simp) rfl
        have d7 : L 7 := hd ⟨7, .data⟩ (by simp) rfl
        have f7 := hI.e7 d7
        subst f7
        obtain ⟨A, r0, rfl, hA, hb, hP⟩ := hI.e9 d9
        obtain ⟨⟨c0, c1, c2⟩, f0, f1, f2⟩ := box_kept (Kp.refl [] wx) hb
        have hs := hI.s11 hA hb d9
        rw [show pnV ⟨qx, qy, 3⟩ = .agg #[.int .i64 qx, .int .i64 qy, .int .i64 3] from rfl] at hs ⊢
        go_simp
        exact hK' _ _ ⟨_, _, _, _, _, _, _, _, _, _, rfl, hs⟩
    · rintro L a wx ⟨t6, t7, t8, t9, t10, t11, t12, t13, t14, t15, rfl, hI⟩ hall
      obtain ⟨A, r0, rfl, hA, hb, hP⟩ := hI.e8 (hall 8 (by decide))
      obtain ⟨B, r1, rfl, hB, hb2, hP2⟩ := hI.e9 (hall 9 (by decide))
      have hr0 := hP (hall 10 (by decide))
      have hr1 := hP2 (hall 11 (by decide))
      subst hr0
      subst hr1
      have HST : Hid (CuSt w wx A B ⟨px, py, pk⟩ ⟨qx, qy, 3⟩) := ⟨HR.out.kp hI.kp (by simp), (box_kept (Kp.refl [] wx) hb).1, (box_kept (Kp.refl [] wx) hb2).1, hkW.trans hI.kp⟩
      go_wp2_with fail
      go_meet
      exact ⟨A, B, rfl, rfl, HST⟩
  case rest =>
    obtain ⟨A, B, rfl, rfl, HS⟩ := hcut
    have HS0 := Lib.hid HS.1
    have hk0 : Kp [] w wc := HS.2.2.2
    obtain ⟨a0, a1, a2⟩ := HS.2.1
    obtain ⟨b0, b1, b2⟩ := HS.2.2.1
    dsimp only at a0 a1 a2 b0 b1 b2
    clear HS
    have hw2 : wrap64 ((i : Int) + 2) = (i : Int) + 2 := by unfold wrap64; omega
    have hw3 : wrap64 ((i : Int) + 3) = (i : Int) + 3 := by unfold wrap64; omega
    go_wp2_with fail
    have q0 := KW.cell a0
    have q1 := KW.cell a1
    have q2 := KW.cell a2
    have q3 := KW.cell b0
    have q4 := KW.cell b1
    have q5 := KW.cell b2
    refine wp_region_kqt 11 (by kernel_rfl) (by kernel_rfl) ?_
    simp only [List.take_succ_cons, List.take_zero, List.drop_succ_cons, List.drop_zero]
    repeat (go_big_quiet_step ((first | (go_at_call 86; with_reducible exact Calls.kq (HA2.out _ (hk0.trans (KW.h _)))) | (go_at_call 86; with_reducible exact Calls.kq (HA3.out _ (hk0.trans (KW.h _)))))))
    refine wpQuiet_nil ?_
    intro w1 hw'
    obtain ⟨⟨_, hkw1⟩, rfl⟩ := hw'
    try dsimp only
    have HSR := Lib.hid (HS0.out.kp hkw1 (by simp))
    have hk9 : Kp [] w w1 := hk0.trans hkw1
    clear q0 q1 q2 q3 q4 q5 a0 a1 a2 b0 b1 b2 HS0
    obtain ⟨c0, c1, c2, c3, c4, c5, c6, c7, c8, c9, c10, c11, c12⟩ := HSR.out.cells
    obtain ⟨f0, f1, f2, f3, f4, f5, f6, f7, f8, f9, f10, f11, f12⟩ := HSR.out.frozen
    have HP := Lib.hid ((HSR.out.put hk9 (Nat.le_refl _) 3 px py pk qx qy 3 rx ry rk sx sy sk).2)
    simp only [cv0, pn0] at c0 c1 c2 c3 c4 c5 c6 c7 c8 c9 c10 c11 c12
    go_wp2_with fail
    refine bodyPost_ret (v := .tuple #[cvV ⟨3, ⟨px, py, pk⟩, ⟨qx, qy, 3⟩, ⟨rx, ry, rk⟩, ⟨sx, sy, sk⟩⟩, .int .i64 3]) (by simp [results, Try.results76, go_sem, cvV, cvCells, pn0, c0, c1, c2, c3, c4, c5, c6, c7, c8, c9, c10, c11, c12]) rfl ⟨rfl, HP.out⟩
end Go.Proofs.Ytpbmefojhgcniaa
namespace Go.Proofs.Ytpbmefojhgcniaa
open Go.RowKit
set_option linter.unusedVariables false
set_option linter.unusedSimpArgs false
theorem ocurve_calls (v : Value) (e : List Pn) (i : Nat) (w : World) (hv : IsPs w v e) (hi : i < e.length) (hl : e.length ≤ 1048576) (hk : (ringAt e ((i : Int) + 1)).k = 1 ∨ (ringAt e ((i : Int) + 1)).k = 2 ∨ (ringAt e ((i : Int) + 1)).k = 3) :
    Calls Try.prog 76 #[v, .int .i64 i] w fun r w' => r = .returned (.tuple #[cvV (cvAt e i), .int .i64 (stepN e i : Nat)]) ∧ Kp [] w w' := by
  unfold cvAt stepN
  rcases hk with h | h | h
  · rw [if_neg (by rw [h]; decide), if_neg (by rw [h]; decide), if_neg (by rw [h]; decide), if_neg (by rw [h]; decide)]
    exact curve1_calls v e i _ _ _ _ rfl rfl rfl rfl w hv hi hl h
  · rw [if_pos h, if_pos h]
    exact curve2_calls v e i _ _ _ _ rfl rfl rfl rfl w hv hi hl h
  · rw [if_neg (by rw [h]; decide), if_pos h, if_neg (by rw [h]; decide), if_pos h]
    exact curve3_calls v e i _ _ _ _ rfl rfl rfl rfl w hv hi hl h
/-- Curves as cells. -/
def cvsCells (l : List Cv) : List Value := l.flatMap fun q => (cvCells q).toList
theorem cvsCells_length (l : List Cv) : (cvsCells l).length = l.length * 13 := by
  induction l with
  | nil => rfl
  | cons p l ih => simp [cvsCells, cvCells] at ih ⊢; omega
theorem cvsCells_app (l r : List Cv) : cvsCells (l ++ r) = cvsCells l ++ cvsCells r := by simp [cvsCells]
theorem cvsCells_at (l : List Cv) (i : Nat) (h : i < l.length) : ∀ j, j < 13 → (cvsCells l)[i * 13 + j]? = (cvCells (l.getD i cv0))[j]? := by
  induction l generalizing i with
  | nil => simp at h
  | cons p l ih =>
    intro j hj
    have e : cvsCells (p :: l) = (cvCells p).toList ++ cvsCells l := by simp [cvsCells]
    have hl : (cvCells p).toList.length = 13 := rfl
    cases i with
    | zero =>
      rw [e, List.getElem?_append_left (by omega)]
      simp
    | succ i =>
      have := ih i (by simpa using h) j hj
      rw [e, List.getElem?_append_right (by omega), hl, show (i + 1) * 13 + j - 13 = i * 13 + j by omega, this]
      simp
/-- A slice of curves that can be read. -/
def IsCvs (w : World) (v : Value) (l : List Cv) : Prop := Reads 13 w v l.length (cvsCells l)
theorem IsCvs.kp0 {w w' : World} {v : Value} {l : List Cv} (h : IsCvs w v l) (hk : Kp [] w w') : IsCvs w' v l := Reads.kp h hk (by simp)
theorem IsCvs.nil (w : World) (a : Option Addr) : IsCvs w (.slice a 0 0) [] := ⟨rfl, .inl ⟨⟨a, rfl⟩, rfl⟩⟩
theorem IsCvs.owned {w : World} {base : Nat} {e : TypeId} {v : Value} {n : Nat} {l : List Cv} (hn : n = l.length) (h : w.ownsRow base e 13 v n (cvsCells l)) : IsCvs w v l := by
  subst hn; exact Reads.owned h
theorem IsCvs.form {w : World} {v : Value} {l : List Cv} (h : IsCvs w v l) : ∃ p c, v = .slice p l.length c := by
  rcases h.2 with ⟨⟨ad, rfl⟩, h0⟩ | ⟨g, off, c, rfl, _⟩
  · exact ⟨_, 0, by rw [h0]⟩
  · exact ⟨_, c, rfl⟩
/-- A curve of a row lies in thirteen cells. -/
theorem IsCvs.row {w : World} {v : Value} {l : List Cv} (h : IsCvs w v l) {i : Nat} (hi : i < l.length) : ∃ g off c, v = .slice (some ⟨g, off, none⟩) l.length c ∧ l.length ≤ c ∧ c ≤ maxLen ∧ ∀ j u, (cvCells (l.getD i cv0))[j]? = some u → w.cell? ⟨g, off + i * 13 + j, none⟩ = some u := by
  rcases h.2 with ⟨⟨ad, rfl⟩, h0⟩ | ⟨g, off, c, rfl, h1, h2, h3⟩
  · omega
  · refine ⟨g, off, c, rfl, h1, h2, fun j u hu => ?_⟩
    have hj : j < 13 := (Array.getElem?_eq_some_iff.1 hu).1
    have := h3 (i * 13 + j) u (by rw [cvsCells_at l i hi j hj]; exact hu)
    rwa [← Nat.add_assoc] at this
theorem infoCv : (Try.prog.info? 75).map (fun i => (i.zero, i.size, i.bytes)) = some (some (cvV cv0), 13, 104) := by kernel_rfl
theorem oneCell_cv (q : Cv) : ∀ u ∈ cvsCells [q], u.oneCell' = true := by
  intro u hu
  simp only [cvsCells, cvCells, List.flatMap_cons, List.flatMap_nil, List.append_nil, List.mem_cons, List.not_mem_nil, or_false] at hu
  rcases hu with rfl | rfl | rfl | rfl | rfl | rfl | rfl | rfl | rfl | rfl | rfl | rfl | rfl <;> rfl
section
variable {w : World} {ops : Array Oper} {o : Oper} {a : Act} {Q : Exit → Act → World → Prop}
/-- One curve more, onto a row of the call's own, inside a region that draws its order. -/
theorem step_pushC {K : Act → World → Prop} {E : Prop} (hgd : o.guard = none) (s x : Operand) (ho : o.op = .call { callee := .builtin .append, args := #[s, x], argTypes := #[68, 68] })
    (base : Nat) (v : Value) (l : List Cv) (n : Nat) (hn : l.length = n) (hs : a.eval s = v) (hown : w.ownsRow base 75 13 v n (cvsCells l)) (G C : Nat) (q : Cv)
    (hx : a.eval x = .slice (some ⟨G, 0, none⟩) 1 C) (hc : ∀ j u, (cvsCells [q])[j]? = some u → w.cell? ⟨G, 0 + j, none⟩ = some u)
    (hl : (n + 1) * 104 ≤ 140737488355328) (hbase : base ≤ w.heap.size)
    (h : ∀ v' w', w'.ownsRow base 75 13 v' (n + 1) (cvsCells (l ++ [q])) → (∀ w0, w0.heap.size ≤ base → Kp [] w0 w → Kp [] w0 w') → Kp v.ownBlock.toList w w' → K (a.put o.dst v') w') :
    if Region.wanted o (yielded ops a.tmps) = true then Oper.wp Try.prog o a w K Q else E := by
  have hw : Region.wanted o (yielded ops a.tmps) = true := by simp [Region.wanted, hgd]
  rw [if_pos hw]
  obtain ⟨i, hi, hz, hsize, hby⟩ := info_parts infoCv
  subst hn
  have hll : (cvsCells l).length = l.length * 13 := cvsCells_length l
  refine wp_append_own w s x _ ho base 75 i (cvV cv0) 13 104 Try.underlying68 hi hz hsize hby rfl (by decide) v l.length (cvsCells l) hs hown ⟨G, 0, none⟩ 1 C (cvsCells [q]) hx rfl (by intro j u hj; rw [add_lit]; exact hc j u hj) (oneCell_cv q) (by unfold maxLen; omega) hl hbase ?_
  intro v' w' r1 r2 _
  exact h v' w' (by rw [cvsCells_app]; exact r1) (fun w0 h0 hk => Kp.grown hk r2 (fun k hk' => .inr (by have := own_ge hown k hk'; omega))) (Kp.grown (Kp.refl _ _) r2 (fun k hk => .inl (by rw [hk]; simp)))
end
/-- A curve that has just been laid. -/
theorem litC {w W : World} {q : Cv} {G : Nat} (hk : Kp [] (w.alloc (.cells (cvCells q) 75)) W) (hG : G = w.heap.size) : ∀ j u, (cvsCells [q])[j]? = some u → W.cell? ⟨G, 0 + j, none⟩ = some u := by
  subst hG
  intro j u hu
  have h := hk.heap (heap_alloc_new w _) (by simp)
  rw [Nat.zero_add, cell_of_row W _ j _ _ (0, 0) h]
  simpa [cvsCells] using hu
end Go.Proofs.Ytpbmefojhgcniaa
namespace Go.Proofs.Ytpbmefojhgcniaa
open Go.RowKit
set_option linter.unusedVariables false
set_option linter.unusedSimpArgs false
section
variable {w : World} {ops : Array Oper} {o : Oper} {rest : List Oper} {a : Act} {Q : Exit → Act → World → Prop}
/-- One curve more, onto a row of the call's own, in order. -/
theorem wpList_pushC (hgd : o.guard = none) (s x : Operand) (ho : o.op = .call { callee := .builtin .append, args := #[s, x], argTypes := #[68, 68] })
    (base : Nat) (v : Value) (l : List Cv) (n : Nat) (hn : l.length = n) (hs : a.eval s = v) (hown : w.ownsRow base 75 13 v n (cvsCells l)) (G C : Nat) (q : Cv)
    (hx : a.eval x = .slice (some ⟨G, 0, none⟩) 1 C) (hc : ∀ j u, (cvsCells [q])[j]? = some u → w.cell? ⟨G, 0 + j, none⟩ = some u)
    (hl : (n + 1) * 104 ≤ 140737488355328) (hbase : base ≤ w.heap.size)
    (h : ∀ v' w', w'.ownsRow base 75 13 v' (n + 1) (cvsCells (l ++ [q])) → (∀ w0, w0.heap.size ≤ base → Kp [] w0 w → Kp [] w0 w') → Kp v.ownBlock.toList w w' → wpList Try.prog ops Q rest (a.put o.dst v') w') :
    wpList Try.prog ops Q (o :: rest) a w := by
  refine wpList_plain hgd (fun K hK => ?_)
  have := step_pushC (ops := ops) (K := K) (E := False) (Q := Q) hgd s x ho base v l n hn hs hown G C q hx hc hl hbase (fun v' w' a1 a2 a3 => hK _ _ (h v' w' a1 a2 a3))
  have hw : Region.wanted o (yielded ops a.tmps) = true := by simp [Region.wanted, hgd]
  rwa [if_pos hw] at this
end
theorem refTo_len (e : List Pn) (k : Nat) : (refTo e k).length ≤ k := by
  induction k with
  | zero => simp [refTo]
  | succ k ih => unfold refTo; rw [List.length_append]; split <;> simp <;> omega
theorem curvesTo_len (o : List (List Pn)) (B : Nat) (h : ∀ j, j < o.length → (o.getD j []).length ≤ B) : ∀ j, j ≤ o.length → (curvesTo o j).length ≤ j * B := by
  intro j
  induction j with
  | zero => intro _; simp [curvesTo]
  | succ j ih =>
    intro hj
    have h1 := ih (by omega)
    have h2 := h j (by omega)
    have h3 := refTo_len (o.getD j []) (o.getD j []).length
    rw [curvesTo, List.length_append, Nat.add_mul]; omega
theorem refTo_on (e : List Pn) (k : Nat) (h : (e.getD k pn0).k = 1) : refTo e (k + 1) = refTo e k ++ [cvAt e k] := by rw [refTo, if_pos h]
theorem refTo_off (e : List Pn) (k : Nat) (h : (e.getD k pn0).k ≠ 1) : refTo e (k + 1) = refTo e k := by rw [refTo, if_neg h, List.append_nil]
set_option maxRecDepth 100000 in
set_option maxHeartbeats 8000000 in
theorem rcurves_calls (v : Value) (o : List (List Pn)) (w : World) (hv : IsOut w v o) (hE : checkO o = 0) :
    Calls Try.prog 40 #[v] w fun r w' => ∃ v', r = .returned v' ∧ IsCvs w' v' (curvesTo (expO o) o.length) ∧ Kp [] w w' ∧ ∀ b, blockOf v' = some b → w.heap.size ≤ b ∧ b < w'.heap.size := by
  have HRX := Lib.hid (roexplicit_calls v o w hv hE)
  obtain ⟨hz1, hz2, hz3⟩ := checkO_zero hE
  obtain ⟨pa, ca, rfl⟩ := hv.form
  have hlX : (expO o).length = o.length := by unfold expO; rw [List.length_map]
  have HOK : Hid (∀ j, j < o.length → okE 0 ((expO o).getD j []) = true ∧ ((expO o).getD j []).length ≤ 8193) := fun j hj => by
    rw [expO_at o j hj]
    have a := (expC_len _ (mayCo_facts (hz3 j hj)).1).2
    have b := len_le_cnt o hj
    exact ⟨okE_expC (hz3 j hj), by omega⟩
  have HCL : Hid (∀ j, j ≤ o.length → (curvesTo (expO o) j).length ≤ j * 8193) := fun j hj => curvesTo_len (expO o) 8193 (fun i hi => (HOK.out i (by omega)).2) j (by omega)
  obtain ⟨X, hX⟩ : ∃ X, expO o = X := ⟨_, rfl⟩
  rw [hX] at HRX HOK HCL hlX ⊢
  obtain ⟨N, hN⟩ : ∃ N, o.length = N := ⟨_, rfl⟩
  rw [hN] at HRX HOK HCL hlX hz1 ⊢
  have HXN := Lib.hid hlX
  clear hN hX hv hE hz2 hz3 hlX
  go_enter Try.func40, Try.ntmps40
  go_wp2_with fail
  refine HRX.out.mono ?_; rintro r w1 ⟨v1, rfl, hw1, hk1⟩
  have ho1 := hw1.out
  obtain ⟨p1, c1, rfl⟩ := ho1.form
  have HO1 := Lib.hid ho1
  have HK1 := Lib.hid hk1
  rw [HXN.out] at HO1 ⊢
  clear hw1 ho1 hk1 HRX
  go_wp2_with fail
  go_loopw [3, 5, 6, 7, 8] (fun u i _ _ _ wr => ∃ (j : Nat) (l : Value), j ≤ N ∧ i = .int .i64 j ∧ l = u ∧ Hid (wr.ownsRow w1.heap.size 75 13 l (curvesTo X j).length (cvsCells (curvesTo X j)) ∧ Kp [] w1 wr)) (fun _ i _ _ _ _ => N - (intOf i).toNat)
  case atStart => exact ⟨0, _, by omega, rfl, rfl, World.ownsRow_nil _ _ _ _, Kp.refl _ _⟩
  case round =>
    obtain ⟨j, l, hj, rfl, rfl, HJ⟩ := hrel
    by_cases hlt : j < N
    · have hjo : j < X.length := by rw [HXN.out]; exact hlt
      obtain ⟨g1, o1, cc, pe, ce, e1, _, _, h1, hp⟩ := HO1.out.row hjo
      rw [HXN.out] at e1
      cases e1
      have HP : Hid (∀ W, Kp [] w1 W → IsPs W (.slice pe (X.getD j []).length ce) (X.getD j [])) := fun W hW => hp.kp0 hW
      replace h1 := HJ.out.2.cell h1 (by simp)
      obtain ⟨hok, hL⟩ := HOK.out j hlt
      have HOKJ := Lib.hid hok
      have HST : Hid (curvesTo X (j + 1) = curvesTo X j ++ refTo (X.getD j []) (X.getD j []).length) := rfl
      have hB : (curvesTo X j).length ≤ 2097408 := by have := HCL.out j hj; have : j * 8193 ≤ 256 * 8193 := Nat.mul_le_mul_right _ (by omega); omega
      have HJ0 : Hid (wr.ownsRow w1.heap.size 75 13 l (curvesTo X j ++ refTo (X.getD j []) 0).length (cvsCells (curvesTo X j ++ refTo (X.getD j []) 0)) ∧ Kp [] w1 wr) := by
        show _ ∧ _
        rw [show refTo (X.getD j []) 0 = [] from rfl, List.append_nil]; exact HJ.out
      generalize curvesTo X j = A at *
      generalize X.getD j [] = e at *
      clear hp HJ hok hjo
      obtain ⟨L, hcl⟩ : ∃ L, e.length = L := ⟨_, rfl⟩
      have HEL := Lib.hid hcl
      rw [hcl] at h1 hL HP HST
      clear hcl
      go_wp2_with fail
      go_loopw [3, 7, 8] (fun u k _ wr2 => ∃ (m : Nat) (l2 : Value), m ≤ L ∧ k = .int .i64 m ∧ l2 = u ∧ Hid (wr2.ownsRow w1.heap.size 75 13 l2 (A ++ refTo e m).length (cvsCells (A ++ refTo e m)) ∧ Kp [] w1 wr2)) (fun _ k _ _ => L - (intOf k).toNat)
      case atStart => exact ⟨0, _, by omega, rfl, rfl, HJ0.out⟩
      case round =>
        obtain ⟨m, l2, hm, rfl, rfl, HI⟩ := hrel
        clear HJ0 h1
        by_cases hml : m < L
        · obtain ⟨g2, o2, q2, e2, _, _, x0, y0, z0⟩ := (HP.out w1 (Kp.refl _ _)).row (i := m) (by rw [HEL.out]; exact hml)
          rw [HEL.out] at e2
          cases e2
          have hg2 : g2 < w1.heap.size := World.block_lt_of_cell? w1 _ x0
          have HON := Lib.hid (refTo_on e m)
          have HOFF := Lib.hid (refTo_off e m)
          have HAT : Hid (∀ (i : Int) W, Kp [] w1 W → -(L : Int) ≤ i → i ≤ 1048580 → Calls Try.prog 62 #[.slice (some ⟨g2, o2, none⟩) L ce, .int .i64 i] W fun r w' => r = .returned (pnV (ringAt e i)) ∧ Kp [] W w') := fun i W hW a b => by
            have := rat10_calls (.slice (some ⟨g2, o2, none⟩) L ce) e i W (HP.out W hW) (by rw [HEL.out]; omega) (by rw [HEL.out]; omega) (by rw [HEL.out]; omega) (by omega)
            exact this
          have hSF := fun hk => (step_facts HOKJ.out (i := m) (by rw [HEL.out]; exact hml) hk).2.2.2
          have HSF := Lib.hid hSF
          have HCV : Hid (cvAt e m = if (ringAt e ((m : Int) + 1)).k = 2 then ⟨2, e.getD m pn0, ringAt e ((m : Int) + 1), pn0, ringAt e ((m : Int) + 2)⟩
            else if (ringAt e ((m : Int) + 1)).k = 3 then ⟨3, e.getD m pn0, ringAt e ((m : Int) + 1), ringAt e ((m : Int) + 2), ringAt e ((m : Int) + 3)⟩
            else ⟨1, e.getD m pn0, pn0, pn0, ringAt e ((m : Int) + 1)⟩) := rfl
          have hBL : (A ++ refTo e m).length ≤ 2105601 := by rw [List.length_append]; have := refTo_len e m; omega
          have hk1r : Kp [] w1 wr := HI.out.2
          have hr2 := HI.out.1
          obtain ⟨p2, c2, el⟩ := slice_own hr2
          subst el
          have HRO := Lib.hid hr2
          have HKO := Lib.hid hk1r
          have hsq : w1.heap.size ≤ wr.heap.size := hk1r.size
          obtain ⟨O, hO⟩ : ∃ O, A ++ refTo e m = O := ⟨_, rfl⟩
          have HON2 : Hid ((e.getD m pn0).k = 1 → A ++ refTo e (m + 1) = O ++ [cvAt e m]) := fun h => by rw [HON.out h, ← List.append_assoc, hO]
          have HOFF2 : Hid ((e.getD m pn0).k ≠ 1 → A ++ refTo e (m + 1) = O) := fun h => by rw [HOFF.out h, hO]
          rw [hO] at HRO hBL ⊢
          obtain ⟨OL, hOL⟩ : ∃ OL, O.length = OL := ⟨_, rfl⟩
          have HOL := Lib.hid hOL
          rw [hOL] at HRO hBL ⊢
          clear hr2 HI hSF HON HOFF hO hOL
          have HC : Hid (∀ W, Kp [] w1 W → W.cell? ⟨g2, o2 + m * 3, none⟩ = some (.int .i64 (e.getD m pn0).x) ∧ W.cell? ⟨g2, o2 + m * 3 + 1, none⟩ = some (.int .i64 (e.getD m pn0).y) ∧ W.cell? ⟨g2, o2 + m * 3 + 2, none⟩ = some (.int .i64 (e.getD m pn0).k)) := fun W hW => ⟨hW.cell x0 (by simp), hW.cell y0 (by simp), hW.cell z0 (by simp)⟩
          clear x0 y0 z0
          obtain ⟨P, hP⟩ : ∃ P, e.getD m pn0 = P := ⟨_, rfl⟩
          rw [hP] at HC HON2 HOFF2 HSF HCV
          clear hP
          obtain ⟨px, py, pk⟩ := P
          dsimp only at HC HON2 HOFF2 HSF
          by_cases hpk : pk = 1
          · subst hpk
            have HEX := Lib.hid (HON2.out rfl)
            have hkinds := HSF.out rfl
            obtain ⟨x0, y0, z0⟩ := HC.out wr HKO.out
            have HA1 := Lib.hid (HAT.out ((m : Int) + 1) wr HKO.out (by omega) (by omega))
            have HA2 := Lib.hid (fun W hW => HAT.out ((m : Int) + 2) W hW (by omega) (by omega))
            have HA3 := Lib.hid (fun W hW => HAT.out ((m : Int) + 3) W hW (by omega) (by omega))
            obtain ⟨q, hq⟩ : ∃ q, ringAt e ((m : Int) + 1) = q := ⟨_, rfl⟩
            obtain ⟨q2, hq2⟩ : ∃ q, ringAt e ((m : Int) + 2) = q := ⟨_, rfl⟩
            obtain ⟨q3, hq3⟩ : ∃ q, ringAt e ((m : Int) + 3) = q := ⟨_, rfl⟩
            rw [hq] at hkinds HA1 HCV
            rw [hq2] at HA2 HCV
            rw [hq3] at HA3 HCV
            obtain ⟨qx, qy, qk⟩ := q
            obtain ⟨rx, ry, rk⟩ := q2
            obtain ⟨sx, sy, sk⟩ := q3
            rw [show pnV ⟨qx, qy, qk⟩ = .agg #[.int .i64 qx, .int .i64 qy, .int .i64 qk] from rfl] at HA1
            rw [show pnV ⟨rx, ry, rk⟩ = .agg #[.int .i64 rx, .int .i64 ry, .int .i64 rk] from rfl] at HA2
            rw [show pnV ⟨sx, sy, sk⟩ = .agg #[.int .i64 sx, .int .i64 sy, .int .i64 sk] from rfl] at HA3
            dsimp only at hkinds HCV
            have HGN : Hid (g2 ∉ (Value.slice p2 OL c2).ownBlock.toList) := fun h => by have := (HRO.out.lt g2 (by simpa using h)).1; omega
            have HOB : Hid (∀ s ∈ (Value.slice p2 OL c2).ownBlock.toList, s < wr.heap.size) := fun s hs => (HRO.out.lt s (by simpa using hs)).2
            have H24 : Hid ((OL + 1) * 104 ≤ 140737488355328) := by show _ ≤ _; omega
            clear hq hq2 hq3 HON2 HOFF2 HSF HAT hk1r
            have n0 : (0 : Int) ≤ (m : Int) := by omega
            have n1 : (m : Int) < (L : Int) := by omega
            rcases hkinds with rfl | rfl | rfl
            · have HC1 : Hid (A ++ refTo e (m + 1) = O ++ [⟨1, ⟨px, py, 1⟩, pn0, pn0, ⟨qx, qy, 1⟩⟩]) := by
                show _ = _
                rw [HEX.out, HCV.out]; rfl
              clear HEX HCV
              go_wp2_with fail
              refine HA1.out.mono ?_; rintro r w2 ⟨rfl, hk2⟩
              go_wp2_with fail
              refine wp_gen ?_; intro W0 hW0
              have hk0 : Kp [] wr W0 := by rw [hW0]; exact Kp.alloc hk2 _
              have hA := heap_alloc_new w2 (.cells #[.int .i64 qx, .int .i64 qy, .int .i64 1] 25)
              rw [← hW0] at hA
              obtain ⟨⟨b0, b1, b2⟩, _⟩ := box_kept (Kp.refl [] W0) hA
              have hbs : wr.heap.size ≤ w2.heap.size := hk2.size
              have hbn : w2.heap.size ∉ (Value.slice p2 OL c2).ownBlock.toList := fun h => by have := HOB.out _ h; omega
              have hgn := HGN.out
              clear hA hW0 x0 y0 z0
              obtain ⟨x1, y1, z1⟩ := HC.out W0 (HKO.out.trans hk0)
              have hws : wr.heap.size ≤ W0.heap.size := hk0.size
              go_region_held3 (fun w' => (w'.cell? ⟨g2, o2 + m * 3, none⟩ = some (.int .i64 px) ∧ w'.cell? ⟨g2, o2 + m * 3 + 1, none⟩ = some (.int .i64 py) ∧ w'.cell? ⟨g2, o2 + m * 3 + 2, none⟩ = some (.int .i64 1)) ∧ w'.cell? ⟨w2.heap.size, 0, none⟩ = some (.int .i64 qx) ∧ w'.cell? ⟨w2.heap.size, 1, none⟩ = some (.int .i64 qy) ∧ w'.cell? ⟨w2.heap.size, 2, none⟩ = some (.int .i64 1))
                (first | go_keep | exact ⟨⟨hX0.cell x1 hgn, hX0.cell y1 hgn, hX0.cell z1 hgn⟩, hX0.cell b0 hbn, hX0.cell b1 hbn, hX0.cell b2 hbn⟩ | exact ⟨⟨hkc.cell x1 (by simp), hkc.cell y1 (by simp), hkc.cell z1 (by simp)⟩, hkc.cell b0 (by simp), hkc.cell b1 (by simp), hkc.cell b2 (by simp)⟩)
                ((first
                | (refine step_pushC rfl _ _ rfl w1.heap.size (.slice p2 OL c2) O OL HOL.out (by rfl) (Kp.row (S := []) (Kp.trans hk0 (by ((repeat (first | exact Kp.refl _ _ | assumption | refine Kp.drew ?_ | refine Kp.drewN ?_ _ | refine Kp.alloc ?_ _)); done))) HRO.out (by simp)) _ 1 ⟨1, ⟨px, py, 1⟩, pn0, pn0, ⟨qx, qy, 1⟩⟩ rfl (litC (w := W0) (by ((repeat (first | exact Kp.refl _ _ | assumption | refine Kp.drew ?_ | refine Kp.drewN ?_ _ | refine Kp.alloc ?_ _)); done)) (by simp)) H24.out (Nat.le_trans hsq (Nat.le_trans hws (by simp))) ?_
                   intro v6 w6 hown6 hgr6 hkb6
                   have hX0 : Kp (Value.slice p2 OL c2).ownBlock.toList W0 w6 := Kp.trans (by ((repeat (first | exact Kp.refl _ _ | assumption | refine Kp.drew ?_ | refine Kp.drewN ?_ _ | refine Kp.alloc ?_ _)); done)) hkb6)))
              obtain ⟨p6, q6, rfl⟩ := slice_own hown6
              have HF : Hid (w6.ownsRow w1.heap.size 75 13 (.slice p6 (OL + 1) q6) (A ++ refTo e (m + 1)).length (cvsCells (A ++ refTo e (m + 1))) ∧ Kp [] w1 w6) := by
                show _ ∧ _
                rw [HC1.out, List.length_append, HOL.out]
                exact ⟨hown6, hgr6 w1 (Nat.le_refl _) (HKO.out.trans (Kp.trans hk0 (by ((repeat (first | exact Kp.refl _ _ | assumption | refine Kp.drew ?_ | refine Kp.drewN ?_ _ | refine Kp.alloc ?_ _)); done))))⟩
              clear hown6 hgr6 hkb6 hX0 x1 y1 z1 b0 b1 b2 hbn hgn
              go_wp2_with fail
              go_roundw
              case rel => first | exact ⟨m + 1, _, by omega, int_eq' (by omega), rfl, HF⟩ | ((repeat apply Exists.intro); exact ⟨⟨m + 1, _, by omega, int_eq' (by omega), rfl, HF⟩, rfl⟩)
              case measure => simp [intOf] <;> omega
            · have HC1 : Hid (A ++ refTo e (m + 1) = O ++ [⟨2, ⟨px, py, 1⟩, ⟨qx, qy, 2⟩, pn0, ⟨rx, ry, rk⟩⟩]) := by
                show _ = _
                rw [HEX.out, HCV.out]; rfl
              clear HEX HCV
              go_wp2_with fail
              refine HA1.out.mono ?_; rintro r w2 ⟨rfl, hk2⟩
              go_wp2_with fail
              refine wp_gen ?_; intro W0 hW0
              have hk0 : Kp [] wr W0 := by rw [hW0]; exact Kp.alloc hk2 _
              have hA := heap_alloc_new w2 (.cells #[.int .i64 qx, .int .i64 qy, .int .i64 2] 25)
              rw [← hW0] at hA
              obtain ⟨⟨b0, b1, b2⟩, _⟩ := box_kept (Kp.refl [] W0) hA
              clear hA hW0 x0 y0 z0
              obtain ⟨x1, y1, z1⟩ := HC.out W0 (HKO.out.trans hk0)
              have hws : wr.heap.size ≤ W0.heap.size := hk0.size
              have u0 := KW.cell x1
              have u1 := KW.cell y1
              have u2 := KW.cell z1
              have u3 := KW.cell b0
              have u4 := KW.cell b1
              have u5 := KW.cell b2
              clear x1 y1 z1 b0 b1 b2
              have hk0w := HKO.out.trans hk0
              refine wp_region_plan [0] [1, 2, 3, 4, 5, 6, 7, 8, 9, 10] [11, 12, 13] (by kernel_rfl) (by kernel_rfl) ?_
              simp only [pickAt_nil, pickAt_cons, List.getElem?_cons_zero, List.getElem?_cons_succ, Option.toList_some, List.cons_append, List.nil_append]
              repeat (go_big_quiet_step ((go_at_call 62; exact Calls.kq (HA2.out _ (hk0w.trans (KW.h _))))))
              refine wpQuiet_nil ?_
              repeat (go_big_quiet_step ((go_at_call 62; exact Calls.kq (HA2.out _ (hk0w.trans (KW.h _))))))
              refine wpQuiet_nil ?_
              intro w3 hw'
              obtain ⟨⟨_, hkw3⟩, rfl⟩ := hw'
              try dsimp only
              clear u0 u1 u2 u3 u4 u5
              have HKL : Hid (Kp [] wr (w3.alloc (.cells (cvCells ⟨2, ⟨px, py, 1⟩, ⟨qx, qy, 2⟩, pn0, ⟨rx, ry, rk⟩⟩) 75))) := (hk0.trans hkw3).alloc _
              have HROW := Lib.hid (Kp.row (S := []) HKL.out HRO.out (by simp))
              have HSZ : Hid (w1.heap.size ≤ (w3.alloc (.cells (cvCells ⟨2, ⟨px, py, 1⟩, ⟨qx, qy, 2⟩, pn0, ⟨rx, ry, rk⟩⟩) 75)).heap.size) := Nat.le_trans hsq HKL.out.size
              clear hk0 hkw3 hk0w
              go_wp2_with (at_builtin; refine wpList_pushC rfl _ _ rfl w1.heap.size (.slice p2 OL c2) O OL HOL.out (by rfl) ?hrow _ 1 ⟨2, ⟨px, py, 1⟩, ⟨qx, qy, 2⟩, pn0, ⟨rx, ry, rk⟩⟩ rfl (litC (w := w3) ?hkz rfl) H24.out ?hsz ?hk)
              case hrow => exact HROW.out
              case hkz => exact Kp.refl _ _
              case hsz => exact HSZ.out
              case hk =>
              have hkl := HKL.out
              intro v6 w6 hown6 hgr6 hkb6
              obtain ⟨p6, q6, rfl⟩ := slice_own hown6
              have HF : Hid (w6.ownsRow w1.heap.size 75 13 (.slice p6 (OL + 1) q6) (A ++ refTo e (m + 1)).length (cvsCells (A ++ refTo e (m + 1))) ∧ Kp [] w1 w6) := by
                show _ ∧ _
                rw [HC1.out, List.length_append, HOL.out]
                exact ⟨hown6, hgr6 w1 (Nat.le_refl _) (HKO.out.trans hkl)⟩
              clear hown6 hgr6 hkb6 hkl HKL HROW HSZ
              go_wp2_with fail
              refine QN.intro ?_
              go_wp2_with fail
              go_roundw
              case rel => first | exact ⟨m + 1, _, by omega, int_eq' (by omega), rfl, HF⟩ | ((repeat apply Exists.intro); exact ⟨⟨m + 1, _, by omega, int_eq' (by omega), rfl, HF⟩, rfl⟩)
              case measure => simp [intOf] <;> omega
            · have HC1 : Hid (A ++ refTo e (m + 1) = O ++ [⟨3, ⟨px, py, 1⟩, ⟨qx, qy, 3⟩, ⟨rx, ry, rk⟩, ⟨sx, sy, sk⟩⟩]) := by
                show _ = _
                rw [HEX.out, HCV.out]; rfl
              clear HEX HCV
              go_wp2_with fail
              refine HA1.out.mono ?_; rintro r w2 ⟨rfl, hk2⟩
              go_wp2_with fail
              refine wp_gen ?_; intro W0 hW0
              have hk0 : Kp [] wr W0 := by rw [hW0]; exact Kp.alloc hk2 _
              have hA := heap_alloc_new w2 (.cells #[.int .i64 qx, .int .i64 qy, .int .i64 3] 25)
              rw [← hW0] at hA
              obtain ⟨⟨b0, b1, b2⟩, _⟩ := box_kept (Kp.refl [] W0) hA
              clear hA hW0 x0 y0 z0
              obtain ⟨x1, y1, z1⟩ := HC.out W0 (HKO.out.trans hk0)
              have hws : wr.heap.size ≤ W0.heap.size := hk0.size
              have u0 := KW.cell x1
              have u1 := KW.cell y1
              have u2 := KW.cell z1
              have u3 := KW.cell b0
              have u4 := KW.cell b1
              have u5 := KW.cell b2
              clear x1 y1 z1 b0 b1 b2
              have hk0w := HKO.out.trans hk0
              refine wp_region_plan [0] [1, 2, 3, 4, 5, 6, 7, 8, 9, 10, 11, 12, 13, 14] [15, 16, 17] (by kernel_rfl) (by kernel_rfl) ?_
              simp only [pickAt_nil, pickAt_cons, List.getElem?_cons_zero, List.getElem?_cons_succ, Option.toList_some, List.cons_append, List.nil_append]
              repeat (go_big_quiet_step ((first | (go_at_call 62; with_reducible exact Calls.kq (HA2.out _ (hk0w.trans (KW.h _)))) | (go_at_call 62; with_reducible exact Calls.kq (HA3.out _ (hk0w.trans (KW.h _)))))))
              refine wpQuiet_nil ?_
              repeat (go_big_quiet_step ((first | (go_at_call 62; with_reducible exact Calls.kq (HA2.out _ (hk0w.trans (KW.h _)))) | (go_at_call 62; with_reducible exact Calls.kq (HA3.out _ (hk0w.trans (KW.h _)))))))
              refine wpQuiet_nil ?_
              intro w3 hw'
              obtain ⟨⟨_, hkw3⟩, rfl⟩ := hw'
              try dsimp only
              clear u0 u1 u2 u3 u4 u5
              have HKL : Hid (Kp [] wr (w3.alloc (.cells (cvCells ⟨3, ⟨px, py, 1⟩, ⟨qx, qy, 3⟩, ⟨rx, ry, rk⟩, ⟨sx, sy, sk⟩⟩) 75))) := (hk0.trans hkw3).alloc _
              have HROW := Lib.hid (Kp.row (S := []) HKL.out HRO.out (by simp))
              have HSZ : Hid (w1.heap.size ≤ (w3.alloc (.cells (cvCells ⟨3, ⟨px, py, 1⟩, ⟨qx, qy, 3⟩, ⟨rx, ry, rk⟩, ⟨sx, sy, sk⟩⟩) 75)).heap.size) := Nat.le_trans hsq HKL.out.size
              clear hk0 hkw3 hk0w
              go_wp2_with (at_builtin; refine wpList_pushC rfl _ _ rfl w1.heap.size (.slice p2 OL c2) O OL HOL.out (by rfl) ?hrow _ 1 ⟨3, ⟨px, py, 1⟩, ⟨qx, qy, 3⟩, ⟨rx, ry, rk⟩, ⟨sx, sy, sk⟩⟩ rfl (litC (w := w3) ?hkz rfl) H24.out ?hsz ?hk)
              case hrow => exact HROW.out
              case hkz => exact Kp.refl _ _
              case hsz => exact HSZ.out
              case hk =>
              have hkl := HKL.out
              intro v6 w6 hown6 hgr6 hkb6
              obtain ⟨p6, q6, rfl⟩ := slice_own hown6
              have HF : Hid (w6.ownsRow w1.heap.size 75 13 (.slice p6 (OL + 1) q6) (A ++ refTo e (m + 1)).length (cvsCells (A ++ refTo e (m + 1))) ∧ Kp [] w1 w6) := by
                show _ ∧ _
                rw [HC1.out, List.length_append, HOL.out]
                exact ⟨hown6, hgr6 w1 (Nat.le_refl _) (HKO.out.trans hkl)⟩
              clear hown6 hgr6 hkb6 hkl HKL HROW HSZ
              go_wp2_with fail
              refine QN.intro ?_
              go_wp2_with fail
              go_roundw
              case rel => first | exact ⟨m + 1, _, by omega, int_eq' (by omega), rfl, HF⟩ | ((repeat apply Exists.intro); exact ⟨⟨m + 1, _, by omega, int_eq' (by omega), rfl, HF⟩, rfl⟩)
              case measure => simp [intOf] <;> omega
          · have hpb : (pk == 1) = false := by simpa using hpk
            have HEX := Lib.hid (HOFF2.out hpk)
            obtain ⟨x0, y0, z0⟩ := HC.out wr HKO.out
            have HF : Hid (wr.ownsRow w1.heap.size 75 13 (.slice p2 OL c2) (A ++ refTo e (m + 1)).length (cvsCells (A ++ refTo e (m + 1))) ∧ Kp [] w1 wr) := by
              show _ ∧ _
              rw [HEX.out, HOL.out]; exact ⟨HRO.out, HKO.out⟩
            clear HON2 HOFF2 HSF HCV
            go_wp2_with fail
            go_roundw
            case rel => first | exact ⟨m + 1, _, by omega, int_eq' (by omega), rfl, HF⟩ | ((repeat apply Exists.intro); exact ⟨⟨m + 1, _, by omega, int_eq' (by omega), rfl, HF⟩, rfl⟩)
            case measure => simp [intOf] <;> omega
        · obtain rfl : m = L := by omega
          have HF : Hid (wr.ownsRow w1.heap.size 75 13 l2 (curvesTo X (j + 1)).length (cvsCells (curvesTo X (j + 1))) ∧ Kp [] w1 wr) := by
            show _ ∧ _
            rw [HST.out]; exact HI.out
          clear HI
          go_wp2_with fail
          go_roundw
          case rel => first | exact ⟨j + 1, _, by omega, int_eq' (by omega), rfl, HF⟩ | ((repeat apply Exists.intro); exact ⟨⟨j + 1, _, by omega, int_eq' (by omega), rfl, HF⟩, rfl⟩)
          case measure => simp [intOf] <;> omega
    · obtain rfl : j = N := by omega
      have HF : Hid (IsCvs wr l (curvesTo X j) ∧ Kp [] w wr ∧ ∀ b, blockOf l = some b → w.heap.size ≤ b ∧ b < wr.heap.size) := ⟨IsCvs.owned rfl HJ.out.1, HK1.out.trans HJ.out.2, fun b hb => by
        rcases HJ.out.1.2 with ⟨rfl, _⟩ | ⟨g, cap, cur, rfl, h1, h2, _⟩
        · simp at hb
        · obtain ⟨_, rfl⟩ := (blockOf_some _ _ _ _ _ _).1 hb
          exact ⟨Nat.le_trans HK1.out.size h1, lt_of_block h2⟩⟩
      clear HJ
      go_wp2_with fail
      go_ret
      exact ⟨_, rfl, HF.out.1, HF.out.2.1, HF.out.2.2⟩
end Go.Proofs.Ytpbmefojhgcniaa

/- outline: the curves of an explicit contour (plain). -/
import Derived.Test.YtodjohoonbkklaaOvJ
namespace Go.Proofs.Ytodjohoonbkklaa
open Go.RowKit
set_option linter.unusedVariables false
set_option linter.unusedSimpArgs false
/-- A contour as it is read point by point: 0: a point on the outline is to come; 1: behind one; 2: behind a quadratic one's control point; 3, 4: behind the first, the second of a cubic one's. -/
def okS : Nat → List Pn → Bool
  | 0, [] => true
  | 0, p :: l => p.k == 1 && okS 1 l
  | 1, [] => true
  | 1, p :: l => (p.k == 1 && okS 1 l) || ((p.k == 2 && okS 2 l) || (p.k == 3 && okS 3 l))
  | 2, [] => true
  | 2, p :: l => (p.k == 1 && okS 1 l) || (p.k == 2 && okS 2 l)
  | 3, [] => false
  | 3, p :: l => p.k == 3 && okS 4 l
  | 4, [] => true
  | 4, p :: l => p.k == 1 && okS 1 l
  | _, _ => false
/-- The same without two quadratic ones side by side. -/
def okE : Nat → List Pn → Bool
  | 0, [] => true
  | 0, p :: l => p.k == 1 && okE 1 l
  | 1, [] => true
  | 1, p :: l => (p.k == 1 && okE 1 l) || ((p.k == 2 && okE 2 l) || (p.k == 3 && okE 3 l))
  | 2, [] => true
  | 2, p :: l => p.k == 1 && okE 1 l
  | 3, [] => false
  | 3, p :: l => p.k == 3 && okE 4 l
  | 4, [] => true
  | 4, p :: l => p.k == 1 && okE 1 l
  | _, _ => false
/-- What is laid behind a point. -/
def expT : Pn → List Pn → List Pn
  | _, [] => []
  | p, q :: l => (if q.k = 2 ∧ p.k = 2 then [midP p q] else []) ++ q :: expT q l
theorem okE_exp : ∀ (l : List Pn) (p : Pn) (st : Nat), (st = 1 ∨ st = 2 ∨ st = 3 ∨ st = 4) → (st = 2 ↔ p.k = 2) → okS st l = true → okE st (expT p l) = true := by
  intro l
  induction l with
  | nil =>
    intro p st hst _ h
    rcases hst with rfl | rfl | rfl | rfl <;> simp_all [okS, okE, expT]
  | cons q l ih =>
    intro p st hst hp h
    unfold expT
    rcases hst with rfl | rfl | rfl | rfl
    · rw [if_neg (fun x => by have := hp.2 x.2; omega)]
      simp only [okS, Bool.or_eq_true, Bool.and_eq_true, beq_iff_eq] at h
      simp only [List.nil_append, okE, Bool.or_eq_true, Bool.and_eq_true, beq_iff_eq]
      rcases h with ⟨h1, h2⟩ | ⟨h1, h2⟩ | ⟨h1, h2⟩
      · exact .inl ⟨h1, ih q 1 (by simp) (by simp [h1]) h2⟩
      · exact .inr (.inl ⟨h1, ih q 2 (by simp) (by simp [h1]) h2⟩)
      · exact .inr (.inr ⟨h1, ih q 3 (by simp) (by simp [h1]) h2⟩)
    · simp only [okS, Bool.or_eq_true, Bool.and_eq_true, beq_iff_eq] at h
      rcases h with ⟨h1, h2⟩ | ⟨h1, h2⟩
      · rw [if_neg (fun x => by rw [h1] at x; exact absurd x.1 (by decide))]
        simp only [List.nil_append, okE, Bool.and_eq_true, beq_iff_eq]
        exact ⟨h1, ih q 1 (by simp) (by simp [h1]) h2⟩
      · rw [if_pos ⟨h1, hp.1 rfl⟩]
        simp only [List.cons_append, List.nil_append, okE, Bool.or_eq_true, Bool.and_eq_true, beq_iff_eq]
        exact ⟨rfl, .inr (.inl ⟨h1, ih q 2 (by simp) (by simp [h1]) h2⟩)⟩
    · rw [if_neg (fun x => by have := hp.2 x.2; omega)]
      simp only [okS, Bool.and_eq_true, beq_iff_eq] at h
      simp only [List.nil_append, okE, Bool.and_eq_true, beq_iff_eq]
      exact ⟨h.1, ih q 4 (by simp) (by simp [h.1]) h.2⟩
    · rw [if_neg (fun x => by have := hp.2 x.2; omega)]
      simp only [okS, Bool.and_eq_true, beq_iff_eq] at h
      simp only [List.nil_append, okE, Bool.and_eq_true, beq_iff_eq]
      exact ⟨h.1, ih q 1 (by simp) (by simp [h.1]) h.2⟩
theorem expS_snoc : ∀ (l : List Pn) (p q : Pn), expT p (l ++ [q]) = expT p l ++ ((if q.k = 2 ∧ ((p :: l).getD l.length pn0).k = 2 then [midP ((p :: l).getD l.length pn0) q] else []) ++ [q]) := by
  intro l
  induction l with
  | nil => intro p q; simp [expT]
  | cons r l ih =>
    intro p q
    rw [List.cons_append, expT, ih r q, expT, List.append_assoc, List.cons_append]
    simp
theorem expG_S (T : List Pn) : ∀ j, j < T.length → expG T j = T.getD 0 pn0 :: expT (T.getD 0 pn0) ((T.drop 1).take j) := by
  intro j
  induction j with
  | zero => intro hj; simp [expG, expT]
  | succ j ih =>
    intro hj
    have hd : j < (T.drop 1).length := by rw [List.length_drop]; omega
    have h1 : (T.drop 1)[j] = T.getD (j + 1) pn0 := by
      rw [List.getElem_drop, List.getD_eq_getElem?_getD, List.getElem?_eq_getElem (by omega)]
      simp [Nat.add_comm]
    rw [expG_succ, ih (by omega), List.take_succ_eq_append_getElem hd, h1, expS_snoc]
    have h2 : ((T.getD 0 pn0 :: (T.drop 1).take j).getD ((T.drop 1).take j).length pn0) = T.getD j pn0 := by
      have hl : ((T.drop 1).take j).length = j := by rw [List.length_take]; omega
      rw [hl]
      cases j with
      | zero => rfl
      | succ j =>
        rw [List.getD_eq_getElem?_getD, List.getElem?_cons_succ, List.getElem?_take, if_pos (by omega), List.getElem?_drop, List.getD_eq_getElem?_getD, Nat.add_comm]
    rw [h2]
    simp [List.append_assoc]
theorem expC_S (c : List Pn) (h0 : 0 < c.length) : expC c = (turnP c).getD 0 pn0 :: expT ((turnP c).getD 0 pn0) ((turnP c).drop 1) := by
  have hT := turnP_len c h0
  unfold expC
  rw [expG_S (turnP c) _ (by omega), List.take_of_length_le (by rw [List.length_drop]; omega)]
/-- The kinds that stand side by side in a list, its beginning behind its end. -/
structure Loc (k : Nat → Int) (n : Nat) : Prop where
  kind : ∀ i, i < n → k i = 1 ∨ k i = 2 ∨ k i = 3
  cub : ∀ i, i < n → k i = 1 → k (i + 1) = 3 → k (i + 2) = 3 ∧ k (i + 3) = 1
  quad : ∀ i, i < n → k i = 2 → k (i + 1) ≠ 3
  cub2 : ∀ i, i < n → k i = 3 → k (i + 1) = 3 → k (i + 2) = 1
  cub3 : ∀ i, i < n → k i = 3 → k (i + 1) = 3 ∨ k (i + 1) = 1
/-- The state behind a point. -/
def stOf (a b : Int) : Nat := if a = 1 then 1 else if a = 2 then 2 else if b = 3 then 3 else 4
theorem st1 (x : Int) : stOf 1 x = 1 := if_pos rfl
theorem st2 (x : Int) : stOf 2 x = 2 := by unfold stOf; rw [if_neg (by decide), if_pos rfl]
theorem st33 : stOf 3 3 = 3 := rfl
theorem st31 : stOf 3 1 = 4 := rfl
theorem okS_loc (k : Nat → Int) (n : Nat) (h : Loc k n) (hn : k n = 1) (T : List Pn) (hT : T.length = n) (hk : ∀ i, i < n → (T.getD i pn0).k = k i) :
    ∀ d j, j + d = n → 1 ≤ j → (k (j - 1) = 3 → k j = 3 → 2 ≤ j ∧ k (j - 2) = 1) → okS (stOf (k (j - 1)) (k j)) (T.drop j) = true := by
  intro d
  induction d with
  | zero =>
    intro j hj h1 _
    have : T.drop j = [] := List.drop_eq_nil_of_le (by omega)
    rw [this]
    obtain rfl : j = n := by omega
    unfold stOf
    rw [hn]
    rcases h.kind (j - 1) (by omega) with e | e | e <;> rw [e] <;> decide
  | succ d ih =>
    intro j hj h1 hc
    have hjT : j < T.length := by omega
    have hcons : T.drop j = T.getD j pn0 :: T.drop (j + 1) := by
      rw [List.drop_eq_getElem_cons hjT, List.getD_eq_getElem?_getD, List.getElem?_eq_getElem hjT]; rfl
    have hkj := hk j (by omega)
    rw [hcons]
    have e1 : j - 1 + 1 = j := by omega
    have e2 : j - 1 + 2 = j + 1 := by omega
    have e3 : j - 1 + 3 = j + 2 := by omega
    have q1 := h.cub (j - 1) (by omega)
    have q2 := h.quad (j - 1) (by omega)
    have q3 := h.cub2 (j - 1) (by omega)
    have q4 := h.cub3 (j - 1) (by omega)
    have q5 := h.cub3 j (by omega)
    rw [e1, e2, e3] at q1
    rw [e1] at q2 q4
    rw [e1, e2] at q3
    have hn2 := ih (j + 1) (by omega) (by omega) (by
      rw [Nat.add_sub_cancel, show j + 1 - 2 = j - 1 by omega]
      intro a b
      refine ⟨by omega, ?_⟩
      rcases h.kind (j - 1) (by omega) with e | e | e
      · exact e
      · exact absurd a (q2 e)
      · have := q3 e a; rw [this] at b; exact absurd b (by decide))
    rw [Nat.add_sub_cancel] at hn2
    rcases h.kind (j - 1) (by omega) with e | e | e
    · rcases h.kind j (by omega) with f | f | f
      · rw [f] at hkj hn2
        rw [e, st1]
        rw [st1] at hn2
        simp only [okS, hkj, hn2]; simp
      · rw [f] at hkj hn2
        rw [e, st1]
        rw [st2] at hn2
        simp only [okS, hkj, hn2]; simp
      · have := (q1 e f).1
        rw [f, this, st33] at hn2
        rw [f] at hkj
        rw [e, st1]
        simp only [okS, hkj, hn2]; simp
    · rcases h.kind j (by omega) with f | f | f
      · rw [f] at hkj hn2
        rw [e, st2]
        rw [st1] at hn2
        simp only [okS, hkj, hn2]; simp
      · rw [f] at hkj hn2
        rw [e, st2]
        rw [st2] at hn2
        simp only [okS, hkj, hn2]; simp
      · exact absurd f (q2 e)
    · rcases q4 e with f | f
      · have hg := q3 e f
        rw [f, hg, st31] at hn2
        rw [f] at hkj
        rw [e, f, st33]
        simp only [okS, hkj, hn2]; simp
      · rw [f] at hkj hn2
        rw [e, f, st31]
        rw [st1] at hn2
        simp only [okS, hkj, hn2]; simp
theorem ring_shift (c : List Pn) (i d : Int) : ringAt c (i % (c.length : Int) + d) = ringAt c (i + d) := by
  unfold ringAt; rw [Int.emod_add_emod]
theorem may_ring {c : List Pn} (h : mayCo c = true) (i : Int) : (ringAt c i).k = 1 ∨ (ringAt c i).k = 2 ∨ ((ringAt c i).k = 3 ∧ (((ringAt c (i - 1)).k = 1 ∧ (ringAt c (i + 1)).k = 3 ∧ (ringAt c (i + 2)).k = 1) ∨ ((ringAt c (i + 1)).k = 1 ∧ (ringAt c (i - 1)).k = 3 ∧ (ringAt c (i - 2)).k = 1))) := by
  obtain ⟨h0, _, h2⟩ := mayCo_facts h
  obtain ⟨m, hm, hmod, hr⟩ := ring_idx c i h0
  have h3 := h2 m hm
  unfold mayPn standsB kindsB at h3
  rw [← hr] at h3
  have s1 : ringAt c ((m : Int) - 1) = ringAt c (i - 1) := by rw [← hmod]; exact ring_shift c i (-1)
  have s2 : ringAt c ((m : Int) + 1) = ringAt c (i + 1) := by rw [← hmod]; exact ring_shift c i 1
  have s3 : ringAt c ((m : Int) + 2) = ringAt c (i + 2) := by rw [← hmod]; exact ring_shift c i 2
  have s4 : ringAt c ((m : Int) - 2) = ringAt c (i - 2) := by rw [← hmod]; exact ring_shift c i (-2)
  rw [s1, s2, s3, s4] at h3
  simp only [Bool.and_eq_true, Bool.or_eq_true, beq_iff_eq, decide_eq_true_eq] at h3
  rcases h3.2.2 with h | h | ⟨h, _, h4⟩
  · exact .inl h
  · exact .inr (.inl h)
  · exact .inr (.inr ⟨h, h4⟩)
theorem loc_of {c : List Pn} (h : mayCo c = true) (f : Int) (n : Nat) : Loc (fun i => (ringAt c (f + (i : Nat))).k) n := by
  have key := fun i : Nat => may_ring h (f + i)
  have a1 : ∀ i : Nat, f + ((i + 1 : Nat) : Int) - 1 = f + i := fun i => by omega
  have a2 : ∀ i : Nat, f + ((i + 1 : Nat) : Int) + 1 = f + ((i + 2 : Nat) : Int) := fun i => by omega
  have a3 : ∀ i : Nat, f + ((i + 1 : Nat) : Int) + 2 = f + ((i + 3 : Nat) : Int) := fun i => by omega
  have a4 : ∀ i : Nat, f + (i : Int) + 1 = f + ((i + 1 : Nat) : Int) := fun i => by omega
  refine ⟨fun i _ => ?_, fun i _ h1 h2 => ?_, fun i _ h1 h2 => ?_, fun i _ h1 h2 => ?_, fun i _ h1 => ?_⟩
  · rcases key i with h | h | ⟨h, _⟩
    · exact .inl h
    · exact .inr (.inl h)
    · exact .inr (.inr h)
  · rcases key (i + 1) with e | e | ⟨_, ⟨_, e2, e3⟩ | ⟨_, e2, _⟩⟩
    · rw [e] at h2; exact absurd h2 (by decide)
    · rw [e] at h2; exact absurd h2 (by decide)
    · rw [a2] at e2; rw [a3] at e3; exact ⟨e2, e3⟩
    · rw [a1] at e2; rw [e2] at h1; exact absurd h1 (by decide)
  · rcases key (i + 1) with e | e | ⟨_, ⟨e2, _, _⟩ | ⟨_, e2, _⟩⟩
    · rw [e] at h2; exact absurd h2 (by decide)
    · rw [e] at h2; exact absurd h2 (by decide)
    · rw [a1] at e2; rw [e2] at h1; exact absurd h1 (by decide)
    · rw [a1] at e2; rw [e2] at h1; exact absurd h1 (by decide)
  · rcases key (i + 1) with e | e | ⟨_, ⟨e2, _, _⟩ | ⟨e3, e2, _⟩⟩
    · rw [e] at h2; exact absurd h2 (by decide)
    · rw [e] at h2; exact absurd h2 (by decide)
    · rw [a1] at e2; rw [e2] at h1; exact absurd h1 (by decide)
    · rw [a2] at e3; exact e3
  · rcases key i with e | e | ⟨_, ⟨_, e2, _⟩ | ⟨e2, _, _⟩⟩
    · rw [e] at h1; exact absurd h1 (by decide)
    · rw [e] at h1; exact absurd h1 (by decide)
    · rw [a4] at e2; exact .inl e2
    · rw [a4] at e2; exact .inr e2
theorem okS_quads (l : List Pn) (h : ∀ i, i < l.length → (l.getD i pn0).k = 2) : okS 2 l = true := by
  induction l with
  | nil => rfl
  | cons p l ih =>
    have h0 : p.k = 2 := h 0 (by simp)
    have h1 := ih (fun i hi => h (i + 1) (by simpa using hi))
    simp only [okS, h0, h1]; simp
/-- An explicit contour goes from curve to curve. -/
theorem okE_expC {c : List Pn} (h : mayCo c = true) : okE 0 (expC c) = true := by
  obtain ⟨h0, _, _⟩ := mayCo_facts h
  have hT := turnP_len c h0
  have hhead := turnP_head c h0
  rw [expC_S c h0]
  have hS : okS 1 ((turnP c).drop 1) = true := by
    by_cases hf : onAt c < c.length
    · have hlen : (turnP c).length = c.length := by unfold turnP; rw [if_pos hf, List.length_append, List.length_drop, List.length_take]; omega
      have hk0 : (ringAt c ((onAt c : Int) + ((0 : Nat) : Int))).k = 1 := by rw [← turn_at c 0 hf h0]; exact hhead
      have hkn : (ringAt c ((onAt c : Int) + ((c.length : Nat) : Int))).k = 1 := by
        rw [ring_back]; simpa using hk0
      have := okS_loc (fun i => (ringAt c ((onAt c : Int) + (i : Nat))).k) c.length (loc_of h _ _) hkn (turnP c) hlen (fun i hi => by rw [turn_at c i hf hi]) (c.length - 1) 1 (by omega) (Nat.le_refl _) (fun a => by
        rw [Nat.sub_self] at a; rw [hk0] at a; exact absurd a (by decide))
      rw [Nat.sub_self, hk0, st1] at this
      exact this
    · have hT2 : turnP c = midP (c.getD (c.length - 1) pn0) (c.getD 0 pn0) :: c := by unfold turnP; rw [if_neg hf]
      rw [hT2]
      have hq := quads h (by omega)
      match c, h0, hq with
      | p :: l, _, hq =>
        have e0 : p.k = 2 := hq 0 (by simp)
        have := okS_quads l (fun i hi => hq (i + 1) (by simpa using hi))
        show okS 1 (p :: l) = true
        simp only [okS, e0, this]; simp
  have hE := okE_exp _ _ 1 (.inl rfl) (by rw [hhead]; decide) hS
  simp only [okE, hhead, hE]; rfl
theorem okE_at : ∀ (l : List Pn) (st : Nat), (st = 0 ∨ st = 1 ∨ st = 2 ∨ st = 3 ∨ st = 4) → okE st l = true → ∀ i, i < l.length → ((l.getD i pn0).k = 1 → okE 1 (l.drop (i + 1)) = true) ∧ ((l.getD i pn0).k = 1 ∨ (l.getD i pn0).k = 2 ∨ (l.getD i pn0).k = 3) := by
  intro l
  induction l with
  | nil => intro st _ _ i hi; simp at hi
  | cons p l ih =>
    intro st hst h i hi
    have next : ∃ st', (st' = 0 ∨ st' = 1 ∨ st' = 2 ∨ st' = 3 ∨ st' = 4) ∧ okE st' l = true ∧ (p.k = 1 → st' = 1) ∧ (p.k = 1 ∨ p.k = 2 ∨ p.k = 3) := by
      rcases hst with rfl | rfl | rfl | rfl | rfl <;> simp only [okE, Bool.or_eq_true, Bool.and_eq_true, beq_iff_eq] at h
      · exact ⟨1, by simp, h.2, fun _ => rfl, .inl h.1⟩
      · rcases h with ⟨h1, h2⟩ | ⟨h1, h2⟩ | ⟨h1, h2⟩
        · exact ⟨1, by simp, h2, fun _ => rfl, .inl h1⟩
        · exact ⟨2, by simp, h2, fun e => by rw [h1] at e; exact absurd e (by decide), .inr (.inl h1)⟩
        · exact ⟨3, by simp, h2, fun e => by rw [h1] at e; exact absurd e (by decide), .inr (.inr h1)⟩
      · exact ⟨1, by simp, h.2, fun _ => rfl, .inl h.1⟩
      · exact ⟨4, by simp, h.2, fun e => by rw [h.1] at e; exact absurd e (by decide), .inr (.inr h.1)⟩
      · exact ⟨1, by simp, h.2, fun _ => rfl, .inl h.1⟩
    obtain ⟨st', h1, h2, h3, h4⟩ := next
    cases i with
    | zero => exact ⟨fun e => by have h5 := h3 e; subst h5; exact h2, h4⟩
    | succ i =>
      have := ih st' h1 h2 i (by simpa using hi)
      simpa using this
/-- How many points on a curve's end is. -/
def stepN (e : List Pn) (i : Nat) : Nat := if (ringAt e ((i : Int) + 1)).k = 2 then 2 else if (ringAt e ((i : Int) + 1)).k = 3 then 3 else 1
theorem drop_nil_or (e : List Pn) (j : Nat) (hj : j ≤ e.length) : e.drop j = [] ∧ j = e.length ∨ j < e.length ∧ e.drop j = e.getD j pn0 :: e.drop (j + 1) := by
  by_cases h : j < e.length
  · refine .inr ⟨h, ?_⟩
    rw [List.drop_eq_getElem_cons h, List.getD_eq_getElem?_getD, List.getElem?_eq_getElem h]; rfl
  · exact .inl ⟨List.drop_eq_nil_of_le (by omega), by omega⟩
theorem step_facts {e : List Pn} (h : okE 0 e = true) {i : Nat} (hi : i < e.length) (hk : (e.getD i pn0).k = 1) :
    i + stepN e i ≤ e.length ∧ (∀ t, i < t → t < i + stepN e i → (e.getD t pn0).k ≠ 1) ∧ (i + stepN e i < e.length → (e.getD (i + stepN e i) pn0).k = 1) ∧ ((ringAt e ((i : Int) + 1)).k = 1 ∨ (ringAt e ((i : Int) + 1)).k = 2 ∨ (ringAt e ((i : Int) + 1)).k = 3) := by
  have h1 := ((okE_at e 0 (by simp) h i hi).1 hk)
  have hh : (e.getD 0 pn0).k = 1 := by
    match e, h, hi with
    | p :: l, h, _ =>
      simp only [okE, Bool.and_eq_true, beq_iff_eq] at h
      exact h.1
  have r0 : (ringAt e ((e.length : Nat) : Int)).k = 1 := by
    have := ringAt_wrap e e.length (Nat.le_refl _) (by omega)
    rw [this, Nat.sub_self]; exact hh
  have ei : ((i : Int) + 1) = ((i + 1 : Nat) : Int) := by omega
  unfold stepN
  rw [ei]
  rcases drop_nil_or e (i + 1) (by omega) with ⟨d1, l1⟩ | ⟨l1, d1⟩
  · rw [← l1] at r0
    rw [r0, if_neg (by decide), if_neg (by decide)]
    exact ⟨by omega, fun t a b => by omega, fun a => by omega, .inl rfl⟩
  · have r1 := ringAt_lt e (i + 1) l1
    rw [r1]
    rw [d1] at h1
    simp only [okE, Bool.or_eq_true, Bool.and_eq_true, beq_iff_eq] at h1
    rcases h1 with ⟨a, b⟩ | ⟨a, b⟩ | ⟨a, b⟩
    · rw [a, if_neg (by decide), if_neg (by decide)]
      exact ⟨by omega, fun t x y => by omega, fun _ => a, .inl rfl⟩
    · rw [a, if_pos rfl]
      refine ⟨by omega, fun t x y => ?_, fun l2 => ?_, .inr (.inl rfl)⟩
      · obtain rfl : t = i + 1 := by omega
        rw [a]; decide
      · rcases drop_nil_or e (i + 1 + 1) (by omega) with ⟨_, l3⟩ | ⟨l3, d3⟩
        · omega
        · rw [d3] at b
          simp only [okE, Bool.and_eq_true, beq_iff_eq] at b
          exact b.1
    · rw [a, if_neg (by decide), if_pos rfl]
      rcases drop_nil_or e (i + 1 + 1) (by omega) with ⟨d3, _⟩ | ⟨l3, d3⟩
      · rw [d3] at b; simp [okE] at b
      · rw [d3] at b
        simp only [okE, Bool.and_eq_true, beq_iff_eq] at b
        refine ⟨by omega, fun t x y => ?_, fun l4 => ?_, .inr (.inr rfl)⟩
        · rcases (show t = i + 1 ∨ t = i + 1 + 1 by omega) with rfl | rfl
          · rw [a]; decide
          · rw [b.1]; decide
        · rcases drop_nil_or e (i + 1 + 1 + 1) (by omega) with ⟨_, l5⟩ | ⟨l5, d5⟩
          · omega
          · have b2 := b.2
            rw [d5] at b2
            simp only [okE, Bool.and_eq_true, beq_iff_eq] at b2
            exact b2.1
/-- A curve. -/
structure Cv where
  k : Int
  a : Pn
  b : Pn
  c : Pn
  d : Pn
deriving DecidableEq
def cvCells (q : Cv) : Array Value := #[.int .i64 q.k, .int .i64 q.a.x, .int .i64 q.a.y, .int .i64 q.a.k, .int .i64 q.b.x, .int .i64 q.b.y, .int .i64 q.b.k, .int .i64 q.c.x, .int .i64 q.c.y, .int .i64 q.c.k, .int .i64 q.d.x, .int .i64 q.d.y, .int .i64 q.d.k]
def cvV (q : Cv) : Value := .agg (cvCells q)
/-- The curve that begins at a place. -/
def cvAt (e : List Pn) (i : Nat) : Cv :=
  if (ringAt e ((i : Int) + 1)).k = 2 then ⟨2, e.getD i pn0, ringAt e ((i : Int) + 1), pn0, ringAt e ((i : Int) + 2)⟩
  else if (ringAt e ((i : Int) + 1)).k = 3 then ⟨3, e.getD i pn0, ringAt e ((i : Int) + 1), ringAt e ((i : Int) + 2), ringAt e ((i : Int) + 3)⟩
  else ⟨1, e.getD i pn0, pn0, pn0, ringAt e ((i : Int) + 1)⟩
theorem cvAt_a (e : List Pn) (i : Nat) : (cvAt e i).a = e.getD i pn0 := by unfold cvAt; split <;> (try split) <;> rfl
theorem cvAt_d (e : List Pn) (i : Nat) : (cvAt e i).d = ringAt e ((i : Int) + (stepN e i : Nat)) := by
  unfold cvAt stepN; split
  · rfl
  · split <;> rfl
/-- The curves that begin ahead of a place. -/
def refTo (e : List Pn) : Nat → List Cv
  | 0 => []
  | k + 1 => refTo e k ++ (if (e.getD k pn0).k = 1 then [cvAt e k] else [])
theorem refTo_skip (e : List Pn) (i : Nat) : ∀ d, (∀ t, i < t → t < i + 1 + d → (e.getD t pn0).k ≠ 1) → refTo e (i + 1 + d) = refTo e (i + 1) := by
  intro d
  induction d with
  | zero => intro _; rfl
  | succ d ih =>
    intro h
    rw [show i + 1 + (d + 1) = (i + 1 + d) + 1 by omega, refTo, if_neg (h (i + 1 + d) (by omega) (by omega)), List.append_nil]
    exact ih (fun t a b => h t a (by omega))
theorem refTo_step {e : List Pn} (h : okE 0 e = true) {i : Nat} (hi : i < e.length) (hk : (e.getD i pn0).k = 1) : refTo e (i + stepN e i) = refTo e i ++ [cvAt e i] := by
  obtain ⟨_, h2, _, _⟩ := step_facts h hi hk
  have h1 : 1 ≤ stepN e i := by unfold stepN; split <;> (try split) <;> omega
  obtain ⟨d, hd⟩ : ∃ d, i + stepN e i = i + 1 + d := ⟨stepN e i - 1, by omega⟩
  rw [hd] at h2 ⊢
  rw [refTo_skip e i d h2, refTo, if_pos hk]
/-- The curves of the first j contours. -/
def curvesTo (o : List (List Pn)) : Nat → List Cv
  | 0 => []
  | j + 1 => curvesTo o j ++ refTo (o.getD j []) (o.getD j []).length
end Go.Proofs.Ytodjohoonbkklaa

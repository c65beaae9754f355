/- A selection's glyphs as the reference lays them: range by range, each filled up when the next one comes. Plain lists; no program in sight. -/
import Derived.Test.YthmokldmdcjklaaChK
namespace Go.Proofs.Ythmokldmdcjklaa
set_option linter.unusedVariables false
set_option linter.unusedSimpArgs false
theorem runP_mid (l : List (Int × Int)) (n m i : Nat) (h : i + 1 < l.length) : runP l n i = runP l m i := by
  unfold runP endP; rw [if_pos h, if_pos h]
theorem runsP_mid (l : List (Int × Int)) (n m : Nat) : ∀ i, i + 1 ≤ l.length → runsP l n i = runsP l m i := by
  intro i
  induction i with
  | zero => intro _; rfl
  | succ i ih => intro h; unfold runsP; rw [ih (by omega), runP_mid l n m i h]
theorem spreadL_last (l : List (Int × Int)) (m : Nat) (hl : l ≠ []) : spreadL l m = runsP l 0 (l.length - 1) ++ List.replicate ((m : Int) - fiP l (l.length - 1)).toNat (xP l (l.length - 1)) := by
  have hp : 0 < l.length := List.length_pos_iff.2 hl
  unfold spreadL
  obtain ⟨k, hk⟩ : ∃ k, l.length = k + 1 := ⟨l.length - 1, by omega⟩
  rw [hk, Nat.add_sub_cancel]
  rw [show runsP l m (k + 1) = runsP l m k ++ runP l m k from rfl, runsP_mid l m 0 k (by omega)]
  congr 1
  unfold runP endP; rw [if_neg (by omega)]
theorem spreadL_fill (l : List (Int × Int)) (m : Nat) (hl : l ≠ []) (h : fiP l (l.length - 1) ≤ m) : spreadL l (m + 1) = spreadL l m ++ [xP l (l.length - 1)] := by
  rw [spreadL_last l _ hl, spreadL_last l _ hl, List.append_assoc, ← List.replicate_succ']
  congr 2
  omega
theorem runP_app (l : List (Int × Int)) (p : Int × Int) (n i : Nat) (h : i < l.length) (hp : 0 ≤ p.1) : runP (l ++ [p]) n i = runP l p.1.toNat i := by
  have e1 := fiP_app l p i h
  unfold runP endP
  rw [e1.1, e1.2, List.length_append, List.length_singleton, if_pos (by omega)]
  by_cases hi : i + 1 < l.length
  · rw [if_pos hi, (fiP_app l p (i + 1) hi).1]
  · have : i + 1 = l.length := by omega
    rw [if_neg hi, this, (fiP_new l p).1, Int.toNat_of_nonneg hp]
theorem runsP_app (l : List (Int × Int)) (p : Int × Int) (n : Nat) (hp : 0 ≤ p.1) : ∀ i, i ≤ l.length → runsP (l ++ [p]) n i = runsP l p.1.toNat i := by
  intro i
  induction i with
  | zero => intro _; rfl
  | succ i ih => intro h; unfold runsP; rw [ih (by omega), runP_app l p n i h hp]
theorem spreadL_snoc (l : List (Int × Int)) (f x : Int) (hf : 0 ≤ f) : spreadL (l ++ [(f, x)]) (f.toNat + 1) = spreadL l f.toNat ++ [x] := by
  unfold spreadL
  rw [List.length_append, List.length_singleton]
  rw [show runsP (l ++ [(f, x)]) (f.toNat + 1) (l.length + 1) = runsP (l ++ [(f, x)]) (f.toNat + 1) l.length ++ runP (l ++ [(f, x)]) (f.toNat + 1) l.length from rfl, runsP_app l _ _ hf _ (Nat.le_refl _)]
  congr 1
  have e := fiP_new l (f, x)
  unfold runP endP
  rw [List.length_append, List.length_singleton, if_neg (by omega), e.1, e.2]
  simp only
  rw [show (((f.toNat + 1 : Nat) : Int) - f).toNat = 1 by omega]; rfl
/-- Where the reference stands among the ranges: what is laid so far, up to m; the last range's number. -/
structure OutAt (ps : List (Int × Int)) (n : Nat) (q : Int) (o : List Int) (m : Nat) (last : Int) : Prop where
  ok : PartsOk ps n q
  out : o = spreadL ps m
  len : o.length = m
  le : m ≤ n
  nil : ps = [] → m = 0 ∧ last = 0
  lst : ps ≠ [] → fiP ps (ps.length - 1) < m ∧ last = xP ps (ps.length - 1)
theorem OutAt.start (n : Nat) (q : Int) : OutAt [] n q [] 0 0 :=
  ⟨⟨fun h => absurd rfl h, fun i h => by simp at h, fun i h => by simp at h⟩, rfl, rfl, Nat.zero_le _, fun _ => ⟨rfl, rfl⟩, fun h => absurd rfl h⟩
theorem OutAt.fill {ps : List (Int × Int)} {n : Nat} {q : Int} {o : List Int} {m : Nat} {last : Int} (h : OutAt ps n q o m last) (hp : ps ≠ []) (hm : m < n) : OutAt ps n q (o ++ [last]) (m + 1) last := by
  obtain ⟨h1, h2, h3, h4, h5, h6⟩ := h
  obtain ⟨g1, g2⟩ := h6 hp
  refine ⟨h1, ?_, by simp [h3], by omega, fun e => absurd e hp, fun _ => ⟨by omega, g2⟩⟩
  rw [spreadL_fill ps m hp (by omega), h2, g2]
theorem OutAt.next {ps : List (Int × Int)} {n : Nat} {q : Int} {o : List Int} {m : Nat} {last : Int} (h : OutAt ps n q o m last) (f x : Int) (b : Bool) (hb : ¬ pBad n q ps f x b) (hf : 0 ≤ f) (hx : 0 ≤ x) (hm : (m : Int) = f) : OutAt (ps ++ [(f, x)]) n q (o ++ [x]) (m + 1) x := by
  obtain ⟨h1, h2, h3, h4, h5, h6⟩ := h
  have hfn : f < n := Int.not_le.1 fun e => hb (.inr (.inr (.inl e)))
  have hm' : f.toNat = m := by omega
  refine ⟨h1.snoc f x b hb hf hx, ?_, by simp [h3], by omega, fun e => absurd e (by simp), fun _ => ?_⟩
  · rw [← hm', spreadL_snoc _ _ _ hf, hm', ← h2]
  · rw [List.length_append, List.length_singleton, Nat.add_sub_cancel, (fiP_new ps _).1, (fiP_new ps _).2]; exact ⟨by show f < ((m + 1 : Nat) : Int); omega, rfl⟩
/-- What the reference asks of a range is what the program asks. -/
theorem OutAt.bad {ps : List (Int × Int)} {n : Nat} {q : Int} {o : List Int} {last : Int} {m : Nat} (h : OutAt ps n q o m last) (hm : ps ≠ [] → (m : Int) = fiP ps (ps.length - 1) + 1) (f x : Int) (b : Bool) (hf : 0 ≤ f) :
    pBad n q ps f x b ↔ b = true ∨ q ≤ x ∨ n ≤ f ∨ (ps.length = 0 ∧ f ≠ 0) ∨ (0 < ps.length ∧ f ≤ (m : Int) - 1) := by
  unfold pBad
  by_cases hp : ps = []
  · subst hp; simp
  · have h0 : 0 < ps.length := List.length_pos_iff.2 hp
    have h1 := hm hp
    have h2 := (h.ok.ge (ps.length - 1) (by omega)).1
    have e : (ps.getD (ps.length - 1) (0, 0)).1 = fiP ps (ps.length - 1) := rfl
    rw [e]
    have : (m : Int) - 1 = fiP ps (ps.length - 1) := by omega
    rw [this]
    simp only [hp, false_iff]
    constructor
    · rintro (h | h | h | h | h)
      · exact .inl h
      · exact .inr (.inl h)
      · exact .inr (.inr (.inl h))
      · exact .inr (.inr (.inr (.inr ⟨h0, by have := Classical.not_not.1 h; omega⟩)))
      · exact .inr (.inr (.inr (.inr ⟨h0, h.2⟩)))
    · rintro (h | h | h | h | h)
      · exact .inl h
      · exact .inr (.inl h)
      · exact .inr (.inr (.inl h))
      · omega
      · exact .inr (.inr (.inr (.inr ⟨hp, h.2⟩)))
end Go.Proofs.Ythmokldmdcjklaa

/- eval: a region that draws its order: the plain part (what a set of its operations leaves). -/
import Derived.Test.YtlhkaoccnpgkeaaGreatEvN
namespace Go.Proofs.YtlhkaoccnpgkeaaGreat.Ev
open Go
set_option linter.unusedVariables false
set_option linter.unusedSimpArgs false
variable {α : Type} {β : Type}
inductive Kd where
  | pure
  | new (o : Ob)
  | wr (g : G)
/-- What an operation has done, when the region was worked out. -/
structure Rec where
  i : Nat
  dst : Option Tmp
  v : Value
  k : Kd
  lo : Nat
  hi : Nat
def Rec.app (r : Rec) (g : G) : G := match r.k with
  | .pure => g
  | .new o => gset g r.lo o
  | .wr g' => g'
def Rec.isW (r : Rec) : Prop := ∃ g, r.k = .wr g
def Rec.isN (r : Rec) (o : Ob) : Prop := r.k = .new o
def Rec.upd (r : Rec) (t : Nat → Value) : Nat → Value := fun s => if r.dst = some s then r.v else t s
open Classical in
noncomputable def gOf : List Rec → (Nat → Prop) → G → G
  | [], _, g => g
  | r :: rs, L, g => gOf rs L (if L r.i then r.app g else g)
open Classical in
noncomputable def tOf : List Rec → (Nat → Prop) → (Nat → Value) → (Nat → Value)
  | [], _, t => t
  | r :: rs, L, t => tOf rs L (if L r.i then r.upd t else t)
def All : Nat → Prop := fun _ => True
theorem gOf_append (L : Nat → Prop) : ∀ (p q : List Rec) (g : G), gOf (p ++ q) L g = gOf q L (gOf p L g)
  | [], q, g => rfl
  | r :: p, q, g => gOf_append L p q _
theorem tOf_append (L : Nat → Prop) : ∀ (p q : List Rec) (g : Nat → Value), tOf (p ++ q) L g = tOf q L (tOf p L g)
  | [], q, g => rfl
  | r :: p, q, g => tOf_append L p q _
theorem gOf_one (r : Rec) (g : G) : gOf [r] All g = r.app g := by simp [gOf, All]
theorem tOf_one (r : Rec) (g : Nat → Value) : tOf [r] All g = r.upd g := by simp [tOf, All]
theorem gOf_congr {L L' : Nat → Prop} : ∀ (q : List Rec) (g : G), (∀ r ∈ q, L r.i ↔ L' r.i) → gOf q L g = gOf q L' g
  | [], g, h => rfl
  | r :: q, g, h => by
    simp only [gOf]
    have h1 := h r (by simp)
    by_cases hL : L r.i
    · rw [if_pos hL, if_pos (h1.1 hL)]
      exact gOf_congr q _ (fun x hx => h x (by simp [hx]))
    · rw [if_neg hL, if_neg (fun x => hL (h1.2 x))]
      exact gOf_congr q _ (fun x hx => h x (by simp [hx]))
theorem gOf_eq {L : Nat → Prop} {B : Nat} : ∀ (q : List Rec) (g g' : G), (∀ r ∈ q, r.isW → L r.i) → (∀ r ∈ q, ∀ o, r.isN o → r.lo = B → L r.i) → g B = g' B → gOf q L g B = gOf q All g' B
  | [], g, g', h1, h2, h3 => h3
  | r :: q, g, g', h1, h2, h3 => by
    simp only [gOf]
    refine gOf_eq q _ _ (fun x hx => h1 x (by simp [hx])) (fun x hx => h2 x (by simp [hx])) ?_
    rw [if_pos (show All r.i from trivial)]
    by_cases hL : L r.i
    · rw [if_pos hL]
      unfold Rec.app
      cases hk : r.k with
      | pure => exact h3
      | new o =>
        simp only [gset]
        split
        · rfl
        · exact h3
      | wr g1 => rfl
    · rw [if_neg hL]
      unfold Rec.app
      cases hk : r.k with
      | pure => exact h3
      | new o =>
        simp only [gset]
        split
        · rename_i e
          exact absurd (h2 r (by simp) o hk e.symm) hL
        · exact h3
      | wr g1 => exact absurd (h1 r (by simp) ⟨g1, hk⟩) hL
theorem gOf_skip {L : Nat → Prop} {B : Nat} : ∀ (q : List Rec) (g : G), (∀ r ∈ q, r.isW → ¬ L r.i) → (∀ r ∈ q, ∀ o, r.isN o → r.lo ≠ B) → gOf q L g B = g B
  | [], g, h1, h2 => rfl
  | r :: q, g, h1, h2 => by
    simp only [gOf]
    rw [gOf_skip q _ (fun x hx => h1 x (by simp [hx])) (fun x hx => h2 x (by simp [hx]))]
    split
    · rename_i hL
      unfold Rec.app
      cases hk : r.k with
      | pure => rfl
      | new o => simp only [gset]; rw [if_neg (fun e => h2 r (by simp) o hk e.symm)]
      | wr g1 => exact absurd hL (h1 r (by simp) ⟨g1, hk⟩)
    · rfl
/-- New blocks that are laid over. -/
theorem gOf_news {L : Nat → Prop} (B : Nat) : ∀ (q : List Rec), (∀ r ∈ q, r.isW → ¬ L r.i) → (∃ r ∈ q, ∃ o, r.isN o ∧ L r.i ∧ r.lo = B ∧ ∀ g, gOf q L g B = some o) ∨ (∀ g, gOf q L g B = g B)
  | [], h1 => .inr fun g => rfl
  | r :: q, h1 => by
    rcases gOf_news B q (fun x hx => h1 x (by simp [hx])) with ⟨r', hr', o, k1, k2, k3, k4⟩ | h
    · exact .inl ⟨r', by simp [hr'], o, k1, k2, k3, fun g => k4 _⟩
    · by_cases hL : L r.i
      · cases hk : r.k with
        | pure =>
          refine .inr fun g => ?_
          simp only [gOf]
          rw [h, if_pos hL]
          simp [Rec.app, hk]
        | new o =>
          by_cases hB : r.lo = B
          · refine .inl ⟨r, by simp, o, hk, hL, hB, fun g => ?_⟩
            simp only [gOf]
            rw [h, if_pos hL]
            simp [Rec.app, hk, gset, hB]
          · refine .inr fun g => ?_
            simp only [gOf]
            rw [h, if_pos hL]
            simp only [Rec.app, hk, gset]
            rw [if_neg (fun e => hB e.symm)]
        | wr g1 => exact absurd hL (h1 r (by simp) ⟨g1, hk⟩)
      · refine .inr fun g => ?_
        simp only [gOf]
        rw [h, if_neg hL]
theorem tOf_no {L : Nat → Prop} {t : Nat} : ∀ (q : List Rec) (f : Nat → Value), (∀ r ∈ q, r.dst = some t → ¬ L r.i) → tOf q L f t = f t
  | [], f, h => rfl
  | r :: q, f, h => by
    simp only [tOf]
    rw [tOf_no q _ (fun x hx => h x (by simp [hx]))]
    split
    · rename_i hL
      unfold Rec.upd
      rw [if_neg (fun e => h r (by simp) e hL)]
    · rfl
theorem tOf_yes {L : Nat → Prop} {t : Nat} {r : Rec} : ∀ (q : List Rec) (f : Nat → Value), r ∈ q → L r.i → r.dst = some t → (∀ r' ∈ q, r'.dst = some t → r' = r) → tOf q L f t = r.v
  | [], f, h, _, _, _ => by simp at h
  | r0 :: q, f, h, hL, hd, hu => by
    simp only [tOf]
    by_cases hq : r ∈ q
    · exact tOf_yes q _ hq hL hd (fun x hx => hu x (by simp [hx]))
    · have e : r0 = r := by
        rcases List.mem_cons.1 h with h | h
        · exact h.symm
        · exact absurd h hq
      subst e
      rw [tOf_no q _ (fun x hx hx2 _ => hq (by rw [← hu x (by simp [hx]) hx2]; exact hx)), if_pos hL]
      simp [Rec.upd, hd]
/-! What must come ahead of what. -/
theorem ancs_app : ∀ (l : List Oper) (acc : List Nat), ∃ r, ancs l acc = acc ++ r ∧ r.length = l.length
  | [], acc => ⟨[], by simp [ancs], rfl⟩
  | o :: l, acc => by
    obtain ⟨r, h1, h2⟩ := ancs_app l (acc ++ [ancOf acc o])
    exact ⟨ancOf acc o :: r, by simp [ancs, h1], by simp [h2]⟩
theorem ancs_at : ∀ (l : List Oper) (acc : List Nat) (k : Nat) (o : Oper), l[k]? = some o → (ancs l acc)[acc.length + k]? = some (ancOf ((ancs l acc).take (acc.length + k)) o)
  | [], acc, k, o, h => by simp at h
  | o0 :: l, acc, 0, o, h => by
    simp at h; subst h
    obtain ⟨r, h1, h2⟩ := ancs_app l (acc ++ [ancOf acc o0])
    simp only [ancs, h1]
    simp
  | o0 :: l, acc, k + 1, o, h => by
    have := ancs_at l (acc ++ [ancOf acc o0]) k o (by simpa using h)
    simp only [List.length_append, List.length_cons, List.length_nil, Nat.zero_add] at this
    rw [show acc.length + (k + 1) = acc.length + 1 + k by omega]
    exact this
theorem foldl_bits {γ : Type} (f : Nat → γ → Nat) (T : γ → Nat → Prop) (hf : ∀ s e j, (f s e).testBit j = true → s.testBit j = true ∨ T e j) : ∀ (l : List γ) (s : Nat) (j : Nat), (l.foldl f s).testBit j = true → s.testBit j = true ∨ ∃ e ∈ l, T e j
  | [], s, j, h => .inl h
  | e :: l, s, j, h => by
    rcases foldl_bits f T hf l (f s e) j h with h | ⟨e', h1, h2⟩
    · rcases hf s e j h with h | h
      · exact .inl h
      · exact .inr ⟨e, by simp, h⟩
    · exact .inr ⟨e', by simp [h1], h2⟩
theorem ancOf_bits {acc : List Nat} {o : Oper} {j : Nat} (h : (ancOf acc o).testBit j = true) : ∃ e ∈ o.after.toList, Region.binds .any e = true ∧ (e.on = j ∨ ∃ a, acc[e.on]? = some a ∧ a.testBit j = true) := by
  unfold ancOf at h
  have := foldl_bits _ (fun e j => Region.binds .any e = true ∧ (e.on = j ∨ ∃ a, acc[e.on]? = some a ∧ a.testBit j = true)) (fun s e j h => by
    split at h
    · rename_i hb
      split at h
      · rename_i a ha
        rw [nth_eq] at ha
        have h' : (s ||| (2 ^ e.on ||| a)).testBit j = true := h
        rw [Nat.testBit_or, Nat.testBit_or, Nat.testBit_two_pow] at h'
        simp only [Bool.or_eq_true, decide_eq_true_eq] at h'
        rcases h' with h | h | h
        · exact .inl h
        · exact .inr ⟨hb, .inl h⟩
        · exact .inr ⟨hb, .inr ⟨a, ha, h⟩⟩
      · exact .inl h
    · exact .inl h) o.after.toList 0 j h
  rcases this with h | h
  · simp at h
  · exact h
theorem ancs_bits {all : List Oper} {i : Nat} {o : Oper} {ai : Nat} (ho : all[i]? = some o) (ha : (ancs all [])[i]? = some ai) {j : Nat} (hj : ai.testBit j = true) : ∃ e ∈ o.after.toList, Region.binds .any e = true ∧ (e.on = j ∨ ∃ a, (ancs all [])[e.on]? = some a ∧ a.testBit j = true) := by
  have h1 := ancs_at all [] i o ho
  simp only [List.length_nil, Nat.zero_add] at h1
  rw [ha] at h1
  have e1 : ai = ancOf ((ancs all []).take i) o := Option.some.inj h1
  rw [e1] at hj
  obtain ⟨e, k1, k2, k3⟩ := ancOf_bits hj
  refine ⟨e, k1, k2, ?_⟩
  rcases k3 with k | ⟨a, k4, k5⟩
  · exact .inl k
  · refine .inr ⟨a, ?_, k5⟩
    rw [List.getElem?_take] at k4
    split at k4
    · exact k4
    · cases k4
end Go.Proofs.YtlhkaoccnpgkeaaGreat.Ev

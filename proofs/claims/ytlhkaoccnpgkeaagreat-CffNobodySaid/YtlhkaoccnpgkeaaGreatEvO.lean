/- eval: a region that draws its order: the plain part (what a set of its operations leaves). -/
import Derived.Test.YtlhkaoccnpgkeaaGreatEvN
namespace Go.Proofs.YtlhkaoccnpgkeaaGreat.Ev
open Go
set_option linter.unusedVariables false
set_option linter.unusedSimpArgs false
variable {α : Type} {β : Type}
inductive Kd where
  | pure
  | new (o : Ob)
  | wr (g : G)
/-- What an operation has done, when the region was worked out. -/
structure Rec where
  i : Nat
  dst : Option Tmp
  v : Value
  k : Kd
  lo : Nat
  hi : Nat
def Rec.app (r : Rec) (g : G) : G := match r.k with
  | .pure => g
  | .new o => gset g r.lo o
  | .wr g' => g'
def Rec.isW (r : Rec) : Prop := ∃ g, r.k = .wr g
def Rec.isN (r : Rec) (o : Ob) : Prop := r.k = .new o
def Rec.upd (r : Rec) (t : Nat → Value) : Nat → Value := fun s => if r.dst = some s then r.v else t s
open Classical in
noncomputable def gOf : List Rec → (Nat → Prop) → G → G
  | [], _, g => g
  | r :: rs, L, g => gOf rs L (if L r.i then r.app g else g)
open Classical in
noncomputable def tOf : List Rec → (Nat → Prop) → (Nat → Value) → (Nat → Value)
  | [], _, t => t
  | r :: rs, L, t => tOf rs L (if L r.i then r.upd t else t)
def All : Nat → Prop := fun _ => True
theorem gOf_append (L : Nat → Prop) : ∀ (p q : List Rec) (g : G), gOf (p ++ q) L g = gOf q L (gOf p L g)
  | [], q, g => rfl
  | r :: p, q, g => gOf_append L p q _
theorem tOf_append (L : Nat → Prop) : ∀ (p q : List Rec) (g : Nat → Value), tOf (p ++ q) L g = tOf q L (tOf p L g)
  | [], q, g => rfl
  | r :: p, q, g => tOf_append L p q _
theorem gOf_one (r : Rec) (g : G) : gOf [r] All g = r.app g := by simp [gOf, All]
theorem tOf_one (r : Rec) (g : Nat → Value) : tOf [r] All g = r.upd g := by simp [tOf, All]
theorem gOf_congr {L L' : Nat → Prop} : ∀ (q : List Rec) (g : G), (∀ r ∈ q, L r.i ↔ L' r.i) → gOf q L g = gOf q L' g
  | [], g, h => rfl
  | r :: q, g, h => by
    simp only [gOf]
    have h1 := h r (by simp)
    by_cases hL : L r.i
    · rw [if_pos hL, if_pos (h1.1 hL)]
      exact gOf_congr q _ (fun x hx => h x (by simp [hx]))
    · rw [if_neg hL, if_neg (fun x => hL (h1.2 x))]
      exact gOf_congr q _ (fun x hx => h x (by simp [hx]))
theorem gOf_eq {L : Nat → Prop} {B : Nat} : ∀ (q : List Rec) (g g' : G), (∀ r ∈ q, r.isW → L r.i) → (∀ r ∈ q, ∀ o, r.isN o → r.lo = B → L r.i) → g B = g' B → gOf q L g B = gOf q All g' B
  | [], g, g', h1, h2, h3 => h3
  | r :: q, g, g', h1, h2, h3 => by
    simp only [gOf]
    refine gOf_eq q _ _ (fun x hx => h1 x (by simp [hx])) (fun x hx => h2 x (by simp [hx])) ?_
    rw [if_pos (show All r.i from trivial)]
    by_cases hL : L r.i
    · rw [if_pos hL]
      unfold Rec.app
      cases hk : r.k with
      | pure => exact h3
      | new o =>
        simp only [gset]
        split
        · rfl
        · exact h3
      | wr g1 => rfl
    · rw [if_neg hL]
      unfold Rec.app
      cases hk : r.k with
      | pure => exact h3
      | new o =>
        simp only [gset]
        split
        · rename_i e
          exact absurd (h2 r (by simp) o hk e.symm) hL
        · exact h3
      | wr g1 => exact absurd (h1 r (by simp) ⟨g1, hk⟩) hL
theorem gOf_skip {L : Nat → Prop} {B : Nat} : ∀ (q : List Rec) (g : G), (∀ r ∈ q, r.isW → ¬ L r.i) → (∀ r ∈ q, ∀ o, r.isN o → r.lo ≠ B) → gOf q L g B = g B
  | [], g, h1, h2 => rfl
  | r :: q, g, h1, h2 => by
    simp only [gOf]
    rw [gOf_skip q _ (fun x hx => h1 x (by simp [hx])) (fun x hx => h2 x (by simp [hx]))]
    split
    · rename_i hL
      unfold Rec.app
      cases hk : r.k with
      | pure => rfl
      | new o => simp only [gset]; rw [if_neg (fun e => h2 r (by simp) o hk e.symm)]
      | wr g1 => exact absurd hL (h1 r (by simp) ⟨g1, hk⟩)
    · rfl
/-- New blocks that are laid over. -/
theorem gOf_news {L : Nat → Prop} (B : Nat) : ∀ (q : List Rec), (∀ r ∈ q, r.isW → ¬ L r.i) → (∃ r ∈ q, ∃ o, r.isN o ∧ L r.i ∧ r.lo = B ∧ ∀ g, gOf q L g B = some o) ∨ (∀ g, gOf q L g B = g B)
  | [], h1 => .inr fun g => rfl
  | r :: q, h1 => by
    rcases gOf_news B q (fun x hx => h1 x (by simp [hx])) with ⟨r', hr', o, k1, k2, k3, k4⟩ | h
    · exact .inl ⟨r', by simp [hr'], o, k1, k2, k3, fun g => k4 _⟩
    · by_cases hL : L r.i
      · cases hk : r.k with
        | pure =>
          refine .inr fun g => ?_
          simp only [gOf]
          rw [h, if_pos hL]
          simp [Rec.app, hk]
        | new o =>
          by_cases hB : r.lo = B
          · refine .inl ⟨r, by simp, o, hk, hL, hB, fun g => ?_⟩
            simp only [gOf]
            rw [h, if_pos hL]
            simp [Rec.app, hk, gset, hB]
          · refine .inr fun g => ?_
            simp only [gOf]
            rw [h, if_pos hL]
            simp only [Rec.app, hk, gset]
            rw [if_neg (fun e => hB e.symm)]
        | wr g1 => exact absurd hL (h1 r (by simp) ⟨g1, hk⟩)
      · refine .inr fun g => ?_
        simp only [gOf]
        rw [h, if_neg hL]
theorem tOf_no {L : Nat → Prop} {t : Nat} : ∀ (q : List Rec) (f : Nat → Value), (∀ r ∈ q, r.dst = some t → ¬ L r.i) → tOf q L f t = f t
  | [], f, h => rfl
  | r :: q, f, h => by
    simp only [tOf]
    rw [tOf_no q _ (fun x hx => h x (by simp [hx]))]
    split
    · rename_i hL
      unfold Rec.upd
      rw [if_neg (fun e => h r (by simp) e hL)]
    · rfl
theorem tOf_yes {L : Nat → Prop} {t : Nat} {r : Rec} : ∀ (q : List Rec) (f : Nat → Value), r ∈ q → L r.i → r.dst = some t → (∀ r' ∈ q, r'.dst = some t → r' = r) → tOf q L f t = r.v
  | [], f, h, _, _, _ => by simp at h
  | r0 :: q, f, h, hL, hd, hu => by
    simp only [tOf]
    by_cases hq : r ∈ q
    · exact tOf_yes q _ hq hL hd (fun x hx => hu x (by simp [hx]))
    · have e : r0 = r := by
        rcases List.mem_cons.1 h with h | h
        · exact h.symm
        · exact absurd h hq
      subst e
      rw [tOf_no q _ (fun x hx hx2 _ => hq (by rw [← hu x (by simp [hx]) hx2]; exact hx)), if_pos hL]
      simp [Rec.upd, hd]
/-- What has come of a heap (without its numbers). -/
structure Out0 (P : Program) (σ : Sg) (g : G) (w : World) (σ' : Sg) (g' : G) (w' : World) : Prop where
  le : σ.le σ'
  hr : HR P σ' g' w'
  fr : Fr σ g w w'
  im : ∀ B b, live g' B → σ'.blk B = some b → (∃ B0, live g B0 ∧ σ.blk B0 = some b) ∨ w.heap.size ≤ b
section
variable {P : Program}
theorem Out.o0 {σ σ' : Sg} {g g' : G} {n n' : Nat} {w w' : World} (h : Out P σ g n w σ' g' n' w') : Out0 P σ g w σ' g' w' := ⟨h.le, h.hr, h.fr, h.im⟩
theorem Out0.refl {σ : Sg} {g : G} {w : World} (h : HR P σ g w) : Out0 P σ g w σ g w := (Out.refl 0 h).o0
theorem Out0.trans {σ0 σ1 σ2 : Sg} {g0 g1 g2 : G} {w0 w1 w2 : World} (h : Out0 P σ0 g0 w0 σ1 g1 w1) (k : Out0 P σ1 g1 w1 σ2 g2 w2) : Out0 P σ0 g0 w0 σ2 g2 w2 := by
  refine ⟨h.le.trans k.le, k.hr, ⟨k.fr.os.trans h.fr.os, k.fr.tape.trans h.fr.tape, k.fr.out.trans h.fr.out, Nat.le_trans h.fr.size k.fr.size, fun x hx hB => ?_⟩, fun B b h1 h2 => ?_⟩
  · have h1 := h.fr.size
    rw [k.fr.blk x (by omega) ?_, h.fr.blk x hx hB]
    intro B hl e
    rcases h.im B x hl e with ⟨B0, h2, h3⟩ | h2
    · exact hB B0 h2 h3
    · omega
  · rcases k.im B b h1 h2 with ⟨B1, h3, h4⟩ | h3
    · exact h.im B1 b h3 h4
    · have := h.fr.size
      exact .inr (by omega)
theorem Out0.same {σ : Sg} {g : G} {w w' : World} (h : HR P σ g w) (h1 : w'.heap = w.heap) (h2 : w'.os = w.os) (h3 : w'.tape = w.tape) (h4 : w'.output = w.output) : Out0 P σ g w σ g w' :=
  ⟨Sg.le_refl σ, h.same (fun k x hk => by rw [h1]; exact hk), ⟨h2, h3, h4, by rw [h1]; exact Nat.le_refl _, fun k _ _ => by rw [h1]⟩, fun B b h1 h2 => .inl ⟨B, h1, h2⟩⟩
theorem HR.sub {σ : Sg} {g g' : G} {w : World} (h : HR P σ g w) (hs : ∀ B o, g' B = some o → g B = some o) : HR P σ g' w :=
  ⟨fun B o h1 h2 => h.at_ B o (hs B o h1) h2, fun B B' b h1 h2 h3 h4 => by
    obtain ⟨o1, a1, a2⟩ := h1
    obtain ⟨o2, b1, b2⟩ := h2
    exact h.inj B B' b ⟨o1, hs _ _ a1, a2⟩ ⟨o2, hs _ _ b1, b2⟩ h3 h4⟩
/-- What has come of a part of the heap has come of the whole. -/
theorem Out0.lift {σ σ' : Sg} {t t' g g' : G} {w w' : World} (h : Out0 P σ t w σ' t' w') (hr : HR P σ g w) (hc : ∀ B, (g B = t B ∧ g' B = t' B) ∨ (∃ o, g B = some o ∧ g' B = some o ∧ t B = none ∧ t' B = none)) : Out0 P σ g w σ' g' w' := by
  have hlt : ∀ B, live t B → live g B := fun B hB => by
    obtain ⟨o, h1, h2⟩ := hB
    rcases hc B with ⟨e, _⟩ | ⟨_, _, _, e, _⟩
    · exact ⟨o, by rw [e]; exact h1, h2⟩
    · rw [e] at h1; cases h1
  -- a block that lies over: where it lies
  have hover : ∀ B o, g B = some o → t B = none → o ≠ .dead → ∃ b x, σ.blk B = some b ∧ σ'.blk B = some b ∧ w.heap[b]? = some x ∧ w'.heap[b]? = some x ∧ ObR P σ' B o x ∧ b < w.heap.size ∧ (∀ B1, live t B1 → σ.blk B1 ≠ some b) := by
    intro B o h1 h2 h3
    obtain ⟨b, x, h4, h5, h6⟩ := hr.at_ B o h1 h3
    have hne : ∀ B1, live t B1 → σ.blk B1 ≠ some b := fun B1 hl e => by
      have e2 := hr.inj B1 B b (hlt B1 hl) ⟨o, h1, h3⟩ e h4
      subst e2
      obtain ⟨o', k1, _⟩ := hl
      rw [h2] at k1; cases k1
    have hb : b < w.heap.size := (Array.getElem?_eq_some_iff.1 h5).1
    exact ⟨b, x, h4, (h.le _ _ h4).1, h5, by rw [h.fr.blk b hb hne]; exact h5, h6.mono h.le h4, hb, hne⟩
  refine ⟨h.le, ⟨fun B o h1 h2 => ?_, fun B B' b h1 h2 h3 h4 => ?_⟩, ⟨h.fr.os, h.fr.tape, h.fr.out, h.fr.size, fun k hk hB => h.fr.blk k hk (fun B hl => hB B (hlt B hl))⟩, fun B b h1 h2 => ?_⟩
  · rcases hc B with ⟨_, e⟩ | ⟨o', e1, e2, e3, e4⟩
    · exact h.hr.at_ B o (by rw [← e]; exact h1) h2
    · rw [e2] at h1; cases h1
      obtain ⟨b, x, k1, k2, k3, k4, k5, _⟩ := hover B o e1 e3 h2
      exact ⟨b, x, k2, k4, k5⟩
  · obtain ⟨o1, a1, a2⟩ := h1
    obtain ⟨o2, b1, b2⟩ := h2
    rcases hc B with ⟨_, e⟩ | ⟨o', e1, e2, e3, e4⟩ <;> rcases hc B' with ⟨_, f⟩ | ⟨o'', f1, f2, f3, f4⟩
    · exact h.hr.inj B B' b ⟨o1, by rw [← e]; exact a1, a2⟩ ⟨o2, by rw [← f]; exact b1, b2⟩ h3 h4
    · rw [f2] at b1; cases b1
      obtain ⟨b0, x, k1, k2, k3, k4, k5, k6, k7⟩ := hover B' _ f1 f3 b2
      rw [h4] at k2; cases k2
      rcases h.im B b ⟨o1, by rw [← e]; exact a1, a2⟩ h3 with ⟨B0, m1, m2⟩ | m
      · exact absurd m2 (k7 B0 m1)
      · omega
    · rw [e2] at a1; cases a1
      obtain ⟨b0, x, k1, k2, k3, k4, k5, k6, k7⟩ := hover B _ e1 e3 a2
      rw [h3] at k2; cases k2
      rcases h.im B' b ⟨o2, by rw [← f]; exact b1, b2⟩ h4 with ⟨B0, m1, m2⟩ | m
      · exact absurd m2 (k7 B0 m1)
      · omega
    · rw [e2] at a1; cases a1
      rw [f2] at b1; cases b1
      obtain ⟨b0, x, k1, k2, _⟩ := hover B _ e1 e3 a2
      obtain ⟨b0', x', k1', k2', _⟩ := hover B' _ f1 f3 b2
      rw [h3] at k2; cases k2
      rw [h4] at k2'; cases k2'
      exact hr.inj B B' b ⟨_, e1, a2⟩ ⟨_, f1, b2⟩ k1 k1'
  · obtain ⟨o1, a1, a2⟩ := h1
    rcases hc B with ⟨_, e⟩ | ⟨o', e1, e2, e3, e4⟩
    · rcases h.im B b ⟨o1, by rw [← e]; exact a1, a2⟩ h2 with ⟨B0, m1, m2⟩ | m
      · exact .inl ⟨B0, hlt B0 m1, m2⟩
      · exact .inr m
    · rw [e2] at a1; cases a1
      obtain ⟨b0, x, k1, k2, _⟩ := hover B _ e1 e3 a2
      rw [h2] at k2; cases k2
      exact .inl ⟨B, ⟨_, e1, a2⟩, k1⟩
end
/-! What must come ahead of what. -/
theorem ancs_app : ∀ (l : List Oper) (acc : List Nat), ∃ r, ancs l acc = acc ++ r ∧ r.length = l.length
  | [], acc => ⟨[], by simp [ancs], rfl⟩
  | o :: l, acc => by
    obtain ⟨r, h1, h2⟩ := ancs_app l (acc ++ [ancOf acc o])
    exact ⟨ancOf acc o :: r, by simp [ancs, h1], by simp [h2]⟩
theorem ancs_at : ∀ (l : List Oper) (acc : List Nat) (k : Nat) (o : Oper), l[k]? = some o → (ancs l acc)[acc.length + k]? = some (ancOf ((ancs l acc).take (acc.length + k)) o)
  | [], acc, k, o, h => by simp at h
  | o0 :: l, acc, 0, o, h => by
    simp at h; subst h
    obtain ⟨r, h1, h2⟩ := ancs_app l (acc ++ [ancOf acc o0])
    simp only [ancs, h1]
    simp
  | o0 :: l, acc, k + 1, o, h => by
    have := ancs_at l (acc ++ [ancOf acc o0]) k o (by simpa using h)
    simp only [List.length_append, List.length_cons, List.length_nil, Nat.zero_add] at this
    rw [show acc.length + (k + 1) = acc.length + 1 + k by omega]
    exact this
theorem foldl_bits {γ : Type} (f : Nat → γ → Nat) (T : γ → Nat → Prop) (hf : ∀ s e j, (f s e).testBit j = true → s.testBit j = true ∨ T e j) : ∀ (l : List γ) (s : Nat) (j : Nat), (l.foldl f s).testBit j = true → s.testBit j = true ∨ ∃ e ∈ l, T e j
  | [], s, j, h => .inl h
  | e :: l, s, j, h => by
    rcases foldl_bits f T hf l (f s e) j h with h | ⟨e', h1, h2⟩
    · rcases hf s e j h with h | h
      · exact .inl h
      · exact .inr ⟨e, by simp, h⟩
    · exact .inr ⟨e', by simp [h1], h2⟩
theorem ancOf_bits {acc : List Nat} {o : Oper} {j : Nat} (h : (ancOf acc o).testBit j = true) : ∃ e ∈ o.after.toList, Region.binds .any e = true ∧ (e.on = j ∨ ∃ a, acc[e.on]? = some a ∧ a.testBit j = true) := by
  unfold ancOf at h
  have := foldl_bits _ (fun e j => Region.binds .any e = true ∧ (e.on = j ∨ ∃ a, acc[e.on]? = some a ∧ a.testBit j = true)) (fun s e j h => by
    split at h
    · rename_i hb
      split at h
      · rename_i a ha
        rw [nth_eq] at ha
        have h' : (s ||| (2 ^ e.on ||| a)).testBit j = true := h
        rw [Nat.testBit_or, Nat.testBit_or, Nat.testBit_two_pow] at h'
        simp only [Bool.or_eq_true, decide_eq_true_eq] at h'
        rcases h' with h | h | h
        · exact .inl h
        · exact .inr ⟨hb, .inl h⟩
        · exact .inr ⟨hb, .inr ⟨a, ha, h⟩⟩
      · exact .inl h
    · exact .inl h) o.after.toList 0 j h
  rcases this with h | h
  · simp at h
  · exact h
theorem ancs_bits {all : List Oper} {i : Nat} {o : Oper} {ai : Nat} (ho : all[i]? = some o) (ha : (ancs all [])[i]? = some ai) {j : Nat} (hj : ai.testBit j = true) : ∃ e ∈ o.after.toList, Region.binds .any e = true ∧ (e.on = j ∨ ∃ a, (ancs all [])[e.on]? = some a ∧ a.testBit j = true) := by
  have h1 := ancs_at all [] i o ho
  simp only [List.length_nil, Nat.zero_add] at h1
  rw [ha] at h1
  have e1 : ai = ancOf ((ancs all []).take i) o := Option.some.inj h1
  rw [e1] at hj
  obtain ⟨e, k1, k2, k3⟩ := ancOf_bits hj
  refine ⟨e, k1, k2, ?_⟩
  rcases k3 with k | ⟨a, k4, k5⟩
  · exact .inl k
  · refine .inr ⟨a, ?_, k5⟩
    rw [List.getElem?_take] at k4
    split at k4
    · exact k4
    · cases k4
theorem eqI_true {a b : Int} (h : eqI a b = true) : a = b := by
  unfold eqI at h
  split at h
  · rw [Nat.beq_eq] at h; rw [h]
  · rw [Nat.beq_eq] at h; rw [h]
  · cases h
  · cases h
theorem eqVgo_true : ∀ (l m : List Value), eqV.go l m = true → l = m
  | [], [], _ => rfl
  | [], _ :: _, h => by simp [eqV.go] at h
  | x :: l, m, h => by
    unfold eqV.go at h
    split at h
    · rename_i e2; cases e2
    · rename_i k a l' k' b m' e2
      cases e2
      simp only [Bool.and_eq_true, decide_eq_true_eq] at h
      rw [h.1.1, eqI_true h.1.2, eqVgo_true l m' h.2]
    · rename_i a l' b m' e2
      cases e2
      simp only [Bool.and_eq_true, beq_iff_eq] at h
      rw [h.1, eqVgo_true l m' h.2]
    · rename_i a l' b m' e2
      cases e2
      simp only [Bool.and_eq_true, decide_eq_true_eq] at h
      rw [h.1, eqVgo_true l m' h.2]
    · rename_i a n c l' b n' c' m' e2
      cases e2
      simp only [Bool.and_eq_true, decide_eq_true_eq, Nat.beq_eq] at h
      rw [h.1.1.1, h.1.1.2, h.1.2, eqVgo_true l m' h.2]
    · rename_i l' m' e2
      cases e2
      rw [eqVgo_true l m' h]
    · cases h
theorem eqV_true {u v : Value} (h : eqV u v = true) : u = v := by
  unfold eqV at h
  split at h
  · simp only [Bool.and_eq_true, decide_eq_true_eq] at h
    rw [h.1, eqI_true h.2]
  · simp only [beq_iff_eq] at h
    rw [h]
  · rename_i a b
    simp only [beq_iff_eq] at h
    congr 1
    cases a; cases b
    congr 1
    exact Array.toList_inj.1 h
  · simp only [decide_eq_true_eq] at h
    rw [h]
  · simp only [Bool.and_eq_true, decide_eq_true_eq, Nat.beq_eq] at h
    rw [h.1.1, h.1.2, h.2]
  · rfl
  · rename_i a b
    congr 1
    exact Array.toList_inj.1 (eqVgo_true _ _ h)
  · cases h
end Go.Proofs.YtlhkaoccnpgkeaaGreat.Ev

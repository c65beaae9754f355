/- eval: what a value, a block, a heap of the functions' stands for; tables. -/
import Derived.Test.YtlhkaoccnpgkeaaGreatEvB
import Derived.Laws.CopyRow
namespace Go.Proofs.YtlhkaoccnpgkeaaGreat.Ev
open Go
set_option linter.unusedVariables false
set_option linter.unusedSimpArgs false
variable {α : Type} {β : Type}
/-! Tables. -/
theorem T.get_leaf (n : Nat) : (T.leaf : T α).get n = none := rfl
theorem T.get_zero (l r : T α) (v : Option α) : (T.node l v r).get 0 = v := rfl
theorem T.get_succ (l r : T α) (v : Option α) (k : Nat) : (T.node l v r).get (k + 1) = if k % 2 = 0 then l.get (k / 2) else r.get (k / 2) := by
  have e : (T.node l v r).get (k + 1) = Bool.rec (motive := fun _ => Option α) (r.get (Nat.div k 2)) (l.get (Nat.div k 2)) (Nat.beq (Nat.mod k 2) 0) := rfl
  rw [e]
  by_cases h : k % 2 = 0
  · rw [if_pos h]
    have : Nat.beq (Nat.mod k 2) 0 = true := by rw [Nat.beq_eq]; exact h
    rw [this]; rfl
  · rw [if_neg h]
    have : Nat.beq (Nat.mod k 2) 0 = false := by
      cases hb : Nat.beq (Nat.mod k 2) 0
      · rfl
      · rw [Nat.beq_eq] at hb; exact absurd hb h
    rw [this]; rfl
theorem beq_mod (k : Nat) : Nat.beq (Nat.mod k 2) 0 = decide (k % 2 = 0) := by
  cases hb : Nat.beq (Nat.mod k 2) 0
  · symm; rw [decide_eq_false_iff_not]; intro h
    have : Nat.beq (Nat.mod k 2) 0 = true := by rw [Nat.beq_eq]; exact h
    rw [this] at hb; cases hb
  · symm; rw [decide_eq_true_iff]; rw [Nat.beq_eq] at hb; exact hb
theorem half_inj {a b : Nat} (h : a % 2 = b % 2) (h2 : a / 2 = b / 2) : a = b := by omega
theorem T.one_get : ∀ (f n : Nat) (a : α), n < f → T.one f n a ≠ .leaf ∧ ∀ m, (T.one f n a).get m = if m = n then some a else none := by
  intro f
  induction f with
  | zero => intro n a h; omega
  | succ f ih =>
    intro n a h
    cases n with
    | zero =>
      refine ⟨by simp [T.one], fun m => ?_⟩
      cases m with
      | zero => rfl
      | succ m =>
        rw [show T.one (f + 1) 0 a = .node .leaf (some a) .leaf from rfl, T.get_succ, if_neg (by omega : ¬ (m + 1 = 0))]
        split <;> rfl
    | succ k =>
      have hk : k / 2 < f := by omega
      obtain ⟨_, h2⟩ := ih (k / 2) a hk
      have e : T.one (f + 1) (k + 1) a = if k % 2 = 0 then .node (T.one f (k / 2) a) none .leaf else .node .leaf none (T.one f (k / 2) a) := by
        show (match Nat.beq (Nat.mod k 2) 0 with | true => _ | false => _) = _
        rw [beq_mod]
        by_cases h0 : k % 2 = 0
        · rw [decide_eq_true h0, if_pos h0]; rfl
        · rw [decide_eq_false h0, if_neg h0]; rfl
      by_cases h0 : k % 2 = 0
      · rw [e, if_pos h0]
        refine ⟨by simp, fun m => ?_⟩
        cases m with
        | zero => rw [T.get_zero, if_neg (by omega)]
        | succ m =>
          rw [T.get_succ]
          by_cases h1 : m % 2 = 0
          · rw [if_pos h1, h2]
            by_cases h3 : m = k
            · subst h3; simp
            · rw [if_neg (by omega), if_neg (by omega)]
          · rw [if_neg h1, T.get_leaf, if_neg (by omega)]
      · rw [e, if_neg h0]
        refine ⟨by simp, fun m => ?_⟩
        cases m with
        | zero => rw [T.get_zero, if_neg (by omega)]
        | succ m =>
          rw [T.get_succ]
          by_cases h1 : m % 2 = 0
          · rw [if_pos h1, T.get_leaf, if_neg (by omega)]
          · rw [if_neg h1, h2]
            by_cases h3 : m = k
            · subst h3; simp
            · rw [if_neg (by omega), if_neg (by omega)]
theorem T.set_get : ∀ (t : T α) (n : Nat) (a : α), t.set n a ≠ .leaf ∧ ∀ m, (t.set n a).get m = if m = n then some a else t.get m := by
  intro t
  induction t with
  | leaf =>
    intro n a
    obtain ⟨h1, h2⟩ := T.one_get (n + 1) n a (by omega)
    exact ⟨h1, h2⟩
  | node l v r ihl ihr =>
    intro n a
    cases n with
    | zero =>
      rw [show (T.node l v r).set 0 a = .node l (some a) r from rfl]
      refine ⟨by simp, fun m => ?_⟩
      cases m with
      | zero => rfl
      | succ m => rw [T.get_succ, T.get_succ, if_neg (by omega : ¬ (m + 1 = 0))]
    | succ k =>
      have el : T.rec (motive := fun _ => T α) .leaf (fun x y z _ _ => .node (.node x y z) v r) (l.set (k / 2) a) = .node (l.set (k / 2) a) v r := by
        cases h : l.set (k / 2) a with
        | leaf => exact absurd h (ihl _ _).1
        | node x y z => rfl
      have er : T.rec (motive := fun _ => T α) .leaf (fun x y z _ _ => .node l v (.node x y z)) (r.set (k / 2) a) = .node l v (r.set (k / 2) a) := by
        cases h : r.set (k / 2) a with
        | leaf => exact absurd h (ihr _ _).1
        | node x y z => rfl
      have e : (T.node l v r).set (k + 1) a = if k % 2 = 0 then .node (l.set (k / 2) a) v r else .node l v (r.set (k / 2) a) := by
        have e1 : (T.node l v r).set (k + 1) a = Bool.rec (motive := fun _ => T α) (T.rec (motive := fun _ => T α) .leaf (fun x y z _ _ => .node l v (.node x y z)) (r.set (k / 2) a)) (T.rec (motive := fun _ => T α) .leaf (fun x y z _ _ => .node (.node x y z) v r) (l.set (k / 2) a)) (Nat.beq (Nat.mod k 2) 0) := rfl
        rw [e1, el, er, beq_mod]
        by_cases h0 : k % 2 = 0
        · rw [decide_eq_true h0, if_pos h0]
        · rw [decide_eq_false h0, if_neg h0]
      by_cases h0 : k % 2 = 0
      · rw [e, if_pos h0]
        refine ⟨by simp, fun m => ?_⟩
        cases m with
        | zero => rw [T.get_zero, T.get_zero, if_neg (by omega)]
        | succ m =>
          rw [T.get_succ, T.get_succ]
          by_cases h1 : m % 2 = 0
          · rw [if_pos h1, if_pos h1, (ihl _ _).2]
            by_cases h3 : m = k
            · subst h3; simp
            · rw [if_neg (by omega), if_neg (by omega)]
          · rw [if_neg h1, if_neg h1, if_neg (by omega)]
      · rw [e, if_neg h0]
        refine ⟨by simp, fun m => ?_⟩
        cases m with
        | zero => rw [T.get_zero, T.get_zero, if_neg (by omega)]
        | succ m =>
          rw [T.get_succ, T.get_succ]
          by_cases h1 : m % 2 = 0
          · rw [if_pos h1, if_pos h1, if_neg (by omega)]
          · rw [if_neg h1, if_neg h1, (ihr _ _).2]
            by_cases h3 : m = k
            · subst h3; simp
            · rw [if_neg (by omega), if_neg (by omega)]
theorem T.go_get : ∀ (l : List (Option α)) (n : Nat) (t : T α) (m : Nat) (a : α), (T.go l n t).get m = some a → (t.get m = some a) ∨ (n ≤ m ∧ l[m - n]? = some (some a)) := by
  intro l
  induction l with
  | nil => intro n t m a h; exact .inl h
  | cons x l ih =>
    intro n t m a h
    cases x with
    | none =>
      rcases ih (n + 1) t m a h with h1 | ⟨h1, h2⟩
      · exact .inl h1
      · refine .inr ⟨by omega, ?_⟩
        rw [show m - n = (m - (n + 1)) + 1 by omega]; exact h2
    | some b =>
      have e : T.go (some b :: l) n t = T.go l (n + 1) (t.set n b) := by
        show (match t.set n b with | .leaf => T.leaf | .node x y z => T.go l (n + 1) (.node x y z)) = _
        cases h9 : t.set n b with
        | leaf => exact absurd h9 (T.set_get t n b).1
        | node x y z => rfl
      rw [e] at h
      rcases ih (n + 1) _ m a h with h1 | ⟨h1, h2⟩
      · rw [(T.set_get t n b).2] at h1
        split at h1
        · rename_i h3; subst h3; cases h1
          exact .inr ⟨Nat.le_refl _, by simp⟩
        · exact .inl h1
      · refine .inr ⟨by omega, ?_⟩
        rw [show m - n = (m - (n + 1)) + 1 by omega]; exact h2
theorem T.ofOpts_get {l : List (Option α)} {m : Nat} {a : α} (h : (T.ofOpts l).get m = some a) : l[m]? = some (some a) := by
  rcases T.go_get l 0 .leaf m a h with h1 | ⟨_, h2⟩
  · rw [T.get_leaf] at h1; cases h1
  · exact h2
theorem T.ofList_get {l : List α} {m : Nat} {a : α} (h : (T.ofList l).get m = some a) : l[m]? = some a := by
  have h1 := T.ofOpts_get h
  rw [List.getElem?_map] at h1
  cases h2 : l[m]? with
  | none => rw [h2] at h1; cases h1
  | some b => rw [h2] at h1; simpa using h1
theorem T.goS_get : ∀ (l : List α) (n : Nat) (t : T α) (m : Nat), (T.go (l.map some) n t).get m = if n ≤ m ∧ m < n + l.length then l[m - n]? else t.get m := by
  intro l
  induction l with
  | nil =>
    intro n t m
    rw [if_neg (by simp only [List.length_nil]; omega)]; rfl
  | cons b l ih =>
    intro n t m
    have e : T.go ((b :: l).map some) n t = T.go (l.map some) (n + 1) (t.set n b) := by
      show (match t.set n b with | .leaf => T.leaf | .node x y z => T.go (l.map some) (n + 1) (.node x y z)) = _
      cases h9 : t.set n b with
      | leaf => exact absurd h9 (T.set_get t n b).1
      | node x y z => rfl
    rw [e, ih, (T.set_get t n b).2]
    by_cases h1 : n ≤ m ∧ m < n + (b :: l).length
    · rw [if_pos h1]
      by_cases h2 : m = n
      · subst h2
        rw [if_neg (by omega), if_pos rfl]
        simp
      · simp only [List.length_cons] at h1
        rw [if_pos (by omega)]
        rw [show m - n = (m - (n + 1)) + 1 by omega]; rfl
    · simp only [List.length_cons] at h1
      rw [if_neg (by omega), if_neg (by omega), if_neg (by simp only [List.length_cons]; omega)]
theorem T.ofList_eq (l : List α) (m : Nat) : (T.ofList l).get m = l[m]? := by
  unfold T.ofList T.ofOpts
  rw [T.goS_get]
  by_cases h : m < l.length
  · rw [if_pos (by omega)]; rfl
  · rw [if_neg (by omega), T.get_leaf, List.getElem?_eq_none (by omega)]
/-! Values. -/
/-- Where a number's block lies; by how much its capacity is more than is told. -/
structure Sg where
  blk : Nat → Option Nat
  ext : Nat → Nat
def Sg.le (σ σ' : Sg) : Prop := ∀ B b, σ.blk B = some b → σ'.blk B = some b ∧ σ'.ext B = σ.ext B
theorem Sg.le_refl (σ : Sg) : σ.le σ := fun _ _ h => ⟨h, rfl⟩
theorem Sg.le.trans {a b c : Sg} (h : a.le b) (k : b.le c) : a.le c := fun B x hx => by
  obtain ⟨h1, h2⟩ := h B x hx
  obtain ⟨k1, k2⟩ := k B x h1
  exact ⟨k1, k2.trans h2⟩
mutual
inductive VR (σ : Sg) : Value → Value → Prop
  | top (v : Value) : VR σ top v
  | bool (b : Bool) : VR σ (.bool b) (.bool b)
  | int (k : IntKind) (n : Int) : VR σ (.int k n) (.int k n)
  | string (s : ByteArray) : VR σ (.string s) (.string s)
  | nilFunc : VR σ .nilFunc .nilFunc
  | nilIface : VR σ .nilIface .nilIface
  | mapNil : VR σ (.map none) (.map none)
  | top1 (v : Value) (h : v.oneCell' = true) : VR σ top1 v
  | map {B b : Nat} (h : σ.blk B = some b) : VR σ (.map (some B)) (.map (some b))
  | iface (t : TypeId) {v v' : Value} (h : VR σ v v') : VR σ (.iface t v) (.iface t v')
  | pnil : VR σ (.pointer none) (.pointer none)
  | ptr {B b : Nat} (o : Nat) (h : σ.blk B = some b) : VR σ (.pointer (some ⟨B, o, none⟩)) (.pointer (some ⟨b, o, none⟩))
  | snil (n c : Nat) : VR σ (.slice none n c) (.slice none n c)
  | sl {B b : Nat} (o n c : Nat) (h : σ.blk B = some b) : VR σ (.slice (some ⟨B, o, none⟩) n c) (.slice (some ⟨b, o, none⟩) n (c + σ.ext B))
  | sl0 {B b : Nat} (o n c : Nat) (h : σ.blk B = some b) : VR σ (.slice (some ⟨B, o, some 0⟩) n c) (.slice (some ⟨b, o, none⟩) n c)
  | sl1 (B o b o' c : Nat) : VR σ (.slice (some ⟨B, o, some 1⟩) 0 0) (.slice (some ⟨b, o', none⟩) 0 c)
  | func (k : FuncId) {l l' m m' : List Value} (h : VL σ l l') (h' : VL σ m m') : VR σ (.func (.func k) ⟨l⟩ ⟨m⟩) (.func (.func k) ⟨l'⟩ ⟨m'⟩)
  | yield {B b : Nat} (h : σ.blk B = some b) : VR σ (.func (.yield B) #[] #[]) (.func (.yield b) #[] #[])
  | agg {l l' : List Value} (h : VL σ l l') : VR σ (.agg ⟨l⟩) (.agg ⟨l'⟩)
  | tuple {l l' : List Value} (h : VL σ l l') : VR σ (.tuple ⟨l⟩) (.tuple ⟨l'⟩)
inductive VL (σ : Sg) : List Value → List Value → Prop
  | nil : VL σ [] []
  | cons {v v' : Value} {l l' : List Value} (h : VR σ v v') (h' : VL σ l l') : VL σ (v :: l) (v' :: l')
end
mutual
theorem VR.mono {σ σ' : Sg} (hs : σ.le σ') : ∀ {v v' : Value}, VR σ v v' → VR σ' v v'
  | _, _, .top v => .top v
  | _, _, .bool b => .bool b
  | _, _, .int k n => .int k n
  | _, _, .string s => .string s
  | _, _, .nilFunc => .nilFunc
  | _, _, .nilIface => .nilIface
  | _, _, .mapNil => .mapNil
  | _, _, .top1 v h => .top1 v h
  | _, _, .map h => .map (hs _ _ h).1
  | _, _, .iface t h => .iface t (VR.mono hs h)
  | _, _, .pnil => .pnil
  | _, _, .ptr o h => .ptr o (hs _ _ h).1
  | _, _, .snil n c => .snil n c
  | _, _, .sl (B := B) (b := b) o n c h => by
    obtain ⟨h1, h2⟩ := hs _ _ h
    rw [← h2]
    exact .sl o n c h1
  | _, _, .sl0 o n c h => .sl0 o n c (hs _ _ h).1
  | _, _, .sl1 B o b o' c => .sl1 B o b o' c
  | _, _, .func k h h' => .func k (VL.mono hs h) (VL.mono hs h')
  | _, _, .yield h => .yield (hs _ _ h).1
  | _, _, .agg h => .agg (VL.mono hs h)
  | _, _, .tuple h => .tuple (VL.mono hs h)
theorem VL.mono {σ σ' : Sg} (hs : σ.le σ') : ∀ {l l' : List Value}, VL σ l l' → VL σ' l l'
  | _, _, .nil => .nil
  | _, _, .cons h h' => .cons (VR.mono hs h) (VL.mono hs h')
end
end Go.Proofs.YtlhkaoccnpgkeaaGreat.Ev

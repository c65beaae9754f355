/- eval: what a heap stands for; temporaries; new blocks, changed blocks. -/
import Derived.Test.YtlhkaoccnpgkeaaGreatEvC
namespace Go.Proofs.YtlhkaoccnpgkeaaGreat.Ev
open Go
set_option linter.unusedVariables false
set_option linter.unusedSimpArgs false
variable {α : Type} {β : Type}
theorem fNat_eq (n : Nat) (f : Nat → β) : fNat n f = f n := by cases n <;> rfl
theorem fInt_eq (n : Int) (f : Int → β) : fInt n f = f n := by cases n <;> simp only [fInt, fNat_eq]
theorem fAddr_eq (a : Addr) (f : Addr → β) : fAddr a f = f a := by
  obtain ⟨b, o, s⟩ := a
  simp only [fAddr, fNat_eq]
theorem fVal_eq (v : Value) (f : Value → β) : fVal v f = f v := by
  cases v with
  | int k n => simp only [fVal, fInt_eq]
  | bool b => cases b <;> rfl
  | slice a n c => cases a <;> simp only [fVal, fNat_eq, fAddr_eq]
  | pointer a => cases a <;> simp only [fVal, fAddr_eq]
  | map a => cases a <;> simp only [fVal, fNat_eq]
  | _ => rfl
theorem VL.length {σ : Sg} : ∀ {l l' : List Value}, VL σ l l' → l'.length = l.length
  | _, _, .nil => rfl
  | _, _, .cons _ h => by simp [VL.length h]
theorem VL.get {σ : Sg} : ∀ {l l' : List Value}, VL σ l l' → ∀ {i : Nat} {v : Value}, l[i]? = some v → ∃ v', l'[i]? = some v' ∧ VR σ v v'
  | _, _, .nil, i, v, h => by simp at h
  | _, _, .cons h hl, 0, v, e => ⟨_, rfl, by cases e; exact h⟩
  | _, _, .cons h hl, i + 1, v, e => VL.get hl (i := i) e
theorem VL.append {σ : Sg} : ∀ {l l' m m' : List Value}, VL σ l l' → VL σ m m' → VL σ (l ++ m) (l' ++ m')
  | _, _, _, _, .nil, k => k
  | _, _, _, _, .cons h hl, k => .cons h (VL.append hl k)
theorem VL.take {σ : Sg} : ∀ {l l' : List Value} (n : Nat), VL σ l l' → VL σ (l.take n) (l'.take n)
  | _, _, 0, _ => by simp; exact .nil
  | _, _, n + 1, .nil => .nil
  | _, _, n + 1, .cons h hl => .cons h (VL.take n hl)
theorem VL.drop {σ : Sg} : ∀ {l l' : List Value} (n : Nat), VL σ l l' → VL σ (l.drop n) (l'.drop n)
  | _, _, 0, h => h
  | _, _, n + 1, .nil => .nil
  | _, _, n + 1, .cons h hl => VL.drop n hl
theorem VL.map {σ : Sg} {γ : Type} (f g : γ → Value) (h : ∀ x, VR σ (f x) (g x)) : ∀ l : List γ, VL σ (l.map f) (l.map g)
  | [] => .nil
  | x :: l => .cons (h x) (VL.map f g h l)
theorem VL.rep {σ : Sg} {l l' : List Value} (h : VL σ l l') : ∀ n, VL σ (repL l n) (repL l' n)
  | 0 => .nil
  | n + 1 => VL.append h (VL.rep h n)
theorem VR.gr {σ : Sg} {v : Value} (h : gr v = true) : VR σ v v := by
  unfold Ev.gr at h
  cases v with
  | bool b => exact .bool b
  | int k n => exact .int k n
  | string s => exact .string s
  | nilFunc => exact .nilFunc
  | nilIface => exact .nilIface
  | pointer a => cases a <;> first | exact .pnil | simp at h
  | slice a n c => cases a <;> first | exact .snil _ _ | simp at h
  | map a => cases a <;> first | exact .mapNil | simp at h
  | _ => simp at h
theorem VL.gr {σ : Sg} : ∀ {l : List Value}, l.all Ev.gr = true → VL σ l l
  | [], _ => .nil
  | v :: l, h => by
    simp only [List.all_cons, Bool.and_eq_true] at h
    exact .cons (.gr h.1) (VL.gr h.2)
theorem VR.grA {σ : Sg} {v : Value} (h : grA v = true) : VR σ v v := by
  unfold Ev.grA at h
  split at h
  · rename_i l
    obtain ⟨l⟩ := l
    exact .agg (VL.gr h)
  · exact .gr h
theorem VR.undef (σ : Sg) : VR σ undef undef := .tuple .nil
theorem oneC_cell {σ : Sg} {v v' : Value} (h : VR σ v v') (h1 : oneC v = true) : v'.oneCell' = true := by
  cases h <;> first | rfl | (simp [oneC, Ev.top] at h1; done) | assumption
theorem cells_VL {σ : Sg} {v v' : Value} (h : VR σ v v') (h1 : (cellsL v).all oneC = true) : VL σ (cellsL v) v'.cells.toList := by
  cases h with
  | top v => simp [cellsL, Ev.top, oneC] at h1
  | agg h => exact h
  | tuple h => simp [cellsL, oneC] at h1
  | bool b => exact .cons (.bool b) .nil
  | int k n => exact .cons (.int k n) .nil
  | string s => exact .cons (.string s) .nil
  | nilFunc => exact .cons .nilFunc .nil
  | nilIface => exact .cons .nilIface .nil
  | mapNil => exact .cons .mapNil .nil
  | pnil => exact .cons .pnil .nil
  | ptr o h => exact .cons (.ptr o h) .nil
  | snil n c => exact .cons (.snil n c) .nil
  | sl o n c h => exact .cons (.sl o n c h) .nil
  | sl0 o n c h => exact .cons (.sl0 o n c h) .nil
  | sl1 B o b o' c => exact .cons (.sl1 B o b o' c) .nil
  | func k h h' => exact .cons (.func k h h') .nil
  | yield h => exact .cons (.yield h) .nil
  | top1 _ h =>
    have e : v'.cells = #[v'] := by cases v' <;> first | rfl | (simp [Value.oneCell'] at h)
    rw [e]
    exact .cons (.top1 v' h) .nil
  | map h => exact .cons (.map h) .nil
  | iface t h => exact .cons (.iface t h) .nil
theorem VL.oneC {σ : Sg} : ∀ {l l' : List Value}, VL σ l l' → l.all Ev.oneC = true → ∀ u ∈ l', u.oneCell' = true
  | _, _, .nil, _, u, hu => by simp at hu
  | _, _, .cons h hl, h1, u, hu => by
    simp only [List.all_cons, Bool.and_eq_true] at h1
    rcases List.mem_cons.1 hu with rfl | hu
    · exact oneC_cell h h1.1
    · exact VL.oneC hl h1.2 u hu
/-! Temporaries. -/
noncomputable def tmGet (tm : T Value) (t : Nat) : Value := match tm.get t with
  | some v => v
  | none => undef
def TmR (σ : Sg) (nt : Nat) (tm : T Value) (tmps : Array Value) : Prop := tmps.size = nt ∧ ∀ t, VR σ (tmGet tm t) (tmps.getD t undef)
theorem TmR.mono {σ σ' : Sg} {nt : Nat} {tm : T Value} {tmps : Array Value} (h : TmR σ nt tm tmps) (hs : σ.le σ') : TmR σ' nt tm tmps := ⟨h.1, fun t => (h.2 t).mono hs⟩
theorem TmR.eval {σ : Sg} {nt : Nat} {tm : T Value} {a : Act} (h : TmR σ nt tm a.tmps) (x : Operand) : VR σ (evalO tm x) (a.eval x) := by
  cases x with
  | tmp t => exact h.2 t
  | const v =>
    show VR σ (match grA v with | true => v | false => Ev.top) v
    cases hg : grA v with
    | true => exact .grA hg
    | false => exact .top _
  | global g => exact .top _
  | func f => exact .func f .nil .nil
theorem TmR.put {σ : Sg} {nt : Nat} {tm : T Value} {tmps : Array Value} (h : TmR σ nt tm tmps) {d : Nat} (hd : d < nt) {v v' : Value} (hv : VR σ v v') : TmR σ nt (tm.set d v) (tmps.setIfInBounds d v') := by
  refine ⟨by simp [h.1], fun t => ?_⟩
  unfold tmGet
  rw [(T.set_get tm d v).2]
  by_cases e : t = d
  · subst e
    rw [if_pos rfl]
    have : (tmps.setIfInBounds t v').getD t undef = v' := by
      rw [Array.getD_eq_getD_getElem?, Array.getElem?_setIfInBounds_self_of_lt (by rw [h.1]; exact hd)]; rfl
    rw [this]; exact hv
  · rw [if_neg e]
    have : (tmps.setIfInBounds d v').getD t undef = tmps.getD t undef := by
      rw [Array.getD_eq_getD_getElem?, Array.getElem?_setIfInBounds_ne (by omega), Array.getD_eq_getD_getElem?]
    rw [this]; exact h.2 t
theorem put_some {nt : Nat} {tm : T Value} {d : Option Tmp} {v : Value} {f : T Value → Option β} {r : β} (h : put nt tm d v f = some r) :
    ∃ tm', f tm' = some r ∧ (∀ x, d = some x → x < nt ∧ tm' = tm.set x v) ∧ (d = none → tm' = tm) := by
  unfold Ev.put at h
  cases d with
  | none => exact ⟨tm, h, (fun x e => by cases e), fun _ => rfl⟩
  | some d =>
    dsimp only at h
    split at h
    · rename_i hb
      rw [fVal_eq] at h
      split at h
      · cases h
      · rename_i x y z e
        refine ⟨_, h, (fun x e2 => ?_), (fun e2 => by cases e2)⟩
        cases e2
        exact ⟨by simpa [Nat.blt_eq] using hb, e.symm⟩
    · cases h
theorem put_TmR {σ : Sg} {nt : Nat} {tm tm' : T Value} {a : Act} {d : Option Tmp} {v v' : Value} (h : TmR σ nt tm a.tmps) (hv : VR σ v v') (h1 : ∀ x, d = some x → x < nt ∧ tm' = tm.set x v) (h2 : d = none → tm' = tm) : TmR σ nt tm' (a.put d v').tmps := by
  cases d with
  | none => rw [h2 rfl]; exact h
  | some d =>
    obtain ⟨h3, h4⟩ := h1 d rfl
    rw [h4]
    exact h.put h3 hv
theorem ofList_TmR {σ : Sg} {l l' : List Value} (h : VL σ l l') {nt : Nat} (hn : l.length ≤ nt) : TmR σ nt (T.ofList l) ((⟨l'⟩ : Array Value) ++ Array.replicate (nt - (⟨l'⟩ : Array Value).size) undef) := by
  have hl : l'.length = l.length := h.length
  refine ⟨by simp; omega, fun t => ?_⟩
  unfold tmGet
  rw [T.ofList_eq]
  rw [Array.getD_eq_getD_getElem?]
  by_cases ht : t < l.length
  · obtain ⟨v, hv⟩ : ∃ v, l[t]? = some v := ⟨l[t], List.getElem?_eq_getElem ht⟩
    obtain ⟨v', hv', hr⟩ := h.get hv
    rw [hv, Array.getElem?_append_left (by simp; omega)]
    have : (⟨l'⟩ : Array Value)[t]? = l'[t]? := by simp
    rw [this, hv']
    exact hr
  · rw [List.getElem?_eq_none (by omega), Array.getElem?_append_right (by simp; omega), Array.getElem?_replicate]
    have e : ∀ c : Prop, [Decidable c] → (if c then some undef else none : Option Value).getD undef = undef := fun c _ => by split <;> rfl
    rw [e]
    exact VR.undef σ
/-! Heaps. -/
def frOk (n : Nat) (fr : Nat × Nat) : Prop := fr.1 = fr.2 ∨ n ≤ fr.1
def CellsR (σ : Sg) (c : T Value) (cs : Array Value) : Prop := ∀ i v, c.get i = some v → ∃ v', cs[i]? = some v' ∧ VR σ v v'
def stR : Nat → LoopState → Prop
  | 0, s => s = .ready
  | 1, s => s = .busy
  | 2, s => s = .done
  | _, s => s = .exhausted
def pendC : Option Ex → Option Code
  | none => none
  | some .normal => none
  | some (.exit id) => some (.exit id)
  | some .ret => some .ret
/-- A map's entries. -/
inductive MapR (σ : Sg) : List (Value × Value) → List MapEntry → Prop
  | nil : MapR σ [] []
  | cons {k v : Value} {l : List (Value × Value)} {e : MapEntry} {m : List MapEntry} (hk : e.key = k) (hv : VR σ v e.val) (h : MapR σ l m) (ho : keyOk k = true) : MapR σ ((k, v) :: l) (e :: m)
theorem MapR.mono {σ σ' : Sg} (hs : σ.le σ') : ∀ {l : List (Value × Value)} {m : List MapEntry}, MapR σ l m → MapR σ' l m
  | _, _, .nil => .nil
  | _, _, .cons hk hv h ho => .cons hk (hv.mono hs) (MapR.mono hs h) ho
/-- What lies in a block. -/
def ObR (P : Program) (σ : Sg) (B : Nat) : Ob → Obj → Prop
  | .cells e opn n c, o => ∃ cs fr, o = .cells cs e fr ∧ frOk cs.size fr ∧ (opn = false → σ.ext B = 0) ∧ (opn = true → cs.size = n + σ.ext B * P.cellsOf e) ∧ CellsR σ c cs
  | .loop st pend df nt tm ps asg body, o => ∃ r : Loop, o = .loop r ∧ stR st r.state ∧ r.pending = pendC pend ∧ σ.blk df = some r.defers ∧ TmR σ nt tm r.tmps ∧ r.params.toList = ps ∧ r.assign = asg ∧ r.body = body
  | .defer, o => o = .deferred (some [])
  | .dead, _ => True
  | .map es, o => ∃ ms clock, o = .map ms clock ∧ MapR σ es ms.toList
  | .iter s pos, o => o = .stringIter s pos
theorem ObR.mono {P : Program} {σ σ' : Sg} (hs : σ.le σ') {B b : Nat} (hb : σ.blk B = some b) {o : Ob} {x : Obj} (h : ObR P σ B o x) : ObR P σ' B o x := by
  have hx := (hs B b hb).2
  cases o with
  | cells e opn n c =>
    obtain ⟨cs, fr, h1, h2, h3, h4, h5⟩ := h
    refine ⟨cs, fr, h1, h2, fun e => by rw [hx]; exact h3 e, fun e => by rw [hx]; exact h4 e, fun i v hv => ?_⟩
    obtain ⟨v', k1, k2⟩ := h5 i v hv
    exact ⟨v', k1, k2.mono hs⟩
  | loop st pend df nt tm ps asg body =>
    obtain ⟨r, h1, h2, h3, h4, h5, h6⟩ := h
    exact ⟨r, h1, h2, h3, (hs _ _ h4).1, h5.mono hs, h6⟩
  | defer => exact h
  | dead => trivial
  | map es =>
    obtain ⟨ms, c, h1, h2⟩ := h
    exact ⟨ms, c, h1, h2.mono hs⟩
  | iter s p => exact h
/-- A heap, as what lies at each number. -/
abbrev G := Nat → Option Ob
def live (g : G) (B : Nat) : Prop := ∃ o, g B = some o ∧ o ≠ .dead
structure HR (P : Program) (σ : Sg) (g : G) (w : World) : Prop where
  at_ : ∀ B o, g B = some o → o ≠ .dead → ∃ b x, σ.blk B = some b ∧ w.heap[b]? = some x ∧ ObR P σ B o x
  inj : ∀ B B' b, live g B → live g B' → σ.blk B = some b → σ.blk B' = some b → B = B'
/-- Nothing but the heap's own blocks has changed. -/
structure Fr (σ : Sg) (g : G) (w w' : World) : Prop where
  os : w'.os = w.os
  tape : w'.tape = w.tape
  out : w'.output = w.output
  size : w.heap.size ≤ w'.heap.size
  blk : ∀ k, k < w.heap.size → (∀ B, live g B → σ.blk B ≠ some k) → w'.heap[k]? = w.heap[k]?
/-- What has come of a heap: σ, g in the world w; the numbers that are new lie in nx .. nx'. -/
structure Out (P : Program) (σ : Sg) (g : G) (nx : Nat) (w : World) (σ' : Sg) (g' : G) (nx' : Nat) (w' : World) : Prop where
  le : σ.le σ'
  new : ∀ B, σ.blk B = none → σ'.blk B ≠ none → nx ≤ B ∧ B < nx'
  hr : HR P σ' g' w'
  fr : Fr σ g w w'
  im : ∀ B b, live g' B → σ'.blk B = some b → (∃ B0, live g B0 ∧ σ.blk B0 = some b) ∨ w.heap.size ≤ b
  nx : nx ≤ nx'
def Free (σ : Sg) (a b : Nat) : Prop := ∀ B, a ≤ B → B < b → σ.blk B = none
theorem Fr.refl (σ : Sg) (g : G) (w : World) : Fr σ g w w := ⟨rfl, rfl, rfl, Nat.le_refl _, fun _ _ _ => rfl⟩
theorem Out.refl {P : Program} {σ : Sg} {g : G} {w : World} (nx : Nat) (h : HR P σ g w) : Out P σ g nx w σ g nx w :=
  ⟨Sg.le_refl σ, fun B h1 h2 => absurd h1 h2, h, Fr.refl _ _ _, fun B b h1 h2 => .inl ⟨B, h1, h2⟩, Nat.le_refl _⟩
theorem Out.trans {P : Program} {σ0 σ1 σ2 : Sg} {g0 g1 g2 : G} {n0 n1 n2 : Nat} {w0 w1 w2 : World} (h : Out P σ0 g0 n0 w0 σ1 g1 n1 w1) (k : Out P σ1 g1 n1 w1 σ2 g2 n2 w2) : Out P σ0 g0 n0 w0 σ2 g2 n2 w2 := by
  refine ⟨h.le.trans k.le, fun B h1 h2 => ?_, k.hr, ⟨k.fr.os.trans h.fr.os, k.fr.tape.trans h.fr.tape, k.fr.out.trans h.fr.out, Nat.le_trans h.fr.size k.fr.size, fun x hx hB => ?_⟩, fun B b h1 h2 => ?_, Nat.le_trans h.nx k.nx⟩
  · by_cases h3 : σ1.blk B = none
    · have := k.new B h3 h2
      have := h.nx
      omega
    · have := h.new B h1 h3
      have := k.nx
      omega
  · have h1 := h.fr.size
    rw [k.fr.blk x (by omega) ?_, h.fr.blk x hx hB]
    intro B hl e
    rcases h.im B x hl e with ⟨B0, h2, h3⟩ | h2
    · exact hB B0 h2 h3
    · omega
  · rcases k.im B b h1 h2 with ⟨B1, h3, h4⟩ | h3
    · exact h.im B1 b h3 h4
    · have := h.fr.size
      exact .inr (by omega)
theorem Free.out {P : Program} {σ σ' : Sg} {g g' : G} {n n' m : Nat} {w w' : World} (h : Free σ n m) (k : Out P σ g n w σ' g' n' w') : Free σ' n' m := by
  intro B h1 h2
  by_cases h3 : σ'.blk B = none
  · exact h3
  · have h4 := k.nx
    have := k.new B (h B (by omega) h2) h3
    omega
theorem Free.le {σ : Sg} {a b c : Nat} (h : Free σ a c) (hb : b ≤ c) : Free σ a b := fun B h1 h2 => h B h1 (by omega)
theorem HR.lt {P : Program} {σ : Sg} {g : G} {w : World} (h : HR P σ g w) {B b : Nat} (hl : live g B) (hb : σ.blk B = some b) : b < w.heap.size := by
  obtain ⟨o, h1, h2⟩ := hl
  obtain ⟨b', x, h3, h4, _⟩ := h.at_ B o h1 h2
  rw [hb] at h3; cases h3
  exact (Array.getElem?_eq_some_iff.1 h4).1
/-- A change of the world that leaves all blocks as they are. -/
theorem HR.same {P : Program} {σ : Sg} {g : G} {w w' : World} (h : HR P σ g w) (hw : ∀ (k : Nat) (x : Obj), w.heap[k]? = some x → w'.heap[k]? = some x) : HR P σ g w' :=
  ⟨fun B o h1 h2 => by obtain ⟨b, x, h3, h4, h5⟩ := h.at_ B o h1 h2; exact ⟨b, x, h3, hw _ _ h4, h5⟩, h.inj⟩
/-- A new block. -/
def Sg.add (σ : Sg) (B b x : Nat) : Sg := ⟨fun k => if k = B then some b else σ.blk k, fun k => if k = B then x else σ.ext k⟩
theorem Sg.le_add {σ : Sg} {B b x : Nat} (h : σ.blk B = none) : σ.le (σ.add B b x) := fun k y hk => by
  have hne : k ≠ B := fun e => by subst e; rw [h] at hk; cases hk
  exact ⟨by simp [Sg.add, hne, hk], by simp [Sg.add, hne]⟩
def gset (g : G) (B : Nat) (o : Ob) : G := fun k => if k = B then some o else g k
theorem set_gset (t : T Ob) (B : Nat) (o : Ob) : (t.set B o).get = gset t.get B o := by
  funext k
  rw [(T.set_get t B o).2]; rfl
theorem live_gset {g : G} {B k : Nat} {o : Ob} (h : live (gset g B o) k) : k = B ∨ live g k := by
  obtain ⟨x, h1, h2⟩ := h
  unfold gset at h1
  split at h1
  · rename_i e; exact .inl e
  · exact .inr ⟨x, h1, h2⟩
theorem HR.new {P : Program} {σ : Sg} {g : G} {w : World} (h : HR P σ g w) {B : Nat} (hB : σ.blk B = none) {o : Ob} {x : Obj} {ex : Nat} {w' : World} (hw : w'.heap = w.heap.push x) (hos : w'.os = w.os) (htp : w'.tape = w.tape) (hout : w'.output = w.output)
    (hx : ObR P (σ.add B w.heap.size ex) B o x) : Out P σ g B w (σ.add B w.heap.size ex) (gset g B o) (B + 1) w' := by
  have hle := Sg.le_add (σ := σ) (B := B) (b := w.heap.size) (x := ex) hB
  have hold : ∀ k y, w.heap[k]? = some y → w'.heap[k]? = some y := fun k y hk => by
    have hlt := (Array.getElem?_eq_some_iff.1 hk).1
    rw [hw, Array.getElem?_push_lt hlt]
    rw [Array.getElem?_eq_getElem hlt] at hk
    exact hk
  have hblk : ∀ k b, live (gset g B o) k → (σ.add B w.heap.size ex).blk k = some b → (k = B ∧ b = w.heap.size) ∨ (k ≠ B ∧ live g k ∧ σ.blk k = some b ∧ b < w.heap.size) := by
    intro k b hl hb
    rcases live_gset hl with e | hl2
    · left
      subst e
      simp only [Sg.add, if_true] at hb
      exact ⟨rfl, (Option.some.inj hb).symm⟩
    · clear hl
      have hl := hl2
      by_cases hk : k = B
      · subst hk
        obtain ⟨y, h1, h2⟩ := hl2
        obtain ⟨b', _, h3, _⟩ := h.at_ k y h1 h2
        rw [hB] at h3; cases h3
      · simp only [Sg.add, hk, if_false] at hb
        exact .inr ⟨hk, hl, hb, h.lt hl hb⟩
  refine ⟨hle, fun k h1 h2 => ?_, ⟨fun k y h1 h2 => ?_, fun k k' b h1 h2 h3 h4 => ?_⟩, ⟨hos, htp, hout, by rw [hw]; simp, fun k hk _ => ?_⟩, fun k b h1 h2 => ?_, by omega⟩
  · by_cases hk : k = B
    · omega
    · simp only [Sg.add, hk, if_false] at h2
      exact absurd h1 h2
  · unfold gset at h1
    split at h1
    · rename_i e
      subst e; cases h1
      refine ⟨w.heap.size, x, by simp [Sg.add], by rw [hw, Array.getElem?_push_size], hx⟩
    · obtain ⟨b, z, h3, h4, h5⟩ := h.at_ k y h1 h2
      exact ⟨b, z, (hle k b h3).1, hold _ _ h4, h5.mono hle h3⟩
  · rcases hblk k b h1 h3 with ⟨e1, e2⟩ | ⟨e1, e2, e3, e4⟩ <;> rcases hblk k' b h2 h4 with ⟨f1, f2⟩ | ⟨f1, f2, f3, f4⟩
    · omega
    · omega
    · omega
    · exact h.inj k k' b e2 f2 e3 f3
  · rw [hw, Array.getElem?_push_lt hk, Array.getElem?_eq_getElem hk]
  · rcases hblk k b h1 h2 with ⟨e1, e2⟩ | ⟨e1, e2, e3, e4⟩
    · exact .inr (by omega)
    · exact .inl ⟨k, e2, e3⟩
/-- A block that is there is changed. -/
theorem HR.set {P : Program} {σ : Sg} {g : G} {w : World} (h : HR P σ g w) (nx : Nat) {B b : Nat} {o0 : Ob} (hg : g B = some o0) (hd : o0 ≠ .dead) (hb : σ.blk B = some b) {o : Ob} {x : Obj} {w' : World} (hw : ∀ k, k ≠ b → w'.heap[k]? = w.heap[k]?) (hwb : w'.heap[b]? = some x) (hos : w'.os = w.os) (htp : w'.tape = w.tape) (hout : w'.output = w.output) (hsz : w'.heap.size = w.heap.size)
    (hx : ObR P σ B o x) : Out P σ g nx w σ (gset g B o) nx w' := by
  have hl0 : live g B := ⟨o0, hg, hd⟩
  have hlive : ∀ k, live (gset g B o) k → live g k := fun k hk => by
    rcases live_gset hk with rfl | hk
    · exact hl0
    · exact hk
  refine ⟨Sg.le_refl σ, fun k h1 h2 => absurd h1 h2, ⟨fun k y h1 h2 => ?_, fun k k' y h1 h2 h3 h4 => h.inj k k' y (hlive k h1) (hlive k' h2) h3 h4⟩, ⟨hos, htp, hout, by omega, fun k hk hB => ?_⟩, fun k y h1 h2 => .inl ⟨k, hlive k h1, h2⟩, Nat.le_refl _⟩
  · unfold gset at h1
    split at h1
    · rename_i e
      subst e; cases h1
      exact ⟨b, x, hb, hwb, hx⟩
    · rename_i hk
      obtain ⟨b', z, h3, h4, h5⟩ := h.at_ k y h1 h2
      refine ⟨b', z, h3, ?_, h5⟩
      rw [hw b' (fun e => ?_)]
      · exact h4
      · subst e
        exact hk (h.inj k B b' ⟨y, h1, h2⟩ hl0 h3 hb)
  · exact hw k (fun e => by subst e; exact hB B hl0 hb)
theorem Hnew_some {h : H} {o : Ob} {k : Nat → H → Option β} {r : β} (e : H.new h o k = some r) : ∃ t, k h.nx ⟨h.nx + 1, t⟩ = some r ∧ t.get = gset h.t.get h.nx o := by
  obtain ⟨nx, t⟩ := h
  simp only [H.new, fNat_eq] at e
  split at e
  · cases e
  · rename_i x y z hs
    exact ⟨_, e, by rw [← hs]; exact set_gset t nx o⟩
theorem setH_some {h : H} {B : Nat} {o : Ob} {k : H → Option β} {r : β} (e : setH h B o k = some r) : ∃ t, k ⟨h.nx, t⟩ = some r ∧ t.get = gset h.t.get B o := by
  obtain ⟨nx, t⟩ := h
  simp only [setH] at e
  split at e
  · cases e
  · rename_i x y z hs
    exact ⟨_, e, by rw [← hs]; exact set_gset t B o⟩
end Go.Proofs.YtlhkaoccnpgkeaaGreat.Ev

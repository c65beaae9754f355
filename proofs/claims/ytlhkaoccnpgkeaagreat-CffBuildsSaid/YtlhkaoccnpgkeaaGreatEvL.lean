/- eval: calls, rounds, operations in the text's order. -/
import Derived.Test.YtlhkaoccnpgkeaaGreatEvK
namespace Go.Proofs.YtlhkaoccnpgkeaaGreat.Ev
open Go
set_option linter.unusedVariables false
set_option linter.unusedSimpArgs false
variable {α : Type} {β : Type}
abbrev Wd (r : Option Nat) : Fence := { Fence.wide with round := r }
def RoundOk (P : Program) (l : Nat) (f : FuncId) (tmps : Array Value) (assign body : Code) (w : World) (K : Value → World → Prop) : Prop :=
  RoundIn Fence.wide 0 P l f tmps assign body w fun e w' => match e with
    | .returned v => K v w'
    | _ => False
/-- What an operation leads to. -/
def UpK (P : Program) (K : Value → World → Prop) : Result Next → Prop
  | .ok (.value v) w' => K v w'
  | .ok .skip w' => K undef w'
  | .ok (.enter f args) w' => CallOk P f args w' K
  | .ok (.round l f tmps assign body) w' => RoundOk P l f tmps assign body w' K
  | _ => False
theorem UpK.mono {P : Program} {K K' : Value → World → Prop} {res : Result Next} (h : UpK P K res) (hk : ∀ v w, K v w → K' v w) : UpK P K' res := by
  unfold UpK at h ⊢
  split at h
  · exact hk _ _ h
  · exact hk _ _ h
  · exact CallsIn.mono h fun e w' he => by
      cases e with
      | returned v => exact hk _ _ he
      | _ => exact he
  · exact RoundIn.mono h fun e w' he => by
      cases e with
      | returned v => exact hk _ _ he
      | _ => exact he
  · exact h.elim
theorem UpK.upon {P : Program} {K : Value → World → Prop} {res : Result Next} {o : Oper} {a : Act} {next : Act → World → Prop} {Q : Exit → Act → World → Prop} {r : Option Nat} (h : UpK P K res) (hk : ∀ v w, K v w → next (a.put o.dst v) w) : o.uponIn (Wd r) 0 P a next Q res := by
  unfold UpK at h
  split at h
  · exact hk _ _ h
  · exact hk _ _ h
  · rw [Oper.uponIn_enter]
    refine ⟨(fun e => by cases e), ?_⟩
    exact CallsIn.mono (F := Wd r) h fun e w' he => by
      cases e with
      | returned v => exact hk _ _ he
      | panicked c => exact he.elim
      | outgrown => exact he.elim
  · rw [Oper.uponIn_round]
    refine ⟨(fun e => by cases e), ?_⟩
    exact RoundIn.mono (F := Wd r) h fun e w' he => by
      cases e with
      | returned v => exact hk _ _ he
      | panicked c => exact he.elim
      | outgrown => exact he.elim
  · exact h.elim
def exC : Ex → Exit
  | .normal => .normal
  | .exit i => .exit i
  | .ret => .ret
inductive MkR (σ : Sg) : List Nat → List Deferred → Prop
  | nil : MkR σ [] []
  | cons {m b : Nat} {ms : List Nat} {ds : List Deferred} (h : σ.blk m = some b) (k : MkR σ ms ds) : MkR σ (m :: ms) ({ target := .collected b, args := #[] } :: ds)
theorem MkR.mono {σ σ' : Sg} (hs : σ.le σ') : ∀ {ms : List Nat} {ds : List Deferred}, MkR σ ms ds → MkR σ' ms ds
  | _, _, .nil => .nil
  | _, _, .cons h k => .cons (hs _ _ h).1 (MkR.mono hs k)
def LoopAt (σ : Sg) (ro r : Option Nat) : Prop := (ro = none ∧ r = none) ∨ ∃ l b, ro = some l ∧ r = some b ∧ σ.blk l = some b
theorem LoopAt.mono {σ σ' : Sg} (hs : σ.le σ') {ro r : Option Nat} (h : LoopAt σ ro r) : LoopAt σ' ro r := by
  rcases h with h | ⟨l, b, h1, h2, h3⟩
  · exact .inl h
  · exact .inr ⟨l, b, h1, h2, (hs _ _ h3).1⟩
/-- How code is left. -/
def Post (P : Program) (σ : Sg) (h : H) (w : World) (nt : Nat) (x : Ex) (s : St) : Exit → Act → World → Prop := fun e a' w' =>
  e = exC x ∧ ∃ σ', Out P σ h.t.get h.nx w σ' s.hp.t.get s.hp.nx w' ∧ TmR σ' nt s.tm a'.tmps ∧ MkR σ' s.ms a'.defers
def EvS (P : Program) (ev : Ev) : Prop := ∀ cx c tm mk h x s, ev cx c tm mk h = some (x, s) → Up h s.hp ∧ ∀ σ w a r, HR P σ h.t.get w → Bd h.t.get h.nx → Free σ h.nx s.hp.nx → TmR σ cx.nt tm a.tmps → MkR σ mk a.defers → LoopAt σ cx.ro r → c.wpIn (Wd r) 0 P (Post P σ h w cx.nt x s) a w
/-- What has come of a heap (without its numbers). -/
structure Out0 (P : Program) (σ : Sg) (g : G) (w : World) (σ' : Sg) (g' : G) (w' : World) : Prop where
  le : σ.le σ'
  hr : HR P σ' g' w'
  fr : Fr σ g w w'
  im : ∀ B b, live g' B → σ'.blk B = some b → (∃ B0, live g B0 ∧ σ.blk B0 = some b) ∨ w.heap.size ≤ b
section
variable {P : Program}
theorem Out.o0 {σ σ' : Sg} {g g' : G} {n n' : Nat} {w w' : World} (h : Out P σ g n w σ' g' n' w') : Out0 P σ g w σ' g' w' := ⟨h.le, h.hr, h.fr, h.im⟩
theorem Out0.refl {σ : Sg} {g : G} {w : World} (h : HR P σ g w) : Out0 P σ g w σ g w := (Out.refl 0 h).o0
theorem Out0.trans {σ0 σ1 σ2 : Sg} {g0 g1 g2 : G} {w0 w1 w2 : World} (h : Out0 P σ0 g0 w0 σ1 g1 w1) (k : Out0 P σ1 g1 w1 σ2 g2 w2) : Out0 P σ0 g0 w0 σ2 g2 w2 := by
  refine ⟨h.le.trans k.le, k.hr, ⟨k.fr.os.trans h.fr.os, k.fr.tape.trans h.fr.tape, k.fr.out.trans h.fr.out, Nat.le_trans h.fr.size k.fr.size, fun x hx hB => ?_⟩, fun B b h1 h2 => ?_⟩
  · have h1 := h.fr.size
    rw [k.fr.blk x (by omega) ?_, h.fr.blk x hx hB]
    intro B hl e
    rcases h.im B x hl e with ⟨B0, h2, h3⟩ | h2
    · exact hB B0 h2 h3
    · omega
  · rcases k.im B b h1 h2 with ⟨B1, h3, h4⟩ | h3
    · exact h.im B1 b h3 h4
    · have := h.fr.size
      exact .inr (by omega)
theorem Out0.same {σ : Sg} {g : G} {w w' : World} (h : HR P σ g w) (h1 : w'.heap = w.heap) (h2 : w'.os = w.os) (h3 : w'.tape = w.tape) (h4 : w'.output = w.output) : Out0 P σ g w σ g w' :=
  ⟨Sg.le_refl σ, h.same (fun k x hk => by rw [h1]; exact hk), ⟨h2, h3, h4, by rw [h1]; exact Nat.le_refl _, fun k _ _ => by rw [h1]⟩, fun B b h1 h2 => .inl ⟨B, h1, h2⟩⟩
theorem HR.sub {σ : Sg} {g g' : G} {w : World} (h : HR P σ g w) (hs : ∀ B o, g' B = some o → g B = some o) : HR P σ g' w :=
  ⟨fun B o h1 h2 => h.at_ B o (hs B o h1) h2, fun B B' b h1 h2 h3 h4 => by
    obtain ⟨o1, a1, a2⟩ := h1
    obtain ⟨o2, b1, b2⟩ := h2
    exact h.inj B B' b ⟨o1, hs _ _ a1, a2⟩ ⟨o2, hs _ _ b1, b2⟩ h3 h4⟩
/-- What has come of a part of the heap has come of the whole. -/
theorem Out0.lift {σ σ' : Sg} {t t' g g' : G} {w w' : World} (h : Out0 P σ t w σ' t' w') (hr : HR P σ g w) (hc : ∀ B, (g B = t B ∧ g' B = t' B) ∨ (∃ o, g B = some o ∧ g' B = some o ∧ t B = none ∧ t' B = none)) : Out0 P σ g w σ' g' w' := by
  have hlt : ∀ B, live t B → live g B := fun B hB => by
    obtain ⟨o, h1, h2⟩ := hB
    rcases hc B with ⟨e, _⟩ | ⟨_, _, _, e, _⟩
    · exact ⟨o, by rw [e]; exact h1, h2⟩
    · rw [e] at h1; cases h1
  -- a block that lies over: where it lies
  have hover : ∀ B o, g B = some o → t B = none → o ≠ .dead → ∃ b x, σ.blk B = some b ∧ σ'.blk B = some b ∧ w.heap[b]? = some x ∧ w'.heap[b]? = some x ∧ ObR P σ' B o x ∧ b < w.heap.size ∧ (∀ B1, live t B1 → σ.blk B1 ≠ some b) := by
    intro B o h1 h2 h3
    obtain ⟨b, x, h4, h5, h6⟩ := hr.at_ B o h1 h3
    have hne : ∀ B1, live t B1 → σ.blk B1 ≠ some b := fun B1 hl e => by
      have e2 := hr.inj B1 B b (hlt B1 hl) ⟨o, h1, h3⟩ e h4
      subst e2
      obtain ⟨o', k1, _⟩ := hl
      rw [h2] at k1; cases k1
    have hb : b < w.heap.size := (Array.getElem?_eq_some_iff.1 h5).1
    exact ⟨b, x, h4, (h.le _ _ h4).1, h5, by rw [h.fr.blk b hb hne]; exact h5, h6.mono h.le h4, hb, hne⟩
  refine ⟨h.le, ⟨fun B o h1 h2 => ?_, fun B B' b h1 h2 h3 h4 => ?_⟩, ⟨h.fr.os, h.fr.tape, h.fr.out, h.fr.size, fun k hk hB => h.fr.blk k hk (fun B hl => hB B (hlt B hl))⟩, fun B b h1 h2 => ?_⟩
  · rcases hc B with ⟨_, e⟩ | ⟨o', e1, e2, e3, e4⟩
    · exact h.hr.at_ B o (by rw [← e]; exact h1) h2
    · rw [e2] at h1; cases h1
      obtain ⟨b, x, k1, k2, k3, k4, k5, _⟩ := hover B o e1 e3 h2
      exact ⟨b, x, k2, k4, k5⟩
  · obtain ⟨o1, a1, a2⟩ := h1
    obtain ⟨o2, b1, b2⟩ := h2
    rcases hc B with ⟨_, e⟩ | ⟨o', e1, e2, e3, e4⟩ <;> rcases hc B' with ⟨_, f⟩ | ⟨o'', f1, f2, f3, f4⟩
    · exact h.hr.inj B B' b ⟨o1, by rw [← e]; exact a1, a2⟩ ⟨o2, by rw [← f]; exact b1, b2⟩ h3 h4
    · rw [f2] at b1; cases b1
      obtain ⟨b0, x, k1, k2, k3, k4, k5, k6, k7⟩ := hover B' _ f1 f3 b2
      rw [h4] at k2; cases k2
      rcases h.im B b ⟨o1, by rw [← e]; exact a1, a2⟩ h3 with ⟨B0, m1, m2⟩ | m
      · exact absurd m2 (k7 B0 m1)
      · omega
    · rw [e2] at a1; cases a1
      obtain ⟨b0, x, k1, k2, k3, k4, k5, k6, k7⟩ := hover B _ e1 e3 a2
      rw [h3] at k2; cases k2
      rcases h.im B' b ⟨o2, by rw [← f]; exact b1, b2⟩ h4 with ⟨B0, m1, m2⟩ | m
      · exact absurd m2 (k7 B0 m1)
      · omega
    · rw [e2] at a1; cases a1
      rw [f2] at b1; cases b1
      obtain ⟨b0, x, k1, k2, _⟩ := hover B _ e1 e3 a2
      obtain ⟨b0', x', k1', k2', _⟩ := hover B' _ f1 f3 b2
      rw [h3] at k2; cases k2
      rw [h4] at k2'; cases k2'
      exact hr.inj B B' b ⟨_, e1, a2⟩ ⟨_, f1, b2⟩ k1 k1'
  · obtain ⟨o1, a1, a2⟩ := h1
    rcases hc B with ⟨_, e⟩ | ⟨o', e1, e2, e3, e4⟩
    · rcases h.im B b ⟨o1, by rw [← e]; exact a1, a2⟩ h2 with ⟨B0, m1, m2⟩ | m
      · exact .inl ⟨B0, hlt B0 m1, m2⟩
      · exact .inr m
    · rw [e2] at a1; cases a1
      obtain ⟨b0, x, k1, k2, _⟩ := hover B _ e1 e3 a2
      rw [h2] at k2; cases k2
      exact .inl ⟨B, ⟨_, e1, a2⟩, k1⟩
end
section
variable {P : Program} {E : Env} {σ : Sg} {g : G} {w : World} {s : Sem Next}
theorem new_run {e : TypeId} {n : Nat} {cs : List Value} {sl : Option (Nat × Nat)} {nx : Nat} (hs : EffS P σ s (.new e n cs sl)) (hr : HR P σ g w) (hB : σ.blk nx = none) :
    ∃ v' w' σ', s.run P w = .ok (.value v') w' ∧ VR σ' (newVal nx sl) v' ∧ Out P σ g nx w σ' (gset g nx (.cells e false n (T.ofList cs))) (nx + 1) w' := by
  obtain ⟨cs', h1, h2⟩ := hs
  refine ⟨_, _, σ.add nx w.heap.size 0, h2 w, ?_, ?_⟩
  · have z1 : (σ.add nx w.heap.size 0).blk nx = some w.heap.size := by simp [Sg.add]
    have z2 : (σ.add nx w.heap.size 0).ext nx = 0 := by simp [Sg.add]
    cases sl with
    | none => exact .ptr 0 z1
    | some p =>
      obtain ⟨a, b⟩ := p
      have := VR.sl (σ := σ.add nx w.heap.size 0) 0 a b z1
      rw [z2] at this
      exact this
  · refine hr.new (w' := w.alloc (.cells ⟨cs'⟩ e)) (x := .cells ⟨cs'⟩ e (0, 0)) (ex := 0) hB rfl rfl rfl rfl ?_
    refine ⟨⟨cs'⟩, (0, 0), rfl, .inl rfl, (fun _ => by simp [Sg.add]), (fun h => by cases h), ?_⟩
    exact ofList_cells (h1.mono (Sg.le_add hB)) fun i v hv => by simpa using hv
theorem newS_run {e : TypeId} {n : Nat} {cs : List Value} {nx : Nat} (hs : EffS P σ s (.newS e n cs)) (hr : HR P σ g w) (hB : σ.blk nx = none) :
    ∃ v' w' σ', s.run P w = .ok (.value v') w' ∧ VR σ' (.slice (some ⟨nx, 0, none⟩) n n) v' ∧ Out P σ g nx w σ' (gset g nx (.cells e true n (T.ofList cs))) (nx + 1) w' := by
  obtain ⟨h0, h1, h2, h3⟩ := hs
  obtain ⟨x, w', e1, e2, e3, e4, e5⟩ := h3 w
  refine ⟨_, w', σ.add nx w.heap.size x, e5, ?_, ?_⟩
  · have z1 : (σ.add nx w.heap.size x).blk nx = some w.heap.size := by simp [Sg.add]
    have z2 : (σ.add nx w.heap.size x).ext nx = x := by simp [Sg.add]
    have := VR.sl (σ := σ.add nx w.heap.size x) 0 n n z1
    rw [z2] at this
    exact this
  · refine hr.new (w' := w') (ex := x) hB e1 e2 e3 e4 ?_
    refine ⟨_, _, rfl, .inr ?_, (fun h => by cases h), (fun _ => ?_), ?_⟩
    · simp [h0]
    · simp [h0, Sg.add, h2]
    · refine ofList_cells (h1.mono (Sg.le_add hB)) fun i v hv => ?_
      have hi : i < cs.length := (List.getElem?_eq_some_iff.1 hv).1
      rw [Array.getElem?_append_left (by simpa using hi)]
      simpa using hv
theorem newM_run {nx : Nat} (hs : EffS P σ s .newM) (hr : HR P σ g w) (hB : σ.blk nx = none) : ∃ v' w' σ', s.run P w = .ok (.value v') w' ∧ VR σ' (.map (some nx)) v' ∧ Out P σ g nx w σ' (gset g nx (.map [])) (nx + 1) w' := by
  refine ⟨_, _, σ.add nx w.heap.size 0, hs w, .map (by simp [Sg.add]), ?_⟩
  exact hr.new (w' := w.alloc (.map #[] 0)) (x := .map #[] 0) (ex := 0) hB rfl rfl rfl rfl ⟨#[], 0, rfl, .nil⟩
theorem newI_run {nx : Nat} {str : ByteArray} (hs : EffS P σ s (.newI str)) (hr : HR P σ g w) (hB : σ.blk nx = none) : ∃ v' w' σ', s.run P w = .ok (.value v') w' ∧ VR σ' (.pointer (some ⟨nx, 0, none⟩)) v' ∧ Out P σ g nx w σ' (gset g nx (.iter str 0)) (nx + 1) w' := by
  refine ⟨_, _, σ.add nx w.heap.size 0, hs w, .ptr 0 (by simp [Sg.add]), ?_⟩
  exact hr.new (w' := w.alloc (.stringIter str 0)) (x := .stringIter str 0) (ex := 0) hB rfl rfl rfl rfl rfl
theorem loadVar_run (hE : EnvOk P E) {t : TypeId} {i : TI} (hi : E.ty.get t = some i) (hr : HR P σ g w) {a : Addr} {b : Nat} (hb : σ.blk a.block = some b) {v : Value} (hl : loadOb (g a.block) (isAggD i.und) i.size a = some v) : ∃ v', VR σ v v' ∧ (loadVar t ⟨b, a.off, none⟩).run P w = .ok v' w := by
  have hu := (hE.ty t i hi).1
  unfold loadOb at hl
  split at hl
  · rename_i e o k c hg
    obtain ⟨cs, fr, hw, _, _, _, hc⟩ := hr.cells hg hb
    cases hag : isAggD i.und with
    | true =>
      rw [hag] at hl
      dsimp only at hl
      split at hl
      · rename_i l hll
        cases hl
        obtain ⟨l', k1, k2, k3, k4⟩ := loadL_spec hc _ _ _ hll
        have hL := run_loads (P := P) hw k3 k4
        refine ⟨.agg ⟨l'⟩, .agg k1, ?_⟩
        cases hd : i.und <;> rw [hd] at hu hag <;> simp [isAggD] at hag <;> simp [loadVar, isAgg, run_underlying hu, sizeOf_run hE hi, hL]
      · cases hl
    | false =>
      rw [hag] at hl
      dsimp only at hl
      obtain ⟨v', k1, k2⟩ := hc _ _ hl
      have hv' : (load ⟨b, a.off, none⟩).run P w = .ok v' w := by simp [cell_of hw k1]
      refine ⟨v', k2, ?_⟩
      cases hd : i.und <;> rw [hd] at hu hag <;> simp [isAggD] at hag <;> simp [loadVar, isAgg, run_underlying hu, hv', cell_of hw k1]
  · cases hl
theorem resultsOf_spec (hE : EnvOk P E) {h : H} {nt : Nat} {tm : T Value} {tmps : Array Value} (hr : HR P σ h.t.get w) (ht : TmR σ nt tm tmps) : ∀ (l : List ResultVar) (vs : List Value), resultsOf E tm h l = some vs → ∃ vs', VL σ vs vs' ∧ (l.mapM (fun
    | .tmp t => pure (tmps.getD t undef)
    | .cell a t => do loadVar t (← asAddr (tmps.getD a undef)) : ResultVar → Sem Value)).run P w = .ok vs' w
  | [], vs, e => by cases e; exact ⟨[], .nil, by simp⟩
  | .tmp t :: l, vs, e => by
    simp only [resultsOf] at e
    split at e
    · rename_i vs1 h1
      cases e
      obtain ⟨vs', k1, k2⟩ := resultsOf_spec hE hr ht l vs1 h1
      refine ⟨tmps.getD t undef :: vs', .cons (ht.2 t) k1, ?_⟩
      rw [List.mapM_cons]
      simp only [Sem.run_bind, Sem.run_pure, Result.andThen_ok]
      rw [k2]
      rfl
    · cases e
  | .cell a t :: l, vs, e => by
    simp only [resultsOf] at e
    split at e
    · rename_i pa hpa
      have h1 : VR σ (.pointer pa) (tmps.getD a undef) := by
        have := ht.2 a
        unfold evalO at hpa
        rw [← hpa]
        exact this
      split at e
      · rename_i b
        obtain ⟨b', hb, hs, e1⟩ := h1.iptr
        split at e
        · rename_i i hi
          split at e
          · rename_i v vs1 hv hvs
            cases e
            obtain ⟨vs', k1, k2⟩ := resultsOf_spec hE hr ht l vs1 hvs
            obtain ⟨v', j1, j2⟩ := loadVar_run hE hi hr hb hv
            refine ⟨v' :: vs', .cons j1 k1, ?_⟩
            rw [List.mapM_cons]
            dsimp only
            rw [e1]
            have e2 : (asAddr (.pointer (some ⟨b', b.off, none⟩))).run P w = .ok ⟨b', b.off, none⟩ w := rfl
            simp only [Sem.run_bind, Sem.run_pure, Result.andThen_ok, e2, j2]
            rw [k2]
            rfl
          · cases e
        · cases e
      · cases e
    · cases e
theorem results_run (hE : EnvOk P E) {h : H} {nt : Nat} {tm : T Value} {tmps : Array Value} (hr : HR P σ h.t.get w) (ht : TmR σ nt tm tmps) {fn : Func} {vs : List Value} (e : resultsOf E tm h fn.results.toList = some vs) : ∃ v', VR σ (one vs) v' ∧ (results fn tmps).run P w = .ok v' w := by
  obtain ⟨vs', k1, k2⟩ := resultsOf_spec hE hr ht _ _ e
  have k3 : (results fn tmps).run P w = .ok (if h : (⟨vs'⟩ : Array Value).size = 1 then (⟨vs'⟩ : Array Value)[0] else .tuple ⟨vs'⟩) w := by
    unfold results
    rw [Array.mapM_eq_mapM_toList]
    simp only [Sem.run_bind, map_eq_pure_bind, Sem.run_pure]
    erw [k2]
    rfl
  refine ⟨_, ?_, k3⟩
  cases k1 with
  | nil => exact .tuple .nil
  | cons h1 h2 =>
    cases h2 with
    | nil => exact h1
    | cons h3 h4 => exact .tuple (.cons h1 (.cons h3 h4))
theorem killM_some : ∀ (mk : List Nat) {h : H} {f : H → Option β} {r : β}, killM mk h f = some r → ∃ h1, f h1 = some r ∧ Up h h1 ∧ ∀ {σ : Sg} {w : World} {fn : Func} {tmps : Array Value} {R : Ending → World → Prop} {ds : List Deferred}, MkR σ mk ds → HR P σ h.t.get w → (∀ w', Out P σ h.t.get h.nx w σ h1.t.get h1.nx w' → LeavesInM Fence.wide 0 P fn tmps R [] .returning w') → LeavesInM Fence.wide 0 P fn tmps R ds .returning w
  | [], h, f, r, e => ⟨h, e, Up.refl h, fun {σ w fn tmps R ds} hm hr hk => by
      cases hm
      exact hk w (Out.refl _ hr)⟩
  | d :: mk, h, f, r, e => by
    simp only [killM] at e
    split at e
    · rename_i hd
      obtain ⟨t, q1, q2⟩ := setH_some e
      obtain ⟨h1, k1, k2, k3⟩ := killM_some mk q1
      refine ⟨h1, k1, (Up.set hd q2).trans k2, fun {σ w fn tmps R ds} hm hr hk => ?_⟩
      cases hm with
      | cons hb hm =>
        rename_i b ds
        obtain ⟨b', x, hb', hx, ho⟩ := hr.at_ d _ hd (by simp)
        rw [hb] at hb'; cases hb'
        have hx' : w.heap[b]? = some (.deferred (some [])) := by rw [hx, ho]
        have hlt : b < w.heap.size := (Array.getElem?_eq_some_iff.1 hx').1
        have hout : Out P σ h.t.get h.nx w σ t.get h.nx (w.putObj b (.deferred none)) := by
          rw [q2]
          exact hr.set h.nx hd (by simp) hb (fun k hk => World.putObj_heap_other hk) (World.putObj_heap_same hlt) rfl rfl rfl (by simp) trivial
        exact ⟨by simp, .inl ⟨b, _, rfl, run_takeDeferred hx', k3 hm hout.hr fun w' hw' => hk w' (hout.trans hw')⟩⟩
    · cases e
theorem run_callF {f : FuncId} {fn : Func} {c : Code} (hf : P.funcs[f]? = some fn) (hname : (fn.name == "runtime.NumGoroutine") = false) (hb : fn.body = some c) (args : Array Value) (w : World) : (callFunc f args).run P w = .ok (.enter f args) w := by
  have h1 : fn.name ≠ "runtime.NumGoroutine" := by simpa using hname
  simp [callFunc, hf, h1, hb]
theorem callG_some (hE : EnvOk P E) (hN : ∀ (k : Nat) (fn : Func), P.funcs[k]? = some fn → (fn.name == "runtime.NumGoroutine") = false) {ev : Ev} (hev : EvS P ev) {k : FuncId} {args : List Value} {h : H} {f : Value → H → Option β} {r : β} (e : callG E ev k args h f = some r) :
    ∃ v h1, f v h1 = some r ∧ Up h h1 ∧ ∀ σ w args', VL σ args args' → HR P σ h.t.get w → Bd h.t.get h.nx → Free σ h.nx h1.nx → (callFunc k ⟨args'⟩).run P w = .ok (.enter k ⟨args'⟩) w ∧ CallOk P k ⟨args'⟩ w (fun v' w' => ∃ σ', VR σ' v v' ∧ Out P σ h.t.get h.nx w σ' h1.t.get h1.nx w') := by
  unfold callG at e
  split at e
  · rename_i fn hfn
    have hf := hE.fn k fn hfn
    split at e
    · rename_i c hb
      split at e
      · rename_i hle
        rw [nble, decide_eq_true_eq] at hle
        split at e
        · rename_i x s hx
          have main : ∀ (e : killM s.ms s.hp (fun h => match resultsOf E s.tm h fn.results.toList with
              | some vs => f (one vs) h
              | none => none) = some r) (hxx : exC x = .normal ∨ exC x = .ret), ∃ v h1, f v h1 = some r ∧ Up h h1 ∧ ∀ σ w args', VL σ args args' → HR P σ h.t.get w → Bd h.t.get h.nx → Free σ h.nx h1.nx → (callFunc k ⟨args'⟩).run P w = .ok (.enter k ⟨args'⟩) w ∧ CallOk P k ⟨args'⟩ w (fun v' w' => ∃ σ', VR σ' v v' ∧ Out P σ h.t.get h.nx w σ' h1.t.get h1.nx w') := by
            intro e hxx
            obtain ⟨h1, k1, k2, k3⟩ := killM_some (P := P) s.ms e
            split at k1
            · rename_i vs hvs
              obtain ⟨u1, u2⟩ := hev _ _ _ _ _ _ _ hx
              refine ⟨one vs, h1, k1, u1.trans k2, fun σ w args' ha hr hB hF => ⟨run_callF hf (hN k fn hf) hb ⟨args'⟩ w, ?_⟩⟩
              refine callsIn_of_wp_marks hf hb trivial ?_
              have h0 := u2 σ w { tmps := (⟨args'⟩ : Array Value) ++ Array.replicate (fn.ntmps - (⟨args'⟩ : Array Value).size) undef, defers := [] } none hr hB (hF.le k2.nx) (ofList_TmR ha hle) .nil (.inl ⟨rfl, rfl⟩)
              refine wpIn_mono (F := Fence.wide) h0 ?_
              rintro ex a' w' ⟨rfl, σ', ho, ht, hm⟩
              have fin : LeavesInM Fence.wide 0 P fn a'.tmps (fun e w' => match e with
                  | .returned v' => ∃ σ', VR σ' (one vs) v' ∧ Out P σ h.t.get h.nx w σ' h1.t.get h1.nx w'
                  | _ => False) a'.defers .returning w' := by
                refine k3 hm ho.hr fun w2 ho2 => ?_
                obtain ⟨v', j1, j2⟩ := results_run hE ho2.hr ht hvs
                exact ⟨v', j2, σ', j1, ho.trans ho2⟩
              rcases hxx with hx1 | hx1 <;> rw [hx1] <;> exact fin
            · cases k1
          split at e
          · cases e
          · rename_i hne
            refine main e ?_
            cases x with
            | normal => exact .inl rfl
            | ret => exact .inr rfl
            | exit i => exact absurd rfl (hne i)
        · cases e
      · cases e
    · cases e
  · cases e
theorem sameV_eq {u v : Value} (h : sameV u v = true) : u = v := by
  unfold sameV at h
  split at h
  · simp only [Bool.and_eq_true, decide_eq_true_eq] at h
    rw [h.1, eqI_true h.2]
  · simp only [beq_iff_eq] at h
    rw [h]
  · rename_i a b
    simp only [beq_iff_eq] at h
    congr 1
    cases a; cases b
    congr 1
    exact Array.toList_inj.1 h
  · simp only [decide_eq_true_eq] at h
    rw [h]
  · simp only [Bool.and_eq_true, decide_eq_true_eq, Nat.beq_eq] at h
    rw [h.1.1, h.1.2, h.2]
  · rfl
  · rfl
  · simp only [decide_eq_true_eq] at h
    rw [h]
  · rw [Nat.beq_eq] at h
    rw [h]
  · rw [Nat.beq_eq] at h
    rw [h]
  · cases h
theorem sameL_eq : ∀ {l m : List Value}, sameL l m = true → l = m
  | [], [], _ => rfl
  | [], _ :: _, h => by cases h
  | _ :: _, [], h => by cases h
  | a :: l, b :: m, h => by
    simp only [sameL, Bool.and_eq_true] at h
    rw [sameV_eq h.1, sameL_eq h.2]
theorem sameA0_eq {u v : Value} (h : sameA0 u v = true) : u = v := by
  unfold sameA0 at h
  split at h
  · rw [sameL_eq h]
  · exact sameV_eq h
theorem sameAs0_eq : ∀ {l m : List Value}, sameAs0 l m = true → l = m
  | [], [], _ => rfl
  | [], _ :: _, h => by cases h
  | _ :: _, [], h => by cases h
  | a :: l, b :: m, h => by
    simp only [sameAs0, Bool.and_eq_true] at h
    rw [sameA0_eq h.1, sameAs0_eq h.2]
theorem sameA_eq {u v : Value} (h : sameA u v = true) : u = v := by
  unfold sameA at h
  split at h
  · rw [sameAs0_eq h]
  · exact sameA0_eq h
theorem sameAs_eq : ∀ {l m : List Value}, sameAs l m = true → l = m
  | [], [], _ => rfl
  | [], _ :: _, h => by cases h
  | _ :: _, [], h => by cases h
  | a :: l, b :: m, h => by
    simp only [sameAs, Bool.and_eq_true] at h
    rw [sameA_eq h.1, sameAs_eq h.2]
theorem subC_spec {c : T Value} : ∀ (l : List Value) (i : Nat), subC c i l = true → ∀ j v, l[j]? = some v → c.get (i + j) = some v
  | [], i, h, j, v, hj => by simp at hj
  | u :: l, i, h, j, v, hj => by
    simp only [subC] at h
    split at h
    · rename_i u' hu
      rw [Bool.and_eq_true] at h
      cases j with
      | zero =>
        simp at hj
        subst hj
        rw [Nat.add_zero, hu, sameV_eq h.1]
      | succ j =>
        have := subC_spec l (i + 1) h.2 j v (by simpa using hj)
        rw [show i + (j + 1) = i + 1 + j by omega]
        exact this
    · cases h
theorem mkG_get : ∀ (g : List (Nat × TypeId × Bool × List Value)) (t : T Ob) (B : Nat) (o : Ob), (mkG g t).get B = some o → (∃ e op l, (B, e, op, l) ∈ g ∧ o = .cells e op l.length (T.ofList l)) ∨ t.get B = some o
  | [], t, B, o, h => .inr h
  | (B', e, op, l) :: g, t, B, o, h => by
    have e1 : mkG ((B', e, op, l) :: g) t = mkG g (t.set B' (.cells e op l.length (T.ofList l))) := by
      simp only [mkG]
      split <;> rename_i h9 <;> rw [h9]
    rw [e1] at h
    rcases mkG_get g _ B o h with ⟨e2, op2, l2, h1, h2⟩ | h1
    · exact .inl ⟨e2, op2, l2, by simp [h1], h2⟩
    · rw [(T.set_get t B' _).2] at h1
      split at h1
      · rename_i hB
        subst hB
        cases h1
        exact .inl ⟨e, op, l, by simp, rfl⟩
      · exact .inr h1
theorem subG_mem {t : T Ob} : ∀ {g : List (Nat × TypeId × Bool × List Value)}, subG t g = true → ∀ B e op l, (B, e, op, l) ∈ g → ∃ n c, t.get B = some (.cells e op n c) ∧ n = l.length ∧ subC c 0 l = true
  | [], h, B, e, op, l, hm => by simp at hm
  | (B', e', op', l') :: g, h, B, e, op, l, hm => by
    simp only [subG] at h
    split at h
    · rename_i e2 o2 n c hg
      simp only [Bool.and_eq_true, Nat.beq_eq, beq_iff_eq] at h
      obtain ⟨⟨⟨⟨h1, h2⟩, h3⟩, h4⟩, h5⟩ := h
      rcases List.mem_cons.1 hm with hm | hm
      · cases hm
        have h1' : e' = e2 := Nat.eq_of_beq_eq_true (by first | exact h1 | (rw [Nat.beq_eq]; exact h1))
        subst h1' h2
        exact ⟨n, c, hg, h3, h4⟩
      · exact subG_mem h5 B e op l hm
    · cases h
theorem gE_sub {t : T Ob} {g : List (Nat × TypeId × Bool × List Value)} (h : subG t g = true) {B : Nat} {o : Ob} (hg : gE g B = some o) : ∃ e op n c l, o = .cells e op n (T.ofList l) ∧ t.get B = some (.cells e op n c) ∧ subC c 0 l = true := by
  rcases mkG_get g .leaf B o hg with ⟨e, op, l, h1, h2⟩ | h1
  · obtain ⟨n, c, h3, h4, h5⟩ := subG_mem h B e op l h1
    exact ⟨e, op, n, c, l, by rw [h2, h4], h3, h5⟩
  · rw [T.get_leaf] at h1; cases h1
theorem gE_live {t : T Ob} {g : List (Nat × TypeId × Bool × List Value)} (h : subG t g = true) {B : Nat} (hl : live (gE g) B) : live t.get B := by
  obtain ⟨o, h1, h2⟩ := hl
  obtain ⟨e, op, n, c, l, h3, h4, h5⟩ := gE_sub h h1
  exact ⟨_, h4, by simp⟩
theorem HR.subG {t : T Ob} {g : List (Nat × TypeId × Bool × List Value)} (hr : HR P σ t.get w) (h : subG t g = true) : HR P σ (gE g) w := by
  refine ⟨fun B o h1 h2 => ?_, fun B B' b h1 h2 h3 h4 => hr.inj B B' b (gE_live h h1) (gE_live h h2) h3 h4⟩
  obtain ⟨e, op, n, c, l, rfl, h4, h5⟩ := gE_sub h h1
  obtain ⟨b, x, k1, k2, cs, fr, rfl, k4, k5, k6, k7⟩ := hr.at_ B _ h4 (by simp)
  refine ⟨b, _, k1, k2, cs, fr, rfl, k4, k5, k6, fun i v hv => ?_⟩
  rw [T.ofList_eq] at hv
  have := subC_spec l 0 h5 i v hv
  rw [Nat.zero_add] at this
  exact k7 i v this
theorem Bd.subG {t : T Ob} {g : List (Nat × TypeId × Bool × List Value)} {n : Nat} (hb : Bd t.get n) (h : subG t g = true) : Bd (gE g) n := by
  intro B hB
  cases hg : gE g B with
  | none => exact absurd hg hB
  | some o =>
    obtain ⟨e, op, n, c, l, _, h4, _⟩ := gE_sub h hg
    exact hb B (by rw [h4]; simp)
theorem findE_some {k nx : Nat} : ∀ {l : List Ent} {e : Ent}, findE k nx l = some e → e ∈ l ∧ e.k = k ∧ e.nx = nx
  | [], e, h => by cases h
  | x :: l, e, h => by
    simp only [findE] at h
    split at h
    · rename_i hb
      cases h
      rw [Bool.and_eq_true, Nat.beq_eq, Nat.beq_eq] at hb
      exact ⟨by simp, hb⟩
    · obtain ⟨h1, h2⟩ := findE_some h
      exact ⟨by simp [h1], h2⟩
noncomputable def lastG (B : Nat) : List (Nat × TypeId × Bool × List Value) → Option Ob
  | [] => none
  | (B', e, op, l) :: g => match lastG B g with
    | some o => some o
    | none => if B = B' then some (.cells e op l.length (T.ofList l)) else none
theorem mkG_last (B : Nat) : ∀ (g : List (Nat × TypeId × Bool × List Value)) (t : T Ob), (mkG g t).get B = match lastG B g with
    | some o => some o
    | none => t.get B
  | [], t => rfl
  | (B', e, op, l) :: g, t => by
    have e1 : mkG ((B', e, op, l) :: g) t = mkG g (t.set B' (.cells e op l.length (T.ofList l))) := by
      simp only [mkG]
      split <;> rename_i h9 <;> rw [h9]
    rw [e1, mkG_last B g, lastG]
    cases lastG B g with
    | some o => rfl
    | none =>
      dsimp only
      rw [(T.set_get t B' _).2]
      split <;> rfl
theorem gE_last (B : Nat) (g : List (Nat × TypeId × Bool × List Value)) : gE g B = lastG B g := by
  unfold gE
  rw [mkG_last]
  cases lastG B g with
  | some o => rfl
  | none => exact T.get_leaf B
theorem mkG_over (B : Nat) (g : List (Nat × TypeId × Bool × List Value)) (t : T Ob) : (mkG g t).get B = match gE g B with
    | some o => some o
    | none => t.get B := by
  rw [mkG_last, gE_last]
theorem lastG_some {B : Nat} : ∀ {g : List (Nat × TypeId × Bool × List Value)}, (∃ p ∈ g, p.1 = B) → lastG B g ≠ none
  | [], h => by simp at h
  | (B', e, op, l) :: g, h => by
    obtain ⟨p, h1, h2⟩ := h
    simp only [lastG]
    cases hl : lastG B g with
    | some o => simp
    | none =>
      rcases List.mem_cons.1 h1 with rfl | h3
      · dsimp only at h2
        subst h2
        simp
      · exact absurd hl (lastG_some ⟨p, h3, h2⟩)
theorem lastG_mem {B : Nat} : ∀ {g : List (Nat × TypeId × Bool × List Value)}, lastG B g ≠ none → ∃ p ∈ g, p.1 = B
  | [], h => absurd rfl h
  | (B', e, op, l) :: g, h => by
    simp only [lastG] at h
    cases hl : lastG B g with
    | some o =>
      obtain ⟨p, h1, h2⟩ := lastG_mem (g := g) (B := B) (by rw [hl]; simp)
      exact ⟨p, by simp [h1], h2⟩
    | none =>
      rw [hl] at h
      dsimp only at h
      split at h
      · rename_i e2
        exact ⟨(B', e, op, l), by simp, e2.symm⟩
      · exact absurd rfl h
theorem domOk_spec {nx : Nat} {g g' : List (Nat × TypeId × Bool × List Value)} (h : domOk nx g g' = true) : (∀ B, gE g B ≠ none → gE g' B ≠ none) ∧ (∀ B, gE g' B ≠ none → gE g B ≠ none ∨ nx ≤ B) := by
  unfold domOk at h
  rw [Bool.and_eq_true] at h
  refine ⟨fun B hB => ?_, fun B hB => ?_⟩
  · rw [gE_last] at hB ⊢
    obtain ⟨p, h1, h2⟩ := lastG_mem hB
    obtain ⟨q, h3, h4⟩ := List.any_eq_true.1 (List.all_eq_true.1 h.1 p h1)
    rw [Nat.beq_eq] at h4
    exact lastG_some ⟨q, h3, by rw [← h4, h2]⟩
  · rw [gE_last] at hB ⊢
    obtain ⟨q, h1, h2⟩ := lastG_mem hB
    have h3 := List.all_eq_true.1 h.2 q h1
    rw [Bool.or_eq_true] at h3
    rcases h3 with h3 | h3
    · exact .inr (by rw [← h2]; exact Nat.le_of_ble_eq_true h3)
    · obtain ⟨p, h4, h5⟩ := List.any_eq_true.1 h3
      rw [Nat.beq_eq] at h5
      exact .inl (lastG_some ⟨p, h4, by rw [h5, h2]⟩)
theorem callF_some (hE : EnvOk P E) (hN : ∀ (k : Nat) (fn : Func), P.funcs[k]? = some fn → (fn.name == "runtime.NumGoroutine") = false) {ev : Ev} (hev : EvS P ev) {k : FuncId} {args : List Value} {h : H} {f : Value → H → Option β} {r : β} (e : callF E ev k args h f = some r) :
    ∃ v h1, f v h1 = some r ∧ Up h h1 ∧ ∀ σ w args', VL σ args args' → HR P σ h.t.get w → Bd h.t.get h.nx → Free σ h.nx h1.nx → (callFunc k ⟨args'⟩).run P w = .ok (.enter k ⟨args'⟩) w ∧ CallOk P k ⟨args'⟩ w (fun v' w' => ∃ σ', VR σ' v v' ∧ Out P σ h.t.get h.nx w σ' h1.t.get h1.nx w') := by
  unfold callF at e
  split at e
  · exact callG_some hE hN hev e
  · rename_i en hen
    obtain ⟨hmem, hk, hnx⟩ := findE_some hen
    have hok := hE.orc en hmem
    split at e
    · rename_i hsame
      rw [Bool.and_eq_true] at hsame
      have hargs := sameAs_eq hsame.1
      have hsub := hsame.2
      subst hk
      have hov := fun B => mkG_over B en.g' h.t
      refine ⟨_, _, e, ⟨by rw [← hnx]; exact hok.nx, fun hb B hB => ?_⟩, fun σ w args' ha hr hBd hF => ⟨hok.en args' w, ?_⟩⟩
      · have h1 : (mkG en.g' h.t).get B ≠ none := hB
        rw [hov] at h1
        cases hg : gE en.g' B with
        | some o => exact hok.bd (by rw [hnx]; exact hb.subG hsub) B (by rw [hg]; simp)
        | none =>
          rw [hg] at h1
          have h2 := hb B h1
          have h3 := hok.nx
          show B < en.nx'
          omega
      · have hq := hok.ok σ w args' (by rw [← hargs]; exact ha) (hr.subG hsub) (by rw [hnx]; exact hBd.subG hsub) (by rw [hnx]; exact hF)
        refine CallsIn.mono hq fun ex w' hex => ?_
        cases ex with
        | panicked c => exact hex.elim
        | outgrown => exact hex.elim
        | returned v' =>
          obtain ⟨σ', hv, ho⟩ := hex
          rw [hnx] at ho
          -- the whole heap, as it was told
          let g0 : G := fun B => match gE en.g B with
            | some o => some o
            | none => h.t.get B
          have hg0 : ∀ B, live g0 B → live h.t.get B := fun B hl => by
            obtain ⟨o, h1, h2⟩ := hl
            have h1' : (match gE en.g B with
              | some o => some o
              | none => h.t.get B) = some o := h1
            cases hg : gE en.g B with
            | some o' => exact gE_live hsub ⟨o', hg, by
                obtain ⟨e1, op, n, c, l, h5, _⟩ := gE_sub hsub hg
                rw [h5]; simp⟩
            | none =>
              rw [hg] at h1'
              exact ⟨o, h1', h2⟩
          have hr0 : HR P σ g0 w := by
            refine ⟨fun B o h1 h2 => ?_, fun B B' b h1 h2 h3 h4 => hr.inj B B' b (hg0 B h1) (hg0 B' h2) h3 h4⟩
            have h1' : (match gE en.g B with
              | some o => some o
              | none => h.t.get B) = some o := h1
            cases hg : gE en.g B with
            | some o' =>
              rw [hg] at h1'
              have h1'' : o' = o := Option.some.inj h1'
              subst h1''
              exact (hr.subG hsub).at_ B o' hg h2
            | none =>
              rw [hg] at h1'
              exact hr.at_ B o h1' h2
          have hlift : Out0 P σ g0 w σ' (mkG en.g' h.t).get w' := by
            refine (show Out0 P σ (gE en.g) w σ' (gE en.g') w' from ⟨ho.le, ho.hr, ho.fr, ho.im⟩).lift hr0 fun B => ?_
            rw [hov]
            cases hg : gE en.g B with
            | some o =>
              left
              refine ⟨by show (match gE en.g B with | some o => some o | none => h.t.get B) = _; rw [hg], ?_⟩
              have := hok.dom B (by rw [hg]; simp)
              cases hg' : gE en.g' B with
              | some o' => rfl
              | none => exact absurd hg' this
            | none =>
              have e0 : g0 B = h.t.get B := by
                show (match gE en.g B with | some o => some o | none => h.t.get B) = _
                rw [hg]
              rw [e0]
              cases hg' : gE en.g' B with
              | some o' =>
                left
                rcases hok.new B (by rw [hg']; simp) with h3 | h3
                · exact absurd hg h3
                · have : h.t.get B = none := by
                    cases ht : h.t.get B with
                    | none => rfl
                    | some o2 =>
                      have := hBd B (by rw [ht]; simp)
                      omega
                  exact ⟨this, rfl⟩
              | none =>
                cases ht : h.t.get B with
                | none => exact .inl ⟨rfl, rfl⟩
                | some o2 => exact .inr ⟨o2, rfl, rfl, rfl, rfl⟩
          refine ⟨σ', hv, hlift.le, ho.new, hlift.hr, ⟨hlift.fr.os, hlift.fr.tape, hlift.fr.out, hlift.fr.size, fun j hj hB => hlift.fr.blk j hj (fun B hl => hB B (hg0 B hl))⟩, fun B b h1 h2 => ?_, ho.nx⟩
          rcases hlift.im B b h1 h2 with ⟨B0, h3, h4⟩ | h3
          · exact .inl ⟨B0, hg0 B0 h3, h4⟩
          · exact .inr h3
    · cases e
end
end Go.Proofs.YtlhkaoccnpgkeaaGreat.Ev

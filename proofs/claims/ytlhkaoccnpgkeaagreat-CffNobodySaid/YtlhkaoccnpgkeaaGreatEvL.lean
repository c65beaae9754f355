/- eval: calls, rounds, operations in the text's order. -/
import Derived.Test.YtlhkaoccnpgkeaaGreatEvK
namespace Go.Proofs.YtlhkaoccnpgkeaaGreat.Ev
open Go
set_option linter.unusedVariables false
set_option linter.unusedSimpArgs false
variable {α : Type} {β : Type}
abbrev Wd (r : Option Nat) : Fence := { Fence.wide with round := r }
def CallOk (P : Program) (k : FuncId) (args : Array Value) (w : World) (K : Value → World → Prop) : Prop :=
  CallsIn Fence.wide 0 P k args w fun e w' => match e with
    | .returned v => K v w'
    | _ => False
def RoundOk (P : Program) (l : Nat) (f : FuncId) (tmps : Array Value) (assign body : Code) (w : World) (K : Value → World → Prop) : Prop :=
  RoundIn Fence.wide 0 P l f tmps assign body w fun e w' => match e with
    | .returned v => K v w'
    | _ => False
/-- What an operation leads to. -/
def UpK (P : Program) (K : Value → World → Prop) : Result Next → Prop
  | .ok (.value v) w' => K v w'
  | .ok .skip w' => K undef w'
  | .ok (.enter f args) w' => CallOk P f args w' K
  | .ok (.round l f tmps assign body) w' => RoundOk P l f tmps assign body w' K
  | _ => False
theorem UpK.mono {P : Program} {K K' : Value → World → Prop} {res : Result Next} (h : UpK P K res) (hk : ∀ v w, K v w → K' v w) : UpK P K' res := by
  unfold UpK at h ⊢
  split at h
  · exact hk _ _ h
  · exact hk _ _ h
  · exact CallsIn.mono h fun e w' he => by
      cases e with
      | returned v => exact hk _ _ he
      | _ => exact he
  · exact RoundIn.mono h fun e w' he => by
      cases e with
      | returned v => exact hk _ _ he
      | _ => exact he
  · exact h.elim
theorem UpK.upon {P : Program} {K : Value → World → Prop} {res : Result Next} {o : Oper} {a : Act} {next : Act → World → Prop} {Q : Exit → Act → World → Prop} {r : Option Nat} (h : UpK P K res) (hk : ∀ v w, K v w → next (a.put o.dst v) w) : o.uponIn (Wd r) 0 P a next Q res := by
  unfold UpK at h
  split at h
  · exact hk _ _ h
  · exact hk _ _ h
  · rw [Oper.uponIn_enter]
    refine ⟨(fun e => by cases e), ?_⟩
    exact CallsIn.mono (F := Wd r) h fun e w' he => by
      cases e with
      | returned v => exact hk _ _ he
      | panicked c => exact he.elim
      | outgrown => exact he.elim
  · rw [Oper.uponIn_round]
    refine ⟨(fun e => by cases e), ?_⟩
    exact RoundIn.mono (F := Wd r) h fun e w' he => by
      cases e with
      | returned v => exact hk _ _ he
      | panicked c => exact he.elim
      | outgrown => exact he.elim
  · exact h.elim
def exC : Ex → Exit
  | .normal => .normal
  | .exit i => .exit i
  | .ret => .ret
inductive MkR (σ : Sg) : List Nat → List Deferred → Prop
  | nil : MkR σ [] []
  | cons {m b : Nat} {ms : List Nat} {ds : List Deferred} (h : σ.blk m = some b) (k : MkR σ ms ds) : MkR σ (m :: ms) ({ target := .collected b, args := #[] } :: ds)
theorem MkR.mono {σ σ' : Sg} (hs : σ.le σ') : ∀ {ms : List Nat} {ds : List Deferred}, MkR σ ms ds → MkR σ' ms ds
  | _, _, .nil => .nil
  | _, _, .cons h k => .cons (hs _ _ h).1 (MkR.mono hs k)
def LoopAt (σ : Sg) (ro r : Option Nat) : Prop := (ro = none ∧ r = none) ∨ ∃ l b, ro = some l ∧ r = some b ∧ σ.blk l = some b
theorem LoopAt.mono {σ σ' : Sg} (hs : σ.le σ') {ro r : Option Nat} (h : LoopAt σ ro r) : LoopAt σ' ro r := by
  rcases h with h | ⟨l, b, h1, h2, h3⟩
  · exact .inl h
  · exact .inr ⟨l, b, h1, h2, (hs _ _ h3).1⟩
/-- How code is left. -/
def Post (P : Program) (σ : Sg) (h : H) (w : World) (nt : Nat) (x : Ex) (s : St) : Exit → Act → World → Prop := fun e a' w' =>
  e = exC x ∧ ∃ σ', Out P σ h.t.get h.nx w σ' s.hp.t.get s.hp.nx w' ∧ TmR σ' nt s.tm a'.tmps ∧ MkR σ' s.ms a'.defers
def EvS (P : Program) (ev : Ev) : Prop := ∀ cx c tm mk h x s, ev cx c tm mk h = some (x, s) → Up h s.hp ∧ ∀ σ w a r, HR P σ h.t.get w → Bd h.t.get h.nx → Free σ h.nx s.hp.nx → TmR σ cx.nt tm a.tmps → MkR σ mk a.defers → LoopAt σ cx.ro r → c.wpIn (Wd r) 0 P (Post P σ h w cx.nt x s) a w
section
variable {P : Program} {E : Env} {σ : Sg} {g : G} {w : World} {s : Sem Next}
theorem new_run {e : TypeId} {n : Nat} {cs : List Value} {sl : Option (Nat × Nat)} {nx : Nat} (hs : EffS P σ s (.new e n cs sl)) (hr : HR P σ g w) (hB : σ.blk nx = none) :
    ∃ v' w' σ', s.run P w = .ok (.value v') w' ∧ VR σ' (newVal nx sl) v' ∧ Out P σ g nx w σ' (gset g nx (.cells e false n (T.ofList cs))) (nx + 1) w' := by
  obtain ⟨cs', h1, h2⟩ := hs
  refine ⟨_, _, σ.add nx w.heap.size 0, h2 w, ?_, ?_⟩
  · have z1 : (σ.add nx w.heap.size 0).blk nx = some w.heap.size := by simp [Sg.add]
    have z2 : (σ.add nx w.heap.size 0).ext nx = 0 := by simp [Sg.add]
    cases sl with
    | none => exact .ptr 0 z1
    | some p =>
      obtain ⟨a, b⟩ := p
      have := VR.sl (σ := σ.add nx w.heap.size 0) 0 a b z1
      rw [z2] at this
      exact this
  · refine hr.new (w' := w.alloc (.cells ⟨cs'⟩ e)) (x := .cells ⟨cs'⟩ e (0, 0)) (ex := 0) hB rfl rfl rfl rfl ?_
    refine ⟨⟨cs'⟩, (0, 0), rfl, .inl rfl, (fun _ => by simp [Sg.add]), (fun h => by cases h), ?_⟩
    exact ofList_cells (h1.mono (Sg.le_add hB)) fun i v hv => by simpa using hv
theorem newS_run {e : TypeId} {n : Nat} {cs : List Value} {nx : Nat} (hs : EffS P σ s (.newS e n cs)) (hr : HR P σ g w) (hB : σ.blk nx = none) :
    ∃ v' w' σ', s.run P w = .ok (.value v') w' ∧ VR σ' (.slice (some ⟨nx, 0, none⟩) n n) v' ∧ Out P σ g nx w σ' (gset g nx (.cells e true n (T.ofList cs))) (nx + 1) w' := by
  obtain ⟨h0, h1, h2, h3⟩ := hs
  obtain ⟨x, w', e1, e2, e3, e4, e5⟩ := h3 w
  refine ⟨_, w', σ.add nx w.heap.size x, e5, ?_, ?_⟩
  · have z1 : (σ.add nx w.heap.size x).blk nx = some w.heap.size := by simp [Sg.add]
    have z2 : (σ.add nx w.heap.size x).ext nx = x := by simp [Sg.add]
    have := VR.sl (σ := σ.add nx w.heap.size x) 0 n n z1
    rw [z2] at this
    exact this
  · refine hr.new (w' := w') (ex := x) hB e1 e2 e3 e4 ?_
    refine ⟨_, _, rfl, .inr ?_, (fun h => by cases h), (fun _ => ?_), ?_⟩
    · simp [h0]
    · simp [h0, Sg.add, h2]
    · refine ofList_cells (h1.mono (Sg.le_add hB)) fun i v hv => ?_
      have hi : i < cs.length := (List.getElem?_eq_some_iff.1 hv).1
      rw [Array.getElem?_append_left (by simpa using hi)]
      simpa using hv
theorem loadVar_run (hE : EnvOk P E) {t : TypeId} {i : TI} (hi : E.ty.get t = some i) (hr : HR P σ g w) {a : Addr} {b : Nat} (hb : σ.blk a.block = some b) {v : Value} (hl : loadOb (g a.block) (isAggD i.und) i.size a = some v) : ∃ v', VR σ v v' ∧ (loadVar t ⟨b, a.off, none⟩).run P w = .ok v' w := by
  have hu := (hE.ty t i hi).1
  unfold loadOb at hl
  split at hl
  · rename_i e o k c hg
    obtain ⟨cs, fr, hw, _, _, _, hc⟩ := hr.cells hg hb
    cases hag : isAggD i.und with
    | true =>
      rw [hag] at hl
      dsimp only at hl
      split at hl
      · rename_i l hll
        cases hl
        obtain ⟨l', k1, k2, k3, k4⟩ := loadL_spec hc _ _ _ hll
        have hL := run_loads (P := P) hw k3 k4
        refine ⟨.agg ⟨l'⟩, .agg k1, ?_⟩
        cases hd : i.und <;> rw [hd] at hu hag <;> simp [isAggD] at hag <;> simp [loadVar, isAgg, run_underlying hu, sizeOf_run hE hi, hL]
      · cases hl
    | false =>
      rw [hag] at hl
      dsimp only at hl
      obtain ⟨v', k1, k2⟩ := hc _ _ hl
      have hv' : (load ⟨b, a.off, none⟩).run P w = .ok v' w := by simp [cell_of hw k1]
      refine ⟨v', k2, ?_⟩
      cases hd : i.und <;> rw [hd] at hu hag <;> simp [isAggD] at hag <;> simp [loadVar, isAgg, run_underlying hu, hv', cell_of hw k1]
  · cases hl
theorem resultsOf_spec (hE : EnvOk P E) {h : H} {nt : Nat} {tm : T Value} {tmps : Array Value} (hr : HR P σ h.t.get w) (ht : TmR σ nt tm tmps) : ∀ (l : List ResultVar) (vs : List Value), resultsOf E tm h l = some vs → ∃ vs', VL σ vs vs' ∧ (l.mapM (fun
    | .tmp t => pure (tmps.getD t undef)
    | .cell a t => do loadVar t (← asAddr (tmps.getD a undef)) : ResultVar → Sem Value)).run P w = .ok vs' w
  | [], vs, e => by cases e; exact ⟨[], .nil, by simp⟩
  | .tmp t :: l, vs, e => by
    simp only [resultsOf] at e
    split at e
    · rename_i vs1 h1
      cases e
      obtain ⟨vs', k1, k2⟩ := resultsOf_spec hE hr ht l vs1 h1
      refine ⟨tmps.getD t undef :: vs', .cons (ht.2 t) k1, ?_⟩
      rw [List.mapM_cons]
      simp only [Sem.run_bind, Sem.run_pure, Result.andThen_ok]
      rw [k2]
      rfl
    · cases e
  | .cell a t :: l, vs, e => by
    simp only [resultsOf] at e
    split at e
    · rename_i pa hpa
      have h1 : VR σ (.pointer pa) (tmps.getD a undef) := by
        have := ht.2 a
        unfold evalO at hpa
        rw [← hpa]
        exact this
      split at e
      · rename_i b
        obtain ⟨b', hb, hs, e1⟩ := h1.iptr
        split at e
        · rename_i i hi
          split at e
          · rename_i v vs1 hv hvs
            cases e
            obtain ⟨vs', k1, k2⟩ := resultsOf_spec hE hr ht l vs1 hvs
            obtain ⟨v', j1, j2⟩ := loadVar_run hE hi hr hb hv
            refine ⟨v' :: vs', .cons j1 k1, ?_⟩
            rw [List.mapM_cons]
            dsimp only
            rw [e1]
            have e2 : (asAddr (.pointer (some ⟨b', b.off, none⟩))).run P w = .ok ⟨b', b.off, none⟩ w := rfl
            simp only [Sem.run_bind, Sem.run_pure, Result.andThen_ok, e2, j2]
            rw [k2]
            rfl
          · cases e
        · cases e
      · cases e
    · cases e
theorem results_run (hE : EnvOk P E) {h : H} {nt : Nat} {tm : T Value} {tmps : Array Value} (hr : HR P σ h.t.get w) (ht : TmR σ nt tm tmps) {fn : Func} {vs : List Value} (e : resultsOf E tm h fn.results.toList = some vs) : ∃ v', VR σ (one vs) v' ∧ (results fn tmps).run P w = .ok v' w := by
  obtain ⟨vs', k1, k2⟩ := resultsOf_spec hE hr ht _ _ e
  have k3 : (results fn tmps).run P w = .ok (if h : (⟨vs'⟩ : Array Value).size = 1 then (⟨vs'⟩ : Array Value)[0] else .tuple ⟨vs'⟩) w := by
    unfold results
    rw [Array.mapM_eq_mapM_toList]
    simp only [Sem.run_bind, map_eq_pure_bind, Sem.run_pure]
    erw [k2]
    rfl
  refine ⟨_, ?_, k3⟩
  cases k1 with
  | nil => exact .tuple .nil
  | cons h1 h2 =>
    cases h2 with
    | nil => exact h1
    | cons h3 h4 => exact .tuple (.cons h1 (.cons h3 h4))
theorem killM_some : ∀ (mk : List Nat) {h : H} {f : H → Option β} {r : β}, killM mk h f = some r → ∃ h1, f h1 = some r ∧ Up h h1 ∧ ∀ {σ : Sg} {w : World} {fn : Func} {tmps : Array Value} {R : Ending → World → Prop} {ds : List Deferred}, MkR σ mk ds → HR P σ h.t.get w → (∀ w', Out P σ h.t.get h.nx w σ h1.t.get h1.nx w' → LeavesInM Fence.wide 0 P fn tmps R [] .returning w') → LeavesInM Fence.wide 0 P fn tmps R ds .returning w
  | [], h, f, r, e => ⟨h, e, Up.refl h, fun {σ w fn tmps R ds} hm hr hk => by
      cases hm
      exact hk w (Out.refl _ hr)⟩
  | d :: mk, h, f, r, e => by
    simp only [killM] at e
    split at e
    · rename_i hd
      obtain ⟨t, q1, q2⟩ := setH_some e
      obtain ⟨h1, k1, k2, k3⟩ := killM_some mk q1
      refine ⟨h1, k1, (Up.set hd q2).trans k2, fun {σ w fn tmps R ds} hm hr hk => ?_⟩
      cases hm with
      | cons hb hm =>
        rename_i b ds
        obtain ⟨b', x, hb', hx, ho⟩ := hr.at_ d _ hd (by simp)
        rw [hb] at hb'; cases hb'
        have hx' : w.heap[b]? = some (.deferred (some [])) := by rw [hx, ho]
        have hlt : b < w.heap.size := (Array.getElem?_eq_some_iff.1 hx').1
        have hout : Out P σ h.t.get h.nx w σ t.get h.nx (w.putObj b (.deferred none)) := by
          rw [q2]
          exact hr.set h.nx hd (by simp) hb (fun k hk => World.putObj_heap_other hk) (World.putObj_heap_same hlt) rfl rfl rfl (by simp) trivial
        exact ⟨by simp, .inl ⟨b, _, rfl, run_takeDeferred hx', k3 hm hout.hr fun w' hw' => hk w' (hout.trans hw')⟩⟩
    · cases e
theorem run_callF {f : FuncId} {fn : Func} {c : Code} (hf : P.funcs[f]? = some fn) (hname : (fn.name == "runtime.NumGoroutine") = false) (hb : fn.body = some c) (args : Array Value) (w : World) : (callFunc f args).run P w = .ok (.enter f args) w := by
  have h1 : fn.name ≠ "runtime.NumGoroutine" := by simpa using hname
  simp [callFunc, hf, h1, hb]
theorem callF_some (hE : EnvOk P E) (hN : ∀ (k : Nat) (fn : Func), P.funcs[k]? = some fn → (fn.name == "runtime.NumGoroutine") = false) {ev : Ev} (hev : EvS P ev) {k : FuncId} {args : List Value} {h : H} {f : Value → H → Option β} {r : β} (e : callF E ev k args h f = some r) :
    ∃ v h1, f v h1 = some r ∧ Up h h1 ∧ ∀ σ w args', VL σ args args' → HR P σ h.t.get w → Bd h.t.get h.nx → Free σ h.nx h1.nx → (callFunc k ⟨args'⟩).run P w = .ok (.enter k ⟨args'⟩) w ∧ CallOk P k ⟨args'⟩ w (fun v' w' => ∃ σ', VR σ' v v' ∧ Out P σ h.t.get h.nx w σ' h1.t.get h1.nx w') := by
  unfold callF at e
  split at e
  · rename_i fn hfn
    have hf := hE.fn k fn hfn
    split at e
    · rename_i c hb
      split at e
      · rename_i hle
        rw [nble, decide_eq_true_eq] at hle
        split at e
        · rename_i x s hx
          have main : ∀ (e : killM s.ms s.hp (fun h => match resultsOf E s.tm h fn.results.toList with
              | some vs => f (one vs) h
              | none => none) = some r) (hxx : exC x = .normal ∨ exC x = .ret), ∃ v h1, f v h1 = some r ∧ Up h h1 ∧ ∀ σ w args', VL σ args args' → HR P σ h.t.get w → Bd h.t.get h.nx → Free σ h.nx h1.nx → (callFunc k ⟨args'⟩).run P w = .ok (.enter k ⟨args'⟩) w ∧ CallOk P k ⟨args'⟩ w (fun v' w' => ∃ σ', VR σ' v v' ∧ Out P σ h.t.get h.nx w σ' h1.t.get h1.nx w') := by
            intro e hxx
            obtain ⟨h1, k1, k2, k3⟩ := killM_some (P := P) s.ms e
            split at k1
            · rename_i vs hvs
              obtain ⟨u1, u2⟩ := hev _ _ _ _ _ _ _ hx
              refine ⟨one vs, h1, k1, u1.trans k2, fun σ w args' ha hr hB hF => ⟨run_callF hf (hN k fn hf) hb ⟨args'⟩ w, ?_⟩⟩
              refine callsIn_of_wp_marks hf hb trivial ?_
              have h0 := u2 σ w { tmps := (⟨args'⟩ : Array Value) ++ Array.replicate (fn.ntmps - (⟨args'⟩ : Array Value).size) undef, defers := [] } none hr hB (hF.le k2.nx) (ofList_TmR ha hle) .nil (.inl ⟨rfl, rfl⟩)
              refine wpIn_mono (F := Fence.wide) h0 ?_
              rintro ex a' w' ⟨rfl, σ', ho, ht, hm⟩
              have fin : LeavesInM Fence.wide 0 P fn a'.tmps (fun e w' => match e with
                  | .returned v' => ∃ σ', VR σ' (one vs) v' ∧ Out P σ h.t.get h.nx w σ' h1.t.get h1.nx w'
                  | _ => False) a'.defers .returning w' := by
                refine k3 hm ho.hr fun w2 ho2 => ?_
                obtain ⟨v', j1, j2⟩ := results_run hE ho2.hr ht hvs
                exact ⟨v', j2, σ', j1, ho.trans ho2⟩
              rcases hxx with hx1 | hx1 <;> rw [hx1] <;> exact fin
            · cases k1
          split at e
          · cases e
          · rename_i hne
            refine main e ?_
            cases x with
            | normal => exact .inl rfl
            | ret => exact .inr rfl
            | exit i => exact absurd rfl (hne i)
        · cases e
      · cases e
    · cases e
  · cases e
end
end Go.Proofs.YtlhkaoccnpgkeaaGreat.Ev

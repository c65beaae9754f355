/- eval: operations in the text's order, ranges over functions. -/
import Derived.Test.YtlhkaoccnpgkeaaGreatEvM
import Derived.RangeFuncNested
import Derived.OrdersIn
namespace Go.Proofs.YtlhkaoccnpgkeaaGreat.Ev
open Go
set_option linter.unusedVariables false
set_option linter.unusedSimpArgs false
variable {α : Type} {β : Type}
section
variable {P : Program} {E : Env} {σ : Sg} {g : G} {w : World}
theorem Post.trans {σ σ1 : Sg} {h h1 : H} {w w1 : World} {nt : Nat} {x : Ex} {s : St} (ho : Out P σ h.t.get h.nx w σ1 h1.t.get h1.nx w1) {e : Exit} {a : Act} {w' : World} (k : Post P σ1 h1 w1 nt x s e a w') : Post P σ h w nt x s e a w' := by
  obtain ⟨k1, σ', k2, k3, k4⟩ := k
  exact ⟨k1, σ', ho.trans k2, k3, k4⟩
theorem bool_slot {c : Bool} {tmps : Array Value} {d : Nat} (h : tmps.getD d undef = .bool c) : tmps[d]? = some (.bool c) := by
  rw [Array.getD_eq_getD_getElem?] at h
  cases hd : tmps[d]? with
  | none => rw [hd] at h; simp [undef] at h
  | some v => rw [hd] at h; simpa using h
theorem guard_run {all : List Oper} {tm : T Value} {o : Oper} {b : Bool} {tmps : Array Value} (e : guardF all tm o.guard = some b) (hv : ∀ (j : Nat) (bb : Bool) (oj : Oper) (d : Nat), o.guard = some (j, bb) → all[j]? = some oj → oj.dst = some d → VR σ (tmGet tm d) (tmps.getD d undef)) : Region.wanted o (yielded all.toArray tmps) = b := by
  unfold Region.wanted
  cases hg : o.guard with
  | none => rw [hg] at e; cases e; rfl
  | some p =>
    obtain ⟨j, want⟩ := p
    rw [hg] at e
    simp only [guardF] at e
    split at e
    · rename_i oj hoj
      rw [nth_eq] at hoj
      split at e
      · rename_i d hd
        split at e
        · rename_i c hc
          cases e
          have h1 := hv j want oj d hg hoj hd
          have h2 : tmGet tm d = .bool c := by unfold tmGet; rw [hc]
          rw [h2] at h1
          have h3 := bool_slot h1.ibool
          have h4 : yielded all.toArray tmps j = some c := by
            unfold yielded
            simp [hoj, hd, h3]
          dsimp only
          rw [h4]
          cases c <;> cases want <;> rfl
        · rename_i l hc
          cases e
          have h1 := hv j want oj d hg hoj hd
          have h2 : tmGet tm d = .tuple l := by unfold tmGet; rw [hc]
          rw [h2] at h1
          obtain ⟨l', _, h3⟩ := h1.ituple
          have h4 : yielded all.toArray tmps j = none := by
            unfold yielded
            have h5 : tmps[d]?.getD undef = .tuple ⟨l'⟩ := by rw [← h3, Array.getD_eq_getD_getElem?]
            cases hx : tmps[d]? with
            | none => simp [hoj, hd, hx]
            | some u =>
              rw [hx] at h5
              have h6 : u = .tuple ⟨l'⟩ := h5
              simp [hoj, hd, hx, h6]
          dsimp only
          rw [h4]
          cases want <;> rfl
        · cases e
      · cases e
    · cases e
theorem step_in {all : List Oper} {o : Oper} {i : Nat} (hi : all[i]? = some o) {a : Act} {w : World} {r : Option Nat} {Q : Exit → Act → World → Prop} {K : Act → World → Prop} {b : Bool} (hb : Region.wanted o (yielded all.toArray a.tmps) = b)
    (h1 : b = true → (∀ c, o.op ≠ .defer c) ∧ UpK P (fun v w' => K (a.put o.dst v) w') ((execOp a.eval o).run P w)) (h2 : b = false → K (a.put o.dst undef) w) : wpOpIn (Wd r) 0 P all.toArray Q i K a w := by
  unfold wpOpIn
  have hi' : all.toArray[i]? = some o := by simpa using hi
  simp only [hi', hb]
  cases b with
  | true =>
    simp only [if_true]
    obtain ⟨k1, k2⟩ := h1 rfl
    refine ⟨fun _ _ => trivial, ?_⟩
    rw [Oper.semAt_eq _ _ _ k1]
    exact k2.upon (fun v w hk => hk)
  | false =>
    simp only [Bool.false_eq_true, if_false]
    exact ⟨fun _ _ => trivial, h2 rfl⟩
theorem opsF_some (hE : EnvOk P E) (hN : ∀ (k : Nat) (fn : Func), P.funcs[k]? = some fn → (fn.name == "runtime.NumGoroutine") = false) {ev : Ev} (hev : EvS P ev) {cx : Cx} {mk : List Nat} {all : List Oper} : ∀ (l pre : List Oper), all = pre ++ l → ∀ (tm : T Value) (h : H) (x : Ex) (s : St), opsF E ev cx mk all l tm h = some (x, s) →
    Up h s.hp ∧ ∀ (σ : Sg) (w : World) (a : Act) (r : Option Nat) (Q : Exit → Act → World → Prop), HR P σ h.t.get w → Bd h.t.get h.nx → Free σ h.nx s.hp.nx → TmR σ cx.nt tm a.tmps → MkR σ mk a.defers → (∀ e a' w', Post P σ h w cx.nt x s e a' w' → Q e a' w') → wpOpsIn (Wd r) 0 P all.toArray Q (List.range' pre.length l.length) a w
  | [], pre, hall, tm, h, x, s, e => by
    cases e
    refine ⟨Up.refl h, fun σ w a r Q hr hB hF ht hm hQ => ?_⟩
    exact hQ _ _ _ ⟨rfl, σ, Out.refl _ hr, ht, hm⟩
  | o :: l, pre, hall, tm, h, x, s, e => by
    have hi : all[pre.length]? = some o := by rw [hall]; simp
    have hall2 : all = (pre ++ [o]) ++ l := by rw [hall]; simp
    have hlen : (pre ++ [o]).length = pre.length + 1 := by simp
    simp only [opsF] at e
    split at e
    · rename_i b hb
      split at e
      · obtain ⟨v, h1, k1, k2, k3, k4⟩ := opF_some hE hN hev e
        obtain ⟨tm1, q1, q2, q3⟩ := put_some k1
        obtain ⟨u1, u2⟩ := opsF_some hE hN hev l (pre ++ [o]) hall2 tm1 h1 x s q1
        refine ⟨k2.trans u1, fun σ w a r Q hr hB hF ht hm hQ => ?_⟩
        rw [show (o :: l).length = l.length + 1 from rfl, List.range'_succ, wpOpsIn_cons]
        have hw := guard_run (σ := σ) hb (fun j bb oj d h1 h2 h3 => ht.2 d)
        refine step_in hi hw (fun _ => ⟨k3, ?_⟩) (fun h => by cases h)
        refine (k4 σ w a.eval o rfl (fun y => ht.eval y) hr hB (hF.le u1.nx)).mono ?_
        rintro v' w' ⟨σ', hv, ho⟩
        have := u2 σ' w' (a.put o.dst v') r Q ho.hr (k2.bd hB) (Free.out hF ho) (put_TmR (ht.mono ho.le) hv q2 q3) (by cases o.dst <;> exact hm.mono ho.le) (fun e a' w' hp => hQ e a' w' (Post.trans ho hp))
        rw [hlen] at this
        exact this
      · obtain ⟨tm1, q1, q2, q3⟩ := put_some e
        obtain ⟨u1, u2⟩ := opsF_some hE hN hev l (pre ++ [o]) hall2 tm1 h x s q1
        refine ⟨u1, fun σ w a r Q hr hB hF ht hm hQ => ?_⟩
        rw [show (o :: l).length = l.length + 1 from rfl, List.range'_succ, wpOpsIn_cons]
        have hw := guard_run (σ := σ) hb (fun j bb oj d h1 h2 h3 => ht.2 d)
        refine step_in hi hw (fun h => by cases h) (fun _ => ?_)
        have := u2 σ w (a.put o.dst undef) r Q hr hB hF (put_TmR ht (VR.undef σ) q2 q3) (by cases o.dst <;> exact hm) hQ
        rw [hlen] at this
        exact this
    · cases e
/-- A range over a function, its record laid. -/
theorem rangeG_some (hE : EnvOk P E) (hN : ∀ (k : Nat) (fn : Func), P.funcs[k]? = some fn → (fn.name == "runtime.NumGoroutine") = false) {ev : Ev} (hev : EvS P ev) {cx : Cx} {gg : Operand} {l : Nat} {tm : T Value} {mk : List Nat} {h : H} {x : Ex} {s : St} (e : rangeG E ev cx gg l tm mk h = some (x, s)) :
    Up h s.hp ∧ ∀ (σ : Sg) (w : World) (a : Act) (r : Option Nat) (lc : Nat) (ds : List Deferred) (Q : Exit → Act → World → Prop), HR P σ h.t.get w → Bd h.t.get h.nx → Free σ h.nx s.hp.nx → TmR σ cx.nt tm a.tmps → MkR σ mk ds → σ.blk l = some lc → (∀ e a' w', Post P σ h w cx.nt x s e a' w' → Q e a' w') →
      ∃ (d : Deferred) (k : FuncId) (args : Array Value), (resolve a.eval (rangeCall gg lc) 0).run P w = .ok d w ∧ (invoke d.target d.args).run P w = .ok (.enter k args) w ∧ CallsIn (Wd r) 0 P k args w (rangePost (Wd r) 0 P lc Q { a with defers := ds }) := by
  unfold rangeG at e
  split at e
  · rename_i fn av bv hg
    split at e
    · rename_i k
      obtain ⟨v, h1, k1, k2, k3⟩ := callF_some hE hN hev e
      split at k1
      · rename_i st pend df nt1 tm1 ps1 asg1 body1 hgl
        split at k1
        · cases k1
        · rename_i hst
          obtain ⟨t, q1, q2⟩ := setH_some k1
          have hs : s = ⟨tm, mk, ⟨h1.nx, t⟩⟩ ∧ exC x = (match pendC pend with | none => .normal | some (.exit i) => .exit i | some _ => .ret) := by
            cases pend with
            | none => cases q1; exact ⟨rfl, rfl⟩
            | some y => cases q1; cases x <;> exact ⟨rfl, rfl⟩
          obtain ⟨rfl, hx⟩ := hs
          refine ⟨k2.trans (Up.set hgl q2), fun σ w a r lc ds Q hr hB hF ht hm hl hQ => ?_⟩
          have hgv := ht.eval gg
          rw [hg] at hgv
          obtain ⟨a', b', e1, e2, e3⟩ := hgv.ifun
          have hargs : VL σ (av.toList ++ (.func (.yield l) #[] #[] :: bv.toList)) (a' ++ (.func (.yield lc) #[] #[] :: b')) := e1.append (.cons (.yield hl) e2)
          obtain ⟨j1, j2⟩ := k3 σ w _ hargs hr hB (hF.le (Nat.le_refl _))
          refine ⟨{ target := .fn (.func k) ⟨b'⟩, args := ⟨a'⟩ ++ #[.func (.yield lc) #[] #[]] }, k, ⟨a' ++ (.func (.yield lc) #[] #[] :: b')⟩, ?_, ?_, ?_⟩
          · have e5 : (#[.const (.func (.yield lc) #[] #[])] : Array Operand).map a.eval = #[.func (.yield lc) #[] #[]] := by simp [Act.eval]
            simp only [resolve, e3, Deferred.ofValue, Sem.run_pure, e5]
          · have e4 : (⟨a'⟩ ++ #[.func (.yield lc) #[] #[]] ++ ⟨b'⟩ : Array Value) = ⟨a' ++ (.func (.yield lc) #[] #[] :: b')⟩ := by
              apply Array.toList_inj.1
              simp
            show (callFunc k (⟨a'⟩ ++ #[.func (.yield lc) #[] #[]] ++ ⟨b'⟩)).run P w = _
            rw [e4]
            exact j1
          · refine CallsIn.mono (F := Wd r) j2 ?_
            intro en w3 hen
            cases en with
            | panicked c => exact hen.elim
            | outgrown => exact hen.elim
            | returned v' =>
              obtain ⟨σ', hv', ho⟩ := hen
              have hl' := (ho.le _ _ hl).1
              obtain ⟨rec, z1, z2, z3, z4, z5, z6, z7, z8⟩ := ho.hr.loop hgl hl'
              have hnb : rec.state ≠ .busy := by
                intro hb
                rw [hb] at z2
                match st, z2, hst with
                | 0, z2, _ => cases z2
                | 1, _, hst => exact hst rfl
                | 2, z2, _ => cases z2
                | n + 3, z2, _ => cases z2
              have hset := loop_set (o' := .loop 3 pend df nt1 tm1 ps1 asg1 body1) ho.hr hgl (by simp) hl' q2 (x := .loop { rec with state := .exhausted }) ⟨_, rfl, rfl, z3, z4, z5, z6, z7, z8⟩
              have hpost : Post P σ h w cx.nt x ⟨tm, mk, ⟨h1.nx, t⟩⟩ (exC x) { a with defers := ds } (w3.putObj lc (.loop { rec with state := .exhausted })) := ⟨rfl, σ', ho.trans hset, ht.mono ho.le, hm.mono ho.le⟩
              have hq := hQ _ _ _ hpost
              rw [hx] at hq
              have hrun := run_endLoop (P := P) z1 hnb
              revert hq hrun
              generalize w3.putObj lc (.loop { rec with state := .exhausted }) = W
              intro hq hrun
              refine ⟨rec.pending, W, hrun, ?_⟩
              rw [z3]
              cases pend with
              | none => exact hq
              | some y =>
                cases y with
                | normal => exact hq
                | exit i => exact wpIn_exit hq
                | ret => exact wpIn_ret hq
      · cases k1
    · cases e
  · cases e
theorem defer_out {h : H} (hr : HR P σ h.t.get w) (hB : σ.blk h.nx = none) : Out P σ h.t.get h.nx w (σ.add h.nx w.heap.size 0) (gset h.t.get h.nx .defer) (h.nx + 1) (w.alloc (.deferred (some []))) :=
  hr.new (w' := w.alloc (.deferred (some []))) (x := .deferred (some [])) (ex := 0) hB rfl rfl rfl rfl rfl
theorem rangeF_some (hE : EnvOk P E) (hN : ∀ (k : Nat) (fn : Func), P.funcs[k]? = some fn → (fn.name == "runtime.NumGoroutine") = false) {ev : Ev} (hev : EvS P ev) {cx : Cx} {gg : Operand} {ps : Array Tmp} {asg body : Code} {tm : T Value} {mk : List Nat} {h : H} {x : Ex} {s : St} (e : rangeF E ev cx gg ps.toList asg body tm mk h = some (x, s)) :
    Up h s.hp ∧ ∀ σ w a r, HR P σ h.t.get w → Bd h.t.get h.nx → Free σ h.nx s.hp.nx → TmR σ cx.nt tm a.tmps → MkR σ mk a.defers → LoopAt σ cx.ro r → (Code.rangeFunc gg ps asg body).wpIn (Wd r) 0 P (Post P σ h w cx.nt x s) a w := by
  unfold rangeF at e
  split at e
  · rename_i hro
    obtain ⟨t1, q1, q2⟩ := Hnew_some e
    obtain ⟨t2, q3, q4⟩ := Hnew_some q1
    obtain ⟨u1, u2⟩ := rangeG_some hE hN hev q3
    have hup := (Up.new q2).trans (Up.new q4)
    refine ⟨hup.trans u1, fun σ w a r hr hB hF ht hm hla => ?_⟩
    have hrn : r = none := by
      rcases hla with h | ⟨l, b, h1, _⟩
      · exact h.2
      · rw [hro] at h1; cases h1
    subst hrn
    have hnx : h.nx + 2 ≤ s.hp.nx := u1.nx
    have hB0 : σ.blk h.nx = none := hF h.nx (Nat.le_refl _) (by omega)
    have o1 := defer_out hr hB0
    rw [← q2] at o1
    have hB1 : (σ.add h.nx w.heap.size 0).blk (h.nx + 1) = none := by
      have := hF (h.nx + 1) (by omega) (by omega)
      simp [Sg.add, this]
    refine wpIn_rangeFunc (F := Wd none) fun fn _ => ?_
    have o2 : Out P (σ.add h.nx w.heap.size 0) t1.get (h.nx + 1) (w.alloc (.deferred (some []))) ((σ.add h.nx w.heap.size 0).add (h.nx + 1) (w.heap.size + 1) 0) t2.get (h.nx + 2) ((w.alloc (.deferred (some []))).alloc (.loop { state := .ready, pending := none, fn, tmps := a.tmps, params := ps, assign := asg, body, defers := w.heap.size })) := by
      have hsz : (w.alloc (.deferred (some []))).heap.size = w.heap.size + 1 := by
        show (w.heap.push _).size = _
        simp
      have hle : σ.le ((σ.add h.nx w.heap.size 0).add (h.nx + 1) (w.heap.size + 1) 0) := (Sg.le_add hB0).trans (Sg.le_add hB1)
      have z1 : ((σ.add h.nx w.heap.size 0).add (h.nx + 1) (w.heap.size + 1) 0).blk h.nx = some w.heap.size := by simp [Sg.add]
      have := o1.hr.new (w' := (w.alloc (.deferred (some []))).alloc (.loop { state := .ready, pending := none, fn, tmps := a.tmps, params := ps, assign := asg, body, defers := w.heap.size })) (x := .loop { state := .ready, pending := none, fn, tmps := a.tmps, params := ps, assign := asg, body, defers := w.heap.size }) (o := .loop 0 none h.nx cx.nt tm ps.toList asg body) (ex := 0) hB1 rfl rfl rfl rfl (by rw [hsz]; exact ⟨_, rfl, rfl, rfl, z1, ht.mono hle, rfl, rfl, rfl⟩)
      rw [hsz] at this
      rw [q4]
      exact this
    have o3 := o1.trans o2
    have hl : ((σ.add h.nx w.heap.size 0).add (h.nx + 1) (w.heap.size + 1) 0).blk (h.nx + 1) = some (w.heap.size + 1) := by simp [Sg.add]
    have hd : ((σ.add h.nx w.heap.size 0).add (h.nx + 1) (w.heap.size + 1) 0).blk h.nx = some w.heap.size := by simp [Sg.add]
    obtain ⟨d, k, args, j1, j2, j3⟩ := u2 _ _ a none (w.heap.size + 1) ({ target := .collected w.heap.size, args := #[] } :: a.defers) (Post P σ h w cx.nt x s) o3.hr (hup.bd hB) (Free.out hF o3) (ht.mono o3.le) (.cons hd (hm.mono o3.le)) hl (fun e a' w' hp => Post.trans o3 hp)
    exact ⟨_, _, _, d, _, k, args, _, run_enterLoop_outer fn a.tmps ps asg body, j1, (fun _ _ => trivial), j2, (fun e => by cases e), j3⟩
  · rename_i l0 hro
    split at e
    · rename_i st0 pend0 df0 nt0 tm0 ps0 asg0 body0 hg0
      obtain ⟨t2, q3, q4⟩ := Hnew_some e
      obtain ⟨u1, u2⟩ := rangeG_some hE hN hev q3
      have hup := Up.new q4
      refine ⟨hup.trans u1, fun σ w a r hr hB hF ht hm hla => ?_⟩
      obtain ⟨b0, hrb, hb0⟩ : ∃ b, r = some b ∧ σ.blk l0 = some b := by
        rcases hla with h | ⟨l, b, h1, h2, h3⟩
        · rw [hro] at h; cases h.1
        · rw [hro] at h1; cases h1
          exact ⟨b, h2, h3⟩
      subst hrb
      obtain ⟨rec0, y1, y2, y3, y4, y5⟩ := hr.loop hg0 hb0
      have hnx : h.nx + 1 ≤ s.hp.nx := u1.nx
      have hB0 : σ.blk h.nx = none := hF h.nx (Nat.le_refl _) (by omega)
      refine wpIn_rangeFunc (F := Wd (some b0)) fun fn _ => ?_
      have o3 : Out P σ h.t.get h.nx w (σ.add h.nx w.heap.size 0) t2.get (h.nx + 1) (w.alloc (.loop { state := .ready, pending := none, fn, tmps := a.tmps, params := ps, assign := asg, body, defers := rec0.defers })) := by
        have hle : σ.le (σ.add h.nx w.heap.size 0) := Sg.le_add hB0
        have := hr.new (w' := w.alloc (.loop { state := .ready, pending := none, fn, tmps := a.tmps, params := ps, assign := asg, body, defers := rec0.defers })) (x := .loop { state := .ready, pending := none, fn, tmps := a.tmps, params := ps, assign := asg, body, defers := rec0.defers }) (o := .loop 0 none df0 cx.nt tm ps.toList asg body) (ex := 0) hB0 rfl rfl rfl rfl ⟨_, rfl, rfl, rfl, (hle _ _ y4).1, ht.mono hle, rfl, rfl, rfl⟩
        rw [q4]
        exact this
      have hl : (σ.add h.nx w.heap.size 0).blk h.nx = some w.heap.size := by simp [Sg.add]
      obtain ⟨d, k, args, j1, j2, j3⟩ := u2 _ _ a (some b0) w.heap.size a.defers (Post P σ h w cx.nt x s) o3.hr (hup.bd hB) (Free.out hF o3) (ht.mono o3.le) (hm.mono o3.le) hl (fun e a' w' hp => Post.trans o3 hp)
      exact ⟨_, _, _, d, _, k, args, _, run_enterLoop_inner y1 fn a.tmps ps asg body, j1, (fun _ _ => trivial), j2, (fun e => by cases e), j3⟩
    · cases e
end
end Go.Proofs.YtlhkaoccnpgkeaaGreat.Ev

/- eval: code; a function that is called. -/
import Derived.Test.YtlhkaoccnpgkeaaGreatEvR
import Derived.LoopNIn
namespace Go.Proofs.YtlhkaoccnpgkeaaGreat.Ev
open Go
set_option linter.unusedVariables false
set_option linter.unusedSimpArgs false
variable {α : Type} {β : Type}
def doneE (listed : Array Bool) (k : Nat) : Prop := listed.getD k false = true
theorem doneE_set {listed : Array Bool} {j : Nat} (hj : j < listed.size) : doneE (listed.setIfInBounds j true) = fun k => k = j ∨ doneE listed k := by
  funext k
  unfold doneE
  by_cases h : k = j
  · subst h
    simp [Array.getD, hj]
  · simp only [h, false_or]
    rw [Array.getD_eq_getD_getElem?, Array.getD_eq_getD_getElem?, Array.getElem?_setIfInBounds_ne (by omega)]
section
variable {F : Fence} {n : Nat} {P : Program} {ops : Array Oper} {Q : Exit → Act → World → Prop}
/-- A region that draws its order, by an invariant. -/
theorem inv_anyE (I : (Nat → Prop) → Act → World → Prop)
    (hstep : ∀ (L : Nat → Prop) a w j o, ops[j]? = some o → I L a w → ¬ L j → (∀ e ∈ o.after, Region.binds .any e = true → L e.on) → wpOpIn F n P ops Q j (fun a' w' => I (fun k => k = j ∨ L k) a' w') a w)
    (hend : ∀ L a w, I L a w → (∀ j, j < ops.size → L j) → Q .normal a w) (hacy : ∀ listed : Array Bool, listed.size = ops.size → Region.ready .any ops listed = [] → ∀ j, j < ops.size → doneE listed j) :
    ∀ (fuel : Nat) (listed : Array Bool) (a : Act) (w : World), listed.size = ops.size → listed.toList.count false ≤ fuel → I (doneE listed) a w → wpAnyIn F n P .any ops Q fuel listed a w := by
  intro fuel
  induction fuel with
  | zero =>
    intro listed a w hs hc hI
    have hall : ∀ j, j < ops.size → doneE listed j := fun j hj => by
      unfold doneE
      have h1 : listed[j]'(by omega) ≠ false := fun h => by
        have : false ∈ listed.toList := by rw [← h]; exact Array.getElem_mem_toList _
        have := List.count_pos_iff.2 this
        omega
      have h2 : listed[j]'(by omega) = true := by simpa using h1
      rw [Array.getD_eq_getD_getElem?, Array.getElem?_eq_getElem (by omega), h2]; rfl
    refine ⟨?_, hend _ _ _ hI hall⟩
    rw [List.eq_nil_iff_forall_not_mem]
    intro j hj
    obtain ⟨hu, oj, hoj, _⟩ := mem_ready.1 hj
    have hjs : j < ops.size := (Array.getElem?_eq_some_iff.1 hoj).1
    have := hall j hjs
    unfold doneE at this
    rw [Array.getD_eq_getD_getElem?, Array.getElem?_eq_getElem (by omega)] at this hu
    simp only [Option.getD_some] at this hu
    rw [this] at hu; cases hu
  | succ fuel ih =>
    intro listed a w hs hc hI
    refine ⟨fun h => hend _ _ _ hI (hacy listed hs h), fun j hj => ?_⟩
    obtain ⟨hu, oj, hoj, hall⟩ := mem_ready.1 hj
    have hjs : j < ops.size := (Array.getElem?_eq_some_iff.1 hoj).1
    have hjl : j < listed.size := by omega
    have hlj : listed[j]'hjl = false := by
      rw [Array.getD_eq_getD_getElem?, Array.getElem?_eq_getElem hjl] at hu
      simpa using hu
    have hnl : ¬ doneE listed j := by
      unfold doneE
      rw [Array.getD_eq_getD_getElem?, Array.getElem?_eq_getElem hjl, hlj]; simp
    refine wpOpIn_mono (fun a' w' h => ih _ a' w' (by simpa using hs) ?_ (by rw [doneE_set hjl]; exact h)) (hstep _ a w j oj hoj hI hnl hall)
    have hcnt : (listed.setIfInBounds j true).toList.count false + 1 = listed.toList.count false := by
      rw [Array.toList_setIfInBounds]
      have hlt : j < listed.toList.length := by simpa using hjl
      have e1 : listed.toList = listed.toList.take j ++ listed.toList[j] :: listed.toList.drop (j + 1) := by
        rw [← List.drop_eq_getElem_cons hlt, List.take_append_drop]
      have e2 : listed.toList[j] = false := by simpa using hlj
      rw [List.set_eq_take_append_cons_drop, if_pos hlt]
      conv => rhs; rw [e1, e2]
      simp
      omega
    omega
theorem acy_E (h : ∀ (j : Nat) (o : Oper), ops[j]? = some o → ∀ e ∈ o.after, Region.binds .any e = true → e.on < j) (listed : Array Bool) (hs : listed.size = ops.size) (hr : Region.ready .any ops listed = []) : ∀ j, j < ops.size → doneE listed j := by
  intro j
  induction j using Nat.strongRecOn with
  | _ j ih =>
    intro hj
    apply Classical.byContradiction
    intro hn
    have hjl : j < listed.size := by omega
    have hmem : j ∈ Region.ready .any ops listed := by
      rw [mem_ready]
      refine ⟨?_, ops[j], Array.getElem?_eq_getElem hj, fun e he hb => ?_⟩
      · unfold doneE at hn
        rw [Array.getD_eq_getD_getElem?, Array.getElem?_eq_getElem hjl] at hn ⊢
        simpa using hn
      · have h1 := h j _ (Array.getElem?_eq_getElem hj) e he hb
        exact ih e.on h1 (by omega)
    rw [hr] at hmem; cases hmem
end
section
variable {P : Program} {E : Env}
theorem drawF_some (hE : EnvOk P E) (hN : ∀ (k : Nat) (fn : Func), P.funcs[k]? = some fn → (fn.name == "runtime.NumGoroutine") = false) (hmo : P.follows .mixedOrders = true) {ev : Ev} (hev : EvS P ev) {cx : Cx} {mk : List Nat} {all : List Oper} {tm : T Value} {h : H} {x : Ex} {s : St} (e : drawF E ev cx mk all tm h = some (x, s)) :
    Up h s.hp ∧ ∀ (id : Nat) σ w a r, HR P σ h.t.get w → Bd h.t.get h.nx → Free σ h.nx s.hp.nx → TmR σ cx.nt tm a.tmps → MkR σ mk a.defers → (Code.region id all.toArray true).wpIn (Wd r) 0 P (Post P σ h w cx.nt x s) a w := by
  unfold drawF at e
  split at e
  · rename_i hdr
    obtain ⟨tr, htr, hfin⟩ := drF_tr (P := P) (g0 := h.t.get) (nx0 := h.nx) (t0 := tmGet tm) hE hN hev (order E all) [] 0 [] tm h x s e .nil ⟨fun j => by simp, .nil, fun t => rfl, rfl, Nat.le_refl _, fun r hr => by simp at hr, id⟩
    refine ⟨⟨hfin.nx, hfin.bd⟩, fun id σ w a r hr hB hF ht hm => ?_⟩
    refine wpIn_region_any hmo (inv_anyE (fun L a' w' => ∃ σ', RI P all cx.nt σ h.t.get (tmGet tm) w a.defers tr L a' w' σ') ?_ ?_ ?_ _ _ _ _ (by simp) (by simp) ?_)
    · rintro L a' w' j o ho ⟨σ', hI⟩ hn hedge
      exact RI.step htr hfin.alls hdr hF hfin.ids hB hI ho hn hedge
    · rintro L a' w' ⟨σ', hI⟩ hall
      have hL : ∀ r ∈ tr, L r.i := fun r hr => by
        obtain ⟨p, q, e⟩ := List.append_of_mem hr
        obtain ⟨o, ai, tm2, b, k⟩ := htr.split p r q e
        exact hall r.i (by simpa using (List.getElem?_eq_some_iff.1 k.at_).1)
      have e1 : gOf tr L h.t.get = s.hp.t.get := by
        rw [hfin.g]
        exact gOf_congr tr _ (fun r hr => ⟨fun _ => trivial, fun _ => hL r hr⟩)
      have hout := hI.out
      rw [e1] at hout
      have e2 : x = .normal := hfin.ex
      subst e2
      refine ⟨rfl, σ', ⟨hout.le, fun B h1 h2 => ?_, hout.hr, hout.fr, hout.im, hfin.nx⟩, ⟨hI.size, fun t => ?_⟩, ?_⟩
      · rcases hI.ids B h2 with h3 | ⟨r', h3, h4, h5, h6⟩
        · exact absurd h1 h3
        · obtain ⟨p, q, e⟩ := List.append_of_mem h3
          obtain ⟨o, ai, tm2, b, k⟩ := htr.split p r' q e
          exact ⟨Nat.le_trans k.lo h5, Nat.lt_of_lt_of_le h6 (hfin.ids r' h3)⟩
      · rw [hfin.tms]
        have := hI.tm t
        rw [tOf_add (L' := All) tr _ _ rfl (fun r hr _ => ⟨fun _ => trivial, fun _ => hL r hr⟩)] at this
        exact this
      · rw [hfin.ms, hI.ds]
        exact hm.mono hout.le
    · refine acy_E (fun j o ho e he hb => ?_)
      have h1 := ((drOk_spec hdr).2 j o (by simpa using ho)).2.2
      unfold edgesOk at h1
      have h2 := List.all_eq_true.1 h1 e (by simpa using he)
      rw [hb] at h2
      simpa [Nat.blt_eq] using h2
    · have e1 : doneE (Array.replicate all.toArray.size false) = fun _ => False := by
        funext k
        unfold doneE
        rw [Array.getD_eq_getD_getElem?, Array.getElem?_replicate]
        split <;> simp
      rw [e1]
      have g1 : ∀ (tr : List Rec) (g : G), gOf tr (fun _ => False) g = g := by
        intro tr
        induction tr with
        | nil => intro g; rfl
        | cons r tr ih => intro g; simp only [gOf]; rw [if_neg (fun h => h)]; exact ih g
      have g2 : ∀ (tr : List Rec) (f : Nat → Value), tOf tr (fun _ => False) f = f := by
        intro tr
        induction tr with
        | nil => intro g; rfl
        | cons r tr ih => intro g; simp only [tOf]; rw [if_neg (fun h => h)]; exact ih g
      refine ⟨σ, ?_, fun B hB => .inl hB, ht.1, fun t => ?_, fun i hi => hi.elim, rfl⟩
      · rw [g1]
        exact Out0.same hr rfl rfl rfl rfl
      · rw [g2]
        exact ht.2 t
  · cases e
/-- What loops are. -/
def EvLp (P : Program) (ev : Ev) (n : Nat) : Prop := ∀ cx c tm mk h x s, ev cx (.loop c) tm mk h = some (x, s) → Up h s.hp ∧ ∀ σ w a r Q, HR P σ h.t.get w → Bd h.t.get h.nx → Free σ h.nx s.hp.nx → TmR σ cx.nt tm a.tmps → MkR σ mk a.defers → LoopAt σ cx.ro r → (∀ e a' w', Post P σ h w cx.nt x s e a' w' → Q e a' w') → Code.roundsIn (Wd r) 0 P c Q n a w
theorem loop_some {ev : Ev} {n : Nat} (hev : EvS P ev) (hlp : EvLp P ev n) : EvLp P (codeF E ev) (n + 1) := by
  intro cx c tm mk h x s e
  simp only [codeF] at e
  split at e
  · rename_i x1 s1 e1
    obtain ⟨u1, m1⟩ := hev _ _ _ _ _ _ _ e1
    split at e
    · obtain ⟨tm1, mk1, h1⟩ := s1
      dsimp only at e
      obtain ⟨u2, m2⟩ := hlp _ _ _ _ _ _ _ e
      refine ⟨u1.trans u2, fun σ w a r Q hr hB hF ht hm hla hQ => ?_⟩
      rw [roundsIn_succ]
      refine wpIn_mono (m1 σ w a r hr hB (hF.le u2.nx) ht hm hla) ?_
      rintro ex a' w' ⟨rfl, σ', ho, ht', hm'⟩
      exact m2 σ' w' a' r Q ho.hr (u1.bd hB) (Free.out hF ho) ht' hm' (hla.mono ho.le) (fun e a'' w'' hp => hQ e a'' w'' (Post.trans ho hp))
    · rename_i hne
      cases e
      refine ⟨u1, fun σ w a r Q hr hB hF ht hm hla hQ => ?_⟩
      rw [roundsIn_succ]
      refine wpIn_mono (m1 σ w a r hr hB hF ht hm hla) ?_
      rintro ex a' w' hp
      have := hQ _ _ _ hp
      obtain ⟨rfl, _⟩ := hp
      cases x with
      | normal => exact absurd rfl hne
      | ret => exact this
      | exit i => exact this
  · cases e
theorem codeF_some (hE : EnvOk P E) (hN : ∀ (k : Nat) (fn : Func), P.funcs[k]? = some fn → (fn.name == "runtime.NumGoroutine") = false) (hmo : P.follows .mixedOrders = true) {ev : Ev} {n : Nat} (hev : EvS P ev) (hlp : EvLp P ev n) : EvS P (codeF E ev) := by
  intro cx c tm mk h x s e
  cases c with
  | skip =>
    cases e
    exact ⟨Up.refl h, fun σ w a r hr hB hF ht hm hla => wpIn_skip ⟨rfl, σ, Out.refl _ hr, ht, hm⟩⟩
  | label l =>
    cases e
    exact ⟨Up.refl h, fun σ w a r hr hB hF ht hm hla => wpIn_label ⟨rfl, σ, Out.refl _ hr, ht, hm⟩⟩
  | exit id =>
    cases e
    exact ⟨Up.refl h, fun σ w a r hr hB hF ht hm hla => wpIn_exit ⟨rfl, σ, Out.refl _ hr, ht, hm⟩⟩
  | ret =>
    cases e
    exact ⟨Up.refl h, fun σ w a r hr hB hF ht hm hla => wpIn_ret ⟨rfl, σ, Out.refl _ hr, ht, hm⟩⟩
  | seq c1 c2 =>
    simp only [codeF] at e
    split at e
    · rename_i x1 s1 e1
      obtain ⟨u1, m1⟩ := hev _ _ _ _ _ _ _ e1
      split at e
      · obtain ⟨tm1, mk1, h1⟩ := s1
        dsimp only at e
        obtain ⟨u2, m2⟩ := hev _ _ _ _ _ _ _ e
        refine ⟨u1.trans u2, fun σ w a r hr hB hF ht hm hla => wpIn_seq ?_⟩
        refine wpIn_mono (m1 σ w a r hr hB (hF.le u2.nx) ht hm hla) ?_
        rintro ex a' w' ⟨rfl, σ', ho, ht', hm'⟩
        exact wpIn_mono (m2 σ' w' a' r ho.hr (u1.bd hB) (Free.out hF ho) ht' hm' (hla.mono ho.le)) (fun e a'' w'' hp => Post.trans ho hp)
      · rename_i hne
        cases e
        refine ⟨u1, fun σ w a r hr hB hF ht hm hla => wpIn_seq ?_⟩
        refine wpIn_mono (m1 σ w a r hr hB hF ht hm hla) ?_
        rintro ex a' w' hp
        have hp' := hp
        obtain ⟨rfl, _⟩ := hp
        cases x with
        | normal => exact absurd rfl hne
        | ret => exact hp'
        | exit i => exact hp'
    · cases e
  | cond g c1 c2 =>
    simp only [codeF] at e
    split at e
    · rename_i b hb
      have hbool : ∀ σ (a : Act), TmR σ cx.nt tm a.tmps → a.eval g = .bool b := fun σ a ht => by
        have := ht.eval g
        rw [hb] at this
        exact this.ibool
      split at e
      · obtain ⟨u1, m1⟩ := hev _ _ _ _ _ _ _ e
        exact ⟨u1, fun σ w a r hr hB hF ht hm hla => wpIn_cond_true (hbool σ a ht) (m1 σ w a r hr hB hF ht hm hla)⟩
      · obtain ⟨u1, m1⟩ := hev _ _ _ _ _ _ _ e
        exact ⟨u1, fun σ w a r hr hB hF ht hm hla => wpIn_cond_false (hbool σ a ht) (m1 σ w a r hr hB hF ht hm hla)⟩
    · cases e
  | block id c1 =>
    simp only [codeF] at e
    split at e
    · rename_i x1 s1 e1
      obtain ⟨u1, m1⟩ := hev _ _ _ _ _ _ _ e1
      have hs : s1 = s := by
        split at e
        · split at e <;> cases e <;> rfl
        · cases e; rfl
      subst hs
      refine ⟨u1, fun σ w a r hr hB hF ht hm hla => wpIn_block ?_⟩
      refine wpIn_mono (m1 σ w a r hr hB hF ht hm hla) ?_
      rintro ex a' w' ⟨rfl, hrest⟩
      cases x1 with
      | normal =>
        cases e
        exact ⟨rfl, hrest⟩
      | ret =>
        cases e
        exact ⟨rfl, hrest⟩
      | exit i =>
        dsimp only at e
        show if i = id then Post P σ h w cx.nt x s1 .normal a' w' else Post P σ h w cx.nt x s1 (.exit i) a' w'
        split at e
        · rename_i hi
          cases e
          have : i = id := Nat.eq_of_beq_eq_true hi
          rw [if_pos this]
          exact ⟨rfl, hrest⟩
        · rename_i hi
          cases e
          have : i ≠ id := fun e2 => by
            subst e2
            have h9 : Nat.beq i i = true := Nat.beq_refl i
            rw [h9] at hi; cases hi
          rw [if_neg this]
          exact ⟨rfl, hrest⟩
    · cases e
  | loop c1 =>
    obtain ⟨u1, m1⟩ := loop_some hev hlp cx c1 tm mk h x s e
    exact ⟨u1, fun σ w a r hr hB hF ht hm hla => wpIn_loop_rounds (n + 1) (m1 σ w a r _ hr hB hF ht hm hla (fun e a' w' hp => hp))⟩
  | region id ops d =>
    simp only [codeF] at e
    split at e
    · obtain ⟨u1, m1⟩ := drawF_some hE hN hmo hev e
      exact ⟨u1, fun σ w a r hr hB hF ht hm hla => by
        have := m1 id σ w a r hr hB hF ht hm
        simpa using this⟩
    · obtain ⟨u1, m1⟩ := opsF_some (P := P) hE hN hev ops.toList [] rfl tm h x s e
      refine ⟨u1, fun σ w a r hr hB hF ht hm hla => wpIn_region ?_⟩
      have := m1 σ w a r _ hr hB hF ht hm (fun e a' w' hp => hp)
      simpa [List.range_eq_range'] using this
  | rangeFunc g ps asg body =>
    simp only [codeF] at e
    obtain ⟨u1, m1⟩ := rangeF_some (P := P) hE hN hev e
    exact ⟨u1, fun σ w a r hr hB hF ht hm hla => m1 σ w a r hr hB hF ht hm hla⟩
  | _ => cases e
theorem evC_ok (hE : EnvOk P E) (hN : ∀ (k : Nat) (fn : Func), P.funcs[k]? = some fn → (fn.name == "runtime.NumGoroutine") = false) (hmo : P.follows .mixedOrders = true) : ∀ n, EvS P (evC E n) ∧ EvLp P (evC E n) n
  | 0 => ⟨fun _ _ _ _ _ _ _ e => (by cases e), fun _ _ _ _ _ _ _ e => (by cases e)⟩
  | n + 1 => by
    obtain ⟨h1, h2⟩ := evC_ok hE hN hmo n
    exact ⟨codeF_some hE hN hmo h1 h2, loop_some h1 h2⟩
/-- A call that has been worked out on its own. -/
theorem entB_ok (hE : EnvOk P E) (hN : (P.funcs.toList.all fun fn => !(fn.name == "runtime.NumGoroutine")) = true) (hmo : P.follows .mixedOrders = true) {n : Nat} {e : Ent} (h : entB E n e = true) : EntOk P e := by
  have hN' : ∀ (k : Nat) (fn : Func), P.funcs[k]? = some fn → (fn.name == "runtime.NumGoroutine") = false := fun k fn hf => by
    have h1 : fn ∈ P.funcs.toList := by
      rw [Array.mem_toList_iff]
      exact Array.mem_of_getElem? hf
    have := List.all_eq_true.1 hN fn h1
    simpa using this
  unfold entB at h
  split at h
  · rename_i b hb
    subst h
    obtain ⟨v, h1, k1, k2, k3⟩ := callG_some (P := P) hE hN' (evC_ok hE hN' hmo n).1 hb
    have k1' := Option.some.inj k1
    simp only [Bool.and_eq_true, Nat.beq_eq] at k1'
    obtain ⟨⟨⟨hv, hn⟩, hs⟩, hdm⟩ := k1'
    obtain ⟨hd1, hd2⟩ := domOk_spec hdm
    have hv' := sameA_eq hv
    subst hv'
    refine ⟨by rw [← hn]; exact k2.nx, fun hb => ?_, hd1, hd2, fun args' w => ?_, fun σ w args' ha hr hB hF => ?_⟩
    · have := k2.bd hb
      rw [hn] at this
      exact this.subG hs
    · unfold callG at hb
      split at hb
      · rename_i fn hfn
        split at hb
        · rename_i c hc
          exact run_callF (hE.fn _ _ hfn) (hN' _ _ (hE.fn _ _ hfn)) hc _ _
        · cases hb
      · cases hb
    · have hF' : Free σ e.nx h1.nx := by rw [hn]; exact hF
      obtain ⟨_, k4⟩ := k3 σ w args' ha hr hB hF'
      refine CallsIn.mono k4 fun ex w' hex => ?_
      cases ex with
      | panicked c => exact hex.elim
      | outgrown => exact hex.elim
      | returned v' =>
        obtain ⟨σ', hv, ho⟩ := hex
        have ho' := ho
        rw [hn] at ho'
        exact ⟨σ', hv, ho'.le, ho'.new, ho'.hr.subG hs, ho'.fr, fun B b q1 q2 => ho'.im B b (gE_live hs q1) q2, ho'.nx⟩
  · cases h
/-- A function that has been worked out does what has been worked out. -/
theorem evF_calls (hE : EnvOk P E) (hN : (P.funcs.toList.all fun fn => !(fn.name == "runtime.NumGoroutine")) = true) (hmo : P.follows .mixedOrders = true) {n : Nat} {k : FuncId} {v : Value} {args args' : List Value} (e : evF E n k args = some v) (ha : ∀ σ, VL σ args args') (w : World) :
    Calls P k ⟨args'⟩ w fun e w' => match e with
      | .returned v' => (∃ σ, VR σ v v') ∧ w'.os = w.os ∧ w'.tape = w.tape ∧ w'.output = w.output ∧ w.heap.size ≤ w'.heap.size ∧ ∀ j, j < w.heap.size → w'.heap[j]? = w.heap[j]?
      | _ => False := by
  have hN' : ∀ (k : Nat) (fn : Func), P.funcs[k]? = some fn → (fn.name == "runtime.NumGoroutine") = false := fun k fn hf => by
    have h1 : fn ∈ P.funcs.toList := by
      rw [Array.mem_toList_iff]
      exact Array.mem_of_getElem? hf
    have := List.all_eq_true.1 hN fn h1
    simpa using this
  obtain ⟨v0, h1, k1, k2, k3⟩ := callF_some (P := P) hE hN' (evC_ok hE hN' hmo n).1 e
  have ev : v0 = v := Option.some.inj k1
  subst ev
  have hl : ∀ B o, (T.leaf : T Ob).get B = some o → False := fun B o h => by rw [T.get_leaf] at h; cases h
  obtain ⟨_, h2⟩ := k3 ⟨fun _ => none, fun _ => 0⟩ w args' (ha _) ⟨fun B o h => (hl B o h).elim, fun B B' b h => by
    obtain ⟨o, h, _⟩ := h
    exact (hl B o h).elim⟩ (fun B h => absurd (T.get_leaf B) h) (fun B _ _ => rfl)
  refine callsIn_wide.1 (CallsIn.mono (F := Fence.wide) h2 ?_)
  intro en w' hen
  cases en with
  | panicked c => exact hen.elim
  | outgrown => exact hen.elim
  | returned v' =>
    obtain ⟨σ', hv, ho⟩ := hen
    exact ⟨⟨σ', hv⟩, ho.fr.os, ho.fr.tape, ho.fr.out, ho.fr.size, fun j hj => ho.fr.blk j hj (fun B hB => by
      obtain ⟨o, h, _⟩ := hB
      exact (hl B o h).elim)⟩
def isT : Option Value → Bool
  | some v => match v with
    | .bool b => b
    | _ => false
  | none => false
theorem isT_some {o : Option Value} (h : isT o = true) : o = some (.bool true) := by
  unfold isT at h
  split at h
  · split at h
    · subst h; rfl
    · cases h
  · cases h
theorem all_top {σ : Sg} : ∀ l : List Value, VL σ (l.map fun _ => top) l
  | [] => .nil
  | v :: l => .cons (.top v) (all_top l)
/-- A law that says yes whatever it is handed. -/
theorem law_calls (hE : EnvOk P E) (hN : (P.funcs.toList.all fun fn => !(fn.name == "runtime.NumGoroutine")) = true) (hmo : P.follows .mixedOrders = true) {n : Nat} {k : FuncId} {avs : List Value} (args : List Value) (e : isT (evF E n k avs) = true) (ha : ∀ σ, VL σ avs args) (w : World) :
    Calls P k ⟨args⟩ w fun e w' => e = .returned (.bool true) ∧ w'.os = w.os ∧ w'.tape = w.tape ∧ w'.output = w.output ∧ w.heap.size ≤ w'.heap.size ∧ ∀ j, j < w.heap.size → w'.heap[j]? = w.heap[j]? := by
  refine (evF_calls hE hN hmo (isT_some e) ha w).mono ?_
  intro en w' hen
  cases en with
  | panicked c => exact hen.elim
  | outgrown => exact hen.elim
  | returned v' =>
    obtain ⟨⟨σ, hv⟩, h⟩ := hen
    exact ⟨by rw [hv.ibool], h⟩
end
end Go.Proofs.YtlhkaoccnpgkeaaGreat.Ev

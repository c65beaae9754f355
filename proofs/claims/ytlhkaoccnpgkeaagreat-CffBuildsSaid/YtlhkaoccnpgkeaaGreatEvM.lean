/- eval: rounds, what operations lead to, operations in the text's order, ranges over functions. -/
import Derived.Test.YtlhkaoccnpgkeaaGreatEvL
namespace Go.Proofs.YtlhkaoccnpgkeaaGreat.Ev
open Go
set_option linter.unusedVariables false
set_option linter.unusedSimpArgs false
variable {α : Type} {β : Type}
section
variable {P : Program} {E : Env} {σ : Sg} {g : G} {w : World} {s : Sem Next}
theorem setPs_spec {nt : Nat} : ∀ (ps : List Tmp) (args args' : List Value) (tm tm' : T Value) (tmps : Array Value), setPs nt tm ps args = some tm' → VL σ args args' → TmR σ nt tm tmps → ps.length = args.length ∧ TmR σ nt tm' ((ps.zip args').foldl (fun tmps (x : Tmp × Value) => tmps.setIfInBounds x.1 x.2) tmps)
  | [], [], args', tm, tm', tmps, e, ha, ht => by
    cases ha
    cases e
    exact ⟨rfl, ht⟩
  | [], v :: args, args', tm, tm', tmps, e, ha, ht => by cases e
  | p :: ps, [], args', tm, tm', tmps, e, ha, ht => by cases e
  | p :: ps, v :: args, args', tm, tm', tmps, e, ha, ht => by
    cases ha with
    | cons hv hvs =>
      simp only [setPs] at e
      split at e
      · rename_i hb
        split at e
        · cases e
        · rename_i x y z he
          rw [← he] at e
          have hp : p < nt := by simpa [Nat.blt_eq] using hb
          obtain ⟨k1, k2⟩ := setPs_spec ps args _ _ tm' _ e hvs (ht.put hp hv)
          exact ⟨by simp [k1], k2⟩
      · cases e
/-- A loop's block. -/
theorem HR.loop (h : HR P σ g w) {B b : Nat} {st : Nat} {pend : Option Ex} {df nt : Nat} {tm : T Value} {ps : List Tmp} {asg body : Code} (hg : g B = some (.loop st pend df nt tm ps asg body)) (hb : σ.blk B = some b) :
    ∃ r : Loop, w.heap[b]? = some (.loop r) ∧ stR st r.state ∧ r.pending = pendC pend ∧ σ.blk df = some r.defers ∧ TmR σ nt tm r.tmps ∧ r.params.toList = ps ∧ r.assign = asg ∧ r.body = body := by
  obtain ⟨b', x, h1, h2, r, rfl, h4⟩ := h.at_ B _ hg (by simp)
  rw [hb] at h1; cases h1
  exact ⟨r, h2, h4⟩
theorem loop_set {h : H} (hr : HR P σ h.t.get w) {B b : Nat} {o : Ob} (hg : h.t.get B = some o) (hd : o ≠ .dead) (hb : σ.blk B = some b) {t : T Ob} {o' : Ob} (ht : t.get = gset h.t.get B o') {x : Obj} (hx : ObR P σ B o' x) : Out P σ h.t.get h.nx w σ t.get h.nx (w.putObj b x) := by
  have hlt : b < w.heap.size := hr.lt ⟨o, hg, hd⟩ hb
  rw [ht]
  exact hr.set h.nx hg hd hb (fun k hk => World.putObj_heap_other hk) (World.putObj_heap_same hlt) rfl rfl rfl (by simp) hx
theorem roundF_some {ev : Ev} (hev : EvS P ev) {l : Nat} {args : List Value} {h : H} {f : Value → H → Option β} {r : β} (e : roundF ev l args h f = some r) :
    ∃ v h1, f v h1 = some r ∧ Up h h1 ∧ ∀ σ w b args', σ.blk l = some b → VL σ args args' → HR P σ h.t.get w → Bd h.t.get h.nx → Free σ h.nx h1.nx → UpK P (fun v' w' => ∃ σ', VR σ' v v' ∧ Out P σ h.t.get h.nx w σ' h1.t.get h1.nx w') ((Instr.yield b ⟨args'⟩).run P w) := by
  unfold roundF at e
  split at e
  · rename_i st0 pend0 df0 nt tm ps asg body hg
    split at e
    · rename_i tm' hps
      split at e
      · rename_i x s hx
        split at e
        · obtain ⟨tm1, mk1, hq⟩ := s
          dsimp only at e hx
          split at e
          · rename_i st pend df nt1 tm1' ps1 asg1 body1 hg1
            split at e
            · obtain ⟨t2, q1, q2⟩ := setH_some e
              split at q1
              · rename_i x2 s2 hx2
                obtain ⟨tm3, mk3, h3⟩ := s2
                dsimp only at q1 hx2
                split at q1
                · rename_i st3 pend3 df3 nt3 tm3' ps3 asg3 body3 hg3
                  obtain ⟨u1, m1⟩ := hev _ _ _ _ _ _ _ hx
                  obtain ⟨u2, m2⟩ := hev _ _ _ _ _ _ _ hx2
                  have key : ∀ (st4 : Nat) (jump : Option Code) (pend4 : Option Ex) (bv : Bool) (v0 : Value) (e4 : setH h3 l (.loop st4 pend4 df3 nt3 tm3' ps3 asg3 body3) (fun h => f v0 h) = some r), v0 = .bool bv → bv = jump.isNone → jump = pendC pend4 → stR st4 (if jump.isNone then .ready else .done) → (exC x2 = .normal → jump = none) → (exC x2 = .ret → jump = some .ret) → (∀ i, exC x2 = .exit i → jump = some (.exit i)) →
                      ∃ v h1, f v h1 = some r ∧ Up h h1 ∧ ∀ σ w b args', σ.blk l = some b → VL σ args args' → HR P σ h.t.get w → Bd h.t.get h.nx → Free σ h.nx h1.nx → UpK P (fun v' w' => ∃ σ', VR σ' v v' ∧ Out P σ h.t.get h.nx w σ' h1.t.get h1.nx w') ((Instr.yield b ⟨args'⟩).run P w) := by
                    intro st4 jump pend4 bv v0 e4 hv0 hbv hj hst j1 j2 j3
                    obtain ⟨t5, q5, q6⟩ := setH_some e4
                    refine ⟨v0, _, q5, u1.trans ((Up.set hg1 q2).trans (u2.trans (Up.set hg3 q6))), fun σ w b args' hb ha hr hB hF => ?_⟩
                    obtain ⟨rec, w1, w2, w3, w4, w5, w6, w7, w8⟩ := hr.loop hg hb
                    obtain ⟨hlen, htm⟩ := setPs_spec ps args args' tm tm' rec.tmps hps ha w5
                    have hsz : (⟨args'⟩ : Array Value).size = rec.params.size := by
                      have h1 := ha.length
                      have h2 : rec.params.size = ps.length := by rw [← w6]; simp
                      simp; omega
                    rw [run_yield w1 hsz]
                    show RoundOk P b rec.fn _ rec.assign rec.body w _
                    have hfold : (rec.params.zip (⟨args'⟩ : Array Value)).foldl (fun tmps (x : Nat × Value) => match x with | (t, a) => tmps.setIfInBounds t a) rec.tmps = (ps.zip args').foldl (fun tmps (x : Tmp × Value) => tmps.setIfInBounds x.1 x.2) rec.tmps := by
                      rw [← Array.foldl_toList, Array.toList_zip, w6]
                    rw [hfold, w7, w8]
                    have hF2 : Free σ h.nx hq.nx := hF.le (Nat.le_trans (Up.set hg1 q2).nx (Nat.le_trans u2.nx (Up.set hg3 q6).nx))
                    refine roundIn_of_wpIn (F := Fence.wide) trivial ?_
                    have a1 := m1 σ w { tmps := (ps.zip args').foldl (fun tmps (x : Tmp × Value) => tmps.setIfInBounds x.1 x.2) rec.tmps, defers := [] } (some b) hr hB hF2 htm .nil (.inr ⟨l, b, rfl, rfl, hb⟩)
                    refine wpIn_mono (F := Wd (some b)) a1 ?_
                    rintro ex a' w' ⟨rfl, σ1, ho1, ht1, hm1⟩
                    have hb1 := (ho1.le _ _ hb).1
                    obtain ⟨rec1, y1, y2, y3, y4, y5, y6, y7, y8⟩ := ho1.hr.loop hg1 hb1
                    refine ⟨_, run_beginRound y1 y2, ?_⟩
                    have hset1 : Out P σ1 hq.t.get hq.nx w' σ1 t2.get hq.nx (w'.putObj b (.loop { rec1 with state := .busy })) := loop_set ho1.hr hg1 (by simp) hb1 q2 ⟨_, rfl, rfl, y3, y4, y5, y6, y7, y8⟩
                    have ho2 := ho1.trans hset1
                    have hFm : Free σ1 hq.nx h3.nx := Free.out (hF.le (Up.set hg3 q6).nx) ho1
                    have a2 := m2 σ1 _ a' (some b) hset1.hr ((Up.set hg1 q2).bd (u1.bd hB)) hFm ht1 hm1 (.inr ⟨l, b, rfl, rfl, hb1⟩)
                    refine wpIn_mono (F := Wd (some b)) a2 ?_
                    rintro ex2 a'' w'' ⟨rfl, σ3, ho3, ht3, hm3⟩
                    have hb3 := (ho3.le _ _ hb1).1
                    obtain ⟨rec3, z1, z2, z3, z4, z5, z6, z7, z8⟩ := ho3.hr.loop hg3 hb3
                    have hend := run_endRound (P := P) jump z1
                    have hset3 : Out P σ3 h3.t.get h3.nx w'' σ3 t5.get h3.nx (w''.putObj b (.loop { rec3 with state := if jump.isNone then .ready else .done, pending := jump })) := loop_set ho3.hr hg3 (by simp) hb3 q6 ⟨_, rfl, hst, hj, z4, z5, z6, z7, z8⟩
                    have fin : ∃ σ', VR σ' v0 (.bool jump.isNone) ∧ Out P σ h.t.get h.nx w σ' t5.get h3.nx (w''.putObj b (.loop { rec3 with state := if jump.isNone then .ready else .done, pending := jump })) := ⟨σ3, by rw [hv0, hbv]; exact .bool _, (ho2.trans ho3).trans hset3⟩
                    cases x2 with
                    | normal =>
                      rw [j1 rfl] at hend fin
                      exact ⟨_, _, hend, fin⟩
                    | ret =>
                      rw [j2 rfl] at hend fin
                      exact ⟨_, _, hend, fin⟩
                    | exit i =>
                      rw [j3 i rfl] at hend fin
                      exact ⟨_, _, hend, fin⟩
                  split at q1
                  · exact key 0 none none true _ q1 rfl rfl rfl rfl (fun _ => rfl) (fun h => by cases h) (fun i h => by cases h)
                  · rename_i hne
                    cases x2 with
                    | normal => exact absurd rfl hne
                    | ret => exact key 2 (some .ret) (some .ret) false _ q1 rfl rfl rfl rfl (fun h => by cases h) (fun _ => rfl) (fun i h => by cases h)
                    | exit i => exact key 2 (some (.exit i)) (some (.exit i)) false _ q1 rfl rfl rfl rfl (fun h => by cases h) (fun h => by cases h) (fun j h => by cases h; rfl)
                · cases q1
              · cases q1
            · cases e
          · cases e
        · cases e
      · cases e
    · cases e
  · cases e
/-- What an operation leads to that changes the heap, or may. -/
theorem doW_some (hE : EnvOk P E) (hN : ∀ (k : Nat) (fn : Func), P.funcs[k]? = some fn → (fn.name == "runtime.NumGoroutine") = false) {ev : Ev} (hev : EvS P ev) {eff : Eff} {h : H} {f : Value → H → Option β} {r : β} (e : doW E ev eff h f = some r) :
    ∃ v h1, f v h1 = some r ∧ Up h h1 ∧ ∀ σ w s, EffS P σ s eff → HR P σ h.t.get w → Bd h.t.get h.nx → Free σ h.nx h1.nx → UpK P (fun v' w' => ∃ σ', VR σ' v v' ∧ Out P σ h.t.get h.nx w σ' h1.t.get h1.nx w') (s.run P w) := by
  unfold doW at e
  split at e
  · rename_i n a v
    obtain ⟨h1, k1, k2, k3, k4⟩ := doStore_some (P := P) e
    refine ⟨undef, h1, k1, k2, fun σ w s hs hr hB hF => ?_⟩
    obtain ⟨b, v', hb, hv, hrun⟩ := hs
    obtain ⟨w', j1, j2, j3⟩ := k4 σ w b v' hr hb hv
    rw [hrun w j2, j1]
    exact ⟨σ, VR.undef σ, j3⟩
  · obtain ⟨v, h1, k1, k2, k3⟩ := doAppend_some (P := P) e
    refine ⟨v, h1, k1, k2, fun σ w s hs hr hB hF => ?_⟩
    obtain ⟨v', w', σ', j1, j2, j3⟩ := k3 σ w s hs hr hF
    rw [j1]
    exact ⟨σ', j2, j3⟩
  · rename_i size a m b
    obtain ⟨h1, k1, k2, k3⟩ := doCopy_some (P := P) e
    refine ⟨_, h1, k1, k2, fun σ w s hs hr hB hF => ?_⟩
    obtain ⟨w', j1, j2⟩ := k3 σ w s hs hr
    rw [j1]
    exact ⟨σ, .int _ _, j2⟩
  · obtain ⟨k1, k2⟩ := doFreeze_some (P := P) e
    refine ⟨_, h, k1, Up.refl h, fun σ w s hs hr hB hF => ?_⟩
    obtain ⟨v', w', j1, j2, j3⟩ := k2 σ w s hs hr
    rw [j2]
    exact ⟨σ, j1, j3⟩
  · obtain ⟨k1, k2⟩ := doCap_some (P := P) e
    refine ⟨_, h, k1, Up.refl h, fun σ w s hs hr hB hF => ?_⟩
    rw [k2 σ w s hs hr]
    exact ⟨σ, .int _ _, Out.refl _ hr⟩
  · obtain ⟨h1, k1, k2, k3⟩ := doUpd_some (P := P) hE e
    refine ⟨_, h1, k1, k2, fun σ w s hs hr hB hF => ?_⟩
    obtain ⟨w', j2, j3⟩ := k3 σ w s hs hr
    rw [j2]
    exact ⟨σ, VR.undef σ, j3⟩
  · obtain ⟨v, h1, k1, k2, k3⟩ := doNext_some (P := P) e
    refine ⟨v, h1, k1, k2, fun σ w s hs hr hB hF => ?_⟩
    obtain ⟨v', w', j1, j2, j3⟩ := k3 σ w s hs hr
    rw [j2]
    exact ⟨σ, j1, j3⟩
  · obtain ⟨v, h1, k1, k2, k3⟩ := doFill_some (P := P) e
    refine ⟨v, h1, k1, k2, fun σ w s hs hr hB hF => ?_⟩
    obtain ⟨v', w', j1, j2, j3⟩ := k3 σ w s hs hr
    rw [j2]
    exact ⟨σ, j1, j3⟩
  · obtain ⟨v, h1, k1, k2, k3⟩ := callF_some hE hN hev e
    refine ⟨v, h1, k1, k2, fun σ w s hs hr hB hF => ?_⟩
    obtain ⟨args', j1, j2⟩ := hs
    obtain ⟨j3, j4⟩ := k3 σ w args' j1 hr hB hF
    rw [j2 w, j3]
    exact j4
  · rename_i k agg n a args
    split at e
    · rename_i u hl
      obtain ⟨v, h1, k1, k2, k3⟩ := callF_some hE hN hev e
      refine ⟨v, h1, k1, k2, fun σ w s hs hr hB hF => ?_⟩
      obtain ⟨b, args', hb, ha, hrun⟩ := hs
      obtain ⟨u', hu, hx⟩ : ∃ u', VR σ u u' ∧ s.run P w = (callFunc k ⟨u' :: args'⟩).run P w := by
        unfold loadOb at hl
        split at hl
        · rename_i el o kk c hg
          obtain ⟨cs, fr, hw, _, _, _, hc⟩ := hr.cells hg hb
          cases agg with
          | true =>
            dsimp only at hl
            split at hl
            · rename_i l hll
              cases hl
              obtain ⟨l', m1, m2, m3, m4⟩ := loadL_spec hc _ _ _ hll
              exact ⟨.agg ⟨l'⟩, .agg m1, hrun w _ (fun _ => ⟨_, rfl, run_loads hw m3 m4⟩) (fun h => by cases h)⟩
            · cases hl
          | false =>
            dsimp only at hl
            obtain ⟨v', m1, m2⟩ := hc _ _ hl
            exact ⟨v', m2, hrun w v' (fun h => by cases h) (fun _ => cell_of hw m1)⟩
        · cases hl
      obtain ⟨j3, j4⟩ := k3 σ w (u' :: args') (.cons hu ha) hr hB hF
      rw [hx, j3]
      exact j4
    · cases e
  · obtain ⟨v, h1, k1, k2, k3⟩ := roundF_some (P := P) hev e
    refine ⟨v, h1, k1, k2, fun σ w s hs hr hB hF => ?_⟩
    obtain ⟨b, args', j1, j2, j3⟩ := hs
    rw [j3 w]
    exact k3 σ w b args' j1 j2 hr hB hF
  · cases e
theorem opF_some (hE : EnvOk P E) (hN : ∀ (k : Nat) (fn : Func), P.funcs[k]? = some fn → (fn.name == "runtime.NumGoroutine") = false) {ev : Ev} (hev : EvS P ev) {ρ : Operand → Value} {op : Op} {h : H} {f : Value → H → R} {r : Ex × St} (e : opF E ev ρ op h f = some r) :
    ∃ v h1, f v h1 = some r ∧ Up h h1 ∧ (∀ c, op ≠ .defer c) ∧ ∀ σ w ρ' (o : Oper), o.op = op → (∀ x, VR σ (ρ x) (ρ' x)) → HR P σ h.t.get w → Bd h.t.get h.nx → Free σ h.nx h1.nx → UpK P (fun v' w' => ∃ σ', VR σ' v v' ∧ Out P σ h.t.get h.nx w σ' h1.t.get h1.nx w') ((execOp ρ' o).run P w) := by
  unfold opF at e
  split at e
  · rename_i eff heff
    have hsp : ∀ σ ρ' (o : Oper), o.op = op → (∀ x, VR σ (ρ x) (ρ' x)) → EffS P σ (execOp ρ' o) eff := fun σ ρ' o ho hρ => aOp_spec hE hρ (by rw [ho]; exact heff)
    have hnd : ∀ c, op ≠ .defer c := fun c hc => by rw [hc] at heff; cases heff
    split at e
    · rename_i v
      refine ⟨v, h, e, Up.refl h, hnd, fun σ w ρ' o ho hρ hr hB hF => ?_⟩
      obtain ⟨v', j1, j2⟩ := hsp σ ρ' o ho hρ w
      rw [j1]
      exact ⟨σ, j2, Out.refl _ hr⟩
    · rename_i agg n a
      split at e
      · rename_i v hl
        refine ⟨v, h, e, Up.refl h, hnd, fun σ w ρ' o ho hρ hr hB hF => ?_⟩
        obtain ⟨v', j1, j2⟩ := load_run (hsp σ ρ' o ho hρ) hr hl
        rw [j2]
        exact ⟨σ, j1, Out.refl _ hr⟩
      · cases e
    · rename_i a n
      split at e
      · rename_i v hl
        refine ⟨v, h, e, Up.refl h, hnd, fun σ w ρ' o ho hρ hr hB hF => ?_⟩
        obtain ⟨v', j1, j2⟩ := str_run (hsp σ ρ' o ho hρ) hr hl
        rw [j2]
        exact ⟨σ, j1, Out.refl _ hr⟩
      · cases e
    · rename_i el n cs sl
      obtain ⟨t, q1, q2⟩ := Hnew_some e
      refine ⟨_, _, q1, Up.new q2, hnd, fun σ w ρ' o ho hρ hr hB hF => ?_⟩
      obtain ⟨v', w', σ', j1, j2, j3⟩ := new_run (hsp σ ρ' o ho hρ) hr (hF h.nx (Nat.le_refl _) (by show h.nx < h.nx + 1; omega))
      rw [j1]
      exact ⟨σ', j2, by rw [q2]; exact j3⟩
    · rename_i el n cs
      obtain ⟨t, q1, q2⟩ := Hnew_some e
      refine ⟨_, _, q1, Up.new q2, hnd, fun σ w ρ' o ho hρ hr hB hF => ?_⟩
      obtain ⟨v', w', σ', j1, j2, j3⟩ := newS_run (hsp σ ρ' o ho hρ) hr (hF h.nx (Nat.le_refl _) (by show h.nx < h.nx + 1; omega))
      rw [j1]
      exact ⟨σ', j2, by rw [q2]; exact j3⟩
    · obtain ⟨t, q1, q2⟩ := Hnew_some e
      refine ⟨_, _, q1, Up.new q2, hnd, fun σ w ρ' o ho hρ hr hB hF => ?_⟩
      obtain ⟨v', w', σ', j1, j2, j3⟩ := newM_run (hsp σ ρ' o ho hρ) hr (hF h.nx (Nat.le_refl _) (by show h.nx < h.nx + 1; omega))
      rw [j1]
      exact ⟨σ', j2, by rw [q2]; exact j3⟩
    · obtain ⟨t, q1, q2⟩ := Hnew_some e
      refine ⟨_, _, q1, Up.new q2, hnd, fun σ w ρ' o ho hρ hr hB hF => ?_⟩
      obtain ⟨v', w', σ', j1, j2, j3⟩ := newI_run (hsp σ ρ' o ho hρ) hr (hF h.nx (Nat.le_refl _) (by show h.nx < h.nx + 1; omega))
      rw [j1]
      exact ⟨σ', j2, by rw [q2]; exact j3⟩
    · split at e
      · rename_i v hl
        refine ⟨v, h, e, Up.refl h, hnd, fun σ w ρ' o ho hρ hr hB hF => ?_⟩
        obtain ⟨v', j1, j2⟩ := look_run hE (hsp σ ρ' o ho hρ) hr hl
        rw [j2]
        exact ⟨σ, j1, Out.refl _ hr⟩
      · cases e
    · obtain ⟨v, h1, k1, k2, k3⟩ := doW_some hE hN hev e
      exact ⟨v, h1, k1, k2, hnd, fun σ w ρ' o ho hρ hr hB hF => k3 σ w _ (hsp σ ρ' o ho hρ) hr hB hF⟩
  · cases e
end
end Go.Proofs.YtlhkaoccnpgkeaaGreat.Ev

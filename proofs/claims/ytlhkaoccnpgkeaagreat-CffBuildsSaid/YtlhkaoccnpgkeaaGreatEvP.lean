/- eval: a region that draws its order: what has been worked out, operation by operation. -/
import Derived.Test.YtlhkaoccnpgkeaaGreatEvO
namespace Go.Proofs.YtlhkaoccnpgkeaaGreat.Ev
open Go
set_option linter.unusedVariables false
set_option linter.unusedSimpArgs false
variable {α : Type} {β : Type}
/-- What was kept ahead of each change. -/
inductive HistR (g0 : G) : List (Nat × T Ob) → List Rec → Prop
  | nil : HistR g0 [] []
  | other {hist : List (Nat × T Ob)} {p : List Rec} {r : Rec} (h : HistR g0 hist p) (hr : ¬ r.isW) : HistR g0 hist (p ++ [r])
  | wr {hist : List (Nat × T Ob)} {p : List Rec} {r : Rec} {t : T Ob} (h : HistR g0 hist p) (hw : r.isW) (ht : t.get = gOf p All g0) : HistR g0 ((r.i, t) :: hist) (p ++ [r])
theorem split_snoc {γ : Type} {p p1 p2 : List γ} {r c : γ} (h : p ++ [r] = p1 ++ c :: p2) : (p2 = [] ∧ c = r ∧ p1 = p) ∨ ∃ p2', p2 = p2' ++ [r] ∧ p = p1 ++ c :: p2' := by
  rcases List.eq_nil_or_concat p2 with rfl | ⟨p2', x, rfl⟩
  · left
    have := List.append_inj' h rfl
    obtain ⟨h1, h2⟩ := this
    cases h2
    exact ⟨rfl, rfl, h1.symm⟩
  · right
    rw [List.concat_eq_append] at h ⊢
    have h : p ++ [r] = (p1 ++ c :: p2') ++ [x] := by simpa using h
    obtain ⟨h1, h2⟩ := List.append_inj' h rfl
    cases h2
    exact ⟨p2', rfl, h1⟩
theorem histOk_spec {g0 : G} {ai B : Nat} {ld : Option Ob → Option Value} {v : Value} {hist : List (Nat × T Ob)} {p : List Rec} (h : HistR g0 hist p) : histOk ai B ld v hist = true → ∀ p1 c p2, p = p1 ++ c :: p2 → c.isW → (∀ c' ∈ c :: p2, c'.isW → ai.testBit c'.i = false) → ∃ ob, gOf p1 All g0 B = some ob ∧ ld (some ob) = some v := by
  induction h with
  | nil =>
    intro _ p1 c p2 e
    simp at e
  | other h hr ih =>
    intro hk p1 c p2 e hc hall
    rcases split_snoc e with ⟨_, rfl, _⟩ | ⟨p2', rfl, e2⟩
    · exact absurd hc hr
    · exact ih hk p1 c p2' e2 hc (fun c' hc' => hall c' (by
        rcases List.mem_cons.1 hc' with rfl | h
        · simp
        · simp [h]))
  | wr h hw ht ih =>
    rename_i hist p r t
    intro hk p1 c p2 e hc hall
    have hrw : ∀ (hw : r.isW) (hm : r ∈ c :: p2), ∃ o, t.get B = some o ∧ ∃ u, ld (some o) = some u ∧ eqV u v = true ∧ histOk ai B ld v hist = true := by
      intro hw hm
      have hf := hall r hm hw
      simp only [histOk] at hk
      rw [hf] at hk
      dsimp only at hk
      split at hk
      · rename_i o ho
        split at hk
        · rename_i u hu
          simp only [Bool.and_eq_true] at hk
          exact ⟨o, ho, u, hu, hk.1, hk.2⟩
        · cases hk
      · cases hk
    rcases split_snoc e with ⟨rfl, rfl, rfl⟩ | ⟨p2', rfl, e2⟩
    · obtain ⟨o, h1, u, h2, h3, _⟩ := hrw hc (by simp)
      exact ⟨o, by rw [← ht]; exact h1, by rw [h2, eqV_true h3]⟩
    · obtain ⟨o, h1, u, h2, h3, h4⟩ := hrw hw (by simp)
      exact ih h4 p1 c p2' e2 hc (fun c' hc' => hall c' (by
        rcases List.mem_cons.1 hc' with rfl | h
        · simp
        · simp [h]))
/-- What is known of an operation that has been worked out behind those of p. -/
inductive LS (P : Program) (g0 : G) (p : List Rec) (r : Rec) (o : Oper) (ai : Nat) (ρ : Operand → Value) : Prop
  | val (hk : r.k = .pure) (h : ∀ (σ : Sg) (w : World) (ρ' : Operand → Value), (∀ x, VR σ (ρ x) (ρ' x)) → ∃ v', VR σ r.v v' ∧ (execOp ρ' o).run P w = .ok (.value v') w)
  | load (hk : r.k = .pure) (B : Nat) (A : Ob → Prop) (hb : ∀ (σ : Sg) (ρ' : Operand → Value), (∀ x, VR σ (ρ x) (ρ' x)) → σ.blk B ≠ none)
      (h : ∀ (σ : Sg) (w : World) (ρ' : Operand → Value) (g : G), (∀ x, VR σ (ρ x) (ρ' x)) → HR P σ g w → (∃ ob, g B = some ob ∧ A ob) → ∃ v', VR σ r.v v' ∧ (execOp ρ' o).run P w = .ok (.value v') w)
      (h1 : ∃ ob, gOf p All g0 B = some ob ∧ A ob)
      (h2 : ∀ (p1 : List Rec) (c : Rec) (p2 : List Rec), p = p1 ++ c :: p2 → c.isW → (∀ c' ∈ c :: p2, c'.isW → ai.testBit c'.i = false) → ∃ ob, gOf p1 All g0 B = some ob ∧ A ob)
  | new (ob : Ob) (hk : r.k = .new ob) (hhi : r.hi = r.lo + 1) (h : ∀ (σ : Sg) (w : World) (ρ' : Operand → Value) (g : G), (∀ x, VR σ (ρ x) (ρ' x)) → HR P σ g w → σ.blk r.lo = none → ∃ v' w' σ', (execOp ρ' o).run P w = .ok (.value v') w' ∧ VR σ' r.v v' ∧ Out P σ g r.lo w σ' (gset g r.lo ob) (r.lo + 1) w')
  | wr (g' : G) (hk : r.k = .wr g') (ha : ∀ r' ∈ p, ai.testBit r'.i = true)
      (h : ∀ (σ : Sg) (w : World) (ρ' : Operand → Value), (∀ x, VR σ (ρ x) (ρ' x)) → HR P σ (gOf p All g0) w → Bd (gOf p All g0) r.lo → Free σ r.lo r.hi → UpK P (fun v' w' => ∃ σ', VR σ' r.v v' ∧ Out P σ (gOf p All g0) r.lo w σ' g' r.hi w') ((execOp ρ' o).run P w))
def Kd.app (k : Kd) (lo : Nat) (g : G) : G := match k with
  | .pure => g
  | .new o => gset g lo o
  | .wr g' => g'
theorem drOp_some {P : Program} {E : Env} (hE : EnvOk P E) (hN : ∀ (k : Nat) (fn : Func), P.funcs[k]? = some fn → (fn.name == "runtime.NumGoroutine") = false) {ev : Ev} (hev : EvS P ev) {ρ : Operand → Value} {op : Op} {ai done : Nat} {hist : List (Nat × T Ob)} {h : H} {f : Bool → Value → H → R} {rr : Ex × St} (e : drOp E ev ρ op ai done hist h f = some rr) :
    ∃ wb v h1 k, f wb v h1 = some rr ∧ Up h h1 ∧ (∀ c, op ≠ .defer c) ∧ h1.t.get = k.app h.nx h.t.get ∧ (wb = true ↔ ∃ g, k = .wr g) ∧
      ∀ (g0 : G) (p : List Rec) (r : Rec) (o : Oper), o.op = op → r.v = v → r.k = k → r.lo = h.nx → r.hi = h1.nx → h.t.get = gOf p All g0 → HistR g0 hist p → (∀ j, done.testBit j = true ↔ ∃ r' ∈ p, r'.i = j) → LS P g0 p r o ai ρ := by
  unfold drOp at e
  split at e
  · rename_i eff heff
    have hsp : ∀ σ ρ' (o : Oper), o.op = op → (∀ x, VR σ (ρ x) (ρ' x)) → EffS P σ (execOp ρ' o) eff := fun σ ρ' o ho hρ => aOp_spec hE hρ (by rw [ho]; exact heff)
    have hnd : ∀ c, op ≠ .defer c := fun c hc => by rw [hc] at heff; cases heff
    split at e
    · rename_i v
      refine ⟨false, v, h, .pure, e, Up.refl h, hnd, rfl, by simp, ?_⟩
      intro g0 p r o ho hv hk hlo hhi hg hH hd
      refine .val hk fun σ w ρ' hρ => ?_
      obtain ⟨v', j1, j2⟩ := hsp σ ρ' o ho hρ w
      exact ⟨v', by rw [hv]; exact j2, j1⟩
    · rename_i agg n a
      split at e
      · rename_i v hl
        split at e
        · rename_i hho
          refine ⟨false, v, h, .pure, e, Up.refl h, hnd, rfl, by simp, ?_⟩
          intro g0 p r o ho hv hk hlo hhi hg hH hd
          have hob : ∀ x, loadOb x agg n a = some v → ∃ ob, x = some ob := fun x hx => by
            cases x with
            | none => simp [loadOb, no] at hx
            | some ob => exact ⟨ob, rfl⟩
          refine .load hk a.block (fun ob => loadOb (some ob) agg n a = some v) (fun σ ρ' hρ => ?_) (fun σ w ρ' g hρ hr hA => ?_) ?_ ?_
          · obtain ⟨b, hb, _⟩ := hsp σ ρ' o ho hρ
            rw [hb]; simp
          · obtain ⟨ob, h1, h2⟩ := hA
            obtain ⟨v', j1, j2⟩ := load_run (hsp σ ρ' o ho hρ) hr (by rw [h1]; exact h2)
            exact ⟨v', by rw [hv]; exact j1, j2⟩
          · obtain ⟨ob, hob⟩ := hob _ hl
            exact ⟨ob, by rw [← hg]; exact hob, by rw [← hob]; exact hl⟩
          · exact histOk_spec hH hho
        · cases e
      · cases e
    · rename_i a n
      split at e
      · rename_i v hl
        split at e
        · rename_i hho
          refine ⟨false, v, h, .pure, e, Up.refl h, hnd, rfl, by simp, ?_⟩
          intro g0 p r o ho hv hk hlo hhi hg hH hd
          have hob : ∀ x, strOb x n a = some v → ∃ ob, x = some ob := fun x hx => by
            cases x with
            | none => simp [strOb, no] at hx
            | some ob => exact ⟨ob, rfl⟩
          refine .load hk a.block (fun ob => strOb (some ob) n a = some v) (fun σ ρ' hρ => ?_) (fun σ w ρ' g hρ hr hA => ?_) ?_ ?_
          · obtain ⟨b, c, hb, _⟩ := hsp σ ρ' o ho hρ
            rw [hb]; simp
          · obtain ⟨ob, h1, h2⟩ := hA
            obtain ⟨v', j1, j2⟩ := str_run (hsp σ ρ' o ho hρ) hr (by rw [h1]; exact h2)
            exact ⟨v', by rw [hv]; exact j1, j2⟩
          · obtain ⟨ob, hob⟩ := hob _ hl
            exact ⟨ob, by rw [← hg]; exact hob, by rw [← hob]; exact hl⟩
          · exact histOk_spec hH hho
        · cases e
      · cases e
    · rename_i el n cs sl
      obtain ⟨t, q1, q2⟩ := Hnew_some e
      refine ⟨false, _, _, .new (.cells el false n (T.ofList cs)), q1, Up.new q2, hnd, q2, by simp, ?_⟩
      intro g0 p r o ho hv hk hlo hhi hg hH hd
      refine .new _ hk (by rw [hhi, hlo]) fun σ w ρ' g hρ hr hB => ?_
      rw [hlo] at hB ⊢
      obtain ⟨v', w', σ', j1, j2, j3⟩ := new_run (hsp σ ρ' o ho hρ) hr hB
      exact ⟨v', w', σ', j1, by rw [hv]; exact j2, j3⟩
    · rename_i el n cs
      obtain ⟨t, q1, q2⟩ := Hnew_some e
      refine ⟨false, _, _, .new (.cells el true n (T.ofList cs)), q1, Up.new q2, hnd, q2, by simp, ?_⟩
      intro g0 p r o ho hv hk hlo hhi hg hH hd
      refine .new _ hk (by rw [hhi, hlo]) fun σ w ρ' g hρ hr hB => ?_
      rw [hlo] at hB ⊢
      obtain ⟨v', w', σ', j1, j2, j3⟩ := newS_run (hsp σ ρ' o ho hρ) hr hB
      exact ⟨v', w', σ', j1, by rw [hv]; exact j2, j3⟩
    · obtain ⟨t, q1, q2⟩ := Hnew_some e
      refine ⟨false, _, _, .new (.map []), q1, Up.new q2, hnd, q2, by simp, ?_⟩
      intro g0 p r o ho hv hk hlo hhi hg hH hd
      refine .new _ hk (by rw [hhi, hlo]) fun σ w ρ' g hρ hr hB => ?_
      rw [hlo] at hB ⊢
      obtain ⟨v', w', σ', j1, j2, j3⟩ := newM_run (hsp σ ρ' o ho hρ) hr hB
      exact ⟨v', w', σ', j1, by rw [hv]; exact j2, j3⟩
    · rename_i str
      obtain ⟨t, q1, q2⟩ := Hnew_some e
      refine ⟨false, _, _, .new (.iter str 0), q1, Up.new q2, hnd, q2, by simp, ?_⟩
      intro g0 p r o ho hv hk hlo hhi hg hH hd
      refine .new _ hk (by rw [hhi, hlo]) fun σ w ρ' g hρ hr hB => ?_
      rw [hlo] at hB ⊢
      obtain ⟨v', w', σ', j1, j2, j3⟩ := newI_run (hsp σ ρ' o ho hρ) hr hB
      exact ⟨v', w', σ', j1, by rw [hv]; exact j2, j3⟩
    · rename_i kt B ky z ok
      split at e
      · rename_i v hl
        split at e
        · rename_i hho
          refine ⟨false, v, h, .pure, e, Up.refl h, hnd, rfl, by simp, ?_⟩
          intro g0 p r o ho hv hk hlo hhi hg hH hd
          have hob : ∀ x, lookOb E kt ky z ok x = some v → ∃ ob, x = some ob := fun x hx => by
            cases x with
            | none => simp [lookOb, no] at hx
            | some ob => exact ⟨ob, rfl⟩
          refine .load hk B (fun ob => lookOb E kt ky z ok (some ob) = some v) (fun σ ρ' hρ => ?_) (fun σ w ρ' g hρ hr hA => ?_) ?_ ?_
          · obtain ⟨_, b, z', hb, _⟩ := hsp σ ρ' o ho hρ
            rw [hb]; simp
          · obtain ⟨ob, h1, h2⟩ := hA
            obtain ⟨v', j1, j2⟩ := look_run hE (hsp σ ρ' o ho hρ) hr (by rw [h1]; exact h2)
            exact ⟨v', by rw [hv]; exact j1, j2⟩
          · obtain ⟨ob, hob⟩ := hob _ hl
            exact ⟨ob, by rw [← hg]; exact hob, by rw [← hob]; exact hl⟩
          · exact histOk_spec hH hho
        · cases e
      · cases e
    · split at e
      · rename_i hai
        obtain ⟨v, h1, k1, k2, k3⟩ := doW_some hE hN hev e
        refine ⟨true, v, h1, .wr h1.t.get, k1, k2, hnd, rfl, by simp, ?_⟩
        intro g0 p r o ho hv hk hlo hhi hg hH hd
        have hai' : ai = done := Nat.eq_of_beq_eq_true hai
        refine .wr _ hk (fun r' hr' => by rw [hai', hd]; exact ⟨r', hr', rfl⟩) fun σ w ρ' hρ hr hB hF => ?_
        rw [← hg, hlo] at *
        rw [hhi] at hF
        rw [hv, hhi]
        exact k3 σ w _ (hsp σ ρ' o ho hρ) hr hB hF
      · cases e
  · cases e
end Go.Proofs.YtlhkaoccnpgkeaaGreat.Ev

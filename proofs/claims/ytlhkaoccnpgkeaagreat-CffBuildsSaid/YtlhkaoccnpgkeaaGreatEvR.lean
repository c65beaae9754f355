/- eval: a region that draws its order: each operation, whatever has been done before it. -/
import Derived.Test.YtlhkaoccnpgkeaaGreatEvQ
namespace Go.Proofs.YtlhkaoccnpgkeaaGreat.Ev
open Go
set_option linter.unusedVariables false
set_option linter.unusedSimpArgs false
variable {α : Type} {β : Type}
/-- What holds when the operations L have been done. -/
structure RI (P : Program) (all : List Oper) (nt : Nat) (σ0 : Sg) (g0 : G) (t0 : Nat → Value) (w0 : World) (ds : List Deferred) (tr : List Rec) (L : Nat → Prop) (a : Act) (w : World) (σ : Sg) : Prop where
  out : Out0 P σ0 g0 w0 σ (gOf tr L g0) w
  ids : ∀ B, σ.blk B ≠ none → σ0.blk B ≠ none ∨ ∃ r ∈ tr, L r.i ∧ r.lo ≤ B ∧ B < r.hi
  size : a.tmps.size = nt
  tm : ∀ t, VR σ (tOf tr L t0 t) (a.tmps.getD t undef)
  cl : ∀ i, L i → ∀ ai, (ancs all [])[i]? = some ai → ∀ j, ai.testBit j = true → L j
  ds : a.defers = ds
theorem noDup_spec : ∀ {l : List Nat}, noDup l = true → l.Nodup
  | [], _ => List.nodup_nil
  | a :: l, h => by
    simp only [noDup, Bool.and_eq_true, Bool.not_eq_true'] at h
    rw [List.nodup_cons]
    refine ⟨fun hm => ?_, noDup_spec h.2⟩
    have h1 := h.1
    rw [← Bool.not_eq_true, List.elem_eq_mem, decide_eq_true_eq] at h1
    exact h1 hm
theorem dst_inj : ∀ (l : List Oper), (l.filterMap (·.dst)).Nodup → ∀ (i j : Nat) (o o' : Oper) (t : Nat), l[i]? = some o → l[j]? = some o' → o.dst = some t → o'.dst = some t → i = j
  | [], _, i, j, o, o', t, h, _, _, _ => by simp at h
  | x :: l, hn, i, j, o, o', t, h1, h2, h3, h4 => by
    have hn' : (l.filterMap (·.dst)).Nodup := by
      rw [List.filterMap_cons] at hn
      split at hn
      · exact hn
      · exact (List.nodup_cons.1 hn).2
    have hx : ∀ (y : Oper) (k : Nat), x.dst = some t → l[k]? = some y → y.dst = some t → False := fun y k hx hy hy2 => by
      rw [List.filterMap_cons, hx] at hn
      exact (List.nodup_cons.1 hn).1 (List.mem_filterMap.2 ⟨y, List.mem_of_getElem? hy, hy2⟩)
    cases i with
    | zero =>
      cases j with
      | zero => rfl
      | succ j =>
        simp at h1 h2
        subst h1
        exact (hx o' j h3 h2 h4).elim
    | succ i =>
      cases j with
      | zero =>
        simp at h1 h2
        subst h2
        exact (hx o i h4 h1 h3).elim
      | succ j =>
        simp at h1 h2
        rw [dst_inj l hn' i j o o' t h1 h2 h3 h4]
theorem drOk_spec {all : List Oper} (h : drOk all (ancs all []) = true) : (all.filterMap (·.dst)).Nodup ∧ ∀ (i : Nat) (o : Oper), all[i]? = some o → depsOk all (ancs all []) i o = true ∧ guardOk all (ancs all []) i o = true ∧ edgesOk i o = true := by
  unfold drOk at h
  rw [Bool.and_eq_true] at h
  refine ⟨noDup_spec h.1, fun i o ho => ?_⟩
  have hi : i < all.length := (List.getElem?_eq_some_iff.1 ho).1
  have h2 := List.all_eq_true.1 h.2 i (by simpa using hi)
  rw [nth_eq, ho] at h2
  simp only [Bool.and_eq_true] at h2
  exact ⟨h2.1.1, h2.1.2, h2.2⟩
section
variable {P : Program} {all : List Oper} {nt : Nat} {σ0 : Sg} {g0 : G} {nx0 nxE : Nat} {t0 : Nat → Value} {w0 : World} {ds : List Deferred} {tr : List Rec}
/-- A slot that an operation looks at holds what it held when the region was worked out. -/
theorem slot_eq (htr : TrOk P all nt g0 nx0 t0 tr) (hdr : drOk all (ancs all []) = true) {L : Nat → Prop} (hcl : ∀ i, L i → ∀ ai, (ancs all [])[i]? = some ai → ∀ j, ai.testBit j = true → L j)
    {p q : List Rec} {r : Rec} (e : tr = p ++ r :: q) {o : Oper} {ai : Nat} {tm : T Value} {b : Bool} (k : SF P all nt g0 nx0 t0 p r o ai tm b) (hn : ¬ L r.i) (hready : ∀ j, ai.testBit j = true → L j) {t : Nat}
    (hdep : ∀ j oj aj, all[j]? = some oj → (ancs all [])[j]? = some aj → oj.dst = some t → ai.testBit j = true ∨ aj.testBit r.i = true ∨ r.i = j) : tOf tr L t0 t = tOf p All t0 t := by
  subst e
  have hu := (drOk_spec hdr).1
  by_cases hex : ∃ r' ∈ p ++ r :: q, r'.dst = some t
  · obtain ⟨r', hr', hd⟩ := hex
    obtain ⟨p', q', e'⟩ := List.append_of_mem hr'
    obtain ⟨o', ai', tm', b', k'⟩ := htr.split p' r' q' e'
    have huniq : ∀ r2 ∈ p ++ r :: q, r2.dst = some t → r2 = r' := by
      intro r2 hr2 hd2
      obtain ⟨p2, q2, e2⟩ := List.append_of_mem hr2
      obtain ⟨o2, ai2, tm2, b2, k2⟩ := htr.split p2 r2 q2 e2
      exact htr.uniq hr2 hr' (dst_inj all hu _ _ o2 o' t k2.at_ k'.at_ (by rw [← k2.dst]; exact hd2) (by rw [← k'.dst]; exact hd))
    have hyes : L r'.i → r' ∈ p → tOf (p ++ r :: q) L t0 t = tOf p All t0 t := fun h1 h2 => by
      rw [tOf_yes _ _ hr' h1 hd huniq, tOf_yes p _ h2 trivial hd (fun r2 h3 h4 => huniq r2 (by simp [h3]) h4)]
    have hno : ¬ L r'.i → r' ∉ p → tOf (p ++ r :: q) L t0 t = tOf p All t0 t := fun h1 h2 => by
      rw [tOf_no _ _ (fun r2 h3 h4 => by rw [huniq r2 h3 h4]; exact h1), tOf_no p _ (fun r2 h3 h4 => by
        have := huniq r2 (by simp [h3]) h4
        rw [this] at h3
        exact absurd h3 h2)]
    rcases hdep r'.i o' ai' k'.at_ k'.at_a (by rw [← k'.dst]; exact hd) with h | h | h
    · obtain ⟨r2, h2, h3⟩ := k.anc _ h
      have := htr.uniq (by simp [h2]) hr' h3
      rw [this] at h2
      exact hyes (hready _ h) h2
    · refine hno (fun hL => hn (hcl _ hL ai' k'.at_a _ h)) (fun hp => ?_)
      obtain ⟨p1, p2, rfl⟩ := List.append_of_mem hp
      have e3 : (p1 ++ r' :: p2) ++ r :: q = p1 ++ r' :: (p2 ++ r :: q) := by simp
      obtain ⟨o3, ai3, tm3, b3, k3⟩ := htr.split p1 r' (p2 ++ r :: q) e3
      have ea : ai3 = ai' := by
        have h1 := k3.at_a
        rw [k'.at_a] at h1
        exact (Option.some.inj h1).symm
      obtain ⟨r4, h4, h5⟩ := k3.anc r.i (by rw [ea]; exact h)
      exact k.fresh r4 (by simp [h4]) h5
    · have : r = r' := htr.uniq (by simp) hr' h
      subst this
      exact hno hn (fun hp => k.fresh r hp rfl)
  · have h1 : ∀ r' ∈ p ++ r :: q, r'.dst = some t → False := fun r' h2 h3 => hex ⟨r', h2, h3⟩
    rw [tOf_no _ _ (fun r' h2 h3 => (h1 r' h2 h3).elim), tOf_no p _ (fun r' h2 h3 => (h1 r' (by simp [h2]) h3).elim)]
theorem memN_spec {n : Nat} : ∀ {l : List Nat}, memN n l = true → n ∈ l
  | [], h => by cases h
  | a :: l, h => by
    simp only [memN] at h
    split at h
    · rename_i e
      rw [Nat.beq_eq] at e
      simp [e]
    · simp [memN_spec h]
/-- The first change of p that has not been made. -/
theorem first_not {L : Nat → Prop} : ∀ (p : List Rec), (∀ r ∈ p, r.isW → L r.i) ∨ ∃ p1 c p2, p = p1 ++ c :: p2 ∧ c.isW ∧ ¬ L c.i ∧ ∀ r ∈ p1, r.isW → L r.i
  | [] => .inl (by simp)
  | r :: p => by
    by_cases h : r.isW ∧ ¬ L r.i
    · exact .inr ⟨[], r, p, rfl, h.1, h.2, by simp⟩
    · have h' : r.isW → L r.i := fun hw => Classical.byContradiction fun hn => h ⟨hw, hn⟩
      rcases first_not (L := L) p with h1 | ⟨p1, c, p2, rfl, h2, h3, h4⟩
      · refine .inl fun x hx => ?_
        rcases List.mem_cons.1 hx with rfl | hx
        · exact h'
        · exact h1 x hx
      · refine .inr ⟨r :: p1, c, p2, rfl, h2, h3, fun x hx => ?_⟩
        rcases List.mem_cons.1 hx with rfl | hx
        · exact h'
        · exact h4 x hx
theorem Bd.none {g : G} {n B : Nat} (h : Bd g n) (hB : n ≤ B) : g B = none := by
  cases hg : g B with
  | none => rfl
  | some o =>
    have := h B (by rw [hg]; simp)
    omega
theorem isW_yes {p : List Rec} {r : Rec} {o : Oper} {ai : Nat} {tm : T Value} {b : Bool} (k : SF P all nt g0 nx0 t0 p r o ai tm b) (hw : r.isW) : ∀ r' ∈ p, ai.testBit r'.i = true := by
  obtain ⟨g, hg⟩ := hw
  cases b with
  | false =>
    rw [(k.no rfl).2] at hg; cases hg
  | true =>
    cases (k.yes rfl).2 with
    | val hk h => rw [hk] at hg; cases hg
    | load hk B A hb h h1 h2 => rw [hk] at hg; cases hg
    | new ob hk hhi h => rw [hk] at hg; cases hg
    | wr g' hk ha h => exact ha
theorem isN_hi {p : List Rec} {r : Rec} {o : Oper} {ai : Nat} {tm : T Value} {b : Bool} (k : SF P all nt g0 nx0 t0 p r o ai tm b) {ob : Ob} (hw : r.isN ob) : r.hi = r.lo + 1 := by
  have hg : r.k = .new ob := hw
  cases b with
  | false =>
    rw [(k.no rfl).2] at hg; cases hg
  | true =>
    cases (k.yes rfl).2 with
    | val hk h => rw [hk] at hg; cases hg
    | load hk B A hb h h1 h2 => rw [hk] at hg; cases hg
    | new ob hk hhi h => exact hhi
    | wr g' hk ha h => rw [hk] at hg; cases hg
theorem wr_later (htr : TrOk P all nt g0 nx0 t0 tr) {L : Nat → Prop} (hcl : ∀ i, L i → ∀ ai, (ancs all [])[i]? = some ai → ∀ j, ai.testBit j = true → L j) {p q : List Rec} {c c' : Rec} (e : tr = p ++ c :: q) (hc' : c' ∈ q) (hw : c'.isW) (hL : L c'.i) : L c.i := by
  subst e
  obtain ⟨q1, o, ai, tm, b, k⟩ := htr.later hc'
  exact hcl _ hL ai k.at_a _ (isW_yes k hw c (by simp))
/-- What a block held ahead of a change that has not been made, it holds still. -/
theorem base_at (htr : TrOk P all nt g0 nx0 t0 tr) (hBd : Bd g0 nx0) {L : Nat → Prop} (hcl : ∀ i, L i → ∀ ai, (ancs all [])[i]? = some ai → ∀ j, ai.testBit j = true → L j) {p q : List Rec} {c : Rec} (e : tr = p ++ c :: q) (hn : ¬ L c.i) {B : Nat} {ob : Ob}
    (hB : gOf p All g0 B = some ob) (hw : ∀ r ∈ p, r.isW → L r.i) (hnews : ∀ r ∈ p, ∀ o, r.isN o → r.lo = B → L r.i) : gOf tr L g0 B = some ob := by
  obtain ⟨o, ai, tm, b, k⟩ := htr.split p c q e
  have hlt : B < c.lo := k.bd hBd B (by rw [hB]; simp)
  rw [e, gOf_append, gOf_skip (c :: q)]
  · rw [gOf_eq p g0 g0 hw hnews rfl, hB]
  · intro r hr hwr hL
    rcases List.mem_cons.1 hr with rfl | hr
    · exact hn hL
    · exact hn (wr_later htr hcl e hr hwr hL)
  · intro r hr o hN
    rcases List.mem_cons.1 hr with rfl | hr
    · omega
    · have := htr
      rw [e] at this
      have h1 := this.later_ne hr
      have h2 := k.hi
      omega
theorem tOf_add {L L' : Nat → Prop} {t : Nat} : ∀ (q : List Rec) (f f' : Nat → Value), f t = f' t → (∀ r ∈ q, r.dst = some t → (L r.i ↔ L' r.i)) → tOf q L f t = tOf q L' f' t
  | [], f, f', h, _ => h
  | r :: q, f, f', h, hq => by
    simp only [tOf]
    refine tOf_add q _ _ ?_ (fun x hx => hq x (by simp [hx]))
    by_cases hd : r.dst = some t
    · have := hq r (by simp) hd
      by_cases hL : L r.i
      · rw [if_pos hL, if_pos (this.1 hL)]
        simp [Rec.upd, hd]
      · rw [if_neg hL, if_neg (fun x => hL (this.2 x))]
        exact h
    · have h1 : ∀ f : Nat → Value, r.upd f t = f t := fun f => by simp [Rec.upd, hd]
      split <;> split <;> (try simp only [h1]) <;> exact h
theorem getD_put (a : Act) (d : Option Tmp) (v : Value) (t : Nat) (hd : ∀ x, d = some x → x < a.tmps.size) : (a.put d v).tmps.getD t undef = if d = some t then v else a.tmps.getD t undef := by
  cases d with
  | none => simp [Act.put]
  | some x =>
    show (a.tmps.setIfInBounds x v).getD t undef = _
    by_cases e : x = t
    · subst e
      rw [if_pos rfl, Array.getD_eq_getD_getElem?, Array.getElem?_setIfInBounds_self_of_lt (hd x rfl)]
      rfl
    · rw [if_neg (fun h => e (Option.some.inj h)), Array.getD_eq_getD_getElem?, Array.getElem?_setIfInBounds_ne e, Array.getD_eq_getD_getElem?]
theorem RI.step (htr : TrOk P all nt g0 nx0 t0 tr) (hall : ∀ j, j < all.length → ∃ r ∈ tr, r.i = j) (hdr : drOk all (ancs all []) = true) (hF : Free σ0 nx0 nxE) (hhi : ∀ r ∈ tr, r.hi ≤ nxE) (hBd : Bd g0 nx0) {L : Nat → Prop} {a : Act} {w : World} {σ : Sg}
    (hI : RI P all nt σ0 g0 t0 w0 ds tr L a w σ) {j : Nat} {o : Oper} (ho : all.toArray[j]? = some o) (hn : ¬ L j) (hedge : ∀ e ∈ o.after, Region.binds .any e = true → L e.on) {ro : Option Nat} {Q : Exit → Act → World → Prop} :
    wpOpIn (Wd ro) 0 P all.toArray Q j (fun a' w' => ∃ σ', RI P all nt σ0 g0 t0 w0 ds tr (fun k => k = j ∨ L k) a' w' σ') a w := by
  have ho' : all[j]? = some o := by simpa using ho
  have hj : j < all.length := (List.getElem?_eq_some_iff.1 ho').1
  obtain ⟨rec, hrec, hrj⟩ := hall j hj
  obtain ⟨p, q, e⟩ := List.append_of_mem hrec
  obtain ⟨o2, ai, tm, b, k⟩ := htr.split p rec q e
  have ho2 : o2 = o := by
    have := k.at_
    rw [hrj, ho'] at this
    exact (Option.some.inj this).symm
  subst ho2
  have hn' : ¬ L rec.i := by rw [hrj]; exact hn
  obtain ⟨hnd, hok⟩ := drOk_spec hdr
  obtain ⟨hdeps, hgok, hedges⟩ := hok j o2 ho'
  have hready : ∀ x, ai.testBit x = true → L x := fun x hx => by
    obtain ⟨ed, h1, h2, h3⟩ := ancs_bits k.at_ k.at_a hx
    have h4 : L ed.on := hedge ed (by simpa using h1) h2
    rcases h3 with h | ⟨a', h5, h6⟩
    · rw [← h]; exact h4
    · exact hI.cl _ h4 a' h5 _ h6
  have haj : (ancs all [])[j]? = some ai := by rw [← hrj]; exact k.at_a
  -- the guard
  have hguard : Region.wanted o2 (yielded all.toArray a.tmps) = b := by
    refine guard_run (σ := σ) k.guard (fun jj bb oj d h1 h2 h3 => ?_)
    have hs := slot_eq htr hdr hI.cl e k hn' hready (t := d) (fun j' oj' aj' g1 g2 g3 => by
      have ej : j' = jj := dst_inj all hnd _ _ _ _ d g1 h2 g3 h3
      subst ej
      left
      unfold guardOk at hgok
      rw [h1] at hgok
      dsimp only at hgok
      rw [nth_eq, nth_eq, haj, h2] at hgok
      simp only [Bool.and_eq_true] at hgok
      exact hgok.1)
    rw [k.tms, ← hs]
    exact hI.tm d
  -- what it looks at
  have hρ : ∀ x, VR σ (evalR tm (tmpsOf o2.op) x) (a.eval x) := by
    intro x
    cases x with
    | tmp t =>
      simp only [evalR]
      split
      · rename_i hmem
        have hm := memN_spec hmem
        have hs := slot_eq htr hdr hI.cl e k hn' hready (t := t) (fun j' oj' aj' g1 g2 g3 => by
          have hjl : j' < all.length := (List.getElem?_eq_some_iff.1 g1).1
          unfold depsOk at hdeps
          have h1 := List.all_eq_true.1 (List.all_eq_true.1 hdeps t hm) j' (by simpa using hjl)
          rw [nth_eq, nth_eq, nth_eq, g1, g2, haj] at h1
          dsimp only at h1
          have hdi : dstIs oj' t = true := by
            unfold dstIs
            rw [g3]
            exact Nat.beq_refl t
          rw [hdi] at h1
          simp only [Bool.not_true, Bool.false_or, Bool.or_eq_true, Nat.beq_eq] at h1
          rw [hrj]
          rcases h1 with (h | h) | h
          · exact .inl h
          · exact .inr (.inl h)
          · exact .inr (.inr h))
        show VR σ (tmGet tm t) _
        rw [k.tms, ← hs]
        exact hI.tm t
      · exact .top _
    | const v =>
      show VR σ (match grA v with | true => v | false => Ev.top) v
      cases hg : grA v with
      | true => exact .grA hg
      | false => exact .top _
    | global g => exact .top _
    | func f => exact .func f .nil .nil
  -- who is done
  have hp : ∀ r' ∈ p, r'.i ≠ j := fun r' h1 h2 => k.fresh r' h1 (by rw [hrj, h2])
  have hq : ∀ r' ∈ q, r'.i ≠ j := fun r' h1 h2 => by
    have h3 := htr
    rw [e] at h3
    exact (h3.later_ne h1).1 (by rw [hrj, h2])
  have hgL : gOf tr L g0 = gOf q L (gOf p L g0) := by
    rw [e, gOf_append]
    simp only [gOf]
    rw [if_neg hn']
  have hgL' : gOf tr (fun k => k = j ∨ L k) g0 = gOf q L (rec.app (gOf p L g0)) := by
    rw [e, gOf_append]
    simp only [gOf]
    rw [if_pos (.inl hrj), gOf_congr (L := fun k => k = j ∨ L k) (L' := L) p g0 (fun r' h => ⟨fun h1 => h1.resolve_left (hp r' h), .inr⟩), gOf_congr (L := fun k => k = j ∨ L k) (L' := L) q _ (fun r' h => ⟨fun h1 => h1.resolve_left (hq r' h), .inr⟩)]
  have hidf : ∀ B, rec.lo ≤ B → B < rec.hi → σ.blk B = none := fun B h1 h2 => by
    cases hb : σ.blk B with
    | none => rfl
    | some x =>
      rcases hI.ids B (by rw [hb]; simp) with h | ⟨r', h3, h4, h5, h6⟩
      · exact absurd (hF B (Nat.le_trans k.lo h1) (Nat.lt_of_lt_of_le h2 (hhi rec hrec))) h
      · have := htr.disj h3 hrec h5 h6 h1 h2
        rw [this] at h4
        exact absurd h4 hn'
  have hdlt : ∀ x, o2.dst = some x → x < a.tmps.size := fun x hx => by
    rw [hI.size]
    exact k.lt x (by rw [k.dst]; exact hx)
  -- the next state
  have next : ∀ σ' w' v', Out0 P σ (gOf tr L g0) w σ' (gOf tr (fun k => k = j ∨ L k) g0) w' → (∀ B, σ.blk B = none → σ'.blk B ≠ none → rec.lo ≤ B ∧ B < rec.hi) → VR σ' rec.v v' → ∃ σ', RI P all nt σ0 g0 t0 w0 ds tr (fun k => k = j ∨ L k) (a.put o2.dst v') w' σ' := by
    intro σ' w' v' hout hids hv
    refine ⟨σ', hI.out.trans hout, fun B hB => ?_, ?_, fun t => ?_, fun i hi aj h1 x hx => ?_, ?_⟩
    · cases hb : σ.blk B with
      | none =>
        obtain ⟨h1, h2⟩ := hids B hb hB
        exact .inr ⟨rec, hrec, .inl hrj, h1, h2⟩
      | some y =>
        rcases hI.ids B (by rw [hb]; simp) with h | ⟨r', h3, h4, h5, h6⟩
        · exact .inl h
        · exact .inr ⟨r', h3, .inr h4, h5, h6⟩
    · rw [← hI.size]
      cases o2.dst <;> simp [Act.put]
    · rw [getD_put a o2.dst v' t hdlt]
      by_cases hd : o2.dst = some t
      · rw [if_pos hd, tOf_yes _ _ hrec (.inl hrj) (by rw [k.dst]; exact hd) (fun r' h1 h2 => by
          obtain ⟨p', q', e'⟩ := List.append_of_mem h1
          obtain ⟨o', ai', tm', b', k'⟩ := htr.split p' r' q' e'
          exact htr.uniq h1 hrec (dst_inj all hnd _ _ _ _ t k'.at_ k.at_ (by rw [← k'.dst]; exact h2) hd))]
        exact hv
      · rw [if_neg hd, ← tOf_add (L := L) tr t0 t0 rfl (fun r' h1 h2 => ⟨.inr, fun h3 => by
          rcases h3 with h3 | h3
          · have := htr.uniq h1 hrec (by rw [h3, hrj])
            rw [this, k.dst] at h2
            exact absurd h2 hd
          · exact h3⟩)]
        exact (hI.tm t).mono hout.le
    · rcases hi with rfl | hi
      · rw [haj] at h1; cases h1
        exact .inr (hready x hx)
      · exact .inr (hI.cl i hi aj h1 x hx)
    · rw [← hI.ds]
      cases o2.dst <;> rfl
  have pureEq : rec.k = .pure → gOf tr (fun k => k = j ∨ L k) g0 = gOf tr L g0 := fun hk => by
    rw [hgL, hgL']
    simp [Rec.app, hk]
  refine step_in ho' hguard (fun hb => ?_) (fun hb => ?_)
  · obtain ⟨hnd2, hls⟩ := k.yes hb
    refine ⟨hnd2, ?_⟩
    cases hls with
    | val hk h =>
      obtain ⟨v', j1, j2⟩ := h σ w a.eval hρ
      rw [j2]
      exact next σ w v' (by rw [pureEq hk]; exact Out0.refl hI.out.hr) (fun B h1 h2 => absurd h1 h2) j1
    | load hk B A hb2 h h1 h2 =>
      have hB := hb2 σ a.eval hρ
      have hnews : ∀ r' ∈ tr, ∀ ob, r'.isN ob → r'.lo = B → L r'.i := by
        intro r' hr' ob hN hlo
        obtain ⟨p', q', e'⟩ := List.append_of_mem hr'
        obtain ⟨o', ai', tm', b', k'⟩ := htr.split p' r' q' e'
        have hh := isN_hi k' hN
        rcases hI.ids B hB with g | ⟨r'', g1, g2, g3, g4⟩
        · have := hhi r' hr'
          exact absurd (hF B (by rw [← hlo]; exact k'.lo) (by omega)) g
        · have := htr.disj g1 hr' g3 g4 (by omega) (by omega)
          rw [← this]; exact g2
      have hA : ∃ ob, gOf tr L g0 B = some ob ∧ A ob := by
        rcases first_not (L := L) p with hf | ⟨p1, c, p2, e2, f1, f2, f3⟩
        · obtain ⟨ob, g1, g2⟩ := h1
          exact ⟨ob, base_at htr hBd hI.cl e hn' g1 hf (fun r' hr' => hnews r' (by rw [e]; simp [hr'])), g2⟩
        · have e3 : tr = p1 ++ c :: (p2 ++ rec :: q) := by rw [e, e2]; simp
          obtain ⟨ob, g1, g2⟩ := h2 p1 c p2 e2 f1 (fun c' hc' hw' => by
            cases hbt : ai.testBit c'.i with
            | false => rfl
            | true =>
              have hL := hready _ hbt
              rcases List.mem_cons.1 hc' with rfl | hc'
              · exact absurd hL f2
              · exact absurd (wr_later htr hI.cl e3 (by simp [hc']) hw' hL) f2)
          exact ⟨ob, base_at htr hBd hI.cl e3 f2 g1 f3 (fun r' hr' => hnews r' (by rw [e3]; simp [hr'])), g2⟩
      obtain ⟨v', j1, j2⟩ := h σ w a.eval _ hρ hI.out.hr hA
      rw [j2]
      exact next σ w v' (by rw [pureEq hk]; exact Out0.refl hI.out.hr) (fun B h1 h2 => absurd h1 h2) j1
    | new ob hk hh h =>
      obtain ⟨v', w', σ', j1, j2, j3⟩ := h σ w a.eval _ hρ hI.out.hr (hidf rec.lo (Nat.le_refl _) (by omega))
      rw [j1]
      refine next σ' w' v' ?_ (fun B h1 h2 => by rw [hh]; exact j3.new B h1 h2) j2
      have e4 : gOf tr (fun k => k = j ∨ L k) g0 = gset (gOf tr L g0) rec.lo ob := by
        rw [hgL, hgL']
        simp only [Rec.app, hk]
        funext B
        have hqw : ∀ r ∈ q, r.isW → ¬ L r.i := fun r hr hw hL => hn' (wr_later htr hI.cl e hr hw hL)
        rcases gOf_news (L := L) B q hqw with ⟨r', m1, o', m2, m3, m4, m5⟩ | m
        · have h3 := htr
          rw [e] at h3
          have h4 := h3.later_ne m1
          rw [m5]
          unfold gset
          rw [if_neg (by omega), m5]
        · rw [m]
          unfold gset
          split
          · rfl
          · rw [m]
      rw [e4]
      exact j3.o0
    | wr g' hk ha h =>
      have hpL : ∀ r' ∈ p, L r'.i := fun r' hr' => hready _ (ha r' hr')
      have hgp : gOf p L g0 = gOf p All g0 := gOf_congr p g0 (fun r' hr' => ⟨fun _ => trivial, fun _ => hpL r' hr'⟩)
      have hsub : HR P σ (gOf p All g0) w := hI.out.hr.sub (fun B ob hB => base_at htr hBd hI.cl e hn' hB (fun r' hr' _ => hpL r' hr') (fun r' hr' _ _ _ => hpL r' hr'))
      refine (h σ w a.eval hρ hsub (k.bd hBd) hidf).mono ?_
      rintro v' w' ⟨σ', hv, hout⟩
      refine next σ' w' v' (hout.o0.lift hI.out.hr fun B => ?_) (fun B h1 h2 => hout.new B h1 h2) hv
      have hqw : ∀ r ∈ q, r.isW → ¬ L r.i := fun r hr hw hL => hn' (wr_later htr hI.cl e hr hw hL)
      rw [hgL, hgL', hgp]
      have happ : rec.app (gOf p All g0) = g' := by simp [Rec.app, hk]
      have hbd2 := k.bd2 hBd
      rw [happ] at hbd2 ⊢
      rcases gOf_news (L := L) B q hqw with ⟨r', m1, o', m2, m3, m4, m5⟩ | m
      · have h3 := htr
        rw [e] at h3
        have h4 := h3.later_ne m1
        have h5 := k.hi
        exact .inr ⟨o', m5 _, m5 _, (k.bd hBd).none (by omega), hbd2.none (by omega)⟩
      · exact .inl ⟨m _, m _⟩
  · obtain ⟨h1, h2⟩ := k.no hb
    exact next σ w undef (by rw [pureEq h2]; exact Out0.refl hI.out.hr) (fun B h1 h2 => absurd h1 h2) (by rw [h1]; exact VR.undef σ)
end
end Go.Proofs.YtlhkaoccnpgkeaaGreat.Ev

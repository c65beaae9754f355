/- eval: what operations upon heaps do: loads, stores, new blocks, appends, copies. -/
import Derived.Test.YtlhkaoccnpgkeaaGreatEvJ
namespace Go.Proofs.YtlhkaoccnpgkeaaGreat.Ev
open Go
set_option linter.unusedVariables false
set_option linter.unusedSimpArgs false
variable {α : Type} {β : Type}
/-! How the evaluator's heap goes on. -/
structure Up (h h1 : H) : Prop where
  nx : h.nx ≤ h1.nx
  bd : Bd h.t.get h.nx → Bd h1.t.get h1.nx
theorem Up.refl (h : H) : Up h h := ⟨Nat.le_refl _, id⟩
theorem Up.trans {a b c : H} (h : Up a b) (k : Up b c) : Up a c := ⟨Nat.le_trans h.nx k.nx, fun x => k.bd (h.bd x)⟩
theorem Up.new {h : H} {o : Ob} {t : T Ob} (e : t.get = gset h.t.get h.nx o) : Up h ⟨h.nx + 1, t⟩ := by
  refine ⟨by show h.nx ≤ h.nx + 1; omega, fun hb B hB => ?_⟩
  show B < h.nx + 1
  by_cases hk : B = h.nx
  · omega
  · have h1 : h.t.get B ≠ none := by
      intro h2
      apply hB
      show t.get B = none
      rw [e]
      unfold gset
      rw [if_neg hk]; exact h2
    have := hb B h1
    omega
theorem Up.set {h : H} {B : Nat} {o o' : Ob} {t : T Ob} (hg : h.t.get B = some o') (e : t.get = gset h.t.get B o) : Up h ⟨h.nx, t⟩ := by
  refine ⟨Nat.le_refl _, fun hb k hk => ?_⟩
  show k < h.nx
  by_cases h1 : k = B
  · subst h1
    exact hb k (by rw [hg]; simp)
  · apply hb k
    intro h2
    apply hk
    show t.get k = none
    rw [e]
    unfold gset
    rw [if_neg h1]; exact h2
section
variable {P : Program} {E : Env} {σ : Sg} {g : G} {w : World} {s : Sem Next}
theorem HR.cells (h : HR P σ g w) {B b : Nat} {e : TypeId} {o : Bool} {n : Nat} {c : T Value} (hg : g B = some (.cells e o n c)) (hb : σ.blk B = some b) :
    ∃ cs fr, w.heap[b]? = some (.cells cs e fr) ∧ frOk cs.size fr ∧ (o = false → σ.ext B = 0) ∧ (o = true → cs.size = n + σ.ext B * P.cellsOf e) ∧ CellsR σ c cs := by
  obtain ⟨b', x, h1, h2, cs, fr, rfl, h4⟩ := h.at_ B _ hg (by simp)
  rw [hb] at h1; cases h1
  exact ⟨cs, fr, h2, h4⟩
theorem loadL_spec {c : T Value} {cs : Array Value} (hc : CellsR σ c cs) : ∀ (n i : Nat) (l : List Value), loadL c n i = some l → ∃ l', VL σ l l' ∧ l.length = n ∧ l'.length = n ∧ ∀ j v, l'[j]? = some v → cs[i + j]? = some v
  | 0, i, l, h => by cases h; exact ⟨[], .nil, rfl, rfl, fun j v hv => by simp at hv⟩
  | n + 1, i, l, h => by
    simp only [loadL] at h
    split at h
    · rename_i v hv
      split at h
      · rename_i l1 hl
        cases h
        obtain ⟨v', h1, h2⟩ := hc i v hv
        obtain ⟨l', h3, h4, h5, h6⟩ := loadL_spec hc n (i + 1) l1 hl
        refine ⟨v' :: l', .cons h2 h3, by simp [h4], by simp [h5], fun j u hu => ?_⟩
        cases j with
        | zero => simp at hu; subst hu; simpa using h1
        | succ j =>
          have := h6 j u (by simpa using hu)
          rw [show i + (j + 1) = i + 1 + j by omega]; exact this
      · cases h
    · cases h
theorem cell_of {b : Nat} {cs : Array Value} {e : TypeId} {fr : Nat × Nat} (hw : w.heap[b]? = some (.cells cs e fr)) {k : Nat} {v : Value} (h : cs[k]? = some v) : w.cell? ⟨b, k, none⟩ = some v := by
  simp [World.cell?, hw, h]
theorem add_none (b o j : Nat) : (⟨b, o, none⟩ : Addr).add j = ⟨b, o + j, none⟩ := by unfold Addr.add; split <;> simp_all
theorem run_loads {b o n : Nat} {cs : Array Value} {e : TypeId} {fr : Nat × Nat} (hw : w.heap[b]? = some (.cells cs e fr)) {l' : List Value} (hn : l'.length = n) (h : ∀ j v, l'[j]? = some v → cs[o + j]? = some v) : (loadCells ⟨b, o, none⟩ n).run P w = .ok ⟨l'⟩ w := by
  have := run_loadCells_list (P := P) w ⟨b, o, none⟩ l' (fun j v hv => by rw [add_none]; exact cell_of hw (h j v hv))
  rw [hn] at this
  simpa using this
theorem load_run {agg : Bool} {n : Nat} {a : Addr} {v : Value} (hs : EffS P σ s (.load agg n a)) (hr : HR P σ g w) (hl : loadOb (g a.block) agg n a = some v) : ∃ v', VR σ v v' ∧ s.run P w = .ok (.value v') w := by
  obtain ⟨b, hb, h1, h2⟩ := hs
  unfold loadOb at hl
  split at hl
  · rename_i e o k c hg
    obtain ⟨cs, fr, hw, _, _, _, hc⟩ := hr.cells hg hb
    cases agg with
    | true =>
      dsimp only at hl
      split at hl
      · rename_i l hll
        cases hl
        obtain ⟨l', k1, k2, k3, k4⟩ := loadL_spec hc _ _ _ hll
        exact ⟨.agg ⟨l'⟩, .agg k1, h1 rfl w ⟨l'⟩ (run_loads hw k3 k4)⟩
      · cases hl
    | false =>
      dsimp only at hl
      obtain ⟨v', k1, k2⟩ := hc _ _ hl
      exact ⟨v', k2, h2 rfl w v' (cell_of hw k1)⟩
  · cases hl
theorem b2s_go {σ : Sg} : ∀ (l l' : List Value) (s0 s1 : ByteArray), strB.go l s0 = some s1 → VL σ l l' → ∀ w, (forIn l' s0 (fun c s => do
      match c with
      | .int .u8 n => pure (.yield (s.push (UInt8.ofNat n.toNat)))
      | x => do
        stuck "bytesToString: byte expected"
        pure (.yield s)) : Sem ByteArray).run P w = .ok s1 w
  | [], l', s0, s1, h, hl, w => by
    cases hl
    simp only [strB.go] at h
    cases h
    simp
  | v :: l, l', s0, s1, h, hl, w => by
    cases hl with
    | cons hv hvs =>
      unfold strB.go at h
      split at h
      · rename_i he
        cases he
      · rename_i k z _ he
        cases he
        split at h
        · rw [hv.iint]
          have ih := b2s_go l _ _ s1 h hvs w
          simp only [List.forIn_cons, Sem.run_bind, Sem.run_pure, Result.andThen_ok]
          exact ih
        · cases h
      · cases h
theorem str_run {n : Nat} {a : Addr} {v : Value} (hs : EffS P σ s (.str a n)) (hr : HR P σ g w) (hl : strOb (g a.block) n a = some v) : ∃ v', VR σ v v' ∧ s.run P w = .ok (.value v') w := by
  obtain ⟨b, c, hb, h1⟩ := hs
  unfold strOb at hl
  split at hl
  · rename_i e o k c hg
    obtain ⟨cs, fr, hw, _, _, _, hc⟩ := hr.cells hg hb
    split at hl
    · rename_i l hll
      split at hl
      · rename_i bs hbs
        cases hl
        obtain ⟨l', k1, k2, k3, k4⟩ := loadL_spec hc _ _ _ hll
        refine ⟨.string bs, .string _, ?_⟩
        rw [h1]
        have hL := run_loads (P := P) hw k3 k4
        have hG := b2s_go (P := P) l l' _ _ hbs k1 w
        simp only [Conv.bytesToString, Sem.run_bind, hL, Result.andThen_ok, Sem.run_pure]
        rw [show (⟨l'⟩ : Array Value) = l'.toArray from rfl, List.forIn_toArray]
        erw [hG]
        rfl
      · cases hl
    · cases hl
  · cases hl
theorem run_store_fr (b o : Nat) (t : TypeId) (fz : Nat × Nat) : ∀ (vs : List Value) (i : Nat) (cur : Array Value) (w : World), w.heap[b]? = some (.cells cur t fz) → frOk cur.size fz → (vs ≠ [] → o + i + vs.length ≤ cur.size) → (∀ v ∈ vs, v.oneCell' = true) →
    (storeCells ⟨b, o, none⟩ vs i).run P w = .ok () (w.setRow b (cur.toList.take (o + i) ++ vs ++ cur.toList.drop (o + i + vs.length)).toArray)
  | [], i, cur, w, hg, _, _, _ => by
    simp only [storeCells, List.append_nil, List.length_nil, Nat.add_zero, List.take_append_drop, Array.toArray_toList]
    rw [setRow_self w b cur t fz hg]
    rfl
  | v :: rest, i, cur, w, hg, hfz, hl, h1 => by
    have hl' : o + i + (rest.length + 1) ≤ cur.size := by simpa using hl (by simp)
    have hi : o + i < cur.size := by omega
    have hcell : w.cell? ⟨b, o + i, none⟩ = some cur[o + i] := by simp [World.cell?, hg, hi]
    have hfro : w.frozen? ⟨b, o + i, none⟩ = false := by
      obtain ⟨lo, hi'⟩ := fz
      have := hfz
      unfold frOk at this
      simp only [World.frozen?, hg, Bool.and_eq_false_iff, decide_eq_false_iff_not]
      simp only at this
      omega
    have hst : (store ((⟨b, o, none⟩ : Addr).add i) v).run P w = .ok () (w.setRow b (cur.setIfInBounds (o + i) v)) := by
      rw [add_none, run_store P w _ v _ (h1 v (by simp)), hcell]
      simp [hfro, setCell_eq_setRow w b (o + i) cur t fz v hg]
    have ih := run_store_fr b o t fz rest (i + 1) (cur.setIfInBounds (o + i) v) (w.setRow b (cur.setIfInBounds (o + i) v)) (setRow_heap w b cur _ t _ hg) (by simpa using hfz) (fun _ => by simp; omega) (fun x hx => h1 x (by simp [hx]))
    simp only [storeCells, Sem.run_bind, hst, Result.andThen_ok, ih, setRow_setRow]
    congr 3
    have e := list_seg_step cur.toList (o + i) v rest (by simp; omega)
    simpa [Array.toList_setIfInBounds, Nat.add_assoc] using e
theorem CellsR.set {c : T Value} {cs : Array Value} (h : CellsR σ c cs) {i : Nat} (hi : i < cs.size) {v v' : Value} (hv : VR σ v v') : CellsR σ (c.set i v) (cs.setIfInBounds i v') := by
  intro k u hk
  rw [(T.set_get c i v).2] at hk
  split at hk
  · rename_i e
    subst e
    cases hk
    exact ⟨v', by rw [Array.getElem?_setIfInBounds_self_of_lt hi], hv⟩
  · rename_i e
    obtain ⟨u', h1, h2⟩ := h k u hk
    exact ⟨u', by rw [Array.getElem?_setIfInBounds_ne (by omega)]; exact h1, h2⟩
theorem storeL_spec : ∀ (l l' : List Value) (c : T Value) (cs : Array Value) (i : Nat) (c' : T Value), CellsR σ c cs → storeL c i l = some c' → VL σ l l' → (l' ≠ [] → i + l'.length ≤ cs.size) ∧ l.all Ev.oneC = true ∧ CellsR σ c' (cs.toList.take i ++ l' ++ cs.toList.drop (i + l'.length)).toArray
  | [], l', c, cs, i, c', hc, h, hl => by
    cases hl
    cases h
    refine ⟨by simp, rfl, ?_⟩
    simpa using hc
  | v :: l, l', c, cs, i, c', hc, h, hl => by
    cases hl with
    | cons hv hvs =>
      rename_i v' l'
      simp only [storeL] at h
      split at h
      · rename_i u hu
        split at h
        · rename_i h1
          split at h
          · cases h
          · rename_i x y z he
            rw [← he] at h
            obtain ⟨u', hu', _⟩ := hc i u hu
            have hi : i < cs.size := (Array.getElem?_eq_some_iff.1 hu').1
            obtain ⟨k1, k2, k3⟩ := storeL_spec l l' _ _ (i + 1) c' (hc.set hi hv) h hvs
            have hle : i + (l'.length + 1) ≤ cs.size := by
              by_cases hn : l' = []
              · subst hn; simp; omega
              · have := k1 hn
                simp at this; omega
            refine ⟨fun _ => by simpa using hle, by simp [h1, k2], ?_⟩
            have e := list_seg_step cs.toList i v' l' (by simp; omega)
            rw [Array.toList_setIfInBounds, e] at k3
            exact k3
        · cases h
      · cases h
theorem store_out {h : H} (hr : HR P σ h.t.get w) {B b : Nat} {e : TypeId} {o : Bool} {k : Nat} {c c' : T Value} {t : T Ob} (hg : h.t.get B = some (.cells e o k c)) (hb : σ.blk B = some b) {i : Nat} {l l' : List Value} (hst : storeL c i l = some c') (hl : VL σ l l') (ht : t.get = gset h.t.get B (.cells e o k c')) :
    ∃ w', (storeCells ⟨b, i, none⟩ l').run P w = .ok () w' ∧ Out P σ h.t.get h.nx w σ t.get h.nx w' := by
  obtain ⟨cs, fr, hw, h1, h2, h3, h4⟩ := hr.cells hg hb
  obtain ⟨k1, k2, k3⟩ := storeL_spec l l' c cs i c' h4 hst hl
  have hrun := run_store_fr (P := P) b i e fr l' 0 cs w hw h1 (fun hn => by simpa using k1 hn) (VL.oneC hl k2)
  simp only [Nat.add_zero] at hrun
  refine ⟨_, hrun, ?_⟩
  have hsz : (cs.toList.take i ++ l' ++ cs.toList.drop (i + l'.length)).toArray.size = cs.size := by
    by_cases hn : l' = []
    · subst hn; simp
    · have := k1 hn
      simp; omega
  rw [ht]
  refine hr.set h.nx hg (by simp) hb (fun k hk => setRow_other w b k _ hk) (setRow_heap w b cs _ e fr hw) rfl rfl rfl (by simp) ?_
  exact ⟨_, fr, rfl, by rw [hsz]; exact h1, h2, by rw [hsz]; exact h3, k3⟩
theorem doStore_some {h : H} {n : Nat} {a : Addr} {v : Value} {f : Value → H → Option β} {r : β} (e : doStore h n a v f = some r) : ∃ h1, f undef h1 = some r ∧ Up h h1 ∧ h1.nx = h.nx ∧ ∀ σ w b v', HR P σ h.t.get w → σ.blk a.block = some b → VR σ v v' → ∃ w', (storeCells ⟨b, a.off, none⟩ v'.cells.toList).run P w = .ok () w' ∧ v'.cells.size = n ∧ Out P σ h.t.get h.nx w σ h1.t.get h1.nx w' := by
  unfold doStore at e
  split at e
  · rename_i el o k c hn hg
    split at e
    · rename_i c' hst
      obtain ⟨t, h1, h2⟩ := setH_some e
      refine ⟨_, h1, Up.set hg h2, rfl, fun σ w b v' hr hb hv => ?_⟩
      have hall : (cellsL v).all Ev.oneC = true := by
        have : ∀ (l : List Value) (c : T Value) (i : Nat) (c' : T Value), storeL c i l = some c' → l.all Ev.oneC = true := by
          intro l
          induction l with
          | nil => intro _ _ _ _; rfl
          | cons v l ih =>
            intro c i c' h
            simp only [storeL] at h
            split at h
            · split at h
              · rename_i h1
                split at h
                · cases h
                · simp [h1, ih _ _ _ h]
              · cases h
            · cases h
        exact this _ _ _ _ hst
      have hl := cells_VL hv hall
      obtain ⟨w', k1, k2⟩ := store_out (P := P) (h := h) hr hg hb hst hl h2
      refine ⟨w', k1, ?_, k2⟩
      have := hl.length
      have hn' : (cellsL v).length = n := Nat.eq_of_beq_eq_true hn
      simp at this
      omega
    · cases e
  · cases e
theorem doCopy_some {h : H} {size m : Nat} {a b : Addr} {f : Value → H → Option β} {r : β} (e : doCopy h size a m b f = some r) : ∃ h1, f (.int .i64 (m : Nat)) h1 = some r ∧ Up h h1 ∧ ∀ σ w s, EffS P σ s (.copy size a m b) → HR P σ h.t.get w → ∃ w', s.run P w = .ok (.value (.int .i64 (m : Nat))) w' ∧ Out P σ h.t.get h.nx w σ h1.t.get h1.nx w' := by
  unfold doCopy at e
  split at e
  · rename_i e0 o0 k0 c0 hgb
    split at e
    · rename_i l hl
      split at e
      · rename_i e1 o1 k1 c1 hga
        split at e
        · rename_i c' hst
          obtain ⟨t, h1, h2⟩ := setH_some e
          refine ⟨_, h1, Up.set hga h2, fun σ w s hs hr => ?_⟩
          obtain ⟨ab, bb, hab, hbb, hrun⟩ := hs
          obtain ⟨cs, fr, hw, _, _, _, hc⟩ := hr.cells hgb hbb
          obtain ⟨l', j1, j2, j3, j4⟩ := loadL_spec hc _ _ _ hl
          obtain ⟨w', q1, q2⟩ := store_out (P := P) (h := h) hr hga hab hst j1 h2
          refine ⟨w', ?_, q2⟩
          rw [hrun w l' j3 (fun j v hv => cell_of hw (j4 j v hv)), q1]
          rfl
        · cases e
      · cases e
    · cases e
  · cases e
theorem doCap_some {h : H} {B c : Nat} {f : Value → H → Option β} {r : β} (e : doCap h B c f = some r) : f (.int .i64 (c : Nat)) h = some r ∧ ∀ σ w s, EffS P σ s (.capOf B c) → HR P σ h.t.get w → s.run P w = .ok (.value (.int .i64 (c : Nat))) w := by
  unfold doCap at e
  split at e
  · rename_i e0 o n c0 hg
    split at e
    · refine ⟨e, fun σ w s hs hr => ?_⟩
      obtain ⟨b, hb, hrun⟩ := hs
      obtain ⟨cs, fr, hw, _, h2, _, _⟩ := hr.cells hg hb
      rw [hrun, h2 rfl]
      rfl
    · cases e
  · cases e
theorem frOk_freeze {cs : Array Value} {fr : Nat × Nat} (h : frOk cs.size fr) : frOk cs.size (if fr.1 == fr.2 then (cs.size, cs.size + 1) else (min fr.1 cs.size, max fr.2 (cs.size + 1))) := by
  unfold frOk at h ⊢
  by_cases he : fr.1 = fr.2
  · simp [he]
  · simp only [beq_iff_eq, he, if_false]
    omega
theorem gset_self {g : G} {B : Nat} {o : Ob} (h : g B = some o) : gset g B o = g := by
  funext k
  unfold gset
  split
  · rename_i e; subst e; exact h.symm
  · rfl
theorem doFreeze_some {h : H} {a : Addr} {n c : Nat} {f : Value → H → Option β} {r : β} (e : doFreeze h a n c f = some r) : f (.slice (some a) n c) h = some r ∧ ∀ σ w s, EffS P σ s (.freeze a n c) → HR P σ h.t.get w → ∃ v' w', VR σ (.slice (some a) n c) v' ∧ s.run P w = .ok (.value v') w' ∧ Out P σ h.t.get h.nx w σ h.t.get h.nx w' := by
  unfold doFreeze at e
  split at e
  · rename_i e0 o k c0 hns hg
    refine ⟨e, fun σ w s hs hr => ?_⟩
    obtain ⟨b, c', hb, hv, hrun⟩ := hs hns
    obtain ⟨cs, fr, hw, h1, h2, h3, h4⟩ := hr.cells hg hb
    have hrun2 : (markStringish ⟨b, a.off, none⟩).run P w = .ok () (w.freeze ⟨b, cs.size, none⟩ 1) := by
      simp [markStringish, World.shape?, hw]
    refine ⟨_, _, hv, by rw [hrun w, hrun2]; rfl, ?_⟩
    have hlt : b < w.heap.size := (Array.getElem?_eq_some_iff.1 hw).1
    have hwb : w.heap[b] = .cells cs e0 fr := (Array.getElem?_eq_some_iff.1 hw).2
    have hout := hr.set (w' := w.freeze ⟨b, cs.size, none⟩ 1) (x := .cells cs e0 (if fr.1 == fr.2 then (cs.size, cs.size + 1) else (min fr.1 cs.size, max fr.2 (cs.size + 1)))) h.nx hg (by simp) hb (fun k hk => by
        simp [World.freeze, Array.getElem?_modify]
        intro h5
        exact absurd h5.symm hk) (by
        simp [World.freeze, Array.getElem?_modify, hw]) rfl rfl rfl (by simp [World.freeze])
      (show ObR P σ a.block (.cells e0 o k c0) _ from ⟨cs, _, rfl, frOk_freeze h1, h2, h3, h4⟩)
    rw [gset_self hg] at hout
    exact hout
  · cases e
theorem HR.kill (h : HR P σ g w) (nx : Nat) {B : Nat} {o0 : Ob} (hg : g B = some o0) : Out P σ g nx w σ (gset g B .dead) nx w := by
  have hlive : ∀ k, live (gset g B .dead) k → live g k := fun k hk => by
    obtain ⟨x, h1, h2⟩ := hk
    unfold gset at h1
    split at h1
    · cases h1; exact absurd rfl h2
    · exact ⟨x, h1, h2⟩
  refine ⟨Sg.le_refl σ, fun k h1 h2 => absurd h1 h2, ⟨fun k y h1 h2 => ?_, fun k k' y h1 h2 h3 h4 => h.inj k k' y (hlive k h1) (hlive k' h2) h3 h4⟩, Fr.refl _ _ _, fun k y h1 h2 => .inl ⟨k, hlive k h1, h2⟩, Nat.le_refl _⟩
  unfold gset at h1
  split at h1
  · cases h1; exact absurd rfl h2
  · exact h.at_ k y h1 h2
/-- An open block that has been appended to in its own room. -/
theorem HR.move (h : HR P σ g w) {B B' b : Nat} {o0 : Ob} (hg : g B = some o0) (hd : o0 ≠ .dead) (hb : σ.blk B = some b) (hB' : σ.blk B' = none) {o : Ob} {x : Obj} {ex : Nat} {w' : World} (hw : ∀ k, k ≠ b → w'.heap[k]? = w.heap[k]?) (hwb : w'.heap[b]? = some x) (hos : w'.os = w.os) (htp : w'.tape = w.tape) (hout : w'.output = w.output) (hsz : w'.heap.size = w.heap.size)
    (hx : ObR P (σ.add B' b ex) B' o x) : Out P σ g B' w (σ.add B' b ex) (gset (gset g B .dead) B' o) (B' + 1) w' := by
  have hle := Sg.le_add (σ := σ) (B := B') (b := b) (x := ex) hB'
  have hl0 : live g B := ⟨o0, hg, hd⟩
  have hne : B ≠ B' := fun e => by rw [e] at hb; rw [hb] at hB'; cases hB'
  have hcase : ∀ k, live (gset (gset g B .dead) B' o) k → k = B' ∨ (k ≠ B' ∧ k ≠ B ∧ live g k) := fun k hk => by
    obtain ⟨y, h1, h2⟩ := hk
    unfold gset at h1
    split at h1
    · rename_i e; exact .inl e
    · rename_i e
      split at h1
      · cases h1; exact absurd rfl h2
      · rename_i e2
        exact .inr ⟨e, e2, y, h1, h2⟩
  have hblk : ∀ k, k ≠ B' → (σ.add B' b ex).blk k = σ.blk k := fun k hk => by simp [Sg.add, hk]
  have hblk' : (σ.add B' b ex).blk B' = some b := by simp [Sg.add]
  refine ⟨hle, fun k h1 h2 => ?_, ⟨fun k y h1 h2 => ?_, fun k k' y h1 h2 h3 h4 => ?_⟩, ⟨hos, htp, hout, by omega, fun k hk hB => ?_⟩, fun k y h1 h2 => ?_, by omega⟩
  · by_cases hk : k = B'
    · omega
    · rw [hblk k hk] at h2; exact absurd h1 h2
  · unfold gset at h1
    split at h1
    · rename_i e
      subst e; cases h1
      exact ⟨b, x, hblk', hwb, hx⟩
    · rename_i e
      split at h1
      · cases h1; exact absurd rfl h2
      · rename_i e2
        obtain ⟨b', z, h3, h4, h5⟩ := h.at_ k y h1 h2
        have hbb : b' ≠ b := fun e3 => by subst e3; exact e2 (h.inj k B b' ⟨y, h1, h2⟩ hl0 h3 hb)
        exact ⟨b', z, by rw [hblk k e]; exact h3, by rw [hw b' hbb]; exact h4, h5.mono hle h3⟩
  · rcases hcase k h1 with rfl | ⟨e1, e2, e3⟩ <;> rcases hcase k' h2 with rfl | ⟨f1, f2, f3⟩
    · rfl
    · rw [hblk'] at h3; cases h3
      rw [hblk k' f1] at h4
      exact absurd (h.inj k' B b f3 hl0 h4 hb) f2
    · rw [hblk'] at h4; cases h4
      rw [hblk k e1] at h3
      exact absurd (h.inj k B b e3 hl0 h3 hb) e2
    · rw [hblk k e1] at h3
      rw [hblk k' f1] at h4
      exact h.inj k k' y e3 f3 h3 h4
  · exact hw k (fun e => by subst e; exact hB B hl0 hb)
  · rcases hcase k h1 with rfl | ⟨e1, e2, e3⟩
    · rw [hblk'] at h2; cases h2
      exact .inl ⟨B, hl0, hb⟩
    · rw [hblk k e1] at h2
      exact .inl ⟨k, e3, h2⟩
theorem ofList_cells {l l' : List Value} (h : VL σ l l') {cs : Array Value} (hc : ∀ (i : Nat) (v : Value), l'[i]? = some v → cs[i]? = some v) : CellsR σ (T.ofList l) cs := by
  intro i v hv
  rw [T.ofList_eq] at hv
  obtain ⟨v', h1, h2⟩ := h.get hv
  exact ⟨v', hc i v' h1, h2⟩
/-- A new block that an append makes. -/
theorem grow_out {nx : Nat} (hr : HR P σ g w) (hB : σ.blk nx = none) {e : TypeId} {size k cap : Nat} {l l' : List Value} (hl : VL σ l l') (hn : l.length = k * size) (hce : P.cellsOf e = size) (hcap : k ≤ cap) {zs : Array Value} (hz : zs.size = (cap - k) * size) {cs : Array Value} (hcs : cs = l'.toArray ++ zs) :
    ∃ σ', VR σ' (.slice (some ⟨nx, 0, none⟩) k k) (.slice (some ⟨w.heap.size, 0, none⟩) k cap) ∧ Out P σ g nx w σ' (gset g nx (.cells e true (k * size) (T.ofList l))) (nx + 1) (w.drew.alloc (.cells cs e)) := by
  have hl2 : l'.length = k * size := by rw [hl.length, hn]
  refine ⟨σ.add nx w.heap.size (cap - k), ?_, ?_⟩
  · have h1 : (σ.add nx w.heap.size (cap - k)).blk nx = some w.heap.size := by simp [Sg.add]
    have h2 : (σ.add nx w.heap.size (cap - k)).ext nx = cap - k := by simp [Sg.add]
    have := VR.sl (σ := σ.add nx w.heap.size (cap - k)) 0 k k h1
    rw [h2, show k + (cap - k) = cap by omega] at this
    exact this
  · refine hr.new (w' := w.drew.alloc (.cells cs e)) (x := .cells cs e (0, 0)) (ex := cap - k) hB rfl rfl rfl rfl ?_
    refine ⟨cs, (0, 0), rfl, .inl rfl, (fun h => by cases h), fun _ => ?_, ?_⟩
    · subst hcs
      simp [Sg.add, hz, hl2, hce]
    · subst hcs
      refine (ofList_cells (hl.mono (Sg.le_add hB)) fun i v hv => ?_)
      have hi : i < l'.length := (List.getElem?_eq_some_iff.1 hv).1
      rw [Array.getElem?_append_left (by simpa using hi)]
      simpa using hv
theorem size_zc (z : Array Value) (m : Nat) : (Builtin.zeroCells z m).size = m * z.size := by simp [Builtin.zeroCells]
theorem srcS {h : H} {size m : Nat} {src : List Value ⊕ Addr} {new : List Value} {NW : World → List Value → Prop} (hnew : (match (generalizing := false) src with
    | .inl l => some l
    | .inr a => match h.t.get a.block with
      | some (.cells _ _ _ c) => loadL c (Nat.mul m size) a.off
      | _ => no 204) = some new) (hr : HR P σ h.t.get w) (hS : match (generalizing := false) src with
        | .inl l => ∃ l', VL σ l l' ∧ l'.length = m * size ∧ ∀ w, NW w l'
        | .inr a => ∃ b, σ.blk a.block = some b ∧ ∀ (w : World) (l' : List Value), l'.length = m * size → (∀ j v, l'[j]? = some v → w.cell? ⟨b, a.off + j, none⟩ = some v) → NW w l') : ∃ l', VL σ new l' ∧ l'.length = m * size ∧ NW w l' := by
  cases src with
  | inl l =>
    cases hnew
    obtain ⟨l', k1, k2, k3⟩ := hS
    exact ⟨l', k1, k2, k3 w⟩
  | inr a =>
    dsimp only at hnew
    split at hnew
    · rename_i e0 o0 k0 c0 hg
      obtain ⟨b, hb, hN⟩ := hS
      obtain ⟨cs, fr, hw, _, _, _, hc⟩ := hr.cells hg hb
      obtain ⟨l', j1, j2, j3, j4⟩ := loadL_spec hc _ _ _ hnew
      exact ⟨l', j1, j3, hN w l' j3 (fun j v hv => cell_of hw (j4 j v hv))⟩
    · cases hnew
theorem doAppend_some {h : H} {size bytes : Nat} {e : TypeId} {base : Option Addr} {n cap m : Nat} {src : List Value ⊕ Addr} {f : Value → H → Option β} {r : β} (he : doAppend h size bytes e base n cap m src f = some r) :
    ∃ v h1, f v h1 = some r ∧ Up h h1 ∧ ∀ σ w s, EffS P σ s (.append size bytes e base n cap m src) → HR P σ h.t.get w → Free σ h.nx h1.nx → ∃ v' w' σ', s.run P w = .ok (.value v') w' ∧ VR σ' v v' ∧ Out P σ h.t.get h.nx w σ' h1.t.get h1.nx w' := by
  unfold doAppend at he
  split at he
  · cases he
  · rename_i new hnew
    have hsrc := fun σ w NW => srcS (P := P) (σ := σ) (w := w) (NW := NW) hnew
    clear hnew
    split at he
    · rename_i hall hbound
      have hbound' : (n + m) * (bytes + 1) ≤ 1099511627776 := by rw [nble] at hbound; simpa using hbound
      rw [nble] at he
      split at he
      · rename_i hroom
        have hroom' : n + m ≤ cap := by simpa using hroom
        split at he
        · -- nothing is appended to nothing
          split at he
          · refine ⟨_, _, he, Up.refl h, fun σ w s hs hr hF => ?_⟩
            obtain ⟨base', capR, z, NW, h1, h2, h3, h4, h5, h6, h7⟩ := hs
            have e1 := h1.isn
            cases e1
            obtain ⟨l', k1, k2, k3⟩ := hsrc σ w NW hr h5
            have hl0 : l' = [] := List.eq_nil_of_length_eq_zero (by simpa using k2)
            refine ⟨.slice none n cap, w, σ, ?_, .snil _ _, Out.refl _ hr⟩
            rw [h6 w l' k3 hroom']
            rfl
          · cases he
        · rename_i a
          split at he
          · rename_i e0 o k c hns hg
            split at he
            · rename_i c' hst
              obtain ⟨t, q1, q2⟩ := setH_some he
              refine ⟨_, _, q1, Up.set hg q2, fun σ w s hs hr hF => ?_⟩
              obtain ⟨base', capR, z, NW, h1, h2, h3, h4, h5, h6, h7⟩ := hs
              obtain ⟨l', k1, k2, k3⟩ := hsrc σ w NW hr h5
              rcases h1.isl with ⟨b, hsp, hb, e1⟩ | ⟨b, hsp, hb, e1⟩ | ⟨b, o', c', hsp, _⟩
              · cases e1
                obtain ⟨w', j1, j2⟩ := store_out (P := P) (h := h) hr hg hb hst k1 q2
                refine ⟨.slice (some ⟨b, a.off, none⟩) (n + m) (cap + σ.ext a.block), w', σ, ?_, ?_, j2⟩
                · rw [h6 w l' k3 (by omega)]
                  show ((storeCells ((⟨b, a.off, none⟩ : Addr).add (n * size)) l').run P w).andThen _ = _
                  rw [add_none]
                  have : a.off + n * size = Nat.add a.off (Nat.mul n size) := rfl
                  rw [this, j1]
                  rfl
                · obtain ⟨B, o', sp⟩ := a
                  dsimp only at hsp; subst hsp
                  exact .sl _ _ _ hb
              · cases e1
                obtain ⟨w', j1, j2⟩ := store_out (P := P) (h := h) hr hg hb hst k1 q2
                refine ⟨.slice (some ⟨b, a.off, none⟩) (n + m) cap, w', σ, ?_, ?_, j2⟩
                · rw [h6 w l' k3 (by omega)]
                  show ((storeCells ((⟨b, a.off, none⟩ : Addr).add (n * size)) l').run P w).andThen _ = _
                  rw [add_none]
                  have : a.off + n * size = Nat.add a.off (Nat.mul n size) := rfl
                  rw [this, j1]
                  rfl
                · obtain ⟨B, o', sp⟩ := a
                  dsimp only at hsp; subst hsp
                  exact .sl0 _ _ _ hb
              · simp [noSpot, hsp] at hns
            · cases he
          · cases he
      · rename_i hroom
        have hroom' : cap < n + m := by
          have : ¬ (n + m ≤ cap) := by simpa using hroom
          omega
        split at he
        · split at he
          · obtain ⟨t, q1, q2⟩ := Hnew_some he
            refine ⟨_, _, q1, Up.new q2, fun σ w s hs hr hF => ?_⟩
            obtain ⟨base', capR, z, NW, h1, h2, h3, h4, h5, h6, h7⟩ := hs
            have e1 := h1.isn
            cases e1
            obtain ⟨l', k1, k2, k3⟩ := hsrc σ w NW hr h5
            have hB : σ.blk h.nx = none := hF h.nx (Nat.le_refl _) (by show h.nx < h.nx + 1; omega)
            have hrun := h7 w l' [] k3 hroom' hbound' ⟨rfl, rfl⟩
            obtain ⟨σ', j1, j2⟩ := grow_out (k := 0 + m) (cap := grownCap w (0 + m) cap e) (size := size) (e := e) hr hB k1 (by rw [← k1.length, k2, Nat.zero_add]) h4 (grownCap_ge _ _ _ _) (zs := Builtin.zeroCells z (grownCap w (0 + m) cap e - (0 + m))) (by rw [size_zc, h3]) rfl
            refine ⟨_, _, σ', hrun, ?_, ?_⟩
            · rw [Nat.zero_add] at j1 ⊢
              exact j1
            · rw [q2]
              simp only [Nat.zero_add] at j2 ⊢
              have e2 : ([] : List Value).toArray ++ l'.toArray = l'.toArray := by simp
              rw [e2]
              exact j2
          · cases he
        · rename_i a
          split at he
          · rename_i e' o k c hg
            split at he
            · rename_i old hold
              -- a new block
              have fresh : ∀ {t : T Ob} {v0 : Value} {σ : Sg} {w : World} {s : Sem Next} {capR : Nat} {b : Nat} {z : Array Value} {NW : World → List Value → Prop} {g : G} {nx : Nat}, σ.blk a.block = some b → HR P σ h.t.get w → σ.blk h.nx = none → z.size = size → P.cellsOf e = size → ∀ l', VL σ new l' → l'.length = m * size → NW w l' → capR < n + m → HR P σ g w →
                  (∀ (w : World) (l' old : List Value), NW w l' → capR < n + m → (n + m) * (bytes + 1) ≤ 1099511627776 → (old.length = n * size ∧ ∀ j v, old[j]? = some v → w.cell? ((⟨b, a.off, none⟩ : Addr).add j) = some v) →
                    s.run P w = .ok (.value (.slice (some ⟨w.heap.size, 0, none⟩) (n + m) (grownCap w (n + m) capR e))) (w.drew.alloc (.cells (old.toArray ++ l'.toArray ++ Builtin.zeroCells z (grownCap w (n + m) capR e - (n + m))) e))) →
                  ∃ v' w' σ', s.run P w = .ok (.value v') w' ∧ VR σ' (.slice (some ⟨h.nx, 0, none⟩) (n + m) (n + m)) v' ∧ Out P σ g h.nx w σ' (gset g h.nx (.cells e true ((n + m) * size) (T.ofList (old ++ new)))) (h.nx + 1) w' := by
                intro t v0 σ w s capR b z NW g nx hb hr hB h3 h4 l' k1 k2 k3 hlt hrg h7
                obtain ⟨cs, fr, hw, _, _, _, hc⟩ := hr.cells hg hb
                obtain ⟨old', j1, j2, j3, j4⟩ := loadL_spec hc _ _ _ hold
                have hrun := h7 w l' old' k3 hlt hbound' ⟨j3, fun j v hv => by rw [add_none]; exact cell_of hw (j4 j v hv)⟩
                have hlen : (old ++ new).length = (n + m) * size := by
                  have := k1.length
                  have e5 : old.length = n * size := j2
                  rw [List.length_append, Nat.add_mul, e5]
                  omega
                obtain ⟨σ', q1, q2⟩ := grow_out (nx := h.nx) (k := n + m) (cap := grownCap w (n + m) capR e) (size := size) (e := e) hrg hB (j1.append k1) hlen h4 (grownCap_ge _ _ _ _) (zs := Builtin.zeroCells z (grownCap w (n + m) capR e - (n + m))) (by rw [size_zc, h3]) (cs := old'.toArray ++ l'.toArray ++ Builtin.zeroCells z (grownCap w (n + m) capR e - (n + m))) (by simp)
                exact ⟨_, _, σ', hrun, q1, q2⟩
              by_cases hcase : o = true ∧ a.spot = none
              · -- the block's true size is not known
                obtain ⟨ho, hsp⟩ := hcase
                subst ho
                rw [hsp] at he
                dsimp only at he
                split at he
                · rename_i e1 e2 e3
                  obtain ⟨t1, q1, q2⟩ := setH_some he
                  obtain ⟨t2, q3, q4⟩ := Hnew_some q1
                  refine ⟨_, _, q3, (Up.set hg q2).trans (Up.new q4), fun σ w s hs hr hF => ?_⟩
                  obtain ⟨base', capR, z, NW, h1, h2, h3, h4, h5, h6, h7⟩ := hs
                  obtain ⟨l', k1, k2, k3⟩ := hsrc σ w NW hr h5
                  have hB : σ.blk h.nx = none := hF h.nx (Nat.le_refl _) (by show h.nx < h.nx + 1; omega)
                  have q4' : t2.get = gset (gset h.t.get a.block .dead) h.nx (.cells e true ((n + m) * size) (T.ofList (old ++ new))) := by
                    rw [q4]
                    show gset t1.get h.nx _ = _
                    rw [q2]
                    rfl
                  rcases h1.isl with ⟨b, _, hb, ee⟩ | ⟨b, hsp2, _⟩ | ⟨b, o', c', hsp2, _⟩
                  · cases ee
                    by_cases hlt : cap + σ.ext a.block < n + m
                    · have hk := hr.kill h.nx hg
                      obtain ⟨v', w', σ', r1, r2, r3⟩ := fresh (t := t2) (v0 := undef) (nx := 0) hb hr hB h3 h4 l' k1 k2 k3 hlt hk.hr h7
                      refine ⟨v', w', σ', r1, r2, ?_⟩
                      rw [q4']
                      exact hk.trans r3
                    · have hge : n + m ≤ cap + σ.ext a.block := by omega
                      obtain ⟨cs, fr, hw, hf1, hf2, hf3, hc⟩ := hr.cells hg hb
                      obtain ⟨old', j1, j2, j3, j4⟩ := loadL_spec hc _ _ _ hold
                      have hoff : a.off = 0 := Nat.eq_of_beq_eq_true e1
                      have hk : cap * size = k := Nat.eq_of_beq_eq_true e2
                      have hee : e = e' := Nat.eq_of_beq_eq_true e3
                      subst hee
                      have hsz := hf3 rfl
                      rw [h4, ← hk, ← Nat.add_mul] at hsz
                      have hle : n * size + m * size ≤ cs.size := by
                        rw [← Nat.add_mul, hsz]
                        exact Nat.mul_le_mul_right _ hge
                      have hrunS := run_store_fr (P := P) b (a.off + n * size) e fr l' 0 cs w hw hf1 (fun _ => by rw [k2, hoff]; omega) (VL.oneC k1 hall)
                      have hj3 : old'.length = n * size := j3
                      have hcells : ∀ (i : Nat) (v : Value), (old' ++ l')[i]? = some v → ((cs.toList.take (a.off + n * size + 0) ++ l' ++ cs.toList.drop (a.off + n * size + 0 + l'.length)).toArray)[i]? = some v := by
                        intro i v hv
                        rw [hoff]
                        simp only [Nat.add_zero, Nat.zero_add, List.getElem?_toArray]
                        have htl : (cs.toList.take (n * size)).length = n * size := by simp; omega
                        by_cases hi : i < n * size
                        · rw [List.getElem?_append_left (by rw [hj3]; exact hi)] at hv
                          have := j4 i v hv
                          rw [hoff, Nat.zero_add] at this
                          rw [List.append_assoc, List.getElem?_append_left (by rw [htl]; exact hi), List.getElem?_take, if_pos hi]
                          simpa using this
                        · rw [List.getElem?_append_right (by rw [hj3]; omega), hj3] at hv
                          have hi2 : i - n * size < l'.length := (List.getElem?_eq_some_iff.1 hv).1
                          rw [List.append_assoc, List.getElem?_append_right (by rw [htl]; omega), htl, List.getElem?_append_left hi2]
                          exact hv
                      have hsz2 : (cs.toList.take (a.off + n * size + 0) ++ l' ++ cs.toList.drop (a.off + n * size + 0 + l'.length)).toArray.size = cs.size := by
                        simp [hoff, k2]; omega
                      have hmove := hr.move (B' := h.nx) (w' := w.setRow b (cs.toList.take (a.off + n * size + 0) ++ l' ++ cs.toList.drop (a.off + n * size + 0 + l'.length)).toArray) (ex := cap + σ.ext a.block - (n + m)) (o := .cells e true ((n + m) * size) (T.ofList (old ++ new))) hg (by simp) hb hB (fun k hk => setRow_other w b k _ hk) (setRow_heap w b cs _ e fr hw) rfl rfl rfl (by simp)
                        ⟨_, fr, rfl, by rw [hsz2]; exact hf1, (fun h => by cases h), fun _ => by
                          rw [hsz2, hsz, h4]
                          simp only [Sg.add, if_true]
                          rw [← Nat.add_mul]
                          congr 1
                          omega, ofList_cells ((j1.append k1).mono (Sg.le_add hB)) hcells⟩
                      refine ⟨.slice (some ⟨b, a.off, none⟩) (n + m) (cap + σ.ext a.block), w.setRow b (cs.toList.take (a.off + n * size + 0) ++ l' ++ cs.toList.drop (a.off + n * size + 0 + l'.length)).toArray, σ.add h.nx b (cap + σ.ext a.block - (n + m)), ?_, ?_, ?_⟩
                      rotate_left 2
                      · rw [q4']
                        exact hmove
                      · rw [h6 w l' k3 hge]
                        show ((storeCells ((⟨b, a.off, none⟩ : Addr).add (n * size)) l').run P w).andThen _ = _
                        rw [add_none, hrunS]
                        rfl
                      · have z1 : (σ.add h.nx b (cap + σ.ext a.block - (n + m))).blk h.nx = some b := by simp [Sg.add]
                        have z2 : (σ.add h.nx b (cap + σ.ext a.block - (n + m))).ext h.nx = cap + σ.ext a.block - (n + m) := by simp [Sg.add]
                        have := VR.sl (σ := σ.add h.nx b (cap + σ.ext a.block - (n + m))) 0 (n + m) (n + m) z1
                        rw [z2, show n + m + (cap + σ.ext a.block - (n + m)) = cap + σ.ext a.block by omega] at this
                        rw [hoff]
                        exact this
                  · rw [hsp] at hsp2; cases hsp2
                  · rw [hsp] at hsp2; cases hsp2
                · cases he
              · have he' : (match noSpot a with | true => H.new h (.cells e true (Nat.mul (Nat.add n m) size) (T.ofList (old ++ new))) (fun b h => f (.slice (some ⟨b, 0, none⟩) (Nat.add n m) (Nat.add n m)) h) | false => no 209) = some r := by
                  cases o with
                  | false => exact he
                  | true =>
                    cases hsp : a.spot with
                    | none => exact absurd ⟨rfl, hsp⟩ hcase
                    | some q =>
                      rw [hsp] at he
                      exact he
                clear he
                split at he'
                · rename_i hns
                  obtain ⟨t2, q3, q4⟩ := Hnew_some he'
                  refine ⟨_, _, q3, Up.new q4, fun σ w s hs hr hF => ?_⟩
                  obtain ⟨base', capR, z, NW, h1, h2, h3, h4, h5, h6, h7⟩ := hs
                  obtain ⟨l', k1, k2, k3⟩ := hsrc σ w NW hr h5
                  have hB : σ.blk h.nx = none := hF h.nx (Nat.le_refl _) (by show h.nx < h.nx + 1; omega)
                  rcases h1.isl with ⟨b, hsp2, hb, ee⟩ | ⟨b, hsp2, hb, ee⟩ | ⟨b, o', c', hsp2, _⟩
                  · cases ee
                    have ho : o = false := by
                      cases o with
                      | false => rfl
                      | true => exact absurd ⟨rfl, hsp2⟩ hcase
                    obtain ⟨cs, fr, hw, hf1, hf2, hf3, hc⟩ := hr.cells hg hb
                    obtain ⟨v', w', σ', r1, r2, r3⟩ := fresh (t := t2) (v0 := undef) (nx := 0) hb hr hB h3 h4 l' k1 k2 k3 (by rw [hf2 ho]; omega) hr h7
                    exact ⟨v', w', σ', r1, r2, by rw [q4]; exact r3⟩
                  · cases ee
                    obtain ⟨v', w', σ', r1, r2, r3⟩ := fresh (t := t2) (v0 := undef) (nx := 0) hb hr hB h3 h4 l' k1 k2 k3 hroom' hr h7
                    exact ⟨v', w', σ', r1, r2, by rw [q4]; exact r3⟩
                  · simp [noSpot, hsp2] at hns
                · cases he'
            · cases he
          · cases he
    · cases he
theorem eqI_true {a b : Int} (h : eqI a b = true) : a = b := by
  unfold eqI at h
  split at h
  · rw [Nat.beq_eq] at h; rw [h]
  · rw [Nat.beq_eq] at h; rw [h]
  · cases h
  · cases h
theorem eqVgo_true : ∀ (l m : List Value), eqV.go l m = true → l = m
  | [], [], _ => rfl
  | [], _ :: _, h => by simp [eqV.go] at h
  | x :: l, m, h => by
    unfold eqV.go at h
    split at h
    · rename_i e2; cases e2
    · rename_i k a l' k' b m' e2
      cases e2
      simp only [Bool.and_eq_true, decide_eq_true_eq] at h
      rw [h.1.1, eqI_true h.1.2, eqVgo_true l m' h.2]
    · rename_i a l' b m' e2
      cases e2
      simp only [Bool.and_eq_true, beq_iff_eq] at h
      rw [h.1, eqVgo_true l m' h.2]
    · rename_i a l' b m' e2
      cases e2
      simp only [Bool.and_eq_true, decide_eq_true_eq] at h
      rw [h.1, eqVgo_true l m' h.2]
    · rename_i a n c l' b n' c' m' e2
      cases e2
      simp only [Bool.and_eq_true, decide_eq_true_eq, Nat.beq_eq] at h
      rw [h.1.1.1, h.1.1.2, h.1.2, eqVgo_true l m' h.2]
    · rename_i l' m' e2
      cases e2
      rw [eqVgo_true l m' h]
    · rename_i a l' b m' e2
      cases e2
      simp only [Bool.and_eq_true, beq_iff_eq] at h
      have h1 : a = b := by
        cases a; cases b
        congr 1
        exact Array.toList_inj.1 h.1
      rw [h1, eqVgo_true l m' h.2]
    · cases h
theorem eqV_true {u v : Value} (h : eqV u v = true) : u = v := by
  unfold eqV at h
  split at h
  · simp only [Bool.and_eq_true, decide_eq_true_eq] at h
    rw [h.1, eqI_true h.2]
  · simp only [beq_iff_eq] at h
    rw [h]
  · rename_i a b
    simp only [beq_iff_eq] at h
    congr 1
    cases a; cases b
    congr 1
    exact Array.toList_inj.1 h
  · simp only [decide_eq_true_eq] at h
    rw [h]
  · simp only [Bool.and_eq_true, decide_eq_true_eq, Nat.beq_eq] at h
    rw [h.1.1, h.1.2, h.2]
  · rfl
  · rename_i a b
    congr 1
    exact Array.toList_inj.1 (eqVgo_true _ _ h)
  · cases h
theorem findNow_spec (hE : EnvOk P E) {kt : TypeId} {i : TI} (hi : E.ty.get kt = some i) (he : i.eqs = none) {k : Value} (hk : keyOk k = true) : ∀ (es : List (Value × Value)) (ms : List MapEntry) (n : Nat) (r : Option (Nat × Value)), MapR σ es ms → findM E kt k es n = some r → ∃ r', Instr.findNow i.und k ms n = some r' ∧ (r = none → r' = none) ∧ (∀ m v, r = some (m, v) → ∃ j e, m = n + j ∧ r' = some (m, e.val) ∧ ms[j]? = some e ∧ e.key = k ∧ VR σ v e.val)
  | _, _, n, r, .nil, h => by
    cases h
    exact ⟨none, rfl, fun _ => rfl, fun m v h => by cases h⟩
  | _, _, n, r, .cons (k := k1) (v := v1) (l := l) (e := e) (m := ms) hk1 hv hm ho, h => by
    simp only [findM] at h
    split at h
    · rename_i b hb
      have hsame : Instr.sameNow i.und k e.key = some b := by
        unfold eqA at hb
        rw [hi] at hb
        dsimp only at hb
        rw [he] at hb
        dsimp only at hb
        rw [hk1]
        unfold eqLeaf at hb
        split at hb
        · rename_i d kk hd
          split at hb
          · split at hb
            · split at hb
              · rename_i h9
                have h10 := of_decide_eq_true h9
                subst h10
                cases hb
                rw [hd]
                simp [Instr.sameNow, eqI_eq]
                rfl
              · cases hb
            · cases hb
          · cases hb
        · rename_i d hd
          split at hb
          · split at hb
            · cases hb
              rw [hd]
              simp [Instr.sameNow]
            · cases hb
          · cases hb
        · rename_i d hd
          split at hb
          · split at hb
            · cases hb
              rw [hd, baEq]
              simp [Instr.sameNow]
            · cases hb
          · cases hb
        · cases hb
      split at h
      · split at h
        · rename_i heq
          cases h
          have := eqV_true heq
          subst this
          refine ⟨some (n, e.val), by simp [Instr.findNow, hsame], (fun h => by cases h), fun m v h => ?_⟩
          cases h
          exact ⟨0, e, rfl, rfl, rfl, hk1, hv⟩
        · cases h
      · obtain ⟨r', h1, h2, h3⟩ := findNow_spec hE hi he hk l ms (n + 1) r hm h
        refine ⟨r', by simp [Instr.findNow, hsame, h1], h2, fun m v h => ?_⟩
        obtain ⟨j, e', k1, k2, k3, k4⟩ := h3 m v h
        exact ⟨j + 1, e', by omega, k2, by simpa using k3, k4⟩
    · cases h
theorem findAsk_spec (hE : EnvOk P E) {kt : TypeId} {i : TI} {lo : List (Nat × TypeId)} (hi : E.ty.get kt = some i) (he : i.eqs = some lo) {k : Value} (hk : keyOk k = true) : ∀ (es : List (Value × Value)) (ms : List MapEntry) (n : Nat) (r : Option (Nat × Value)), MapR σ es ms → findM E kt k es n = some r → ∀ w, ∃ r', (Instr.findAsking kt k ms n).run P w = .ok r' w ∧ (r = none → r' = none) ∧ (∀ m v, r = some (m, v) → ∃ j e, m = n + j ∧ r' = some (m, e.val) ∧ ms[j]? = some e ∧ e.key = k ∧ VR σ v e.val)
  | _, _, n, r, .nil, h, w => by
    cases h
    exact ⟨none, rfl, fun _ => rfl, fun m v h => by cases h⟩
  | _, _, n, r, .cons (k := k1) (v := v1) (l := l) (e := e) (m := ms) hk1 hv hm ho, h, w => by
    simp only [findM] at h
    split at h
    · rename_i b hb
      have heqr : (Op.equal kt k e.key).run P w = .ok b w := by
        unfold eqA at hb
        rw [hi] at hb
        dsimp only at hb
        rw [he] at hb
        dsimp only at hb
        rw [hk1]
        split at hb
        · rename_i xs
          split at hb
          · rename_i ys
            have a1 := VR.keyR (σ := σ) hk
            have a2 := VR.keyR (σ := σ) ho
            cases a1 with
            | agg a1 =>
              cases a2 with
              | agg a2 => exact eqS_run hE hi he a1 a2 hb w
          · cases hb
        · cases hb
      split at h
      · split at h
        · rename_i heq
          cases h
          have := eqV_true heq
          subst this
          refine ⟨some (n, e.val), by simp [Instr.findAsking, heqr], (fun h => by cases h), fun m v h => ?_⟩
          cases h
          exact ⟨0, e, rfl, rfl, rfl, hk1, hv⟩
        · cases h
      · obtain ⟨r', h1, h2, h3⟩ := findAsk_spec hE hi he hk l ms (n + 1) r hm h w
        refine ⟨r', by simp [Instr.findAsking, heqr, h1], h2, fun m v h => ?_⟩
        obtain ⟨j, e', k1, k2, k3, k4⟩ := h3 m v h
        exact ⟨j + 1, e', by omega, k2, by simpa using k3, k4⟩
    · cases h
theorem find_spec (hE : EnvOk P E) {kt : TypeId} {d : TypeDesc} (hu : P.underlying kt = some d) {k : Value} (hk : keyOk k = true) {es : List (Value × Value)} {ms : List MapEntry} {r : Option (Nat × Value)} (hm : MapR σ es ms) (h : findM E kt k es 0 = some r) (w : World) : ∃ r', (Instr.findKey kt k ms).run P w = .ok r' w ∧ (r = none → r' = none) ∧ (∀ m v, r = some (m, v) → ∃ e, r' = some (m, e.val) ∧ ms[m]? = some e ∧ e.key = k ∧ VR σ v e.val) := by
  cases hm with
  | nil =>
    cases h
    exact ⟨none, by simp [Instr.findKey, run_underlying hu, Instr.findNow], fun _ => rfl, fun m v h => by cases h⟩
  | cons hk1 hv hm ho =>
    rename_i k1 v1 l e ms
    have hm' : MapR σ ((k1, v1) :: l) (e :: ms) := .cons hk1 hv hm ho
    cases hi : E.ty.get kt with
    | none => simp [findM, eqA, hi, no] at h
    | some i =>
      have hu2 := (hE.ty kt i hi).1
      cases he : i.eqs with
      | none =>
        obtain ⟨r', h1, h2, h3⟩ := findNow_spec hE hi he hk _ _ 0 r hm' h
        refine ⟨r', by simp [Instr.findKey, run_underlying hu2, h1], h2, fun m v hr => ?_⟩
        obtain ⟨j, e', k1, k2, k3, k4⟩ := h3 m v hr
        have : m = j := by omega
        subst this
        exact ⟨e', k2, k3, k4⟩
      | some lo =>
        obtain ⟨r', h1, h2, h3⟩ := findAsk_spec hE hi he hk _ _ 0 r hm' h w
        obtain ⟨fs, g1, _⟩ := hE.eqs kt i lo hi he
        rw [g1] at hu2
        have hno : Instr.findNow (.struct fs) k (e :: ms) 0 = none := by simp [Instr.findNow, Instr.sameNow]
        refine ⟨r', by simp [Instr.findKey, run_underlying hu2, hno, h1], h2, fun m v hr => ?_⟩
        obtain ⟨j, e', k1, k2, k3, k4⟩ := h3 m v hr
        have : m = j := by omega
        subst this
        exact ⟨e', k2, k3, k4⟩
theorem HR.map (h : HR P σ g w) {B b : Nat} {es : List (Value × Value)} (hg : g B = some (.map es)) (hb : σ.blk B = some b) : ∃ ms clock, w.heap[b]? = some (.map ms clock) ∧ MapR σ es ms.toList := by
  obtain ⟨b', x, h1, h2, ms, c, rfl, h4⟩ := h.at_ B _ hg (by simp)
  rw [hb] at h1; cases h1
  exact ⟨ms, c, h2, h4⟩
theorem look_run (hE : EnvOk P E) {kt : TypeId} {B : Nat} {k z v : Value} {ok : Bool} (hs : EffS P σ s (.look kt B k z ok)) (hr : HR P σ g w) (hl : lookOb E kt k z ok (g B) = some v) : ∃ v', VR σ v v' ∧ s.run P w = .ok (.value v') w := by
  obtain ⟨⟨hk, d, hu⟩, b, z', hb, hz, hrun⟩ := hs
  unfold lookOb at hl
  split at hl
  · rename_i es hg
    obtain ⟨ms, clock, hw, hm⟩ := hr.map hg hb
    split at hl
    · rename_i r hf
      obtain ⟨r', h1, h2, h3⟩ := find_spec hE hu hk hm hf w
      have hrr := hrun w ms clock r' hw h1
      split at hl
      · rename_i m v0
        obtain ⟨e, k1, k2, k3, k4⟩ := h3 m v0 rfl
        subst k1
        split at hl
        · cases hl
          exact ⟨_, .tuple (.cons k4 (.cons (.bool true) .nil)), hrr⟩
        · cases hl
          exact ⟨_, k4, hrr⟩
      · have := h2 rfl
        subst this
        split at hl
        · cases hl
          exact ⟨_, .tuple (.cons hz (.cons (.bool false) .nil)), hrr⟩
        · cases hl
          exact ⟨_, hz, hrr⟩
    · cases hl
  · cases hl
theorem MapR.push {es : List (Value × Value)} {ms : List MapEntry} (h : MapR σ es ms) {k v : Value} {e : MapEntry} (hk : e.key = k) (hv : VR σ v e.val) (ho : keyOk k = true) : MapR σ (es ++ [(k, v)]) (ms ++ [e]) := by
  induction h with
  | nil => exact .cons hk hv .nil ho
  | cons a b c d ih => exact .cons a b ih d
theorem MapR.setAt {es : List (Value × Value)} {ms : List MapEntry} (h : MapR σ es ms) {k v : Value} {f : MapEntry → MapEntry} (hk : ∀ e, (f e).key = k) (hv : ∀ e, VR σ v (f e).val) (ho : keyOk k = true) : ∀ j, MapR σ (setAt (k, v) es j) (ms.modify j f) := by
  induction h with
  | nil => intro j; cases j <;> exact .nil
  | cons a b c d ih =>
    intro j
    cases j with
    | zero => exact .cons (hk _) (hv _) c ho
    | succ j => exact .cons a b (ih j) d
theorem doUpd_some (hE : EnvOk P E) {h : H} {kt : TypeId} {B : Nat} {k v : Value} {f : Value → H → Option β} {r : β} (e : doUpd E h kt B k v f = some r) : ∃ h1, f undef h1 = some r ∧ Up h h1 ∧ ∀ σ w s, EffS P σ s (.upd kt B k v) → HR P σ h.t.get w → ∃ w', s.run P w = .ok .skip w' ∧ Out P σ h.t.get h.nx w σ h1.t.get h1.nx w' := by
  unfold doUpd at e
  split at e
  · rename_i es hg
    split at e
    · rename_i r0 hf
      have hput : ∀ {σ : Sg} {w : World} {b : Nat} {t : T Ob} {es' : List (Value × Value)} {ms' : Array MapEntry} {c : Nat}, HR P σ h.t.get w → σ.blk B = some b → t.get = gset h.t.get B (.map es') → MapR σ es' ms'.toList → Out P σ h.t.get h.nx w σ t.get h.nx (w.putObj b (.map ms' c)) := by
        intro σ w b t es' ms' c hr hb ht hm
        have hlt : b < w.heap.size := hr.lt ⟨_, hg, by simp⟩ hb
        rw [ht]
        exact hr.set h.nx hg (by simp) hb (fun k hk => World.putObj_heap_other hk) (World.putObj_heap_same hlt) rfl rfl rfl (by simp) ⟨_, _, rfl, hm⟩
      split at e
      · rename_i m u
        obtain ⟨t, q1, q2⟩ := setH_some e
        refine ⟨_, q1, Up.set hg q2, fun σ w s hs hr => ?_⟩
        obtain ⟨⟨hk, d, hu⟩, b, v', hb, hv, hrun⟩ := hs
        obtain ⟨ms, clock, hw, hm⟩ := hr.map hg hb
        obtain ⟨r', h1, h2, h3⟩ := find_spec hE hu hk hm hf w
        obtain ⟨e0, k1, k2, k3, k4⟩ := h3 m u rfl
        subst k1
        have hx := (hrun w ms clock hw).2 m e0 e0.val h1 (by simpa using k2) k3
        refine ⟨_, hx, hput hr hb q2 ?_⟩
        have hm2 := hm.setAt (f := fun e => { e with key := k, val := v' }) (fun _ => rfl) (fun _ => hv) hk m
        have e9 : (ms.modify m fun e => { e with key := k, val := v' }).toList = ms.toList.modify m fun e => { e with key := k, val := v' } := by simp [Array.toList_modify]
        rw [e9]
        exact hm2
      · obtain ⟨t, q1, q2⟩ := setH_some e
        refine ⟨_, q1, Up.set hg q2, fun σ w s hs hr => ?_⟩
        obtain ⟨⟨hk, d, hu⟩, b, v', hb, hv, hrun⟩ := hs
        obtain ⟨ms, clock, hw, hm⟩ := hr.map hg hb
        obtain ⟨r', h1, h2, h3⟩ := find_spec hE hu hk hm hf w
        have := h2 rfl
        subst this
        have hx := (hrun w ms clock hw).1 h1
        refine ⟨_, hx, hput hr hb q2 ?_⟩
        rw [Array.toList_push]
        exact hm.push (e := { key := k, val := v', born := clock }) rfl hv hk
    · cases e
  · cases e
theorem doNext_some {h : H} {B : Nat} {f : Value → H → Option β} {r : β} (e : doNext h B f = some r) : ∃ v h1, f v h1 = some r ∧ Up h h1 ∧ ∀ σ w s, EffS P σ s (.nxt B) → HR P σ h.t.get w → ∃ v' w', VR σ v v' ∧ s.run P w = .ok (.value v') w' ∧ Out P σ h.t.get h.nx w σ h1.t.get h1.nx w' := by
  unfold doNext at e
  split at e
  · rename_i str pos hg
    have hat : ∀ {σ : Sg} {w : World} {b : Nat}, HR P σ h.t.get w → σ.blk B = some b → w.heap[b]? = some (.stringIter str pos) := by
      intro σ w b hr hb
      obtain ⟨b', x, h1, h2, h3⟩ := hr.at_ B _ hg (by simp)
      rw [hb] at h1; cases h1
      rw [h2]
      exact congrArg some h3
    split at e
    · rename_i hp
      have hp' : pos < str.size := by simpa [Nat.blt_eq] using hp
      split at e
      rename_i c width hd
      rw [fNat_eq] at e
      obtain ⟨t, q1, q2⟩ := setH_some e
      refine ⟨_, _, q1, Up.set hg q2, fun σ w s hs hr => ?_⟩
      obtain ⟨b, hb, hrun⟩ := hs
      have hw := hat hr hb
      have hx := (hrun w str pos hw).1 hp'
      rw [hd] at hx
      have hlt : b < w.heap.size := (Array.getElem?_eq_some_iff.1 hw).1
      refine ⟨_, _, .tuple (.cons (.bool true) (.cons (.int _ _) (.cons (.int _ _) .nil))), hx, ?_⟩
      rw [q2]
      exact hr.set h.nx hg (by simp) hb (fun k hk => World.putObj_heap_other hk) (World.putObj_heap_same hlt) rfl rfl rfl (by simp) rfl
    · rename_i hp
      have hp' : ¬ pos < str.size := by
        intro h9
        have : Nat.blt pos str.size = true := by simpa [Nat.blt_eq] using h9
        rw [this] at hp; cases hp
      refine ⟨_, h, e, Up.refl h, fun σ w s hs hr => ?_⟩
      obtain ⟨b, hb, hrun⟩ := hs
      have hx := (hrun w str pos (hat hr hb)).2 hp'
      exact ⟨_, w, .tuple (.cons (.bool false) .nil), hx, Out.refl _ hr⟩
  · cases e
theorem doFill_some {h : H} {a : Addr} {l : List Value} {f : Value → H → Option β} {r : β} (e : doFill h a l f = some r) : ∃ v h1, f v h1 = some r ∧ Up h h1 ∧ ∀ σ w s, EffS P σ s (.fill a l) → HR P σ h.t.get w → ∃ v' w', VR σ v v' ∧ s.run P w = .ok (.value v') w' ∧ Out P σ h.t.get h.nx w σ h1.t.get h1.nx w' := by
  unfold doFill at e
  split at e
  · rename_i el o k c hg
    split at e
    · rename_i c' hst
      obtain ⟨t, q1, q2⟩ := setH_some e
      refine ⟨_, _, q1, Up.set hg q2, fun σ w s hs hr => ?_⟩
      obtain ⟨b, l', hb, hl, hrun⟩ := hs
      obtain ⟨w', k1, k2⟩ := store_out (P := P) (h := h) hr hg hb hst hl q2
      exact ⟨_, w', .tuple .nil, by rw [hrun, k1]; rfl, k2⟩
    · cases e
  · cases e
end
end Go.Proofs.YtlhkaoccnpgkeaaGreat.Ev

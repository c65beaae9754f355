/- type2: a program that is gone through: what it is, and where it lies; Take · type2: all, stem, end. (Written by wip/type2/gentyn.py.) · type2: what a program does, in plain Lean · type2: stem, end. (Merged by wip/tools/mergetpl.py out of TyM, TyN, TyO, TyP.) -/
import Derived.Test.YtfgpocpfapnkkaaGreatTxD
import Derived.Test.YtfgpocpfapnkkaaGreatStP
import Derived.Test.YtfgpocpfapnkkaaGreatStX
import Derived.Test.YtfgpocpfapnkkaaGreatStT
import Derived.Test.YtfgpocpfapnkkaaGreatTyW
namespace Go.Proofs.YtfgpocpfapnkkaaGreat
open Go.RowKit
set_option linter.unusedVariables false
set_option linter.unusedSimpArgs false
/-- A program that is gone through. -/
structure Ms where
  stk : List Int
  store : List Int
  draws : List Int
  pen : Pe
  steps : Nat
  stems : Nat
  width : Int
  wide : Bool
  ended : Bool
/-- What it is given. -/
structure Pg where
  cv : Value
  gv : Value
  lv : Value
  dflt : Int
  nom : Int
  dv : Value
def runTs : List TypeId := [51, 36, 38, 3, 61, 53]
theorem pen_run : ∀ t ∈ penTs, t ∈ runTs := by decide
def MachC (w : World) (m s pn : Nat) (P : Pg) (st : Ms) : Prop :=
  w.heap[m]? = some (.cells #[P.cv, P.gv, P.lv, .int .i64 P.dflt, .int .i64 P.nom, P.dv, .pointer (some ⟨s, 0, none⟩), .pointer (some ⟨pn, 0, none⟩), .int .i64 (st.steps : Nat), .int .i64 (st.stems : Nat), .int .i64 st.width, .bool st.wide, .bool st.ended] 53 (0, 0))
/-- Where it lies. -/
structure Lc where
  m : Nat
  s : Nat
  pn : Nat
  B2 : Nat
/-- The draws' block holds numbers. -/
def TagI (w : World) (v : Value) : Prop := ∀ b, blockOf v = some b → ∃ cur z, w.heap[b]? = some (.cells cur 3 z)
theorem TagI.kp {S : List Nat} {w w' : World} {v : Value} (h : TagI w v) (hk : Kp S w w') (hS : ∀ s ∈ S, blockOf v ≠ some s) : TagI w' v := fun b e => by
  obtain ⟨cur, z, g⟩ := h b e
  exact ⟨cur, z, hk.heap g (fun hs => hS b hs e)⟩
def Mst (W0 : World) (c : Lc) (P : Pg) (st : Ms) (w : World) : Prop :=
  ∃ (B1 : Nat) (vl vd : Value), W0.heap.size ≤ B1 ∧ StS w c.s B1 vl st.stk st.store vd st.draws ∧ True ∧ TagI w vd ∧ PenA w c.pn c.B2 st.pen ∧ MachC w c.m c.s c.pn P st ∧ c.B2 ≤ c.m ∧ Kp [] W0 w ∧ W0.heap.size ≤ c.B2 ∧ c.B2 ≤ w.heap.size
def OkS (st : Ms) : Prop := OkM st.stk st.store ∧ okP st.pen ∧ st.steps ≤ 20000 ∧ st.stems ≤ 96
section
variable {W0 w w' : World} {c : Lc} {P : Pg} {st : Ms}
theorem ownC_tag {B : Nat} {e : TypeId} {v : Value} {l : List Int} (h : OwnC w B e v l) (b : Nat) (hb : v.ownBlock = some b) : B ≤ b ∧ ∃ cur z, w.heap[b]? = some (.cells cur e z) := by
  rcases h with ⟨rfl, _⟩ | ⟨g, cap, cur, rfl, h1, h2, _⟩
  · cases hb
  · cases hb; exact ⟨h1, cur, _, h2⟩
theorem ints_kt {S : List Nat} {Ts : List TypeId} {base : Nat} {k : IntKind} {v : Value} {zs : List Int} (h : IsInts k w v zs) (hk : KT S Ts base w w') (hb : ∀ b, blockOf v = some b → b < base ∧ b ∉ S) : IsInts k w' v zs := by
  rcases h with h | ⟨g, off, cap, rfl, h1, h2, h3⟩
  · exact .inl h
  · refine .inr ⟨g, off, cap, rfl, h1, h2, fun i hi => ?_⟩
    obtain ⟨b1, b2⟩ := hb g ((blockOf_some _ _ _ _ _ _).2 ⟨by omega, rfl⟩)
    have hlt := World.block_lt_of_cell? w _ (h3 i hi)
    obtain ⟨o, ho⟩ : ∃ o, w.heap[g]? = some o := ⟨_, Array.getElem?_eq_getElem hlt⟩
    exact (World.cell?_of_block ((hk.block g o ho b2 (.inl b1)).trans ho.symm)).trans (h3 i hi)
theorem Mst.kp0 (h : Mst W0 c P st w) (hk : Kp [] w w') : Mst W0 c P st w' := by
  obtain ⟨B1, vl, vd, h1, h2, h3, h4, h5, h6, h7, h8, h9, h10⟩ := h
  exact ⟨B1, vl, vd, h1, h2.kp0 hk, h3, h4.kp hk (by simp), h5.kp0 hk, hk.heap h6 (by simp), h7, h8.trans hk, h9, Nat.le_trans h10 hk.size⟩
theorem Mst.base (h : Mst W0 c P st w) : Kp [] W0 w := by obtain ⟨B1, vl, vd, h1, h2, h3, h4, h5, h6, h7, h8, h9, h10⟩ := h; exact h8
theorem Mst.kT {S : List Nat} (h : Mst W0 c P st w) (hk : KT S runTs W0.heap.size w w') (hS : ∀ s ∈ S, W0.heap.size ≤ s) : Kp [] W0 w' := hk.kp h.base (Nat.le_refl _) hS
theorem Mst.mach (h : Mst W0 c P st w) : MachC w c.m c.s c.pn P st := by obtain ⟨B1, vl, vd, h1, h2, h3, h4, h5, h6, h7, h8, h9, h10⟩ := h; exact h6
theorem Mst.pen (h : Mst W0 c P st w) : PenA w c.pn c.B2 st.pen ∧ c.B2 ≤ w.heap.size := by obtain ⟨B1, vl, vd, h1, h2, h3, h4, h5, h6, h7, h8, h9, h10⟩ := h; exact ⟨h5, h10⟩
/-- A reader's operation (or another block's that is none of the machine's). -/
theorem Mst.other {r : Nat} (h : Mst W0 c P st w) (hk : Kp [r] w w') (hr : ∃ cur t z, w.heap[r]? = some (.cells cur t z) ∧ t ∉ runTs) (hrB : W0.heap.size ≤ r) (hB : c.B2 ≤ r) : Mst W0 c P st w' := by
  obtain ⟨B1, vl, vd, h1, h2, h3, h4, h5, h6, h7, h8, h9, h10⟩ := h
  obtain ⟨cur, t, z, hr1, hr2⟩ := hr
  have ht : ∀ t2, t2 ∈ runTs → t ≠ t2 := fun t2 h e => hr2 (by rw [e]; exact h)
  have hvd : blockOf vd ≠ some r := fun e => by
    obtain ⟨cur2, z2, g⟩ := h4 r e
    rw [hr1] at g; cases g; exact ht 3 (by simp [runTs]) rfl
  have hrs : r ≠ c.s := fun e => by
    have g := h2.1
    rw [← e, hr1] at g; cases g; exact ht 61 (by simp [runTs]) rfl
  refine ⟨B1, vl, vd, h1, h2.kp hk (fun x hx => ?_), h3, h4.kp hk (fun x hx => by simp at hx; subst hx; exact hvd), h5.kt (KT.of_kp (S := [r]) (Ts := []) (base := 0) hk (fun x hx => .inl hx)) (fun x hx => ?_) (by simp), hk.heap h6 (fun hx => ?_), h7, h8.trans' hk (fun x hx => ?_), h9, Nat.le_trans h10 hk.size⟩
  · simp at hx; subst hx
    refine ⟨hrs, fun e => ?_, hvd⟩
    obtain ⟨_, cur2, z2, g⟩ := ownC_tag h2.2.2.2.1 _ e
    rw [hr1] at g; cases g; exact ht 3 (by simp [runTs]) rfl
  · simp at hx; subst hx
    exact ⟨cur, t, z, hr1, fun h => hr2 (pen_run t h)⟩
  · simp at hx
    rw [← hx] at hr1
    rw [h6] at hr1; cases hr1; exact ht 53 (by simp [runTs]) rfl
  · simp at hx; subst hx; exact .inr hrB
/-- An operation of the stack. -/
theorem Mst.stk {B1 : Nat} {vl vd vl' vd' : Value} {l' st' dr' : List Int} (h : Mst W0 c P st w) (hb : W0.heap.size ≤ B1) (hS : StS w c.s B1 vl st.stk st.store vd st.draws) (hd : TagI w vd)
    (hS' : StS w' c.s B1 vl' l' st' vd' dr') (hK : StK w w' c.s vl vl') (hV : KV vd vd') : Mst W0 c P { st with stk := l', store := st', draws := dr' } w' ∧ KT [] runTs W0.heap.size w w' := by
  obtain ⟨_, _, _, _, _, h3, _, h5, h6, h7, h8, h9, h10⟩ := h
  have htag : ∀ x ∈ c.s :: vl.ownBlock.toList, W0.heap.size ≤ x ∧ ∃ cur t z, w.heap[x]? = some (.cells cur t z) ∧ (t = 3 ∨ t = 61) := fun x hx => by
    rcases List.mem_cons.1 hx with rfl | hx
    · exact ⟨Nat.le_trans hb hS.2.2.1, _, _, _, hS.1, .inr rfl⟩
    · obtain ⟨g1, cur, z, g2⟩ := ownC_tag hS.2.2.2.1 x (own_mem hx)
      exact ⟨by omega, cur, _, z, g2, .inl rfl⟩
  refine ⟨⟨B1, vl', vd', hb, hS', h3, fun b e => (by
      obtain ⟨cur, z, g⟩ := hd b (hV b e)
      obtain ⟨x1, x2, _, _⟩ := hS.2.2.2.2.2.2 b (hV b e)
      exact ⟨cur, z, hK.1.heap g (fun hx => by
        rcases List.mem_cons.1 hx with h0 | h0
        · exact x1 h0
        · exact x2 (own_mem h0))⟩), h5.kt (KT.of_kp (S := c.s :: vl.ownBlock.toList) (Ts := []) (base := 0) hK.1 (fun x hx => .inl hx)) (fun x hx => ?_) (by simp), hK.1.heap h6 (fun hx => ?_), h7, h8.trans' hK.1 (fun x hx => .inr (htag x hx).1), h9, Nat.le_trans h10 hK.1.size⟩, ?_⟩
  · obtain ⟨_, cur, t, z, g, ht⟩ := htag x hx
    exact ⟨cur, t, z, g, by rcases ht with rfl | rfl <;> decide⟩
  · obtain ⟨_, cur, t, z, g, ht⟩ := htag _ hx
    rw [h6] at g
    rcases ht with rfl | rfl <;> cases g
  · exact KT.of_kp hK.1 (fun x hx => .inr (.inr (by
      obtain ⟨g0, cur, t, z, g, ht⟩ := htag x hx
      exact ⟨g0, cur, t, z, g, by rcases ht with rfl | rfl <;> decide⟩)))
theorem Mst.stack (h : Mst W0 c P st w) : ∃ (B1 : Nat) (vl vd : Value), W0.heap.size ≤ B1 ∧ StS w c.s B1 vl st.stk st.store vd st.draws ∧ TagI w vd := by
  obtain ⟨B1, vl, vd, h1, h2, h3, h4, h5, h6, h7, h8, h9, h10⟩ := h
  exact ⟨B1, vl, vd, h1, h2, h4⟩
/-- An operation of the pen. -/
theorem Mst.draw {q' : Pe} (h : Mst W0 c P st w) (hA : PenA w' c.pn c.B2 q') (hk : KT [] penTs c.B2 w w') : Mst W0 c P { st with pen := q' } w' ∧ KT [] runTs W0.heap.size w w' := by
  obtain ⟨B1, vl, vd, h1, h2, h3, h4, h5, h6, h7, h8, h9, h10⟩ := h
  obtain ⟨s1, s2, s3, s4, s5, s6, s7⟩ := h2
  refine ⟨⟨B1, vl, vd, h1, ⟨hk.heap s1 (by simp) (.inr (by decide)), s2, s3, hk.ownC s4 (by simp) (by decide), s5, (RdI.kt (b0 := 0) ⟨s6, h4⟩ hk (by simp) (by decide)).1, fun b e => ?_⟩, h3, (RdI.kt (b0 := 0) ⟨s6, h4⟩ hk (by simp) (by decide)).2, hA, hk.heap h6 (by simp) (.inr (by decide)), h7, hk.kp h8 h9 (by simp), h9, Nat.le_trans h10 hk.size⟩, hk.mono (by simp) (by decide) h9⟩
  obtain ⟨x1, x2, x3, x4⟩ := s7 b e
  exact ⟨x1, x2, x3, Nat.lt_of_lt_of_le x4 hk.size⟩
/-- A field of the machine. -/
theorem Mst.field {st' : Ms} (i : Nat) (u : Value) (h : Mst W0 c P st w) (hm : MachC (w.setCell ⟨c.m, i, none⟩ u) c.m c.s c.pn P st') (e1 : st'.stk = st.stk) (e2 : st'.store = st.store) (e3 : st'.draws = st.draws) (e4 : st'.pen = st.pen) :
    Mst W0 c P st' (w.setCell ⟨c.m, i, none⟩ u) ∧ KT [] runTs W0.heap.size w (w.setCell ⟨c.m, i, none⟩ u) := by
  obtain ⟨B1, vl, vd, h1, h2, h3, h4, h5, h6, h7, h8, h9, h10⟩ := h
  have hk : Kp [c.m] w (w.setCell ⟨c.m, i, none⟩ u) := (Kp.refl _ _).setCell (.inl (by simp)) _
  have hvd : blockOf vd ≠ some c.m := fun e => by
    obtain ⟨cur2, z2, g⟩ := h4 _ e
    rw [h6] at g; cases g
  have hms : c.m ≠ c.s := fun e => by
    have g := h2.1
    rw [← e, h6] at g
    exact absurd (Obj.cells.inj (Option.some.inj g)).2.1 (by decide)
  refine ⟨⟨B1, vl, vd, h1, ?_, h3, h4.kp hk (fun x hx => by simp at hx; subst hx; exact hvd), ?_, hm, h7, h8.trans' hk (fun x hx => ?_), h9, Nat.le_trans h10 hk.size⟩, KT.of_kp hk (fun x hx => ?_)⟩
  · rw [e1, e2, e3]
    refine h2.kp hk (fun x hx => ?_)
    simp at hx; subst hx
    refine ⟨hms, fun e => ?_, hvd⟩
    obtain ⟨_, cur2, z2, g⟩ := ownC_tag h2.2.2.2.1 _ e
    rw [h6] at g; cases g
  · rw [e4]
    exact h5.kt (KT.of_kp (S := [c.m]) (Ts := []) (base := 0) hk (fun x hx => .inl hx)) (fun x hx => by simp at hx; subst hx; exact ⟨_, _, _, h6, by decide⟩) (by simp)
  · simp at hx; subst hx; exact .inr (by omega)
  · simp at hx; subst hx; exact .inr (.inr ⟨by omega, _, _, _, h6, by decide⟩)
end
theorem MachC.facts {w : World} {m s pn : Nat} {P : Pg} {st : Ms} (h : MachC w m s pn P st) :
    w.cell? ⟨m, 6, none⟩ = some (.pointer (some ⟨s, 0, none⟩)) ∧ w.cell? ⟨m, 7, none⟩ = some (.pointer (some ⟨pn, 0, none⟩)) ∧ w.cell? ⟨m, 8, none⟩ = some (.int .i64 (st.steps : Nat)) ∧ w.cell? ⟨m, 9, none⟩ = some (.int .i64 (st.stems : Nat)) ∧ w.cell? ⟨m, 10, none⟩ = some (.int .i64 st.width) ∧ w.cell? ⟨m, 11, none⟩ = some (.bool st.wide) ∧ w.cell? ⟨m, 12, none⟩ = some (.bool st.ended) ∧ ∀ j, w.frozen? ⟨m, j, none⟩ = false :=
  ⟨cell_of_row w m 6 _ _ _ h, cell_of_row w m 7 _ _ _ h, cell_of_row w m 8 _ _ _ h, cell_of_row w m 9 _ _ _ h, cell_of_row w m 10 _ _ _ h, cell_of_row w m 11 _ _ _ h, cell_of_row w m 12 _ _ _ h, fun j => frozen_of_row w m j _ _ h⟩
theorem MachC.given {w : World} {m s pn : Nat} {P : Pg} {st : Ms} (h : MachC w m s pn P st) :
    w.cell? ⟨m, 0, none⟩ = some P.cv ∧ w.cell? ⟨m, 1, none⟩ = some P.gv ∧ w.cell? ⟨m, 2, none⟩ = some P.lv ∧ w.cell? ⟨m, 3, none⟩ = some (.int .i64 P.dflt) ∧ w.cell? ⟨m, 4, none⟩ = some (.int .i64 P.nom) ∧ w.cell? ⟨m, 5, none⟩ = some P.dv :=
  ⟨cell_of_row w m 0 _ _ _ h, cell_of_row w m 1 _ _ _ h, cell_of_row w m 2 _ _ _ h, cell_of_row w m 3 _ _ _ h, cell_of_row w m 4 _ _ _ h, cell_of_row w m 5 _ _ _ h⟩
/-- Take. -/
theorem stakeR_calls (s base : Nat) (vl vd : Value) (l st dr : List Int) (w : World) (h : StS w s base vl l st vd dr) :
    Calls Tryz.prog 66 #[.pointer (some ⟨s, 0, none⟩)] w fun e w' => e = .returned vl ∧ RdI w' 0 vl l ∧ StS w' s base (.slice none 0 0) [] st vd dr ∧ StK w w' s vl (.slice none 0 0) := by
  have c0 := h.cell0
  have f0 := h.frozen 0
  have hP := Lib.hid (h.put' (h.2.2.2.1 |> fun _ => (Kp.refl vl.ownBlock.toList w)) (v' := .slice none 0 0) (l' := []) (.inl ⟨rfl, rfl⟩) (fun k hk => by cases hk))
  have H := Lib.hid h
  obtain ⟨p, cc, rfl⟩ := h.2.2.2.1.form
  clear h
  go_enter Tryz.func66, Tryz.ntmps66
  go_wp2_with fail
  go_ret
  refine ⟨rfl, ?_, hP.out.1, hP.out.2⟩
  have hk : Kp [s] w (w.setCell ⟨s, 0, none⟩ (.slice none 0 0)) := (Kp.refl _ _).setCell (.inl (by simp)) _
  have ho := H.out.2.2.2.1.kp hk (fun t ht => by simp at ht; subst ht; exact H.out.2.2.2.2.1)
  exact ⟨ho.ints, fun b hb => by obtain ⟨_, cur, z, g⟩ := ownC_tag ho b (blockOf_own hb); exact ⟨cur, z, g⟩⟩
end Go.Proofs.YtfgpocpfapnkkaaGreat
namespace Go.Proofs.YtfgpocpfapnkkaaGreat
open Go.RowKit
set_option linter.unusedVariables false
set_option linter.unusedSimpArgs false
def allS (st : Ms) (nom : Int) (b : Bool) : Ms := if b then { st with stk := [], wide := false, width := sumV (st.stk.getD 0 0) nom } else { st with stk := [], wide := false }
def allL (st : Ms) (b : Bool) : List Int := if b then st.stk.drop 1 else st.stk
def allE (st : Ms) (nom : Int) (b : Bool) : Int := if b then sumE (st.stk.getD 0 0) nom else 0
/-- What all leaves. -/
def AllP (W0 : World) (c : Lc) (P : Pg) (st : Ms) (b : Bool) (w : World) (e : Ending) (w' : World) : Prop :=
  ∃ lv, e = .returned (.tuple #[lv, .int .i64 (allE st P.nom b)]) ∧ RdI w' 0 lv (allL st b) ∧ Mst W0 c P (allS st P.nom b) w' ∧ KT [] runTs W0.heap.size w w'
theorem RdI.field {w : World} {v : Value} {xs : List Int} {W0 : World} {c : Lc} {P : Pg} {st : Ms} {i : Nat} {u : Value} (h : RdI w 0 v xs) (hm : Mst W0 c P st w) : RdI (w.setCell ⟨c.m, i, none⟩ u) 0 v xs := by
  have hk : Kp [c.m] w (w.setCell ⟨c.m, i, none⟩ u) := (Kp.refl _ _).setCell (.inl (by simp)) _
  have h6 := hm.mach
  refine h.kt (KT.of_kp (S := [c.m]) (Ts := []) (base := 0) hk (fun x hx => .inl hx)) (fun x hx e => ?_) (by simp)
  simp at hx; subst hx
  obtain ⟨cur, z, g⟩ := h.2 _ e
  rw [h6] at g; cases g
theorem AllP.no {W0 : World} {c : Lc} {P : Pg} {st : Ms} {b : Bool} {w w' : World} {lv : Value} (hb : b = false) (hr : RdI w' 0 lv st.stk) (hm : Mst W0 c P { st with stk := [], wide := false } w') (hk : KT [] runTs W0.heap.size w w') : AllP W0 c P st b w (.returned (.tuple #[lv, .int .i64 0])) w' := by
  subst hb; exact ⟨lv, rfl, hr, hm, hk⟩
theorem AllP.yes {W0 : World} {c : Lc} {P : Pg} {st : Ms} {b : Bool} {w w' : World} {lv : Value} {a : Int} {t : List Int} (hb : b = true) (hs : st.stk = a :: t) (hr : RdI w' 0 lv t) (hm : Mst W0 c P { st with stk := [], wide := false, width := sumV a P.nom } w') (hk : KT [] runTs W0.heap.size w w') : AllP W0 c P st b w (.returned (.tuple #[lv, .int .i64 (sumE a P.nom)])) w' := by
  subst hb
  refine ⟨lv, ?_, ?_, ?_, hk⟩
  · show _ = Ending.returned (.tuple #[lv, .int .i64 (sumE (st.stk.getD 0 0) P.nom)]); rw [hs]; rfl
  · show RdI w' 0 lv (st.stk.drop 1); rw [hs]; exact hr
  · show Mst W0 c P { st with stk := [], wide := false, width := sumV (st.stk.getD 0 0) P.nom } w'; rw [hs]; exact hm
theorem addK (a b : Int) (W : World) : Calls Tryz.prog 67 #[.int .i64 a, .int .i64 b] W fun e w' => e = .returned (.tuple #[.int .i64 (sumV a b), .int .i64 (sumE a b)]) ∧ Kp [] W w' := (add_calls a b W).mono fun e w' ⟨h1, h2⟩ => ⟨h1, Kp.of_below h2⟩
set_option maxRecDepth 100000 in
set_option maxHeartbeats 8000000 in
theorem all0_calls (W0 : World) (c : Lc) (P : Pg) (st : Ms) (w : World) (h : Mst W0 c P st w) (ok : OkS st) (k : Nat) (hent : ∀ (args : Array Value) (w : World), (callFunc k args).run Tryz.prog w = .ok (.enter k args) w) (isF : Bool) (his0 : isF = true → st.stk ≠ [])
    (his : ∀ W, KT [] runTs W0.heap.size w W → Calls Tryz.prog k #[.int .i64 (st.stk.length : Nat)] W fun e W' => e = .returned (.bool isF) ∧ W = W') :
    Calls Tryz.prog 55 #[.pointer (some ⟨c.m, 0, none⟩), .func (.func k) #[] #[]] w (AllP W0 c P st (st.wide && isF) w) := by
  obtain ⟨B1, vl, vd, hB1, hS, hd⟩ := h.stack
  have HT := Lib.hid (stakeR_calls c.s B1 vl vd st.stk st.store st.draws w hS)
  have H0 : Hid (∀ w', StS w' c.s B1 (.slice none 0 0) [] st.store vd st.draws → StK w w' c.s vl (.slice none 0 0) → Mst W0 c P { st with stk := [] } w' ∧ KT [] runTs W0.heap.size w w') := fun w' h1 h2 => h.stk hB1 hS hd h1 h2 (KV.refl vd)
  obtain ⟨c6, c7, c8, c9, c10, c11, c12, fz⟩ := h.mach.facts
  have hlen := ok.1.1
  have HIS := Lib.hid his
  obtain ⟨S, hSt⟩ : ∃ S, st.stk = S := ⟨_, rfl⟩
  rw [hSt] at HT HIS his0 hlen
  have HE0 : Hid (st.wide = false → AllP W0 c P st (st.wide && isF) w = AllP W0 c P st false w) := fun h => by rw [h]; rfl
  have hvl : ∃ p cc, vl = .slice p S.length cc := by rw [← hSt]; exact hS.2.2.2.1.form
  obtain ⟨p, cc, rfl⟩ := hvl
  obtain ⟨N, hN⟩ : ∃ N, S.length = N := ⟨_, rfl⟩
  have HN := Lib.hid hN
  rw [hN] at HT HIS H0 hlen
  have HS := Lib.hid hSt
  clear h hS hd ok his c7 c8 c9 c10 c12 fz hSt hN HE0 c11
  go_enter Tryz.func55, Tryz.ntmps55
  go_wp2_with fail
  refine HT.out.mono ?_; rintro e w1 ⟨rfl, hR1, hS1, hK1⟩
  obtain ⟨hM1, hT1⟩ := H0.out w1 hS1 hK1
  have HM1 := Lib.hid hM1
  have HT1 := Lib.hid hT1
  have HR1 := Lib.hid hR1
  obtain ⟨_, _, _, _, _, c11, _, fz⟩ := hM1.mach.facts
  replace c11 : w1.cell? ⟨c.m, 11, none⟩ = some (.bool st.wide) := c11
  have f11 := fz 11
  clear hM1 hT1 hR1 hS1 hK1 HT c6 fz
  have hF := HM1.out.field (st' := { st with stk := [], wide := false }) 11 (.bool false) (heap_setCell_same w1 c.m 11 _ _ _ HM1.out.mach) rfl rfl rfl rfl
  have HM2 := Lib.hid hF.1
  have HT2 : Hid (KT [] runTs W0.heap.size w (w1.setCell ⟨c.m, 11, none⟩ (.bool false))) := HT1.out.trans hF.2
  have HR2 := Lib.hid (HR1.out.field (i := 11) (u := .bool false) HM1.out)
  clear hF
  cases hwide : st.wide with
  | false =>
    rw [hwide] at c11
    go_wp2_with fail
    go_ret2
    exact AllP.no (by first | rfl | (rw [hwide]; rfl)) (by rw [HS.out]; exact HR2.out) HM2.out HT2.out
  | true =>
    rw [hwide] at c11
    go_upto_region 4 with fail
    refine wp_genT ?_; intro W2 hW2
    rw [← hW2] at HM2 HT2 HR2
    clear hW2 c11 f11
    cases isF with
    | false =>
      go_wp2_with fail
      refine (HIS.out W2 HT2.out).mono ?_; rintro e w3 ⟨rfl, rfl⟩
      go_wp2_with fail
      go_ret2
      exact AllP.no (by first | rfl | (rw [hwide]; rfl)) (by rw [HS.out]; exact HR2.out) HM2.out HT2.out
    | true =>
      have hne := his0 rfl
      have hpos : 0 < S.length := List.length_pos_iff.2 hne
      obtain ⟨a, t, rfl⟩ := List.exists_cons_of_ne_nil hne
      obtain ⟨g, off, cap2, hv, hc1, hc2, _⟩ := HR2.out.at hpos
      obtain ⟨rfl, -, rfl⟩ : p = some ⟨g, off, none⟩ ∧ _ ∧ cc = cap2 := by simpa using hv
      have d0 : W2.cell? ⟨g, off, none⟩ = some (.int .i64 a) := by have := HR2.out.cells (B := 0) 0 hpos (KT.refl _ _ _ _) a rfl; rwa [Nat.add_zero] at this
      obtain ⟨_, _, _, _, c4, _⟩ := HM2.out.mach.given
      obtain ⟨m, hm⟩ : ∃ m, N = m + 1 := ⟨t.length, by rw [← HN.out]; rfl⟩
      subst hm
      have HTL : Hid (t.length = m) := by have := HN.out; simp at this; exact this
      have hcm : m + 1 ≤ cc := by rw [← HN.out]; exact hc1
      have HDR := Lib.hid (fun (hcl : 1 < cc) => HR2.out.drop 1 hcl (by omega))
      unfold maxLen at hc2
      clear hv hc1 hpos hne his0
      by_cases hcap : cc = 1
      · subst hcap
        obtain rfl : m = 0 := by omega
        have HT0 : Hid (t = []) := List.eq_nil_of_length_eq_zero HTL.out
        go_wp2_with fail
        refine (HIS.out W2 HT2.out).mono ?_; rintro e w3 ⟨rfl, rfl⟩
        go_wp2_with fail
        have q0 := KW.cell d0
        have q4 := KW.cell c4
        clear d0 c4
        refine wp_region_kq (by kernel_rfl) (by kernel_rfl) ?_
        repeat (go_big_quiet_step ((go_at_call 67; exact Calls.kq (addK a P.nom _))))
        refine wpQuiet_nil ?_
        intro w4 hw'
        obtain ⟨⟨_, hkw4⟩, rfl⟩ := hw'
        clear q0 q4
        have hM4 := HM2.out.kp0 hkw4
        have f10 := hM4.mach.facts.2.2.2.2.2.2.2 10
        have c10 := hM4.mach.facts.2.2.2.2.1
        have hF := hM4.field (st' := { st with stk := [], wide := false, width := sumV a P.nom }) 10 (.int .i64 (sumV a P.nom)) (heap_setCell_same w4 c.m 10 _ _ _ hM4.mach) rfl rfl rfl rfl
        have HM5 := Lib.hid hF.1
        have HT5 := Lib.hid (HT2.out.trans ((KT.of_kp0 hkw4).trans hF.2))
        clear hF hM4
        go_wp2_with fail
        go_ret2
        exact AllP.yes (by first | rfl | (rw [hwide]; rfl)) HS.out (by rw [HT0.out]; exact RdI.empty _ _ _) HM5.out HT5.out
      · have hcl : 1 < cc := by omega
        have HD := Lib.hid (HDR.out hcl)
        go_wp2_with fail
        refine (HIS.out W2 HT2.out).mono ?_; rintro e w3 ⟨rfl, rfl⟩
        go_wp2_with fail
        have q0 := KW.cell d0
        have q4 := KW.cell c4
        clear d0 c4
        refine wp_region_kq (by kernel_rfl) (by kernel_rfl) ?_
        repeat (go_big_quiet_step ((go_at_call 67; exact Calls.kq (addK a P.nom _))))
        refine wpQuiet_nil ?_
        intro w4 hw'
        obtain ⟨⟨_, hkw4⟩, rfl⟩ := hw'
        clear q0 q4
        have hM4 := HM2.out.kp0 hkw4
        have f10 := hM4.mach.facts.2.2.2.2.2.2.2 10
        have c10 := hM4.mach.facts.2.2.2.2.1
        have hF := hM4.field (st' := { st with stk := [], wide := false, width := sumV a P.nom }) 10 (.int .i64 (sumV a P.nom)) (heap_setCell_same w4 c.m 10 _ _ _ hM4.mach) rfl rfl rfl rfl
        have HM5 := Lib.hid hF.1
        have HT5 := Lib.hid (HT2.out.trans ((KT.of_kp0 hkw4).trans hF.2))
        have HD5 : Hid (RdI (w4.setCell ⟨c.m, 10, none⟩ (.int .i64 (sumV a P.nom))) 0 (.slice (some ⟨g, off + 1, none⟩) m (cc - 1)) t) := by
          have h9 := (HD.out.kp0 hkw4).field (i := 10) (u := .int .i64 (sumV a P.nom)) hM4
          have h9' : RdI (w4.setCell ⟨c.m, 10, none⟩ (.int .i64 (sumV a P.nom))) 0 (.slice (some ⟨g, off + 1, none⟩) m (cc - 1)) t := by simpa using h9
          exact h9'
        clear hF hM4
        go_wp2_with fail
        go_ret2
        exact AllP.yes (by first | rfl | (rw [hwide]; rfl)) HS.out HD5.out HM5.out HT5.out
set_option maxRecDepth 100000 in
set_option maxHeartbeats 8000000 in
theorem all1_calls (W0 : World) (c : Lc) (P : Pg) (st : Ms) (w : World) (h : Mst W0 c P st w) (ok : OkS st) (k : Nat) (cap : Value) (hent : ∀ (args : Array Value) (w : World), (callFunc k args).run Tryz.prog w = .ok (.enter k args) w) (isF : Bool) (his0 : isF = true → st.stk ≠ [])
    (his : ∀ W, KT [] runTs W0.heap.size w W → Calls Tryz.prog k #[.int .i64 (st.stk.length : Nat), cap] W fun e W' => e = .returned (.bool isF) ∧ W = W') :
    Calls Tryz.prog 55 #[.pointer (some ⟨c.m, 0, none⟩), .func (.func k) #[] #[cap]] w (AllP W0 c P st (st.wide && isF) w) := by
  obtain ⟨B1, vl, vd, hB1, hS, hd⟩ := h.stack
  have HT := Lib.hid (stakeR_calls c.s B1 vl vd st.stk st.store st.draws w hS)
  have H0 : Hid (∀ w', StS w' c.s B1 (.slice none 0 0) [] st.store vd st.draws → StK w w' c.s vl (.slice none 0 0) → Mst W0 c P { st with stk := [] } w' ∧ KT [] runTs W0.heap.size w w') := fun w' h1 h2 => h.stk hB1 hS hd h1 h2 (KV.refl vd)
  obtain ⟨c6, c7, c8, c9, c10, c11, c12, fz⟩ := h.mach.facts
  have hlen := ok.1.1
  have HIS := Lib.hid his
  obtain ⟨S, hSt⟩ : ∃ S, st.stk = S := ⟨_, rfl⟩
  rw [hSt] at HT HIS his0 hlen
  have HE0 : Hid (st.wide = false → AllP W0 c P st (st.wide && isF) w = AllP W0 c P st false w) := fun h => by rw [h]; rfl
  have hvl : ∃ p cc, vl = .slice p S.length cc := by rw [← hSt]; exact hS.2.2.2.1.form
  obtain ⟨p, cc, rfl⟩ := hvl
  obtain ⟨N, hN⟩ : ∃ N, S.length = N := ⟨_, rfl⟩
  have HN := Lib.hid hN
  rw [hN] at HT HIS H0 hlen
  have HS := Lib.hid hSt
  clear h hS hd ok his c7 c8 c9 c10 c12 fz hSt hN HE0 c11
  go_enter Tryz.func55, Tryz.ntmps55
  go_wp2_with fail
  refine HT.out.mono ?_; rintro e w1 ⟨rfl, hR1, hS1, hK1⟩
  obtain ⟨hM1, hT1⟩ := H0.out w1 hS1 hK1
  have HM1 := Lib.hid hM1
  have HT1 := Lib.hid hT1
  have HR1 := Lib.hid hR1
  obtain ⟨_, _, _, _, _, c11, _, fz⟩ := hM1.mach.facts
  replace c11 : w1.cell? ⟨c.m, 11, none⟩ = some (.bool st.wide) := c11
  have f11 := fz 11
  clear hM1 hT1 hR1 hS1 hK1 HT c6 fz
  have hF := HM1.out.field (st' := { st with stk := [], wide := false }) 11 (.bool false) (heap_setCell_same w1 c.m 11 _ _ _ HM1.out.mach) rfl rfl rfl rfl
  have HM2 := Lib.hid hF.1
  have HT2 : Hid (KT [] runTs W0.heap.size w (w1.setCell ⟨c.m, 11, none⟩ (.bool false))) := HT1.out.trans hF.2
  have HR2 := Lib.hid (HR1.out.field (i := 11) (u := .bool false) HM1.out)
  clear hF
  cases hwide : st.wide with
  | false =>
    rw [hwide] at c11
    go_wp2_with fail
    go_ret2
    exact AllP.no (by first | rfl | (rw [hwide]; rfl)) (by rw [HS.out]; exact HR2.out) HM2.out HT2.out
  | true =>
    rw [hwide] at c11
    go_upto_region 4 with fail
    refine wp_genT ?_; intro W2 hW2
    rw [← hW2] at HM2 HT2 HR2
    clear hW2 c11 f11
    cases isF with
    | false =>
      go_wp2_with fail
      refine (HIS.out W2 HT2.out).mono ?_; rintro e w3 ⟨rfl, rfl⟩
      go_wp2_with fail
      go_ret2
      exact AllP.no (by first | rfl | (rw [hwide]; rfl)) (by rw [HS.out]; exact HR2.out) HM2.out HT2.out
    | true =>
      have hne := his0 rfl
      have hpos : 0 < S.length := List.length_pos_iff.2 hne
      obtain ⟨a, t, rfl⟩ := List.exists_cons_of_ne_nil hne
      obtain ⟨g, off, cap2, hv, hc1, hc2, _⟩ := HR2.out.at hpos
      obtain ⟨rfl, -, rfl⟩ : p = some ⟨g, off, none⟩ ∧ _ ∧ cc = cap2 := by simpa using hv
      have d0 : W2.cell? ⟨g, off, none⟩ = some (.int .i64 a) := by have := HR2.out.cells (B := 0) 0 hpos (KT.refl _ _ _ _) a rfl; rwa [Nat.add_zero] at this
      obtain ⟨_, _, _, _, c4, _⟩ := HM2.out.mach.given
      obtain ⟨m, hm⟩ : ∃ m, N = m + 1 := ⟨t.length, by rw [← HN.out]; rfl⟩
      subst hm
      have HTL : Hid (t.length = m) := by have := HN.out; simp at this; exact this
      have hcm : m + 1 ≤ cc := by rw [← HN.out]; exact hc1
      have HDR := Lib.hid (fun (hcl : 1 < cc) => HR2.out.drop 1 hcl (by omega))
      unfold maxLen at hc2
      clear hv hc1 hpos hne his0
      by_cases hcap : cc = 1
      · subst hcap
        obtain rfl : m = 0 := by omega
        have HT0 : Hid (t = []) := List.eq_nil_of_length_eq_zero HTL.out
        go_wp2_with fail
        refine (HIS.out W2 HT2.out).mono ?_; rintro e w3 ⟨rfl, rfl⟩
        go_wp2_with fail
        have q0 := KW.cell d0
        have q4 := KW.cell c4
        clear d0 c4
        refine wp_region_kq (by kernel_rfl) (by kernel_rfl) ?_
        repeat (go_big_quiet_step ((go_at_call 67; exact Calls.kq (addK a P.nom _))))
        refine wpQuiet_nil ?_
        intro w4 hw'
        obtain ⟨⟨_, hkw4⟩, rfl⟩ := hw'
        clear q0 q4
        have hM4 := HM2.out.kp0 hkw4
        have f10 := hM4.mach.facts.2.2.2.2.2.2.2 10
        have c10 := hM4.mach.facts.2.2.2.2.1
        have hF := hM4.field (st' := { st with stk := [], wide := false, width := sumV a P.nom }) 10 (.int .i64 (sumV a P.nom)) (heap_setCell_same w4 c.m 10 _ _ _ hM4.mach) rfl rfl rfl rfl
        have HM5 := Lib.hid hF.1
        have HT5 := Lib.hid (HT2.out.trans ((KT.of_kp0 hkw4).trans hF.2))
        clear hF hM4
        go_wp2_with fail
        go_ret2
        exact AllP.yes (by first | rfl | (rw [hwide]; rfl)) HS.out (by rw [HT0.out]; exact RdI.empty _ _ _) HM5.out HT5.out
      · have hcl : 1 < cc := by omega
        have HD := Lib.hid (HDR.out hcl)
        go_wp2_with fail
        refine (HIS.out W2 HT2.out).mono ?_; rintro e w3 ⟨rfl, rfl⟩
        go_wp2_with fail
        have q0 := KW.cell d0
        have q4 := KW.cell c4
        clear d0 c4
        refine wp_region_kq (by kernel_rfl) (by kernel_rfl) ?_
        repeat (go_big_quiet_step ((go_at_call 67; exact Calls.kq (addK a P.nom _))))
        refine wpQuiet_nil ?_
        intro w4 hw'
        obtain ⟨⟨_, hkw4⟩, rfl⟩ := hw'
        clear q0 q4
        have hM4 := HM2.out.kp0 hkw4
        have f10 := hM4.mach.facts.2.2.2.2.2.2.2 10
        have c10 := hM4.mach.facts.2.2.2.2.1
        have hF := hM4.field (st' := { st with stk := [], wide := false, width := sumV a P.nom }) 10 (.int .i64 (sumV a P.nom)) (heap_setCell_same w4 c.m 10 _ _ _ hM4.mach) rfl rfl rfl rfl
        have HM5 := Lib.hid hF.1
        have HT5 := Lib.hid (HT2.out.trans ((KT.of_kp0 hkw4).trans hF.2))
        have HD5 : Hid (RdI (w4.setCell ⟨c.m, 10, none⟩ (.int .i64 (sumV a P.nom))) 0 (.slice (some ⟨g, off + 1, none⟩) m (cc - 1)) t) := by
          have h9 := (HD.out.kp0 hkw4).field (i := 10) (u := .int .i64 (sumV a P.nom)) hM4
          have h9' : RdI (w4.setCell ⟨c.m, 10, none⟩ (.int .i64 (sumV a P.nom))) 0 (.slice (some ⟨g, off + 1, none⟩) m (cc - 1)) t := by simpa using h9
          exact h9'
        clear hF hM4
        go_wp2_with fail
        go_ret2
        exact AllP.yes (by first | rfl | (rw [hwide]; rfl)) HS.out HD5.out HM5.out HT5.out
end Go.Proofs.YtfgpocpfapnkkaaGreat
namespace Go.Proofs.YtfgpocpfapnkkaaGreat
open Go.RowKit
set_option linter.unusedVariables false
set_option linter.unusedSimpArgs false
abbrev Rm := Except Int Ms
def errOf : Rm → Int
  | .error e => e
  | .ok _ => 0
/-- What an operation of the machine leaves. -/
def ResP (W0 : World) (c : Lc) (P : Pg) (r : Rm) (w : World) (e : Ending) (w' : World) : Prop :=
  e = .returned (.int .i64 (errOf r)) ∧ (∀ st', r = .ok st' → Mst W0 c P st' w') ∧ KT [] runTs W0.heap.size w w'
def stemM (nom : Int) (st : Ms) : Rm :=
  let b := st.wide && decide (st.stk.length % 2 = 1)
  let l := allL st b
  if allE st nom b ≠ 0 then .error (allE st nom b)
  else if l.length % 2 = 1 ∨ 96 < st.stems + l.length / 2 then .error 180
  else .ok { allS st nom b with stems := st.stems + l.length / 2 }
def endM (nom : Int) (st : Ms) : Rm :=
  let b := st.wide && (decide (st.stk.length = 1) || decide (st.stk.length = 5))
  let l := allL st b
  if allE st nom b ≠ 0 then .error (allE st nom b)
  else if l.length = 4 then .error 183
  else if l.length ≠ 0 then .error 180
  else .ok { allS st nom b with ended := true }
def sk0 : Sk := ⟨0, 0, 0, 0, false, 0, fun q _ => q⟩
def drawS (nom : Int) (s : Sk) (st : Ms) : Rm :=
  let b := st.wide && (s.wide && decide (st.stk.length = s.least + 1))
  let l := allL st b
  if allE st nom b ≠ 0 then .error (allE st nom b)
  else if skOk s l.length = false then .error 180
  else if (s.F st.pen l).e ≠ 0 then .error (s.F st.pen l).e
  else .ok { allS st nom b with pen := s.F st.pen l }
def drawM (nom op : Int) (st : Ms) : Rm :=
  match sks.find? (fun s => decide (s.op = op)) with
  | none => .error 180
  | some s => drawS nom s st
def biasM (n : Int) : Int := if n < 1240 then 107 else if n < 33900 then 1131 else 32768
def s32 (x : Int) : Int := if 2147483648 ≤ x then x - 4294967296 else x
/-- How many bytes more a number has whose first byte was c. -/
def numN (c : Int) : Nat := if c = 28 then 2 else if c = 255 then 4 else if 247 ≤ c then 1 else 0
def numV (c x : Int) : Int :=
  if c = 28 then s16 x * 65536 else if c = 255 then s32 x else if 251 ≤ c then (-(c - 251) * 256 - x - 108) * 65536 else if 247 ≤ c then ((c - 247) * 256 + x + 108) * 65536 else (c - 139) * 65536
def pushM (x : Int) (st : Ms) : Rm := if mayB x = false then .error 10 else if st.stk.length = 48 then .error 170 else .ok { st with stk := st.stk ++ [x] }
noncomputable def doR (op : Int) (st : Ms) : Rm :=
  let r := doM op st.stk st.store st.draws
  if r.1 ≠ 0 then .error r.1 else .ok { st with stk := r.2.1, store := r.2.2.1, draws := r.2.2.2 }
/-- A call of a subroutine (sub: what a charstring does one level deeper; none: it may not be gone to). -/
def callM (l : List (List Int)) (sub : Option (List Int → Ms → Rm)) (st : Ms) : Rm :=
  if st.stk = [] then .error 170
  else
    let i := st.stk.getLastD 0 / 65536 + biasM l.length
    let st' : Ms := { st with stk := st.stk.dropLast }
    match sub with
    | none => .error 182
    | some f => if i < 0 ∨ (l.length : Int) ≤ i then .error 182 else f (l.getD i.toNat []) st'
/-- What a token does whose first byte was c: the state, and where the reader stands then. -/
noncomputable def tokM (nom : Int) (G L : List (List Int)) (sub : Option (List Int → Ms → Rm)) (zs : List Int) (k : Nat) (c : Int) (st : Ms) : Rm × Nat :=
  if 32 ≤ c ∨ c = 28 then
    (if zs.length < k + numN c then (.error 180, k) else (pushM (numV c (beN (cutB zs k (numN c)))) st, k + numN c))
  else if c = 10 then (callM L sub st, k)
  else if c = 29 then (callM G sub st, k)
  else if c = 12 then
    (if zs.length < k + 1 then (.error 180, k)
     else (if isNum (zs.getD k 0) ∨ isMov (zs.getD k 0) then doR (zs.getD k 0) st else drawM nom (256 + zs.getD k 0) st, k + 1))
  else if c = 19 ∨ c = 20 then
    (match stemM nom st with
     | .error e => (.error e, k)
     | .ok st' => if zs.length < k + (st'.stems + 7) / 8 then (.error 180, k) else (.ok st', k + (st'.stems + 7) / 8))
  else if c = 1 ∨ c = 3 ∨ c = 18 ∨ c = 23 then (stemM nom st, k)
  else if c = 14 then (endM nom st, k)
  else (drawM nom c st, k)
/-- A charstring, from a place on. -/
noncomputable def loopM (nom : Int) (G L : List (List Int)) (sub : Option (List Int → Ms → Rm)) (top : Bool) (zs : List Int) : Nat → Nat → Ms → Rm
  | 0, _, _ => .error 181
  | f + 1, k, st =>
    if st.ended then .ok st
    else if k = zs.length then .error 180
    else if st.steps = 20000 then .error 181
    else if zs.getD k 0 = 11 then (if top then .error 180 else .ok { st with steps := st.steps + 1 })
    else match tokM nom G L sub zs (k + 1) (zs.getD k 0) { st with steps := st.steps + 1 } with
      | (.error e, _) => .error e
      | (.ok st', k') => loopM nom G L sub top zs f k' st'
noncomputable def codeM (nom : Int) (G L : List (List Int)) : Nat → Bool → List Int → Ms → Rm
  | 0, top, zs, st => loopM nom G L none top zs 20001 0 st
  | lev + 1, top, zs, st => loopM nom G L (some (codeM nom G L lev false)) top zs 20001 0 st
def ms0 (draws : List Int) (dflt : Int) : Ms := ⟨[], zeros32, draws, ⟨0, 0, [], 0, 0⟩, 0, 0, dflt, true, false⟩
/-- What Run answers: the outline, the width, the steps; the error. -/
noncomputable def runM (code : List Int) (G L : List (List Int)) (dflt nom : Int) (draws : List Int) : (List (List Pn) × Int × Nat) × Int :=
  if mayB dflt = false ∨ mayB nom = false then (([], 0, 0), 10)
  else match codeM nom G L 10 true code (ms0 draws dflt) with
    | .error e => (([], 0, 0), e)
    | .ok st => if checkO (longO st.pen.l) ≠ 0 then (([], 0, 0), checkO (longO st.pen.l)) else ((longO st.pen.l, st.width, st.steps), 0)
end Go.Proofs.YtfgpocpfapnkkaaGreat
namespace Go.Proofs.YtfgpocpfapnkkaaGreat
open Go.RowKit
set_option linter.unusedVariables false
set_option linter.unusedSimpArgs false
theorem odd_bits (n : Nat) : bits .and .i64 (n : Int) 1 = ((n % 2 : Nat) : Int) := by
  rw [i64_and1]; omega
theorem odd_calls (n : Nat) (w : World) : Calls Tryz.prog 56 #[.int .i64 n] w fun e w' => e = .returned (.bool (decide (n % 2 = 1))) ∧ w = w' := by
  have hb := odd_bits n
  have hd : (((n % 2 : Nat) : Int) == 1) = decide (n % 2 = 1) := by
    have : decide (((n % 2 : Nat) : Int) = 1) = decide (n % 2 = 1) := decide_eq_decide.2 (by omega)
    rw [← this]; rfl
  generalize n % 2 = M at *
  go_enter Tryz.func56, Tryz.ntmps56
  go_wp2_with fail
  go_ret
  exact ⟨by simp, rfl⟩
theorem end1_calls (n : Nat) (w : World) : Calls Tryz.prog 58 #[.int .i64 n] w fun e w' => e = .returned (.bool (decide (n = 1) || decide (n = 5))) ∧ w = w' := by
  by_cases h1 : n = 1
  · subst h1
    go_enter Tryz.func58, Tryz.ntmps58
    go_wp2_with fail
    go_ret
    exact ⟨rfl, rfl⟩
  · have hb : ((n : Int) == 1) = false := by rw [beq_eq_false_iff_ne]; omega
    have hd : ((n : Int) == 5) = decide (n = 5) := by
      have : decide ((n : Int) = 5) = decide (n = 5) := decide_eq_decide.2 (by omega)
      rw [← this]; rfl
    rw [decide_eq_false h1, Bool.false_or]
    go_enter Tryz.func58, Tryz.ntmps58
    go_wp2_with fail
    go_ret
    exact ⟨by simp, rfl⟩
theorem allL_len (st : Ms) (b : Bool) (h : st.stk.length ≤ 48) : (allL st b).length ≤ 48 := by
  unfold allL; split
  · simp; omega
  · exact h
theorem ResP.err {W0 : World} {c : Lc} {P : Pg} {w w' : World} (e : Int) (h : KT [] runTs W0.heap.size w w') : ResP W0 c P (.error e) w (.returned (.int .i64 e)) w' := ⟨rfl, (fun _ h => by cases h), h⟩
theorem ResP.ok {W0 : World} {c : Lc} {P : Pg} {st : Ms} {w w' : World} (hm : Mst W0 c P st w') (h : KT [] runTs W0.heap.size w w') : ResP W0 c P (.ok st) w (.returned (.int .i64 0)) w' := ⟨rfl, (fun _ h => by cases h; exact hm), h⟩
set_option maxRecDepth 100000 in
set_option maxHeartbeats 8000000 in
theorem stem_calls (W0 : World) (c : Lc) (P : Pg) (st : Ms) (x : Int) (w : World) (h : Mst W0 c P st w) (ok : OkS st) :
    Calls Tryz.prog 42 #[.pointer (some ⟨c.m, 0, none⟩), .int .i64 x] w (ResP W0 c P (stemM P.nom st) w) := by
  have HA := Lib.hid (all0_calls W0 c P st w h ok 56 Tryz.call56 (decide (st.stk.length % 2 = 1)) (fun hh e => by rw [e] at hh; simp at hh) (fun W _ => odd_calls _ W))
  obtain ⟨b, hb⟩ : ∃ b, (st.wide && decide (st.stk.length % 2 = 1)) = b := ⟨_, rfl⟩
  rw [hb] at HA
  have HS : Hid (stemM P.nom st = if allE st P.nom b ≠ 0 then .error (allE st P.nom b) else if (allL st b).length % 2 = 1 ∨ 96 < st.stems + (allL st b).length / 2 then .error 180 else .ok { allS st P.nom b with stems := st.stems + (allL st b).length / 2 }) := by rw [← hb]; exact rfl
  have hl48 := allL_len st b ok.1.1
  have hst := ok.2.2.2
  have HSS : Hid ((allS st P.nom b).stems = st.stems) := by show _ = _; unfold allS; split <;> rfl
  have HX : Hid (AllP W0 c P st b w = AllP W0 c P st b w) := rfl
  generalize stemM P.nom st = R at *
  clear h ok hb HX
  go_enter Tryz.func42, Tryz.ntmps42
  go_wp2_with fail
  refine HA.out.mono ?_; rintro e w1 ⟨lv, rfl, hr1, hm1, hk1⟩
  obtain ⟨p, cc, rfl⟩ := hr1.form
  have HM := Lib.hid hm1
  have HK := Lib.hid hk1
  obtain ⟨_, _, _, c9, _, _, _, fz⟩ := hm1.mach.facts
  rw [HSS.out] at c9
  have f9 := fz 9
  generalize allE st P.nom b = E at *
  generalize (allL st b).length = L at *
  clear HA hr1 hm1 hk1 fz
  by_cases hE : E = 0
  · subst hE
    rw [if_neg (by simp)] at HS
    have hq : (L : Int).tdiv 2 = ((L / 2 : Nat) : Int) := by rw [Int.tdiv_eq_ediv_of_nonneg (by omega)]; omega
    have hL2 : L / 2 ≤ 24 := by omega
    have hw1 : IntKind.i64.wrap ((L / 2 : Nat) : Int) = ((L / 2 : Nat) : Int) := by rw [IntKind.wrap_i64]; omega
    have hw2 : IntKind.i64.wrap ((st.stems : Int) + ((L / 2 : Nat) : Int)) = (st.stems : Int) + ((L / 2 : Nat) : Int) := by rw [IntKind.wrap_i64]; omega
    have HOD := Lib.hid (fun W => odd_calls L W)
    have hF := HM.out.field (st' := { allS st P.nom b with stems := st.stems + L / 2 }) 9 (.int .i64 ((st.stems : Int) + ((L / 2 : Nat) : Int))) (by
      have h9 := heap_setCell_same w1 c.m 9 _ _ (.int .i64 ((st.stems : Int) + ((L / 2 : Nat) : Int))) HM.out.mach
      rw [show ((st.stems : Int) + ((L / 2 : Nat) : Int)) = ((st.stems + L / 2 : Nat) : Int) by omega] at h9 ⊢
      exact h9) rfl rfl rfl rfl
    have HF := Lib.hid hF
    clear hF
    generalize hH : L / 2 = H at *
    clear hH
    by_cases hodd : L % 2 = 1
    · rw [if_pos (.inl hodd)] at HS
      rw [decide_eq_true hodd] at HOD
      clear hodd
      go_wp2_with fail
      refine (HOD.out _).mono ?_; rintro e w2 ⟨rfl, rfl⟩
      go_wp2_with fail
      go_ret
      rw [HS.out]
      exact ResP.err 180 (HK.out.trans HF.out.2)
    · rw [decide_eq_false hodd] at HOD
      have hsw : (st.stems : Int) + (H : Int) = ((st.stems + H : Nat) : Int) := by omega
      by_cases h96 : 96 < st.stems + H
      · rw [if_pos (.inr h96)] at HS
        have h96' : decide ((96 : Int) < (st.stems : Int) + (H : Int)) = true := decide_eq_true (by omega)
        clear hodd h96 hsw
        go_wp2_with fail
        refine (HOD.out _).mono ?_; rintro e w2 ⟨rfl, rfl⟩
        go_wp2_with fail
        go_ret
        rw [HS.out]
        exact ResP.err 180 (HK.out.trans HF.out.2)
      · rw [if_neg (fun hh => hh.elim hodd h96)] at HS
        have h96' : decide ((96 : Int) < (st.stems : Int) + (H : Int)) = false := decide_eq_false (by omega)
        clear hodd h96 hsw
        go_wp2_with fail
        refine (HOD.out _).mono ?_; rintro e w2 ⟨rfl, rfl⟩
        go_wp2_with fail
        go_ret
        rw [HS.out]
        exact ResP.ok HF.out.1 (HK.out.trans HF.out.2)
  · rw [if_pos hE] at HS
    have hb : (E != 0) = true := by simpa using hE
    go_wp2_with fail
    go_ret
    rw [HS.out]
    exact ResP.err E HK.out
set_option maxRecDepth 100000 in
set_option maxHeartbeats 8000000 in
theorem end_calls (W0 : World) (c : Lc) (P : Pg) (st : Ms) (w : World) (h : Mst W0 c P st w) (ok : OkS st) :
    Calls Tryz.prog 44 #[.pointer (some ⟨c.m, 0, none⟩)] w (ResP W0 c P (endM P.nom st) w) := by
  have HA := Lib.hid (all0_calls W0 c P st w h ok 58 Tryz.call58 (decide (st.stk.length = 1) || decide (st.stk.length = 5)) (fun hh e => by rw [e] at hh; simp at hh) (fun W _ => end1_calls _ W))
  obtain ⟨b, hb⟩ : ∃ b, (st.wide && (decide (st.stk.length = 1) || decide (st.stk.length = 5))) = b := ⟨_, rfl⟩
  rw [hb] at HA
  have HS : Hid (endM P.nom st = if allE st P.nom b ≠ 0 then .error (allE st P.nom b) else if (allL st b).length = 4 then .error 183 else if (allL st b).length ≠ 0 then .error 180 else .ok { allS st P.nom b with ended := true }) := by rw [← hb]; exact rfl
  have hl48 := allL_len st b ok.1.1
  generalize endM P.nom st = R at *
  clear h ok hb
  go_enter Tryz.func44, Tryz.ntmps44
  go_wp2_with fail
  refine HA.out.mono ?_; rintro e w1 ⟨lv, rfl, hr1, hm1, hk1⟩
  obtain ⟨p, cc, rfl⟩ := hr1.form
  have HM := Lib.hid hm1
  have HK := Lib.hid hk1
  obtain ⟨_, _, _, _, _, _, c12, fz⟩ := hm1.mach.facts
  have f12 := fz 12
  have hF := HM.out.field (st' := { allS st P.nom b with ended := true }) 12 (.bool true) (heap_setCell_same w1 c.m 12 _ _ _ HM.out.mach) rfl rfl rfl rfl
  have HF := Lib.hid hF
  generalize allE st P.nom b = E at *
  generalize (allL st b).length = L at *
  clear HA hr1 hm1 hk1 fz hF
  by_cases hE : E = 0
  · subst hE
    rw [if_neg (by simp)] at HS
    by_cases h4 : L = 4
    · rw [if_pos h4] at HS
      subst h4
      go_wp2_with fail
      go_ret
      rw [HS.out]
      exact ResP.err 183 HK.out
    · rw [if_neg h4] at HS
      have h4b : ((L : Int) == 4) = false := by rw [beq_eq_false_iff_ne]; omega
      by_cases h0 : L = 0
      · rw [if_neg (by simpa using h0)] at HS
        subst h0
        go_wp2_with fail
        go_ret
        rw [HS.out]
        exact ResP.ok HF.out.1 (HK.out.trans HF.out.2)
      · rw [if_pos h0] at HS
        have h0b : ((L : Int) != 0) = true := by simp; omega
        go_wp2_with fail
        go_ret
        rw [HS.out]
        exact ResP.err 180 HK.out
  · rw [if_pos hE] at HS
    have hb : (E != 0) = true := by simpa using hE
    go_wp2_with fail
    go_ret
    rw [HS.out]
    exact ResP.err E HK.out
end Go.Proofs.YtfgpocpfapnkkaaGreat

/- flatten: the iterator of Curves for a body that appends in place to a row of its own (the row's slice lies in the box Bo) · flatten: what a contour becomes · flatten: the scaler's contour · flatten: Flatten. (Merged by wip/tools/mergetpl.py out of FlU, FlV, FlW, FlX.) -/
import Derived.Test.YtpbmefojhgcniaaOwA
import Derived.Test.YtpbmefojhgcniaaFmD
import Derived.RangeFuncNested
import Derived.RangeFuncBound
import Derived.RangeFuncCalls
import Derived.RangeFuncLeaves
import Derived.RangeFuncBox
import Derived.RangeFuncFrom
import Derived.Shelf.Abstract
import Derived.WalkKit
import Derived.OwnWalkIn
import Derived.TacticsInMore
import Derived.LoopNIn
import Derived.LoopIn
import Derived.Test.YtpbmefojhgcniaaRnd
import Derived.Test.YtpbmefojhgcniaaCuD
import Derived.Test.YtpbmefojhgcniaaInvIn
import Derived.BigQuiet
import Derived.Deep.DeepCutAuto
namespace Go.Proofs.Ytpbmefojhgcniaa
open Go.RowKit Go.Shelf
set_option linter.unusedVariables false
set_option linter.unusedSimpArgs false
attribute [local go_sem] Oper.semAt_some
/-- The block of the row whose slice lies in the box Bo. -/
def rowOf (Bo : Nat) (A : World) : Option Nat := match A.cell? ⟨Bo, 0, none⟩ with
  | some v => v.ownBlock
  | none => none
/-- What lay at or above n₀ is kept, but for the row of box Bo; that row stays where it is, or lies anew. -/
structure RB (Bo n₀ : Nat) (A B : World) : Prop where
  size : A.heap.size ≤ B.heap.size
  keep : ∀ k o, n₀ ≤ k → rowOf Bo A ≠ some k → A.heap[k]? = some o → o.isCells = true → B.heap[k]? = A.heap[k]?
  row : rowOf Bo B = rowOf Bo A ∨ ∀ k, rowOf Bo B = some k → A.heap.size ≤ k
theorem RB.ne {Bo n₀ : Nat} {A B : World} (h : RB Bo n₀ A B) {k : Nat} (hk : k < A.heap.size) (hn : rowOf Bo A ≠ some k) : rowOf Bo B ≠ some k := by
  rcases h.row with e | e
  · rw [e]; exact hn
  · intro h1; have := e k h1; omega
theorem RB.trans {Bo n₀ : Nat} {A B C : World} (h : RB Bo n₀ A B) (k : RB Bo n₀ B C) : RB Bo n₀ A C :=
  ⟨Nat.le_trans h.size k.size, fun i o hi hn ho hc => (k.keep i o hi (h.ne (lt_of_block ho) hn) ((h.keep i o hi hn ho hc).trans ho) hc).trans (h.keep i o hi hn ho hc), by
    rcases k.row with e | e
    · rw [e]; exact h.row
    · exact .inr (fun i hi => Nat.le_trans h.size (e i hi))⟩
theorem rowOf_same {Bo : Nat} {A B : World} (h : B.heap[Bo]? = A.heap[Bo]?) : rowOf Bo B = rowOf Bo A := by
  have e : B.cell? ⟨Bo, 0, none⟩ = A.cell? ⟨Bo, 0, none⟩ := World.cell?_of_block (a := ⟨Bo, 0, none⟩) h
  unfold rowOf; rw [e]
theorem Kp.rb {Bo n₀ : Nat} {A B : World} (h : Kp [] A B) (hb : Bo < A.heap.size) : RB Bo n₀ A B :=
  ⟨h.size, fun k o _ _ ho _ => h.block k (lt_of_block ho) (by simp), .inl (rowOf_same (h.block Bo hb (by simp)))⟩
theorem RB.cell {Bo n₀ : Nat} {A B : World} (h : RB Bo n₀ A B) {a : Addr} {v : Value} (ha : A.cell? a = some v) (hb : n₀ ≤ a.block) (hn : rowOf Bo A ≠ some a.block) : B.cell? a = some v := by
  obtain ⟨o, ho, hc⟩ := cells_of_cell ha
  exact (World.cell?_of_block (h.keep _ o hb hn ho hc)).trans ha
theorem RB.reads {Bo n₀ : Nat} {w w' : World} {size : Nat} {v : Value} {n : Nat} {cs : List Value} (hk : RB Bo n₀ w w') (h : Reads size w v n cs) (hb : ∀ b, blockOf v = some b → n₀ ≤ b ∧ rowOf Bo w ≠ some b) : Reads size w' v n cs := by
  refine ⟨h.1, ?_⟩
  rcases h.2 with h2 | ⟨g, off, cap, rfl, h1, h2, h3⟩
  · exact .inl h2
  · refine .inr ⟨g, off, cap, rfl, h1, h2, fun j u hu => ?_⟩
    suffices hg : n₀ ≤ g ∧ rowOf Bo w ≠ some g from hk.cell (h3 j u hu) hg.1 hg.2
    refine hb g ((blockOf_some _ _ _ _ _ _).2 ⟨fun hc => ?_, rfl⟩)
    have hn : n = 0 := by omega
    have hl := h.1
    rw [hn, Nat.zero_mul] at hl
    rw [List.eq_nil_of_length_eq_zero hl] at hu
    simp at hu
/-- The iterator's own outline: it is read, and the body's row is none of its blocks. -/
def GoodO (Bo n₀ : Nat) (v : Value) (vs : List Value) (X : List (List Pn)) (A : World) : Prop :=
  Bo < A.heap.size ∧ Reads 1 A v X.length vs ∧ (∀ b, blockOf v = some b → n₀ ≤ b ∧ b < A.heap.size ∧ rowOf Bo A ≠ some b) ∧
  ∀ i, i < X.length → IsPs A (vs.getD i (.slice none 0 0)) (X.getD i []) ∧ ∀ b, blockOf (vs.getD i (.slice none 0 0)) = some b → n₀ ≤ b ∧ b < A.heap.size ∧ rowOf Bo A ≠ some b
theorem GoodO.rb {Bo n₀ : Nat} {v : Value} {vs : List Value} {X : List (List Pn)} {A B : World} (h : GoodO Bo n₀ v vs X A) (hk : RB Bo n₀ A B) : GoodO Bo n₀ v vs X B := by
  obtain ⟨h0, h1, h2, h3⟩ := h
  have key : ∀ b, n₀ ≤ b ∧ b < A.heap.size ∧ rowOf Bo A ≠ some b → n₀ ≤ b ∧ b < B.heap.size ∧ rowOf Bo B ≠ some b := fun b ⟨a1, a2, a3⟩ => ⟨a1, Nat.lt_of_lt_of_le a2 hk.size, hk.ne a2 a3⟩
  exact ⟨Nat.lt_of_lt_of_le h0 hk.size, hk.reads h1 (fun b hb => ⟨(h2 b hb).1, (h2 b hb).2.2⟩), fun b hb => key b (h2 b hb), fun i hi => ⟨hk.reads (h3 i hi).1 (fun b hb => ⟨((h3 i hi).2 b hb).1, ((h3 i hi).2 b hb).2.2⟩), fun b hb => key b ((h3 i hi).2 b hb)⟩⟩
theorem GoodO.kp0 {Bo n₀ : Nat} {v : Value} {vs : List Value} {X : List (List Pn)} {A B : World} (h : GoodO Bo n₀ v vs X A) (hk : Kp [] A B) : GoodO Bo n₀ v vs X B := h.rb (hk.rb h.1)
theorem GoodO.row {Bo n₀ : Nat} {v : Value} {vs : List Value} {X : List (List Pn)} {A : World} (h : GoodO Bo n₀ v vs X A) {i : Nat} (hi : i < X.length) : ∃ g off c p cv, v = .slice (some ⟨g, off, none⟩) X.length c ∧ X.length ≤ c ∧ c ≤ maxLen ∧ A.cell? ⟨g, off + i, none⟩ = some (.slice p (X.getD i []).length cv) ∧ vs.getD i (.slice none 0 0) = .slice p (X.getD i []).length cv := by
  obtain ⟨h0, h1, h2, h3⟩ := h
  have hp := (h3 i hi).1
  obtain ⟨p, cv, hv⟩ := hp.form
  rcases h1.2 with ⟨⟨ad, rfl⟩, h0⟩ | ⟨g, off, c, rfl, h3, h4, h5⟩
  · omega
  · refine ⟨g, off, c, p, cv, rfl, h3, h4, ?_, hv⟩
    have hl : i < vs.length := by have := h1.1; omega
    have := h5 i _ (List.getElem?_eq_getElem hl)
    rw [this, ← hv, List.getD_eq_getElem?_getD, List.getElem?_eq_getElem hl]; rfl
theorem GoodO.start {Bo n₀ : Nat} {v : Value} {X : List (List Pn)} {W w1 : World} (hb : Bo < W.heap.size) (hn : n₀ ≤ W.heap.size) (hr : ∀ k, rowOf Bo W = some k → k < W.heap.size) (h : WOut w1 W.heap.size v X) (hk : Kp [] W w1) : ∃ vs, GoodO Bo n₀ v vs X w1 := by
  obtain ⟨vs, h1, h2⟩ := h
  have e : rowOf Bo w1 = rowOf Bo W := rowOf_same (hk.block Bo hb (by simp))
  refine ⟨vs, Nat.lt_of_lt_of_le hb hk.size, Reads.owned h1, fun b hbb => ?_, fun i hi => ⟨(h2 i hi).1, fun b hbb => ?_⟩⟩
  · have := h1.lt b (blockOf_own hbb)
    exact ⟨by omega, this.2, by rw [e]; intro h9; have := hr b h9; omega⟩
  · have := ((h2 i hi).2 b hbb).2
    exact ⟨by omega, this.1, by rw [e]; intro h9; have := hr b h9; omega⟩
theorem Kp.growU {w w' : World} (h : Kp [] w w') : w.grownBy w' none := ⟨h.os, h.tape, h.output, h.size, fun k hk _ => h.block k hk (by simp)⟩
theorem abidesU {β : Type} {B : Nat} {J : β → World → Prop} (hJ : AbidesFrom B J) {s : β} {w w' : World} (h : J s w) (hk : Kp [] w w') : J s w' := hJ s w w' none h hk.growU (by simp)
theorem refTo_pre (e : List Pn) (k : Nat) : ∀ d, refTo e k <+: refTo e (k + d) := by
  intro d
  induction d with
  | zero => exact List.prefix_refl _
  | succ d ih => rw [← Nat.add_assoc, refTo]; exact ih.trans (List.prefix_append _ _)
theorem curvesTo_pre (X : List (List Pn)) (k : Nat) : ∀ d, curvesTo X k <+: curvesTo X (k + d) := by
  intro d
  induction d with
  | zero => exact List.prefix_refl _
  | succ d ih => rw [← Nat.add_assoc, curvesTo]; exact ih.trans (List.prefix_append _ _)
theorem cur_pre (X : List (List Pn)) {j m N : Nat} (hj : j < N) (hm : m ≤ (X.getD j []).length) : curvesTo X j ++ refTo (X.getD j []) m <+: curvesTo X N := by
  obtain ⟨d, rfl⟩ : ∃ d, N = j + 1 + d := ⟨N - (j + 1), by omega⟩
  obtain ⟨c, hc⟩ : ∃ c, (X.getD j []).length = m + c := ⟨_, (Nat.add_sub_cancel' hm).symm⟩
  refine List.IsPrefix.trans ?_ (curvesTo_pre X (j + 1) d)
  rw [curvesTo, hc]
  exact (List.prefix_append_right_inj _).2 (refTo_pre _ _ _)
theorem okE_head {e : List Pn} (h : okE 0 e = true) (h0 : 0 < e.length) : (e.getD 0 pn0).k = 1 := by
  match e, h, h0 with
  | p :: l, h, _ =>
    simp only [okE, Bool.and_eq_true, beq_iff_eq] at h
    exact h.1
set_option maxRecDepth 100000 in
set_option maxHeartbeats 4000000 in
/-- The closure of Curves at an outline that may be. -/
theorem curves1_B (m : Nat) (hm : 1 ≤ m) (l Bc Bo n₀ : Nat) (v : Value) (o : List (List Pn)) (hE : checkO o = 0) (J Jx : List Cv → World → Prop) (W : World) (hn₀ : n₀ ≤ W.heap.size) (hBo : Bo < W.heap.size) (hrow : ∀ k, rowOf Bo W = some k → k < W.heap.size) (hJ : AbidesFrom W.heap.size J)
    (hY : ∀ pre x W, J pre W → pre.length < (curvesTo (expO o) o.length).length → YieldAt Fence.wide (m - 1) Try.prog l #[cvV x] W fun e W' =>
      (e = .returned (.bool true) ∧ J (pre ++ [x]) W' ∧ RB Bo n₀ W W') ∨ (e = .returned (.bool false) ∧ Jx (pre ++ [x]) W'))
    (hB : W.cell? ⟨Bc, 0, none⟩ = some v) (hv : IsOut W v o) (h0 : J [] W) :
    CallsIn Fence.wide m Try.prog 74 #[.func (.yield l) #[] #[], .pointer (some ⟨Bc, 0, none⟩)] W fun e W' => (∃ v, e = .returned v) ∧
      (J (curvesTo (expO o) o.length) W' ∨ (∃ pre, pre <+: curvesTo (expO o) o.length ∧ Jx pre W')) := by
  have HRX := Lib.hid (oexplicit_ok v o W hv hE)
  obtain ⟨hz1, hz2, hz3⟩ := checkO_zero hE
  obtain ⟨pa, ca, rfl⟩ := hv.form
  have hlX : (expO o).length = o.length := by unfold expO; rw [List.length_map]
  have HOK : Hid (∀ j, j < o.length → okE 0 ((expO o).getD j []) = true ∧ ((expO o).getD j []).length ≤ 8193) := fun j hj => by
    rw [expO_at o j hj]
    have a := (expC_len _ (mayCo_facts (hz3 j hj)).1).2
    have b := len_le_cnt o hj
    exact ⟨okE_expC (hz3 j hj), by omega⟩
  obtain ⟨X, hX⟩ : ∃ X, expO o = X := ⟨_, rfl⟩
  rw [hX] at HRX HOK hlX hY ⊢
  obtain ⟨N, hN⟩ : ∃ N, o.length = N := ⟨_, rfl⟩
  rw [hN] at HRX HOK hlX hz1 hY hB ⊢
  have HXN := Lib.hid hlX
  have HJ := Lib.hid hJ
  have HY := Lib.hid hY
  have H0 := Lib.hid h0
  clear hN hX hv hE hz2 hz3 hlX hJ hY h0
  refine callsIn_of_wp Try.func74 rfl trivial ?_ rfl
  simp only [Try.ntmps74, List.size_toArray, List.length_cons, List.length_nil, Nat.reduceAdd, Nat.reduceSub, Array.replicate_succ, Array.replicate_zero, List.push_toArray, List.append_toArray, List.nil_append, List.cons_append]
  gi_wp2_with (refine ⟨trivial, ?_⟩; gi_at_call 75; refine (callsIn_wide.2 HRX.out).mono ?_; rintro e w1 ⟨v1, rfl, hw1, hk1⟩; obtain ⟨p1, c1, rfl⟩ := hw1.out.form)
  have HJ1 := Lib.hid (abidesU HJ.out H0.out hk1)
  obtain ⟨vs, hgd⟩ := GoodO.start hBo hn₀ hrow hw1 hk1
  have HG1 := Lib.hid hgd
  rw [HXN.out] at HG1 ⊢
  clear hw1 hk1 HRX hB H0 hgd hrow
  gi_wp2
  gi_loopw [6, 7, 8, 9, 17] (fun _ _ _ _ i wr => ∃ j : Nat, j ≤ N ∧ i = .int .i64 j ∧ Hid (J (curvesTo X j) wr ∧ GoodO Bo n₀ (.slice p1 N c1) vs X wr)) (fun _ _ _ _ i _ => N - (intOf i).toNat)
  case atStart => exact ⟨0, Nat.zero_le _, rfl, HJ1.out, HG1.out⟩
  case round =>
    obtain ⟨j, hj, rfl, HR⟩ := hrel
    clear HJ1
    by_cases hlt : j < N
    · have hjo : j < X.length := by rw [HXN.out]; exact hlt
      obtain ⟨g1, o1, cc, pe, ce, e1, _, _, h1, hvs⟩ := HR.out.2.row hjo
      rw [HXN.out] at e1
      cases e1
      obtain ⟨hok, hL⟩ := HOK.out j hlt
      have HOKJ := Lib.hid hok
      have HPRE : Hid (∀ m, m ≤ (X.getD j []).length → curvesTo X j ++ refTo (X.getD j []) m <+: curvesTo X N) := fun m hm => cur_pre X hlt hm
      have HST : Hid (curvesTo X (j + 1) = curvesTo X j ++ refTo (X.getD j []) (X.getD j []).length) := rfl
      have HP : Hid (∀ W', GoodO Bo n₀ (.slice (some ⟨g1, o1, none⟩) N c1) vs X W' → IsPs W' (.slice pe (X.getD j []).length ce) (X.getD j [])) := fun W' h => by have := (h.2.2.2 j hjo).1; rwa [hvs] at this
      have HJ0 : Hid (J (curvesTo X j ++ refTo (X.getD j []) 0) wr ∧ GoodO Bo n₀ (.slice (some ⟨g1, o1, none⟩) N c1) vs X wr) := by
        show _ ∧ _
        rw [show refTo (X.getD j []) 0 = [] from rfl, List.append_nil]; exact HR.out
      generalize curvesTo X j = A at *
      generalize X.getD j [] = e at *
      clear HR hok hjo hvs
      obtain ⟨L, hcl⟩ : ∃ L, e.length = L := ⟨_, rfl⟩
      have HEL := Lib.hid hcl
      rw [hcl] at h1 hL HP HST HPRE
      clear hcl
      gi_wp2
      gi_loopw [7, 8, 9] (fun k _ _ wr2 => ∃ m : Nat, m ≤ L ∧ k = .int .i64 m ∧ Hid ((m < L → (e.getD m pn0).k = 1) ∧ J (A ++ refTo e m) wr2 ∧ GoodO Bo n₀ (.slice (some ⟨g1, o1, none⟩) N c1) vs X wr2)) (fun k _ _ _ => L - (intOf k).toNat)
      case atStart => exact ⟨0, by omega, rfl, fun h => okE_head HOKJ.out (by rw [HEL.out]; exact h), HJ0.out.1, HJ0.out.2⟩
      case round =>
        obtain ⟨m2, hm2, rfl, HI⟩ := hrel
        clear HJ0 h1
        by_cases hml : m2 < L
        · have hkk := HI.out.1 hml
          obtain ⟨s1, s2, s3, s4⟩ := step_facts HOKJ.out (i := m2) (by rw [HEL.out]; exact hml) hkk
          have s5 : 1 ≤ stepN e m2 := by unfold stepN; split <;> (try split) <;> omega
          have hst := refTo_step HOKJ.out (i := m2) (by rw [HEL.out]; exact hml) hkk
          have HC := Lib.hid (ocurve_calls (.slice pe L ce) e m2 wr (HP.out _ HI.out.2.2) (by rw [HEL.out]; exact hml) (by rw [HEL.out]; omega) s4)
          rw [HEL.out] at s1 s3
          have HNX : Hid (A ++ refTo e (m2 + stepN e m2) = A ++ refTo e m2 ++ [cvAt e m2]) := by show _ = _; rw [hst, List.append_assoc]
          have HLT : Hid ((A ++ refTo e m2).length < (curvesTo X N).length) := by
            have h5 := (HPRE.out _ s1).length_le
            rw [HNX.out, List.length_append] at h5
            have h6 : ([cvAt e m2] : List Cv).length = 1 := rfl
            show _ < _
            omega
          have HN3 := Lib.hid s3
          generalize stepN e m2 = sn at *
          generalize cvAt e m2 = q at *
          clear hkk s2 s3 s4 hst
          obtain ⟨qk, ⟨ax, ay, ak⟩, ⟨bx, b_y, bk⟩, ⟨cx, cy, ck⟩, ⟨dx, dy, dk⟩⟩ := q
          rw [show cvV ⟨qk, ⟨ax, ay, ak⟩, ⟨bx, b_y, bk⟩, ⟨cx, cy, ck⟩, ⟨dx, dy, dk⟩⟩ = .agg #[.int .i64 qk, .int .i64 ax, .int .i64 ay, .int .i64 ak, .int .i64 bx, .int .i64 b_y, .int .i64 bk, .int .i64 cx, .int .i64 cy, .int .i64 ck, .int .i64 dx, .int .i64 dy, .int .i64 dk] from rfl] at HC
          gi_wp2_with (refine ⟨trivial, ?_⟩; gi_at_call 76; refine (callsIn_wide.2 HC.out).mono ?_; rintro e w2 ⟨rfl, hk2⟩)
          have HJ2 := Lib.hid (abidesU HJ.out HI.out.2.1 hk2)
          have HK2 := Lib.hid hk2
          have HKW := Lib.hid HI.out.2.2
          clear hk2 HI HC
          have hk3 : Kp [] w2 (w2.alloc (.cells (cvCells ⟨qk, ⟨ax, ay, ak⟩, ⟨bx, b_y, bk⟩, ⟨cx, cy, ck⟩, ⟨dx, dy, dk⟩⟩) 75)) := (Kp.refl _ _).alloc _
          have HK3 := Lib.hid hk3
          obtain ⟨fn, tmps, assign, body, hy, hR⟩ := HY.out _ ⟨qk, ⟨ax, ay, ak⟩, ⟨bx, b_y, bk⟩, ⟨cx, cy, ck⟩, ⟨dx, dy, dk⟩⟩ _ (abidesU HJ.out HJ2.out hk3) HLT.out
          rw [show cvV ⟨qk, ⟨ax, ay, ak⟩, ⟨bx, b_y, bk⟩, ⟨cx, cy, ck⟩, ⟨dx, dy, dk⟩⟩ = .agg #[.int .i64 qk, .int .i64 ax, .int .i64 ay, .int .i64 ak, .int .i64 bx, .int .i64 b_y, .int .i64 bk, .int .i64 cx, .int .i64 cy, .int .i64 ck, .int .i64 dx, .int .i64 dy, .int .i64 dk] from rfl] at hy
          clear hk3
          gi_wp2
          rw [show (cvCells ⟨qk, ⟨ax, ay, ak⟩, ⟨bx, b_y, bk⟩, ⟨cx, cy, ck⟩, ⟨dx, dy, dk⟩⟩) = #[.int .i64 qk, .int .i64 ax, .int .i64 ay, .int .i64 ak, .int .i64 bx, .int .i64 b_y, .int .i64 bk, .int .i64 cx, .int .i64 cy, .int .i64 ck, .int .i64 dx, .int .i64 dy, .int .i64 dk] from rfl] at hy
          rw [hy]
          gi_wp2
          refine hR.mono ?_
          rintro e3 W3 (⟨rfl, hJ3, hk3⟩ | ⟨rfl, hJx3⟩)
          · have H3 : Hid ((m2 + sn < L → (e.getD (m2 + sn) pn0).k = 1) ∧ J (A ++ refTo e (m2 + sn)) W3 ∧ GoodO Bo n₀ (.slice (some ⟨g1, o1, none⟩) N c1) vs X W3) := ⟨HN3.out, by rw [HNX.out]; exact hJ3, ((HKW.out.kp0 HK2.out).kp0 HK3.out).rb hk3⟩
            clear hJ3 hk3 hy hR
            gi_wp2
            go_roundw
            case rel => first | exact ⟨m2 + sn, by omega, by simp, H3⟩ | ((repeat apply Exists.intro); exact ⟨⟨m2 + sn, by omega, by simp, H3⟩, rfl⟩)
            case measure => simp [intOf]; omega
          · have H3 : Hid (∃ pre, pre <+: curvesTo X N ∧ Jx pre W3) := ⟨_, by rw [← HNX.out]; exact HPRE.out _ s1, hJx3⟩
            clear hJx3 hy hR
            gi_wp2
            refine bodyPost_ret (results_none rfl _ _ _) rfl ?_
            exact ⟨⟨_, rfl⟩, .inr H3.out⟩
        · obtain rfl : m2 = L := by omega
          have HF : Hid (J (curvesTo X (j + 1)) wr ∧ GoodO Bo n₀ (.slice (some ⟨g1, o1, none⟩) N c1) vs X wr) := by
            show _ ∧ _
            rw [HST.out]; exact ⟨HI.out.2.1, HI.out.2.2⟩
          clear HI
          gi_wp2
          go_roundw
          case rel => first | exact ⟨j + 1, by omega, by simp, HF⟩ | ((repeat apply Exists.intro); exact ⟨⟨j + 1, by omega, by simp, HF⟩, rfl⟩)
          case measure => simp [intOf] <;> omega
    · obtain rfl : j = N := by omega
      gi_wp2
      go_end0
      exact ⟨⟨_, rfl⟩, .inl HR.out.1⟩
/-- Curves hands back a value that goes over these curves, or over a beginning of them. -/
theorem curves_stopsB (m : Nat) (hm : 1 ≤ m) (Bc Bo n₀ : Nat) (v : Value) (o : List (List Pn)) (hE : checkO o = 0) (w : World) (hB : w.cell? ⟨Bc, 0, none⟩ = some v) (hv : IsOut w v o) (hn₀ : n₀ ≤ w.heap.size) (hBo : Bo < w.heap.size) (hrow : ∀ k, rowOf Bo w = some k → k < w.heap.size) :
    SeqStopsK Fence.wide m Try.prog 74 #[.pointer (some ⟨Bc, 0, none⟩)] (fun x : Cv => #[cvV x]) (RB Bo n₀) (fun ys => ys = curvesTo (expO o) o.length) (fun pre => pre <+: curvesTo (expO o) o.length) (curvesTo (expO o) o.length).length w := fun l J Jx W hW hJ _ hY h0 => by
  have hk : Kp [] w W := Kp.of_below hW
  have e : rowOf Bo W = rowOf Bo w := rowOf_same (hk.block Bo hBo (by simp))
  refine (curves1_B m hm l Bc Bo n₀ v o hE J Jx W (Nat.le_trans hn₀ hW.size) (Nat.lt_of_lt_of_le hBo hW.size) (fun k h => Nat.lt_of_lt_of_le (hrow k (e ▸ h)) hW.size) hJ hY (hk.cell hB (by simp)) (hv.kp0 hk) h0).mono ?_
  rintro e W' ⟨he, hj | ⟨pre, hp, hj⟩⟩
  · exact ⟨he, .inl ⟨_, rfl, hj⟩⟩
  · exact ⟨he, .inr ⟨_, hp, hj⟩⟩
end Go.Proofs.Ytpbmefojhgcniaa
namespace Go.Proofs.Ytpbmefojhgcniaa
open Go.RowKit Go.Shelf
set_option linter.unusedVariables false
set_option linter.unusedSimpArgs false
theorem focurves_calls (p : Option Addr) (n c : Nat) (w : World) : Calls Try.prog 56 #[.slice p n c] w fun e w' => e = .returned (.func (.func 74) #[] #[.pointer (some ⟨w.heap.size, 0, none⟩)]) ∧ w' = w.alloc (.cells #[.slice p n c] 37) := by
  go_enter Try.func56, Try.ntmps56
  go_wp2_with fail
  go_ret
  exact ⟨rfl, rfl⟩
/-- The dots of a bow. -/
def bowN (b : Bw) : Nat := if mayW b = true then piecesQ (needsQ b) else 0
def bowDots (b : Bw) : List (Int × Int) := uptoF (fun k => atQ b ((k : Int) + 1) (bowN b)) (bowN b)
def ctrS (s : Sc) (l : List Cv) : List (Int × Int) := l.flatMap fun q => bowDots (bowS s q)
def ctrE (s : Sc) : Int → List Cv → Int
  | e, [] => e
  | e, q :: l => ctrE s (bowErr s e (bowPs q)) l
theorem ctrE_app (s : Sc) (l r : List Cv) : ∀ e, ctrE s e (l ++ r) = ctrE s (ctrE s e l) r := by
  induction l with
  | nil => intro e; rfl
  | cons q l ih => intro e; exact ih _
theorem bowErr_keep (s : Sc) (l : List Pn) : ∀ e, e ≠ 0 → bowErr s e l = e := by
  induction l with
  | nil => intro e _; rfl
  | cons p l ih => intro e h; show bowErr s (if e = 0 then (dotS s p).2 else e) l = e; rw [if_neg h]; exact ih e h
theorem ctrE_keep (s : Sc) (l : List Cv) : ∀ e, e ≠ 0 → ctrE s e l = e := by
  induction l with
  | nil => intro e _; rfl
  | cons q l ih => intro e h; show ctrE s (bowErr s e (bowPs q)) l = e; rw [bowErr_keep s _ e h]; exact ih e h
theorem bowErr_zero (s : Sc) (l : List Pn) : bowErr s 0 l = 0 → ∀ p ∈ l, (dotS s p).2 = 0 := by
  induction l with
  | nil => intro _ p hp; cases hp
  | cons p l ih =>
    intro h
    have h2 : bowErr s (dotS s p).2 l = 0 := h
    by_cases h0 : (dotS s p).2 = 0
    · rw [h0] at h2
      intro r hr
      rcases List.mem_cons.1 hr with rfl | hr
      · exact h0
      · exact ih h2 r hr
    · rw [bowErr_keep s l _ h0] at h2; exact absurd h2 h0
theorem dotS_ok {s : Sc} {p : Pn} (h : (dotS s p).2 = 0) : dotQ (dotS s p).1 = true := by
  unfold dotS dotP at h ⊢
  split at h
  · rename_i h1
    rw [if_pos h1]
    split at h
    · rename_i h2
      rw [if_pos h2]
      split at h
      · rename_i h3; rw [if_pos h3]; exact h3
      · cases h
    · cases h
  · cases h
theorem mayW_bow {s : Sc} {q : Cv} (hk : q.k = 1 ∨ q.k = 2 ∨ q.k = 3) (h : bowErr s 0 (bowPs q) = 0) : mayW (bowS s q) = true := by
  have hz := bowErr_zero s _ h
  unfold bowPs at hz
  rcases hk with hk | hk | hk
  · rw [if_neg (by omega), if_neg (by omega)] at hz
    have a := dotS_ok (hz q.a (by simp))
    have d := dotS_ok (hz q.d (by simp))
    unfold mayW dotsL bowS
    simp [hk, a, d]
  · rw [if_neg (by omega), if_pos hk] at hz
    have a := dotS_ok (hz q.a (by simp))
    have d := dotS_ok (hz q.d (by simp))
    have b := dotS_ok (hz q.b (by simp))
    unfold mayW dotsL bowS
    simp [hk, a, d, b]
  · rw [if_pos hk] at hz
    have a := dotS_ok (hz q.a (by simp))
    have d := dotS_ok (hz q.d (by simp))
    have b := dotS_ok (hz q.b (by simp))
    have c := dotS_ok (hz q.c (by simp))
    unfold mayW dotsL bowS
    simp [hk, a, d, b, c]
theorem bowN_le (b : Bw) : bowN b ≤ 256 := by
  have key : ∀ (needs : Int) (f n : Nat), 1 ≤ n → n ≤ 256 → 1 ≤ piecesFrom needs f n ∧ piecesFrom needs f n ≤ 256 := by
    intro needs f
    induction f with
    | zero => intro n h1 h2; exact ⟨h1, h2⟩
    | succ f ih =>
      intro n h1 h2
      unfold piecesFrom
      split
      · rename_i h; exact ih (n + 1) (by omega) (by omega)
      · exact ⟨h1, h2⟩
  unfold bowN
  split
  · exact (key _ 256 1 (by omega) (by omega)).2
  · omega
/-- AppendSeq at any bow. -/
theorem fappbow_calls (base Bc : Nat) (v0 : Value) (l0 : List (Int × Int)) (b : Bw) (w : World) (hown : w.ownsRow base 27 2 v0 l0.length (pairCells l0)) (hB : BowAt w Bc b) (hne : v0.ownBlock ≠ some Bc) (hbase : base ≤ w.heap.size) (hl : l0.length ≤ 1099511627776) :
    Calls Try.prog 58 #[v0, .func (.func 78) #[] #[.pointer (some ⟨Bc, 0, none⟩)]] w fun e w' =>
      ∃ v', e = .returned v' ∧ w'.ownsRow base 27 2 v' (l0 ++ bowDots b).length (pairCells (l0 ++ bowDots b)) ∧ (v'.ownBlock = v0.ownBlock ∨ ∀ k, v'.ownBlock = some k → w.heap.size < k) ∧ Kp v0.ownBlock.toList w w' := by
  have n2 := bowN_le b
  refine fappseq_calls base Bc v0 l0 b (bowN b) (by omega) (fun k => atQ b ((k : Int) + 1) (bowN b)) (fun W => ?_) (fun k hk W => ?_) w hown hB hne hbase hl
  · unfold bowN
    cases hm : mayW b with
    | true => simpa using cpieces_calls b hm W
    | false => simpa using cpieces_no b hm W
  · cases hm : mayW b with
    | true => exact cat_calls b hm _ _ (by omega) (by omega) (by omega) (by omega) W
    | false => unfold bowN at hk; rw [hm] at hk; simp at hk
theorem bowDots_len (b : Bw) : (bowDots b).length ≤ 256 := by unfold bowDots; rw [uptoF_length]; exact bowN_le b
theorem ctrS_app (s : Sc) (l r : List Cv) : ctrS s (l ++ r) = ctrS s l ++ ctrS s r := by simp [ctrS]
theorem ctrS_len (s : Sc) (l : List Cv) : (ctrS s l).length ≤ l.length * 256 := by
  induction l with
  | nil => simp [ctrS]
  | cons q l ih =>
    have := bowDots_len (bowS s q)
    have e : ctrS s (q :: l) = bowDots (bowS s q) ++ ctrS s l := rfl
    rw [e, List.length_append, List.length_cons]; omega
end Go.Proofs.Ytpbmefojhgcniaa
namespace Go.Proofs.Ytpbmefojhgcniaa
open Go.RowKit Go.Shelf
set_option linter.unusedVariables false
set_option linter.unusedSimpArgs false
attribute [local go_sem] Oper.semAt_some
theorem four_heap {w : World} {A B C D : Obj} : ((((w.alloc A).alloc B).alloc C).alloc D).heap[w.heap.size]? = some A ∧ ((((w.alloc A).alloc B).alloc C).alloc D).heap[w.heap.size + 1]? = some B ∧ ((((w.alloc A).alloc B).alloc C).alloc D).heap[w.heap.size + 1 + 1]? = some C ∧ ((((w.alloc A).alloc B).alloc C).alloc D).heap[w.heap.size + 1 + 1 + 1]? = some D := by
  have hk : ∀ (W : World) (o : Obj), Kp [] W (W.alloc o) := fun W o => (Kp.refl _ _).alloc o
  have s : ∀ (W : World) (o : Obj), (W.alloc o).heap.size = W.heap.size + 1 := fun W o => by simp
  refine ⟨(((hk _ B).trans ((hk _ C).trans (hk _ D))).heap (heap_alloc_new w A) (by simp)), ?_, ?_, ?_⟩
  · have := heap_alloc_new (w.alloc A) B; rw [s] at this
    exact ((hk _ C).trans (hk _ D)).heap this (by simp)
  · have := heap_alloc_new ((w.alloc A).alloc B) C; rw [s, s] at this
    exact (hk _ D).heap this (by simp)
  · have := heap_alloc_new (((w.alloc A).alloc B).alloc C) D; rw [s, s, s] at this
    exact this
theorem own_base {w : World} {base base' : Nat} {e : TypeId} {size n : Nat} {v : Value} {xs : List Value} (h : w.ownsRow base e size v n xs) (hb : base' ≤ base) : w.ownsRow base' e size v n xs := by
  refine ⟨h.1, ?_⟩
  rcases h.2 with h2 | ⟨g, cap, cur, h3, h4, rest⟩
  · exact .inl h2
  · exact .inr ⟨g, cap, cur, h3, Nat.le_trans hb h4, rest⟩
/-- What contour keeps: its boxes, its row, the scaler. -/
def CtSt (w W : World) (B A : Nat) (s : Sc) (ds : List (Int × Int)) (e : Int) : Prop :=
  A = w.heap.size ∧ Boxed W A 62 (.pointer (some ⟨B, 0, none⟩)) ∧ Boxed W (A + 1) 61 (.slice none 0 0) ∧
  (∃ v, Boxed W (A + 1 + 1) 61 v ∧ W.ownsRow (A + 1 + 1 + 1) 27 2 v ds.length (pairCells ds)) ∧ ScrAt W B s e ∧ Kp [B] w W ∧ B < A ∧ A + 1 + 1 + 1 + 1 + 1 ≤ W.heap.size
theorem CtSt.own {w : World} {B A M : Nat} {s : Sc} {f : List Cv → List (Int × Int)} {g : List Cv → Int} (hM : w.heap.size ≤ M) : OwnFrom (β := List Cv) M (fun pre W => CtSt w W B A s (f pre) (g pre)) := by
  intro t W W' row hs hg hr
  obtain ⟨h1, h2, h3, ⟨v, h4, h5⟩, h6, h7, h8, h9⟩ := hs
  exact ⟨h1, blkKept hg hr h2, blkKept hg hr h3, ⟨v, blkKept hg hr h4, rowKept hg hr h5⟩, blkKept hg hr h6, Kp.grown h7 hg (fun k hk => .inr (Nat.le_trans hM (hr k hk).1)), h8, Nat.le_trans h9 hg.size⟩
theorem CtSt.kp {w W W' : World} {B A : Nat} {s : Sc} {ds : List (Int × Int)} {e : Int} (h : CtSt w W B A s ds e) (hk : Kp [] W W') : CtSt w W' B A s ds e := by
  obtain ⟨h1, h2, h3, ⟨v, h4, h5⟩, h6, h7, h8, h9⟩ := h
  exact ⟨h1, Boxed.kp h2 hk, Boxed.kp h3 hk, ⟨v, Boxed.kp h4 hk, hk.row h5 (by simp)⟩, h6.kp hk (by simp), h7.trans0 hk, h8, Nat.le_trans h9 hk.size⟩
/-- The scaler's error is another; the rest lies as it lay. -/
theorem CtSt.scr {w W W' : World} {B A : Nat} {s : Sc} {ds : List (Int × Int)} {e e' : Int} (h : CtSt w W B A s ds e) (hk : Kp [B] W W') (hs : ScrAt W' B s e') : CtSt w W' B A s ds e' := by
  obtain ⟨h1, h2, h3, ⟨v, h4, h5⟩, h6, h7, h8, h9⟩ := h
  refine ⟨h1, hk.heap h2 (by simp; omega), hk.heap h3 (by simp; omega), ⟨v, hk.heap h4 (by simp; omega), hk.row h5 (fun t ht e => ?_)⟩, hs, h7.trans hk, h8, Nat.le_trans h9 hk.size⟩
  simp at ht; subst ht
  have := own_ge h5 _ e; omega
theorem CtSt.setR {w W : World} {B A : Nat} {s : Sc} {ds : List (Int × Int)} {e : Int} (h : CtSt w W B A s ds e) : CtSt w (W.setCell ⟨A + 1, 0, none⟩ (.slice none 0 0)) B A s ds e := by
  obtain ⟨h1, h2, h3, ⟨v, h4, h5⟩, h6, h7, h8, h9⟩ := h
  have hk : Kp [A + 1] W (W.setCell ⟨A + 1, 0, none⟩ (.slice none 0 0)) := (Kp.refl _ _).setCell (.inl (by simp)) _
  exact ⟨h1, hk.heap h2 (by simp), heap_setCell_same W (A + 1) 0 _ _ _ h3, ⟨v, hk.heap h4 (by simp), hk.row h5 (fun t ht e => by simp at ht; subst ht; have := own_ge h5 _ e; omega)⟩, h6.kp hk (by simp; omega), h7.setCell (.inr (by show _ ≤ A + 1; omega)) _, h8, Nat.le_trans h9 hk.size⟩
theorem CtSt.ownE {w : World} {B A M : Nat} {s : Sc} (hM : w.heap.size ≤ M) : OwnFrom (β := List Cv) M (fun pre W => ctrE s 0 pre = 0 ∧ CtSt w W B A s (ctrS s pre) 0) :=
  fun t W W' row hs hg hr => ⟨hs.1, CtSt.own (f := fun pre => ctrS s pre) (g := fun _ => 0) hM t W W' row hs.2 hg hr⟩
theorem CtSt.ownX {w : World} {B A M : Nat} {s : Sc} {cd : Code} (hM : w.heap.size ≤ M) : OwnFrom (β := List Cv) M (fun pre W => (cd = .ret ∧ ctrE s 0 pre ≠ 0) ∧ CtSt w W B A s (ctrS s pre.dropLast) (ctrE s 0 pre)) :=
  fun t W W' row hs hg hr => ⟨hs.1, CtSt.own (f := fun pre => ctrS s pre.dropLast) (g := fun pre => ctrE s 0 pre) hM t W W' row hs.2 hg hr⟩
/-- The loop's own book-keeping. -/
theorem RB.of_put {Bo n₀ l : Nat} {W : World} {o o' : Obj} (hl : n₀ ≤ l) (ho : W.heap[l]? = some o) (hc : o.isCells = false) (hb : Bo < n₀) : RB Bo n₀ W (W.putObj l o') := by
  have hg := grownBy_putObj' W l o'
  refine ⟨hg.size, fun k o2 hk hn h2 hc2 => hg.block k (lt_of_block h2) (fun e => ?_), .inl (rowOf_same (hg.block Bo ?_ (fun e => ?_)))⟩
  · cases e; rw [ho] at h2; cases h2; rw [hc] at hc2; cases hc2
  · have := lt_of_block ho; omega
  · cases e; omega
theorem refTo_lenW (e : List Pn) : ∀ n, (refTo e n).length ≤ n := by
  intro n
  induction n with
  | zero => simp [refTo]
  | succ n ih => rw [refTo, List.length_append]; split <;> simp <;> omega
/-- What the round's last line has, operation by operation. -/
structure CrI (W0 : World) (A Bb : Nat) (b : Bw) (v : Value) (ds : List (Int × Int)) (D : Nat → Prop) (W : World) (t20 t21 t22 t23 : Value) : Prop where
  kp : Kp ((A + 1 + 1) :: v.ownBlock.toList) W0 W
  kn : ¬ D 3 → Kp [] W0 W
  e20 : D 0 → t20 = v
  e21 : D 1 → t21 = bowV b
  e22 : D 2 → ∃ Bc, t22 = .func (.func 78) #[] #[.pointer (some ⟨Bc, 0, none⟩)] ∧ W0.heap.size ≤ Bc ∧ (¬ D 3 → BowAt W Bc b)
  e23 : D 3 → (t23.ownBlock = v.ownBlock ∨ ∀ k, t23.ownBlock = some k → W0.heap.size ≤ k) ∧ W.ownsRow (A + 1 + 1 + 1) 27 2 t23 (ds ++ bowDots b).length (pairCells (ds ++ bowDots b))
  b4 : D 4 → Boxed W (A + 1 + 1) 61 t23
  n4 : ¬ D 4 → Boxed W (A + 1 + 1) 61 v
  p4 : D 4 → D 3
  p3 : D 3 → D 0 ∧ D 1 ∧ D 2
  p2 : D 2 → D 1
theorem CrI.s0 {W0 W : World} {A Bb : Nat} {b : Bw} {v : Value} {ds : List (Int × Int)} {D : Nat → Prop} {t20 t21 t22 t23 : Value} (h : CrI W0 A Bb b v ds D W t20 t21 t22 t23) : CrI W0 A Bb b v ds (fun x => x = 0 ∨ D x) W v t21 t22 t23 :=
  ⟨h.kp, fun n => h.kn (fun d => n (.inr d)), fun _ => rfl, fun d => h.e21 (d.resolve_left (by decide)), fun d => (h.e22 (d.resolve_left (by decide))).imp fun Bc ⟨x1, x2, x3⟩ => ⟨x1, x2, fun n => x3 (fun d => n (.inr d))⟩, fun d => h.e23 (d.resolve_left (by decide)), fun d => h.b4 (d.resolve_left (by decide)), fun n => h.n4 (fun d => n (.inr d)), fun d => .inr (h.p4 (d.resolve_left (by decide))), fun d => ⟨.inr (h.p3 (d.resolve_left (by decide))).1, .inr (h.p3 (d.resolve_left (by decide))).2.1, .inr (h.p3 (d.resolve_left (by decide))).2.2⟩, fun d => .inr (h.p2 (d.resolve_left (by decide)))⟩
theorem CrI.s1 {W0 W : World} {A Bb : Nat} {b : Bw} {v : Value} {ds : List (Int × Int)} {D : Nat → Prop} {t20 t21 t22 t23 : Value} (h : CrI W0 A Bb b v ds D W t20 t21 t22 t23) : CrI W0 A Bb b v ds (fun x => x = 1 ∨ D x) W t20 (bowV b) t22 t23 :=
  ⟨h.kp, fun n => h.kn (fun d => n (.inr d)), fun d => h.e20 (d.resolve_left (by decide)), fun _ => rfl, fun d => (h.e22 (d.resolve_left (by decide))).imp fun Bc ⟨x1, x2, x3⟩ => ⟨x1, x2, fun n => x3 (fun d => n (.inr d))⟩, fun d => h.e23 (d.resolve_left (by decide)), fun d => h.b4 (d.resolve_left (by decide)), fun n => h.n4 (fun d => n (.inr d)), fun d => .inr (h.p4 (d.resolve_left (by decide))), fun d => ⟨.inr (h.p3 (d.resolve_left (by decide))).1, .inr (h.p3 (d.resolve_left (by decide))).2.1, .inr (h.p3 (d.resolve_left (by decide))).2.2⟩, fun d => .inr (h.p2 (d.resolve_left (by decide)))⟩
theorem CrI.s2 {W0 W : World} {A Bb : Nat} {b : Bw} {v : Value} {ds : List (Int × Int)} {D : Nat → Prop} {t20 t21 t22 t23 : Value} (h : CrI W0 A Bb b v ds D W t20 t21 t22 t23) {W' : World} {Bc : Nat} (hn : ¬ D 3) (hd1 : D 1) (hk : Kp [] W W') (hB : BowAt W' Bc b) (hs : W0.heap.size ≤ Bc) : CrI W0 A Bb b v ds (fun x => x = 2 ∨ D x) W' t20 t21 (.func (.func 78) #[] #[.pointer (some ⟨Bc, 0, none⟩)]) t23 :=
  ⟨h.kp.trans0 hk, fun _ => (h.kn hn).trans hk, fun d => h.e20 (d.resolve_left (by decide)), fun d => h.e21 (d.resolve_left (by decide)), fun _ => ⟨Bc, rfl, hs, fun _ => hB⟩, fun d => absurd (d.resolve_left (by decide)) hn, fun d => absurd (h.p4 (d.resolve_left (by decide))) hn, fun n => Boxed.kp (h.n4 (fun d => n (.inr d))) hk, fun d => .inr (h.p4 (d.resolve_left (by decide))), fun d => ⟨.inr (h.p3 (d.resolve_left (by decide))).1, .inr (h.p3 (d.resolve_left (by decide))).2.1, .inr (h.p3 (d.resolve_left (by decide))).2.2⟩, fun _ => .inr hd1⟩
theorem CrI.s3 {W0 W : World} {A Bb : Nat} {b : Bw} {v : Value} {ds : List (Int × Int)} {D : Nat → Prop} {t20 t21 t22 t23 : Value} (h : CrI W0 A Bb b v ds D W t20 t21 t22 t23) {W' : World} {v' : Value} (hn : ¬ D 3) (hd : D 0 ∧ D 1 ∧ D 2) (hk : Kp v.ownBlock.toList W W') (hv : v.ownBlock ≠ some (A + 1 + 1)) (ho : v'.ownBlock = v.ownBlock ∨ ∀ k, v'.ownBlock = some k → W0.heap.size ≤ k) (hr : W'.ownsRow (A + 1 + 1 + 1) 27 2 v' (ds ++ bowDots b).length (pairCells (ds ++ bowDots b))) : CrI W0 A Bb b v ds (fun x => x = 3 ∨ D x) W' t20 t21 t22 v' :=
  ⟨h.kp.trans' hk (fun t ht => .inl (List.mem_cons_of_mem _ ht)), fun n => absurd (.inl rfl) n, fun d => h.e20 (d.resolve_left (by decide)), fun d => h.e21 (d.resolve_left (by decide)), fun d => (h.e22 (d.resolve_left (by decide))).imp fun Bc ⟨x1, x2, x3⟩ => ⟨x1, x2, fun n => absurd (.inl rfl) n⟩, fun _ => ⟨ho, hr⟩, fun d => absurd (h.p4 (d.resolve_left (by decide))) hn, fun n => hk.heap (h.n4 (fun d => n (.inr d))) (by simpa using hv), fun _ => .inl rfl, fun _ => ⟨.inr hd.1, .inr hd.2.1, .inr hd.2.2⟩, fun d => .inr (h.p2 (d.resolve_left (by decide)))⟩
theorem CrI.s4 {W0 W : World} {A Bb : Nat} {b : Bw} {v : Value} {ds : List (Int × Int)} {D : Nat → Prop} {t20 t21 t22 t23 : Value} (h : CrI W0 A Bb b v ds D W t20 t21 t22 t23) (hd : D 3) (hn : ¬ D 4) : CrI W0 A Bb b v ds (fun x => x = 4 ∨ D x) (W.setCell ⟨A + 1 + 1, 0, none⟩ t23) t20 t21 t22 t23 :=
  ⟨h.kp.setCell (.inl (by simp)) _, fun n => absurd (.inr hd) n, fun d => h.e20 (d.resolve_left (by decide)), fun d => h.e21 (d.resolve_left (by decide)), fun d => (h.e22 (d.resolve_left (by decide))).imp fun Bc ⟨x1, x2, x3⟩ => ⟨x1, x2, fun n => absurd (.inr hd) n⟩, fun _ => ⟨(h.e23 hd).1, ((Kp.refl [A + 1 + 1] W).setCell (.inl (by simp)) t23).row (h.e23 hd).2 (fun t ht e => by simp at ht; subst ht; have := own_ge (h.e23 hd).2 _ e; omega)⟩, fun _ => heap_setCell_same W (A + 1 + 1) 0 _ _ _ (h.n4 hn), fun n => absurd (.inl rfl) n, fun _ => .inr hd, fun _ => ⟨.inr (h.p3 hd).1, .inr (h.p3 hd).2.1, .inr (h.p3 hd).2.2⟩, fun d => .inr (h.p2 (d.resolve_left (by decide)))⟩
theorem op_loadD {ρ : Operand → Value} {o : Oper} {x : Operand} {w : World} {B off : Nat} {v : Value} (h : o.op = .load 61 x) (hx : ρ x = .pointer (some ⟨B, off, none⟩)) (hc : w.cell? ⟨B, off, none⟩ = some v) : (execOp ρ o).run Try.prog w = .ok (.value v) w := by
  simp only [execOp, h, hx]
  simp [go_sem, hc]
theorem op_loadW {ρ : Operand → Value} {o : Oper} {x : Operand} {w : World} {B : Nat} {b : Bw} (h : o.op = .load 71 x) (hx : ρ x = .pointer (some ⟨B, 0, none⟩)) (hb : BowAt w B b) : (execOp ρ o).run Try.prog w = .ok (.value (bowV b)) w := by
  obtain ⟨c0, c1, c2, c3, c4, c5, c6, c7, c8⟩ := hb.cells
  simp only [execOp, h, hx]
  simp [go_sem, c0, c1, c2, c3, c4, c5, c6, c7, c8, bowV]
theorem op_storeD {ρ : Operand → Value} {o : Oper} {x y : Operand} {w : World} {B n c : Nat} {p : Option Addr} {v v0 : Value} (h : o.op = .store 61 x y) (hx : ρ x = .pointer (some ⟨B, 0, none⟩)) (hv : v = .slice p n c) (hy : ρ y = v) (hc : w.cell? ⟨B, 0, none⟩ = some v0) (hf : w.frozen? ⟨B, 0, none⟩ = false) : (execOp ρ o).run Try.prog w = .ok .skip (w.setCell ⟨B, 0, none⟩ v) := by
  subst hv
  simp only [execOp, h, hx, hy]
  simp [go_sem, hc, hf]
theorem op_call2 {ρ : Operand → Value} {o : Oper} {x y : Operand} {t u : TypeId} {w : World} {k : Nat} {v z : Value} (h : o.op = .call { callee := .value (.func k), args := #[x, y], argTypes := #[t, u] }) (hx : ρ x = v) (hy : ρ y = z) (hf : ρ (.func k) = .func (.func k) #[] #[]) (he : ∀ args w, (callFunc k args).run Try.prog w = .ok (.enter k args) w) : (execOp ρ o).run Try.prog w = .ok (.enter k #[v, z]) w := by
  simp only [execOp, h, resolve, hf]
  simp [Deferred.ofValue, invoke, he, hx, hy, go_sem]
set_option maxRecDepth 100000 in
set_option maxHeartbeats 4000000 in
theorem fcontour_calls (B : Nat) (s : Sc) (v : Value) (c : List Pn) (w : World) (hb : ScrAt w B s 0) (hv : IsPs w v c) (hE : checkO [c] = 0) :
    Calls Try.prog 37 #[.pointer (some ⟨B, 0, none⟩), v] w fun e w' => ∃ v', e = .returned v' ∧ ScrAt w' B s (ctrE s 0 (curvesTo (expO [c]) 1)) ∧ Kp [B] w w' ∧
      (ctrE s 0 (curvesTo (expO [c]) 1) = 0 → w'.ownsRow w.heap.size 27 2 v' (ctrS s (curvesTo (expO [c]) 1)).length (pairCells (ctrS s (curvesTo (expO [c]) 1)))) := by
  obtain ⟨L, hL⟩ : ∃ L, curvesTo (expO [c]) 1 = L := ⟨_, rfl⟩
  have HL := Lib.hid hL
  have HLL : Hid (L.length ≤ 8193) := by
    show _ ≤ _
    obtain ⟨z1, z2, z3⟩ := checkO_zero hE
    have a := (expC_len _ (mayCo_facts (z3 0 (by simp))).1).2
    have b := len_le_cnt [c] (j := 0) (by simp)
    have d := expO_at [c] 0 (by simp)
    have e : L = [] ++ refTo ((expO [c]).getD 0 []) ((expO [c]).getD 0 []).length := hL.symm
    rw [e, List.nil_append, d]
    have f := refTo_lenW (expC (([c] : List (List Pn)).getD 0 [])) (expC (([c] : List (List Pn)).getD 0 [])).length
    omega
  rw [hL]
  clear hL
  have HB := Lib.hid hb
  have HBL : Hid (B < w.heap.size) := lt_of_block hb
  have HV := Lib.hid hv
  have HE := Lib.hid hE
  obtain ⟨p1, c1, rfl⟩ := hv.form
  obtain ⟨N, hN⟩ : ∃ N, c.length = N := ⟨_, rfl⟩
  have HN := Lib.hid hN
  rw [hN] at HV ⊢
  clear hb hv hE hN
  refine (callsIn_wide (n := 5)).1 ?_
  refine callsIn_of_wp_marks Try.func37 rfl trivial ?_ rfl
  simp only [Try.ntmps37, List.size_toArray, List.length_cons, List.length_nil, Nat.reduceAdd, Nat.reduceSub, Array.replicate_succ, Array.replicate_zero, List.push_toArray, List.append_toArray, List.nil_append, List.cons_append]
  gi_wp2_with (refine ⟨trivial, ?_⟩; gi_at_call 56; refine (callsIn_wide.2 (focurves_calls _ _ _ _)).mono ?_; rintro e w2 ⟨rfl, hw2⟩; have HW2 := Lib.hid hw2; clear hw2)
  have hw2 := HW2.out
  obtain ⟨q1, q2, q3, q4⟩ := four_heap (w := w) (A := .cells #[.pointer (some ⟨B, 0, none⟩)] 62) (B := .cells #[.slice none 0 0] 61) (C := .cells #[.slice none 0 0] 61) (D := .cells #[.slice p1 N c1] 56)
  obtain ⟨W4, hW4⟩ : ∃ W4, (((w.alloc (.cells #[.pointer (some ⟨B, 0, none⟩)] 62)).alloc (.cells #[.slice none 0 0] 61)).alloc (.cells #[.slice none 0 0] 61)).alloc (.cells #[.slice p1 N c1] 56) = W4 := ⟨_, rfl⟩
  have hk4 : Kp [] w W4 := by rw [← hW4]; (repeat (first | exact Kp.refl _ _ | assumption | refine Kp.drew ?_ | refine Kp.drewN ?_ _ | refine Kp.alloc ?_ _ | (refine Kp.setCell ?_ (by first | (left; simp; done) | (right; simp; try omega)) _) | (refine Kp.trans' ?_ (by assumption) (by simp; try omega))))
  have hs4 : W4.heap.size = w.heap.size + 1 + 1 + 1 + 1 := by rw [← hW4]; simp
  rw [hW4] at hw2 q1 q2 q3 q4
  have hkc : Kp [] W4 w2 := by rw [hw2]; exact (Kp.refl _ _).alloc _
  have hs2 : w2.heap.size = w.heap.size + 1 + 1 + 1 + 1 + 1 := by rw [hw2]; simp [hs4]
  have hq5 : w2.heap[w.heap.size + 1 + 1 + 1 + 1]? = some (.cells #[.slice (some ⟨w.heap.size + 1 + 1 + 1, 0, none⟩) 1 1] 37) := by
    rw [hw2, ← hs4]; exact heap_alloc_new W4 _
  have HI0 : Hid (CtSt w w2 B w.heap.size s (ctrS s []) 0) := ⟨rfl, hkc.heap q1 (by simp), hkc.heap q2 (by simp), ⟨_, hkc.heap q3 (by simp), World.ownsRow_nil _ _ _ _⟩, HB.out.kp (hk4.trans hkc) (by simp), (hk4.trans hkc).more (fun s hs => nomatch hs), HBL.out, by omega⟩
  have hout : IsOut w2 (.slice (some ⟨w.heap.size + 1 + 1 + 1, 0, none⟩) 1 1) [c] := by
    refine ⟨[.slice p1 N c1], ⟨rfl, .inr ⟨w.heap.size + 1 + 1 + 1, 0, 1, rfl, by simp, by unfold maxLen; decide, ?_⟩⟩, ?_⟩
    · intro j u hu
      rcases j with _ | j
      · cases hu; rw [cell_of_row w2 _ 0 _ _ _ (hkc.heap q4 (by simp))]; rfl
      · simp at hu
    · intro i hi
      rcases i with _ | i
      · show IsPs w2 (.slice p1 N c1) c
        exact HV.out.kp0 (hk4.trans hkc)
      · simp at hi
  have HST := Lib.hid (curves_stopsB 4 (by decide) (w.heap.size + 1 + 1 + 1 + 1) (w.heap.size + 1 + 1) w2.heap.size _ [c] HE.out w2 (by rw [cell_of_row w2 _ 0 _ _ _ hq5]; rfl) hout (Nat.le_refl _) (by omega) (fun k hk => by
    have e : w2.cell? ⟨w.heap.size + 1 + 1, 0, none⟩ = some (.slice none 0 0) := by rw [cell_of_row w2 _ 0 _ _ _ (hkc.heap q3 (by simp))]; rfl
    unfold rowOf at hk; rw [e] at hk; cases hk))
  clear hw2 HW2 q1 q2 q3 q4 hW4 hk4 hs4 hkc hq5 hout HB HV HE HN
  rw [show ([c] : List (List Pn)).length = 1 from rfl, HL.out] at HST
  clear HL
  generalize hA : w.heap.size = A at *
  have HA := Lib.hid hA
  refine wpIn_rangeFunc_ownH rfl (by decide) (gf := 74) (lb := #[.pointer (some ⟨A + 1 + 1 + 1 + 1, 0, none⟩)]) rfl trivial (enters_of Try.func74 (by kernel_rfl) rfl)
    HST.out (fun h1 h2 => h1.trans h2) (fun W l o o' hl ho hc hw => RB.of_put hl ho hc (by omega)) (Below.refl _ _) (fun _ => rfl)
    (fun pre W => ctrE s 0 pre = 0 ∧ CtSt w W B A s (ctrS s pre) 0) (fun cd pre W => (cd = .ret ∧ ctrE s 0 pre ≠ 0) ∧ CtSt w W B A s (ctrS s pre.dropLast) (ctrE s 0 pre)) (CtSt.ownE (by omega)) (fun cd => CtSt.ownX (by omega)) ⟨rfl, HI0.out⟩
    (fun x a' W => ∃ Bx, w2.heap.size ≤ Bx ∧ CvAt W Bx x ∧ a' = { tmps := #[.pointer (some ⟨B, 0, none⟩), .slice p1 N c1, .pointer (some ⟨A, 0, none⟩), undef, .pointer (some ⟨A + 1, 0, none⟩), .pointer (some ⟨A + 1 + 1, 0, none⟩), .pointer (some ⟨Bx, 0, none⟩), undef, .slice p1 N c1, .slice (some ⟨A + 1 + 1 + 1, 0, none⟩) 1 1, .func (.func 74) #[] #[.pointer (some ⟨A + 1 + 1 + 1 + 1, 0, none⟩)], cvV x, undef, undef, undef, undef, undef, undef, undef, undef, undef, undef, undef, undef, undef], defers := [] })
    (fun x a' s W W' row hs hg hr => by obtain ⟨Bx, h1, h2, h3⟩ := hs; exact ⟨Bx, h1, blkKept hg hr h2, h3⟩) ?assign ?body ?done ?stop
  case assign =>
    intro l pre x W K hi hK
    have HI := Lib.hid hi
    have hszW : w2.heap.size ≤ W.heap.size := by have := hi.2.2.2.2.2.2.2.2; omega
    clear hi
    obtain ⟨qk, ⟨ax, ay, ak⟩, ⟨bx, b_y, bk⟩, ⟨cx, cy, ck⟩, ⟨dx, dy, dk⟩⟩ := x
    simp only [cvV, cvCells]
    gi_wp2
    exact hK _ _ ((KeepsOthers.alloc _ _).from _) (Kp.rb ((Kp.refl _ _).alloc _) (by omega)) ⟨HI.out.1, HI.out.2.kp ((Kp.refl _ _).alloc _)⟩ ⟨W.heap.size, hszW, heap_alloc_new W _, rfl⟩
  case body =>
    rintro l pre x a' W hl ⟨rr, hr⟩ hI ⟨Bx, hBx, hD, rfl⟩ hlt
    obtain ⟨qk, ⟨ax, ay, ak⟩, ⟨bx, b_y, bk⟩, ⟨cx, cy, ck⟩, ⟨dx, dy, dk⟩⟩ := x
    have HW := Lib.hid hI.2
    have HEP := Lib.hid hI.1
    have HC := Lib.hid (fbow_calls B s 0 ⟨qk, ⟨ax, ay, ak⟩, ⟨bx, b_y, bk⟩, ⟨cx, cy, ck⟩, ⟨dx, dy, dk⟩⟩ W hI.2.2.2.2.2.1)
    obtain ⟨v0, v1, v2, v3, v4, v5, v6, v7, v8, v9, v10, v11, v12⟩ := CvAt.cells (show CvAt W Bx ⟨qk, ⟨ax, ay, ak⟩, ⟨bx, b_y, bk⟩, ⟨cx, cy, ck⟩, ⟨dx, dy, dk⟩⟩ from hD)
    dsimp only at v0 v1 v2 v3 v4 v5 v6 v7 v8 v9 v10 v11 v12
    obtain ⟨E, hEE⟩ : ∃ E, bowErr s 0 (bowPs ⟨qk, ⟨ax, ay, ak⟩, ⟨bx, b_y, bk⟩, ⟨cx, cy, ck⟩, ⟨dx, dy, dk⟩⟩) = E := ⟨_, rfl⟩
    obtain ⟨b, hbb⟩ : ∃ b, bowS s ⟨qk, ⟨ax, ay, ak⟩, ⟨bx, b_y, bk⟩, ⟨cx, cy, ck⟩, ⟨dx, dy, dk⟩⟩ = b := ⟨_, rfl⟩
    have HE1 : Hid (ctrE s 0 (pre ++ [⟨qk, ⟨ax, ay, ak⟩, ⟨bx, b_y, bk⟩, ⟨cx, cy, ck⟩, ⟨dx, dy, dk⟩⟩]) = E) := by show _ = _; rw [ctrE_app, hI.1, ← hEE]; rfl
    have HS1 : Hid (ctrS s (pre ++ [⟨qk, ⟨ax, ay, ak⟩, ⟨bx, b_y, bk⟩, ⟨cx, cy, ck⟩, ⟨dx, dy, dk⟩⟩]) = ctrS s pre ++ bowDots b) := by show _ = _; rw [ctrS_app, ← hbb]; simp [ctrS]
    have HDL : Hid ((pre ++ [(⟨qk, ⟨ax, ay, ak⟩, ⟨bx, b_y, bk⟩, ⟨cx, cy, ck⟩, ⟨dx, dy, dk⟩⟩ : Cv)]).dropLast = pre) := List.dropLast_concat
    rw [hEE, hbb] at HC
    rw [show cvV ⟨qk, ⟨ax, ay, ak⟩, ⟨bx, b_y, bk⟩, ⟨cx, cy, ck⟩, ⟨dx, dy, dk⟩⟩ = .agg #[.int .i64 qk, .int .i64 ax, .int .i64 ay, .int .i64 ak, .int .i64 bx, .int .i64 b_y, .int .i64 bk, .int .i64 cx, .int .i64 cy, .int .i64 ck, .int .i64 dx, .int .i64 dy, .int .i64 dk] from rfl] at HC ⊢
    rw [show bowV b = .agg #[.int .i64 b.k, .int .i64 b.a.1, .int .i64 b.a.2, .int .i64 b.b.1, .int .i64 b.b.2, .int .i64 b.c.1, .int .i64 b.c.2, .int .i64 b.d.1, .int .i64 b.d.2] from rfl] at HC
    have hc2 := hI.2.2.1.cell
    have hsz := hI.2.2.2.2.2.2.2.2
    clear hEE hbb hI hD hr
    by_cases hE0 : E = 0
    · subst hE0
      gi_wp2_with (refine ⟨trivial, ?_⟩; gi_at_call 57; refine (callsIn_wide.2 HC.out).mono ?_; rintro e w3 ⟨rfl, hs3, hk3⟩; have HK3 := Lib.hid hk3; have HI3 := Lib.hid (HW.out.scr hk3 hs3); have d2 := HI3.out.2.1.cell; have d4 := hs3.cells.2.2.2.2; have hka : Kp [] w3 (w3.alloc (.cells #[.int .i64 b.k, .int .i64 b.a.1, .int .i64 b.a.2, .int .i64 b.b.1, .int .i64 b.b.2, .int .i64 b.c.1, .int .i64 b.c.2, .int .i64 b.d.1, .int .i64 b.d.2] 71)) := (Kp.refl _ _).alloc _; have d2b := hka.cell d2 (by simp); have d4b := hka.cell d4 (by simp); have h3b : Boxed (w3.alloc (.cells #[.int .i64 b.k, .int .i64 b.a.1, .int .i64 b.a.2, .int .i64 b.b.1, .int .i64 b.b.2, .int .i64 b.c.1, .int .i64 b.c.2, .int .i64 b.d.1, .int .i64 b.d.2] 71)) (A + 1) 61 (.slice none 0 0) := hka.heap HI3.out.2.2.1 (by simp); have d3b := h3b.cell; have f3b := h3b.frozen; clear hka h3b; clear v0 v1 v2 v3 v4 v5 v6 v7 v8 v9 v10 v11 v12 hc2 hk3 hs3)
      refine wpIn_gen ?_; intro W0 hW0
      have hka : Kp [] w3 W0 := by rw [hW0]; exact (Kp.refl _ _).alloc _
      obtain ⟨Bb, hBb⟩ : ∃ Bb, w3.heap.size = Bb := ⟨_, rfl⟩
      have hBw : BowAt W0 Bb b := by rw [hW0, ← hBb]; exact heap_alloc_new w3 _
      have HIW := Lib.hid (HI3.out.kp hka)
      have HKW : Hid (Kp [B] W W0) := HK3.out.trans0 hka
      obtain ⟨h1, h2, h3, ⟨v, h4, h5⟩, h6, h7, h8, h9⟩ := HIW.out
      have hvlt : ∀ k, v.ownBlock = some k → A + 1 + 1 + 1 ≤ k ∧ k < Bb := fun k hk => by
        obtain ⟨_, _, _, ⟨v', h4', h5'⟩, _⟩ := HI3.out
        have e : v' = v := by
          have a1 : W0.heap[A + 1 + 1]? = _ := hka.heap h4' (by simp)
          have a2 : W0.heap[A + 1 + 1]? = _ := h4
          rw [a2] at a1
          simpa using a1.symm
        subst e
        have := h5'.lt k hk
        omega
      rw [hBb] at *
      have HDN : Hid ((ctrS s pre).length ≤ 1099511627776) := by show _ ≤ _; have a1 := ctrS_len s pre; have a2 := HLL.out; have a3 := hlt; omega
      have HH4 := Lib.hid h4
      have HH5 := Lib.hid h5
      have HBW := Lib.hid hBw
      have hW0 := hka.size
      have hBB := lt_of_block hBw
      clear h1 h2 h3 h4 h5 h6 h7 hW0 hka hBw d2 d4 d2b d4b hsz
      refine wpIn_region_invG (by kernel_rfl) (by kernel_rfl) (fun D a W' => ∃ t20 t21 t22 t23, a = { tmps := ((.pointer (some ⟨B, 0, none⟩) : Value) :: (.slice p1 N c1) :: (.pointer (some ⟨A, 0, none⟩)) :: undef :: (.pointer (some ⟨A + 1, 0, none⟩)) :: (.pointer (some ⟨A + 1 + 1, 0, none⟩)) :: (.pointer (some ⟨Bx, 0, none⟩)) :: (.pointer (some ⟨Bb, 0, none⟩)) :: (.slice p1 N c1) :: (.slice (some ⟨A + 1 + 1 + 1, 0, none⟩) 1 1) :: (.func (.func 74) #[] #[.pointer (some ⟨A + 1 + 1 + 1 + 1, 0, none⟩)]) :: (.agg #[.int .i64 qk, .int .i64 ax, .int .i64 ay, .int .i64 ak, .int .i64 bx, .int .i64 b_y, .int .i64 bk, .int .i64 cx, .int .i64 cy, .int .i64 ck, .int .i64 dx, .int .i64 dy, .int .i64 dk]) :: (.pointer (some ⟨B, 0, none⟩)) :: (.agg #[.int .i64 qk, .int .i64 ax, .int .i64 ay, .int .i64 ak, .int .i64 bx, .int .i64 b_y, .int .i64 bk, .int .i64 cx, .int .i64 cy, .int .i64 ck, .int .i64 dx, .int .i64 dy, .int .i64 dk]) :: (.agg #[.int .i64 b.k, .int .i64 b.a.1, .int .i64 b.a.2, .int .i64 b.b.1, .int .i64 b.b.2, .int .i64 b.c.1, .int .i64 b.c.2, .int .i64 b.d.1, .int .i64 b.d.2]) :: (.pointer (some ⟨B, 0, none⟩)) :: (.pointer (some ⟨B, 0, none⟩)) :: (.pointer (some ⟨B, 4, none⟩)) :: (.int .i64 0) :: (.bool false) :: t20 :: t21 :: t22 :: t23 :: undef :: []).toArray, defers := [] } ∧ CrI W0 A Bb b v (ctrS s pre) D W' t20 t21 t22 t23) ?_ ?_ ?_
      · have hkd : Kp [] W0 W0.drew := (Kp.refl _ _).drew
        exact ⟨undef, undef, undef, undef, rfl, hkd.more (fun t ht => nomatch ht), fun _ => hkd, fun d => d.elim, fun d => d.elim, fun d => d.elim, fun d => d.elim, fun d => d.elim, fun _ => Boxed.kp HH4.out hkd, fun d => d.elim, fun d => d.elim, fun d => d.elim⟩
      · rintro D a' W' j o ho ⟨t20, t21, t22, t23, rfl, hB⟩ hn hd
        have hj : j < 5 := by have := (Array.getElem?_eq_some_iff.1 ho).1; simpa using this
        rcases (show j = 0 ∨ j = 1 ∨ j = 2 ∨ j = 3 ∨ j = 4 by omega) with rfl | rfl | rfl | rfl | rfl
        all_goals obtain rfl := Option.some.inj ho
        · have hn4 : ¬ D 4 := fun d => hn (hB.p3 (hB.p4 d)).1
          refine wpOpIn_of_plainG rfl (plain_load _ _ rfl) (wpOp_value rfl rfl (op_loadD rfl rfl (hB.n4 hn4).cell) ?_)
          exact ⟨_, _, _, _, rfl, hB.s0⟩
        · have hn3 : ¬ D 3 := fun d => hn (hB.p3 d).2.1
          refine wpOpIn_of_plainG rfl (plain_load _ _ rfl) (wpOp_value rfl rfl (op_loadW rfl rfl (HBW.out.kp (hB.kn hn3) (by simp))) ?_)
          exact ⟨_, _, _, _, rfl, hB.s1⟩
        · have hn3 : ¬ D 3 := fun d => hn (hB.p3 d).2.2
          have e1 := hB.e21 (hd ⟨1, .data⟩ (by simp) rfl)
          subst e1
          refine wpOpIn_enter rfl rfl (by simp) (fun _ _ => trivial) (op_call1 rfl rfl rfl (enters_of Try.func59 (by kernel_rfl) rfl)) (fun _ => by decide) ?_
          refine (callsIn_wide.2 (cdots_calls b W')).mono ?_
          rintro e W2 ⟨rfl, hwe⟩
          have hk2 : Kp [] W' W2 := by rw [hwe]; exact (Kp.refl _ _).alloc _
          exact ⟨_, rfl, _, _, _, _, rfl, hB.s2 hn3 (hd ⟨1, .data⟩ (by simp) rfl) hk2 (by rw [hwe]; exact heap_alloc_new W' _) hB.kp.size⟩
        · have hd0 : D 0 := hd ⟨0, .data⟩ (by simp) rfl
          have hd2 : D 2 := hd ⟨2, .data⟩ (by simp) rfl
          have e0 := hB.e20 hd0
          subst e0
          obtain ⟨Bc, e2, hBc, hbw⟩ := hB.e22 hd2
          subst e2
          have hr := (hB.kn hn).row HH5.out (by simp)
          refine wpOpIn_enter rfl rfl (by simp) (fun _ _ => trivial) (op_call2 rfl rfl rfl rfl (enters_of Try.func58 (by kernel_rfl) rfl)) (fun _ => by decide) ?_
          refine (callsIn_wide.2 (fappbow_calls (A + 1 + 1 + 1) Bc t20 (ctrS s pre) b W' hr (hbw hn) (fun e => by have := (hvlt _ e).2; omega) (by have := hB.kp.size; omega) HDN.out)).mono ?_
          rintro e W2 ⟨v', rfl, hr2, ho2, hk2⟩
          have hsz5 : W0.heap.size ≤ W'.heap.size := hB.kp.size
          have ho3 : v'.ownBlock = t20.ownBlock ∨ ∀ k, v'.ownBlock = some k → W0.heap.size ≤ k := ho2.imp_right (fun f k hk => Nat.le_trans hsz5 (Nat.le_of_lt (f k hk)))
          have hx3 : t20.ownBlock ≠ some (A + 1 + 1) := fun e => by have h9 := (hvlt _ e).1; omega
          exact ⟨_, rfl, _, _, _, _, rfl, hB.s3 hn ⟨hd0, hB.p2 hd2, hd2⟩ hk2 hx3 ho3 hr2⟩
        · have hd3 : D 3 := hd ⟨3, .data⟩ (by simp) rfl
          obtain ⟨p3, c3, e3⟩ := slice_own (hB.e23 hd3).2
          have hq := hB.n4 hn
          refine wpOpIn_of_plainG rfl (plain_store _ _ _ rfl) (wpOp_skip rfl rfl (op_storeD rfl rfl e3 rfl hq.cell hq.frozen) ?_)
          exact ⟨_, _, _, _, rfl, hB.s4 hd3 hn⟩
      · rintro D a' W' ⟨t20, t21, t22, t23, rfl, hB⟩ hall
        gi_wp2
        obtain ⟨ho, hr⟩ := hB.e23 (hall 3 (by decide))
        have hb4 := hB.b4 (hall 4 (by decide))
        obtain ⟨k1, k2, k3, ⟨vw, k4, k5⟩, k6, k7, k8, k9⟩ := HW.out
        have hvw : vw = v := by
          have a1 : W0.heap[A + 1 + 1]? = _ := HKW.out.heap k4 (by simp; omega)
          have a2 : W0.heap[A + 1 + 1]? = _ := HH4.out
          rw [a2] at a1
          simpa using a1.symm
        subst hvw
        have hkS : Kp (B :: (A + 1 + 1) :: vw.ownBlock.toList) W W' := (HKW.out.more (fun t ht => .inl (by simp at ht; subst ht; simp))).trans' hB.kp (fun t ht => .inl (List.mem_cons_of_mem _ ht))
        have hBn : B ∉ (A + 1 + 1) :: vw.ownBlock.toList := by
          intro h9
          rcases List.mem_cons.1 h9 with h9 | h9
          · omega
          · have := (hvlt B (by simpa using h9)).1; omega
        have hAn : ∀ d, d < 2 → A + d ∉ (A + 1 + 1) :: vw.ownBlock.toList := by
          intro d hd h9
          rcases List.mem_cons.1 h9 with h9 | h9
          · omega
          · have := (hvlt (A + d) (by simpa using h9)).1; omega
        obtain ⟨m1, m2, m3, _, m6, m7, m8, m9⟩ := HIW.out
        have hrow : rowOf (A + 1 + 1) W = vw.ownBlock := by unfold rowOf; rw [show W.cell? ⟨A + 1 + 1, 0, none⟩ = some vw from Boxed.cell k4]
        have hrow' : rowOf (A + 1 + 1) W' = t23.ownBlock := by unfold rowOf; rw [show W'.cell? ⟨A + 1 + 1, 0, none⟩ = some t23 from Boxed.cell hb4]
        refine ⟨(keepsOwn hkS (fun t ht o ho' => ?_)).from _, ⟨hkS.size, fun k o hk hn ho' hc => hkS.block k (lt_of_block ho') (fun h9 => ?_), ?_⟩, HE1.out, m1, hB.kp.heap m2 (hAn 0 (by omega)), hB.kp.heap m3 (hAn 1 (by omega)), ⟨t23, hb4, by rw [HS1.out]; exact hr⟩, m6.kp hB.kp hBn, m7.trans' hB.kp (fun t ht => .inr ?_), m8, Nat.le_trans m9 hB.kp.size⟩
        · rcases List.mem_cons.1 ht with rfl | ht
          · rw [show W.heap[t]? = _ from k6] at ho'; cases ho'; rfl
          · rcases List.mem_cons.1 ht with rfl | ht
            · rw [show W.heap[A + 1 + 1]? = _ from k4] at ho'; cases ho'; rfl
            · exact own_cells k5 t ht o ho'
        · rcases List.mem_cons.1 h9 with h9 | h9
          · omega
          · rcases List.mem_cons.1 h9 with h9 | h9
            · omega
            · exact hn (by rw [hrow]; simpa using h9)
        · rw [hrow, hrow']
          rcases ho with ho | ho
          · exact .inl ho
          · exact .inr (fun k hk => Nat.le_trans HKW.out.size (ho k hk))
        · have hAw := HA.out
          rcases List.mem_cons.1 ht with rfl | ht
          · omega
          · have := (hvlt t (by simpa using ht)).1; omega
    · have hEb : (E != 0) = true := by simpa using hE0
      gi_wp2_with (refine ⟨trivial, ?_⟩; gi_at_call 57; refine (callsIn_wide.2 HC.out).mono ?_; rintro e w3 ⟨rfl, hs3, hk3⟩; have HK3 := Lib.hid hk3; have HI3 := Lib.hid (HW.out.scr hk3 hs3); have d2 := HI3.out.2.1.cell; have d3 := HI3.out.2.2.1.cell; have f3 := HI3.out.2.2.1.frozen; have d4 := hs3.cells.2.2.2.2; have hka : Kp [] w3 (w3.alloc (.cells #[.int .i64 b.k, .int .i64 b.a.1, .int .i64 b.a.2, .int .i64 b.b.1, .int .i64 b.b.2, .int .i64 b.c.1, .int .i64 b.c.2, .int .i64 b.d.1, .int .i64 b.d.2] 71)) := (Kp.refl _ _).alloc _; have d2b := hka.cell d2 (by simp); have d4b := hka.cell d4 (by simp); have h3b : Boxed (w3.alloc (.cells #[.int .i64 b.k, .int .i64 b.a.1, .int .i64 b.a.2, .int .i64 b.b.1, .int .i64 b.b.2, .int .i64 b.c.1, .int .i64 b.c.2, .int .i64 b.d.1, .int .i64 b.d.2] 71)) (A + 1) 61 (.slice none 0 0) := hka.heap HI3.out.2.2.1 (by simp); have d3b := h3b.cell; have f3b := h3b.frozen; clear hka h3b; clear v0 v1 v2 v3 v4 v5 v6 v7 v8 v9 v10 v11 v12 hc2 hk3 hs3)
      have hka : Kp [] w3 (w3.alloc (.cells #[.int .i64 b.k, .int .i64 b.a.1, .int .i64 b.a.2, .int .i64 b.b.1, .int .i64 b.b.2, .int .i64 b.c.1, .int .i64 b.c.2, .int .i64 b.d.1, .int .i64 b.d.2] 71)) := (Kp.refl _ _).alloc _
      have hkf : Kp [B, A + 1] W ((w3.alloc (.cells #[.int .i64 b.k, .int .i64 b.a.1, .int .i64 b.a.2, .int .i64 b.b.1, .int .i64 b.b.2, .int .i64 b.c.1, .int .i64 b.c.2, .int .i64 b.d.1, .int .i64 b.d.2] 71)).setCell ⟨A + 1, 0, none⟩ (.slice none 0 0)) := ((HK3.out.trans0 hka).more (fun t ht => .inl (by simp at ht; subst ht; simp))).setCell (.inl (by simp)) _
      refine ⟨(keepsOwn hkf (fun t ht o ho => ?_)).from _, ⟨rfl, by rw [HE1.out]; exact hE0⟩, ?_⟩
      · rcases List.mem_cons.1 ht with rfl | ht
        · rw [show W.heap[t]? = _ from HW.out.2.2.2.2.1] at ho; cases ho; rfl
        · simp at ht; subst ht
          rw [show W.heap[A + 1]? = _ from HW.out.2.2.1] at ho; cases ho; rfl
      · rw [HDL.out, HE1.out]
        exact (HI3.out.kp hka).setR
  case done =>
    rintro D ys W hD rfl ⟨he, h1, h2, h3, ⟨v, h4, h5⟩, h6, h7, h8, h9⟩ hK
    have HEZ := Lib.hid he
    clear he
    obtain ⟨T, hT⟩ : ∃ T, ctrS s ys = T := ⟨_, rfl⟩
    rw [hT] at h5
    have HT := Lib.hid hT
    clear hT
    obtain ⟨p, cc, hv⟩ := slice_own h5
    subst hv
    have hc4 := h4.cell
    have hc3 := h3.cell
    have hf3 := h3.frozen
    have hkS : Kp [A + 1] W (W.setCell ⟨A + 1, 0, none⟩ (.slice p T.length cc)) := (Kp.refl _ _).setCell (.inl (by simp)) _
    have hDA : D ≠ A + 1 := by intro e; subst e; rw [show W.heap[A + 1]? = _ from h3] at hK; cases hK
    have hK' := hkS.heap hK (by simp; exact hDA)
    have hb := heap_setCell_same W (A + 1) 0 _ _ (.slice p T.length cc) h3
    have hc5 := cell_kept (show (W.setCell ⟨A + 1, 0, none⟩ (.slice p T.length cc)).cell? ⟨A + 1, 0, none⟩ = some (.slice p T.length cc) by rw [cell_of_row _ (A + 1) 0 _ _ _ hb]; rfl) (grownBy_putObj' _ D (.deferred none)) (fun r e => by cases e; exact ⟨_, hK', rfl⟩)
    have hkp : Kp [D] (W.setCell ⟨A + 1, 0, none⟩ (.slice p T.length cc)) ((W.setCell ⟨A + 1, 0, none⟩ (.slice p T.length cc)).putObj D (.deferred none)) := putKp _ D _
    have hS : Hid (ScrAt ((W.setCell ⟨A + 1, 0, none⟩ (.slice p T.length cc)).putObj D (.deferred none)) B s 0) := (h6.kp hkS (by simp; omega)).kp hkp (by simp; omega)
    have hKK : Hid (Kp [B] w ((W.setCell ⟨A + 1, 0, none⟩ (.slice p T.length cc)).putObj D (.deferred none))) := Kp.grown (h7.setCell (.inr (by show _ ≤ A + 1; have := HA.out; omega)) _) (grownBy_putObj' _ D (.deferred none)) (fun k hk => .inr (by cases hk; have := HA.out; omega))
    have hRW : Hid (((W.setCell ⟨A + 1, 0, none⟩ (.slice p T.length cc)).putObj D (.deferred none)).ownsRow w.heap.size 27 2 (.slice p T.length cc) T.length (pairCells T)) := by
      have hr1 := hkS.row h5 (fun t ht e => by simp at ht; subst ht; have := own_ge h5 _ e; omega)
      exact own_base (ownsRow_putObj hr1 _ hK' rfl) (by have := HA.out; omega)
    clear h1 h2 h3 h4 h5 h6 h7 h9 hK hkS hb hkp
    gi_wp2
    refine ⟨by simp, .inl ⟨_, _, rfl, run_takeDeferred hK', ?_⟩⟩
    refine ⟨.slice p T.length cc, ?_, _, rfl, by rw [HEZ.out]; exact hS.out, hKK.out, fun _ => by rw [HT.out]; exact hRW.out⟩
    simp [results, Try.f37, go_sem, hc5]
  case stop =>
    rintro D cd pre W hD hpre ⟨⟨rfl, hne⟩, h1, h2, h3, h4, h6, h7, h8, h9⟩ hK
    have HQ : Hid (ctrE s 0 L = ctrE s 0 pre) := by
      obtain ⟨t, ht⟩ := hpre
      show _ = _
      rw [← ht, ctrE_app, ctrE_keep s t _ hne]
    have HNE := Lib.hid hne
    have hc5 := cell_kept h3.cell (grownBy_putObj' _ D (.deferred none)) (fun r e => by cases e; exact ⟨_, hK, rfl⟩)
    have hkp : Kp [D] W (W.putObj D (.deferred none)) := putKp _ D _
    have hS : Hid (ScrAt (W.putObj D (.deferred none)) B s (ctrE s 0 pre)) := h6.kp hkp (by simp; omega)
    have hKK : Hid (Kp [B] w (W.putObj D (.deferred none))) := Kp.grown h7 (grownBy_putObj' _ D (.deferred none)) (fun k hk => .inr (by cases hk; have := HA.out; omega))
    clear h1 h2 h3 h4 h6 h7 h9 hne hkp hpre
    gi_wp2
    refine ⟨by simp, .inl ⟨_, _, rfl, run_takeDeferred hK, ?_⟩⟩
    refine ⟨.slice none 0 0, ?_, _, rfl, by rw [HQ.out]; exact hS.out, hKK.out, fun h => absurd (HQ.out.symm.trans h) HNE.out⟩
    simp [results, Try.f37, go_sem, hc5]
end Go.Proofs.Ytpbmefojhgcniaa
namespace Go.Proofs.Ytpbmefojhgcniaa
open Go.RowKit
set_option linter.unusedVariables false
set_option linter.unusedSimpArgs false
def flatC (s : Sc) (c : List Pn) : List (Int × Int) := ctrS s (curvesTo (expO [c]) 1)
def errC (s : Sc) (c : List Pn) : Int := ctrE s 0 (curvesTo (expO [c]) 1)
/-- The first thing that is wrong with the first j contours. -/
def errTo (s : Sc) (o : List (List Pn)) : Nat → Int
  | 0 => 0
  | j + 1 => if errTo s o j = 0 then errC s (o.getD j []) else errTo s o j
def sumTo (s : Sc) (o : List (List Pn)) : Nat → Nat
  | 0 => 0
  | j + 1 => sumTo s o j + (flatC s (o.getD j [])).length
def flatM (s : Sc) (o : List (List Pn)) : List (List (Int × Int)) × Int :=
  if mayS s = false then ([], 210) else if checkO o ≠ 0 then ([], checkO o) else if errTo s o o.length ≠ 0 then ([], errTo s o o.length) else if 65536 < sumTo s o o.length then ([], 3) else (o.map (flatC s), 0)
theorem errTo_keep (s : Sc) (o : List (List Pn)) {j : Nat} (h : errTo s o j ≠ 0) : ∀ d, errTo s o (j + d) = errTo s o j := by
  intro d
  induction d with
  | zero => rfl
  | succ d ih => rw [← Nat.add_assoc, errTo, ih, if_neg h]
theorem check_one {o : List (List Pn)} (h : checkO o = 0) {j : Nat} (hj : j < o.length) : checkO [o.getD j []] = 0 := by
  obtain ⟨h1, h2, h3⟩ := checkO_zero h
  have a := len_le_cnt o hj
  have e : cnt [o.getD j []] = (o.getD j []).length := by simp [cnt, cntTo]
  unfold checkO
  have hn : ¬ (256 < ([o.getD j []] : List (List Pn)).length ∨ 4096 < cnt [o.getD j []]) := by
    rw [e]
    have h5 : ([o.getD j []] : List (List Pn)).length = 1 := rfl
    omega
  rw [if_neg hn]
  have : mayCo (o.getD j []) = true := h3 j hj
  simp only [List.all_cons, List.all_nil, Bool.and_true, this, if_true]
theorem flatC_len {o : List (List Pn)} (s : Sc) (h : checkO o = 0) {j : Nat} (hj : j < o.length) : (flatC s (o.getD j [])).length ≤ 2097408 := by
  have hE := check_one h hj
  obtain ⟨z1, z2, z3⟩ := checkO_zero hE
  have a := (expC_len _ (mayCo_facts (z3 0 (by simp))).1).2
  have b := len_le_cnt [o.getD j []] (j := 0) (by simp)
  have d := expO_at [o.getD j []] 0 (by simp)
  have e : curvesTo (expO [o.getD j []]) 1 = [] ++ refTo ((expO [o.getD j []]).getD 0 []) ((expO [o.getD j []]).getD 0 []).length := rfl
  unfold flatC
  refine Nat.le_trans (ctrS_len s _) ?_
  rw [e, List.nil_append, d]
  have f := refTo_lenW (expC (([o.getD j []] : List (List Pn)).getD 0 [])) (expC (([o.getD j []] : List (List Pn)).getD 0 [])).length
  omega
theorem sumTo_le {o : List (List Pn)} (s : Sc) (h : checkO o = 0) : ∀ j, j ≤ o.length → sumTo s o j ≤ j * 2097408 := by
  intro j
  induction j with
  | zero => intro _; simp [sumTo]
  | succ j ih => intro hj; have := ih (by omega); have := flatC_len s h (j := j) (by omega); rw [sumTo]; omega
theorem WFs.kpS {S : List Nat} {w w' : World} {base : Nat} {v : Value} {vs : List Value} {o : List (List (Int × Int))} (h : WFs w base v vs o) (hk : Kp S w w') (hS : ∀ s ∈ S, s < base) : WFs w' base v vs o :=
  ⟨hk.row h.1 (fun s hs e => by have := own_ge h.1 s e; have := hS s hs; omega), fun i hi => ⟨(h.2 i hi).1.kp hk (fun s hs e => by have := ((h.2 i hi).2 s e).2.2; have := hS s hs; omega), fun b hb => ⟨((h.2 i hi).2 b hb).1, Nat.lt_of_lt_of_le ((h.2 i hi).2 b hb).2.1 hk.size, ((h.2 i hi).2 b hb).2.2⟩⟩⟩
set_option maxRecDepth 100000 in
set_option maxHeartbeats 8000000 in
theorem fflat_ok (s : Sc) (v : Value) (o : List (List Pn)) (w : World) (hv : IsOut w v o) (hs : mayS s = true) (hE : checkO o = 0) (hsm : smallO o) :
    Calls Try.prog 15 #[scV s, v] w fun e w' => ∃ v', e = .returned (.tuple #[v', .int .i64 (flatM s o).2]) ∧ IsFl w' v' (flatM s o).1 ∧ Kp [] w w' := by
  have HM := Lib.hid (fun W => mayscale_calls s W)
  rw [hs] at HM
  unfold scV at HM
  obtain ⟨z1, z2, z3⟩ := checkO_zero hE
  have HCK := Lib.hid (fun W (hk : Kp [] w W) => check_calls v o W (hv.kp0 hk) hsm (by omega))
  rw [hE] at HCK
  have HV := Lib.hid hv
  have HONE : Hid (∀ j, j < o.length → checkO [o.getD j []] = 0) := fun j hj => check_one hE hj
  have HSM : Hid (∀ j, j ≤ o.length → sumTo s o j ≤ j * 2097408) := sumTo_le s hE
  have HFL : Hid (∀ j, j < o.length → (flatC s (o.getD j [])).length ≤ 2097408) := fun j hj => flatC_len s hE hj
  have HRE : Hid (∀ E, E ≠ 0 → errTo s o o.length = E → flatM s o = ([], E)) := fun E h0 h => by unfold flatM; rw [if_neg (by simp [hs]), if_neg (by simp [hE]), if_pos (by rw [h]; exact h0), h]
  have HRL : Hid (errTo s o o.length = 0 → 65536 < sumTo s o o.length → flatM s o = ([], 3)) := fun h0 h => by unfold flatM; rw [if_neg (by simp [hs]), if_neg (by simp [hE]), if_neg (by simp [h0]), if_pos h]
  have HR0 : Hid (errTo s o o.length = 0 → ¬ 65536 < sumTo s o o.length → flatM s o = (o.map (flatC s), 0)) := fun h0 h => by unfold flatM; rw [if_neg (by simp [hs]), if_neg (by simp [hE]), if_neg (by simp [h0]), if_neg h]
  have HKEEP : Hid (∀ j, j ≤ o.length → errTo s o j ≠ 0 → errTo s o o.length = errTo s o j) := fun j hj h => by
    obtain ⟨d, hd⟩ : ∃ d, o.length = j + d := ⟨o.length - j, by omega⟩
    rw [hd]; exact errTo_keep s o h d
  have HTK0 : Hid (∀ j, j < o.length → (o.map (flatC s)).take (j + 1) = (o.map (flatC s)).take j ++ [flatC s (o.getD j [])]) := fun j hj => by
    show _ = _
    rw [List.take_succ_eq_append_getElem (by simpa using hj), List.getElem_map, List.getD_eq_getElem?_getD, List.getElem?_eq_getElem hj]; rfl
  have HXL : Hid ((o.map (flatC s)).length = o.length) := List.length_map _
  obtain ⟨i0, hi, hzz0, hzz1, hzz2⟩ := info_parts infoDs
  obtain ⟨pa, ca, rfl⟩ := hv.form
  generalize flatM s o = RES at *
  generalize o.map (flatC s) = X at *
  obtain ⟨N, hN⟩ : ∃ N, o.length = N := ⟨_, rfl⟩
  have HN := Lib.hid hN
  rw [hN] at HCK HV HONE HSM HFL HRE HRL HR0 HKEEP HTK0 HXL z1 ⊢
  clear hv hs hE hsm z2 z3 hN
  unfold scV
  go_enter Try.func15, Try.ntmps15
  go_wp2_with fail
  refine (HM.out _).mono ?_; rintro e w1 ⟨rfl, hk1⟩
  have HK1 : Hid (Kp [] w w1) := Kp.trans (by (repeat (first | exact Kp.refl _ _ | assumption | refine Kp.drew ?_ | refine Kp.drewN ?_ _ | refine Kp.alloc ?_ _ | (refine Kp.setCell ?_ (by first | (left; simp; done) | (right; simp; try omega)) _) | (refine Kp.trans' ?_ (by assumption) (by simp; try omega))))) hk1
  have HS1 : Hid (ScAt w1 w.heap.size s) := hk1.heap (heap_alloc_new w _) (by simp)
  clear hk1
  go_wp2_with fail
  refine (HCK.out _ HK1.out).mono ?_; rintro e w2 ⟨rfl, hk2⟩
  have HS2 : Hid (ScAt w2 w.heap.size s) := HS1.out.kp0 hk2
  have HK2 : Hid (Kp [] w w2) := HK1.out.trans hk2
  clear hk2 HS1 HK1 HM HCK
  obtain ⟨s0, s1, s2, s3⟩ := HS2.out.cells
  go_wp2_with fail
  refine wp_gen ?_; intro W0 hW0
  obtain ⟨B, hB⟩ : ∃ B, w2.heap.size = B := ⟨_, rfl⟩
  have HSR : Hid (ScrAt W0 B s 0) := by show ScrAt _ _ _ _; rw [hW0, ← hB]; exact heap_alloc_new w2 _
  have HK0 : Hid (Kp [] w W0) := HK2.out.trans (by rw [hW0]; (repeat (first | exact Kp.refl _ _ | assumption | refine Kp.drew ?_ | refine Kp.drewN ?_ _ | refine Kp.alloc ?_ _ | (refine Kp.setCell ?_ (by first | (left; simp; done) | (right; simp; try omega)) _) | (refine Kp.trans' ?_ (by assumption) (by simp; try omega)))))
  have HBW : Hid (w.heap.size ≤ B ∧ B < W0.heap.size) := ⟨by rw [← hB]; exact HK2.out.size, lt_of_block HSR.out⟩
  rw [hB]
  clear hW0 hB s0 s1 s2 s3 HS2 HK2
  go_loopw [8, 9, 11, 12, 26] (fun u n _ _ i wr => ∃ (j : Nat) (l : Value), j ≤ N ∧ i = .int .i64 j ∧ l = u ∧ n = .int .i64 (sumTo s o j : Nat) ∧ Hid (errTo s o j = 0 ∧ WFl wr W0.heap.size l (X.take j) ∧ ScrAt wr B s 0 ∧ Kp [B] W0 wr)) (fun _ _ _ _ i _ => N - (intOf i).toNat)
  case atStart => exact ⟨0, _, by omega, rfl, rfl, rfl, rfl, WFl.nil _ _, HSR.out, Kp.refl _ _⟩
  case round =>
    obtain ⟨j, l, hj, rfl, rfl, rfl, HJ⟩ := hrel
    have HKW : Hid (Kp [] w wr) := HK0.out.trans' HJ.out.2.2.2 (fun t ht => .inr (by simp at ht; subst ht; exact HBW.out.1))
    by_cases hlt : j < N
    · have hjo : j < o.length := by rw [HN.out]; exact hlt
      obtain ⟨g1, o1, c1, p1, cv, e1, _, _, h1, hp⟩ := (HV.out.kp0 HKW.out).row hjo
      rw [HN.out] at e1
      cases e1
      have HC := Lib.hid (fcontour_calls B s _ (o.getD j []) wr HJ.out.2.2.1 hp (HONE.out j hlt))
      have HTK := Lib.hid (HTK0.out j hlt)
      have HFJ := Lib.hid (HFL.out j hlt)
      have HSJ := Lib.hid (HSM.out j hj)
      have HSN : Hid (sumTo s o (j + 1) = sumTo s o j + (flatC s (o.getD j [])).length) := rfl
      have HEN : Hid (errTo s o (j + 1) = errC s (o.getD j [])) := if_pos HJ.out.1
      have HKE := Lib.hid (HKEEP.out (j + 1) (by omega))
      rw [show ctrE s 0 (curvesTo (expO [o.getD j []]) 1) = errC s (o.getD j []) from rfl, show ctrS s (curvesTo (expO [o.getD j []]) 1) = flatC s (o.getD j []) from rfl] at HC
      generalize (o.getD j []).length = K at *
      generalize flatC s (o.getD j []) = fc at *
      generalize errC s (o.getD j []) = E at *
      clear hp hjo HSR
      by_cases hE : E = 0
      · subst hE
        have HTL : Hid ((X.take j).length = j) := by show _ = _; rw [List.length_take, HXL.out]; omega
        obtain ⟨vs, HW⟩ : ∃ vs, Hid (WFs wr W0.heap.size l vs (X.take j)) := by obtain ⟨vs, h⟩ := HJ.out.2.1; exact ⟨vs, h⟩
        have HKJ : Hid (Kp [B] W0 wr) := HJ.out.2.2.2
        have hr := HW.out.1
        rw [HTL.out] at hr
        obtain ⟨pl, cl, hl⟩ := slice_own hr
        subst hl
        have hsw : W0.heap.size ≤ wr.heap.size := HKJ.out.size
        obtain ⟨F, hFl⟩ : ∃ F, fc.length = F := ⟨_, rfl⟩
        have HFF := Lib.hid hFl
        have HSX := Lib.hid HSN.out
        rw [hFl] at HC HSX
        have hF1 : F ≤ 2097408 := by have := HFJ.out; omega
        have hS1 : sumTo s o j ≤ 536936448 := by have := HSJ.out; omega
        have HEZ : Hid (errTo s o (j + 1) = 0) := HEN.out
        generalize sumTo s o j = Sj at *
        clear hr HJ HSN HFJ HSJ HEN HKE hFl
        go_wp2_with fail
        refine HC.out.mono ?_; rintro e w3 ⟨v', rfl, hs3, hk3, hr3⟩
        have hr := hr3 (by first | rfl | trivial)
        obtain ⟨pv, qv, hv1⟩ := slice_own hr
        subst hv1
        obtain ⟨_, _, _, _, b4⟩ := hs3.cells
        have HR3 := Lib.hid hr
        have HSC := Lib.hid hs3
        have HW3 : Hid (WFs w3 W0.heap.size (.slice pl j cl) vs (X.take j)) := HW.out.kpS hk3 (fun t ht => by simp at ht; subst ht; exact HBW.out.2)
        have HK3 : Hid (Kp [B] W0 w3) := HKJ.out.trans hk3
        have hs34 : wr.heap.size ≤ w3.heap.size := hk3.size
        have HOB : Hid (∀ b, (Value.slice pl j cl).ownBlock = some b → b < wr.heap.size) := fun b hb => by have h := HW.out.1; exact (h.lt b hb).2
        have HR1' : Hid (w3.ownsRow W0.heap.size 61 1 (.slice pl j cl) j vs) := by have h := HW3.out.1; rw [HTL.out] at h; exact h
        have hvl : vs.length = j := by have := HR1'.out.1; omega
        clear hr hr3 hs3 hk3 HC HW HKJ
        go_wp2_with (at_builtin; refine wpList_append_lies _ rfl _ _ 39 rfl W0.heap.size 61 i0 (.slice none 0 0) 1 24 Try.underlying39 hi hzz0 hzz1 hzz2 rfl (by decide) (.slice pl j cl) j vs rfl ?hown ⟨w3.heap.size, 0, none⟩ 1 1 [.slice pv F qv] rfl rfl ?hnews ?hone (by decide) ?hm ?hb1 ?hb2 (w3.heap.size + 1) ?hH ?hk)
        case hown => exact Kp.row (S := []) (by (repeat (first | exact Kp.refl _ _ | assumption | refine Kp.drew ?_ | refine Kp.drewN ?_ _ | refine Kp.alloc ?_ _ | (refine Kp.setCell ?_ (by first | (left; simp; done) | (right; simp; try omega)) _) | (refine Kp.trans' ?_ (by assumption) (by simp; try omega))))) HR1'.out (by simp)
        case hnews => exact World.news_of_block (heap_alloc_new w3 _)
        case hone => intro u hu; simp at hu; subst hu; rfl
        case hm => unfold maxLen; omega
        case hb1 => omega
        case hb2 => simp; omega
        case hH => simp
        case hk =>
        intro g4 c4 w4 hown hgr hat hlt4
        have hka : Kp [] w3 (w3.alloc (.cells #[.slice pv F qv] 61)) := by (repeat (first | exact Kp.refl _ _ | assumption | refine Kp.drew ?_ | refine Kp.drewN ?_ _ | refine Kp.alloc ?_ _ | (refine Kp.setCell ?_ (by first | (left; simp; done) | (right; simp; try omega)) _) | (refine Kp.trans' ?_ (by assumption) (by simp; try omega))))
        have HW2 := HW3.out.kp0 hka
        have hip : IsPairs w3 (.slice pv F qv) fc := by
          show Reads 2 w3 (.slice pv F qv) fc.length _
          rw [HFF.out]; exact Reads.owned HR3.out
        have hpush := WFs.push (H := w3.heap.size + 1) HW2 (hip.kp0 hka) (fun b hb => by
          have h9 := HR3.out.lt b (blockOf_own hb)
          exact ⟨fun e => by have := HOB.out b e; omega, by simp; omega, by omega⟩) (by rw [HTL.out]; exact hown) hgr hat (by simp)
        rw [HTL.out, ← HTK.out] at hpush
        have hBn : (Value.slice pl j cl).ownBlock ≠ some B := fun e => by have := own_ge HR1'.out B e; have := HBW.out.2; omega
        have HPU : Hid (errTo s o (j + 1) = 0 ∧ WFl w4 W0.heap.size (.slice (some ⟨g4, 0, none⟩) (j + 1) c4) (X.take (j + 1)) ∧ ScrAt w4 B s 0 ∧ Kp [B] W0 w4) := ⟨HEZ.out, ⟨_, hpush⟩, (HSC.out.kp hka (by simp)).kp (Kp.grown (S := (Value.slice pl j cl).ownBlock.toList) (Kp.refl _ _) hgr (fun k hk => .inl (by rw [hk]; simp))) (by simpa using hBn), Kp.grown (HK3.out.trans0 hka) hgr (fun k hk => .inr (own_ge HR1'.out k hk))⟩
        clear hown hgr hat hka HW2 hpush hlt4 hip b4
        go_wp2_with fail
        go_roundw
        case rel => first | exact ⟨j + 1, _, by omega, int_eq' (by omega), rfl, int_eq' (by have := HSX.out; omega), HPU⟩ | ((repeat apply Exists.intro); exact ⟨⟨j + 1, _, by omega, int_eq' (by omega), rfl, int_eq' (by have := HSX.out; omega), HPU⟩, rfl⟩)
        case measure => simp [intOf] <;> omega
      · have hEb : (E != 0) = true := by simpa using hE
        have HB : Hid (RES = ([], E)) := HRE.out E hE ((HKE.out (by rw [HEN.out]; exact hE)).trans HEN.out)
        clear HTK HFJ HSJ HSN
        go_wp2_with fail
        refine HC.out.mono ?_; rintro e w3 ⟨v', rfl, hs3, hk3, hr3⟩
        have HF : Hid (Kp [] w w3) := HKW.out.trans' hk3 (fun t ht => .inr (by simp at ht; subst ht; exact HBW.out.1))
        obtain ⟨_, _, _, _, b4⟩ := hs3.cells
        clear hr3 hk3 HC hs3
        go_wp2_with fail
        have u0 := fun n : KW w3 => KW.cell b4 n
        clear b4
        refine wp_region_kq (by kernel_rfl) (by kernel_rfl) ?_
        repeat (go_big_quiet_step (fail))
        refine wpQuiet_nil ?_
        intro w4 hw'
        obtain ⟨⟨_, hkw4⟩, rfl⟩ := hw'
        go_wp2_with fail
        go_ret2
        rw [HB.out]
        exact ⟨_, rfl, IsFl.nil _ _, HF.out.trans hkw4⟩
    · obtain rfl : j = N := by omega
      have HE := Lib.hid HJ.out
      rw [List.take_of_length_le (by rw [HXL.out]; exact Nat.le_refl _)] at HE
      have HWF : Hid (IsFl wr l X) := HE.out.2.1.out
      have HZ0 := Lib.hid HE.out.1
      have hS2 : sumTo s o j ≤ 536936448 := by have := HSM.out j hj; omega
      by_cases hbig : 65536 < sumTo s o j
      · have HB : Hid (RES = ([], 3)) := HRL.out HZ0.out hbig
        have hd : decide ((65536 : Int) < (sumTo s o j : Int)) = true := decide_eq_true (by omega)
        generalize sumTo s o j = Sj at *
        clear HJ HE
        go_wp2_with fail
        go_ret2
        rw [HB.out]
        exact ⟨_, rfl, IsFl.nil _ _, HKW.out⟩
      · have HB : Hid (RES = (X, 0)) := HR0.out HZ0.out hbig
        have hd : decide ((65536 : Int) < (sumTo s o j : Int)) = false := decide_eq_false (by omega)
        generalize sumTo s o j = Sj at *
        clear HJ HE
        go_wp2_with fail
        go_ret2
        rw [HB.out]
        exact ⟨_, rfl, HWF.out, HKW.out⟩
end Go.Proofs.Ytpbmefojhgcniaa

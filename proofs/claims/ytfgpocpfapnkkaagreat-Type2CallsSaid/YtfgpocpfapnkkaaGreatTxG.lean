/- type2: Push, call, escape · type2: escape, token. (Written by wip/type2/gentyu.py.) · type2: a charstring. (Merged by wip/tools/mergetpl.py out of TyT, TyU, TyV.) -/
import Derived.Test.YtfgpocpfapnkkaaGreatTxF
namespace Go.Proofs.YtfgpocpfapnkkaaGreat
open Go.RowKit
set_option linter.unusedVariables false
set_option linter.unusedSimpArgs false
def geF (f : List Int → Ms → Rm) : Prop := ∀ zs st st', f zs st = .ok st' → st.steps ≤ st'.steps
theorem steps_all (st : Ms) (nom : Int) (b : Bool) : (allS st nom b).steps = st.steps := by unfold allS; split <;> rfl
theorem ge_stem {st st' : Ms} {nom : Int} (e : stemM nom st = .ok st') : st.steps ≤ st'.steps := by
  unfold stemM at e
  dsimp only at e
  split at e
  · cases e
  · split at e
    · cases e
    · cases e; exact Nat.le_of_eq (steps_all _ _ _).symm
theorem ge_end {st st' : Ms} {nom : Int} (e : endM nom st = .ok st') : st.steps ≤ st'.steps := by
  unfold endM at e
  dsimp only at e
  split at e
  · cases e
  · split at e
    · cases e
    · split at e
      · cases e
      · cases e; exact Nat.le_of_eq (steps_all _ _ _).symm
theorem ge_draw {st st' : Ms} {nom op : Int} (e : drawM nom op st = .ok st') : st.steps ≤ st'.steps := by
  unfold drawM at e
  split at e
  · cases e
  · unfold drawS at e
    dsimp only at e
    split at e
    · cases e
    · split at e
      · cases e
      · split at e
        · cases e
        · cases e; exact Nat.le_of_eq (steps_all _ _ _).symm
theorem ge_push {st st' : Ms} {x : Int} (e : pushM x st = .ok st') : st.steps ≤ st'.steps := by
  unfold pushM at e
  split at e
  · cases e
  · split at e
    · cases e
    · cases e; exact Nat.le_refl _
theorem ge_do {st st' : Ms} {op : Int} (e : doR op st = .ok st') : st.steps ≤ st'.steps := by
  unfold doR at e
  dsimp only at e
  split at e
  · cases e
  · cases e; exact Nat.le_refl _
theorem ge_call {st st' : Ms} {l : List (List Int)} {sub : Option (List Int → Ms → Rm)} (hf : ∀ f, sub = some f → geF f) (e : callM l sub st = .ok st') : st.steps ≤ st'.steps := by
  unfold callM at e
  split at e
  · cases e
  · dsimp only at e
    split at e
    · cases e
    · rename_i f
      split at e
      · cases e
      · have h9 := hf f rfl _ _ _ e
        exact h9
theorem ge_tok {st st' : Ms} {nom : Int} {G L : List (List Int)} {sub : Option (List Int → Ms → Rm)} {zs : List Int} {k : Nat} {c : Int} (hf : ∀ f, sub = some f → geF f) (e : (tokM nom G L sub zs k c st).1 = .ok st') : st.steps ≤ st'.steps := by
  unfold tokM at e
  split at e
  · split at e
    · cases e
    · exact ge_push e
  · split at e
    · exact ge_call hf e
    · split at e
      · exact ge_call hf e
      · split at e
        · split at e
          · cases e
          · dsimp only at e
            split at e
            · exact ge_do e
            · exact ge_draw e
        · split at e
          · split at e
            · cases e
            · rename_i st2 hs
              split at e
              · cases e
              · cases e; exact ge_stem hs
          · split at e
            · exact ge_stem e
            · split at e
              · exact ge_end e
              · exact ge_draw e
theorem ge_loop {nom : Int} {G L : List (List Int)} {sub : Option (List Int → Ms → Rm)} {top : Bool} {zs : List Int} (hf : ∀ f, sub = some f → geF f) : ∀ (f k : Nat) (st st' : Ms), loopM nom G L sub top zs f k st = .ok st' → st.steps ≤ st'.steps := by
  intro f
  induction f with
  | zero => intro k st st' e; cases e
  | succ f ih =>
    intro k st st' e
    unfold loopM at e
    split at e
    · cases e; exact Nat.le_refl _
    · split at e
      · cases e
      · split at e
        · cases e
        · split at e
          · split at e
            · cases e
            · cases e; exact Nat.le_succ _
          · split at e
            · cases e
            · rename_i st2 k2 ht
              have h1 := ge_tok (zs := zs) (k := k + 1) (c := zs.getD k 0) hf (by rw [ht])
              exact Nat.le_trans (Nat.le_succ _) (Nat.le_trans h1 (ih _ _ _ e))
theorem geF_code (nom : Int) (G L : List (List Int)) : ∀ (lev : Nat) (top : Bool), geF (codeM nom G L lev top)
  | 0, top => fun zs st st' e => ge_loop (fun f hf => by cases hf) _ _ _ _ e
  | lev + 1, top => fun zs st st' e => ge_loop (fun f hf => by cases hf; exact geF_code nom G L lev false) _ _ _ _ e
/-- Bytes that were there from the beginning. -/
def BytesC (W0 : World) (v : Value) (zs : List Int) : Prop := IsInts .u8 W0 v zs ∧ (∀ c ∈ zs, 0 ≤ c ∧ c ≤ 255) ∧ ∀ b, blockOf v = some b → b < W0.heap.size
/-- Subroutines. -/
def IsSub (W0 : World) (v : Value) (L : List (List Int)) : Prop :=
  ∃ vs : List Value, Reads 1 W0 v L.length vs ∧ ∀ i, i < L.length → BytesC W0 (vs.getD i nilV) (L.getD i [])
/-- What a charstring does one level deeper. -/
def SubC (W0 : World) (c : Lc) (P : Pg) (depth : Nat) (sub : Option (List Int → Ms → Rm)) : Prop :=
  (sub = none ∧ depth = 10) ∨ (depth < 10 ∧ ∃ f, sub = some f ∧ ∀ (v : Value) (zs : List Int) (st : Ms) (w : World), Mst W0 c P st w → OkS st → BytesC W0 v zs →
    Calls Tryz.prog 18 #[.pointer (some ⟨c.m, 0, none⟩), v, .int .i64 ((depth : Int) + 1)] w (ResP W0 c P (f zs st) w))
/-- A call of a subroutine, behind Pop. -/
def callX (sub : Option (List Int → Ms → Rm)) (l : List (List Int)) (i : Int) (st : Ms) : Rm :=
  match sub with
  | none => .error 182
  | some f => if i < 0 ∨ (l.length : Int) ≤ i then .error 182 else f (l.getD i.toNat []) st
theorem callM_snoc {L : List (List Int)} {sub : Option (List Int → Ms → Rm)} {st : Ms} {l : List Int} {x : Int} (h : st.stk = l ++ [x]) : callM L sub st = callX sub L (x / 65536 + biasM L.length) { st with stk := l } := by
  obtain ⟨s1, s2, s3, s4, s5, s6, s7, s8, s9⟩ := st
  dsimp only at h
  subst h
  unfold callM callX
  rw [if_neg (by simp)]
  dsimp only
  rw [show (l ++ [x]).getLastD 0 = x by simp, show (l ++ [x]).dropLast = l by simp]
  cases sub <;> rfl
theorem bias_bb (n : Int) : 107 ≤ biasM n ∧ biasM n ≤ 32768 := by
  unfold biasM
  repeat' split
  all_goals omega
theorem pushR (W0 : World) (c : Lc) (P : Pg) (st : Ms) (x : Int) (w : World) (h : Mst W0 c P st w) (ok : OkS st) :
    Calls Tryz.prog 39 #[.pointer (some ⟨c.s, 0, none⟩), .int .i64 x] w (ResP W0 c P (pushM x st) w) := by
  obtain ⟨B1, vl, vd, hB1, hS, hd⟩ := h.stack
  have hl := ok.1.1
  by_cases hx : mayB x = true
  · by_cases h48 : st.stk.length = 48
    · refine (push_no c.s B1 vl vd _ _ _ x w hS hl (.inr h48)).mono fun e w' ⟨he, hw⟩ => ?_
      subst hw; subst he
      rw [if_neg (by rw [hx]; simp), show pushM x st = .error 170 by unfold pushM; rw [if_neg (by rw [hx]; simp), if_pos h48]]
      exact ResP.err 170 (KT.refl _ _ _ _)
    · refine (push_calls c.s B1 vl vd _ _ _ x hx w hS (by omega)).mono fun e w' ⟨he, vl', h1, h2⟩ => ?_
      subst he
      rw [show pushM x st = .ok { st with stk := st.stk ++ [x] } by unfold pushM; rw [if_neg (by rw [hx]; simp), if_neg h48]]
      obtain ⟨g1, g2⟩ := h.stk hB1 hS hd h1 h2 (KV.refl vd)
      exact ResP.ok g1 g2
  · have hx' : mayB x = false := by simpa using hx
    refine (push_no c.s B1 vl vd _ _ _ x w hS hl (.inl hx')).mono fun e w' ⟨he, hw⟩ => ?_
    subst hw; subst he
    rw [if_pos hx', show pushM x st = .error 10 by unfold pushM; rw [if_pos hx']]
    exact ResP.err 10 (KT.refl _ _ _ _)
theorem doRR (W0 : World) (c : Lc) (P : Pg) (st : Ms) (op : Int) (w : World) (h : Mst W0 c P st w) (ok : OkS st) :
    Calls Tryz.prog 54 #[.pointer (some ⟨c.s, 0, none⟩), .int .i64 op] w (ResP W0 c P (doR op st) w) := by
  obtain ⟨B1, vl, vd, hB1, hS, hd⟩ := h.stack
  refine (do_calls op c.s B1 vl vd _ _ _ w hS ok.1.1 ok.1.2.1).mono fun e w' ⟨he, vl', vd', h1, h2, h3⟩ => ?_
  subst he
  obtain ⟨g1, g2⟩ := h.stk hB1 hS hd h1 h2 h3
  unfold doR
  dsimp only
  by_cases hz : (doM op st.stk st.store st.draws).1 = 0
  · rw [if_neg (by simpa using hz), hz]
    exact ResP.ok g1 g2
  · rw [if_pos hz]
    exact ResP.err _ g2
set_option maxRecDepth 100000 in
set_option maxHeartbeats 8000000 in
theorem call_calls (W0 : World) (c : Lc) (P : Pg) (st : Ms) (depth : Nat) (lv : Value) (L : List (List Int)) (sub : Option (List Int → Ms → Rm)) (w : World) (h : Mst W0 c P st w) (ok : OkS st) (hL : IsSub W0 lv L) (hsub : SubC W0 c P depth sub) (hd10 : depth ≤ 10) :
    Calls Tryz.prog 40 #[.pointer (some ⟨c.m, 0, none⟩), lv, .int .i64 depth] w (ResP W0 c P (callM L sub st) w) := by
  obtain ⟨B1, vl, vd, hB1, hS, hd⟩ := h.stack
  obtain ⟨c6, _⟩ := h.mach.facts
  obtain ⟨vs, hL1, hL2⟩ := hL
  have hvs : vs.length = L.length := by have := hL1.1; omega
  obtain ⟨pl, cl, rfl, hN60⟩ : ∃ pl cl, lv = .slice pl L.length cl ∧ L.length ≤ maxLen := by
    rcases hL1.2 with ⟨⟨ad, rfl⟩, h0⟩ | ⟨g, off, cc, rfl, h2, h3, _⟩
    · exact ⟨_, _, by rw [h0], by rw [h0]; exact Nat.zero_le _⟩
    · exact ⟨_, _, rfl, Nat.le_trans h2 h3⟩
  unfold maxLen at hN60
  have HM := Lib.hid h
  have HC0 : Hid (st.stk = [] → callM L sub st = .error 170) := fun e => if_pos e
  have HL1 := Lib.hid hL1
  have HL2 := Lib.hid hL2
  by_cases hne : st.stk = []
  · have HR := Lib.hid (HC0.out hne)
    rw [hne] at hS
    have HP := Lib.hid (pop_empty c.s B1 vl vd _ _ w hS)
    generalize callM L sub st = R at *
    generalize L.length = N at *
    clear h ok hS hd hL1 hL2 hsub
    go_enter Tryz.func40, Tryz.ntmps40
    go_wp2_with fail
    refine HP.out.mono ?_; rintro e w1 ⟨rfl, rfl⟩
    go_wp2_with fail
    go_ret
    rw [HR.out]
    exact ResP.err 170 (KT.refl _ _ _ _)
  · obtain ⟨l, x, hlx⟩ : ∃ l x, st.stk = l ++ [x] := ⟨_, _, (List.dropLast_concat_getLast hne).symm⟩
    have hmx : mayB x = true := ok.1.2.1 x (by rw [hlx]; simp)
    obtain ⟨hx1, hx2⟩ := may_lo hmx
    have hll : l.length ≤ 47 := by have := ok.1.1; rw [hlx] at this; simp at this; omega
    rw [hlx] at hS
    have HP := Lib.hid (pop_calls c.s B1 vl vd l _ _ x w hS (by omega))
    have H1 : Hid (∀ w' vl', StS w' c.s B1 vl' l st.store vd st.draws → StK w w' c.s vl vl' → Mst W0 c P { st with stk := l } w' ∧ KT [] runTs W0.heap.size w w') := fun w' vl' a b => h.stk hB1 (by rw [hlx]; exact hS) hd a b (KV.refl vd)
    have HOK2 : Hid (OkS { st with stk := l }) := ⟨⟨by show l.length ≤ 48; omega, fun y hy => ok.1.2.1 y (by rw [hlx]; simp [hy]), ok.1.2.2⟩, ok.2⟩
    obtain ⟨i, hi⟩ : ∃ i, x / 65536 + biasM L.length = i := ⟨_, rfl⟩
    have HR : Hid (callM L sub st = callX sub L i { st with stk := l }) := by show _ = _; rw [callM_snoc hlx, hi]
    have HX : Hid (∀ f, callX (some f) L i { st with stk := l } = if i < 0 ∨ (L.length : Int) ≤ i then .error 182 else f (L.getD i.toNat []) { st with stk := l }) := fun f => rfl
    generalize callM L sub st = R at *
    have hbias := Lib.hid (fun W => bias_calls (L.length : Int) W)
    have hbb := bias_bb L.length
    generalize biasM L.length = BI at *
    have hwi : IntKind.i64.wrap (x / 65536 + BI) = i := by rw [IntKind.wrap_i64]; omega
    obtain ⟨N, hN⟩ : ∃ N, L.length = N := ⟨_, rfl⟩
    have HN := Lib.hid hN
    rw [hN] at HL1 HX hbias hN60 ⊢
    have hib : -65536 ≤ i ∧ i ≤ 131072 := by omega
    clear h ok hS hd hL1 hL2 hne hlx hmx hx1 hx2 hB1 hi hbb hN hvs HC0
    by_cases hin : 0 ≤ i ∧ i < N
    · obtain ⟨I, rfl⟩ : ∃ I : Nat, i = I := ⟨i.toNat, by omega⟩
      have hIN : I < N := by omega
      have d1 : decide ((I : Int) < 0) = false := decide_eq_false (by omega)
      have d2 : decide ((N : Int) ≤ (I : Int)) = false := decide_eq_false (by omega)
      have hrow := HL2.out I (by rw [HN.out]; exact hIN)
      obtain ⟨g, off, rfl, hcell⟩ : ∃ g off, pl = some ⟨g, off, none⟩ ∧ W0.cell? ⟨g, off + I, none⟩ = some (vs.getD I nilV) := by
        rcases HL1.out.2 with ⟨_, h0⟩ | ⟨g, off, cc, hv, h2, h3, h4⟩
        · omega
        · obtain ⟨rfl, _⟩ : pl = some ⟨g, off, none⟩ ∧ _ := by simpa using hv
          have hvl : vs.length = N := by have := HL1.out.1; omega
          exact ⟨g, off, rfl, h4 I _ (by rw [List.getD_eq_getElem?_getD, List.getElem?_eq_getElem (by omega)]; rfl)⟩
      have HROW := Lib.hid hrow
      obtain ⟨pv, cv, hpv⟩ : ∃ p c, vs.getD I nilV = .slice p (L.getD I []).length c := by
        rcases hrow.1 with ⟨⟨ad, h0⟩, h1⟩ | ⟨g, off, cc, h0, _⟩
        · exact ⟨_, _, by rw [h0, h1]; rfl⟩
        · exact ⟨_, _, h0⟩
      rw [hpv] at HROW hcell
      have HCELL := Lib.hid hcell
      rcases hsub with ⟨rfl, rfl⟩ | ⟨hdl, f, rfl, hf⟩
      · have HRR : Hid (R = .error 182) := HR.out
        clear hin d1 hrow hpv hcell
        have d1 : decide ((I : Int) < 0) = false := decide_eq_false (by omega)
        go_enter Tryz.func40, Tryz.ntmps40
        go_wp2_with fail
        refine HP.out.mono ?_; rintro e w1 ⟨rfl, vl', h1, h2⟩
        have HG := Lib.hid (H1.out w1 vl' h1 h2)
        clear h1 h2
        go_wp2_with fail
        refine (hbias.out _).mono ?_; rintro e w2 ⟨rfl, rfl⟩
        go_wp2_with fail
        go_ret
        rw [HRR.out]
        exact ResP.err 182 HG.out.2
      · have hnin : ¬ ((I : Int) < 0 ∨ (N : Int) ≤ I) := by omega
        have HRR : Hid (R = f (L.getD I []) { st with stk := l }) := by
          show R = _
          rw [HR.out, HX.out, if_neg hnin]; rfl
        have hdb : ((depth : Int) == 10) = false := by rw [beq_eq_false_iff_ne]; omega
        have hwd : IntKind.i64.wrap ((depth : Int) + 1) = (depth : Int) + 1 := by rw [IntKind.wrap_i64]; omega
        have HF := Lib.hid hf
        clear hf hrow hpv hin hcell hnin
        go_enter Tryz.func40, Tryz.ntmps40
        go_wp2_with fail
        refine HP.out.mono ?_; rintro e w1 ⟨rfl, vl', h1, h2⟩
        have HG := Lib.hid (H1.out w1 vl' h1 h2)
        have cc1 := HG.out.1.base.cell HCELL.out (by simp)
        clear h1 h2
        go_wp2_with fail
        refine (hbias.out _).mono ?_; rintro e w2 ⟨rfl, rfl⟩
        go_wp2_with fail
        refine (HF.out _ _ _ _ HG.out.1 HOK2.out HROW.out).mono ?_; rintro e w3 ⟨rfl, hm3, hk3⟩
        go_wp2_with fail
        go_ret
        rw [HRR.out]
        exact ⟨rfl, hm3, HG.out.2.trans hk3⟩
    · have HRR : Hid (R = .error 182) := by
        show R = _
        rw [HR.out]
        cases sub with
        | none => rfl
        | some f => rw [HX.out, if_pos (by omega)]
      clear hsub HR
      by_cases h0 : i < 0
      · have d1 : decide (i < 0) = true := decide_eq_true h0
        clear h0 hin
        go_enter Tryz.func40, Tryz.ntmps40
        go_wp2_with fail
        refine HP.out.mono ?_; rintro e w1 ⟨rfl, vl', h1, h2⟩
        have HG := Lib.hid (H1.out w1 vl' h1 h2)
        clear h1 h2
        go_wp2_with fail
        refine (hbias.out _).mono ?_; rintro e w2 ⟨rfl, rfl⟩
        go_wp2_with fail
        go_ret
        rw [HRR.out]
        exact ResP.err 182 HG.out.2
      · have d1 : decide (i < 0) = false := decide_eq_false h0
        have d2 : decide ((N : Int) ≤ i) = true := decide_eq_true (by omega)
        clear h0 hin
        go_enter Tryz.func40, Tryz.ntmps40
        go_wp2_with fail
        refine HP.out.mono ?_; rintro e w1 ⟨rfl, vl', h1, h2⟩
        have HG := Lib.hid (H1.out w1 vl' h1 h2)
        clear h1 h2
        go_wp2_with fail
        refine (hbias.out _).mono ?_; rintro e w2 ⟨rfl, rfl⟩
        go_wp2_with fail
        go_ret
        rw [HRR.out]
        exact ResP.err 182 HG.out.2
end Go.Proofs.YtfgpocpfapnkkaaGreat
namespace Go.Proofs.YtfgpocpfapnkkaaGreat
open Go.RowKit
set_option linter.unusedVariables false
set_option linter.unusedSimpArgs false
/-- A reader of the machine's. -/
def RdT (W0 : World) (c : Lc) (w : World) (r : Nat) (v : Value) (zs : List Int) (k : Nat) : Prop := Rdr w r v (k : Nat) false ∧ BytesC W0 v zs ∧ k ≤ zs.length ∧ c.B2 ≤ r
section
variable {W0 w w' : World} {c : Lc} {P : Pg} {st : Ms} {r : Nat} {v : Value} {zs : List Int} {k : Nat}
theorem Mst.b2 (h : Mst W0 c P st w) : W0.heap.size ≤ c.B2 := by obtain ⟨B1, vl, vd, h1, h2, h3, h4, h5, h6, h7, h8, h9, h10⟩ := h; exact h9
theorem RdT.toS (h : RdT W0 c w r v zs k) (hm : Mst W0 c P st w) : RdS w r v zs k false :=
  ⟨h.1, h.2.1.1.kp hm.base (by simp), h.2.1.2.1, fun e => by have := h.2.1.2.2 r e; have := hm.b2; have := h.2.2.2; omega, h.2.2.1⟩
theorem RdT.kt (h : RdT W0 c w r v zs k) (hk : KT [] runTs W0.heap.size w w') : RdT W0 c w' r v zs k := ⟨hk.heap h.1 (by simp) (.inr (by decide)), h.2⟩
theorem RdT.kp0 (h : RdT W0 c w r v zs k) (hk : Kp [] w w') : RdT W0 c w' r v zs k := ⟨hk.heap h.1 (by simp), h.2⟩
/-- Behind a reading. -/
theorem RdT.read {k2 : Nat} {bad : Bool} (h : RdT W0 c w r v zs k) (hm : Mst W0 c P st w) (h2 : RdS w' r v zs k2 bad) (hk : Kp [r] w w') : Mst W0 c P st w' ∧ KT [r] runTs W0.heap.size w w' ∧ (bad = false → RdT W0 c w' r v zs k2) :=
  ⟨hm.other hk ⟨_, _, _, h.1, by decide⟩ (by have := hm.b2; have := h.2.2.2; omega) h.2.2.2, KT.of_kp hk (fun s hs => .inl hs), fun e => by subst e; exact ⟨h2.1, h.2.1, h2.2.2.2.2, h.2.2.2⟩⟩
/-- What a token leaves. -/
def TokP (W0 : World) (c : Lc) (P : Pg) (r : Nat) (v : Value) (zs : List Int) (R : Rm × Nat) (w : World) (e : Ending) (w' : World) : Prop :=
  e = .returned (.int .i64 (errOf R.1)) ∧ (∀ st', R.1 = .ok st' → Mst W0 c P st' w' ∧ RdT W0 c w' r v zs R.2) ∧ KT [r] runTs W0.heap.size w w'
theorem TokP.of {R : Rm} {w1 : World} {e : Ending} (hk : KT [r] runTs W0.heap.size w w1) (hr : RdT W0 c w1 r v zs k) (h : ResP W0 c P R w1 e w') : TokP W0 c P r v zs (R, k) w e w' :=
  ⟨h.1, fun st' e1 => ⟨h.2.1 st' e1, hr.kt h.2.2⟩, hk.trans (h.2.2.mono (by simp) (fun t ht => ht) (Nat.le_refl _))⟩
theorem TokP.err {e : Int} (hk : KT [r] runTs W0.heap.size w w') : TokP W0 c P r v zs (.error e, k) w (.returned (.int .i64 e)) w' := ⟨rfl, (fun _ h => by cases h), hk⟩
theorem TokP.eq {R R' : Rm × Nat} {e : Ending} (he : R = R') (h : TokP W0 c P r v zs R' w e w') : TokP W0 c P r v zs R w e w' := by rw [he]; exact h
theorem cut1 (h : k < zs.length) : beN (cutB zs k 1) = zs.getD k 0 := by
  have := cutB_succ zs k 0 (by omega)
  rw [Nat.zero_add] at this
  rw [this, beN_snoc, show cutB zs k 0 = [] by simp [cutB], Nat.add_zero]
  simp [beN]
end
set_option maxRecDepth 100000 in
set_option maxHeartbeats 8000000 in
theorem escape_calls (W0 : World) (c : Lc) (P : Pg) (st : Ms) (r : Nat) (v : Value) (zs : List Int) (k : Nat) (w : World) (h : Mst W0 c P st w) (ok : OkS st) (hr : RdT W0 c w r v zs k) :
    Calls Tryz.prog 41 #[.pointer (some ⟨c.m, 0, none⟩), .pointer (some ⟨r, 0, none⟩)] w (TokP W0 c P r v zs (if zs.length < k + 1 then (.error 180, k) else (if isNum (zs.getD k 0) ∨ isMov (zs.getD k 0) then doR (zs.getD k 0) st else drawM P.nom (256 + zs.getD k 0) st, k + 1)) w) := by
  have HU := Lib.hid (u8S (hr.toS h))
  have HM := Lib.hid h
  have HR := Lib.hid hr
  have HOK := Lib.hid ok
  obtain ⟨R, hR⟩ : ∃ R : Rm × Nat, (if zs.length < k + 1 then (.error 180, k) else (if isNum (zs.getD k 0) ∨ isMov (zs.getD k 0) then doR (zs.getD k 0) st else drawM P.nom (256 + zs.getD k 0) st, k + 1)) = R := ⟨_, rfl⟩
  have HRR := Lib.hid hR
  rw [hR]
  clear hR
  by_cases hs : zs.length < k + 1
  · have hB : rdB zs k false 1 = true := by unfold rdB; simp; omega
    have HE : Hid (R = (.error 180, k)) := by show _ = _; rw [← HRR.out, if_pos hs]
    rw [hB] at HU
    clear h ok hr hs hB
    go_enter Tryz.func41, Tryz.ntmps41
    go_wp2_with fail
    refine HU.out.mono ?_; rintro e w1 ⟨rfl, h1, hk1⟩
    obtain ⟨g1, g2, _⟩ := HR.out.read HM.out h1 hk1
    have HD := Lib.hid (doneS h1)
    clear h1 hk1
    go_wp2_with fail
    refine HD.out.mono ?_; rintro e w2 ⟨rfl, rfl⟩
    go_wp2_with fail
    go_ret
    exact TokP.eq HE.out (TokP.err g2)
  · have hB : rdB zs k false 1 = false := by unfold rdB; simp; omega
    have hK : rdK zs k false 1 = k + 1 := by unfold rdK; rw [hB]; rfl
    have hV : rdV zs k false 1 = zs.getD k 0 := by unfold rdV; rw [hB]; exact cut1 (by omega)
    have hbd := getD_mem_bounds zs k hr.2.1.2.1
    obtain ⟨op, hop⟩ : ∃ op, zs.getD k 0 = op := ⟨_, rfl⟩
    rw [hop] at HRR hV hbd
    rw [if_neg hs] at HRR
    rw [hB, hK, hV] at HU
    have hwo : IntKind.i64.wrap (256 + op) = 256 + op := by rw [IntKind.wrap_i64]; omega
    have HIS := Lib.hid (fun W => isop_calls op W)
    clear h ok hr hs hB hK hV hop
    by_cases hio : isNum op ∨ isMov op
    · rw [if_pos hio] at HRR
      rw [decide_eq_true hio] at HIS
      clear hio
      go_enter Tryz.func41, Tryz.ntmps41
      go_wp2_with fail
      refine HU.out.mono ?_; rintro e w1 ⟨rfl, h1, hk1⟩
      obtain ⟨g1, g2, g3⟩ := HR.out.read HM.out h1 hk1
      have G1 := Lib.hid g1
      have G2 := Lib.hid g2
      have G3 := Lib.hid (g3 rfl)
      have HD := Lib.hid (doneS h1)
      clear h1 hk1 g1 g2 g3
      go_wp2_with fail
      refine HD.out.mono ?_; rintro e w2 ⟨rfl, rfl⟩
      go_wp2_with fail
      refine (HIS.out w1).mono ?_; rintro e w2 ⟨rfl, hk2⟩
      have M2 := Lib.hid (G1.out.kp0 hk2)
      have R2 := Lib.hid (G3.out.kp0 hk2)
      have T2 : Hid (KT [r] runTs W0.heap.size w w2) := G2.out.trans (KT.of_kp0 hk2)
      obtain ⟨c6, _⟩ := M2.out.mach.facts
      clear hk2
      go_wp2_with fail
      refine (doRR W0 c P st op w2 M2.out HOK.out).mono ?_; rintro e w3 ⟨rfl, h3, k3⟩
      go_wp2_with fail
      go_ret
      exact TokP.eq HRR.out.symm (TokP.of T2.out R2.out ⟨rfl, h3, k3⟩)
    · rw [if_neg hio] at HRR
      rw [decide_eq_false hio] at HIS
      clear hio
      go_enter Tryz.func41, Tryz.ntmps41
      go_wp2_with fail
      refine HU.out.mono ?_; rintro e w1 ⟨rfl, h1, hk1⟩
      obtain ⟨g1, g2, g3⟩ := HR.out.read HM.out h1 hk1
      have G1 := Lib.hid g1
      have G2 := Lib.hid g2
      have G3 := Lib.hid (g3 rfl)
      have HD := Lib.hid (doneS h1)
      clear h1 hk1 g1 g2 g3
      go_wp2_with fail
      refine HD.out.mono ?_; rintro e w2 ⟨rfl, rfl⟩
      go_wp2_with fail
      refine (HIS.out w1).mono ?_; rintro e w2 ⟨rfl, hk2⟩
      have M2 := Lib.hid (G1.out.kp0 hk2)
      have R2 := Lib.hid (G3.out.kp0 hk2)
      have T2 : Hid (KT [r] runTs W0.heap.size w w2) := G2.out.trans (KT.of_kp0 hk2)
      clear hk2
      go_wp2_with fail
      refine (draw_calls W0 c P st (256 + op) w2 M2.out HOK.out).mono ?_; rintro e w3 ⟨rfl, h3, k3⟩
      go_wp2_with fail
      go_ret
      exact TokP.eq HRR.out.symm (TokP.of T2.out R2.out ⟨rfl, h3, k3⟩)
theorem stem_nz {nom : Int} {st : Ms} {e : Int} (h : stemM nom st = .error e) : e ≠ 0 := by
  unfold stemM at h
  dsimp only at h
  split at h
  · rename_i hz; cases h; exact hz
  · split at h
    · cases h; decide
    · cases h
set_option maxRecDepth 100000 in
set_option maxHeartbeats 8000000 in
theorem token_calls (W0 : World) (c : Lc) (P : Pg) (st : Ms) (depth : Nat) (G L : List (List Int)) (sub : Option (List Int → Ms → Rm)) (r : Nat) (v : Value) (zs : List Int) (k : Nat) (x : Int) (w : World) (h : Mst W0 c P st w) (ok : OkS st) (hr : RdT W0 c w r v zs k) (h0 : 0 < zs.length)
    (hG : IsSub W0 P.gv G) (hL : IsSub W0 P.lv L) (hsub : SubC W0 c P depth sub) (hd10 : depth ≤ 10) (hx0 : 0 ≤ x) (hx1 : x ≤ 255) :
    Calls Tryz.prog 27 #[.pointer (some ⟨c.m, 0, none⟩), .pointer (some ⟨r, 0, none⟩), .int .i64 x, .int .i64 depth] w (TokP W0 c P r v zs (tokM P.nom G L sub zs k x st) w) := by
  have HM := Lib.hid h
  have HR := Lib.hid hr
  have HOK := Lib.hid ok
  have HT0 : Hid (KT [r] runTs W0.heap.size w w) := KT.refl _ _ _ _
  obtain ⟨c6, _⟩ := h.mach.facts
  obtain ⟨_, c1, c2, _⟩ := h.mach.given
  by_cases hnum : 32 ≤ x ∨ x = 28
  · have HE : Hid (tokM P.nom G L sub zs k x st = if zs.length < k + numN x then (.error 180, k) else (pushM (numV x (beN (cutB zs k (numN x)))) st, k + numN x)) := if_pos hnum
    have HN := Lib.hid (tnum_calls x hnum hx1 (hr.toS h))
    generalize tokM P.nom G L sub zs k x st = R at *
    generalize numN x = n at *
    by_cases hs : zs.length < k + n
    · have hB : rdB zs k false n = true := by unfold rdB; simp; omega
      rw [if_pos hs] at HE
      rw [hB] at HN
      generalize numV x (rdV zs k false n) = V at *
      clear h ok hr hs hB hG hL hsub c6 c1 c2
      rcases Int.lt_or_le x 32 with hx | hx
      · obtain rfl : x = 28 := by omega
        clear hnum hx
        go_enter Tryz.func27, Tryz.ntmps27
        go_wp2_with fail
        refine HN.out.mono ?_; rintro e w1 ⟨rfl, h1, hk1⟩
        obtain ⟨g1, g2, _⟩ := HR.out.read HM.out h1 hk1
        have HD := Lib.hid (doneS h1)
        clear h1 hk1
        go_wp2_with fail
        refine HD.out.mono ?_; rintro e w2 ⟨rfl, rfl⟩
        go_wp2_with fail
        go_ret
        exact TokP.eq HE.out (TokP.err g2)
      · have hd : decide (32 ≤ x) = true := decide_eq_true hx
        clear hnum
        go_enter Tryz.func27, Tryz.ntmps27
        go_wp2_with fail
        refine HN.out.mono ?_; rintro e w1 ⟨rfl, h1, hk1⟩
        obtain ⟨g1, g2, _⟩ := HR.out.read HM.out h1 hk1
        have HD := Lib.hid (doneS h1)
        clear h1 hk1
        go_wp2_with fail
        refine HD.out.mono ?_; rintro e w2 ⟨rfl, rfl⟩
        go_wp2_with fail
        go_ret
        exact TokP.eq HE.out (TokP.err g2)
    · have hB : rdB zs k false n = false := by unfold rdB; simp; omega
      have hK : rdK zs k false n = k + n := by unfold rdK; rw [hB]; rfl
      have hV : rdV zs k false n = beN (cutB zs k n) := by unfold rdV; rw [hB]; rfl
      rw [if_neg hs] at HE
      rw [hB, hK, hV] at HN
      generalize numV x (beN (cutB zs k n)) = V at *
      clear h ok hr hs hB hK hV hG hL hsub c6 c1 c2
      rcases Int.lt_or_le x 32 with hx | hx
      · obtain rfl : x = 28 := by omega
        clear hnum hx
        go_enter Tryz.func27, Tryz.ntmps27
        go_wp2_with fail
        refine HN.out.mono ?_; rintro e w1 ⟨rfl, h1, hk1⟩
        obtain ⟨g1, g2, g3⟩ := HR.out.read HM.out h1 hk1
        have G1 := Lib.hid g1
        have G2 := Lib.hid g2
        have G3 := Lib.hid (g3 rfl)
        obtain ⟨c6, _⟩ := g1.mach.facts
        have HD := Lib.hid (doneS h1)
        clear h1 hk1 g1 g2 g3
        go_wp2_with fail
        refine HD.out.mono ?_; rintro e w2 ⟨rfl, rfl⟩
        go_wp2_with fail
        refine (pushR W0 c P st V w1 G1.out HOK.out).mono ?_; rintro e w3 ⟨rfl, h3, k3⟩
        go_wp2_with fail
        go_ret
        exact TokP.eq HE.out (TokP.of G2.out G3.out ⟨rfl, h3, k3⟩)
      · have hd : decide (32 ≤ x) = true := decide_eq_true hx
        clear hnum
        go_enter Tryz.func27, Tryz.ntmps27
        go_wp2_with fail
        refine HN.out.mono ?_; rintro e w1 ⟨rfl, h1, hk1⟩
        obtain ⟨g1, g2, g3⟩ := HR.out.read HM.out h1 hk1
        have G1 := Lib.hid g1
        have G2 := Lib.hid g2
        have G3 := Lib.hid (g3 rfl)
        obtain ⟨c6, _⟩ := g1.mach.facts
        have HD := Lib.hid (doneS h1)
        clear h1 hk1 g1 g2 g3
        go_wp2_with fail
        refine HD.out.mono ?_; rintro e w2 ⟨rfl, rfl⟩
        go_wp2_with fail
        refine (pushR W0 c P st V w1 G1.out HOK.out).mono ?_; rintro e w3 ⟨rfl, h3, k3⟩
        go_wp2_with fail
        go_ret
        exact TokP.eq HE.out (TokP.of G2.out G3.out ⟨rfl, h3, k3⟩)
  · have hx32 : x < 32 := by omega
    have HX : Hid (¬ (32 ≤ x ∨ x = 28)) := hnum
    by_cases e10 : x = 10
    · subst e10
      have HE : Hid (tokM P.nom G L sub zs k 10 st = (callM L sub st, k)) := rfl
      have HC := Lib.hid (call_calls W0 c P st depth _ L sub w h ok hL hsub hd10)
      generalize tokM P.nom G L sub zs k 10 st = R at *
      generalize callM L sub st = Q at *
      obtain ⟨pv, nv, cv, hpv⟩ : ∃ p n cc, P.lv = .slice p n cc := by
        obtain ⟨vs, hq, _⟩ := hL
        rcases hq.2 with ⟨⟨ad, q1⟩, q2⟩ | ⟨g, off, cc, q1, _⟩
        · exact ⟨_, _, _, q1⟩
        · exact ⟨_, _, _, q1⟩
      rw [hpv] at c2 HC
      clear h ok hr hG hL hsub hx0 hx1 hx32 hnum HX
      clear c1 c6
      go_enter Tryz.func27, Tryz.ntmps27
      go_wp2_with fail
      refine HC.out.mono ?_; rintro e w3 ⟨rfl, h3, k3⟩
      go_wp2_with fail
      go_ret
      exact TokP.eq HE.out (TokP.of HT0.out HR.out ⟨rfl, h3, k3⟩)
    by_cases e29 : x = 29
    · subst e29
      have HE : Hid (tokM P.nom G L sub zs k 29 st = (callM G sub st, k)) := rfl
      have HC := Lib.hid (call_calls W0 c P st depth _ G sub w h ok hG hsub hd10)
      generalize tokM P.nom G L sub zs k 29 st = R at *
      generalize callM G sub st = Q at *
      obtain ⟨pv, nv, cv, hpv⟩ : ∃ p n cc, P.gv = .slice p n cc := by
        obtain ⟨vs, hq, _⟩ := hG
        rcases hq.2 with ⟨⟨ad, q1⟩, q2⟩ | ⟨g, off, cc, q1, _⟩
        · exact ⟨_, _, _, q1⟩
        · exact ⟨_, _, _, q1⟩
      rw [hpv] at c1 HC
      clear h ok hr hG hL hsub hx0 hx1 hx32 hnum HX
      clear c2 c6
      go_enter Tryz.func27, Tryz.ntmps27
      go_wp2_with fail
      refine HC.out.mono ?_; rintro e w3 ⟨rfl, h3, k3⟩
      go_wp2_with fail
      go_ret
      exact TokP.eq HE.out (TokP.of HT0.out HR.out ⟨rfl, h3, k3⟩)
    by_cases e12 : x = 12
    · subst e12
      have HE : Hid (tokM P.nom G L sub zs k 12 st = if zs.length < k + 1 then (.error 180, k) else (if isNum (zs.getD k 0) ∨ isMov (zs.getD k 0) then doR (zs.getD k 0) st else drawM P.nom (256 + zs.getD k 0) st, k + 1)) := rfl
      have HC := Lib.hid (escape_calls W0 c P st r v zs k w h ok hr)
      rw [← HE.out] at HC
      generalize tokM P.nom G L sub zs k 12 st = R at *
      clear h ok hr hG hL hsub hx0 hx1 hx32 hnum HX HE
      clear c1 c2 c6
      go_enter Tryz.func27, Tryz.ntmps27
      go_wp2_with fail
      refine HC.out.mono ?_; rintro e w3 ⟨rfl, h3, k3⟩
      go_wp2_with fail
      go_ret
      exact ⟨rfl, h3, k3⟩
    by_cases e19 : x = 19
    · subst e19
      have HE : Hid (tokM P.nom G L sub zs k 19 st = match stemM P.nom st with | .error e => (.error e, k) | .ok st' => if zs.length < k + (st'.stems + 7) / 8 then (.error 180, k) else (.ok st', k + (st'.stems + 7) / 8)) := rfl
      have HC := Lib.hid (stem_calls W0 c P st 19 w h ok)
      have HSO := Lib.hid (fun st' (e : stemM P.nom st = .ok st') => okS_stem ok e)
      have HNZ := Lib.hid (fun e (q : stemM P.nom st = .error e) => stem_nz q)
      generalize tokM P.nom G L sub zs k 19 st = R at *
      clear h ok hr hG hL hsub hx0 hx1 hx32 hnum HX
      clear c1 c2 c6
      cases hQ : stemM P.nom st with
      | error e1 =>
        have HE2 : Hid (R = (.error e1, k)) := by show _ = _; rw [HE.out, hQ]
        have hb : (e1 != 0) = true := by have := HNZ.out e1 hQ; simpa using this
        rw [hQ] at HC
        clear HSO HNZ HE hQ
        go_enter Tryz.func27, Tryz.ntmps27
        go_wp2_with fail
        refine HC.out.mono ?_; rintro e w3 ⟨rfl, h3, k3⟩
        simp only [errOf]
        go_wp2_with fail
        go_ret
        exact TokP.eq HE2.out (TokP.err (HT0.out.trans (k3.mono (by simp) (fun t ht => ht) (Nat.le_refl _))))
      | ok st2 =>
        have hst := (HSO.out st2 hQ).2.2.2
        have HE2 : Hid (R = if zs.length < k + (st2.stems + 7) / 8 then (.error 180, k) else (.ok st2, k + (st2.stems + 7) / 8)) := by show _ = _; rw [HE.out, hQ]
        rw [hQ] at HC
        obtain ⟨n, hn⟩ : ∃ n, (st2.stems + 7) / 8 = n := ⟨_, rfl⟩
        rw [hn] at HE2
        have hq : ((st2.stems : Int) + 7).tdiv 8 = (n : Int) := by rw [Int.tdiv_eq_ediv_of_nonneg (by omega)]; omega
        have hn12 : n ≤ 12 := by omega
        have hw1 : IntKind.i64.wrap ((st2.stems : Int) + 7) = (st2.stems : Int) + 7 := by rw [IntKind.wrap_i64]; omega
        have hw2 : IntKind.i64.wrap (n : Int) = (n : Int) := by rw [IntKind.wrap_i64]; omega
        clear HSO HNZ HE hQ hn
        go_enter Tryz.func27, Tryz.ntmps27
        go_wp2_with fail
        refine HC.out.mono ?_; rintro e w3 ⟨rfl, h3, k3⟩
        simp only [errOf]
        have M3 := Lib.hid (h3 st2 rfl)
        have T3 : Hid (KT [r] runTs W0.heap.size w w3) := HT0.out.trans (k3.mono (by simp) (fun t ht => ht) (Nat.le_refl _))
        have R3 := Lib.hid (HR.out.kt k3)
        obtain ⟨_, _, _, c9, _⟩ := M3.out.mach.facts
        clear h3 k3
        go_wp2_with fail
        refine (takeS n (by omega) (R3.out.toS M3.out) (fun _ => h0)).mono ?_; rintro e w4 ⟨⟨v4, rfl⟩, h4, hk4⟩
        have HD := Lib.hid (doneS h4)
        by_cases hs : zs.length < k + n
        · have hB : rdB zs k false n = true := by unfold rdB; simp; omega
          rw [if_pos hs] at HE2
          obtain ⟨g1, g2, _⟩ := R3.out.read M3.out h4 hk4
          rw [hB] at HD
          clear h4 hk4 hs hB
          go_wp2_with fail
          refine HD.out.mono ?_; rintro e w5 ⟨rfl, rfl⟩
          go_wp2_with fail
          go_ret
          exact TokP.eq HE2.out (TokP.err (T3.out.trans g2))
        · have hB : rdB zs k false n = false := by unfold rdB; simp; omega
          have hK : rdK zs k false n = k + n := by unfold rdK; rw [hB]; rfl
          rw [if_neg hs] at HE2
          rw [hB, hK] at h4
          obtain ⟨g1, g2, g3⟩ := R3.out.read M3.out h4 hk4
          have G1 := Lib.hid g1
          have G2 := Lib.hid g2
          have G3 := Lib.hid (g3 rfl)
          rw [hB] at HD
          clear h4 hk4 hs hB hK g1 g2 g3
          go_wp2_with fail
          refine HD.out.mono ?_; rintro e w5 ⟨rfl, rfl⟩
          go_wp2_with fail
          go_ret
          exact TokP.eq HE2.out ⟨rfl, fun st' e => by cases e; exact ⟨G1.out, G3.out⟩, T3.out.trans G2.out⟩
    by_cases e20 : x = 20
    · subst e20
      have HE : Hid (tokM P.nom G L sub zs k 20 st = match stemM P.nom st with | .error e => (.error e, k) | .ok st' => if zs.length < k + (st'.stems + 7) / 8 then (.error 180, k) else (.ok st', k + (st'.stems + 7) / 8)) := rfl
      have HC := Lib.hid (stem_calls W0 c P st 20 w h ok)
      have HSO := Lib.hid (fun st' (e : stemM P.nom st = .ok st') => okS_stem ok e)
      have HNZ := Lib.hid (fun e (q : stemM P.nom st = .error e) => stem_nz q)
      generalize tokM P.nom G L sub zs k 20 st = R at *
      clear h ok hr hG hL hsub hx0 hx1 hx32 hnum HX
      clear c1 c2 c6
      cases hQ : stemM P.nom st with
      | error e1 =>
        have HE2 : Hid (R = (.error e1, k)) := by show _ = _; rw [HE.out, hQ]
        have hb : (e1 != 0) = true := by have := HNZ.out e1 hQ; simpa using this
        rw [hQ] at HC
        clear HSO HNZ HE hQ
        go_enter Tryz.func27, Tryz.ntmps27
        go_wp2_with fail
        refine HC.out.mono ?_; rintro e w3 ⟨rfl, h3, k3⟩
        simp only [errOf]
        go_wp2_with fail
        go_ret
        exact TokP.eq HE2.out (TokP.err (HT0.out.trans (k3.mono (by simp) (fun t ht => ht) (Nat.le_refl _))))
      | ok st2 =>
        have hst := (HSO.out st2 hQ).2.2.2
        have HE2 : Hid (R = if zs.length < k + (st2.stems + 7) / 8 then (.error 180, k) else (.ok st2, k + (st2.stems + 7) / 8)) := by show _ = _; rw [HE.out, hQ]
        rw [hQ] at HC
        obtain ⟨n, hn⟩ : ∃ n, (st2.stems + 7) / 8 = n := ⟨_, rfl⟩
        rw [hn] at HE2
        have hq : ((st2.stems : Int) + 7).tdiv 8 = (n : Int) := by rw [Int.tdiv_eq_ediv_of_nonneg (by omega)]; omega
        have hn12 : n ≤ 12 := by omega
        have hw1 : IntKind.i64.wrap ((st2.stems : Int) + 7) = (st2.stems : Int) + 7 := by rw [IntKind.wrap_i64]; omega
        have hw2 : IntKind.i64.wrap (n : Int) = (n : Int) := by rw [IntKind.wrap_i64]; omega
        clear HSO HNZ HE hQ hn
        go_enter Tryz.func27, Tryz.ntmps27
        go_wp2_with fail
        refine HC.out.mono ?_; rintro e w3 ⟨rfl, h3, k3⟩
        simp only [errOf]
        have M3 := Lib.hid (h3 st2 rfl)
        have T3 : Hid (KT [r] runTs W0.heap.size w w3) := HT0.out.trans (k3.mono (by simp) (fun t ht => ht) (Nat.le_refl _))
        have R3 := Lib.hid (HR.out.kt k3)
        obtain ⟨_, _, _, c9, _⟩ := M3.out.mach.facts
        clear h3 k3
        go_wp2_with fail
        refine (takeS n (by omega) (R3.out.toS M3.out) (fun _ => h0)).mono ?_; rintro e w4 ⟨⟨v4, rfl⟩, h4, hk4⟩
        have HD := Lib.hid (doneS h4)
        by_cases hs : zs.length < k + n
        · have hB : rdB zs k false n = true := by unfold rdB; simp; omega
          rw [if_pos hs] at HE2
          obtain ⟨g1, g2, _⟩ := R3.out.read M3.out h4 hk4
          rw [hB] at HD
          clear h4 hk4 hs hB
          go_wp2_with fail
          refine HD.out.mono ?_; rintro e w5 ⟨rfl, rfl⟩
          go_wp2_with fail
          go_ret
          exact TokP.eq HE2.out (TokP.err (T3.out.trans g2))
        · have hB : rdB zs k false n = false := by unfold rdB; simp; omega
          have hK : rdK zs k false n = k + n := by unfold rdK; rw [hB]; rfl
          rw [if_neg hs] at HE2
          rw [hB, hK] at h4
          obtain ⟨g1, g2, g3⟩ := R3.out.read M3.out h4 hk4
          have G1 := Lib.hid g1
          have G2 := Lib.hid g2
          have G3 := Lib.hid (g3 rfl)
          rw [hB] at HD
          clear h4 hk4 hs hB hK g1 g2 g3
          go_wp2_with fail
          refine HD.out.mono ?_; rintro e w5 ⟨rfl, rfl⟩
          go_wp2_with fail
          go_ret
          exact TokP.eq HE2.out ⟨rfl, fun st' e => by cases e; exact ⟨G1.out, G3.out⟩, T3.out.trans G2.out⟩
    by_cases e1 : x = 1
    · subst e1
      have HE : Hid (tokM P.nom G L sub zs k 1 st = (stemM P.nom st, k)) := rfl
      have HC := Lib.hid (stem_calls W0 c P st 1 w h ok)
      generalize tokM P.nom G L sub zs k 1 st = R at *
      generalize stemM P.nom st = Q at *
      clear h ok hr hG hL hsub hx0 hx1 hx32 hnum HX
      clear c1 c2 c6
      go_enter Tryz.func27, Tryz.ntmps27
      go_wp2_with fail
      refine HC.out.mono ?_; rintro e w3 ⟨rfl, h3, k3⟩
      go_wp2_with fail
      go_ret
      exact TokP.eq HE.out (TokP.of HT0.out HR.out ⟨rfl, h3, k3⟩)
    by_cases e3 : x = 3
    · subst e3
      have HE : Hid (tokM P.nom G L sub zs k 3 st = (stemM P.nom st, k)) := rfl
      have HC := Lib.hid (stem_calls W0 c P st 3 w h ok)
      generalize tokM P.nom G L sub zs k 3 st = R at *
      generalize stemM P.nom st = Q at *
      clear h ok hr hG hL hsub hx0 hx1 hx32 hnum HX
      clear c1 c2 c6
      go_enter Tryz.func27, Tryz.ntmps27
      go_wp2_with fail
      refine HC.out.mono ?_; rintro e w3 ⟨rfl, h3, k3⟩
      go_wp2_with fail
      go_ret
      exact TokP.eq HE.out (TokP.of HT0.out HR.out ⟨rfl, h3, k3⟩)
    by_cases e18 : x = 18
    · subst e18
      have HE : Hid (tokM P.nom G L sub zs k 18 st = (stemM P.nom st, k)) := rfl
      have HC := Lib.hid (stem_calls W0 c P st 18 w h ok)
      generalize tokM P.nom G L sub zs k 18 st = R at *
      generalize stemM P.nom st = Q at *
      clear h ok hr hG hL hsub hx0 hx1 hx32 hnum HX
      clear c1 c2 c6
      go_enter Tryz.func27, Tryz.ntmps27
      go_wp2_with fail
      refine HC.out.mono ?_; rintro e w3 ⟨rfl, h3, k3⟩
      go_wp2_with fail
      go_ret
      exact TokP.eq HE.out (TokP.of HT0.out HR.out ⟨rfl, h3, k3⟩)
    by_cases e23 : x = 23
    · subst e23
      have HE : Hid (tokM P.nom G L sub zs k 23 st = (stemM P.nom st, k)) := rfl
      have HC := Lib.hid (stem_calls W0 c P st 23 w h ok)
      generalize tokM P.nom G L sub zs k 23 st = R at *
      generalize stemM P.nom st = Q at *
      clear h ok hr hG hL hsub hx0 hx1 hx32 hnum HX
      clear c1 c2 c6
      go_enter Tryz.func27, Tryz.ntmps27
      go_wp2_with fail
      refine HC.out.mono ?_; rintro e w3 ⟨rfl, h3, k3⟩
      go_wp2_with fail
      go_ret
      exact TokP.eq HE.out (TokP.of HT0.out HR.out ⟨rfl, h3, k3⟩)
    by_cases e14 : x = 14
    · subst e14
      have HE : Hid (tokM P.nom G L sub zs k 14 st = (endM P.nom st, k)) := rfl
      have HC := Lib.hid (end_calls W0 c P st w h ok)
      generalize tokM P.nom G L sub zs k 14 st = R at *
      generalize endM P.nom st = Q at *
      clear h ok hr hG hL hsub hx0 hx1 hx32 hnum HX
      clear c1 c2 c6
      go_enter Tryz.func27, Tryz.ntmps27
      go_wp2_with fail
      refine HC.out.mono ?_; rintro e w3 ⟨rfl, h3, k3⟩
      go_wp2_with fail
      go_ret
      exact TokP.eq HE.out (TokP.of HT0.out HR.out ⟨rfl, h3, k3⟩)
    have HE : Hid (tokM P.nom G L sub zs k x st = (drawM P.nom x st, k)) := by
      show _ = _; unfold tokM
      rw [if_neg hnum, if_neg e10, if_neg e29, if_neg e12, if_neg (by omega), if_neg (by omega), if_neg e14]
    have HC := Lib.hid (draw_calls W0 c P st x w h ok)
    generalize tokM P.nom G L sub zs k x st = R at *
    generalize drawM P.nom x st = Q at *
    have b10 : (x == 10) = false := by rw [beq_eq_false_iff_ne]; exact e10
    have b29 : (x == 29) = false := by rw [beq_eq_false_iff_ne]; exact e29
    have b12 : (x == 12) = false := by rw [beq_eq_false_iff_ne]; exact e12
    have b19 : (x == 19) = false := by rw [beq_eq_false_iff_ne]; exact e19
    have b20 : (x == 20) = false := by rw [beq_eq_false_iff_ne]; exact e20
    have b1 : (x == 1) = false := by rw [beq_eq_false_iff_ne]; exact e1
    have b3 : (x == 3) = false := by rw [beq_eq_false_iff_ne]; exact e3
    have b18 : (x == 18) = false := by rw [beq_eq_false_iff_ne]; exact e18
    have b23 : (x == 23) = false := by rw [beq_eq_false_iff_ne]; exact e23
    have b14 : (x == 14) = false := by rw [beq_eq_false_iff_ne]; exact e14
    have b28 : (x == 28) = false := by rw [beq_eq_false_iff_ne]; omega
    have d32 : decide (32 ≤ x) = false := decide_eq_false (by omega)
    clear h ok hr hG hL hsub hx0 hx1 hx32 hnum HX e10 e29 e12 e19 e20 e1 e3 e18 e23 e14
    clear c1 c2 c6
    go_enter Tryz.func27, Tryz.ntmps27
    go_wp2_with fail
    refine HC.out.mono ?_; rintro e w3 ⟨rfl, h3, k3⟩
    go_wp2_with fail
    go_ret
    exact TokP.eq HE.out (TokP.of HT0.out HR.out ⟨rfl, h3, k3⟩)
end Go.Proofs.YtfgpocpfapnkkaaGreat
namespace Go.Proofs.YtfgpocpfapnkkaaGreat
open Go.RowKit
set_option linter.unusedVariables false
set_option linter.unusedSimpArgs false
def nzF (f : List Int → Ms → Rm) : Prop := ∀ zs st e, f zs st = .error e → e ≠ 0
theorem end_nz {nom : Int} {st : Ms} {e : Int} (h : endM nom st = .error e) : e ≠ 0 := by
  unfold endM at h
  dsimp only at h
  split at h
  · rename_i hz; cases h; exact hz
  · split at h
    · cases h; decide
    · split at h
      · cases h; decide
      · cases h
theorem draw_nz {nom op : Int} {st : Ms} {e : Int} (h : drawM nom op st = .error e) : e ≠ 0 := by
  unfold drawM at h
  split at h
  · cases h; decide
  · unfold drawS at h
    dsimp only at h
    split at h
    · rename_i hz; cases h; exact hz
    · split at h
      · cases h; decide
      · split at h
        · rename_i hz; cases h; exact hz
        · cases h
theorem push_nz {x : Int} {st : Ms} {e : Int} (h : pushM x st = .error e) : e ≠ 0 := by
  unfold pushM at h
  split at h
  · cases h; decide
  · split at h
    · cases h; decide
    · cases h
theorem do_nz {op : Int} {st : Ms} {e : Int} (h : doR op st = .error e) : e ≠ 0 := by
  unfold doR at h
  dsimp only at h
  split at h
  · rename_i hz; cases h; exact hz
  · cases h
theorem call_nz {l : List (List Int)} {sub : Option (List Int → Ms → Rm)} {st : Ms} {e : Int} (hf : ∀ f, sub = some f → nzF f) (h : callM l sub st = .error e) : e ≠ 0 := by
  unfold callM at h
  split at h
  · cases h; decide
  · dsimp only at h
    split at h
    · cases h; decide
    · rename_i f
      split at h
      · cases h; decide
      · exact hf f rfl _ _ _ h
theorem tok_nz {nom : Int} {G L : List (List Int)} {sub : Option (List Int → Ms → Rm)} {zs : List Int} {k : Nat} {c : Int} {st : Ms} {e : Int} (hf : ∀ f, sub = some f → nzF f) (h : (tokM nom G L sub zs k c st).1 = .error e) : e ≠ 0 := by
  unfold tokM at h
  split at h
  · split at h
    · cases h; decide
    · exact push_nz h
  · split at h
    · exact call_nz hf h
    · split at h
      · exact call_nz hf h
      · split at h
        · split at h
          · cases h; decide
          · dsimp only at h
            split at h
            · exact do_nz h
            · exact draw_nz h
        · split at h
          · split at h
            · rename_i hs; cases h; exact stem_nz hs
            · split at h
              · cases h; decide
              · cases h
          · split at h
            · exact stem_nz h
            · split at h
              · exact end_nz h
              · exact draw_nz h
theorem loop_nz {nom : Int} {G L : List (List Int)} {sub : Option (List Int → Ms → Rm)} {top : Bool} {zs : List Int} (hf : ∀ f, sub = some f → nzF f) : ∀ (f k : Nat) (st : Ms) (e : Int), loopM nom G L sub top zs f k st = .error e → e ≠ 0 := by
  intro f
  induction f with
  | zero => intro k st e h; cases h; decide
  | succ f ih =>
    intro k st e h
    unfold loopM at h
    split at h
    · cases h
    · split at h
      · cases h; decide
      · split at h
        · cases h; decide
        · split at h
          · split at h
            · cases h; decide
            · cases h
          · split at h
            · rename_i e2 k2 ht
              cases h
              exact tok_nz (zs := zs) (k := k + 1) (c := zs.getD k 0) hf (by rw [ht])
            · exact ih _ _ _ h
theorem nzF_code (nom : Int) (G L : List (List Int)) : ∀ (lev : Nat) (top : Bool), nzF (codeM nom G L lev top)
  | 0, top => fun zs st e h => loop_nz (fun f hf => by cases hf) _ _ _ _ h
  | lev + 1, top => fun zs st e h => loop_nz (fun f hf => by cases hf; exact nzF_code nom G L lev false) _ _ _ _ h
section
variable {nom : Int} {G L : List (List Int)} {sub : Option (List Int → Ms → Rm)} {top : Bool} {zs : List Int} {f k k' : Nat} {st st' : Ms} {e : Int}
theorem loop_ret (h1 : st.ended = false) (h2 : ¬ k = zs.length) (h3 : ¬ st.steps = 20000) (h4 : zs.getD k 0 = 11) : loopM nom G L sub top zs (f + 1) k st = if top then .error 180 else .ok { st with steps := st.steps + 1 } := by
  unfold loopM; rw [if_neg (by rw [h1]; simp), if_neg h2, if_neg h3, if_pos h4]
theorem loop_err (h1 : st.ended = false) (h2 : ¬ k = zs.length) (h3 : ¬ st.steps = 20000) (h4 : zs.getD k 0 ≠ 11) (h5 : tokM nom G L sub zs (k + 1) (zs.getD k 0) { st with steps := st.steps + 1 } = (.error e, k')) : loopM nom G L sub top zs (f + 1) k st = .error e := by
  unfold loopM; rw [if_neg (by rw [h1]; simp), if_neg h2, if_neg h3, if_neg h4, h5]
theorem loop_ok (h1 : st.ended = false) (h2 : ¬ k = zs.length) (h3 : ¬ st.steps = 20000) (h4 : zs.getD k 0 ≠ 11) (h5 : tokM nom G L sub zs (k + 1) (zs.getD k 0) { st with steps := st.steps + 1 } = (.ok st', k')) : loopM nom G L sub top zs (f + 1) k st = loopM nom G L sub top zs f k' st' := by
  conv => lhs; unfold loopM
  rw [if_neg (by rw [h1]; simp), if_neg h2, if_neg h3, if_neg h4, h5]
end
def stepsW (c : Lc) (w : World) : Nat := match w.cell? ⟨c.m, 8, none⟩ with | some (.int _ n) => n.toNat | _ => 0
theorem stepsW_eq {W0 w : World} {c : Lc} {P : Pg} {st : Ms} (h : Mst W0 c P st w) : stepsW c w = st.steps := by
  unfold stepsW; rw [h.mach.facts.2.2.1]; simp
theorem KT.new {Ts : List TypeId} {base r : Nat} {a b c : World} (h : KT [] Ts base a b) (k : KT [r] Ts base b c) (hr : a.heap.size ≤ r) : KT [] Ts base a c :=
  ⟨k.os.trans h.os, k.tape.trans h.tape, k.output.trans h.output, Nat.le_trans h.size k.size, fun i o ho hs ht => k.block i o (h.block i o ho hs ht) (by have := lt_of_block ho; simp; omega) ht⟩
/-- Where the loop is. -/
def CoSt (W0 : World) (c : Lc) (P : Pg) (G L : List (List Int)) (sub : Option (List Int → Ms → Rm)) (top : Bool) (r : Nat) (v : Value) (zs : List Int) (R : Rm) (w : World) (f k : Nat) (st : Ms) (wr : World) : Prop :=
  Mst W0 c P st wr ∧ OkS st ∧ RdT W0 c wr r v zs k ∧ loopM P.nom G L sub top zs f k st = R ∧ KT [] runTs W0.heap.size w wr
set_option maxRecDepth 100000 in
set_option maxHeartbeats 8000000 in
theorem code_step (W0 : World) (c : Lc) (P : Pg) (depth : Nat) (G L : List (List Int)) (sub : Option (List Int → Ms → Rm)) (hG : IsSub W0 P.gv G) (hL : IsSub W0 P.lv L) (hsub : SubC W0 c P depth sub) (hf : ∀ f, sub = some f → okF f ∧ geF f ∧ nzF f) (hd10 : depth ≤ 10)
    (v : Value) (zs : List Int) (st : Ms) (w : World) (h : Mst W0 c P st w) (ok : OkS st) (hv : BytesC W0 v zs) :
    Calls Tryz.prog 18 #[.pointer (some ⟨c.m, 0, none⟩), v, .int .i64 depth] w (ResP W0 c P (loopM P.nom G L sub (decide (depth = 0)) zs 20001 0 st) w) := by
  obtain ⟨p, cc, rfl⟩ : ∃ p cc, v = .slice p zs.length cc := by
    rcases hv.1 with ⟨⟨ad, h0⟩, h1⟩ | ⟨g, off, cc, h0, _⟩
    · exact ⟨_, _, by rw [h0, h1]; rfl⟩
    · exact ⟨_, _, h0⟩
  have hzl := hv.1.le
  unfold maxLen at hzl
  have HV := Lib.hid hv
  have HM := Lib.hid h
  have HOK := Lib.hid ok
  have HF := Lib.hid hf
  have HB := Lib.hid h.pen.2
  have HTOK := Lib.hid (fun st r k x W (h : Mst W0 c P st W) (ok : OkS st) (hr : RdT W0 c W r (.slice p zs.length cc) zs k) (h0 : 0 < zs.length) (hx0 : 0 ≤ x) (hx1 : x ≤ 255) => token_calls W0 c P st depth G L sub r (.slice p zs.length cc) zs k x W h ok hr h0 hG hL hsub hd10 hx0 hx1)
  have HBY := Lib.hid (fun k => getD_mem_bounds zs k hv.2.1)
  obtain ⟨top, htop⟩ : ∃ top, decide (depth = 0) = top := ⟨_, rfl⟩
  have HTOP := Lib.hid htop
  rw [htop]
  obtain ⟨R, hR⟩ : ∃ R, loopM P.nom G L sub top zs 20001 0 st = R := ⟨_, rfl⟩
  have HR := Lib.hid hR
  rw [hR]
  obtain ⟨N, hN⟩ : ∃ N, zs.length = N := ⟨_, rfl⟩
  have HN := Lib.hid hN
  rw [hN] at HV HTOK hzl ⊢
  clear h ok hv hf hR hN hsub hG hL htop
  go_enter Tryz.func18, Tryz.ntmps18
  go_wp2_with fail
  refine (new_calls (.slice p N cc) p N cc rfl w).mono ?_; rintro e w1 ⟨rfl, hw1⟩
  have hk1 : Kp [] w w1 := by rw [hw1]; exact (Kp.refl _ _).alloc _
  have hb1 : w1.heap[w.heap.size]? = some (.cells #[.slice p N cc, .int .i64 0, .bool false] 70 (0, 0)) := by rw [hw1]; exact heap_alloc_new w _
  have HJ0 : Hid (CoSt W0 c P G L sub top w.heap.size (.slice p N cc) zs R w 20001 0 st w1) := ⟨HM.out.kp0 hk1, HOK.out, ⟨hb1, HV.out, Nat.zero_le _, HB.out⟩, HR.out, KT.of_kp0 hk1⟩
  have hst := HOK.out.2.2.1
  obtain ⟨r, hr⟩ : ∃ r, w.heap.size = r := ⟨_, rfl⟩
  have HRW := Lib.hid hr
  rw [hr] at HJ0 ⊢
  clear hw1 hk1 hb1 hr HM HOK HR HV HB
  go_wp2_with fail
  go_loopw [9] (fun ev wr => ∃ (f k : Nat) (st2 : Ms), 20000 < f + st2.steps ∧ Hid (CoSt W0 c P G L sub top r (.slice p N cc) zs R w f k st2 wr)) (fun _ wr => 20001 - stepsW c wr)
  case atStart => exact ⟨20001, 0, st, by omega, HJ0⟩
  case round =>
    obtain ⟨f, k, st2, hf, HJ⟩ := hrel
    clear HJ0 hst
    have hs2 := HJ.out.2.1.2.2.1
    obtain ⟨f, rfl⟩ : ∃ f2, f = f2 + 1 := ⟨f - 1, by omega⟩
    have HSW : Hid (stepsW c wr = st2.steps) := stepsW_eq HJ.out.1
    obtain ⟨_, _, c8, _, _, _, c12, fz⟩ := HJ.out.1.mach.facts
    have f8 := fz 8
    have HL1 : Hid (R = loopM P.nom G L sub top zs (f + 1) k st2) := HJ.out.2.2.2.1.symm
    clear fz
    cases hend : st2.ended with
    | true =>
      have HE : Hid (R = .ok st2) := by show _ = _; rw [HL1.out]; unfold loopM; rw [if_pos hend]
      rw [hend] at c12
      clear c8 f8 hend
      go_wp2_with fail
      go_ret
      rw [HE.out]
      exact ResP.ok HJ.out.1 HJ.out.2.2.2.2
    | false =>
      rw [hend] at c12
      have HEN : Hid (¬ (st2.ended = true)) := by show ¬ _; rw [hend]; simp
      have HLF := Lib.hid (leftS (HJ.out.2.2.1.toS HJ.out.1))
      have hkz : k ≤ N := by have := HJ.out.2.2.1.2.2.1; rw [HN.out] at this; exact this
      rw [HN.out] at HLF
      by_cases hkN : k = N
      · have HE : Hid (R = .error 180) := by show _ = _; rw [HL1.out]; unfold loopM; rw [if_neg HEN.out, if_pos (by rw [HN.out]; exact hkN)]
        subst hkN
        rw [show ((k : Int) - k) = 0 by omega] at HLF
        clear c8 f8 hend
        go_wp2_with fail
        refine HLF.out.mono ?_; rintro e w2 ⟨rfl, hk2⟩
        go_wp2_with fail
        go_ret
        rw [HE.out]
        exact ResP.err 180 (HJ.out.2.2.2.2.trans (KT.of_kp0 hk2))
      · have hlb : (((N : Int) - (k : Int)) == 0) = false := by rw [beq_eq_false_iff_ne]; omega
        have HN0 : Hid (0 < N) := (by omega : 0 < N)
        have HNK : Hid (¬ (k = zs.length)) := by show ¬ _; rw [HN.out]; exact hkN
        obtain ⟨x, hx⟩ : ∃ x, zs.getD k 0 = x := ⟨_, rfl⟩
        have HXB : Hid (0 ≤ x ∧ x ≤ 255) := by have := HBY.out k; rw [hx] at this; exact this
        by_cases hs20 : st2.steps = 20000
        · have HE : Hid (R = .error 181) := by show _ = _; rw [HL1.out]; unfold loopM; rw [if_neg HEN.out, if_neg HNK.out, if_pos hs20]
          rw [hs20] at c8
          replace c8 : wr.cell? ⟨c.m, 8, none⟩ = some (.int .i64 20000) := c8
          clear f8 hend hkN hx
          go_wp2_with fail
          refine HLF.out.mono ?_; rintro e w2 ⟨rfl, hk2⟩
          have c8' := hk2.cell c8 (by simp)
          go_wp2_with fail
          go_ret
          rw [HE.out]
          exact ResP.err 181 (HJ.out.2.2.2.2.trans (KT.of_kp0 hk2))
        · have hsb : ((st2.steps : Int) == 20000) = false := by rw [beq_eq_false_iff_ne]; omega
          have hws : IntKind.i64.wrap ((st2.steps : Int) + 1) = (st2.steps : Int) + 1 := by rw [IntKind.wrap_i64]; omega
          have HLR : Hid (x = 11 → R = if top then .error 180 else .ok { st2 with steps := st2.steps + 1 }) := fun h => by rw [HL1.out]; exact loop_ret hend HNK.out hs20 (hx.trans h)
          have HLE : Hid (x ≠ 11 → ∀ e k', tokM P.nom G L sub zs (k + 1) x { st2 with steps := st2.steps + 1 } = (.error e, k') → R = .error e) := fun h e k' ht => by rw [HL1.out]; exact loop_err hend HNK.out hs20 (by rw [hx]; exact h) (by rw [hx]; exact ht)
          have HLO : Hid (x ≠ 11 → ∀ st' k', tokM P.nom G L sub zs (k + 1) x { st2 with steps := st2.steps + 1 } = (.ok st', k') → R = loopM P.nom G L sub top zs f k' st') := fun h e k' ht => by rw [HL1.out]; exact loop_ok hend HNK.out hs20 (by rw [hx]; exact h) (by rw [hx]; exact ht)
          have HOK2 : Hid (OkS { st2 with steps := st2.steps + 1 }) := ⟨HJ.out.2.1.1, HJ.out.2.1.2.1, by show st2.steps + 1 ≤ 20000; omega, HJ.out.2.1.2.2.2⟩
          have hrdV : rdV zs k false 1 = x := by
            have hB : rdB zs k false 1 = false := by unfold rdB; simp; rw [HN.out]; omega
            unfold rdV; rw [hB]; rw [← hx]; exact cut1 (by rw [HN.out]; omega)
          have hrdB : rdB zs k false 1 = false := by unfold rdB; simp; rw [HN.out]; omega
          have hrdK : rdK zs k false 1 = k + 1 := by unfold rdK; rw [hrdB]; rfl
          have HRD : Hid (rdV zs k false 1 = x ∧ rdB zs k false 1 = false ∧ rdK zs k false 1 = k + 1) := ⟨hrdV, hrdB, hrdK⟩
          clear hend hkN hx hrdV hrdB hrdK
          go_wp2_with fail
          refine HLF.out.mono ?_; rintro e w2 ⟨rfl, hk2⟩
          have M2 := HJ.out.1.kp0 hk2
          obtain ⟨_, _, c8', _, _, _, _, fz⟩ := M2.mach.facts
          have f8' := fz 8
          have hF := M2.field (st' := { st2 with steps := st2.steps + 1 }) 8 (.int .i64 ((st2.steps : Int) + 1)) (by
            have h9 := heap_setCell_same w2 c.m 8 _ _ (.int .i64 ((st2.steps : Int) + 1)) M2.mach
            rw [show ((st2.steps : Int) + 1) = ((st2.steps + 1 : Nat) : Int) by omega] at h9 ⊢
            exact h9) rfl rfl rfl rfl
          have M3 := Lib.hid hF.1
          have R3 := Lib.hid ((HJ.out.2.2.1.kp0 hk2).kt hF.2)
          have T3 := Lib.hid (HJ.out.2.2.2.2.trans ((KT.of_kp0 hk2).trans hF.2))
          clear hF M2 fz hk2 c8 f8 c12
          go_wp2_with fail
          refine (u8S (R3.out.toS M3.out)).mono ?_; rintro e w4 ⟨rfl, h4, hk4⟩
          rw [HRD.out.1]
          rw [HRD.out.2.1, HRD.out.2.2] at h4
          obtain ⟨g1, g2, g3⟩ := R3.out.read M3.out h4 hk4
          have M4 := Lib.hid g1
          have R4 := Lib.hid (g3 rfl)
          have T4 : Hid (KT [] runTs W0.heap.size w w4) := T3.out.new g2 (by rw [HRW.out]; exact Nat.le_refl _)
          clear g1 g2 g3 h4 hk4 c8' f8'
          by_cases h11 : x = 11
          · subst h11
            have HLC := Lib.hid (HLR.out rfl)
            clear HLR HLE HLO
            cases top with
            | true =>
              have hd0 : depth = 0 := of_decide_eq_true HTOP.out
              subst hd0
              go_wp2_with fail
              go_ret
              rw [HLC.out]
              exact ResP.err 180 T4.out
            | false =>
              have hd0 : ((depth : Int) == 0) = false := by rw [beq_eq_false_iff_ne]; have := of_decide_eq_false HTOP.out; omega
              go_wp2_with fail
              go_ret
              rw [HLC.out]
              exact ResP.ok M4.out T4.out
          · have HLE2 := Lib.hid (HLE.out h11)
            have HLO2 := Lib.hid (HLO.out h11)
            clear HLR HLE HLO
            have hx11 : (x == 11) = false := by rw [beq_eq_false_iff_ne]; exact h11
            have hTK := Lib.hid (HTOK.out _ r (k + 1) x w4 M4.out HOK2.out R4.out HN0.out HXB.out.1 HXB.out.2)
            have HOKT : Hid (∀ st', (tokM P.nom G L sub zs (k + 1) x { st2 with steps := st2.steps + 1 }).1 = .ok st' → OkS st' ∧ st2.steps + 1 ≤ st'.steps) := fun st' e => ⟨okS_tok (fun f h => (HF.out f h).1) HOK2.out e, ge_tok (fun f h => (HF.out f h).2.1) e⟩
            have HNZT : Hid (∀ e, (tokM P.nom G L sub zs (k + 1) x { st2 with steps := st2.steps + 1 }).1 = .error e → e ≠ 0) := fun e h => tok_nz (fun f h => (HF.out f h).2.2) h
            obtain ⟨⟨Q, k2⟩, hQ⟩ : ∃ Q, tokM P.nom G L sub zs (k + 1) x { st2 with steps := st2.steps + 1 } = Q := ⟨_, rfl⟩
            rw [hQ] at hTK HOKT HNZT HLE2 HLO2
            clear hQ M4 R4 HL1 HJ M3 R3 T3
            cases Q with
            | error e1 =>
              have hb : (e1 != 0) = true := by have := HNZT.out e1 rfl; simpa using this
              go_wp2_with fail
              refine hTK.out.mono ?_; rintro e w5 ⟨rfl, h5, k5⟩
              simp only [errOf]
              go_wp2_with fail
              go_ret
              rw [HLE2.out e1 k2 rfl]
              exact ResP.err e1 (T4.out.new k5 (by rw [HRW.out]; exact Nat.le_refl _))
            | ok st3 =>
              obtain ⟨hok3, hge3⟩ := HOKT.out st3 rfl
              have HOK3 := Lib.hid hok3
              clear hok3
              go_wp2_with fail
              refine hTK.out.mono ?_; rintro e w5 ⟨rfl, h5, k5⟩
              simp only [errOf]
              obtain ⟨h6, h7⟩ := h5 st3 rfl
              have HSW5 : Hid (stepsW c w5 = st3.steps) := stepsW_eq h6
              have HJ2 : Hid (CoSt W0 c P G L sub top r (.slice p N cc) zs R w f k2 st3 w5) := ⟨h6, HOK3.out, h7, (HLO2.out st3 k2 rfl).symm, T4.out.new k5 (by rw [HRW.out]; exact Nat.le_refl _)⟩
              have hs3 := HOK3.out.2.2.1
              clear h5 h6 h7 k5
              go_wp2_with fail
              go_roundw
              case rel => first | exact ⟨f, k2, st3, by omega, HJ2⟩ | ((repeat apply Exists.intro); exact ⟨⟨f, k2, st3, by omega, HJ2⟩, rfl⟩)
              case measure => first | (rw [HSW5.out, HSW.out]; omega) | (dsimp only; rw [HSW5.out, HSW.out]; omega)
theorem code_all (W0 : World) (c : Lc) (P : Pg) (G L : List (List Int)) (hG : IsSub W0 P.gv G) (hL : IsSub W0 P.lv L) : ∀ (lev depth : Nat), lev + depth = 10 → ∀ (v : Value) (zs : List Int) (st : Ms) (w : World), Mst W0 c P st w → OkS st → BytesC W0 v zs →
    Calls Tryz.prog 18 #[.pointer (some ⟨c.m, 0, none⟩), v, .int .i64 (depth : Nat)] w (ResP W0 c P (codeM P.nom G L lev (decide (depth = 0)) zs st) w) := by
  intro lev
  induction lev with
  | zero =>
    intro depth hd v zs st w h ok hv
    exact code_step W0 c P depth G L none hG hL (.inl ⟨rfl, by omega⟩) (fun f hf => by cases hf) (by omega) v zs st w h ok hv
  | succ lev ih =>
    intro depth hd v zs st w h ok hv
    refine code_step W0 c P depth G L (some (codeM P.nom G L lev false)) hG hL (.inr ⟨by omega, _, rfl, fun v2 zs2 st2 w2 h2 ok2 hv2 => ?_⟩) (fun f hf => by cases hf; exact ⟨okF_code _ _ _ _ _, geF_code _ _ _ _ _, nzF_code _ _ _ _ _⟩) (by omega) v zs st w h ok hv
    have h9 := ih (depth + 1) (by omega) v2 zs2 st2 w2 h2 ok2 hv2
    rw [decide_eq_false (by omega : ¬ (depth + 1 = 0))] at h9
    exact h9
end Go.Proofs.YtfgpocpfapnkkaaGreat

/- outline: outlines that are built contour by contour; the law's own copy · outline: large; clone; slices.Clone at points · outline: slices.Clone at points; clone · outline: Join · outline: the reference's middle; the first point on the outline · outline: the first point that lies on the outline (slices.IndexFunc with isOn). (Merged by wip/tools/mergetpl.py out of OuJ, OuK, OuL, OuM, OuN, OuO.) -/
import Derived.Test.YtafkhnlmipddmaaGreatOmA
import Derived.Deep.AppendLies
import Derived.Lib.SliceRun
namespace Go.Proofs.YtafkhnlmipddmaaGreat
open Go.RowKit
set_option linter.unusedVariables false
set_option linter.unusedSimpArgs false
theorem infoPs : (Tryz.prog.info? 23).map (fun i => (i.zero, i.size, i.bytes)) = some (some (.slice none 0 0), 1, 24) := by kernel_rfl
/-- The contours of an outline that is being built: the outer row is the call's own, no contour lies in it. -/
def WVs (w : World) (base : Nat) (v : Value) (vs : List Value) (o : List (List Pn)) : Prop :=
  w.ownsRow base 23 1 v o.length vs ∧ ∀ i, i < o.length → IsPs w (vs.getD i (.slice none 0 0)) (o.getD i []) ∧ ∀ b, blockOf (vs.getD i (.slice none 0 0)) = some b → v.ownBlock ≠ some b ∧ b < w.heap.size ∧ base ≤ b
def WOut (w : World) (base : Nat) (v : Value) (o : List (List Pn)) : Prop := ∃ vs, WVs w base v vs o
theorem WVs.kp0 {w w' : World} {base : Nat} {v : Value} {vs : List Value} {o : List (List Pn)} (h : WVs w base v vs o) (hk : Kp [] w w') : WVs w' base v vs o :=
  ⟨hk.row h.1 (by simp), fun i hi => ⟨(h.2 i hi).1.kp0 hk, fun b hb => ⟨((h.2 i hi).2 b hb).1, Nat.lt_of_lt_of_le ((h.2 i hi).2 b hb).2.1 hk.size, ((h.2 i hi).2 b hb).2.2⟩⟩⟩
theorem WOut.kp0 {w w' : World} {base : Nat} {v : Value} {o : List (List Pn)} (h : WOut w base v o) (hk : Kp [] w w') : WOut w' base v o := by
  obtain ⟨vs, h⟩ := h; exact ⟨vs, h.kp0 hk⟩
theorem WOut.nil (w : World) (base : Nat) : WOut w base (.slice none 0 0) [] := ⟨[], World.ownsRow_nil _ _ _ _, fun i hi => by simp at hi⟩
theorem WOut.out {w : World} {base : Nat} {v : Value} {o : List (List Pn)} (h : WOut w base v o) : IsOut w v o := by
  obtain ⟨vs, h1, h2⟩ := h
  exact ⟨vs, Reads.owned h1, fun i hi => (h2 i hi).1⟩
theorem WVs.push {w w4 : World} {base : Nat} {v cv : Value} {vs : List Value} {o : List (List Pn)} {c : List Pn} {g4 c4 H : Nat} (h : WVs w base v vs o) (hc : IsPs w cv c) (hcb : ∀ b, blockOf cv = some b → v.ownBlock ≠ some b ∧ b < w.heap.size ∧ base ≤ b)
    (hown : w4.ownsRow base 23 1 (.slice (some ⟨g4, 0, none⟩) (o.length + 1) c4) (o.length + 1) (vs ++ [cv])) (hgr : w.grownBy w4 v.ownBlock) (hat : v.ownBlock = some g4 ∨ g4 = H) (hH : w.heap.size ≤ H) :
    WVs w4 base (.slice (some ⟨g4, 0, none⟩) (o.length + 1) c4) (vs ++ [cv]) (o ++ [c]) := by
  have hvl : vs.length = o.length := by have := h.1.1; omega
  have hk : Kp v.ownBlock.toList w w4 := Kp.grown (Kp.refl _ _) hgr (fun k hk => .inl (by rw [hk]; simp))
  have key : ∀ (u : Value) (d : List Pn), IsPs w u d → (∀ b, blockOf u = some b → v.ownBlock ≠ some b ∧ b < w.heap.size ∧ base ≤ b) → IsPs w4 u d ∧ ∀ b, blockOf u = some b → (Value.slice (some ⟨g4, 0, none⟩) (o.length + 1) c4).ownBlock ≠ some b ∧ b < w4.heap.size ∧ base ≤ b := by
    intro u d hu hb
    refine ⟨hu.kp hk (fun s hs e => ?_), fun b hbb => ⟨fun e => ?_, Nat.lt_of_lt_of_le (hb b hbb).2.1 hk.size, (hb b hbb).2.2⟩⟩
    · exact (hb s e).1 (by simpa using hs)
    · simp [Value.ownBlock] at e
      subst e
      rcases hat with h1 | h1
      · exact (hb _ hbb).1 h1
      · have := (hb _ hbb).2.1; omega
  refine ⟨by simpa using hown, fun i hi => ?_⟩
  by_cases e : i < o.length
  · rw [List.getD_eq_getElem?_getD, List.getElem?_append_left (by omega), ← List.getD_eq_getElem?_getD, List.getD_eq_getElem?_getD (l := o ++ [c]), List.getElem?_append_left e, ← List.getD_eq_getElem?_getD]
    exact key _ _ (h.2 i e).1 (h.2 i e).2
  · obtain rfl : i = o.length := by simp at hi; omega
    rw [List.getD_eq_getElem?_getD, List.getElem?_append_right (by omega), hvl, Nat.sub_self, List.getD_eq_getElem?_getD (l := o ++ [c]), List.getElem?_append_right (Nat.le_refl _), Nat.sub_self]
    exact key cv c hc hcb
/-- No contour is long, nor are there many. -/
def fewO (o : List (List Pn)) : Prop := o.length ≤ 1048576 ∧ ∀ j, j < o.length → (o.getD j []).length ≤ 1048576
end Go.Proofs.YtafkhnlmipddmaaGreat
namespace Go.Proofs.YtafkhnlmipddmaaGreat
open Go.RowKit
set_option linter.unusedVariables false
set_option linter.unusedSimpArgs false
/-- Is an outline too large to be looked at? -/
def largeB (o : List (List Pn)) : Bool := decide (300 < o.length) || decide (5000 < cntTo o (min o.length 400))
theorem not_large {o : List (List Pn)} (h : largeB o = false) : o.length ≤ 300 ∧ cnt o ≤ 5000 := by
  unfold largeB at h
  simp only [Bool.or_eq_false_iff, decide_eq_false_iff_not] at h
  obtain ⟨h1, h2⟩ := h
  rw [show min o.length 400 = o.length by omega] at h2
  exact ⟨by omega, by unfold cnt; omega⟩
theorem len_le_cnt (o : List (List Pn)) {j : Nat} (h : j < o.length) : (o.getD j []).length ≤ cnt o := by
  have := cntTo_le o (j := j + 1) (by omega)
  rw [cntTo] at this
  omega
theorem cntTo_bound (o : List (List Pn)) (B : Nat) (h : ∀ j, j < o.length → (o.getD j []).length ≤ B) : ∀ j, j ≤ o.length → cntTo o j ≤ j * B := by
  intro j
  induction j with
  | zero => intro _; simp [cntTo]
  | succ j ih => intro hj; have a := ih (by omega); have b := h j (by omega); rw [cntTo, Nat.add_mul]; omega
end Go.Proofs.YtafkhnlmipddmaaGreat
namespace Go.Proofs.YtafkhnlmipddmaaGreat
open Go.RowKit
set_option linter.unusedVariables false
set_option linter.unusedSimpArgs false
set_option maxRecDepth 100000 in
theorem clonep_calls (v : Value) (c : List Pn) (w : World) (h : IsPs w v c) (hl : c.length ≤ 1048576) :
    Calls Tryz.prog 107 #[v] w fun e w' => ∃ v', e = .returned v' ∧ w'.ownsRow w.heap.size 46 3 v' c.length (psCells c) ∧ Kp [] w w' := by
  have H := Lib.hid h
  obtain ⟨pa, ca, hva⟩ := h.form
  subst hva
  cases pa with
  | none =>
    have hz : c = [] ∧ ca = 0 := by
      rcases h.cases with ⟨ad, e, rfl⟩ | ⟨g, off, cc, e, _⟩
      · cases e; exact ⟨rfl, rfl⟩
      · cases e
    obtain ⟨rfl, rfl⟩ := hz
    clear h H hl
    show Calls Tryz.prog 107 #[.slice none 0 0] w _
    have hq := Lib.run_eql_slice_nil (P := Tryz.prog) w 23 46 none 0 0 0 0 Tryz.underlying23
    simp only [Option.isNone] at hq
    go_enter Tryz.func107, Tryz.ntmps107
    go_wp2_with fail
    go_ret
    exact ⟨_, rfl, World.ownsRow_nil _ _ _ _, Kp.refl _ _⟩
  | some ad =>
    clear h
    obtain ⟨L, hcl⟩ : ∃ L, c.length = L := ⟨_, rfl⟩
    have HCL := Lib.hid hcl
    rw [hcl] at H hl ⊢
    clear hcl
    have hq := Lib.run_eql_slice_nil (P := Tryz.prog) w 23 46 (some ad) L ca 0 0 Tryz.underlying23
    simp only [Option.isNone] at hq
    go_enter Tryz.func107, Tryz.ntmps107
    go_wp2_with (at_builtin; refine wpList_app rfl _ _ 23 rfl w.heap.size 46 (.agg #[.int .i64 0, .int .i64 0, .int .i64 0]) 3 24 Tryz.underlying23 infoPn rfl (by decide) (by decide) (.slice (some ⟨w.heap.size, 0, none⟩) 0 0) 0 [] rfl ?hown (.slice (some ad) L ca) L (psCells c) rfl ?hsrc (oneCell_ps _) ?hb1 ?hb2 ?hk)
    case hown => exact own_empty _ _ _ _ _ rfl (by omega)
    case hsrc => have h := H.out.kp0 ((Kp.refl _ _).alloc (.cells #[] 46)); unfold IsPs at h; rw [HCL.out] at h; exact h
    case hb1 => omega
    case hb2 => first | omega | (simp; omega) | simp
    case hk =>
    intro v1 w1 hown hgr
    try simp only [Nat.zero_add, List.nil_append] at hown
    have hk1 : Kp [] w w1 := Kp.grown ((Kp.refl _ _).alloc _) hgr (by intro k hk; right; simp [Value.ownBlock] at hk; omega)
    have HO := Lib.hid hown
    clear hown hgr
    go_wp2_with fail
    go_ret
    exact ⟨_, rfl, HO.out, hk1⟩
set_option maxRecDepth 100000 in
set_option maxHeartbeats 4000000 in
theorem oclone_calls (v : Value) (o : List (List Pn)) (w : World) (hv : IsOut w v o) (hf : fewO o) :
    Calls Tryz.prog 95 #[v] w fun e w' => ∃ v', e = .returned v' ∧ WOut w' w.heap.size v' o ∧ Kp [] w w' := by
  obtain ⟨i0, hi, hz0, hz1, hz2⟩ := info_parts infoPs
  have HV := Lib.hid hv
  have HF := Lib.hid hf
  obtain ⟨pa, ca, rfl⟩ := hv.form
  obtain ⟨N, hN⟩ : ∃ N, o.length = N := ⟨_, rfl⟩
  have HN := Lib.hid hN
  have hN1 : N ≤ 1048576 := by rw [← hN]; exact hf.1
  rw [hN] at HV ⊢
  clear hN hv hf
  go_enter Tryz.func95, Tryz.ntmps95
  go_wp2_with fail
  go_loopw [3, 5, 8] (fun u _ i wr => ∃ (j : Nat) (l : Value), j ≤ N ∧ i = .int .i64 j ∧ l = u ∧ Hid (WOut wr w.heap.size l (o.take j) ∧ Kp [] w wr)) (fun _ _ i _ => N - (intOf i).toNat)
  case atStart => exact ⟨0, _, by omega, rfl, rfl, WOut.nil _ _, Kp.refl _ _⟩
  case round =>
    obtain ⟨j, l, hj, rfl, rfl, HJ⟩ := hrel
    by_cases hlt : j < N
    · have hjo : j < o.length := by rw [HN.out]; exact hlt
      obtain ⟨g1, o1, c1, p1, cv, e1, _, _, h1, hp⟩ := (HV.out.kp0 HJ.out.2).row hjo
      rw [HN.out] at e1
      cases e1
      have hL := HF.out.2 j hjo
      have HTK : Hid (o.take (j + 1) = o.take j ++ [o.getD j []]) := by show _ = _; rw [List.take_succ_eq_append_getElem hjo, List.getD_eq_getElem?_getD, List.getElem?_eq_getElem hjo]; rfl
      have HTL : Hid ((o.take j).length = j) := by show _ = _; rw [List.length_take]; omega
      obtain ⟨vs, HW⟩ : ∃ vs, Hid (WVs wr w.heap.size l vs (o.take j)) := by obtain ⟨vs, h⟩ := HJ.out.1; exact ⟨vs, h⟩
      have hr := HW.out.1
      rw [HTL.out] at hr
      obtain ⟨pl, cl, hl⟩ := slice_own hr
      subst hl
      have HR := Lib.hid hr
      have HOB := Lib.hid (fun b (hb : (Value.slice pl j cl).ownBlock = some b) => (hr.lt b hb).2)
      have HCP := Lib.hid (clonep_calls _ _ wr hp hL)
      have HKW : Hid (Kp [] w wr) := HJ.out.2
      generalize o.getD j [] = c at *
      clear hp hr hjo HJ
      obtain ⟨L, hcl⟩ : ∃ L, c.length = L := ⟨_, rfl⟩
      have HCL := Lib.hid hcl
      rw [hcl] at h1 HCP hL
      clear hcl
      go_wp2_with fail
      refine HCP.out.mono ?_; rintro e w1 ⟨v1, rfl, hown, hk1⟩
      have hi1 : IsPs w1 v1 c := IsPs.owned HCL.out.symm hown
      have hb1 : ∀ b, blockOf v1 = some b → wr.heap.size ≤ b ∧ b < w1.heap.size := fun b hb => hown.lt b (blockOf_own hb)
      obtain ⟨pv, qv, hv1⟩ := slice_own hown
      subst hv1
      have HI1 := Lib.hid hi1
      have HB1 := Lib.hid hb1
      have HW1 := Lib.hid (HW.out.kp0 hk1)
      have HR1 := Lib.hid (hk1.row HR.out (by simp))
      have HK1 := Lib.hid hk1
      have hsz1 : wr.heap.size ≤ w1.heap.size := HK1.out.size
      have hszw : w.heap.size ≤ wr.heap.size := HKW.out.size
      have hvl : vs.length = j := by have := HR1.out.1; omega
      clear hown hi1 hb1 hk1 HW HR
      go_wp2_with (at_builtin; refine wpList_append_lies _ rfl _ _ 22 rfl w.heap.size 23 i0 (.slice none 0 0) 1 24 Tryz.underlying22 hi hz0 hz1 hz2 rfl (by decide) (.slice pl j cl) j vs rfl ?hown ⟨w1.heap.size, 0, none⟩ 1 1 [.slice pv L qv] rfl rfl ?hnews ?hone (by decide) ?hm ?hb1 ?hb2 (w1.heap.size + 1) ?hH ?hk)
      case hown => exact Kp.row (S := []) (by (repeat (first | exact Kp.refl _ _ | assumption | refine Kp.drew ?_ | refine Kp.drewN ?_ _ | refine Kp.alloc ?_ _ | (refine Kp.setCell ?_ (by first | (left; simp; done) | (right; simp; try omega)) _) | (refine Kp.trans' ?_ (by assumption) (by simp; try omega))))) HR1.out (by simp)
      case hnews => exact World.news_of_block (heap_alloc_new w1 _)
      case hone => intro u hu; simp at hu; subst hu; rfl
      case hm => unfold maxLen; omega
      case hb1 => omega
      case hb2 => simp; omega
      case hH => simp
      case hk =>
      intro g4 c4 w4 hown hgr hat hlt4
      have hka : Kp [] w1 (w1.alloc (.cells #[.slice pv L qv] 23)) := by (repeat (first | exact Kp.refl _ _ | assumption | refine Kp.drew ?_ | refine Kp.drewN ?_ _ | refine Kp.alloc ?_ _ | (refine Kp.setCell ?_ (by first | (left; simp; done) | (right; simp; try omega)) _) | (refine Kp.trans' ?_ (by assumption) (by simp; try omega))))
      have HW2 := HW1.out.kp0 hka
      have hpush := WVs.push (H := w1.heap.size + 1) HW2 ((HI1.out : IsPs w1 (.slice pv L qv) c).kp0 hka) (fun b hb => by
        have h9 := HB1.out b hb
        exact ⟨fun e => by have := HOB.out b e; omega, by simp; omega, by omega⟩) (by rw [HTL.out]; exact hown) hgr hat (by simp)
      rw [HTL.out, ← HTK.out] at hpush
      have HPU : Hid (WOut w4 w.heap.size (.slice (some ⟨g4, 0, none⟩) (j + 1) c4) (o.take (j + 1)) ∧ Kp [] w w4) := ⟨⟨_, hpush⟩, by
        have hkk : Kp [] w wr := HKW.out
        exact Kp.grown (hkk.trans (HK1.out.trans hka)) hgr (fun k hk => .inr (own_ge HR1.out k hk))⟩
      clear hown hgr hat hka HW2 hpush hlt4
      go_wp2_with fail
      go_roundw
      case rel => first | exact ⟨j + 1, _, by omega, int_eq' (by omega), rfl, HPU⟩ | ((repeat apply Exists.intro); exact ⟨⟨j + 1, _, by omega, int_eq' (by omega), rfl, HPU⟩, rfl⟩)
      case measure => simp [intOf]; omega
    · obtain rfl : j = N := by omega
      have HE := Lib.hid HJ.out
      rw [List.take_of_length_le (by rw [HN.out]; exact Nat.le_refl _)] at HE
      clear HJ
      go_wp2_with fail
      go_ret
      exact ⟨_, rfl, HE.out.1, HE.out.2⟩
end Go.Proofs.YtafkhnlmipddmaaGreat
namespace Go.Proofs.YtafkhnlmipddmaaGreat
open Go.RowKit
set_option linter.unusedVariables false
set_option linter.unusedSimpArgs false
theorem WVs.one {w : World} {base : Nat} {v : Value} {vs : List Value} {o : List (List Pn)} (h : WVs w base v vs o) : ∀ u ∈ vs, u.oneCell' = true := by
  intro u hu
  obtain ⟨i, hi, rfl⟩ := List.mem_iff_getElem.1 hu
  obtain ⟨p, c, e⟩ := (h.2 i (by have := h.1.1; omega)).1.form
  rw [List.getD_eq_getElem?_getD, List.getElem?_eq_getElem hi] at e
  simp only [Option.getD_some] at e
  rw [e]; rfl
/-- What Join gives. -/
def joinM (a b : List (List Pn)) : List (List Pn) × Int := if checkO a ≠ 0 then ([], checkO a) else if checkO b ≠ 0 then ([], checkO b) else if 256 < a.length + b.length ∨ 4096 < cnt a + cnt b then ([], 100) else (a ++ b, 0)
theorem join_out {w w4 : World} {base base2 : Nat} {va vb v : Value} {a b : List (List Pn)} {vsa vsb : List Value} {n : Nat} {e : TypeId} (ha : WVs w base va vsa a) (hb : WVs w base2 vb vsb b) (hlt : ∀ k, va.ownBlock = some k → k < base2)
    (hn : n = a.length + b.length) (hown : w4.ownsRow base e 1 v n (vsa ++ vsb)) (hgr : w.grownBy w4 va.ownBlock) : IsOut w4 v (a ++ b) := by
  have hla : vsa.length = a.length := by have := ha.1.1; omega
  have hlb : vsb.length = b.length := by have := hb.1.1; omega
  have hk : Kp va.ownBlock.toList w w4 := Kp.grown (Kp.refl _ _) hgr (fun k hk => .inl (by rw [hk]; simp))
  subst hn
  refine ⟨vsa ++ vsb, by rw [List.length_append]; exact Reads.owned hown, fun i hi => ?_⟩
  by_cases e : i < a.length
  · rw [List.getD_eq_getElem?_getD, List.getElem?_append_left (by omega), ← List.getD_eq_getElem?_getD, List.getD_eq_getElem?_getD (l := a ++ b), List.getElem?_append_left e, ← List.getD_eq_getElem?_getD]
    exact (ha.2 i e).1.kp hk (fun s hs e2 => ((ha.2 i e).2 s e2).1 (by simpa using hs))
  · have hi2 : i - a.length < b.length := by rw [List.length_append] at hi; omega
    rw [List.getD_eq_getElem?_getD, List.getElem?_append_right (by omega), hla, ← List.getD_eq_getElem?_getD, List.getD_eq_getElem?_getD (l := a ++ b), List.getElem?_append_right (by omega), ← List.getD_eq_getElem?_getD]
    exact (hb.2 _ hi2).1.kp hk (fun s hs e2 => by
      have h1 := ((hb.2 _ hi2).2 s e2).2.2
      have h2 := hlt s (by simpa using hs)
      omega)
set_option maxRecDepth 100000 in
set_option maxHeartbeats 4000000 in
theorem join_calls (va vb : Value) (a b : List (List Pn)) (w : World) (ha : IsOut w va a) (hb : IsOut w vb b) (fa : fewO a) (fb : fewO b) (ca : cnt a ≤ 1152921504606846976) (cb : cnt b ≤ 1152921504606846976) :
    Calls Tryz.prog 79 #[va, vb] w fun e w' => ∃ v', e = .returned (.tuple #[v', .int .i64 (joinM a b).2]) ∧ IsOut w' v' (joinM a b).1 ∧ Kp [] w w' := by
  have HCA := Lib.hid (fun W (hk : Kp [] w W) => check_calls va a W (ha.kp0 hk) (fun j hj => by have := fa.2 j hj; omega) (by omega))
  have HCB := Lib.hid (fun W (hk : Kp [] w W) => check_calls vb b W (hb.kp0 hk) (fun j hj => by have := fb.2 j hj; omega) (by omega))
  have HNA := Lib.hid (fun W (hk : Kp [] w W) => ccount_calls va a W (ha.kp0 hk) (by omega))
  have HNB := Lib.hid (fun W (hk : Kp [] w W) => ccount_calls vb b W (hb.kp0 hk) (by omega))
  have HKA := Lib.hid (fun W (hk : Kp [] w W) => oclone_calls va a W (ha.kp0 hk) fa)
  have HKB := Lib.hid (fun W (hk : Kp [] w W) => oclone_calls vb b W (hb.kp0 hk) fb)
  have hla : a.length ≤ 1048576 := fa.1
  have hlb : b.length ≤ 1048576 := fb.1
  obtain ⟨pa, qa, rfl⟩ := ha.form
  obtain ⟨pb, qb, rfl⟩ := hb.form
  have HJ : Hid (joinM a b = if checkO a ≠ 0 then ([], checkO a) else if checkO b ≠ 0 then ([], checkO b) else if 256 < a.length + b.length ∨ 4096 < cnt a + cnt b then ([], 100) else (a ++ b, 0)) := rfl
  clear ha hb fa fb
  by_cases h1 : checkO a = 0
  · rw [h1] at HCA
    by_cases h2 : checkO b = 0
    · rw [h2] at HCB
      have HJ2 : Hid (joinM a b = if 256 < a.length + b.length ∨ 4096 < cnt a + cnt b then ([], 100) else (a ++ b, 0)) := by show _ = _; rw [HJ.out, if_neg (by simp [h1]), if_neg (by simp [h2])]
      have HMY := Lib.hid (fun W => many_calls ((a.length : Int) + (b.length : Int)) ((cnt a : Nat) + (cnt b : Nat) : Int) W)
      obtain ⟨X, hX⟩ : ∃ X, (decide ((256 : Int) < (a.length : Int) + (b.length : Int)) || decide ((4096 : Int) < ((cnt a : Nat) : Int) + (cnt b : Nat))) = X := ⟨_, rfl⟩
      have HX := Lib.hid hX
      rw [hX] at HMY
      clear hX h1 h2 HJ
      generalize joinM a b = J at *
      cases X
      · have HJ3 : Hid (J = (a ++ b, 0)) := by
          show _ = _
          have h := HX.out
          simp only [Bool.or_eq_false_iff, decide_eq_false_iff_not] at h
          rw [HJ2.out, if_neg (by omega)]
        clear HJ2 HX
        go_enter Tryz.func79, Tryz.ntmps79
        go_wp2_with fail
        refine (HCA.out _ (Kp.refl _ _)).mono ?_; rintro e w1 ⟨rfl, hk1⟩
        have HK1 := Lib.hid hk1
        clear hk1
        go_wp2_with fail
        refine (HCB.out _ HK1.out).mono ?_; rintro e w2 ⟨rfl, hk2⟩
        have HK2 : Hid (Kp [] w w2) := HK1.out.trans hk2
        clear hk2 HK1
        go_wp2_with fail
        refine (HNA.out _ HK2.out).mono ?_; rintro e w3 ⟨rfl, rfl⟩
        go_wp2_with fail
        refine (HNB.out _ HK2.out).mono ?_; rintro e w3 ⟨rfl, rfl⟩
        go_wp2_with fail
        refine (HMY.out _).mono ?_; rintro e w3 ⟨rfl, rfl⟩
        go_wp2_with fail
        refine (HKA.out _ HK2.out).mono ?_; rintro e w4 ⟨v4, rfl, hw4, hk4⟩
        have HK4 : Hid (Kp [] w w4) := HK2.out.trans hk4
        have HW4 := Lib.hid hw4
        have hs24 := hk4.size
        clear hw4 hk4
        go_wp2_with fail
        refine (HKB.out _ HK4.out).mono ?_; rintro e w5 ⟨v5, rfl, hw5, hk5⟩
        have HK5 : Hid (Kp [] w w5) := HK4.out.trans hk5
        obtain ⟨vsa, hva⟩ := HW4.out
        obtain ⟨vsb, hvb⟩ := hw5
        have HLT : Hid (∀ k, v4.ownBlock = some k → k < w4.heap.size) := fun k hk => (hva.1.lt k hk).2
        have HVA : Hid (WVs w5 w2.heap.size v4 vsa a) := hva.kp0 hk5
        have HVB := Lib.hid hvb
        obtain ⟨p4, q4, rfl⟩ := slice_own HVA.out.1
        obtain ⟨p5, q5, rfl⟩ := slice_own HVB.out.1
        have hs45 := hk5.size
        have hsw2 := HK2.out.size
        clear hva hvb hk5 HW4
        go_wp2_with (at_builtin; refine wpList_app rfl _ _ 22 rfl w2.heap.size 23 (.slice none 0 0) 1 24 Tryz.underlying22 infoPs rfl (by decide) (by decide) (.slice p4 a.length q4) a.length vsa rfl ?hown (.slice p5 b.length q5) b.length vsb rfl ?hsrc ?hone ?hb1 ?hb2 ?hk)
        case hown => exact HVA.out.1
        case hsrc => exact Reads.owned HVB.out.1
        case hone => exact HVB.out.one
        case hb1 => omega
        case hb2 => omega
        case hk =>
        intro v6 w6 hown hgr
        have HO6 : Hid (IsOut w6 v6 (a ++ b)) := join_out HVA.out HVB.out HLT.out rfl hown hgr
        have HK6 : Hid (Kp [] w w6) := Kp.grown HK5.out hgr (fun k hk => .inr (by have := own_ge HVA.out.1 k hk; omega))
        clear hown hgr
        go_wp2_with fail
        go_ret2
        rw [HJ3.out]
        exact ⟨_, rfl, HO6.out, HK6.out⟩
      · have HJ3 : Hid (J = ([], 100)) := by
          show _ = _
          have h := HX.out
          simp only [Bool.or_eq_true, decide_eq_true_eq] at h
          rw [HJ2.out, if_pos (by omega)]
        clear HJ2 HX
        go_enter Tryz.func79, Tryz.ntmps79
        go_wp2_with fail
        refine (HCA.out _ (Kp.refl _ _)).mono ?_; rintro e w1 ⟨rfl, hk1⟩
        have HK1 := Lib.hid hk1
        clear hk1
        go_wp2_with fail
        refine (HCB.out _ HK1.out).mono ?_; rintro e w2 ⟨rfl, hk2⟩
        have HK2 : Hid (Kp [] w w2) := HK1.out.trans hk2
        clear hk2 HK1
        go_wp2_with fail
        refine (HNA.out _ HK2.out).mono ?_; rintro e w3 ⟨rfl, rfl⟩
        go_wp2_with fail
        refine (HNB.out _ HK2.out).mono ?_; rintro e w3 ⟨rfl, rfl⟩
        go_wp2_with fail
        refine (HMY.out _).mono ?_; rintro e w3 ⟨rfl, rfl⟩
        go_wp2_with fail
        go_ret2
        rw [HJ3.out]
        exact ⟨_, rfl, IsOut.nil _ _, HK2.out⟩
    · have HJ3 : Hid (joinM a b = ([], checkO b)) := by show _ = _; rw [HJ.out, if_neg (by simp [h1]), if_pos h2]
      have hne : (checkO b != 0) = true := by simp [h2]
      clear HJ h1
      generalize joinM a b = J at *
      generalize checkO b = E at *
      clear h2
      go_enter Tryz.func79, Tryz.ntmps79
      go_wp2_with fail
      refine (HCA.out _ (Kp.refl _ _)).mono ?_; rintro e w1 ⟨rfl, hk1⟩
      have HK1 := Lib.hid hk1
      clear hk1
      go_wp2_with fail
      refine (HCB.out _ HK1.out).mono ?_; rintro e w2 ⟨rfl, hk2⟩
      have HK2 : Hid (Kp [] w w2) := HK1.out.trans hk2
      clear hk2 HK1
      go_wp2_with fail
      go_ret2
      rw [HJ3.out]
      exact ⟨_, rfl, IsOut.nil _ _, HK2.out⟩
  · have HJ3 : Hid (joinM a b = ([], checkO a)) := by show _ = _; rw [HJ.out, if_pos h1]
    have hne : (checkO a != 0) = true := by simp [h1]
    clear HJ
    generalize joinM a b = J at *
    generalize checkO a = E at *
    clear h1
    go_enter Tryz.func79, Tryz.ntmps79
    go_wp2_with fail
    refine (HCA.out _ (Kp.refl _ _)).mono ?_; rintro e w1 ⟨rfl, hk1⟩
    have HK1 := Lib.hid hk1
    clear hk1
    go_wp2_with fail
    go_ret2
    rw [HJ3.out]
    exact ⟨_, rfl, IsOut.nil _ _, HK1.out⟩
end Go.Proofs.YtafkhnlmipddmaaGreat
namespace Go.Proofs.YtafkhnlmipddmaaGreat
open Go.RowKit
set_option linter.unusedVariables false
set_option linter.unusedSimpArgs false
end Go.Proofs.YtafkhnlmipddmaaGreat
namespace Go.Proofs.YtafkhnlmipddmaaGreat
open Go.RowKit
set_option linter.unusedVariables false
set_option linter.unusedSimpArgs false
/-- How many points come before the first that lies on the outline. -/
def onAt : List Pn → Nat
  | [] => 0
  | p :: l => if p.k = 1 then 0 else onAt l + 1
/-- None of the first j points lies on the outline. -/
def offTo (c : List Pn) (j : Nat) : Prop := ∀ t, t < j → (c.getD t pn0).k ≠ 1
theorem onAt_le (c : List Pn) : onAt c ≤ c.length := by
  induction c with
  | nil => exact Nat.le_refl _
  | cons p l ih => unfold onAt; split <;> simp only [List.length_cons] <;> omega
theorem offTo_onAt (c : List Pn) : offTo c (onAt c) := by
  induction c with
  | nil => intro t ht; exact absurd ht (by simp [onAt])
  | cons p l ih =>
    intro t ht
    unfold onAt at ht
    split at ht
    · omega
    · rename_i h
      match t with
      | 0 => exact h
      | t + 1 => exact ih t (by omega)
theorem onAt_found (c : List Pn) (j : Nat) (hj : j < c.length) (h0 : offTo c j) (h : (c.getD j pn0).k = 1) : onAt c = j := by
  induction c generalizing j with
  | nil => simp at hj
  | cons p l ih =>
    unfold onAt
    match j with
    | 0 => rw [if_pos (by simpa using h)]
    | j + 1 =>
      rw [if_neg (by simpa using h0 0 (by omega)), ih j (by simpa using hj) (fun t ht => h0 (t + 1) (by omega)) (by simpa using h)]
theorem onAt_none (c : List Pn) (h0 : offTo c c.length) : onAt c = c.length := by
  induction c with
  | nil => rfl
  | cons p l ih =>
    unfold onAt
    rw [if_neg (by simpa using h0 0 (by simp)), ih (fun t ht => h0 (t + 1) (by simp only [List.length_cons]; omega))]; rfl
/-- The place of the first point that lies on the outline, or -1. -/
def firstOn (c : List Pn) : Int := if onAt c < c.length then (onAt c : Int) else -1
theorem offTo_succ {c : List Pn} {j : Nat} (h : offTo c j) (he : (c.getD j pn0).k ≠ 1) : offTo c (j + 1) := fun t ht => by
  by_cases e : t = j
  · rw [e]; exact he
  · exact h t (by omega)
end Go.Proofs.YtafkhnlmipddmaaGreat

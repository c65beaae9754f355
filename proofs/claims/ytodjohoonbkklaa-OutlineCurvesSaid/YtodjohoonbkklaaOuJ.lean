/- outline: outlines that are built contour by contour; the law's own copy. -/
import Derived.Test.YtodjohoonbkklaaOuI
import Derived.Deep.AppendLies
namespace Go.Proofs.Ytodjohoonbkklaa
open Go.RowKit
set_option linter.unusedVariables false
set_option linter.unusedSimpArgs false
theorem infoPs : (Try.prog.info? 96).map (fun i => (i.zero, i.size, i.bytes)) = some (some (.slice none 0 0), 1, 24) := by kernel_rfl
/-- The contours of an outline that is being built: the outer row is the call's own, no contour lies in it. -/
def WVs (w : World) (base : Nat) (v : Value) (vs : List Value) (o : List (List Pn)) : Prop :=
  w.ownsRow base 96 1 v o.length vs ∧ ∀ i, i < o.length → IsPs w (vs.getD i (.slice none 0 0)) (o.getD i []) ∧ ∀ b, blockOf (vs.getD i (.slice none 0 0)) = some b → v.ownBlock ≠ some b ∧ b < w.heap.size ∧ base ≤ b
def WOut (w : World) (base : Nat) (v : Value) (o : List (List Pn)) : Prop := ∃ vs, WVs w base v vs o
theorem WVs.kp0 {w w' : World} {base : Nat} {v : Value} {vs : List Value} {o : List (List Pn)} (h : WVs w base v vs o) (hk : Kp [] w w') : WVs w' base v vs o :=
  ⟨hk.row h.1 (by simp), fun i hi => ⟨(h.2 i hi).1.kp0 hk, fun b hb => ⟨((h.2 i hi).2 b hb).1, Nat.lt_of_lt_of_le ((h.2 i hi).2 b hb).2.1 hk.size, ((h.2 i hi).2 b hb).2.2⟩⟩⟩
theorem WOut.kp0 {w w' : World} {base : Nat} {v : Value} {o : List (List Pn)} (h : WOut w base v o) (hk : Kp [] w w') : WOut w' base v o := by
  obtain ⟨vs, h⟩ := h; exact ⟨vs, h.kp0 hk⟩
theorem WOut.nil (w : World) (base : Nat) : WOut w base (.slice none 0 0) [] := ⟨[], World.ownsRow_nil _ _ _ _, fun i hi => by simp at hi⟩
theorem WOut.out {w : World} {base : Nat} {v : Value} {o : List (List Pn)} (h : WOut w base v o) : IsOut w v o := by
  obtain ⟨vs, h1, h2⟩ := h
  exact ⟨vs, Reads.owned h1, fun i hi => (h2 i hi).1⟩
theorem WVs.push {w w4 : World} {base : Nat} {v cv : Value} {vs : List Value} {o : List (List Pn)} {c : List Pn} {g4 c4 H : Nat} (h : WVs w base v vs o) (hc : IsPs w cv c) (hcb : ∀ b, blockOf cv = some b → v.ownBlock ≠ some b ∧ b < w.heap.size ∧ base ≤ b)
    (hown : w4.ownsRow base 96 1 (.slice (some ⟨g4, 0, none⟩) (o.length + 1) c4) (o.length + 1) (vs ++ [cv])) (hgr : w.grownBy w4 v.ownBlock) (hat : v.ownBlock = some g4 ∨ g4 = H) (hH : w.heap.size ≤ H) :
    WVs w4 base (.slice (some ⟨g4, 0, none⟩) (o.length + 1) c4) (vs ++ [cv]) (o ++ [c]) := by
  have hvl : vs.length = o.length := by have := h.1.1; omega
  have hk : Kp v.ownBlock.toList w w4 := Kp.grown (Kp.refl _ _) hgr (fun k hk => .inl (by rw [hk]; simp))
  have key : ∀ (u : Value) (d : List Pn), IsPs w u d → (∀ b, blockOf u = some b → v.ownBlock ≠ some b ∧ b < w.heap.size ∧ base ≤ b) → IsPs w4 u d ∧ ∀ b, blockOf u = some b → (Value.slice (some ⟨g4, 0, none⟩) (o.length + 1) c4).ownBlock ≠ some b ∧ b < w4.heap.size ∧ base ≤ b := by
    intro u d hu hb
    refine ⟨hu.kp hk (fun s hs e => ?_), fun b hbb => ⟨fun e => ?_, Nat.lt_of_lt_of_le (hb b hbb).2.1 hk.size, (hb b hbb).2.2⟩⟩
    · exact (hb s e).1 (by simpa using hs)
    · simp [Value.ownBlock] at e
      subst e
      rcases hat with h1 | h1
      · exact (hb _ hbb).1 h1
      · have := (hb _ hbb).2.1; omega
  refine ⟨by simpa using hown, fun i hi => ?_⟩
  by_cases e : i < o.length
  · rw [List.getD_eq_getElem?_getD, List.getElem?_append_left (by omega), ← List.getD_eq_getElem?_getD, List.getD_eq_getElem?_getD (l := o ++ [c]), List.getElem?_append_left e, ← List.getD_eq_getElem?_getD]
    exact key _ _ (h.2 i e).1 (h.2 i e).2
  · obtain rfl : i = o.length := by simp at hi; omega
    rw [List.getD_eq_getElem?_getD, List.getElem?_append_right (by omega), hvl, Nat.sub_self, List.getD_eq_getElem?_getD (l := o ++ [c]), List.getElem?_append_right (Nat.le_refl _), Nat.sub_self]
    exact key cv c hc hcb
/-- No contour is long, nor are there many. -/
def fewO (o : List (List Pn)) : Prop := o.length ≤ 1048576 ∧ ∀ j, j < o.length → (o.getD j []).length ≤ 1048576
set_option maxRecDepth 100000 in
set_option maxHeartbeats 4000000 in
theorem copied_calls (v : Value) (o : List (List Pn)) (w : World) (hv : IsOut w v o) (hf : fewO o) :
    Calls Try.prog 29 #[v] w fun e w' => ∃ v', e = .returned v' ∧ WOut w' w.heap.size v' o ∧ Kp [] w w' := by
  obtain ⟨i0, hi, hz0, hz1, hz2⟩ := info_parts infoPs
  have HV := Lib.hid hv
  have HF := Lib.hid hf
  obtain ⟨pa, ca, rfl⟩ := hv.form
  obtain ⟨N, hN⟩ : ∃ N, o.length = N := ⟨_, rfl⟩
  have HN := Lib.hid hN
  have hN1 : N ≤ 1048576 := by rw [← hN]; exact hf.1
  rw [hN] at HV ⊢
  clear hN hv hf
  go_enter Try.func29, Try.ntmps29
  go_wp2_with fail
  go_loopw [3, 4] (fun u i wr => ∃ (j : Nat) (l : Value), j ≤ N ∧ i = .int .i64 j ∧ l = u ∧ Hid (WOut wr w.heap.size l (o.take j) ∧ Kp [] w wr)) (fun _ i _ => N - (intOf i).toNat)
  case atStart => exact ⟨0, _, by omega, rfl, rfl, WOut.nil _ _, Kp.refl _ _⟩
  case round =>
    obtain ⟨j, l, hj, rfl, rfl, HJ⟩ := hrel
    by_cases hlt : j < N
    · have hjo : j < o.length := by rw [HN.out]; exact hlt
      obtain ⟨g1, o1, c1, p1, cv, e1, _, _, h1, hp⟩ := (HV.out.kp0 HJ.out.2).row hjo
      rw [HN.out] at e1
      cases e1
      have hL := HF.out.2 j hjo
      have HTK : Hid (o.take (j + 1) = o.take j ++ [o.getD j []]) := by show _ = _; rw [List.take_succ_eq_append_getElem hjo, List.getD_eq_getElem?_getD, List.getElem?_eq_getElem hjo]; rfl
      have HTL : Hid ((o.take j).length = j) := by show _ = _; rw [List.length_take]; omega
      have hg1 : g1 < wr.heap.size := World.block_lt_of_cell? wr _ h1
      obtain ⟨vs, HW⟩ : ∃ vs, Hid (WVs wr w.heap.size l vs (o.take j)) := by obtain ⟨vs, h⟩ := HJ.out.1; exact ⟨vs, h⟩
      have hr := HW.out.1
      rw [HTL.out] at hr
      obtain ⟨pl, cl, hl⟩ := slice_own hr
      subst hl
      have HR := Lib.hid hr
      have HOB := Lib.hid (fun b (hb : (Value.slice pl j cl).ownBlock = some b) => (hr.lt b hb).2)
      have HP := Lib.hid hp
      generalize o.getD j [] = c at *
      obtain ⟨L, hcl⟩ : ∃ L, c.length = L := ⟨_, rfl⟩
      have HCL := Lib.hid hcl
      rw [hcl] at h1 HP hL
      clear hcl hp hr hjo
      go_wp2_with (at_builtin; refine wpList_app rfl _ _ 96 rfl wr.heap.size 61 (.agg #[.int .i64 0, .int .i64 0, .int .i64 0]) 3 24 Try.underlying96 infoPn rfl (by decide) (by decide) (.slice (some ⟨wr.heap.size, 0, none⟩) 0 0) 0 [] rfl ?hown (.slice p1 L cv) L (psCells c) rfl ?hsrc (oneCell_ps _) ?hb1 ?hb2 ?hk)
      case hown => exact own_empty _ _ _ _ _ rfl (by omega)
      case hsrc => have h := HP.out.kp0 ((Kp.refl _ _).alloc (.cells #[] 61)); unfold IsPs at h; rw [HCL.out] at h; exact h
      case hb1 => omega
      case hb2 => simp
      case hk =>
      intro v1 w1 hown hgr
      try simp only [Nat.zero_add, List.nil_append] at hown
      have hk1 : Kp [] wr w1 := Kp.grown ((Kp.refl _ _).alloc _) hgr (by intro k hk; right; simp [Value.ownBlock] at hk; omega)
      have hi1 : IsPs w1 v1 c := IsPs.owned HCL.out.symm hown
      have hb1 : ∀ b, blockOf v1 = some b → wr.heap.size ≤ b ∧ b < w1.heap.size := fun b hb => hown.lt b (blockOf_own hb)
      obtain ⟨pv, qv, hv1⟩ := slice_own hown
      subst hv1
      have HI1 := Lib.hid hi1
      have HB1 := Lib.hid hb1
      have HW1 := Lib.hid (HW.out.kp0 hk1)
      have HR1 := Lib.hid (hk1.row HR.out (by simp))
      have HK1 := Lib.hid hk1
      clear hown hgr hi1 hb1 hk1 HW HR
      have hsz1 : wr.heap.size ≤ w1.heap.size := HK1.out.size
      have hszw : w.heap.size ≤ wr.heap.size := HJ.out.2.size
      have hvl : vs.length = j := by have := HR1.out.1; omega
      have HKW : Hid (Kp [] w wr) := HJ.out.2
      clear HJ
      go_wp2_with (at_builtin; refine wpList_append_lies _ rfl _ _ 42 rfl w.heap.size 96 i0 (.slice none 0 0) 1 24 Try.underlying42 hi hz0 hz1 hz2 rfl (by decide) (.slice pl j cl) j vs rfl ?hown ⟨w1.heap.size, 0, none⟩ 1 1 [.slice pv L qv] rfl rfl ?hnews ?hone (by decide) ?hm ?hb1 ?hb2 (w1.heap.size + 1) ?hH ?hk)
      case hown => exact Kp.row (S := []) (by (repeat (first | exact Kp.refl _ _ | assumption | refine Kp.drew ?_ | refine Kp.drewN ?_ _ | refine Kp.alloc ?_ _ | (refine Kp.setCell ?_ (by first | (left; simp; done) | (right; simp; try omega)) _) | (refine Kp.trans' ?_ (by assumption) (by simp; try omega))))) HR1.out (by simp)
      case hnews => exact World.news_of_block (heap_alloc_new w1 _)
      case hone => intro u hu; simp at hu; subst hu; rfl
      case hm => unfold maxLen; omega
      case hb1 => omega
      case hb2 => simp; omega
      case hH => simp
      case hk =>
      intro g4 c4 w4 hown hgr hat hlt4
      have hka : Kp [] w1 (w1.alloc (.cells #[.slice pv L qv] 96)) := by (repeat (first | exact Kp.refl _ _ | assumption | refine Kp.drew ?_ | refine Kp.drewN ?_ _ | refine Kp.alloc ?_ _ | (refine Kp.setCell ?_ (by first | (left; simp; done) | (right; simp; try omega)) _) | (refine Kp.trans' ?_ (by assumption) (by simp; try omega))))
      have HW2 := HW1.out.kp0 hka
      have hpush := WVs.push (H := w1.heap.size + 1) HW2 ((HI1.out : IsPs w1 (.slice pv L qv) c).kp0 hka) (fun b hb => by
        have h9 := HB1.out b hb
        exact ⟨fun e => by have := HOB.out b e; omega, by simp; omega, by omega⟩) (by rw [HTL.out]; exact hown) hgr hat (by simp)
      rw [HTL.out, ← HTK.out] at hpush
      have HPU : Hid (WOut w4 w.heap.size (.slice (some ⟨g4, 0, none⟩) (j + 1) c4) (o.take (j + 1)) ∧ Kp [] w w4) := ⟨⟨_, hpush⟩, by
        have hkk : Kp [] w wr := HKW.out
        exact Kp.grown (hkk.trans (HK1.out.trans hka)) hgr (fun k hk => .inr (own_ge HR1.out k hk))⟩
      clear hown hgr hat hka HW2 hpush hlt4
      go_wp2_with fail
      go_roundw
      case rel => first | exact ⟨j + 1, _, by omega, int_eq' (by omega), rfl, HPU⟩ | ((repeat apply Exists.intro); exact ⟨⟨j + 1, _, by omega, int_eq' (by omega), rfl, HPU⟩, rfl⟩)
      case measure => simp [intOf]; omega
    · obtain rfl : j = N := by omega
      have HE := Lib.hid HJ.out
      rw [List.take_of_length_le (by rw [HN.out]; exact Nat.le_refl _)] at HE
      clear HJ
      go_wp2_with fail
      go_ret
      exact ⟨_, rfl, HE.out.1, HE.out.2⟩
end Go.Proofs.Ytodjohoonbkklaa

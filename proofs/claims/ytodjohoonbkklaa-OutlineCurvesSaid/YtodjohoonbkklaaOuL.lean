/- outline: slices.Clone at points; clone. -/
import Derived.Test.YtodjohoonbkklaaOuK
import Derived.Lib.SliceRun
namespace Go.Proofs.Ytodjohoonbkklaa
open Go.RowKit
set_option linter.unusedVariables false
set_option linter.unusedSimpArgs false
set_option maxRecDepth 100000 in
theorem clonep_calls (v : Value) (c : List Pn) (w : World) (h : IsPs w v c) (hl : c.length ≤ 1048576) :
    Calls Try.prog 139 #[v] w fun e w' => ∃ v', e = .returned v' ∧ w'.ownsRow w.heap.size 61 3 v' c.length (psCells c) ∧ Kp [] w w' := by
  have H := Lib.hid h
  obtain ⟨pa, ca, hva⟩ := h.form
  subst hva
  cases pa with
  | none =>
    have hz : c = [] ∧ ca = 0 := by
      rcases h.cases with ⟨ad, e, rfl⟩ | ⟨g, off, cc, e, _⟩
      · cases e; exact ⟨rfl, rfl⟩
      · cases e
    obtain ⟨rfl, rfl⟩ := hz
    clear h H hl
    show Calls Try.prog 139 #[.slice none 0 0] w _
    have hq := Lib.run_eql_slice_nil (P := Try.prog) w 96 61 none 0 0 0 0 Try.underlying96
    simp only [Option.isNone] at hq
    go_enter Try.func139, Try.ntmps139
    go_wp2_with fail
    go_ret
    exact ⟨_, rfl, World.ownsRow_nil _ _ _ _, Kp.refl _ _⟩
  | some ad =>
    clear h
    obtain ⟨L, hcl⟩ : ∃ L, c.length = L := ⟨_, rfl⟩
    have HCL := Lib.hid hcl
    rw [hcl] at H hl ⊢
    clear hcl
    have hq := Lib.run_eql_slice_nil (P := Try.prog) w 96 61 (some ad) L ca 0 0 Try.underlying96
    simp only [Option.isNone] at hq
    go_enter Try.func139, Try.ntmps139
    go_wp2_with (at_builtin; refine wpList_app rfl _ _ 96 rfl w.heap.size 61 (.agg #[.int .i64 0, .int .i64 0, .int .i64 0]) 3 24 Try.underlying96 infoPn rfl (by decide) (by decide) (.slice (some ⟨w.heap.size, 0, none⟩) 0 0) 0 [] rfl ?hown (.slice (some ad) L ca) L (psCells c) rfl ?hsrc (oneCell_ps _) ?hb1 ?hb2 ?hk)
    case hown => exact own_empty _ _ _ _ _ rfl (by omega)
    case hsrc => have h := H.out.kp0 ((Kp.refl _ _).alloc (.cells #[] 61)); unfold IsPs at h; rw [HCL.out] at h; exact h
    case hb1 => omega
    case hb2 => first | omega | (simp; omega) | simp
    case hk =>
    intro v1 w1 hown hgr
    try simp only [Nat.zero_add, List.nil_append] at hown
    have hk1 : Kp [] w w1 := Kp.grown ((Kp.refl _ _).alloc _) hgr (by intro k hk; right; simp [Value.ownBlock] at hk; omega)
    have HO := Lib.hid hown
    clear hown hgr
    go_wp2_with fail
    go_ret
    exact ⟨_, rfl, HO.out, hk1⟩
set_option maxRecDepth 100000 in
set_option maxHeartbeats 4000000 in
theorem oclone_calls (v : Value) (o : List (List Pn)) (w : World) (hv : IsOut w v o) (hf : fewO o) :
    Calls Try.prog 89 #[v] w fun e w' => ∃ v', e = .returned v' ∧ WOut w' w.heap.size v' o ∧ Kp [] w w' := by
  obtain ⟨i0, hi, hz0, hz1, hz2⟩ := info_parts infoPs
  have HV := Lib.hid hv
  have HF := Lib.hid hf
  obtain ⟨pa, ca, rfl⟩ := hv.form
  obtain ⟨N, hN⟩ : ∃ N, o.length = N := ⟨_, rfl⟩
  have HN := Lib.hid hN
  have hN1 : N ≤ 1048576 := by rw [← hN]; exact hf.1
  rw [hN] at HV ⊢
  clear hN hv hf
  go_enter Try.func89, Try.ntmps89
  go_wp2_with fail
  go_loopw [3, 5, 8] (fun u _ i wr => ∃ (j : Nat) (l : Value), j ≤ N ∧ i = .int .i64 j ∧ l = u ∧ Hid (WOut wr w.heap.size l (o.take j) ∧ Kp [] w wr)) (fun _ _ i _ => N - (intOf i).toNat)
  case atStart => exact ⟨0, _, by omega, rfl, rfl, WOut.nil _ _, Kp.refl _ _⟩
  case round =>
    obtain ⟨j, l, hj, rfl, rfl, HJ⟩ := hrel
    by_cases hlt : j < N
    · have hjo : j < o.length := by rw [HN.out]; exact hlt
      obtain ⟨g1, o1, c1, p1, cv, e1, _, _, h1, hp⟩ := (HV.out.kp0 HJ.out.2).row hjo
      rw [HN.out] at e1
      cases e1
      have hL := HF.out.2 j hjo
      have HTK : Hid (o.take (j + 1) = o.take j ++ [o.getD j []]) := by show _ = _; rw [List.take_succ_eq_append_getElem hjo, List.getD_eq_getElem?_getD, List.getElem?_eq_getElem hjo]; rfl
      have HTL : Hid ((o.take j).length = j) := by show _ = _; rw [List.length_take]; omega
      obtain ⟨vs, HW⟩ : ∃ vs, Hid (WVs wr w.heap.size l vs (o.take j)) := by obtain ⟨vs, h⟩ := HJ.out.1; exact ⟨vs, h⟩
      have hr := HW.out.1
      rw [HTL.out] at hr
      obtain ⟨pl, cl, hl⟩ := slice_own hr
      subst hl
      have HR := Lib.hid hr
      have HOB := Lib.hid (fun b (hb : (Value.slice pl j cl).ownBlock = some b) => (hr.lt b hb).2)
      have HCP := Lib.hid (clonep_calls _ _ wr hp hL)
      have HKW : Hid (Kp [] w wr) := HJ.out.2
      generalize o.getD j [] = c at *
      clear hp hr hjo HJ
      obtain ⟨L, hcl⟩ : ∃ L, c.length = L := ⟨_, rfl⟩
      have HCL := Lib.hid hcl
      rw [hcl] at h1 HCP hL
      clear hcl
      go_wp2_with fail
      refine HCP.out.mono ?_; rintro e w1 ⟨v1, rfl, hown, hk1⟩
      have hi1 : IsPs w1 v1 c := IsPs.owned HCL.out.symm hown
      have hb1 : ∀ b, blockOf v1 = some b → wr.heap.size ≤ b ∧ b < w1.heap.size := fun b hb => hown.lt b (blockOf_own hb)
      obtain ⟨pv, qv, hv1⟩ := slice_own hown
      subst hv1
      have HI1 := Lib.hid hi1
      have HB1 := Lib.hid hb1
      have HW1 := Lib.hid (HW.out.kp0 hk1)
      have HR1 := Lib.hid (hk1.row HR.out (by simp))
      have HK1 := Lib.hid hk1
      have hsz1 : wr.heap.size ≤ w1.heap.size := HK1.out.size
      have hszw : w.heap.size ≤ wr.heap.size := HKW.out.size
      have hvl : vs.length = j := by have := HR1.out.1; omega
      clear hown hi1 hb1 hk1 HW HR
      go_wp2_with (at_builtin; refine wpList_append_lies _ rfl _ _ 42 rfl w.heap.size 96 i0 (.slice none 0 0) 1 24 Try.underlying42 hi hz0 hz1 hz2 rfl (by decide) (.slice pl j cl) j vs rfl ?hown ⟨w1.heap.size, 0, none⟩ 1 1 [.slice pv L qv] rfl rfl ?hnews ?hone (by decide) ?hm ?hb1 ?hb2 (w1.heap.size + 1) ?hH ?hk)
      case hown => exact Kp.row (S := []) (by (repeat (first | exact Kp.refl _ _ | assumption | refine Kp.drew ?_ | refine Kp.drewN ?_ _ | refine Kp.alloc ?_ _ | (refine Kp.setCell ?_ (by first | (left; simp; done) | (right; simp; try omega)) _) | (refine Kp.trans' ?_ (by assumption) (by simp; try omega))))) HR1.out (by simp)
      case hnews => exact World.news_of_block (heap_alloc_new w1 _)
      case hone => intro u hu; simp at hu; subst hu; rfl
      case hm => unfold maxLen; omega
      case hb1 => omega
      case hb2 => simp; omega
      case hH => simp
      case hk =>
      intro g4 c4 w4 hown hgr hat hlt4
      have hka : Kp [] w1 (w1.alloc (.cells #[.slice pv L qv] 96)) := by (repeat (first | exact Kp.refl _ _ | assumption | refine Kp.drew ?_ | refine Kp.drewN ?_ _ | refine Kp.alloc ?_ _ | (refine Kp.setCell ?_ (by first | (left; simp; done) | (right; simp; try omega)) _) | (refine Kp.trans' ?_ (by assumption) (by simp; try omega))))
      have HW2 := HW1.out.kp0 hka
      have hpush := WVs.push (H := w1.heap.size + 1) HW2 ((HI1.out : IsPs w1 (.slice pv L qv) c).kp0 hka) (fun b hb => by
        have h9 := HB1.out b hb
        exact ⟨fun e => by have := HOB.out b e; omega, by simp; omega, by omega⟩) (by rw [HTL.out]; exact hown) hgr hat (by simp)
      rw [HTL.out, ← HTK.out] at hpush
      have HPU : Hid (WOut w4 w.heap.size (.slice (some ⟨g4, 0, none⟩) (j + 1) c4) (o.take (j + 1)) ∧ Kp [] w w4) := ⟨⟨_, hpush⟩, by
        have hkk : Kp [] w wr := HKW.out
        exact Kp.grown (hkk.trans (HK1.out.trans hka)) hgr (fun k hk => .inr (own_ge HR1.out k hk))⟩
      clear hown hgr hat hka HW2 hpush hlt4
      go_wp2_with fail
      go_roundw
      case rel => first | exact ⟨j + 1, _, by omega, int_eq' (by omega), rfl, HPU⟩ | ((repeat apply Exists.intro); exact ⟨⟨j + 1, _, by omega, int_eq' (by omega), rfl, HPU⟩, rfl⟩)
      case measure => simp [intOf]; omega
    · obtain rfl : j = N := by omega
      have HE := Lib.hid HJ.out
      rw [List.take_of_length_le (by rw [HN.out]; exact Nat.le_refl _)] at HE
      clear HJ
      go_wp2_with fail
      go_ret
      exact ⟨_, rfl, HE.out.1, HE.out.2⟩
end Go.Proofs.Ytodjohoonbkklaa

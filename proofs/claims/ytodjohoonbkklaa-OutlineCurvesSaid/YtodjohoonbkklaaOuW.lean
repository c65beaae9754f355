/- outline: the reference's Explicit. (Written by wip/outline/genouw.py.) -/
import Derived.Test.YtodjohoonbkklaaOuV
namespace Go.Proofs.Ytodjohoonbkklaa
open Go.RowKit
set_option linter.unusedVariables false
set_option linter.unusedSimpArgs false
set_option maxRecDepth 100000 in
set_option maxHeartbeats 4000000 in
theorem roexplicit_calls (v : Value) (o : List (List Pn)) (w : World) (hv : IsOut w v o) (hE : checkO o = 0) :
    Calls Try.prog 35 #[v] w fun e w' => ∃ v', e = .returned v' ∧ WOut w' w.heap.size v' (expO o) ∧ Kp [] w w' := by
  obtain ⟨hz1, hz2, hz3⟩ := checkO_zero hE
  have HF : Hid (∀ j, j < o.length → (o.getD j []).length ≤ 4096) := fun j hj => by have := len_le_cnt o hj; omega
  obtain ⟨i0, hi, hzz0, hzz1, hzz2⟩ := info_parts infoPs
  have HV := Lib.hid hv
  have HM := Lib.hid hz3
  obtain ⟨pa, ca, rfl⟩ := hv.form
  obtain ⟨N, hN⟩ : ∃ N, o.length = N := ⟨_, rfl⟩
  have HN := Lib.hid hN
  have hN1 : N ≤ 256 := by rw [← hN]; exact hz1
  rw [hN] at HV ⊢
  clear hN hv hz1 hz2 hz3 hE
  obtain ⟨w0, hw0⟩ : ∃ w0, w = w0 := ⟨_, rfl⟩
  have HV0 := HV
  rw [hw0] at HV0 ⊢
  clear HV hw0
  go_enter Try.func35, Try.ntmps35
  go_wp2_with fail
  go_loopw [3, 4] (fun u i wr => ∃ (j : Nat) (l : Value), j ≤ N ∧ i = .int .i64 j ∧ l = u ∧ Hid (WOut wr w0.heap.size l ((expO o).take j) ∧ Kp [] w0 wr)) (fun _ i _ => N - (intOf i).toNat)
  case atStart => exact ⟨0, _, by omega, rfl, rfl, WOut.nil _ _, Kp.refl _ _⟩
  case round =>
    obtain ⟨j, l, hj, rfl, rfl, HJ⟩ := hrel
    by_cases hlt : j < N
    · have hjo : j < o.length := by rw [HN.out]; exact hlt
      obtain ⟨g1, o1, c1, p1, cv, e1, _, _, h1, hp⟩ := (HV0.out.kp0 HJ.out.2).row hjo
      rw [HN.out] at e1
      cases e1
      have hL := HF.out j hjo
      obtain ⟨hM1, hM2, _⟩ := mayCo_facts (HM.out j hjo)
      have HTK : Hid ((expO o).take (j + 1) = (expO o).take j ++ [expC (o.getD j [])]) := map_take expC hjo
      have HTL : Hid (((expO o).take j).length = j) := by show _ = _; unfold expO; rw [List.length_take, List.length_map]; omega
      obtain ⟨vs, HW⟩ : ∃ vs, Hid (WVs wr w0.heap.size l vs ((expO o).take j)) := by obtain ⟨vs, h⟩ := HJ.out.1; exact ⟨vs, h⟩
      have hr := HW.out.1
      rw [HTL.out] at hr
      obtain ⟨pl, cl, hl⟩ := slice_own hr
      subst hl
      have HR := Lib.hid hr
      have HOB := Lib.hid (fun b (hb : (Value.slice pl j cl).ownBlock = some b) => (hr.lt b hb).2)
      have HCP := Lib.hid (rexplicit_calls _ _ wr hp (HM.out j hjo) (by omega))
      have HKW : Hid (Kp [] w0 wr) := HJ.out.2
      generalize o.getD j [] = c at *
      generalize expO o = X at *
      generalize expC c = d at *
      clear hp hr hjo HJ hM2
      obtain ⟨L, hcl⟩ : ∃ L, c.length = L := ⟨_, rfl⟩
      rw [hcl] at h1 HCP hL
      clear hcl hM1 hL
      go_wp2_with fail
      refine HCP.out.mono ?_; rintro e w1 ⟨v1, rfl, hi1, hb1, hk1⟩
      obtain ⟨pv, qv, hv1⟩ := hi1.form
      subst hv1
      have HI1 := Lib.hid hi1
      have HB1 := Lib.hid hb1
      have HW1 := Lib.hid (HW.out.kp0 hk1)
      have HR1 := Lib.hid (hk1.row HR.out (by simp))
      have HK1 := Lib.hid hk1
      have hsz1 : wr.heap.size ≤ w1.heap.size := HK1.out.size
      have hszw : w0.heap.size ≤ wr.heap.size := HKW.out.size
      have hvl : vs.length = j := by have := HR1.out.1; omega
      clear hi1 hb1 hk1 HW HR HCP
      generalize d.length = D at *
      go_wp2_with (at_builtin; refine wpList_append_lies _ rfl _ _ 42 rfl w0.heap.size 96 i0 (.slice none 0 0) 1 24 Try.underlying42 hi hzz0 hzz1 hzz2 rfl (by decide) (.slice pl j cl) j vs rfl ?hown ⟨w1.heap.size, 0, none⟩ 1 1 [.slice pv D qv] rfl rfl ?hnews ?hone (by decide) ?hm ?hb1 ?hb2 (w1.heap.size + 1) ?hH ?hk)
      case hown => exact Kp.row (S := []) (by (repeat (first | exact Kp.refl _ _ | assumption | refine Kp.drew ?_ | refine Kp.drewN ?_ _ | refine Kp.alloc ?_ _ | (refine Kp.setCell ?_ (by first | (left; simp; done) | (right; simp; try omega)) _) | (refine Kp.trans' ?_ (by assumption) (by simp; try omega))))) HR1.out (by simp)
      case hnews => exact World.news_of_block (heap_alloc_new w1 _)
      case hone => intro u hu; simp at hu; subst hu; rfl
      case hm => unfold maxLen; omega
      case hb1 => omega
      case hb2 => simp; omega
      case hH => simp
      case hk =>
      intro g4 c4 w4 hown hgr hat hlt4
      have hka : Kp [] w1 (w1.alloc (.cells #[.slice pv D qv] 96)) := by (repeat (first | exact Kp.refl _ _ | assumption | refine Kp.drew ?_ | refine Kp.drewN ?_ _ | refine Kp.alloc ?_ _ | (refine Kp.setCell ?_ (by first | (left; simp; done) | (right; simp; try omega)) _) | (refine Kp.trans' ?_ (by assumption) (by simp; try omega))))
      have HW2 := HW1.out.kp0 hka
      have hpush := WVs.push (H := w1.heap.size + 1) HW2 ((HI1.out : IsPs w1 (.slice pv D qv) d).kp0 hka) (fun b hb => by
        have h9 := HB1.out b hb
        exact ⟨fun e => by have := HOB.out b e; omega, by simp; omega, by omega⟩) (by rw [HTL.out]; exact hown) hgr hat (by simp)
      rw [HTL.out, ← HTK.out] at hpush
      have HPU : Hid (WOut w4 w0.heap.size (.slice (some ⟨g4, 0, none⟩) (j + 1) c4) (X.take (j + 1)) ∧ Kp [] w0 w4) := ⟨⟨_, hpush⟩, by
        have hkk : Kp [] w0 wr := HKW.out
        exact Kp.grown (hkk.trans (HK1.out.trans hka)) hgr (fun k hk => .inr (own_ge HR1.out k hk))⟩
      clear hown hgr hat hka HW2 hpush hlt4
      go_wp2_with fail
      go_roundw
      case rel => first | exact ⟨j + 1, _, by omega, int_eq' (by omega), rfl, HPU⟩ | ((repeat apply Exists.intro); exact ⟨⟨j + 1, _, by omega, int_eq' (by omega), rfl, HPU⟩, rfl⟩)
      case measure => simp [intOf]; omega
    · obtain rfl : j = N := by omega
      have HE := Lib.hid HJ.out
      rw [List.take_of_length_le (by unfold expO; rw [List.length_map, HN.out]; exact Nat.le_refl _)] at HE
      have HW : Hid (WOut wr w0.heap.size l (expO o)) := HE.out.1
      have HK : Hid (Kp [] w0 wr) := HE.out.2
      clear HJ HE
      go_wp2_with fail
      go_ret
      exact ⟨_, rfl, HW.out, HK.out⟩
end Go.Proofs.Ytodjohoonbkklaa

/- outline: Explicit. (Written by wip/outline/genout.py.) -/
import Derived.Test.YtodjohoonbkklaaOuS
namespace Go.Proofs.Ytodjohoonbkklaa
open Go.RowKit
set_option linter.unusedVariables false
set_option linter.unusedSimpArgs false
theorem checkO_zero {o : List (List Pn)} (h : checkO o = 0) : o.length ≤ 256 ∧ cnt o ≤ 4096 ∧ ∀ j, j < o.length → mayCo (o.getD j []) = true := by
  unfold checkO at h
  split at h
  · omega
  · rename_i h1
    split at h
    · rename_i h2
      refine ⟨by omega, by omega, fun j hj => ?_⟩
      rw [List.all_eq_true] at h2
      rw [List.getD_eq_getElem?_getD, List.getElem?_eq_getElem hj]
      exact h2 _ (List.getElem_mem hj)
    · omega
theorem mayTo_at {c : List Pn} {n i : Nat} (h : mayTo c n = true) (hi : i < n) : mayPn c i = true := by
  unfold mayTo at h; rw [List.all_eq_true] at h; exact h i (by simpa using hi)
theorem mayCo_facts {c : List Pn} (h : mayCo c = true) : 0 < c.length ∧ numsP c ∧ ∀ i, i < c.length → mayPn c i = true := by
  unfold mayCo at h
  rw [Bool.and_eq_true, decide_eq_true_eq] at h
  refine ⟨h.1, fun i hi => ?_, fun i hi => mayTo_at h.2 hi⟩
  have := mayTo_at h.2 hi
  unfold mayPn at this
  rw [Bool.and_eq_true, Bool.and_eq_true] at this
  exact ⟨this.1, this.2.1⟩
theorem expC_len (c : List Pn) (h : 0 < c.length) : 0 < (expC c).length ∧ (expC c).length ≤ 2 * c.length + 1 := by
  have h1 := turnP_len c h
  have h2 := expG_len (turnP c) ((turnP c).length - 1)
  unfold expC; omega
theorem WOut.base {w : World} {base b2 : Nat} {v : Value} {o : List (List Pn)} (h : WOut w base v o) (hb : b2 ≤ base) : WOut w b2 v o := by
  obtain ⟨vs, h1, h2⟩ := h
  exact ⟨vs, ⟨h1.1, h1.2.imp_right fun ⟨g, cap, cur, a, b, d⟩ => ⟨g, cap, cur, a, Nat.le_trans hb b, d⟩⟩, fun i hi => ⟨(h2 i hi).1, fun b hbb => ⟨((h2 i hi).2 b hbb).1, ((h2 i hi).2 b hbb).2.1, Nat.le_trans hb ((h2 i hi).2 b hbb).2.2⟩⟩⟩
/-- An outline, made explicit. -/
def expO (o : List (List Pn)) : List (List Pn) := o.map expC
theorem map_take {o : List (List Pn)} {j : Nat} (f : List Pn → List Pn) (hj : j < o.length) : (o.map f).take (j + 1) = (o.map f).take j ++ [f (o.getD j [])] := by
  rw [List.take_succ_eq_append_getElem (by simpa using hj), List.getElem_map, List.getD_eq_getElem?_getD, List.getElem?_eq_getElem hj]; rfl
set_option maxRecDepth 100000 in
set_option maxHeartbeats 4000000 in
theorem oexplicit_no (v : Value) (o : List (List Pn)) (w : World) (hv : IsOut w v o) (hs : smallO o) (hc : cnt o ≤ 4611686018427387904) (E : Int) (hE : checkO o = E) (hE0 : E ≠ 0) :
    Calls Try.prog 34 #[v] w fun e w' => e = .returned (.tuple #[.slice none 0 0, .int .i64 E]) ∧ Kp [] w w' := by
  have HC := Lib.hid (check_calls v o w hv hs hc)
  rw [hE] at HC
  obtain ⟨pa, ca, rfl⟩ := hv.form
  generalize o.length = N at *
  have hE1 : (E == 0) = false := by simpa using hE0
  clear hE hv
  go_enter Try.func34, Try.ntmps34
  go_wp2_with fail
  refine HC.out.mono ?_; rintro e w1 ⟨rfl, hk1⟩
  go_wp2_with fail
  go_ret2
  exact ⟨rfl, hk1⟩
set_option maxRecDepth 100000 in
set_option maxHeartbeats 4000000 in
theorem oexplicit_ok (v : Value) (o : List (List Pn)) (w : World) (hv : IsOut w v o) (hE : checkO o = 0) :
    Calls Try.prog 34 #[v] w fun e w' => ∃ v', e = .returned (.tuple #[v', .int .i64 0]) ∧ WOut w' w.heap.size v' (expO o) ∧ Kp [] w w' := by
  obtain ⟨hz1, hz2, hz3⟩ := checkO_zero hE
  have HF : Hid (∀ j, j < o.length → (o.getD j []).length ≤ 4096) := fun j hj => by have := len_le_cnt o hj; omega
  have HC := Lib.hid (check_calls v o w hv (fun j hj => by have := HF.out j hj; omega) (by omega))
  rw [hE] at HC
  obtain ⟨i0, hi, hzz0, hzz1, hzz2⟩ := info_parts infoPs
  have HV := Lib.hid hv
  have HM := Lib.hid hz3
  obtain ⟨pa, ca, rfl⟩ := hv.form
  obtain ⟨N, hN⟩ : ∃ N, o.length = N := ⟨_, rfl⟩
  have HN := Lib.hid hN
  have hN1 : N ≤ 256 := by rw [← hN]; exact hz1
  rw [hN] at HV HC ⊢
  clear hN hv hz1 hz2 hz3 hE
  go_enter Try.func34, Try.ntmps34
  go_wp2_with fail
  refine HC.out.mono ?_; rintro e w0 ⟨rfl, hk0⟩
  have HK0 := Lib.hid hk0
  have HV0 := Lib.hid (HV.out.kp0 hk0)
  clear hk0 HC HV
  go_wp2_with fail
  go_loopw [5, 7, 15] (fun u _ i wr => ∃ (j : Nat) (l : Value), j ≤ N ∧ i = .int .i64 j ∧ l = u ∧ Hid (WOut wr w0.heap.size l ((expO o).take j) ∧ Kp [] w0 wr)) (fun _ _ i _ => N - (intOf i).toNat)
  case atStart => exact ⟨0, _, by omega, rfl, rfl, WOut.nil _ _, Kp.refl _ _⟩
  case round =>
    obtain ⟨j, l, hj, rfl, rfl, HJ⟩ := hrel
    by_cases hlt : j < N
    · have hjo : j < o.length := by rw [HN.out]; exact hlt
      obtain ⟨g1, o1, c1, p1, cv, e1, _, _, h1, hp⟩ := (HV0.out.kp0 HJ.out.2).row hjo
      rw [HN.out] at e1
      cases e1
      have hL := HF.out j hjo
      obtain ⟨hM1, hM2, _⟩ := mayCo_facts (HM.out j hjo)
      have HTK : Hid ((expO o).take (j + 1) = (expO o).take j ++ [expC (o.getD j [])]) := map_take expC hjo
      have HTL : Hid (((expO o).take j).length = j) := by show _ = _; unfold expO; rw [List.length_take, List.length_map]; omega
      obtain ⟨vs, HW⟩ : ∃ vs, Hid (WVs wr w0.heap.size l vs ((expO o).take j)) := by obtain ⟨vs, h⟩ := HJ.out.1; exact ⟨vs, h⟩
      have hr := HW.out.1
      rw [HTL.out] at hr
      obtain ⟨pl, cl, hl⟩ := slice_own hr
      subst hl
      have HR := Lib.hid hr
      have HOB := Lib.hid (fun b (hb : (Value.slice pl j cl).ownBlock = some b) => (hr.lt b hb).2)
      have HCP := Lib.hid (explicit_calls _ _ wr hp hM1 (by omega) hM2)
      have HKW : Hid (Kp [] w0 wr) := HJ.out.2
      generalize o.getD j [] = c at *
      generalize expO o = X at *
      generalize expC c = d at *
      clear hp hr hjo HJ hM2
      obtain ⟨L, hcl⟩ : ∃ L, c.length = L := ⟨_, rfl⟩
      rw [hcl] at h1 HCP hL
      clear hcl hM1 hL
      go_wp2_with fail
      refine HCP.out.mono ?_; rintro e w1 ⟨v1, rfl, hi1, hb1, hk1⟩
      obtain ⟨pv, qv, hv1⟩ := hi1.form
      subst hv1
      have HI1 := Lib.hid hi1
      have HB1 := Lib.hid hb1
      have HW1 := Lib.hid (HW.out.kp0 hk1)
      have HR1 := Lib.hid (hk1.row HR.out (by simp))
      have HK1 := Lib.hid hk1
      have hsz1 : wr.heap.size ≤ w1.heap.size := HK1.out.size
      have hszw : w0.heap.size ≤ wr.heap.size := HKW.out.size
      have hvl : vs.length = j := by have := HR1.out.1; omega
      clear hi1 hb1 hk1 HW HR HCP
      generalize d.length = D at *
      go_wp2_with (at_builtin; refine wpList_append_lies _ rfl _ _ 42 rfl w0.heap.size 96 i0 (.slice none 0 0) 1 24 Try.underlying42 hi hzz0 hzz1 hzz2 rfl (by decide) (.slice pl j cl) j vs rfl ?hown ⟨w1.heap.size, 0, none⟩ 1 1 [.slice pv D qv] rfl rfl ?hnews ?hone (by decide) ?hm ?hb1 ?hb2 (w1.heap.size + 1) ?hH ?hk)
      case hown => exact Kp.row (S := []) (by (repeat (first | exact Kp.refl _ _ | assumption | refine Kp.drew ?_ | refine Kp.drewN ?_ _ | refine Kp.alloc ?_ _ | (refine Kp.setCell ?_ (by first | (left; simp; done) | (right; simp; try omega)) _) | (refine Kp.trans' ?_ (by assumption) (by simp; try omega))))) HR1.out (by simp)
      case hnews => exact World.news_of_block (heap_alloc_new w1 _)
      case hone => intro u hu; simp at hu; subst hu; rfl
      case hm => unfold maxLen; omega
      case hb1 => omega
      case hb2 => simp; omega
      case hH => simp
      case hk =>
      intro g4 c4 w4 hown hgr hat hlt4
      have hka : Kp [] w1 (w1.alloc (.cells #[.slice pv D qv] 96)) := by (repeat (first | exact Kp.refl _ _ | assumption | refine Kp.drew ?_ | refine Kp.drewN ?_ _ | refine Kp.alloc ?_ _ | (refine Kp.setCell ?_ (by first | (left; simp; done) | (right; simp; try omega)) _) | (refine Kp.trans' ?_ (by assumption) (by simp; try omega))))
      have HW2 := HW1.out.kp0 hka
      have hpush := WVs.push (H := w1.heap.size + 1) HW2 ((HI1.out : IsPs w1 (.slice pv D qv) d).kp0 hka) (fun b hb => by
        have h9 := HB1.out b hb
        exact ⟨fun e => by have := HOB.out b e; omega, by simp; omega, by omega⟩) (by rw [HTL.out]; exact hown) hgr hat (by simp)
      rw [HTL.out, ← HTK.out] at hpush
      have HPU : Hid (WOut w4 w0.heap.size (.slice (some ⟨g4, 0, none⟩) (j + 1) c4) (X.take (j + 1)) ∧ Kp [] w0 w4) := ⟨⟨_, hpush⟩, by
        have hkk : Kp [] w0 wr := HKW.out
        exact Kp.grown (hkk.trans (HK1.out.trans hka)) hgr (fun k hk => .inr (own_ge HR1.out k hk))⟩
      clear hown hgr hat hka HW2 hpush hlt4
      go_wp2_with fail
      go_roundw
      case rel => first | exact ⟨j + 1, _, by omega, int_eq' (by omega), rfl, HPU⟩ | ((repeat apply Exists.intro); exact ⟨⟨j + 1, _, by omega, int_eq' (by omega), rfl, HPU⟩, rfl⟩)
      case measure => simp [intOf]; omega
    · obtain rfl : j = N := by omega
      have HE := Lib.hid HJ.out
      rw [List.take_of_length_le (by unfold expO; rw [List.length_map, HN.out]; exact Nat.le_refl _)] at HE
      have HW : Hid (WOut wr w.heap.size l (expO o)) := HE.out.1.base (HK0.out.size)
      have HK : Hid (Kp [] w wr) := HK0.out.trans HE.out.2
      clear HJ HE
      go_wp2_with fail
      go_ret2
      exact ⟨_, rfl, HW.out, HK.out⟩
end Go.Proofs.Ytodjohoonbkklaa

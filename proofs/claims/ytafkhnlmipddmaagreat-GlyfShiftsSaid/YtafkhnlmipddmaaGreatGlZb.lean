/- glyf: the reference's Apply by One, of any outline. -/
import Derived.Test.YtafkhnlmipddmaaGreatGlA
import Derived.Test.YtafkhnlmipddmaaGreatGlZa
import Derived.Test.YtafkhnlmipddmaaGreatQuiet
import Derived.BigQuiet
import Derived.Deep.DeepCutAuto
namespace Go.Proofs.YtafkhnlmipddmaaGreat
open Go.RowKit
set_option linter.unusedVariables false
set_option linter.unusedSimpArgs false
set_option maxRecDepth 100000 in
set_option maxHeartbeats 4000000 in
theorem rapplyO_any (v : Value) (o : List (List Pn)) (dx dy : Int) (w : World) (hv : IsOut w v o) (hE : checkO o = 0) (ndx : numF dx = true) (ndy : numF dy = true) :
    Calls Tryz.prog 14 #[v, .agg #[.int .i64 16384, .int .i64 0, .int .i64 0, .int .i64 16384], .int .i64 dx, .int .i64 dy] w fun e w' => ∃ v', e = .returned (.tuple #[v', .int .i64 (applyM o dx dy).2]) ∧ IsOut w' v' (applyM o dx dy).1 ∧ Kp [] w w' := by
  obtain ⟨hz1, hz2, hz3⟩ := checkO_zero hE
  have HF : Hid (∀ j, j < o.length → (o.getD j []).length ≤ 4096) := fun j hj => by have := len_le_cnt o hj; omega
  have HX := Lib.hid (fun W => rfmay_calls dx W)
  have HY := Lib.hid (fun W => rfmay_calls dy W)
  rw [ndx] at HX
  rw [ndy] at HY
  have HNX := Lib.hid ndx
  have HNY := Lib.hid ndy
  have HNE : Hid (∀ j, j < o.length → ∀ i, i < (o.getD j []).length → numF ((o.getD j []).getD i pn0).x = true ∧ numF ((o.getD j []).getD i pn0).y = true) := fun j hj i hi => (mayCo_facts (hz3 j hj)).2.1 i hi
  have HR1 : Hid ((o.all fun c => c.all (mvOk dx dy)) = true → applyM o dx dy = (o.map (List.map (mvP dx dy)), 0)) := fun h => by unfold applyM; rw [if_pos h]
  have HR0 : Hid ((o.all fun c => c.all (mvOk dx dy)) = false → applyM o dx dy = ([], 10)) := fun h => by unfold applyM; rw [if_neg (by simp [h])]
  obtain ⟨RES, hRES⟩ : ∃ R, applyM o dx dy = R := ⟨_, rfl⟩
  rw [hRES] at HR1 HR0 ⊢
  obtain ⟨i0, hi, hzz0, hzz1, hzz2⟩ := info_parts infoPs
  have HV := Lib.hid hv
  obtain ⟨pa, ca, rfl⟩ := hv.form
  obtain ⟨N, hN⟩ : ∃ N, o.length = N := ⟨_, rfl⟩
  have HN := Lib.hid hN
  have hN1 : N ≤ 256 := by rw [← hN]; exact hz1
  obtain ⟨X, hX⟩ : ∃ X, o.map (List.map (mvP dx dy)) = X := ⟨_, rfl⟩
  have HXX := Lib.hid hX
  rw [hX] at HR1
  rw [hN] at HV ⊢
  clear hN hv hz1 hz2 hz3 hE hX ndx ndy hRES
  go_enter Tryz.func14, Tryz.ntmps14
  go_wp2_with fail
  refine (HX.out _).mono ?_; rintro e w2 ⟨rfl, hw2⟩
  have hk2 : Kp [] w w2 := by rw [← hw2]; (repeat (first | exact Kp.refl _ _ | assumption | refine Kp.drew ?_ | refine Kp.drewN ?_ _ | refine Kp.alloc ?_ _ | (refine Kp.setCell ?_ (by first | (left; simp; done) | (right; simp; try omega)) _) | (refine Kp.trans' ?_ (by assumption) (by simp; try omega))))
  have HK2 := Lib.hid hk2
  have hbx : w2.heap[w.heap.size]? = some (.cells #[.int .i64 16384, .int .i64 0, .int .i64 0, .int .i64 16384] 31 (0, 0)) := by rw [← hw2]; exact heap_alloc_new w _
  have HB : Hid (∀ W, Kp [] w2 W → W.cell? ⟨w.heap.size, 0, none⟩ = some (.int .i64 16384) ∧ W.cell? ⟨w.heap.size, 1, none⟩ = some (.int .i64 0) ∧ W.cell? ⟨w.heap.size, 2, none⟩ = some (.int .i64 0) ∧ W.cell? ⟨w.heap.size, 3, none⟩ = some (.int .i64 16384)) := fun W hW => by
    have h := hW.heap hbx (by simp)
    refine ⟨?_, ?_, ?_, ?_⟩ <;> (rw [cell_of_row W _ _ _ _ (0, 0) h]; rfl)
  have hs02 : w.heap.size < w2.heap.size := lt_of_block hbx
  clear hk2 hbx hw2
  go_wp2_with fail
  refine (HY.out _).mono ?_; rintro e w3 ⟨rfl, rfl⟩
  have HV0 := Lib.hid (HV.out.kp0 HK2.out)
  clear HV HX HY
  go_wp2_with fail
  go_loopw [10, 11, 12, 13, 14, 15, 16, 40] (fun u i _ _ _ _ _ _ wr => ∃ (j : Nat) (l : Value), j ≤ N ∧ i = .int .i64 j ∧ l = u ∧ Hid (((o.take j).all fun c => c.all (mvOk dx dy)) = true ∧ WOut wr w2.heap.size l (X.take j) ∧ Kp [] w2 wr)) (fun _ i _ _ _ _ _ _ _ => N - (intOf i).toNat)
  case atStart => exact ⟨0, _, by omega, rfl, rfl, rfl, WOut.nil _ _, Kp.refl _ _⟩
  case round =>
    obtain ⟨j, l, hj, rfl, rfl, HJ⟩ := hrel
    by_cases hlt : j < N
    · have hjo : j < o.length := by rw [HN.out]; exact hlt
      obtain ⟨g1, o1, c1, p1, cv, e1, _, _, h1, hp⟩ := HV0.out.row hjo
      rw [HN.out] at e1
      cases e1
      have HP : Hid (∀ W, Kp [] w2 W → IsPs W (.slice p1 (o.getD j []).length cv) (o.getD j [])) := fun W hW => hp.kp0 hW
      replace h1 := HJ.out.2.2.cell h1 (by simp)
      have hL := HF.out j hjo
      have HNJ := Lib.hid (HNE.out j hjo)
      have HTK : Hid (X.take (j + 1) = X.take j ++ [(o.getD j []).map (mvP dx dy)]) := by show _ = _; rw [← HXX.out]; exact map_take (List.map (mvP dx dy)) hjo
      have HTL : Hid ((X.take j).length = j) := by show _ = _; rw [← HXX.out, List.length_take, List.length_map]; omega
      obtain ⟨vs, HW⟩ : ∃ vs, Hid (WVs wr w2.heap.size l vs (X.take j)) := by obtain ⟨vs, h⟩ := HJ.out.2.1; exact ⟨vs, h⟩
      have hr := HW.out.1
      rw [HTL.out] at hr
      obtain ⟨pl, cl, hl⟩ := slice_own hr
      subst hl
      have HKW : Hid (Kp [] w2 wr) := HJ.out.2.2
      have HAJ : Hid ((o.getD j []).all (mvOk dx dy) = true → ((o.take (j + 1)).all fun c => c.all (mvOk dx dy)) = true) := fun h => all_take _ o [] hjo HJ.out.1 h
      have HBJ : Hid ((o.getD j []).all (mvOk dx dy) = false → RES = ([], 10)) := fun h => HR0.out (all_not _ o [] hjo h)
      generalize o.getD j [] = c at *
      clear hp hr hjo HJ
      obtain ⟨L, hcl⟩ : ∃ L, c.length = L := ⟨_, rfl⟩
      have HCL := Lib.hid hcl
      rw [hcl] at h1 HP hL
      clear hcl
      rename World => w5
      have hszw : w2.heap.size ≤ w5.heap.size := HKW.out.size
      go_wp2_with fail
      go_loopw [12, 13, 14, 15, 16, 40] (fun u i _ _ _ _ wr2 => ∃ (m : Nat) (l2 : Value), m ≤ L ∧ i = .int .i64 m ∧ l2 = u ∧ Hid ((c.take m).all (mvOk dx dy) = true ∧ wr2.ownsRow w5.heap.size 46 3 l2 m (psCells ((c.take m).map (mvP dx dy))) ∧ Kp [] w5 wr2)) (fun _ i _ _ _ _ _ => L - (intOf i).toNat)
      case atStart => exact ⟨0, _, by omega, rfl, rfl, rfl, World.ownsRow_nil _ _ _ _, Kp.refl _ _⟩
      case round =>
        obtain ⟨m, l2, hm, rfl, rfl, HI⟩ := hrel
        have hk2q : Kp [] w2 wr := HKW.out.trans HI.out.2.2
        have h1q := HI.out.2.2.cell h1 (by simp)
        by_cases hml : m < L
        · obtain ⟨g2, o2, q2, e2, _, _, x1, y1, k1⟩ := (HP.out _ hk2q).row (i := m) (by rw [HCL.out]; exact hml)
          rw [HCL.out] at e2
          cases e2
          obtain ⟨n1, n2⟩ := HNJ.out m (by rw [HCL.out]; exact hml)
          obtain ⟨b0, b1, b2, b3⟩ := HB.out _ hk2q
          have hbs : w.heap.size < wr.heap.size := World.block_lt_of_cell? wr _ b0
          have hmc : m < c.length := by rw [HCL.out]; exact hml
          have HMT := Lib.hid (map_take_mvP (mvP dx dy) c m hmc)
          have HAM : Hid (mvOk dx dy (c.getD m pn0) = true → (c.take (m + 1)).all (mvOk dx dy) = true) := fun h => all_take _ c pn0 hmc HI.out.1 h
          have HBM : Hid (mvOk dx dy (c.getD m pn0) = false → RES = ([], 10)) := fun h => HBJ.out (all_not _ c pn0 hmc h)
          clear hmc
          have hr2 := HI.out.2.1
          obtain ⟨p2, c2, e2⟩ := slice_own hr2
          subst e2
          have HR2 := Lib.hid hr2
          have HK2q := Lib.hid HI.out.2.2
          have hsq : w5.heap.size ≤ wr.heap.size := HI.out.2.2.size
          have HML : Hid (((c.take m).map (mvP dx dy)).length = m) := by show _ = _; rw [List.length_map, List.length_take, HCL.out]; omega
          generalize c.getD m pn0 = P at *
          obtain ⟨px, py, pk⟩ := P
          dsimp only at x1 y1 k1 n1 n2
          have HAP := Lib.hid (rapply_one px py n1 n2)
          have HMX := Lib.hid (fun W => rfmay_calls (px + dx) W)
          have HMY := Lib.hid (fun W => rfmay_calls (py + dy) W)
          have HOK : Hid (mvOk dx dy ⟨px, py, pk⟩ = (numF (px + dx) && numF (py + dy))) := rfl
          have ex : IntKind.i64.wrap (px + dx) = px + dx := by have h1 := (numF_iff px).1 n1; have h2 := (numF_iff dx).1 HNX.out; rw [IntKind.wrap_i64]; omega
          have ey : IntKind.i64.wrap (py + dy) = py + dy := by have h1 := (numF_iff py).1 n2; have h2 := (numF_iff dy).1 HNY.out; rw [IntKind.wrap_i64]; omega
          rw [HOK.out] at HAM HBM
          clear HOK
          generalize numF (px + dx) = OX at *
          generalize numF (py + dy) = OY at *
          generalize (c.take m).map (mvP dx dy) = A at *
          clear hr2 HI hk2q n1 n2
          go_wp2_with fail
          have u1 := fun n : KW wr => KW.cell h1q n
          have u2 := fun n : KW wr => KW.cell x1 n
          have u3 := fun n : KW wr => KW.cell y1 n
          have u4 := fun n : KW wr => KW.cell b0 n
          have u5 := fun n : KW wr => KW.cell b1 n
          have u6 := fun n : KW wr => KW.cell b2 n
          have u7 := fun n : KW wr => KW.cell b3 n
          refine wp_region_kq (by kernel_rfl) (by kernel_rfl) ?_
          repeat (go_big_quiet_step ((go_at_call 36; exact Calls.kq (HAP.out _))))
          refine wpQuiet_nil ?_
          intro wz hw'
          obtain ⟨⟨_, hkwz⟩, rfl⟩ := hw'
          have hkz : Kp [] wr wz := hkwz
          have x1z := hkz.cell h1q (by simp)
          have x2z := hkz.cell k1 (by simp)
          have HR4 : Hid (wz.ownsRow w5.heap.size 46 3 (.slice p2 m c2) m (psCells A)) := Kp.row (S := []) hkz HR2.out (by simp)
          have HK4 : Hid (Kp [] w5 wz) := HK2q.out.trans hkz
          have hs4 : w5.heap.size ≤ wz.heap.size := HK4.out.size
          rename World => w4
          clear hkz HR2 HK2q HAP x1 y1 k1 b0 b1 b2 b3 u1 u2 u3 u4 u5 u6 u7 h1q hkwz
          go_wp2_with fail
          refine (HMX.out _).mono ?_; rintro e w6 ⟨rfl, rfl⟩
          cases OX with
          | false =>
            have HBX : Hid (RES = ([], 10)) := HBM.out (by first | rfl | trivial)
            have HKF : Hid (Kp [] w w4) := HK2.out.trans (HKW.out.trans HK4.out)
            go_wp2_with fail
            go_ret2
            rw [HBX.out]
            exact ⟨_, rfl, IsOut.nil _ _, HKF.out.trans (by (repeat (first | exact Kp.refl _ _ | assumption | refine Kp.drew ?_ | refine Kp.drewN ?_ _ | refine Kp.alloc ?_ _ | (refine Kp.setCell ?_ (by first | (left; simp; done) | (right; simp; try omega)) _) | (refine Kp.trans' ?_ (by assumption) (by simp; try omega)))))⟩
          | true =>
          go_wp2_with fail
          refine (HMY.out _).mono ?_; rintro e w6 ⟨rfl, rfl⟩
          cases OY with
          | false =>
            have HBX : Hid (RES = ([], 10)) := HBM.out (by first | rfl | trivial)
            have HKF : Hid (Kp [] w w4) := HK2.out.trans (HKW.out.trans HK4.out)
            go_wp2_with fail
            go_ret2
            rw [HBX.out]
            exact ⟨_, rfl, IsOut.nil _ _, HKF.out.trans (by (repeat (first | exact Kp.refl _ _ | assumption | refine Kp.drew ?_ | refine Kp.drewN ?_ _ | refine Kp.alloc ?_ _ | (refine Kp.setCell ?_ (by first | (left; simp; done) | (right; simp; try omega)) _) | (refine Kp.trans' ?_ (by assumption) (by simp; try omega)))))⟩
          | true =>
          have HAM2 := Lib.hid (HAM.out (by first | rfl | trivial))
          go_wp2_with (at_builtin; refine holdT ?hh)
          case hh =>
          intro _
          refine wpList_pushP rfl _ _ rfl w5.heap.size _ A m HML.out (by rfl) (Kp.row (S := []) (by (repeat (first | exact Kp.refl _ _ | assumption | refine Kp.drew ?_ | refine Kp.drewN ?_ _ | refine Kp.alloc ?_ _ | (refine Kp.setCell ?_ (by first | (left; simp; done) | (right; simp; try omega)) _) | (refine Kp.trans' ?_ (by assumption) (by simp; try omega))))) HR4.out (by simp)) _ 1 ⟨px + dx, py + dy, pk⟩ rfl (lit3g (Kp.refl _ _) (by simp)) (by omega) (by simp; omega) ?_
          intro v6 w6 hown6 hgr6 hkb6
          obtain ⟨p6, q6, rfl⟩ := slice_own hown6
          have HF6 : Hid ((c.take (m + 1)).all (mvOk dx dy) = true ∧ w6.ownsRow w5.heap.size 46 3 (.slice p6 (m + 1) q6) (m + 1) (psCells ((c.take (m + 1)).map (mvP dx dy))) ∧ Kp [] w5 w6) := by
            show _ ∧ _ ∧ _
            rw [HMT.out]
            exact ⟨HAM2.out, hown6, hgr6 w5 (Nat.le_refl _) (HK4.out.trans (by (repeat (first | exact Kp.refl _ _ | assumption | refine Kp.drew ?_ | refine Kp.drewN ?_ _ | refine Kp.alloc ?_ _ | (refine Kp.setCell ?_ (by first | (left; simp; done) | (right; simp; try omega)) _) | (refine Kp.trans' ?_ (by assumption) (by simp; try omega))))))⟩
          clear hown6 hgr6 hkb6 HR4 HK4
          go_wp2_with fail
          go_roundw
          case rel => first | exact ⟨m + 1, _, by omega, int_eq' (by omega), rfl, HF6⟩ | ((repeat apply Exists.intro); exact ⟨⟨m + 1, _, by omega, int_eq' (by omega), rfl, HF6⟩, rfl⟩)
          case measure => simp [intOf] <;> omega
        · obtain rfl : m = L := by omega
          have HAC : Hid (((o.take (j + 1)).all fun c => c.all (mvOk dx dy)) = true) := by
            have h := HI.out.1
            rw [List.take_of_length_le (by rw [HCL.out]; exact Nat.le_refl _)] at h
            exact HAJ.out h
          have HI1 : Hid (IsPs wr l2 (c.map (mvP dx dy))) := by
            have h := HI.out.2.1
            rw [List.take_of_length_le (by rw [HCL.out]; exact Nat.le_refl _)] at h
            exact IsPs.owned (by rw [List.length_map, HCL.out]) h
          have HB1 : Hid (∀ b, blockOf l2 = some b → w5.heap.size ≤ b ∧ b < wr.heap.size) := fun b hb => HI.out.2.1.lt b (blockOf_own hb)
          have HK1 : Hid (Kp [] w5 wr) := HI.out.2.2
          obtain ⟨pv, qv, hv1⟩ := slice_own HI.out.2.1
          subst hv1
          have HW1 := Lib.hid (HW.out.kp0 HK1.out)
          have HR1 : Hid (wr.ownsRow w2.heap.size 23 1 (.slice pl j cl) j vs) := by have h := HW1.out.1; rw [HTL.out] at h; exact h
          have HOB : Hid (∀ b, (Value.slice pl j cl).ownBlock = some b → b < w5.heap.size) := fun b hb => by have h := HW.out.1; exact (h.lt b hb).2
          have hsz1 : w5.heap.size ≤ wr.heap.size := HK1.out.size
          have hvl : vs.length = j := by have := HR1.out.1; omega
          clear HI HW
          go_wp2_with (at_builtin; refine wpList_append_lies _ rfl _ _ 22 rfl w2.heap.size 23 i0 (.slice none 0 0) 1 24 Tryz.underlying22 hi hzz0 hzz1 hzz2 rfl (by decide) (.slice pl j cl) j vs rfl ?hown ⟨wr.heap.size, 0, none⟩ 1 1 [.slice pv m qv] rfl rfl ?hnews ?hone (by decide) ?hm ?hb1 ?hb2 (wr.heap.size + 1) ?hH ?hk)
          case hown => exact Kp.row (S := []) (by (repeat (first | exact Kp.refl _ _ | assumption | refine Kp.drew ?_ | refine Kp.drewN ?_ _ | refine Kp.alloc ?_ _ | (refine Kp.setCell ?_ (by first | (left; simp; done) | (right; simp; try omega)) _) | (refine Kp.trans' ?_ (by assumption) (by simp; try omega))))) HR1.out (by simp)
          case hnews => exact World.news_of_block (heap_alloc_new wr _)
          case hone => intro u hu; simp at hu; subst hu; rfl
          case hm => unfold maxLen; omega
          case hb1 => omega
          case hb2 => simp; omega
          case hH => simp
          case hk =>
          intro g4 c4 w4 hown hgr hat hlt4
          have hka : Kp [] wr (wr.alloc (.cells #[.slice pv m qv] 23)) := by (repeat (first | exact Kp.refl _ _ | assumption | refine Kp.drew ?_ | refine Kp.drewN ?_ _ | refine Kp.alloc ?_ _ | (refine Kp.setCell ?_ (by first | (left; simp; done) | (right; simp; try omega)) _) | (refine Kp.trans' ?_ (by assumption) (by simp; try omega))))
          have HW2 := HW1.out.kp0 hka
          have hpush := WVs.push (H := wr.heap.size + 1) HW2 ((HI1.out : IsPs wr (.slice pv m qv) (c.map (mvP dx dy))).kp0 hka) (fun b hb => by
            have h9 := HB1.out b hb
            exact ⟨fun e => by have := HOB.out b e; omega, by simp; omega, by omega⟩) (by rw [HTL.out]; exact hown) hgr hat (by simp)
          rw [HTL.out, ← HTK.out] at hpush
          have HPU : Hid (((o.take (j + 1)).all fun c => c.all (mvOk dx dy)) = true ∧ WOut w4 w2.heap.size (.slice (some ⟨g4, 0, none⟩) (j + 1) c4) (X.take (j + 1)) ∧ Kp [] w2 w4) := ⟨HAC.out, ⟨_, hpush⟩, by
            have hkk : Kp [] w2 w5 := HKW.out
            exact Kp.grown (hkk.trans (HK1.out.trans hka)) hgr (fun k hk => .inr (own_ge HR1.out k hk))⟩
          clear hown hgr hat hka HW2 hpush hlt4
          go_wp2_with fail
          go_roundw
          case rel => first | exact ⟨j + 1, _, by omega, int_eq' (by omega), rfl, HPU⟩ | ((repeat apply Exists.intro); exact ⟨⟨j + 1, _, by omega, int_eq' (by omega), rfl, HPU⟩, rfl⟩)
          case measure => simp [intOf] <;> omega
    · obtain rfl : j = N := by omega
      have HE := Lib.hid HJ.out
      rw [show X.take j = X from List.take_of_length_le (by rw [← HXX.out, List.length_map, HN.out]; exact Nat.le_refl _), show o.take j = o from List.take_of_length_le (by rw [HN.out]; exact Nat.le_refl _)] at HE
      have HB : Hid (RES = (X, 0)) := HR1.out HE.out.1
      have HW : Hid (IsOut wr l X) := HE.out.2.1.out
      have HK : Hid (Kp [] w wr) := HK2.out.trans HE.out.2.2
      clear HJ HE
      go_wp2_with fail
      go_ret2
      rw [HB.out]
      exact ⟨_, rfl, HW.out, HK.out⟩
end Go.Proofs.YtafkhnlmipddmaaGreat

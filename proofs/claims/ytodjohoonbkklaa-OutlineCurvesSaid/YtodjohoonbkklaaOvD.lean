/- outline: Apply with the matrix that lets a point be, one to the right, two up. (Written by wip/outline/genovd.py.) -/
import Derived.Test.YtodjohoonbkklaaOvC
namespace Go.Proofs.Ytodjohoonbkklaa
open Go.RowKit
set_option linter.unusedVariables false
set_option linter.unusedSimpArgs false
def mv1 (p : Pn) : Pn := ⟨p.x + 1, p.y + 2, p.k⟩
def nearP (c : List Pn) : Prop := ∀ i, i < c.length → (-1000000 ≤ (c.getD i pn0).x ∧ (c.getD i pn0).x ≤ 1000000) ∧ -1000000 ≤ (c.getD i pn0).y ∧ (c.getD i pn0).y ≤ 1000000
theorem map_take_mv (c : List Pn) (i : Nat) (h : i < c.length) : (c.take (i + 1)).map mv1 = (c.take i).map mv1 ++ [mv1 (c.getD i pn0)] := by
  rw [List.take_succ_eq_append_getElem h, List.map_append, List.getD_eq_getElem?_getD, List.getElem?_eq_getElem h]; rfl
set_option maxRecDepth 100000 in
set_option maxHeartbeats 4000000 in
theorem oapply_one (v : Value) (o : List (List Pn)) (w : World) (hv : IsOut w v o) (hE : checkO o = 0) (hnear : ∀ j, j < o.length → nearP (o.getD j [])) :
    Calls Try.prog 76 #[v, .agg #[.int .i64 16384, .int .i64 0, .int .i64 0, .int .i64 16384], .int .i64 1, .int .i64 2] w fun e w' => ∃ v', e = .returned (.tuple #[v', .int .i64 0]) ∧ IsOut w' v' (o.map (List.map mv1)) ∧ Kp [] w w' := by
  obtain ⟨hz1, hz2, hz3⟩ := checkO_zero hE
  have HF : Hid (∀ j, j < o.length → (o.getD j []).length ≤ 4096) := fun j hj => by have := len_le_cnt o hj; omega
  have HC := Lib.hid (fun W (hk : Kp [] w W) => check_calls v o W (hv.kp0 hk) (fun j hj => by have := HF.out j hj; omega) (by omega))
  have HMA := Lib.hid (amay_calls 16384 0 0 16384)
  rw [show fitsM 16384 0 0 16384 = true by decide] at HMA
  have HX := Lib.hid (fmay_yes 1 (by omega))
  have HY := Lib.hid (fmay_yes 2 (by omega))
  rw [hE] at HC
  obtain ⟨i0, hi, hzz0, hzz1, hzz2⟩ := info_parts infoPs
  have HV := Lib.hid hv
  have HNE := Lib.hid hnear
  obtain ⟨pa, ca, rfl⟩ := hv.form
  obtain ⟨N, hN⟩ : ∃ N, o.length = N := ⟨_, rfl⟩
  have HN := Lib.hid hN
  have hN1 : N ≤ 256 := by rw [← hN]; exact hz1
  obtain ⟨X, hX⟩ : ∃ X, o.map (List.map mv1) = X := ⟨_, rfl⟩
  have HXX := Lib.hid hX
  rw [hX]
  rw [hN] at HV HC ⊢
  clear hN hv hz1 hz2 hz3 hE hnear hX
  go_enter Try.func76, Try.ntmps76
  go_wp2_with fail
  refine (HC.out _ (by (repeat (first | exact Kp.refl _ _ | assumption | refine Kp.drew ?_ | refine Kp.drewN ?_ _ | refine Kp.alloc ?_ _ | (refine Kp.setCell ?_ (by first | (left; simp; done) | (right; simp; try omega)) _) | (refine Kp.trans' ?_ (by assumption) (by simp; try omega)))))).mono ?_; rintro e w1 ⟨rfl, hk1⟩
  have hbx := mbox hk1
  have HKA : Hid (Kp [] w w1) := Kp.trans (by (repeat (first | exact Kp.refl _ _ | assumption | refine Kp.drew ?_ | refine Kp.drewN ?_ _ | refine Kp.alloc ?_ _ | (refine Kp.setCell ?_ (by first | (left; simp; done) | (right; simp; try omega)) _) | (refine Kp.trans' ?_ (by assumption) (by simp; try omega))))) hk1
  obtain ⟨q0, q1, q2, q3⟩ := hbx
  have hs01 : w.heap.size < w1.heap.size := World.block_lt_of_cell? w1 _ q0
  clear hk1 HC
  go_wp2_with fail
  refine (HMA.out _).mono ?_; rintro e w2 ⟨rfl, hk2⟩
  have HK2 : Hid (Kp [] w w2) := HKA.out.trans hk2
  have HB : Hid (∀ W, Kp [] w2 W → W.cell? ⟨w.heap.size, 0, none⟩ = some (.int .i64 16384) ∧ W.cell? ⟨w.heap.size, 1, none⟩ = some (.int .i64 0) ∧ W.cell? ⟨w.heap.size, 2, none⟩ = some (.int .i64 0) ∧ W.cell? ⟨w.heap.size, 3, none⟩ = some (.int .i64 16384)) :=
    fun W hW => ⟨(hk2.trans hW).cell q0 (by simp), (hk2.trans hW).cell q1 (by simp), (hk2.trans hW).cell q2 (by simp), (hk2.trans hW).cell q3 (by simp)⟩
  have hs02 : w.heap.size < w2.heap.size := by have := hk2.size; omega
  clear q0 q1 q2 q3 hk2 HKA hs01
  go_wp2_with fail
  refine (HX.out _).mono ?_; rintro e w3 ⟨rfl, rfl⟩
  go_wp2_with fail
  refine (HY.out _).mono ?_; rintro e w3 ⟨rfl, rfl⟩
  have HV0 := Lib.hid (HV.out.kp0 HK2.out)
  clear HV HX HY
  go_wp2_with fail
  go_loopw [11, 13, 14, 16, 17, 18, 39] (fun u _ _ _ _ _ i wr => ∃ (j : Nat) (l : Value), j ≤ N ∧ i = .int .i64 j ∧ l = u ∧ Hid (WOut wr w2.heap.size l (X.take j) ∧ Kp [] w2 wr)) (fun _ _ _ _ _ _ i _ => N - (intOf i).toNat)
  case atStart => exact ⟨0, _, by omega, rfl, rfl, WOut.nil _ _, Kp.refl _ _⟩
  case round =>
    obtain ⟨j, l, hj, rfl, rfl, HJ⟩ := hrel
    by_cases hlt : j < N
    · have hjo : j < o.length := by rw [HN.out]; exact hlt
      obtain ⟨g1, o1, c1, p1, cv, e1, _, _, h1, hp⟩ := HV0.out.row hjo
      rw [HN.out] at e1
      cases e1
      have HP : Hid (∀ W, Kp [] w2 W → IsPs W (.slice p1 (o.getD j []).length cv) (o.getD j [])) := fun W hW => hp.kp0 hW
      replace h1 := HJ.out.2.cell h1 (by simp)
      have hL := HF.out j hjo
      have HNJ := Lib.hid (HNE.out j hjo)
      have HTK : Hid (X.take (j + 1) = X.take j ++ [(o.getD j []).map mv1]) := by show _ = _; rw [← HXX.out]; exact map_take (List.map mv1) hjo
      have HTL : Hid ((X.take j).length = j) := by show _ = _; rw [← HXX.out, List.length_take, List.length_map]; omega
      obtain ⟨vs, HW⟩ : ∃ vs, Hid (WVs wr w2.heap.size l vs (X.take j)) := by obtain ⟨vs, h⟩ := HJ.out.1; exact ⟨vs, h⟩
      have hr := HW.out.1
      rw [HTL.out] at hr
      obtain ⟨pl, cl, hl⟩ := slice_own hr
      subst hl
      have HKW : Hid (Kp [] w2 wr) := HJ.out.2
      generalize o.getD j [] = c at *
      clear hp hr hjo HJ
      obtain ⟨L, hcl⟩ : ∃ L, c.length = L := ⟨_, rfl⟩
      have HCL := Lib.hid hcl
      rw [hcl] at h1 HP hL
      clear hcl
      rename World => w5
      have hszw : w2.heap.size ≤ w5.heap.size := HKW.out.size
      go_wp2_with fail
      go_loopw [14, 16, 17, 18, 45] (fun u _ _ _ i wr2 => ∃ (m : Nat) (l2 : Value), m ≤ L ∧ i = .int .i64 m ∧ l2 = u ∧ Hid (wr2.ownsRow w5.heap.size 61 3 l2 m (psCells ((c.take m).map mv1)) ∧ Kp [] w5 wr2)) (fun _ _ _ _ i _ => L - (intOf i).toNat)
      case atStart => exact ⟨0, _, by omega, rfl, rfl, World.ownsRow_nil _ _ _ _, Kp.refl _ _⟩
      case round =>
        obtain ⟨m, l2, hm, rfl, rfl, HI⟩ := hrel
        have hk2q : Kp [] w2 wr := HKW.out.trans HI.out.2
        by_cases hml : m < L
        · obtain ⟨g2, o2, q2, e2, _, _, x1, y1, k1⟩ := (HP.out _ hk2q).row (i := m) (by rw [HCL.out]; exact hml)
          rw [HCL.out] at e2
          cases e2
          obtain ⟨n1, n2⟩ := HNJ.out m (by rw [HCL.out]; exact hml)
          obtain ⟨b0, b1, b2, b3⟩ := HB.out _ hk2q
          have hbs : w.heap.size < wr.heap.size := World.block_lt_of_cell? wr _ b0
          have HMT := Lib.hid (map_take_mv c m (by rw [HCL.out]; exact hml))
          have hr2 := HI.out.1
          obtain ⟨p2, c2, e2⟩ := slice_own hr2
          subst e2
          have HR2 := Lib.hid hr2
          have HK2q := Lib.hid HI.out.2
          have hsq : w5.heap.size ≤ wr.heap.size := HI.out.2.size
          have HML : Hid (((c.take m).map mv1).length = m) := by show _ = _; rw [List.length_map, List.length_take, HCL.out]; omega
          generalize c.getD m pn0 = P at *
          obtain ⟨px, py, pk⟩ := P
          dsimp only at x1 y1 k1 n1 n2
          have HMV := Lib.hid (moved_one px py pk n1 n2)
          generalize (c.take m).map mv1 = A at *
          clear hr2 HI hk2q n1 n2
          go_wp2_with fail
          refine (HMV.out _).mono ?_; rintro e w4 ⟨rfl, hk4⟩
          have HR4 : Hid (w4.ownsRow w5.heap.size 61 3 (.slice p2 m c2) m (psCells A)) := Kp.row (S := []) (Kp.trans (by (repeat (first | exact Kp.refl _ _ | assumption | refine Kp.drew ?_ | refine Kp.drewN ?_ _ | refine Kp.alloc ?_ _ | (refine Kp.setCell ?_ (by first | (left; simp; done) | (right; simp; try omega)) _) | (refine Kp.trans' ?_ (by assumption) (by simp; try omega))))) hk4) HR2.out (by simp)
          have HK4 : Hid (Kp [] w5 w4) := HK2q.out.trans (Kp.trans (by (repeat (first | exact Kp.refl _ _ | assumption | refine Kp.drew ?_ | refine Kp.drewN ?_ _ | refine Kp.alloc ?_ _ | (refine Kp.setCell ?_ (by first | (left; simp; done) | (right; simp; try omega)) _) | (refine Kp.trans' ?_ (by assumption) (by simp; try omega))))) hk4)
          have hs4 : w5.heap.size ≤ w4.heap.size := HK4.out.size
          clear hk4 HR2 HK2q HMV x1 y1 k1 b0 b1 b2 b3
          go_wp2_with (at_builtin; refine holdT ?hh)
          case hh =>
          intro _
          refine wpList_pushP rfl _ _ rfl w5.heap.size _ A m HML.out (by rfl) (Kp.row (S := []) (by (repeat (first | exact Kp.refl _ _ | assumption | refine Kp.drew ?_ | refine Kp.drewN ?_ _ | refine Kp.alloc ?_ _ | (refine Kp.setCell ?_ (by first | (left; simp; done) | (right; simp; try omega)) _) | (refine Kp.trans' ?_ (by assumption) (by simp; try omega))))) HR4.out (by simp)) _ 1 ⟨px + 1, py + 2, pk⟩ rfl (lit3g (Kp.refl _ _) (by simp)) (by omega) (by simp; omega) ?_
          intro v6 w6 hown6 hgr6 hkb6
          obtain ⟨p6, q6, rfl⟩ := slice_own hown6
          have HF6 : Hid (w6.ownsRow w5.heap.size 61 3 (.slice p6 (m + 1) q6) (m + 1) (psCells ((c.take (m + 1)).map mv1)) ∧ Kp [] w5 w6) := by
            show _ ∧ _
            rw [HMT.out]
            exact ⟨hown6, hgr6 w5 (Nat.le_refl _) (HK4.out.trans (by (repeat (first | exact Kp.refl _ _ | assumption | refine Kp.drew ?_ | refine Kp.drewN ?_ _ | refine Kp.alloc ?_ _ | (refine Kp.setCell ?_ (by first | (left; simp; done) | (right; simp; try omega)) _) | (refine Kp.trans' ?_ (by assumption) (by simp; try omega))))))⟩
          clear hown6 hgr6 hkb6 HR4 HK4
          go_wp2_with fail
          go_roundw
          case rel => first | exact ⟨m + 1, _, by omega, int_eq' (by omega), rfl, HF6⟩ | ((repeat apply Exists.intro); exact ⟨⟨m + 1, _, by omega, int_eq' (by omega), rfl, HF6⟩, rfl⟩)
          case measure => simp [intOf] <;> omega
        · obtain rfl : m = L := by omega
          have HI1 : Hid (IsPs wr l2 (c.map mv1)) := by
            have h := HI.out.1
            rw [List.take_of_length_le (by rw [HCL.out]; exact Nat.le_refl _)] at h
            exact IsPs.owned (by rw [List.length_map, HCL.out]) h
          have HB1 : Hid (∀ b, blockOf l2 = some b → w5.heap.size ≤ b ∧ b < wr.heap.size) := fun b hb => HI.out.1.lt b (blockOf_own hb)
          have HK1 : Hid (Kp [] w5 wr) := HI.out.2
          obtain ⟨pv, qv, hv1⟩ := slice_own HI.out.1
          subst hv1
          have HW1 := Lib.hid (HW.out.kp0 HK1.out)
          have HR1 : Hid (wr.ownsRow w2.heap.size 96 1 (.slice pl j cl) j vs) := by have h := HW1.out.1; rw [HTL.out] at h; exact h
          have HOB : Hid (∀ b, (Value.slice pl j cl).ownBlock = some b → b < w5.heap.size) := fun b hb => by have h := HW.out.1; exact (h.lt b hb).2
          have hsz1 : w5.heap.size ≤ wr.heap.size := HK1.out.size
          have hvl : vs.length = j := by have := HR1.out.1; omega
          clear HI HW
          go_wp2_with (at_builtin; refine wpList_append_lies _ rfl _ _ 42 rfl w2.heap.size 96 i0 (.slice none 0 0) 1 24 Try.underlying42 hi hzz0 hzz1 hzz2 rfl (by decide) (.slice pl j cl) j vs rfl ?hown ⟨wr.heap.size, 0, none⟩ 1 1 [.slice pv m qv] rfl rfl ?hnews ?hone (by decide) ?hm ?hb1 ?hb2 (wr.heap.size + 1) ?hH ?hk)
          case hown => exact Kp.row (S := []) (by (repeat (first | exact Kp.refl _ _ | assumption | refine Kp.drew ?_ | refine Kp.drewN ?_ _ | refine Kp.alloc ?_ _ | (refine Kp.setCell ?_ (by first | (left; simp; done) | (right; simp; try omega)) _) | (refine Kp.trans' ?_ (by assumption) (by simp; try omega))))) HR1.out (by simp)
          case hnews => exact World.news_of_block (heap_alloc_new wr _)
          case hone => intro u hu; simp at hu; subst hu; rfl
          case hm => unfold maxLen; omega
          case hb1 => omega
          case hb2 => simp; omega
          case hH => simp
          case hk =>
          intro g4 c4 w4 hown hgr hat hlt4
          have hka : Kp [] wr (wr.alloc (.cells #[.slice pv m qv] 96)) := by (repeat (first | exact Kp.refl _ _ | assumption | refine Kp.drew ?_ | refine Kp.drewN ?_ _ | refine Kp.alloc ?_ _ | (refine Kp.setCell ?_ (by first | (left; simp; done) | (right; simp; try omega)) _) | (refine Kp.trans' ?_ (by assumption) (by simp; try omega))))
          have HW2 := HW1.out.kp0 hka
          have hpush := WVs.push (H := wr.heap.size + 1) HW2 ((HI1.out : IsPs wr (.slice pv m qv) (c.map mv1)).kp0 hka) (fun b hb => by
            have h9 := HB1.out b hb
            exact ⟨fun e => by have := HOB.out b e; omega, by simp; omega, by omega⟩) (by rw [HTL.out]; exact hown) hgr hat (by simp)
          rw [HTL.out, ← HTK.out] at hpush
          have HPU : Hid (WOut w4 w2.heap.size (.slice (some ⟨g4, 0, none⟩) (j + 1) c4) (X.take (j + 1)) ∧ Kp [] w2 w4) := ⟨⟨_, hpush⟩, by
            have hkk : Kp [] w2 w5 := HKW.out
            exact Kp.grown (hkk.trans (HK1.out.trans hka)) hgr (fun k hk => .inr (own_ge HR1.out k hk))⟩
          clear hown hgr hat hka HW2 hpush hlt4
          go_wp2_with fail
          go_roundw
          case rel => first | exact ⟨j + 1, _, by omega, int_eq' (by omega), rfl, HPU⟩ | ((repeat apply Exists.intro); exact ⟨⟨j + 1, _, by omega, int_eq' (by omega), rfl, HPU⟩, rfl⟩)
          case measure => simp [intOf] <;> omega
    · obtain rfl : j = N := by omega
      have HE := Lib.hid HJ.out
      rw [List.take_of_length_le (by rw [← HXX.out, List.length_map, HN.out]; exact Nat.le_refl _)] at HE
      have HW : Hid (IsOut wr l X) := HE.out.1.out
      have HK : Hid (Kp [] w wr) := HK2.out.trans HE.out.2
      clear HJ HE
      go_wp2_with fail
      go_ret2
      exact ⟨_, rfl, HW.out, HK.out⟩
end Go.Proofs.Ytodjohoonbkklaa

/- outline: the reference's Reverse. (Written by wip/outline/genovg.py.) -/
import Derived.Test.YtodjohoonbkklaaOvF
namespace Go.Proofs.Ytodjohoonbkklaa
open Go.RowKit
set_option linter.unusedVariables false
set_option linter.unusedSimpArgs false
theorem revP_at (c : List Pn) (k : Nat) (h : k < c.length) : (revP c).getD k pn0 = c.getD ((c.length - k) % c.length) pn0 := by
  cases c with
  | nil => simp at h
  | cons p l =>
    simp only [List.length_cons] at h ⊢
    cases k with
    | zero => simp [revP]
    | succ k =>
      have e : (l.length + 1 - (k + 1)) % (l.length + 1) = (l.length - 1 - k) + 1 := by rw [Nat.mod_eq_of_lt (by omega)]; omega
      rw [e]
      have hk : k < l.length := by omega
      show (p :: l.reverse).getD (k + 1) pn0 = (p :: l).getD (l.length - 1 - k + 1) pn0
      rw [List.getD_eq_getElem?_getD, List.getElem?_cons_succ, List.getElem?_reverse hk, List.getD_eq_getElem?_getD, List.getElem?_cons_succ]
theorem revP_take (c : List Pn) (k : Nat) (h : k < c.length) : (revP c).take (k + 1) = (revP c).take k ++ [c.getD ((c.length - k) % c.length) pn0] := by
  have hk : k < (revP c).length := by rw [revP_len]; exact h
  rw [List.take_succ_eq_append_getElem hk, ← revP_at c k h, List.getD_eq_getElem?_getD, List.getElem?_eq_getElem hk]; rfl
theorem ring_rev (L m : Nat) (h : m < L) : ∃ q, q < L ∧ (L - m) % L = q ∧ Int.tmod ((L : Int) - (m : Int)) (L : Int) = (q : Int) := by
  refine ⟨(L - m) % L, Nat.mod_lt _ (by omega), rfl, ?_⟩
  rw [Int.tmod_eq_emod_of_nonneg (by omega)]
  have e : (L : Int) - (m : Int) = ((L - m : Nat) : Int) := by omega
  rw [e]; exact (Int.natCast_emod _ _).symm
theorem wrapN (q : Nat) (h : q ≤ 1048576) : wrap64 (q : Int) = (q : Int) := by unfold wrap64; omega
theorem wrapD1 (L m : Nat) (h1 : L ≤ 1048576) (h2 : m ≤ L) : IntKind.i64.wrap ((L : Int) - (m : Int)) = (L : Int) - (m : Int) := by rw [IntKind.wrap_i64]; omega
theorem wrapD2 (L m : Nat) (h1 : L ≤ 1048576) (h2 : m ≤ L) : wrap64 ((L : Int) - (m : Int)) = (L : Int) - (m : Int) := by unfold wrap64; omega
set_option maxRecDepth 100000 in
set_option maxHeartbeats 4000000 in
theorem roreverse_calls (v : Value) (o : List (List Pn)) (w : World) (hv : IsOut w v o) (hf : fewO o) :
    Calls Try.prog 41 #[v] w fun e w' => ∃ v', e = .returned v' ∧ IsOut w' v' (o.map revP) ∧ Kp [] w w' := by
  have HF : Hid (∀ j, j < o.length → (o.getD j []).length ≤ 1048576) := hf.2
  have hz1 := hf.1
  obtain ⟨i0, hi, hzz0, hzz1, hzz2⟩ := info_parts infoPs
  have HV := Lib.hid hv
  obtain ⟨pa, ca, rfl⟩ := hv.form
  obtain ⟨N, hN⟩ : ∃ N, o.length = N := ⟨_, rfl⟩
  have HN := Lib.hid hN
  have hN1 : N ≤ 1048576 := by rw [← hN]; exact hz1
  obtain ⟨X, hX⟩ : ∃ X, o.map revP = X := ⟨_, rfl⟩
  have HXX := Lib.hid hX
  rw [hX]
  rw [hN] at HV ⊢
  clear hN hv hz1 hX hf
  obtain ⟨w2, hw2⟩ : ∃ w2, w = w2 := ⟨_, rfl⟩
  have HV0 := HV
  rw [hw2] at HV0 ⊢
  clear HV hw2
  go_enter Try.func41, Try.ntmps41
  go_wp2_with fail
  go_loopw [3, 4, 5, 6] (fun u i _ _ wr => ∃ (j : Nat) (l : Value), j ≤ N ∧ i = .int .i64 j ∧ l = u ∧ Hid (WOut wr w2.heap.size l (X.take j) ∧ Kp [] w2 wr)) (fun _ i _ _ _ => N - (intOf i).toNat)
  case atStart => exact ⟨0, _, by omega, rfl, rfl, WOut.nil _ _, Kp.refl _ _⟩
  case round =>
    obtain ⟨j, l, hj, rfl, rfl, HJ⟩ := hrel
    by_cases hlt : j < N
    · have hjo : j < o.length := by rw [HN.out]; exact hlt
      obtain ⟨g1, o1, c1, p1, cv, e1, _, _, h1, hp⟩ := HV0.out.row hjo
      rw [HN.out] at e1
      cases e1
      have HP : Hid (∀ W, Kp [] w2 W → IsPs W (.slice p1 (o.getD j []).length cv) (o.getD j [])) := fun W hW => hp.kp0 hW
      have HH1 : Hid (∀ W, Kp [] w2 W → W.cell? ⟨g1, o1 + j, none⟩ = some (.slice p1 (o.getD j []).length cv)) := fun W hW => hW.cell h1 (by simp)
      replace h1 := HJ.out.2.cell h1 (by simp)
      have hL := HF.out j hjo
      have HTK : Hid (X.take (j + 1) = X.take j ++ [revP (o.getD j [])]) := by show _ = _; rw [← HXX.out]; exact map_take revP hjo
      have HTL : Hid ((X.take j).length = j) := by show _ = _; rw [← HXX.out, List.length_take, List.length_map]; omega
      obtain ⟨vs, HW⟩ : ∃ vs, Hid (WVs wr w2.heap.size l vs (X.take j)) := by obtain ⟨vs, h⟩ := HJ.out.1; exact ⟨vs, h⟩
      have hr := HW.out.1
      rw [HTL.out] at hr
      obtain ⟨pl, cl, hl⟩ := slice_own hr
      subst hl
      have HKW : Hid (Kp [] w2 wr) := HJ.out.2
      generalize o.getD j [] = c at *
      clear hp hr hjo HJ
      obtain ⟨L, hcl⟩ : ∃ L, c.length = L := ⟨_, rfl⟩
      have HCL := Lib.hid hcl
      rw [hcl] at h1 HP hL HH1
      clear hcl
      rename World => w5
      have hszw : w2.heap.size ≤ w5.heap.size := HKW.out.size
      go_wp2_with fail
      go_loopw [5, 6] (fun u i wr2 => ∃ (m : Nat) (l2 : Value), m ≤ L ∧ i = .int .i64 m ∧ l2 = u ∧ Hid (wr2.ownsRow w5.heap.size 61 3 l2 m (psCells ((revP c).take m)) ∧ Kp [] w5 wr2)) (fun _ i _ => L - (intOf i).toNat)
      case atStart => exact ⟨0, _, by omega, rfl, rfl, World.ownsRow_nil _ _ _ _, Kp.refl _ _⟩
      case round =>
        obtain ⟨m, l2, hm, rfl, rfl, HI⟩ := hrel
        have hk2q : Kp [] w2 wr := HKW.out.trans HI.out.2
        have h1q := HH1.out _ hk2q
        clear h1
        by_cases hml : m < L
        · obtain ⟨q, hqL, hq0, hqi0⟩ := ring_rev L m hml
          have HQ := Lib.hid hq0
          have HQI := Lib.hid hqi0
          clear hq0 hqi0
          obtain ⟨g2, o2, q2, e2, _, _, x1, y1, k1⟩ := (HP.out _ hk2q).row (i := q) (by rw [HCL.out]; exact hqL)
          rw [HCL.out] at e2
          cases e2
          have hg5 : g2 < w5.heap.size := by
            obtain ⟨g2', o2', q2', e2', _, _, x1', _, _⟩ := (HP.out _ HKW.out).row (i := q) (by rw [HCL.out]; exact hqL)
            cases e2'
            exact World.block_lt_of_cell? w5 _ x1'
          have HMT := Lib.hid (revP_take c m (by rw [HCL.out]; exact hml))
          rw [HCL.out, HQ.out] at HMT
          have hr2 := HI.out.1
          obtain ⟨p2, c2, e2⟩ := slice_own hr2
          subst e2
          have HR2 := Lib.hid hr2
          have HK2q := Lib.hid HI.out.2
          have hsq : w5.heap.size ≤ wr.heap.size := HI.out.2.size
          have HML : Hid (((revP c).take m).length = m) := by show _ = _; rw [List.length_take, revP_len, HCL.out]; omega
          generalize c.getD q pn0 = P at *
          obtain ⟨px, py, pk⟩ := P
          dsimp only at x1 y1 k1
          generalize (revP c).take m = A at *
          have d0 : (0 : Int) ≤ (j : Int) := by omega
          have d1 : (j : Int) < (N : Int) := by omega
          have d2 : (0 : Int) ≤ (q : Int) := by omega
          have d3 : (q : Int) < (L : Int) := by omega
          have d6 : (L : Int) ≠ 0 := by omega
          have d7 : ¬ (L = 0) := by omega
          have hq8 : q ≤ 1048576 := by omega
          have hg1 : g1 < wr.heap.size := World.block_lt_of_cell? wr _ h1q
          have hg2 : g2 < wr.heap.size := World.block_lt_of_cell? wr _ x1
          clear hr2 HI hk2q HQ
          have HNG : Hid (g1 ∉ (Value.slice p2 m c2).ownBlock.toList ∧ g2 ∉ (Value.slice p2 m c2).ownBlock.toList) := by
            have hh1 : g1 < w2.heap.size := World.block_lt_of_cell? w2 _ (HH1.out w2 (Kp.refl _ _))
            have hh2 : g2 < w5.heap.size := hg5
            exact ⟨fun h => by have h9 := (HR2.out.lt g1 (by simpa using h)).1; omega, fun h => by have h9 := (HR2.out.lt g2 (by simpa using h)).1; omega⟩
          have H24 : Hid ((m + 1) * 24 ≤ 140737488355328) := by show _ ≤ _; omega
          have d8 : wrap64 (q : Int) = (q : Int) := wrapN q hq8
          have d4 : IntKind.i64.wrap ((L : Int) - (m : Int)) = (L : Int) - (m : Int) := wrapD1 L m hL hm
          have d5 : wrap64 ((L : Int) - (m : Int)) = (L : Int) - (m : Int) := wrapD2 L m hL hm
          have hqi := HQI.out
          go_wp2_with fail
          go_region_held3 (fun w' => w'.cell? ⟨g1, o1 + j, none⟩ = some (.slice (some ⟨g2, o2, none⟩) L cv) ∧ w'.cell? ⟨g2, o2 + q * 3, none⟩ = some (.int .i64 px) ∧ w'.cell? ⟨g2, o2 + q * 3 + 1, none⟩ = some (.int .i64 py) ∧ w'.cell? ⟨g2, o2 + q * 3 + 2, none⟩ = some (.int .i64 pk))
            (first | go_keep | exact ⟨hk14.cell h1q hn1, hk14.cell x1 hn2, hk14.cell y1 hn2, hk14.cell k1 hn2⟩)
            ((first
              | (refine step_pushP rfl _ _ rfl w5.heap.size (.slice p2 m c2) A m HML.out (by rfl) (Kp.row (S := []) (by (repeat (first | exact Kp.refl _ _ | assumption | refine Kp.drew ?_ | refine Kp.drewN ?_ _ | refine Kp.alloc ?_ _ | (refine Kp.setCell ?_ (by first | (left; simp; done) | (right; simp; try omega)) _) | (refine Kp.trans' ?_ (by assumption) (by simp; try omega))))) HR2.out (by simp)) _ 1 ⟨px, py, pk⟩ rfl (lit3g (w := wr) (by ((repeat (first | exact Kp.refl _ _ | assumption | refine Kp.drew ?_ | refine Kp.drewN ?_ _ | refine Kp.alloc ?_ _)); done)) (by simp)) H24.out (Nat.le_trans hsq (by simp)) ?_
                 intro v6 w6 hown6 hgr6 hkb6
                 have hn1 : g1 ∉ (Value.slice p2 m c2).ownBlock.toList := HNG.out.1
                 have hn2 : g2 ∉ (Value.slice p2 m c2).ownBlock.toList := HNG.out.2
                 have hk14 : Kp (Value.slice p2 m c2).ownBlock.toList wr w6 := Kp.trans (by ((repeat (first | exact Kp.refl _ _ | assumption | refine Kp.drew ?_ | refine Kp.drewN ?_ _ | refine Kp.alloc ?_ _)); done)) hkb6)))
          clear hqi HQI d0 d1 d2 d3 d4 d5 d6 d7 d8
          obtain ⟨p6, q6, rfl⟩ := slice_own hown6
          have HF6 : Hid (w6.ownsRow w5.heap.size 61 3 (.slice p6 (m + 1) q6) (m + 1) (psCells ((revP c).take (m + 1))) ∧ Kp [] w5 w6) := by
            show _ ∧ _
            rw [HMT.out]
            exact ⟨hown6, hgr6 w5 (Nat.le_refl _) (HK2q.out.trans (by (repeat (first | exact Kp.refl _ _ | assumption | refine Kp.drew ?_ | refine Kp.drewN ?_ _ | refine Kp.alloc ?_ _ | (refine Kp.setCell ?_ (by first | (left; simp; done) | (right; simp; try omega)) _) | (refine Kp.trans' ?_ (by assumption) (by simp; try omega))))))⟩
          clear hown6 hgr6 hkb6 HR2 HK2q hn1 hn2 hk14 h1q x1 y1 k1
          go_wp2_with fail
          go_roundw
          case rel => first | exact ⟨m + 1, _, by omega, int_eq' (by omega), rfl, HF6⟩ | ((repeat apply Exists.intro); exact ⟨⟨m + 1, _, by omega, int_eq' (by omega), rfl, HF6⟩, rfl⟩)
          case measure => simp [intOf] <;> omega
        · obtain rfl : m = L := by omega
          have HI1 : Hid (IsPs wr l2 (revP c)) := by
            have h := HI.out.1
            rw [List.take_of_length_le (by rw [revP_len, HCL.out]; exact Nat.le_refl _)] at h
            exact IsPs.owned (by rw [revP_len, HCL.out]) h
          have HB1 : Hid (∀ b, blockOf l2 = some b → w5.heap.size ≤ b ∧ b < wr.heap.size) := fun b hb => HI.out.1.lt b (blockOf_own hb)
          have HK1 : Hid (Kp [] w5 wr) := HI.out.2
          obtain ⟨pv, qv, hv1⟩ := slice_own HI.out.1
          subst hv1
          have HW1 := Lib.hid (HW.out.kp0 HK1.out)
          have HR1 : Hid (wr.ownsRow w2.heap.size 96 1 (.slice pl j cl) j vs) := by have h := HW1.out.1; rw [HTL.out] at h; exact h
          have HOB : Hid (∀ b, (Value.slice pl j cl).ownBlock = some b → b < w5.heap.size) := fun b hb => by have h := HW.out.1; exact (h.lt b hb).2
          have hsz1 : w5.heap.size ≤ wr.heap.size := HK1.out.size
          have hvl : vs.length = j := by have := HR1.out.1; omega
          clear HI HW
          go_wp2_with (at_builtin; refine wpList_append_lies _ rfl _ _ 42 rfl w2.heap.size 96 i0 (.slice none 0 0) 1 24 Try.underlying42 hi hzz0 hzz1 hzz2 rfl (by decide) (.slice pl j cl) j vs rfl ?hown ⟨wr.heap.size, 0, none⟩ 1 1 [.slice pv m qv] rfl rfl ?hnews ?hone (by decide) ?hm ?hb1 ?hb2 (wr.heap.size + 1) ?hH ?hk)
          case hown => exact Kp.row (S := []) (by (repeat (first | exact Kp.refl _ _ | assumption | refine Kp.drew ?_ | refine Kp.drewN ?_ _ | refine Kp.alloc ?_ _ | (refine Kp.setCell ?_ (by first | (left; simp; done) | (right; simp; try omega)) _) | (refine Kp.trans' ?_ (by assumption) (by simp; try omega))))) HR1.out (by simp)
          case hnews => exact World.news_of_block (heap_alloc_new wr _)
          case hone => intro u hu; simp at hu; subst hu; rfl
          case hm => unfold maxLen; omega
          case hb1 => omega
          case hb2 => simp; omega
          case hH => simp
          case hk =>
          intro g4 c4 w4 hown hgr hat hlt4
          have hka : Kp [] wr (wr.alloc (.cells #[.slice pv m qv] 96)) := by (repeat (first | exact Kp.refl _ _ | assumption | refine Kp.drew ?_ | refine Kp.drewN ?_ _ | refine Kp.alloc ?_ _ | (refine Kp.setCell ?_ (by first | (left; simp; done) | (right; simp; try omega)) _) | (refine Kp.trans' ?_ (by assumption) (by simp; try omega))))
          have HW2 := HW1.out.kp0 hka
          have hpush := WVs.push (H := wr.heap.size + 1) HW2 ((HI1.out : IsPs wr (.slice pv m qv) (revP c)).kp0 hka) (fun b hb => by
            have h9 := HB1.out b hb
            exact ⟨fun e => by have := HOB.out b e; omega, by simp; omega, by omega⟩) (by rw [HTL.out]; exact hown) hgr hat (by simp)
          rw [HTL.out, ← HTK.out] at hpush
          have HPU : Hid (WOut w4 w2.heap.size (.slice (some ⟨g4, 0, none⟩) (j + 1) c4) (X.take (j + 1)) ∧ Kp [] w2 w4) := ⟨⟨_, hpush⟩, by
            have hkk : Kp [] w2 w5 := HKW.out
            exact Kp.grown (hkk.trans (HK1.out.trans hka)) hgr (fun k hk => .inr (own_ge HR1.out k hk))⟩
          clear hown hgr hat hka HW2 hpush hlt4
          go_wp2_with fail
          go_roundw
          case rel => first | exact ⟨j + 1, _, by omega, int_eq' (by omega), rfl, HPU⟩ | ((repeat apply Exists.intro); exact ⟨⟨j + 1, _, by omega, int_eq' (by omega), rfl, HPU⟩, rfl⟩)
          case measure => simp [intOf] <;> omega
    · obtain rfl : j = N := by omega
      have HE := Lib.hid HJ.out
      rw [List.take_of_length_le (by rw [← HXX.out, List.length_map, HN.out]; exact Nat.le_refl _)] at HE
      have HW : Hid (IsOut wr l X) := HE.out.1.out
      have HK : Hid (Kp [] w2 wr) := HE.out.2
      clear HJ HE
      go_wp2_with fail
      go_ret
      exact ⟨_, rfl, HW.out, HK.out⟩
end Go.Proofs.Ytodjohoonbkklaa

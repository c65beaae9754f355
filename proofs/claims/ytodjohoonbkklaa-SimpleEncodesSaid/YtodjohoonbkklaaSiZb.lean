/- simple: the reference's Encode. -/
import Derived.Test.YtodjohoonbkklaaSiZa
import Derived.Test.YtodjohoonbkklaaSiP
import Derived.BigQuiet
import Derived.Deep.CutBlock
import Derived.Deep.DeepCutAuto
namespace Go.Proofs.Ytodjohoonbkklaa
open Go.RowKit
set_option linter.unusedVariables false
set_option linter.unusedSimpArgs false
theorem ThR.kpr {W W' : World} {H r : Nat} {f vx vy : Value} {F X Y : List Int} (h : ThR W H f vx vy F X Y) (hk : Kp [r] W W') (hr : r < H) : ThR W' H f vx vy F X Y := by
  have key : ∀ {v : Value} {n : Nat} {xs : List Value}, W.ownsRow H 5 1 v n xs → W'.ownsRow H 5 1 v n xs := fun ho => hk.row ho (fun t ht e => by simp at ht; subst ht; have := own_ge ho _ e; omega)
  exact ⟨key h.1, key h.2.1, key h.2.2.1, h.2.2.2⟩
theorem kpFresh {w W W' : World} {r : Nat} (h : Kp [] w W) (hk : Kp [r] W W') (hr : w.heap.size ≤ r) : Kp [] w W' := h.trans' hk (fun t ht => by simp at ht; subst ht; exact .inr hr)
theorem flag_same : ∀ a ∈ [(16 : Int), 18, 2, 0], ∀ b ∈ [(32 : Int), 36, 4, 0], ∀ k ∈ [(1 : Int), 2], IntKind.u8.wrap (bits .or .i64 (bits .or .i64 a b) (bits .and .i64 k 1)) = IntKind.u8.wrap (bits .or .i64 (if k = 1 then bits .or .i64 a 1 else a) b) := by decide
theorem putF2_mem (d : Int) : putF 2 16 d ∈ [(16 : Int), 18, 2, 0] := by
  have e : bits .or .i64 2 16 = 18 := by decide
  unfold putF; rw [e]
  repeat (first | split | simp)
theorem putF4_mem (d : Int) : putF 4 32 d ∈ [(32 : Int), 36, 4, 0] := by
  have e : bits .or .i64 4 32 = 36 := by decide
  unfold putF; rw [e]
  repeat (first | split | simp)
theorem flagP_ref (k dx dy : Int) (hk : k = 1 ∨ k = 2) : IntKind.u8.wrap (bits .or .i64 (bits .or .i64 (putF 2 16 dx) (putF 4 32 dy)) (bits .and .i64 k 1)) = flagP k dx dy :=
  flag_same _ (putF2_mem dx) _ (putF4_mem dy) k (by rcases hk with rfl | rfl <;> simp)
theorem kinds_of {o : List (List Pn)} (h : ∀ j, j < o.length → mayCo (o.getD j []) = true) (j : Nat) (hj : j < o.length) (m : Nat) (hm : m < (o.getD j []).length) : ((o.getD j []).getD m pn0).k = 1 ∨ ((o.getD j []).getD m pn0).k = 2 ∨ ((o.getD j []).getD m pn0).k = 3 := by
  have h2 := (mayCo_facts (h j hj)).2.2 m hm
  unfold mayPn at h2
  simp only [Bool.and_eq_true, Bool.or_eq_true, beq_iff_eq] at h2
  rcases h2.2.2 with h3 | h3 | h3
  · exact .inl h3
  · exact .inr (.inl h3)
  · exact .inr (.inr h3.1)
/-- Point by point: may it be put? -/
theorem encS_next (P : Pn) (ps : List Pn) (s : EnS) : encS (P :: ps) s = if (unitsB P.x && (unitsB P.y && !decide (P.k = 3))) && (putK (P.x.tdiv 65536 - s.lx) && putK (P.y.tdiv 65536 - s.ly)) then encS ps (encPt s P) else none := rfl
/-- The reference's writer, and the rows beside it. -/
def EnQ (w W : World) (H r : Nat) (acc : List Int) (f vx vy : Value) (F X Y : List Int) : Prop := RWt W r 1048576 acc ∧ ThR W H f vx vy F X Y ∧ Kp [] w W ∧ w.heap.size ≤ r ∧ r < H
theorem EnQ.kp0 {w W W' : World} {H r : Nat} {acc : List Int} {f vx vy : Value} {F X Y : List Int} (h : EnQ w W H r acc f vx vy F X Y) (hk : Kp [] W W') : EnQ w W' H r acc f vx vy F X Y :=
  ⟨h.1.kp0 hk, h.2.1.kp0 hk, h.2.2.1.trans hk, h.2.2.2⟩
theorem EnQ.wrote {w W W' : World} {H r : Nat} {acc acc' : List Int} {f vx vy : Value} {F X Y : List Int} (h : EnQ w W H r acc f vx vy F X Y) (h1 : RWt W' r 1048576 acc') (hk : Kp [r] W W') : EnQ w W' H r acc' f vx vy F X Y :=
  ⟨h1, h.2.1.kpr hk h.2.2.2.2, kpFresh h.2.2.1 hk h.2.2.2.1, h.2.2.2⟩
theorem ints_cell {k : IntKind} {W : World} {g off n c : Nat} {zs : List Int} (h : IsInts k W (.slice (some ⟨g, off, none⟩) n c) zs) (i : Nat) (hi : i < zs.length) : W.cell? ⟨g, off + i, none⟩ = some (.int k (zs.getD i 0)) := by
  rcases h with ⟨⟨a, e⟩, rfl⟩ | ⟨g', off', c', e, h1, h2, h3⟩
  · simp at hi
  · cases e; exact h3 i hi
theorem ints_one {k : IntKind} {W : World} {g off n c : Nat} {zs : List Int} (h : IsInts k W (.slice (some ⟨g, off, none⟩) n c) zs) (i : Nat) (hi : i < zs.length) : IsInts k W (.slice (some ⟨g, off + i, none⟩) 1 (c - i)) [zs.getD i 0] := by
  rcases h with ⟨⟨a, e⟩, rfl⟩ | ⟨g', off', c', e, h1, h2, h3⟩
  · simp at hi
  · cases e
    refine .inr ⟨g, off + i, c - i, rfl, by simp; omega, by omega, fun j hj => ?_⟩
    obtain rfl : j = 0 := by simpa using hj
    rw [Nat.add_zero]; exact h3 i hi

set_option maxRecDepth 100000 in
set_option maxHeartbeats 4000000 in
theorem renc_calls (v : Value) (o : List (List Pn)) (w : World) (hv : IsOut w v o) (hE : checkO o = 0) (h0 : o ≠ []) :
    Calls Try.prog 50 #[v] w fun e w' => ∃ v', e = .returned (.tuple #[v', .int .i64 (encM o).2]) ∧ IsInts .u8 w' v' (encM o).1 ∧ Kp [] w w' := by
  obtain ⟨hz1, hz2, hz3⟩ := checkO_zero hE
  have HC := Lib.hid (rcheck_calls v o w hv (fun j hj => by have := len_le_cnt o hj; omega) (by omega))
  rw [hE] at HC
  have HH := Lib.hid (fun W (hk : Kp [] w W) => rohull_calls v o W (hv.kp0 hk) hE)
  have HF : Hid (∀ j, j < o.length → (o.getD j []).length ≤ 4096) := fun j hj => by have := len_le_cnt o hj; omega
  have HV := Lib.hid hv
  have HNU : Hid (∀ p ∈ flatTo o o.length, numF p.x = true ∧ numF p.y = true) := flat_nums hz3
  have HNP : Hid (∀ j, j < o.length → ∀ m, m < (o.getD j []).length → ((-9223372036854775808 ≤ ((o.getD j []).getD m pn0).x ∧ ((o.getD j []).getD m pn0).x ≤ 9223372036854775807) ∧ (-9223372036854775808 ≤ ((o.getD j []).getD m pn0).y ∧ ((o.getD j []).getD m pn0).y ≤ 9223372036854775807))) := by
    intro j hj m hm
    have h := HNU.out ((o.getD j []).getD m pn0) (by
      unfold flatTo
      rw [List.take_length, List.mem_flatten]
      refine ⟨o.getD j [], ?_, ?_⟩
      · rw [List.getD_eq_getElem?_getD, List.getElem?_eq_getElem hj]; exact List.getElem_mem hj
      · rw [List.getD_eq_getElem?_getD (l := o.getD j []), List.getElem?_eq_getElem hm]; exact List.getElem_mem hm)
    have h1 := (numF_iff _).1 h.1
    have h2 := (numF_iff _).1 h.2
    omega
  have HKI := Lib.hid (kinds_of hz3)
  have HCT := Lib.hid (fun j hj => Nat.le_trans (cntTo_le o (j := j) hj) hz2)
  obtain ⟨pa, ca, rfl⟩ := hv.form
  obtain ⟨R, hR⟩ : ∃ R, encS (restF o 0) en0 = R := ⟨_, rfl⟩
  have HR := Lib.hid hR
  have HMN : Hid (R = none → encM o = ([], 1)) := fun h => by unfold encM; rw [if_neg (by simpa using hE), if_neg h0, hR, h]
  have HMS : Hid (∀ t, R = some t → encM o = (encB o (hullO o) t, 0)) := fun t h => by unfold encM; rw [if_neg (by simpa using hE), if_neg h0, hR, h]
  have HRE := Lib.hid (restF_end o)
  obtain ⟨N, hN⟩ : ∃ N, o.length = N := ⟨_, rfl⟩
  have HN := Lib.hid hN
  have hN1 : N ≤ 256 := by rw [← hN]; exact hz1
  have hN0 : 0 < N := by rw [← hN]; exact List.length_pos_iff.2 h0
  have hn0 : ((N : Int) == 0) = false := by rw [beq_eq_false_iff_ne]; omega
  rw [hN] at HV HC HCT HRE HH ⊢
  have HBX := Lib.hid (hull_num hz3)
  generalize hullO o = b at *
  generalize encM o = RES at *
  clear hN hv hz1 hz2 hz3 hE hR h0 HNU
  go_enter Try.func50, Try.ntmps50
  go_wp2_with fail
  refine HC.out.mono ?_; rintro e w1 ⟨rfl, hk1⟩
  have HK1 := Lib.hid hk1
  clear hk1 HC
  go_wp2_with fail
  refine (rwu_calls w1.heap.size 1048576 [] 2 (N : Int) (by decide) (by decide) (by omega) (by omega) _ ((RWt.made w1 1048576).kp0 (by (repeat (first | exact Kp.refl _ _ | assumption | refine Kp.drew ?_ | refine Kp.drewN ?_ _ | refine Kp.alloc ?_ _ | (refine Kp.setCell ?_ (by first | (left; simp; done) | (right; simp; try omega)) _) | (refine Kp.trans' ?_ (by assumption) (by simp; try omega)))))) (by simp) (by decide)).mono ?_; rintro e w2 ⟨rfl, hw2, hk2⟩
  have HW2 := Lib.hid hw2
  have HK2 : Hid (Kp [] w w2) := kpFresh (HK1.out.trans (by (repeat (first | exact Kp.refl _ _ | assumption | refine Kp.drew ?_ | refine Kp.drewN ?_ _ | refine Kp.alloc ?_ _ | (refine Kp.setCell ?_ (by first | (left; simp; done) | (right; simp; try omega)) _) | (refine Kp.trans' ?_ (by assumption) (by simp; try omega)))))) hk2 HK1.out.size
  have hr2 : w1.heap.size < w2.heap.size := hw2.lt
  have hr1 : w.heap.size ≤ w1.heap.size := HK1.out.size
  have HV2 := Lib.hid (HV.out.kp0 HK2.out)
  obtain ⟨r, hr⟩ : ∃ r, w1.heap.size = r := ⟨_, rfl⟩
  rw [hr] at HW2 hr2 hr1 ⊢
  clear hw2 hk2 hr HK1
  go_wp2_with fail
  go_loopw [6, 7, 8, 9, 10, 11, 12, 13, 14, 15, 16, 17, 18, 19] (fun f vx vy x y i _ _ _ _ _ _ _ _ wr => ∃ (j : Nat) (s : EnS), j ≤ N ∧ i = .int .i64 j ∧ x = .int .i64 s.lx ∧ y = .int .i64 s.ly ∧ Hid (ThR wr w2.heap.size f vx vy s.fl s.ax s.ay ∧ Kp [] w2 wr) ∧ Hid (EnB s (cntTo o j)) ∧ Hid (encS (restF o j) s = R)) (fun _ _ _ _ _ i _ _ _ _ _ _ _ _ _ => N - (intOf i).toNat)
  case atStart => exact ⟨0, en0, by omega, rfl, rfl, rfl, ⟨ThR.nil _ _, Kp.refl _ _⟩, ⟨rfl, by simp [en0], by simp [en0], by simp [en0], by simp [en0], by simp [en0]⟩, HR.out⟩
  case round =>
    obtain ⟨j, s, hj, rfl, rfl, rfl, HJ, HB, HS⟩ := hrel
    clear HR
    by_cases hlt : j < N
    · have hjo : j < o.length := by rw [HN.out]; exact hlt
      obtain ⟨g1, o1, c1, p1, cv, e1, _, _, h1, hp⟩ := HV2.out.row hjo
      rw [HN.out] at e1
      cases e1
      have HP : Hid (∀ W, Kp [] w2 W → IsPs W (.slice p1 (o.getD j []).length cv) (o.getD j [])) := fun W hW => hp.kp0 hW
      have HL1 : Hid (∀ W, Kp [] w2 W → W.cell? ⟨g1, o1 + j, none⟩ = some (.slice p1 (o.getD j []).length cv)) := fun W hW => hW.cell h1 (by simp)
      have hL := HF.out j hjo
      have HNC := Lib.hid (HNP.out j hjo)
      have HKC := Lib.hid (HKI.out j hjo)
      have HCS : Hid (cntTo o (j + 1) = cntTo o j + (o.getD j []).length ∧ cntTo o j ≤ 4096 ∧ cntTo o (j + 1) ≤ 4096) := ⟨rfl, HCT.out j hj, HCT.out (j + 1) (by omega)⟩
      have HS0 : Hid (encS ((o.getD j []).drop 0 ++ restF o (j + 1)) s = R) := by show _ = _; rw [List.drop_zero, ← restF_at o j hjo]; exact HS.out
      generalize o.getD j [] = c at *
      obtain ⟨L, hcl⟩ : ∃ L, c.length = L := ⟨_, rfl⟩
      have HCL := Lib.hid hcl
      rw [hcl] at h1 hL HP HCS HNC HKC HL1
      clear hcl hp HS h1
      go_wp2_with fail
      go_loopw [6, 7, 8, 9, 10, 12, 13, 14, 15, 16, 17, 18, 19] (fun f vx vy x y i _ _ _ _ _ _ _ wr2 => ∃ (m : Nat) (s2 : EnS), m ≤ L ∧ i = .int .i64 m ∧ x = .int .i64 s2.lx ∧ y = .int .i64 s2.ly ∧ Hid (ThR wr2 w2.heap.size f vx vy s2.fl s2.ax s2.ay ∧ Kp [] w2 wr2) ∧ Hid (EnB s2 (cntTo o j + m)) ∧ Hid (encS (c.drop m ++ restF o (j + 1)) s2 = R)) (fun _ _ _ _ _ i _ _ _ _ _ _ _ _ => L - (intOf i).toNat)
      case atStart => exact ⟨0, s, by omega, rfl, rfl, rfl, HJ.out, HB.out, HS0.out⟩
      case round =>
        obtain ⟨m, s2, hm, rfl, rfl, rfl, HI, HB2, HS2⟩ := hrel
        clear HJ HB HS0
        have h1 := HL1.out _ HI.out.2
        by_cases hml : m < L
        · obtain ⟨g2, o2, q2, e2, _, _, x1, y1, k1⟩ := (HP.out _ HI.out.2).row (i := m) (by rw [HCL.out]; exact hml)
          rw [HCL.out] at e2
          cases e2
          have HTS : Hid (encS (c.getD m pn0 :: (c.drop (m + 1) ++ restF o (j + 1))) s2 = R) := by
            show _ = _
            have hmc : m < c.length := by rw [HCL.out]; exact hml
            have h := HS2.out
            rw [List.drop_eq_getElem_cons hmc] at h
            rw [List.getD_eq_getElem?_getD, List.getElem?_eq_getElem hmc]; exact h
          have HBN := Lib.hid (HNC.out m hml)
          have HKN := Lib.hid (HKC.out m hml)
          generalize c.getD m pn0 = P at *
          have HB3 := Lib.hid (HB2.out.next HBN.out.1 HBN.out.2)
          have hcnt := HCS.out.2.2
          rw [HCS.out.1] at hcnt
          obtain ⟨e1, e2, e3, e4, e5, _⟩ := HB2.out
          have HEP : Hid (encPt s2 P = ⟨s2.fl ++ [flagP P.k (P.x.tdiv 65536 - s2.lx) (P.y.tdiv 65536 - s2.ly)], s2.ax ++ putB (P.x.tdiv 65536 - s2.lx), s2.ay ++ putB (P.y.tdiv 65536 - s2.ly), P.x.tdiv 65536, P.y.tdiv 65536⟩) := rfl
          have HST := Lib.hid ((encS_next P (c.drop (m + 1) ++ restF o (j + 1)) s2).symm.trans HTS.out)
          have HUX := Lib.hid (fun W => runit_calls P.x HBN.out.1.1 HBN.out.1.2 W)
          have HUY := Lib.hid (fun W => runit_calls P.y HBN.out.2.1 HBN.out.2.2 W)
          obtain ⟨bx0, bx1⟩ := tdiv_small P.x HBN.out.1.1 HBN.out.1.2
          obtain ⟨by0, by1⟩ := tdiv_small P.y HBN.out.2.1 HBN.out.2.2
          obtain ⟨l0, l1⟩ := e4
          obtain ⟨l2, l3⟩ := e5
          have hwx : IntKind.i64.wrap (P.x.tdiv 65536 - s2.lx) = P.x.tdiv 65536 - s2.lx := wr64 _ (by omega) (by omega)
          have hwy : IntKind.i64.wrap (P.y.tdiv 65536 - s2.ly) = P.y.tdiv 65536 - s2.ly := wr64 _ (by omega) (by omega)
          have HSX := Lib.hid (fun W => rstep_calls 2 16 (P.x.tdiv 65536 - s2.lx) (by omega) (by omega) W)
          have HSY := Lib.hid (fun W => rstep_calls 4 32 (P.y.tdiv 65536 - s2.ly) (by omega) (by omega) W)
          have HFL : Hid (P.k ≠ 3 → IntKind.u8.wrap (bits .or .i64 (bits .or .i64 (putF 2 16 (P.x.tdiv 65536 - s2.lx)) (putF 4 32 (P.y.tdiv 65536 - s2.ly))) (bits .and .i64 P.k 1)) = flagP P.k (P.x.tdiv 65536 - s2.lx) (P.y.tdiv 65536 - s2.ly)) := fun h => flagP_ref _ _ _ (by have := HKN.out; omega)
          have hlx := putB_len (P.x.tdiv 65536 - s2.lx)
          have hly := putB_len (P.y.tdiv 65536 - s2.ly)
          obtain ⟨A, hA⟩ : ∃ A, s2.fl.length = A := ⟨_, rfl⟩
          obtain ⟨X, hX⟩ : ∃ X, s2.ax.length = X := ⟨_, rfl⟩
          obtain ⟨Y, hY⟩ : ∃ Y, s2.ay.length = Y := ⟨_, rfl⟩
          have HA := Lib.hid hA
          have HX := Lib.hid hX
          have HY := Lib.hid hY
          have hA1 : A ≤ 4096 := by omega
          have hX1 : X ≤ 8192 := by omega
          have hY1 : Y ≤ 8192 := by omega
          obtain ⟨pf, cf, hf⟩ := slice_own HI.out.1.1
          obtain ⟨px, cx, hx⟩ := slice_own HI.out.1.2.1
          obtain ⟨py, cy, hy⟩ := slice_own HI.out.1.2.2.1
          subst hf; subst hx; subst hy
          rw [hA, hX, hY] at HI ⊢
          clear HB2 HS2 hA hX hY e1 e2 e3 HTS
          have hcs : (P.k == 3) = true ∨ ((P.k == 3) = false ∧ unitsB P.x = false) ∨ ((P.k == 3) = false ∧ unitsB P.x = true ∧ unitsB P.y = false) ∨ ((P.k == 3) = false ∧ unitsB P.x = true ∧ unitsB P.y = true) := by
            cases P.k == 3 <;> cases unitsB P.x <;> cases unitsB P.y <;> simp
          rcases hcs with q1 | ⟨q1, q2⟩ | ⟨q1, q2, q3⟩ | ⟨q1, q2, q3⟩
          · have HRN : Hid (R = none) := by
              show _ = _; rw [← HST.out, decide_eq_true (by simpa using q1 : P.k = 3)]; simp
            have HRS := Lib.hid (HMN.out HRN.out)
            clear HST HFL HSX HSY HUX HUY HEP
            go_wp2_with fail
            go_ret2
            rw [HRS.out]
            exact ⟨_, rfl, IsInts.nil _ _, HK2.out.trans (HI.out.2.trans (by (repeat (first | exact Kp.refl _ _ | assumption | refine Kp.drew ?_ | refine Kp.drewN ?_ _ | refine Kp.alloc ?_ _ | (refine Kp.setCell ?_ (by first | (left; simp; done) | (right; simp; try omega)) _) | (refine Kp.trans' ?_ (by assumption) (by simp; try omega))))))⟩
          · have HRN : Hid (R = none) := by
              show _ = _; rw [← HST.out, q2]; simp
            have HRS := Lib.hid (HMN.out HRN.out)
            rw [q2] at HUX
            clear HST HFL HSX HSY HUY HEP
            go_wp2_with fail
            refine (HUX.out _).mono ?_; rintro e w3 ⟨rfl, hwe⟩
            subst hwe
            go_wp2_with fail
            go_ret2
            rw [HRS.out]
            exact ⟨_, rfl, IsInts.nil _ _, HK2.out.trans (HI.out.2.trans (by (repeat (first | exact Kp.refl _ _ | assumption | refine Kp.drew ?_ | refine Kp.drewN ?_ _ | refine Kp.alloc ?_ _ | (refine Kp.setCell ?_ (by first | (left; simp; done) | (right; simp; try omega)) _) | (refine Kp.trans' ?_ (by assumption) (by simp; try omega))))))⟩
          · have HRN : Hid (R = none) := by
              show _ = _; rw [← HST.out, q2, q3]; simp
            have HRS := Lib.hid (HMN.out HRN.out)
            rw [q2] at HUX
            rw [q3] at HUY
            clear HST HFL HSX HSY HEP
            go_wp2_with fail
            refine (HUX.out _).mono ?_; rintro e w3 ⟨rfl, hwe⟩
            subst hwe
            go_wp2_with fail
            refine (HUY.out _).mono ?_; rintro e w3 ⟨rfl, hwe⟩
            subst hwe
            go_wp2_with fail
            go_ret2
            rw [HRS.out]
            exact ⟨_, rfl, IsInts.nil _ _, HK2.out.trans (HI.out.2.trans (by (repeat (first | exact Kp.refl _ _ | assumption | refine Kp.drew ?_ | refine Kp.drewN ?_ _ | refine Kp.alloc ?_ _ | (refine Kp.setCell ?_ (by first | (left; simp; done) | (right; simp; try omega)) _) | (refine Kp.trans' ?_ (by assumption) (by simp; try omega))))))⟩
          · have hk3 : P.k ≠ 3 := by simpa using q1
            have HFQ := Lib.hid (HFL.out hk3)
            have HST2 : Hid ((if (putK (P.x.tdiv 65536 - s2.lx) && putK (P.y.tdiv 65536 - s2.ly)) = true then encS (c.drop (m + 1) ++ restF o (j + 1)) (encPt s2 P) else none) = R) := by
              show _ = _
              have h := HST.out
              rw [q2, q3, decide_eq_false hk3, Bool.not_false, Bool.and_self, Bool.and_self, Bool.true_and] at h
              exact h
            rw [q2] at HUX
            rw [q3] at HUY
            clear HST HFL hk3
            go_wp2_with fail
            refine (HUX.out _).mono ?_; rintro e w3 ⟨rfl, hwe⟩
            subst hwe
            go_wp2_with fail
            refine (HUY.out _).mono ?_; rintro e w3 ⟨rfl, hwe⟩
            subst hwe
            clear HUX HUY
            go_wp2_with fail
            refine (HSX.out _).mono ?_; rintro e w3 ⟨v3, rfl, hi3, hk3, hb3⟩
            have HI3 := Lib.hid hi3
            have HK3 := Lib.hid hk3
            obtain ⟨p3, c3, hv3⟩ := hi3.form
            subst hv3
            clear hi3 HSX
            have a0 : w3.cell? ⟨wr.heap.size, 0, none⟩ = some (.int .i64 P.x) := hk3.cell (by simp) (by simp)
            have a1 : w3.cell? ⟨wr.heap.size, 1, none⟩ = some (.int .i64 P.y) := hk3.cell (by simp) (by simp)
            have a2 : w3.cell? ⟨wr.heap.size, 2, none⟩ = some (.int .i64 P.k) := hk3.cell (by simp) (by simp)
            have HBB3 : Hid (∀ k, blockOf (.slice p3 (putB (P.x.tdiv 65536 - s2.lx)).length c3) = some k → wr.heap.size ≤ k) := fun k hk => by have := hb3 k hk; simp at this; omega
            clear hk3 hb3
            go_wp2_with fail
            refine (HSY.out _).mono ?_; rintro e w4 ⟨v4, rfl, hi4, hk4, hb4⟩
            have HI4 := Lib.hid hi4
            obtain ⟨p4, c4, hv4⟩ := hi4.form
            subst hv4
            have HK4 : Hid (Kp [] wr w4) := Kp.trans (Kp.trans (by (repeat (first | exact Kp.refl _ _ | assumption | refine Kp.drew ?_ | refine Kp.drewN ?_ _ | refine Kp.alloc ?_ _ | (refine Kp.setCell ?_ (by first | (left; simp; done) | (right; simp; try omega)) _) | (refine Kp.trans' ?_ (by assumption) (by simp; try omega))))) HK3.out) hk4
            have HBB4 : Hid (∀ k, blockOf (.slice p4 (putB (P.y.tdiv 65536 - s2.ly)).length c4) = some k → wr.heap.size ≤ k) := fun k hk => by have h1 := hb4 k hk; have h2 := HK3.out.size; simp at h2; omega
            have HI34 : Hid (IsInts .u8 w4 (.slice p3 (putB (P.x.tdiv 65536 - s2.lx)).length c3) (putB (P.x.tdiv 65536 - s2.lx))) := HI3.out.kp0 hk4
            have d0 := hk4.cell a0 (by simp)
            have d1 := hk4.cell a1 (by simp)
            have d2 := hk4.cell a2 (by simp)
            have HT4 : Hid (ThR w4 w2.heap.size (.slice pf A cf) (.slice px X cx) (.slice py Y cy) s2.fl s2.ax s2.ay) := HI.out.1.kp0 HK4.out
            have HK24 : Hid (Kp [] w2 w4) := HI.out.2.trans HK4.out
            have hs4 : w2.heap.size ≤ w4.heap.size := HK24.out.size
            have HOF : Hid (∀ t ∈ (Value.slice pf A cf).ownBlock.toList, t < wr.heap.size ∧ w2.heap.size ≤ t) := fun t ht => by have := HI.out.1.1.lt t (by simpa using ht); omega
            have HOX : Hid (∀ t ∈ (Value.slice px X cx).ownBlock.toList, t < wr.heap.size ∧ w2.heap.size ≤ t) := fun t ht => by have := HI.out.1.2.1.lt t (by simpa using ht); omega
            have HOY : Hid (∀ t ∈ (Value.slice py Y cy).ownBlock.toList, t < wr.heap.size ∧ w2.heap.size ≤ t) := fun t ht => by have := HI.out.1.2.2.1.lt t (by simpa using ht); omega
            obtain ⟨kx, hkx⟩ : ∃ kk, putK (P.x.tdiv 65536 - s2.lx) = kk := ⟨_, rfl⟩
            obtain ⟨ky, hky⟩ : ∃ kk, putK (P.y.tdiv 65536 - s2.ly) = kk := ⟨_, rfl⟩
            rw [hkx, hky] at HST2
            rw [hkx, hky]
            obtain ⟨fb, hfb⟩ : ∃ fb, flagP P.k (P.x.tdiv 65536 - s2.lx) (P.y.tdiv 65536 - s2.ly) = fb := ⟨_, rfl⟩
            rw [hfb] at HEP HFQ
            generalize putF 2 16 (P.x.tdiv 65536 - s2.lx) = fx at *
            generalize putF 4 32 (P.y.tdiv 65536 - s2.ly) = fy at *
            generalize putB (P.x.tdiv 65536 - s2.lx) = BX at *
            generalize putB (P.y.tdiv 65536 - s2.ly) = BY at *
            obtain ⟨bxl, hbxl⟩ : ∃ n, BX.length = n := ⟨_, rfl⟩
            obtain ⟨byl, hbyl⟩ : ∃ n, BY.length = n := ⟨_, rfl⟩
            have HBXL := Lib.hid hbxl
            have HBYL := Lib.hid hbyl
            rw [hbxl] at hlx HI34 HBB3 ⊢
            rw [hbyl] at hly HI4 HBB4 ⊢
            clear hi4 hk4 hb4 HSY HI3 HK3 a0 a1 a2 hkx hky hfb hbxl hbyl x1 y1 k1 hwx hwy
            cases kx with
            | false =>
              have HRN : Hid (R = none) := by show _ = _; rw [← HST2.out]; simp
              have HRS := Lib.hid (HMN.out HRN.out)
              clear HST2 HFQ HEP
              go_wp2_with fail
              go_ret2
              rw [HRS.out]
              exact ⟨_, rfl, IsInts.nil _ _, HK2.out.trans (HK24.out.trans (by (repeat (first | exact Kp.refl _ _ | assumption | refine Kp.drew ?_ | refine Kp.drewN ?_ _ | refine Kp.alloc ?_ _ | (refine Kp.setCell ?_ (by first | (left; simp; done) | (right; simp; try omega)) _) | (refine Kp.trans' ?_ (by assumption) (by simp; try omega))))))⟩
            | true =>
              cases ky with
              | false =>
                have HRN : Hid (R = none) := by show _ = _; rw [← HST2.out]; simp
                have HRS := Lib.hid (HMN.out HRN.out)
                clear HST2 HFQ HEP
                go_wp2_with fail
                go_ret2
                rw [HRS.out]
                exact ⟨_, rfl, IsInts.nil _ _, HK2.out.trans (HK24.out.trans (by (repeat (first | exact Kp.refl _ _ | assumption | refine Kp.drew ?_ | refine Kp.drewN ?_ _ | refine Kp.alloc ?_ _ | (refine Kp.setCell ?_ (by first | (left; simp; done) | (right; simp; try omega)) _) | (refine Kp.trans' ?_ (by assumption) (by simp; try omega))))))⟩
              | true =>
                have HST3 : Hid (encS (c.drop (m + 1) ++ restF o (j + 1)) (encPt s2 P) = R) := by show _ = _; have := HST2.out; simpa using this
                clear HST2
                go_wp2_with fail
                go_quiet (fail)
                have hfq := HFQ.out
                go_wp2_with (at_builtin; go_loud (refine wpList_pushM rfl _ _ 22 5 .u8 1 Try.underlying22 infoByte (by decide) rfl w2.heap.size (.slice pf A cf) s2.fl A HA.out rfl ?hown_1 w4.heap.size [fb] 1 rfl (by decide) rfl ?hc_1 ?hl_1 ?hbase_1 ?hk_1))
                case hown_1 => have h := HT4.out.1; rw [HA.out] at h; exact Kp.row (S := []) (by (repeat (first | exact Kp.refl _ _ | assumption | refine Kp.drew ?_ | refine Kp.drewN ?_ _ | refine Kp.alloc ?_ _ | (refine Kp.setCell ?_ (by first | (left; simp; done) | (right; simp; try omega)) _) | (refine Kp.trans' ?_ (by assumption) (by simp; try omega))))) h (by simp)
                try case hc_1 => exact litI (w := w4.drewN _) (k := .u8) (zs := [fb]) (Kp.refl _ _)
                case hl_1 => omega
                case hbase_1 => simp; omega
                case hk_1 =>
                intro v5 w5 hown5 hk5 hb5
                have HT5 : Hid (ThR w5 w2.heap.size v5 (.slice px X cx) (.slice py Y cy) (s2.fl ++ [fb]) s2.ax s2.ay) := by
                  refine ThR.push (N := [fb]) (n := A + 1) (HT4.out.kp0 ?_) (by rw [List.length_append, HA.out]; rfl) (by rw [List.map_append]; exact hown5) hk5 (fun k hk => by have := hb5 k hk; simpa using this)
                  (repeat (first | exact Kp.refl _ _ | assumption | refine Kp.drew ?_ | refine Kp.drewN ?_ _ | refine Kp.alloc ?_ _ | (refine Kp.setCell ?_ (by first | (left; simp; done) | (right; simp; try omega)) _) | (refine Kp.trans' ?_ (by assumption) (by simp; try omega))))
                have HK25 : Hid (Kp [] w2 w5) := Kp.trans' (Kp.trans HK24.out (by (repeat (first | exact Kp.refl _ _ | assumption | refine Kp.drew ?_ | refine Kp.drewN ?_ _ | refine Kp.alloc ?_ _ | (refine Kp.setCell ?_ (by first | (left; simp; done) | (right; simp; try omega)) _) | (refine Kp.trans' ?_ (by assumption) (by simp; try omega)))))) hk5 (fun t ht => .inr (HOF.out t ht).2)
                have hs5 : w2.heap.size ≤ w5.heap.size := HK25.out.size
                have HI35 : Hid (IsInts .u8 w5 (.slice p3 bxl c3) BX) := (HI34.out.kp0 (by (repeat (first | exact Kp.refl _ _ | assumption | refine Kp.drew ?_ | refine Kp.drewN ?_ _ | refine Kp.alloc ?_ _ | (refine Kp.setCell ?_ (by first | (left; simp; done) | (right; simp; try omega)) _) | (refine Kp.trans' ?_ (by assumption) (by simp; try omega)))))).kp hk5 (fun t ht e => by have h1 := (HOF.out t ht).1; have h2 := HBB3.out t e; omega)
                have HI45 : Hid (IsInts .u8 w5 (.slice p4 byl c4) BY) := (HI4.out.kp0 (by (repeat (first | exact Kp.refl _ _ | assumption | refine Kp.drew ?_ | refine Kp.drewN ?_ _ | refine Kp.alloc ?_ _ | (refine Kp.setCell ?_ (by first | (left; simp; done) | (right; simp; try omega)) _) | (refine Kp.trans' ?_ (by assumption) (by simp; try omega)))))).kp hk5 (fun t ht e => by have h1 := (HOF.out t ht).1; have h2 := HBB4.out t e; omega)
                clear hown5 hk5 hb5 HT4 HK24 HI34 HI4 d0 d1 d2 hfq
                go_wp2_with (at_builtin; go_loud (refine wpList_appM rfl _ _ 22 5 .u8 1 Try.underlying22 infoByte (by decide) rfl w2.heap.size (.slice px X cx) s2.ax X HX.out rfl ?hown_2 (.slice p3 bxl c3) BX rfl ?hsrc_2 ?hl_2 ?hbase_2 ?hk_2))
                case hown_2 => have h := HT5.out.2.1; rw [HX.out] at h; exact Kp.row (S := []) (by (repeat (first | exact Kp.refl _ _ | assumption | refine Kp.drew ?_ | refine Kp.drewN ?_ _ | refine Kp.alloc ?_ _ | (refine Kp.setCell ?_ (by first | (left; simp; done) | (right; simp; try omega)) _) | (refine Kp.trans' ?_ (by assumption) (by simp; try omega))))) h (by simp)
                case hsrc_2 => exact HI35.out.kp0 (by (repeat (first | exact Kp.refl _ _ | assumption | refine Kp.drew ?_ | refine Kp.drewN ?_ _ | refine Kp.alloc ?_ _ | (refine Kp.setCell ?_ (by first | (left; simp; done) | (right; simp; try omega)) _) | (refine Kp.trans' ?_ (by assumption) (by simp; try omega)))))
                case hl_2 => rw [HBXL.out]; omega
                case hbase_2 => (try simp); omega
                case hk_2 =>
                intro v6 w6 hown6 hk6 hb6
                have HT6 : Hid (ThR w6 w2.heap.size v5 v6 (.slice py Y cy) (s2.fl ++ [fb]) (s2.ax ++ BX) s2.ay) := by
                  refine ThR.rot (ThR.rot (ThR.push (N := BX) (n := X + BX.length) (ThR.rot (HT5.out.kp0 ?_)) (by rw [List.length_append, HX.out]) (by rw [List.map_append]; exact hown6) hk6 (fun k hk => by have := hb6 k hk; simpa using this)))
                  (repeat (first | exact Kp.refl _ _ | assumption | refine Kp.drew ?_ | refine Kp.drewN ?_ _ | refine Kp.alloc ?_ _ | (refine Kp.setCell ?_ (by first | (left; simp; done) | (right; simp; try omega)) _) | (refine Kp.trans' ?_ (by assumption) (by simp; try omega))))
                have HK26 : Hid (Kp [] w2 w6) := Kp.trans' (Kp.trans HK25.out (by (repeat (first | exact Kp.refl _ _ | assumption | refine Kp.drew ?_ | refine Kp.drewN ?_ _ | refine Kp.alloc ?_ _ | (refine Kp.setCell ?_ (by first | (left; simp; done) | (right; simp; try omega)) _) | (refine Kp.trans' ?_ (by assumption) (by simp; try omega)))))) hk6 (fun t ht => .inr (HOX.out t ht).2)
                have hs6 : w2.heap.size ≤ w6.heap.size := HK26.out.size
                have HI46 : Hid (IsInts .u8 w6 (.slice p4 byl c4) BY) := (HI45.out.kp0 (by (repeat (first | exact Kp.refl _ _ | assumption | refine Kp.drew ?_ | refine Kp.drewN ?_ _ | refine Kp.alloc ?_ _ | (refine Kp.setCell ?_ (by first | (left; simp; done) | (right; simp; try omega)) _) | (refine Kp.trans' ?_ (by assumption) (by simp; try omega)))))).kp hk6 (fun t ht e => by have h1 := (HOX.out t ht).1; have h2 := HBB4.out t e; omega)
                clear hown6 hk6 hb6 HT5 HK25 HI35 HI45
                go_wp2_with (at_builtin; go_loud (refine wpList_appM rfl _ _ 22 5 .u8 1 Try.underlying22 infoByte (by decide) rfl w2.heap.size (.slice py Y cy) s2.ay Y HY.out rfl ?hown_3 (.slice p4 byl c4) BY rfl ?hsrc_3 ?hl_3 ?hbase_3 ?hk_3))
                case hown_3 => have h := HT6.out.2.2.1; rw [HY.out] at h; exact Kp.row (S := []) (by (repeat (first | exact Kp.refl _ _ | assumption | refine Kp.drew ?_ | refine Kp.drewN ?_ _ | refine Kp.alloc ?_ _ | (refine Kp.setCell ?_ (by first | (left; simp; done) | (right; simp; try omega)) _) | (refine Kp.trans' ?_ (by assumption) (by simp; try omega))))) h (by simp)
                case hsrc_3 => exact HI46.out.kp0 (by (repeat (first | exact Kp.refl _ _ | assumption | refine Kp.drew ?_ | refine Kp.drewN ?_ _ | refine Kp.alloc ?_ _ | (refine Kp.setCell ?_ (by first | (left; simp; done) | (right; simp; try omega)) _) | (refine Kp.trans' ?_ (by assumption) (by simp; try omega)))))
                case hl_3 => rw [HBYL.out]; omega
                case hbase_3 => (try simp); omega
                case hk_3 =>
                intro v7 w7 hown7 hk7 hb7
                have HT7 : Hid (ThR w7 w2.heap.size v5 v6 v7 (s2.fl ++ [fb]) (s2.ax ++ BX) (s2.ay ++ BY)) := by
                  refine ThR.rot (ThR.push (N := BY) (n := Y + BY.length) (ThR.rot (ThR.rot (HT6.out.kp0 ?_))) (by rw [List.length_append, HY.out]) (by rw [List.map_append]; exact hown7) hk7 (fun k hk => by have := hb7 k hk; simpa using this))
                  (repeat (first | exact Kp.refl _ _ | assumption | refine Kp.drew ?_ | refine Kp.drewN ?_ _ | refine Kp.alloc ?_ _ | (refine Kp.setCell ?_ (by first | (left; simp; done) | (right; simp; try omega)) _) | (refine Kp.trans' ?_ (by assumption) (by simp; try omega))))
                have HK27 : Hid (Kp [] w2 w7) := Kp.trans' (Kp.trans HK26.out (by (repeat (first | exact Kp.refl _ _ | assumption | refine Kp.drew ?_ | refine Kp.drewN ?_ _ | refine Kp.alloc ?_ _ | (refine Kp.setCell ?_ (by first | (left; simp; done) | (right; simp; try omega)) _) | (refine Kp.trans' ?_ (by assumption) (by simp; try omega)))))) hk7 (fun t ht => .inr (HOY.out t ht).2)
                have HTK : Hid (ThR w7 w2.heap.size v5 v6 v7 (encPt s2 P).fl (encPt s2 P).ax (encPt s2 P).ay ∧ Kp [] w2 w7) := by
                  rw [HEP.out]; exact ⟨HT7.out, HK27.out⟩
                clear hown7 hk7 hb7 HT6 HK26 HI46 HT7 HK27
                go_wp2_with fail
                go_roundw
                case rel => first | exact ⟨m + 1, encPt s2 P, by omega, int_eq' (by omega), rfl, rfl, HTK, HB3, HST3⟩ | ((repeat apply Exists.intro); exact ⟨⟨m + 1, encPt s2 P, by omega, int_eq' (by omega), rfl, rfl, HTK, HB3, HST3⟩, rfl⟩)
                case measure => simp [intOf] <;> omega
        · obtain rfl : m = L := by omega
          have HFB : Hid (EnB s2 (cntTo o (j + 1))) := by show EnB _ _; rw [HCS.out.1]; exact HB2.out
          have HFS : Hid (encS (restF o (j + 1)) s2 = R) := by
            have h := HS2.out
            rw [List.drop_eq_nil_of_le (by rw [HCL.out]; exact Nat.le_refl _), List.nil_append] at h
            exact h
          clear HB2 HS2
          go_wp2_with fail
          go_roundw
          case rel => first | exact ⟨j + 1, s2, by omega, int_eq' (by omega), rfl, rfl, HI, HFB, HFS⟩ | ((repeat apply Exists.intro); exact ⟨⟨j + 1, s2, by omega, int_eq' (by omega), rfl, rfl, HI, HFB, HFS⟩, rfl⟩)
          case measure => simp [intOf] <;> omega
    · obtain rfl : j = N := by omega
      have hst : R = some s := by rw [← HS.out, HRE.out j (Nat.le_refl _)]; rfl
      have HRS := Lib.hid (HMS.out s hst)
      obtain ⟨e1, e2, e3, _, _, hbyte⟩ := HB.out
      have HBY := Lib.hid hbyte
      have hcn := HCT.out j (Nat.le_refl _)
      have hpl := packM_len s.fl.length s.fl
      have HE : Hid (encB o b s = ((((encTop j b ++ encEnds o j) ++ bytesN 2 0) ++ packM s.fl.length s.fl) ++ s.ax) ++ s.ay) := by show _ = _; unfold encB; rw [HN.out]
      obtain ⟨A, hA⟩ : ∃ A, s.fl.length = A := ⟨_, rfl⟩
      obtain ⟨X, hX⟩ : ∃ X, s.ax.length = X := ⟨_, rfl⟩
      obtain ⟨Y, hY⟩ : ∃ Y, s.ay.length = Y := ⟨_, rfl⟩
      have HA := Lib.hid hA
      have HX := Lib.hid hX
      have HY := Lib.hid hY
      have hA1 : A ≤ 4096 := by omega
      have hX1 : X ≤ 8192 := by omega
      have hY1 : Y ≤ 8192 := by omega
      have hpl2 : (packM s.fl.length s.fl).length ≤ 8192 := by omega
      obtain ⟨pf, cf, hf⟩ := slice_own HJ.out.1.1
      obtain ⟨px, cx, hx⟩ := slice_own HJ.out.1.2.1
      obtain ⟨py, cy, hy⟩ := slice_own HJ.out.1.2.2.1
      subst hf; subst hx; subst hy
      rw [hA, hX, hY] at HJ ⊢
      rw [hA] at hpl2 HE
      have Q0 : Hid (EnQ w wr w2.heap.size r ([] ++ bytesN 2 (j : Int)) (.slice pf A cf) (.slice px X cx) (.slice py Y cy) s.fl s.ax s.ay) := ⟨HW2.out.kp0 HJ.out.2, HJ.out.1, HK2.out.trans HJ.out.2, hr1, hr2⟩
      obtain ⟨⟨q1, q2⟩, ⟨q3, q4⟩, ⟨q5, q6⟩, ⟨q7, q8⟩⟩ := HBX.out.units
      clear HB HS hst e1 e2 e3 hbyte hcn hpl hA hX hY HMN HMS HJ HW2 HF HNP HKI
      go_wp2_with fail
      refine (HH.out _ (Q0.out.2.2.1.trans (by (repeat (first | exact Kp.refl _ _ | assumption | refine Kp.drew ?_ | refine Kp.drewN ?_ _ | refine Kp.alloc ?_ _ | (refine Kp.setCell ?_ (by first | (left; simp; done) | (right; simp; try omega)) _) | (refine Kp.trans' ?_ (by assumption) (by simp; try omega))))))).mono ?_; rintro e w3 ⟨rfl, hk3⟩
      have Q3 := Lib.hid (Q0.out.kp0 (Kp.trans (by (repeat (first | exact Kp.refl _ _ | assumption | refine Kp.drew ?_ | refine Kp.drewN ?_ _ | refine Kp.alloc ?_ _ | (refine Kp.setCell ?_ (by first | (left; simp; done) | (right; simp; try omega)) _) | (refine Kp.trans' ?_ (by assumption) (by simp; try omega))))) hk3))
      rw [show bxV b = .agg #[.int .i64 b.x0, .int .i64 b.y0, .int .i64 b.x1, .int .i64 b.y1] from rfl]
      have hr3 : r < w3.heap.size := Q3.out.1.lt
      clear hk3 HH
      go_wp2_with fail
      refine (rwu_calls r 1048576 ([] ++ bytesN 2 (j : Int)) 2 (b.x0.tdiv 65536) (by decide) (by decide) (by omega) (by omega) _ (Q3.out.kp0 (by (repeat (first | exact Kp.refl _ _ | assumption | refine Kp.drew ?_ | refine Kp.drewN ?_ _ | refine Kp.alloc ?_ _ | (refine Kp.setCell ?_ (by first | (left; simp; done) | (right; simp; try omega)) _) | (refine Kp.trans' ?_ (by assumption) (by simp; try omega)))))).1 (by simp [bytesN_length]) (by decide)).mono ?_; rintro e w4 ⟨rfl, hw4, hk4⟩
      have Q4 := Lib.hid ((Q3.out.kp0 (by (repeat (first | exact Kp.refl _ _ | assumption | refine Kp.drew ?_ | refine Kp.drewN ?_ _ | refine Kp.alloc ?_ _ | (refine Kp.setCell ?_ (by first | (left; simp; done) | (right; simp; try omega)) _) | (refine Kp.trans' ?_ (by assumption) (by simp; try omega)))))).wrote hw4 hk4)
      have b1 : w4.cell? ⟨w3.heap.size, 1, none⟩ = some (.int .i64 b.y0) := hk4.cell (by simp) (by simp; omega)
      have b2 : w4.cell? ⟨w3.heap.size, 2, none⟩ = some (.int .i64 b.x1) := hk4.cell (by simp) (by simp; omega)
      have b3 : w4.cell? ⟨w3.heap.size, 3, none⟩ = some (.int .i64 b.y1) := hk4.cell (by simp) (by simp; omega)
      clear hw4 hk4
      go_wp2_with fail
      refine (rwu_calls r 1048576 (([] ++ bytesN 2 (j : Int)) ++ bytesN 2 (b.x0.tdiv 65536)) 2 (b.y0.tdiv 65536) (by decide) (by decide) (by omega) (by omega) _ (Q4.out.kp0 (by (repeat (first | exact Kp.refl _ _ | assumption | refine Kp.drew ?_ | refine Kp.drewN ?_ _ | refine Kp.alloc ?_ _ | (refine Kp.setCell ?_ (by first | (left; simp; done) | (right; simp; try omega)) _) | (refine Kp.trans' ?_ (by assumption) (by simp; try omega)))))).1 (by simp [bytesN_length]) (by decide)).mono ?_; rintro e w5 ⟨rfl, hw5, hk5⟩
      have Q5 := Lib.hid ((Q4.out.kp0 (by (repeat (first | exact Kp.refl _ _ | assumption | refine Kp.drew ?_ | refine Kp.drewN ?_ _ | refine Kp.alloc ?_ _ | (refine Kp.setCell ?_ (by first | (left; simp; done) | (right; simp; try omega)) _) | (refine Kp.trans' ?_ (by assumption) (by simp; try omega)))))).wrote hw5 hk5)
      replace b2 : w5.cell? ⟨w3.heap.size, 2, none⟩ = some (.int .i64 b.x1) := hk5.cell (by simpa using b2) (by simp; omega)
      replace b3 : w5.cell? ⟨w3.heap.size, 3, none⟩ = some (.int .i64 b.y1) := hk5.cell (by simpa using b3) (by simp; omega)
      clear hw5 hk5 b1
      go_wp2_with fail
      refine (rwu_calls r 1048576 ((([] ++ bytesN 2 (j : Int)) ++ bytesN 2 (b.x0.tdiv 65536)) ++ bytesN 2 (b.y0.tdiv 65536)) 2 (b.x1.tdiv 65536) (by decide) (by decide) (by omega) (by omega) _ (Q5.out.kp0 (by (repeat (first | exact Kp.refl _ _ | assumption | refine Kp.drew ?_ | refine Kp.drewN ?_ _ | refine Kp.alloc ?_ _ | (refine Kp.setCell ?_ (by first | (left; simp; done) | (right; simp; try omega)) _) | (refine Kp.trans' ?_ (by assumption) (by simp; try omega)))))).1 (by simp [bytesN_length]) (by decide)).mono ?_; rintro e w6 ⟨rfl, hw6, hk6⟩
      have Q6 := Lib.hid ((Q5.out.kp0 (by (repeat (first | exact Kp.refl _ _ | assumption | refine Kp.drew ?_ | refine Kp.drewN ?_ _ | refine Kp.alloc ?_ _ | (refine Kp.setCell ?_ (by first | (left; simp; done) | (right; simp; try omega)) _) | (refine Kp.trans' ?_ (by assumption) (by simp; try omega)))))).wrote hw6 hk6)
      replace b3 : w6.cell? ⟨w3.heap.size, 3, none⟩ = some (.int .i64 b.y1) := hk6.cell (by simpa using b3) (by simp; omega)
      clear hw6 hk6 b2
      go_wp2_with fail
      refine (rwu_calls r 1048576 (((([] ++ bytesN 2 (j : Int)) ++ bytesN 2 (b.x0.tdiv 65536)) ++ bytesN 2 (b.y0.tdiv 65536)) ++ bytesN 2 (b.x1.tdiv 65536)) 2 (b.y1.tdiv 65536) (by decide) (by decide) (by omega) (by omega) _ (Q6.out.kp0 (by (repeat (first | exact Kp.refl _ _ | assumption | refine Kp.drew ?_ | refine Kp.drewN ?_ _ | refine Kp.alloc ?_ _ | (refine Kp.setCell ?_ (by first | (left; simp; done) | (right; simp; try omega)) _) | (refine Kp.trans' ?_ (by assumption) (by simp; try omega)))))).1 (by simp [bytesN_length]) (by decide)).mono ?_; rintro e w7 ⟨rfl, hw7, hk7⟩
      have Q7 := Lib.hid ((Q6.out.kp0 (by (repeat (first | exact Kp.refl _ _ | assumption | refine Kp.drew ?_ | refine Kp.drewN ?_ _ | refine Kp.alloc ?_ _ | (refine Kp.setCell ?_ (by first | (left; simp; done) | (right; simp; try omega)) _) | (refine Kp.trans' ?_ (by assumption) (by simp; try omega)))))).wrote hw7 hk7)
      have Q8 : Hid (EnQ w w7 w2.heap.size r (encTop j b ++ encEnds o 0) (.slice pf A cf) (.slice px X cx) (.slice py Y cy) s.fl s.ax s.ay) := by show EnQ _ _ _ _ _ _ _ _ _ _ _; rw [encEnds, List.append_nil]; exact Q7.out
      clear hw7 hk7 b3 Q0 Q3 Q4 Q5 Q6 Q7 q1 q2 q3 q4 q5 q6 q7 q8
      go_wp2_with fail
      go_loopw [21, 22] (fun l i wr => ∃ m : Nat, m ≤ j ∧ i = .int .i64 m ∧ l = .int .i64 (((cntTo o m : Nat) : Int) - 1) ∧ Hid (EnQ w wr w2.heap.size r (encTop j b ++ encEnds o m) (.slice pf A cf) (.slice px X cx) (.slice py Y cy) s.fl s.ax s.ay)) (fun _ i _ => j - (intOf i).toNat)
      case atStart => exact ⟨0, by omega, rfl, rfl, Q8.out⟩
      case round =>
        obtain ⟨m, hm, rfl, rfl, HI⟩ := hrel
        clear Q8
        by_cases hml : m < j
        · obtain ⟨g1, o1, c1, p1, cv, e1, _, _, h1, hp⟩ := (HV.out.kp0 HI.out.2.2.1).row (i := m) (by rw [HN.out]; exact hml)
          rw [HN.out] at e1
          cases e1
          have HSL : Hid ((encTop j b ++ encEnds o m).length = 10 + 2 * m) := by show _ = _; rw [List.length_append, encTop_len, encEnds_len]
          have hcm := HCT.out (m + 1) (by omega)
          have hce : cntTo o (m + 1) = cntTo o m + (o.getD m []).length := rfl
          obtain ⟨L, hL⟩ : ∃ L, (o.getD m []).length = L := ⟨_, rfl⟩
          rw [hL] at h1 hce
          rw [hce] at hcm
          have HST : Hid (encTop j b ++ encEnds o (m + 1) = (encTop j b ++ encEnds o m) ++ bytesN 2 (((cntTo o m : Nat) : Int) - 1 + (L : Int)) ∧ (((cntTo o (m + 1) : Nat) : Int) - 1 = ((cntTo o m : Nat) : Int) - 1 + (L : Int))) := by
            have e2 : ((cntTo o (m + 1) : Nat) : Int) - 1 = ((cntTo o m : Nat) : Int) - 1 + (L : Int) := by rw [hce]; push_cast; omega
            exact ⟨by rw [encEnds, e2, List.append_assoc], e2⟩
          generalize encTop j b ++ encEnds o m = ac at *
          generalize cntTo o m = C at *
          have hC1 : C ≤ 4096 := by omega
          have hL1 : L ≤ 4096 := by omega
          have HU := Lib.hid (fun W h => rwu_calls r 1048576 ac 2 ((C : Int) - 1 + (L : Int)) (by decide) (by decide) (by omega) (by omega) W h (by have := HSL.out; omega) (by decide))
          clear hp hL hce hcm
          go_wp2_with fail
          refine (HU.out _ (HI.out.kp0 (by (repeat (first | exact Kp.refl _ _ | assumption | refine Kp.drew ?_ | refine Kp.drewN ?_ _ | refine Kp.alloc ?_ _ | (refine Kp.setCell ?_ (by first | (left; simp; done) | (right; simp; try omega)) _) | (refine Kp.trans' ?_ (by assumption) (by simp; try omega)))))).1).mono ?_; rintro e w8 ⟨rfl, hw8, hk8⟩
          have HS8 : Hid (EnQ w w8 w2.heap.size r (encTop j b ++ encEnds o (m + 1)) (.slice pf A cf) (.slice px X cx) (.slice py Y cy) s.fl s.ax s.ay) := by
            show EnQ _ _ _ _ _ _ _ _ _ _ _
            rw [HST.out.1]; exact (HI.out.kp0 (by (repeat (first | exact Kp.refl _ _ | assumption | refine Kp.drew ?_ | refine Kp.drewN ?_ _ | refine Kp.alloc ?_ _ | (refine Kp.setCell ?_ (by first | (left; simp; done) | (right; simp; try omega)) _) | (refine Kp.trans' ?_ (by assumption) (by simp; try omega)))))).wrote hw8 hk8
          clear hw8 hk8 HU
          go_wp2_with fail
          go_roundw
          case rel => first | exact ⟨m + 1, by omega, int_eq' (by omega), int_eq' (by rw [HST.out.2]), HS8⟩ | ((repeat apply Exists.intro); exact ⟨⟨m + 1, by omega, int_eq' (by omega), int_eq' (by rw [HST.out.2]), HS8⟩, rfl⟩)
          case measure => simp [intOf]; omega
        · obtain rfl : m = j := by omega
          have HACL : Hid ((encTop m b ++ encEnds o m).length = 10 + 2 * m) := by show _ = _; rw [List.length_append, encTop_len, encEnds_len]
          obtain ⟨AC, hAC⟩ : ∃ AC, encTop m b ++ encEnds o m = AC := ⟨_, rfl⟩
          rw [hAC] at HE HI HACL
          clear hAC
          go_wp2_with fail
          refine (rwu_calls r 1048576 AC 2 0 (by decide) (by decide) (by omega) (by omega) _ (HI.out.kp0 (by (repeat (first | exact Kp.refl _ _ | assumption | refine Kp.drew ?_ | refine Kp.drewN ?_ _ | refine Kp.alloc ?_ _ | (refine Kp.setCell ?_ (by first | (left; simp; done) | (right; simp; try omega)) _) | (refine Kp.trans' ?_ (by assumption) (by simp; try omega)))))).1 (by have := HACL.out; omega) (by decide)).mono ?_; rintro e w9 ⟨rfl, hw9, hk9⟩
          obtain ⟨FIN, hFIN⟩ : ∃ FIN, (AC ++ bytesN 2 0) ++ packM A s.fl = FIN := ⟨_, rfl⟩
          rw [hFIN] at HE
          have HFL : Hid (FIN.length ≤ 12288) := by show _ ≤ _; rw [← hFIN, List.length_append, List.length_append, bytesN_length]; have := HACL.out; omega
          have Q9 : Hid (EnQ w w9 w2.heap.size r (AC ++ bytesN 2 0) (.slice pf A cf) (.slice px X cx) (.slice py Y cy) s.fl s.ax s.ay) := (HI.out.kp0 (by (repeat (first | exact Kp.refl _ _ | assumption | refine Kp.drew ?_ | refine Kp.drewN ?_ _ | refine Kp.alloc ?_ _ | (refine Kp.setCell ?_ (by first | (left; simp; done) | (right; simp; try omega)) _) | (refine Kp.trans' ?_ (by assumption) (by simp; try omega)))))).wrote hw9 hk9
          have HF0 : Hid ((AC ++ bytesN 2 0) ++ packM A (s.fl.drop 0) = FIN) := by show _ = _; rw [List.drop_zero]; exact hFIN
          clear hw9 hk9 HI hFIN
          go_wp2_with fail
          go_loopw [23, 24] (fun i _ wr => ∃ (n g : Nat) (acc : List Int), n ≤ A ∧ i = .int .i64 n ∧ A - n ≤ g ∧ Hid (acc ++ packM g (s.fl.drop n) = FIN) ∧ Hid (EnQ w wr w2.heap.size r acc (.slice pf A cf) (.slice px X cx) (.slice py Y cy) s.fl s.ax s.ay)) (fun i _ _ => A - (intOf i).toNat)
          case atStart => exact ⟨0, A, AC ++ bytesN 2 0, by omega, rfl, by omega, HF0.out, Q9.out⟩
          case round =>
            obtain ⟨n, g, acc, hn, rfl, hg, HP, HI⟩ := hrel
            clear Q9 HF0
            by_cases hnA : n < A
            · obtain ⟨gf, of, hpf, hcA, hcm⟩ : ∃ g off, pf = some ⟨g, off, none⟩ ∧ A ≤ cf ∧ cf ≤ maxLen := by
                have hi := IsInts.owned HI.out.2.1.1
                rcases hi with ⟨⟨a, e⟩, h⟩ | ⟨g, off, cap, e, h1, h2, h3⟩
                · have := HA.out; rw [h] at this; simp at this; omega
                · cases e; exact ⟨g, off, rfl, by rw [← HA.out]; exact h1, h2⟩
              subst hpf
              obtain ⟨g, rfl⟩ : ∃ g', g = g' + 1 := ⟨g - 1, by omega⟩
              have hnl : n < s.fl.length := by rw [HA.out]; exact hnA
              obtain ⟨c, hc⟩ : ∃ c, s.fl.getD n 0 = c := ⟨_, rfl⟩
              have hd : s.fl.drop n = c :: s.fl.drop (n + 1) := by rw [List.drop_eq_getElem_cons hnl, ← hc, List.getD_eq_getElem?_getD, List.getElem?_eq_getElem hnl]; rfl
              have HPK : Hid (packM (g + 1) (s.fl.drop n) = (if 1 < runLen (s.fl.drop n) then [bits .or .u8 c 8, ((runLen (s.fl.drop n) : Nat) : Int) - 1] else [c]) ++ packM g (s.fl.drop (n + runLen (s.fl.drop n)))) := by
                show _ = _
                rw [← List.drop_drop, hd]; rfl
              have HRF : Hid (∀ i, 1 ≤ i → i + cntEq c (256 - i) ((s.fl.drop n).drop i) = runLen (s.fl.drop n) → (i < (s.fl.drop n).length ∧ i ≤ 255 ∧ (s.fl.drop n).getD i 0 = c → i + 1 + cntEq c (256 - (i + 1)) ((s.fl.drop n).drop (i + 1)) = runLen (s.fl.drop n)) ∧ (¬ (i < (s.fl.drop n).length ∧ i ≤ 255 ∧ (s.fl.drop n).getD i 0 = c) → i = runLen (s.fl.drop n))) := by
                show ∀ i, _; rw [hd]; exact run_from c _
              have HR0 : Hid (1 + cntEq c (256 - 1) ((s.fl.drop n).drop 1) = runLen (s.fl.drop n)) := by show _ = _; rw [hd]; exact run_start c _
              obtain ⟨hr1', hr2'⟩ := runLen_le (s.fl.drop n)
              have hr3' : 1 ≤ runLen (s.fl.drop n) := by rw [hd]; simp [runLen]
              obtain ⟨hcb0, hcb1⟩ := HBY.out c (by rw [← hc, List.getD_eq_getElem?_getD, List.getElem?_eq_getElem hnl]; exact List.getElem_mem hnl)
              have hdl : (s.fl.drop n).length = A - n := by rw [List.length_drop, HA.out]
              have HG : Hid (∀ i, i < A - n → (s.fl.drop n).getD i 0 = s.fl.getD (n + i) 0) := fun i hi => by rw [List.getD_eq_getElem?_getD, List.getD_eq_getElem?_getD, List.getElem?_drop]
              rw [hdl] at HRF hr1'
              obtain ⟨RL, hRL⟩ : ∃ RL, runLen (s.fl.drop n) = RL := ⟨_, rfl⟩
              rw [hRL] at HPK HRF HR0 hr1' hr2' hr3'
              generalize s.fl.drop n = ys at *
              have HCE : Hid (∀ W, EnQ w W w2.heap.size r acc (.slice (some ⟨gf, of, none⟩) A cf) (.slice px X cx) (.slice py Y cy) s.fl s.ax s.ay → ∀ i, i < A → W.cell? ⟨gf, of + i, none⟩ = some (.int .u8 (s.fl.getD i 0))) := fun W h i hi => ints_cell (IsInts.owned h.2.1.1) i (by rw [HA.out]; exact hi)
              have HCC := Lib.hid hc
              clear hd hRL hdl hc hnl
              go_wp2_with fail
              go_loopw [24] (fun e wr => ∃ i : Nat, e = .int .i64 i ∧ Hid (i + 1 ≤ RL ∧ i + 1 + cntEq c (256 - (i + 1)) (ys.drop (i + 1)) = RL) ∧ Hid (EnQ w wr w2.heap.size r acc (.slice (some ⟨gf, of, none⟩) A cf) (.slice px X cx) (.slice py Y cy) s.fl s.ax s.ay)) (fun e _ => RL - (intOf e).toNat)
              case atStart => exact ⟨0, rfl, ⟨hr3', HR0.out⟩, HI.out⟩
              case round =>
                obtain ⟨i, rfl, HN2, HI2⟩ := hrel
                clear HI HR0
                obtain ⟨hi2, hi3⟩ := HN2.out
                obtain ⟨hgo, hstop⟩ := HRF.out (i + 1) (by omega) hi3
                have h0 := HCE.out _ HI2.out n hnA
                rw [HCC.out] at h0
                by_cases hcond : i + 1 < A - n ∧ i + 1 ≤ 255 ∧ ys.getD (i + 1) 0 = c
                · have hci := HCE.out _ HI2.out (n + i + 1) (by omega)
                  have e9 := HG.out (i + 1) hcond.1
                  rw [hcond.2.2, ← Nat.add_assoc] at e9
                  rw [← e9] at hci
                  have HN3 : Hid (i + 1 + 1 ≤ RL ∧ i + 1 + 1 + cntEq c (256 - (i + 1 + 1)) (ys.drop (i + 1 + 1)) = RL) := ⟨by have := hgo hcond; omega, hgo hcond⟩
                  obtain ⟨hil, hi255, _⟩ := hcond
                  have hiA : n + i + 1 < A := by omega
                  have hd1 : decide (i < 255) = true := decide_eq_true (by omega)
                  have hd2 : decide (n + i + 1 < A) = true := decide_eq_true hiA
                  have hd3 : decide ((i : Int) < 255) = true := decide_eq_true (by omega)
                  have hd4 : decide ((n : Int) + (i : Int) + 1 < (A : Int)) = true := decide_eq_true (by omega)
                  have hw1 : IntKind.i64.wrap ((n : Int) + (i : Int)) = (n : Int) + (i : Int) := wr64 _ (by omega) (by omega)
                  have hw2 : IntKind.i64.wrap ((n : Int) + (i : Int) + 1) = (n : Int) + (i : Int) + 1 := wr64 _ (by omega) (by omega)
                  have ht3 : ((n : Int) + (i : Int) + 1).toNat = n + i + 1 := by omega
                  clear hgo hstop hi3 HN2 e9
                  go_wp2_with fail
                  go_quiet (fail)
                  go_wp2_with fail
                  go_roundw
                  case rel => first | exact ⟨i + 1, int_eq' (by omega), HN3, HI2.out.kp0 (by (repeat (first | exact Kp.refl _ _ | assumption | refine Kp.drew ?_ | refine Kp.drewN ?_ _ | refine Kp.alloc ?_ _ | (refine Kp.setCell ?_ (by first | (left; simp; done) | (right; simp; try omega)) _) | (refine Kp.trans' ?_ (by assumption) (by simp; try omega)))))⟩ | ((repeat apply Exists.intro); exact ⟨⟨i + 1, int_eq' (by omega), HN3, HI2.out.kp0 (by (repeat (first | exact Kp.refl _ _ | assumption | refine Kp.drew ?_ | refine Kp.drewN ?_ _ | refine Kp.alloc ?_ _ | (refine Kp.setCell ?_ (by first | (left; simp; done) | (right; simp; try omega)) _) | (refine Kp.trans' ?_ (by assumption) (by simp; try omega)))))⟩, rfl⟩)
                  case measure => have := HN3.out.1; simp [intOf]; omega
                · have hRLe : i + 1 = RL := hstop hcond
                  have hw : (decide (i < 255) = false ∧ decide ((i : Int) < 255) = false) ∨ (decide (i < 255) = true ∧ decide ((i : Int) < 255) = true ∧ decide ((n : Int) + (i : Int) + 1 < (A : Int)) = false) ∨ (decide (i < 255) = true ∧ decide ((i : Int) < 255) = true ∧ n + i + 1 < A ∧ decide ((n : Int) + (i : Int) + 1 < (A : Int)) = true ∧ ∃ y : Int, wr.cell? ⟨gf, of + (n + i + 1), none⟩ = some (.int .u8 y) ∧ (y == c) = false) := by
                    by_cases h1 : i + 1 ≤ 255
                    · by_cases h2 : i + 1 < A - n
                      · refine .inr (.inr ⟨decide_eq_true (by omega), decide_eq_true (by omega), by omega, decide_eq_true (by omega), s.fl.getD (n + i + 1) 0, HCE.out _ HI2.out (n + i + 1) (by omega), ?_⟩)
                        have e9 := HG.out (i + 1) h2
                        rw [← Nat.add_assoc] at e9
                        have : ¬ s.fl.getD (n + i + 1) 0 = c := fun e => hcond ⟨h2, h1, by rw [e9]; exact e⟩
                        rw [beq_eq_false_iff_ne]; exact this
                      · exact .inr (.inl ⟨decide_eq_true (by omega), decide_eq_true (by omega), decide_eq_false (by omega)⟩)
                    · exact .inl ⟨decide_eq_false (by omega), decide_eq_false (by omega)⟩
                  have hiR : i + 1 ≤ A - n := by omega
                  have hiS : i ≤ 255 := by omega
                  have HAL : Hid (acc.length ≤ 12288) := by
                    have h := congrArg List.length HP.out
                    rw [List.length_append] at h
                    have := HFL.out
                    show _ ≤ _; omega
                  have HONE : Hid (IsInts .u8 wr (.slice (some ⟨gf, of + n, none⟩) 1 (cf - n)) [c]) := by
                    have h := ints_one (IsInts.owned HI2.out.2.1.1) n (by rw [HA.out]; exact hnA)
                    rw [HCC.out] at h; exact h
                  have HGF : Hid (r < gf) := by
                    have h1 := own_ge HI2.out.2.1.1 gf (by simp [Value.ownBlock])
                    show _ < _; omega
                  have hncf : n < cf := by omega
                  have hw1 : IntKind.i64.wrap ((n : Int) + (i : Int)) = (n : Int) + (i : Int) := wr64 _ (by omega) (by omega)
                  have hw2 : IntKind.i64.wrap ((n : Int) + (i : Int) + 1) = (n : Int) + (i : Int) + 1 := wr64 _ (by omega) (by omega)
                  have ht3 : ((n : Int) + (i : Int) + 1).toNat = n + i + 1 := by omega
                  subst hRLe
                  clear hgo hstop hi3 HN2 HRF hcond hi2 HCE HG HCC HFL
                  by_cases hi0 : 0 < i
                  · have hz : decide (0 < i) = true := decide_eq_true hi0
                    have hwi : IntKind.u8.wrap (i : Int) = (i : Int) := by rw [byte_wrap]; omega
                    have HPN : Hid ((acc ++ [bits .or .u8 c 8, (i : Int)]) ++ packM g (s.fl.drop (n + (i + 1))) = FIN) := by
                      show _ = _
                      have h := HPK.out
                      rw [if_pos (by omega), show (((i + 1 : Nat) : Int) - 1) = (i : Int) by omega] at h
                      rw [List.append_assoc, ← h]; exact HP.out
                    clear HPK HP HONE HGF
                    rcases hw with ⟨hd0, hd1⟩ | ⟨hd0, hd1, hd2⟩ | ⟨hd0, hd1, hd3, hd2, y, hy, hyc⟩
                    all_goals
                      go_wp2_with fail
                      go_quiet (fail)
                      go_wp2_with fail
                      refine (rdata_calls r 1048576 acc (.slice (some ⟨wr.heap.size, 0, none⟩) 2 2) [bits .or .u8 c 8, (i : Int)] _ (HI2.out.kp0 (by (repeat (first | exact Kp.refl _ _ | assumption | refine Kp.drew ?_ | refine Kp.drewN ?_ _ | refine Kp.alloc ?_ _ | (refine Kp.setCell ?_ (by first | (left; simp; done) | (right; simp; try omega)) _) | (refine Kp.trans' ?_ (by assumption) (by simp; try omega)))))).1 (IsInts.litT .u8 5 [bits .or .u8 c 8, (i : Int)] (Kp.refl _ _) _ _ (by simp) rfl (by decide)) (by intro k hk; simp at hk; have := HI2.out.1.lt; omega) (by have := HAL.out; simp; omega) (by decide)).mono ?_; rintro e w10 ⟨rfl, hw10, hk10⟩
                      have Q10 : Hid (EnQ w w10 w2.heap.size r (acc ++ [bits .or .u8 c 8, (i : Int)]) (.slice (some ⟨gf, of, none⟩) A cf) (.slice px X cx) (.slice py Y cy) s.fl s.ax s.ay) := (HI2.out.kp0 (by (repeat (first | exact Kp.refl _ _ | assumption | refine Kp.drew ?_ | refine Kp.drewN ?_ _ | refine Kp.alloc ?_ _ | (refine Kp.setCell ?_ (by first | (left; simp; done) | (right; simp; try omega)) _) | (refine Kp.trans' ?_ (by assumption) (by simp; try omega)))))).wrote hw10 hk10
                      have hA3 : n + (i + 1) ≤ A := by omega
                      clear hw10 hk10
                      go_wp2_with fail
                      go_roundw
                      case rel => first | exact ⟨n + (i + 1), g, acc ++ [bits .or .u8 c 8, (i : Int)], hA3, int_eq' (by omega), by omega, HPN, Q10⟩ | ((repeat apply Exists.intro); exact ⟨⟨n + (i + 1), g, acc ++ [bits .or .u8 c 8, (i : Int)], hA3, int_eq' (by omega), by omega, HPN, Q10⟩, rfl⟩)
                      case measure => simp [intOf]; omega
                  · have hz : decide (0 < i) = false := decide_eq_false hi0
                    have HPN : Hid ((acc ++ [c]) ++ packM g (s.fl.drop (n + (i + 1))) = FIN) := by
                      show _ = _
                      have h := HPK.out
                      rw [if_neg (by omega)] at h
                      rw [List.append_assoc, ← h]; exact HP.out
                    clear HPK HP
                    rcases hw with ⟨hd0, hd1⟩ | ⟨hd0, hd1, hd2⟩ | ⟨hd0, hd1, hd3, hd2, y, hy, hyc⟩
                    all_goals
                      go_wp2_with fail
                      go_quiet (fail)
                      go_wp2_with fail
                      refine (rdata_calls r 1048576 acc (.slice (some ⟨gf, of + n, none⟩) 1 (cf - n)) [c] _ (HI2.out.kp0 (by (repeat (first | exact Kp.refl _ _ | assumption | refine Kp.drew ?_ | refine Kp.drewN ?_ _ | refine Kp.alloc ?_ _ | (refine Kp.setCell ?_ (by first | (left; simp; done) | (right; simp; try omega)) _) | (refine Kp.trans' ?_ (by assumption) (by simp; try omega)))))).1 (HONE.out.kp0 (by (repeat (first | exact Kp.refl _ _ | assumption | refine Kp.drew ?_ | refine Kp.drewN ?_ _ | refine Kp.alloc ?_ _ | (refine Kp.setCell ?_ (by first | (left; simp; done) | (right; simp; try omega)) _) | (refine Kp.trans' ?_ (by assumption) (by simp; try omega)))))) (by intro k hk; simp at hk; have := HGF.out; omega) (by have := HAL.out; simp; omega) (by decide)).mono ?_; rintro e w10 ⟨rfl, hw10, hk10⟩
                      have Q10 : Hid (EnQ w w10 w2.heap.size r (acc ++ [c]) (.slice (some ⟨gf, of, none⟩) A cf) (.slice px X cx) (.slice py Y cy) s.fl s.ax s.ay) := (HI2.out.kp0 (by (repeat (first | exact Kp.refl _ _ | assumption | refine Kp.drew ?_ | refine Kp.drewN ?_ _ | refine Kp.alloc ?_ _ | (refine Kp.setCell ?_ (by first | (left; simp; done) | (right; simp; try omega)) _) | (refine Kp.trans' ?_ (by assumption) (by simp; try omega)))))).wrote hw10 hk10
                      have hA3 : n + (i + 1) ≤ A := by omega
                      clear hw10 hk10
                      go_wp2_with fail
                      go_roundw
                      case rel => first | exact ⟨n + (i + 1), g, acc ++ [c], hA3, int_eq' (by omega), by omega, HPN, Q10⟩ | ((repeat apply Exists.intro); exact ⟨⟨n + (i + 1), g, acc ++ [c], hA3, int_eq' (by omega), by omega, HPN, Q10⟩, rfl⟩)
                      case measure => simp [intOf]; omega
            · obtain rfl : n = A := by omega
              have HAC : Hid (acc = FIN) := by
                show _ = _
                have h := HP.out
                rw [List.drop_eq_nil_of_le (by rw [HA.out]; exact Nat.le_refl _)] at h
                have e : packM g [] = [] := by cases g <;> rfl
                rwa [e, List.append_nil] at h
              rw [HAC.out] at HI
              clear HP HAC hg
              have hfl := HFL.out
              go_wp2_with fail
              refine (rdata_calls r 1048576 FIN (.slice px X cx) s.ax _ (HI.out.kp0 (by (repeat (first | exact Kp.refl _ _ | assumption | refine Kp.drew ?_ | refine Kp.drewN ?_ _ | refine Kp.alloc ?_ _ | (refine Kp.setCell ?_ (by first | (left; simp; done) | (right; simp; try omega)) _) | (refine Kp.trans' ?_ (by assumption) (by simp; try omega)))))).1 ((IsInts.owned HI.out.2.1.2.1).kp0 (by (repeat (first | exact Kp.refl _ _ | assumption | refine Kp.drew ?_ | refine Kp.drewN ?_ _ | refine Kp.alloc ?_ _ | (refine Kp.setCell ?_ (by first | (left; simp; done) | (right; simp; try omega)) _) | (refine Kp.trans' ?_ (by assumption) (by simp; try omega)))))) (fun k hk => by have := own_ge HI.out.2.1.2.1 k (blockOf_own hk); omega) (by have := HX.out; omega) (by decide)).mono ?_; rintro e w10 ⟨rfl, hw10, hk10⟩
              have Q10 := Lib.hid ((HI.out.kp0 (by (repeat (first | exact Kp.refl _ _ | assumption | refine Kp.drew ?_ | refine Kp.drewN ?_ _ | refine Kp.alloc ?_ _ | (refine Kp.setCell ?_ (by first | (left; simp; done) | (right; simp; try omega)) _) | (refine Kp.trans' ?_ (by assumption) (by simp; try omega)))))).wrote hw10 hk10)
              clear hw10 hk10 HI
              go_wp2_with fail
              refine (rdata_calls r 1048576 (FIN ++ s.ax) (.slice py Y cy) s.ay _ (Q10.out.kp0 (by (repeat (first | exact Kp.refl _ _ | assumption | refine Kp.drew ?_ | refine Kp.drewN ?_ _ | refine Kp.alloc ?_ _ | (refine Kp.setCell ?_ (by first | (left; simp; done) | (right; simp; try omega)) _) | (refine Kp.trans' ?_ (by assumption) (by simp; try omega)))))).1 ((IsInts.owned Q10.out.2.1.2.2.1).kp0 (by (repeat (first | exact Kp.refl _ _ | assumption | refine Kp.drew ?_ | refine Kp.drewN ?_ _ | refine Kp.alloc ?_ _ | (refine Kp.setCell ?_ (by first | (left; simp; done) | (right; simp; try omega)) _) | (refine Kp.trans' ?_ (by assumption) (by simp; try omega)))))) (fun k hk => by have := own_ge Q10.out.2.1.2.2.1 k (blockOf_own hk); omega) (by have := HX.out; have := HY.out; rw [List.length_append]; omega) (by decide)).mono ?_; rintro e w11 ⟨rfl, hw11, hk11⟩
              have Q11 := Lib.hid ((Q10.out.kp0 (by (repeat (first | exact Kp.refl _ _ | assumption | refine Kp.drew ?_ | refine Kp.drewN ?_ _ | refine Kp.alloc ?_ _ | (refine Kp.setCell ?_ (by first | (left; simp; done) | (right; simp; try omega)) _) | (refine Kp.trans' ?_ (by assumption) (by simp; try omega)))))).wrote hw11 hk11)
              obtain ⟨vo, hvo, hio, _⟩ := hw11
              have c0 : w11.cell? ⟨r, 0, none⟩ = some vo := by rw [cell_of_row w11 r 0 _ _ _ hvo]; rfl
              have HIO := Lib.hid hio
              clear hk11 hvo hio Q10
              go_wp2_with fail
              go_ret2
              rw [HRS.out, HE.out]
              exact ⟨vo, rfl, HIO.out.kp0 (by (repeat (first | exact Kp.refl _ _ | assumption | refine Kp.drew ?_ | refine Kp.drewN ?_ _ | refine Kp.alloc ?_ _ | (refine Kp.setCell ?_ (by first | (left; simp; done) | (right; simp; try omega)) _) | (refine Kp.trans' ?_ (by assumption) (by simp; try omega))))), Q11.out.2.2.1.trans (by (repeat (first | exact Kp.refl _ _ | assumption | refine Kp.drew ?_ | refine Kp.drewN ?_ _ | refine Kp.alloc ?_ _ | (refine Kp.setCell ?_ (by first | (left; simp; done) | (right; simp; try omega)) _) | (refine Kp.trans' ?_ (by assumption) (by simp; try omega)))))⟩
end Go.Proofs.Ytodjohoonbkklaa

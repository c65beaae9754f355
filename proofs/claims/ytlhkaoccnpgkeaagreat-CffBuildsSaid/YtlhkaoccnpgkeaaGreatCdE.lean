/- cff: the reference's INDEX is written: serifref14.Put · cff: entries of DICTs as the reference says them · cff: the top DICT, and a private one, as the reference has them (written by gencbq.py). (Merged by wip/tools/mergetpl.py out of CbF, CbP, CbQ.) -/
import Derived.Test.YtlhkaoccnpgkeaaGreatCdB
import Derived.BigQuiet
import Derived.Deep.CutBlock
import Derived.Deep.DeepCutAuto
import Derived.Test.YtlhkaoccnpgkeaaGreatCdD
import Derived.Deep.RegionHeld3
namespace Go.Proofs.YtlhkaoccnpgkeaaGreat
open Go.RowKit
set_option linter.unusedVariables false
set_option linter.unusedSimpArgs false
theorem ix_w1 (N : Nat) (h : N ≤ 65535) : wrap64 ((N : Int) + 1) = (N : Int) + 1 := w64 _ (by omega) (by omega)
theorem ix_w2 (N s X : Nat) (h : X = (N + 1) * s) (h4 : X ≤ 262144) : wrap64 (((N : Int) + 1) * (s : Int)) = (X : Int) := by
  have hXi : ((N : Int) + 1) * (s : Int) = (X : Int) := by rw [h]; push_cast; rfl
  rw [hXi]; exact w64 _ (by omega) (by omega)
theorem ix_w3 (X : Nat) (h : X ≤ 262144) : wrap64 (3 + (X : Int)) = 3 + (X : Int) := w64 _ (by omega) (by omega)
theorem ix_w4 (X E : Nat) (h : X ≤ 262144) (hE : E ≤ 2097152) : wrap64 (3 + (X : Int) + (E : Int)) = 3 + (X : Int) + (E : Int) := w64 _ (by omega) (by omega)
theorem ix_w5 (X E : Nat) (h : X ≤ 262144) (hE : E ≤ 2097152) : wrap64 (3 + (X : Int) + (E : Int) - 1) = 3 + (X : Int) + (E : Int) - 1 := w64 _ (by omega) (by omega)
theorem ix_mul (N s X : Nat) (h : X = (N + 1) * s) (h1 : N ≤ 65535) (h2 : s ≤ 4) : X ≤ 262144 := by
  have h3 : (N + 1) * s ≤ 65536 * 4 := Nat.mul_le_mul (by omega) h2
  omega
/-- Where the reference's writing of an INDEX stands. -/
def RpS (w wr : World) (v : Value) (l : List Int) : Prop := OwnB wr w.heap.size v l ∧ Kp [] w wr
set_option maxRecDepth 100000 in
set_option maxHeartbeats 8000000 in
theorem rput14_calls (v : Value) (o : List (List Int)) (w : World) (hv : IsBs w v o) :
    Calls Tryz.prog 27 #[v] w fun e w' => ∃ v', e = .returned (.tuple #[v', .bool (decide ((putM o).2 = 0))]) ∧ OwnB w' w.heap.size v' (putM o).1 ∧ Kp [] w w' := by
  have HV := Lib.hid (fun W (hk : Kp [] w W) => hv.kp0 hk)
  have hle : o.length ≤ 9223372036854775807 := by
    obtain ⟨vs, h1, _⟩ := hv
    rcases h1.2 with ⟨_, h0⟩ | ⟨g, off, c, _, h3, h4, _⟩
    · omega
    · unfold maxLen at h4; omega
  have HR1 : Hid (65535 < o.length → putM o = ([], 3)) := fun h => by unfold putM; rw [if_pos h]
  have HR2 : Hid (o.length = 0 → putM o = ([0, 0], 0)) := fun h => by
    obtain rfl : o = [] := List.length_eq_zero_iff.1 h
    rfl
  have HR4 : Hid (1 ≤ o.length → 1048576 < (ixB o).length → putM o = ([], 3)) := fun h h2 => by
    unfold putM
    by_cases h9 : 65535 < o.length
    · rw [if_pos h9]
    · rw [if_neg h9, if_neg (by intro e; rw [e] at h; simp at h)]
      by_cases h8 : 1048576 < 1 + o.flatten.length
      · rw [if_pos h8]
      · rw [if_neg h8, if_pos h2]
  have HR0 : Hid (1 ≤ o.length → o.length ≤ 65535 → (ixB o).length ≤ 1048576 → putM o = (ixB o, 0)) := fun h h2 h4 => by
    have h5 := ixB_len o
    unfold putM; rw [if_neg (by omega), if_neg (by intro e; rw [e] at h; simp at h), if_neg (by omega), if_neg (by omega)]
  have HXL : Hid ((ixB o).length = 3 + (o.length + 1) * szO o + o.flatten.length) := ixB_len o
  have HES : Hid (∀ j, j < o.length → endO o (j + 1) = endO o j + (o.getD j []).length) := fun j hj => endO_succ o hj
  have HEL : Hid (∀ j, j ≤ o.length → endO o j ≤ 1 + o.flatten.length) := fun j hj => endO_le o hj
  have HEA : Hid (endO o o.length = 1 + o.flatten.length) := by show _ = _; unfold endO; rw [sumL_all]
  have HFS : Hid (∀ j, j < o.length → (o.take (j + 1)).flatten = (o.take j).flatten ++ o.getD j []) := fun j hj => flat_step o hj
  have HTF : Hid (o.take o.length = o) := List.take_length
  have HOS : Hid (∀ k, offsP (szO o) o (k + 1) = offsP (szO o) o k ++ bytesN (szO o) (endO o k : Nat)) := fun k => offsP_succ _ o k
  have HHP : Hid (hdX o = bytesN 2 (o.length : Nat) ++ bytesN 1 (szO o : Nat)) := rfl
  have HIX : Hid (ixB o = hdX o ++ offsP (szO o) o (o.length + 1) ++ o.flatten) := ixB_eq o
  have HSZ : Hid (widN (endO o o.length) = szO o) := by show _ = _; unfold endO szO; rw [sumL_all]
  obtain ⟨pa, ca, rfl⟩ := hv.form
  obtain ⟨RES, hRES⟩ : ∃ R, putM o = R := ⟨_, rfl⟩
  rw [hRES] at HR1 HR2 HR4 HR0 ⊢
  obtain ⟨N, hN⟩ : ∃ N, o.length = N := ⟨_, rfl⟩
  have HN := Lib.hid hN
  rw [hN] at HV HR1 HR2 HR4 HR0 HXL HES HEL HEA HFS HTF HHP HIX HSZ hle ⊢
  clear hv hN hRES
  by_cases hbad : 65535 < N
  · have HX := Lib.hid (HR1.out hbad)
    have d2 : decide ((65535 : Int) < (N : Int)) = true := decide_eq_true (by omega)
    go_enter Tryz.func27, Tryz.ntmps27
    go_wp2_with fail
    go_ret2
    rw [HX.out]
    exact ⟨_, rfl, World.ownsRow_nil _ _ _ _, by (repeat (first | exact Kp.refl _ _ | assumption | refine Kp.drew ?_ | refine Kp.drewN ?_ _ | refine Kp.alloc ?_ _ | (refine Kp.setCell ?_ (by first | (left; simp; done) | (right; simp; try omega)) _) | (refine Kp.trans' ?_ (by assumption) (by simp; try omega))))⟩
  by_cases h0 : N = 0
  · subst h0
    have HX := Lib.hid (HR2.out rfl)
    go_enter Tryz.func27, Tryz.ntmps27
    go_wp2_with fail
    go_ret2
    rw [HX.out]
    exact ⟨_, rfl, own_lit w _ w.heap.size 5 1 2 #[.int .u8 0, .int .u8 0] rfl (Nat.le_refl _) (by decide) rfl, by (repeat (first | exact Kp.refl _ _ | assumption | refine Kp.drew ?_ | refine Kp.drewN ?_ _ | refine Kp.alloc ?_ _ | (refine Kp.setCell ?_ (by first | (left; simp; done) | (right; simp; try omega)) _) | (refine Kp.trans' ?_ (by assumption) (by simp; try omega))))⟩
  have d2 : decide ((65535 : Int) < (N : Int)) = false := decide_eq_false (by omega)
  have d0 : ((N : Int) == 0) = false := by rw [beq_eq_false_iff_ne]; omega
  have hN6 : N ≤ 65535 := by omega
  have hN1 : 1 ≤ N := by omega
  have HR4' := Lib.hid (HR4.out hN1)
  have HR0' := Lib.hid (HR0.out hN1 hN6)
  clear HR1 HR2 HR4 HR0 hbad h0
  have HE0 : Hid (endO o 0 = 1) := rfl
  have HS4 : Hid (1 ≤ szO o ∧ szO o ≤ 4) := widN_b _
  have HEJ : Hid (∀ j, endO o j = 1 + (o.take j).flatten.length) := fun j => rfl
  generalize endO o = EN at *
  go_enter Tryz.func27, Tryz.ntmps27
  go_wp2_with fail
  go_loop [4, 5] (fun e i => ∃ j : Nat, j ≤ N ∧ i = .int .i64 j ∧ e = .int .i64 (EN j : Nat) ∧ Hid (EN j ≤ 2097152)) (fun _ i => N - (intOf i).toNat)
  case atStart => exact ⟨0, by omega, rfl, by rw [HE0.out]; rfl, by show _ ≤ _; rw [HE0.out]; omega⟩
  case round =>
    obtain ⟨j, hj, rfl, rfl, HJ⟩ := hrel
    by_cases hlt : j < N
    · have hjo : j < o.length := by rw [HN.out]; exact hlt
      obtain ⟨g1, o1, c1, p1, cv, e1, _, _, hc1, hi1⟩ := (HV.out _ (Kp.refl _ _)).row hjo
      rw [HN.out] at e1
      cases e1
      have HST := Lib.hid (HES.out j hlt)
      have HTO := Lib.hid (HEL.out (j + 1) (by omega))
      have HTJ := Lib.hid (HEL.out j (by omega))
      generalize o.getD j [] = G at *
      generalize hGl : G.length = GL at *
      have hEj := HJ.out
      clear hi1 hjo
      by_cases hx : 1048576 < GL ∨ 1048576 < EN j
      · have HX := Lib.hid (HR4'.out (by have h1 := HST.out; have h2 := HTO.out; have h3 := HTJ.out; have h4 := HXL.out; omega))
        by_cases h5 : 1048576 < GL
        · have d1 : decide ((1048576 : Int) < (GL : Int)) = true := decide_eq_true (by omega)
          clear hx HST HTO HTJ hEj hGl h5
          go_wp2_with fail
          go_ret2
          rw [HX.out]
          exact ⟨_, rfl, World.ownsRow_nil _ _ _ _, by (repeat (first | exact Kp.refl _ _ | assumption | refine Kp.drew ?_ | refine Kp.drewN ?_ _ | refine Kp.alloc ?_ _ | (refine Kp.setCell ?_ (by first | (left; simp; done) | (right; simp; try omega)) _) | (refine Kp.trans' ?_ (by assumption) (by simp; try omega))))⟩
        · have d1 : decide ((1048576 : Int) < (GL : Int)) = false := decide_eq_false (by omega)
          have d3 : decide ((1048576 : Int) < (EN j : Int)) = true := decide_eq_true (by omega)
          clear hx HST HTO HTJ hEj hGl h5
          go_wp2_with fail
          go_ret2
          rw [HX.out]
          exact ⟨_, rfl, World.ownsRow_nil _ _ _ _, by (repeat (first | exact Kp.refl _ _ | assumption | refine Kp.drew ?_ | refine Kp.drewN ?_ _ | refine Kp.alloc ?_ _ | (refine Kp.setCell ?_ (by first | (left; simp; done) | (right; simp; try omega)) _) | (refine Kp.trans' ?_ (by assumption) (by simp; try omega))))⟩
      · have d1 : decide ((1048576 : Int) < (GL : Int)) = false := decide_eq_false (by omega)
        have d3 : decide ((1048576 : Int) < (EN j : Int)) = false := decide_eq_false (by omega)
        have hw2 : wrap64 ((EN j : Int) + (GL : Int)) = (EN j : Int) + (GL : Int) := w64 _ (by omega) (by omega)
        have HX2 := Lib.hid hx
        clear hx hEj hGl HTO HTJ
        go_wp2_with fail
        go_round
        case rel => exact ⟨j + 1, by omega, by go_num, int_eq' (by have := HST.out; omega), by show _ ≤ _; have := HST.out; have := HX2.out; omega⟩
        case measure => simp [intOf] <;> omega
    · obtain rfl : N = j := by omega
      have HEN := HJ
      generalize hs : szO o = s at *
      have hwf := wid_facts (EN N)
      rw [HSZ.out] at hwf
      obtain ⟨q1, q2, q3⟩ := hwf
      clear hlt
      go_upto_block 2 with fail
      go_cut [6] (fun s6 wx => s6 = .int .i64 (s : Nat) ∧ w = wx)
      case first =>
        go_wp2_with fail
        go_loop [6] (fun i => ∃ n : Nat, 1 ≤ n ∧ n ≤ s ∧ i = .int .i64 (n : Nat)) (fun i => 5 - (intOf i).toNat)
        case atStart => exact ⟨1, by omega, HS4.out.1, rfl⟩
        case round =>
          obtain ⟨n, hn1, hn2, rfl⟩ := hrel
          have hs4 := HS4.out.2
          have hcase : (s = 1 ∧ n = 1) ∨ (s = 2 ∧ n = 1) ∨ (s = 2 ∧ n = 2) ∨ (s = 3 ∧ n = 1) ∨ (s = 3 ∧ n = 2) ∨ (s = 3 ∧ n = 3) ∨ (s = 4 ∧ n = 1) ∨ (s = 4 ∧ n = 2) ∨ (s = 4 ∧ n = 3) ∨ (s = 4 ∧ n = 4) := by omega
          rcases hcase with ⟨rfl, rfl⟩ | ⟨rfl, rfl⟩ | ⟨rfl, rfl⟩ | ⟨rfl, rfl⟩ | ⟨rfl, rfl⟩ | ⟨rfl, rfl⟩ | ⟨rfl, rfl⟩ | ⟨rfl, rfl⟩ | ⟨rfl, rfl⟩ | ⟨rfl, rfl⟩
          all_goals
            simp only [Nat.reduceLT, decide_true, decide_false, Nat.lt_irrefl] at q1 q2 q3
            go_wp2_with fail
            first
              | (go_meet; exact ⟨rfl, rfl⟩)
              | (go_round
                 case rel => first | exact ⟨2, by decide, by decide, rfl⟩ | exact ⟨3, by decide, by decide, rfl⟩ | exact ⟨4, by decide, by decide, rfl⟩
                 case measure => simp [intOf])
              | (trace_state; fail)
      obtain ⟨rfl, rfl⟩ := hcut
      have hs4 := HS4.out
      obtain ⟨hs1, hs5⟩ := hs4
      clear q1 q2 q3
      obtain ⟨X, hX⟩ : ∃ X : Nat, X = (N + 1) * s := ⟨_, rfl⟩
      have hX4 : X ≤ 262144 := ix_mul N s X hX hN6 hs5
      have hEb := HEN.out
      have y1 := ix_w1 N hN6
      have y2 := ix_w2 N s X hX hX4
      have y3 := ix_w3 X hX4
      have y4 := ix_w4 X (EN N) hX4 hEb
      have y5 := ix_w5 X (EN N) hX4 hEb
      have HL : Hid ((ixB o).length = 2 + X + EN N) := by show _ = _; rw [HXL.out, HEA.out, ← hX]; omega
      clear hX
      by_cases hbig : 1048576 < 2 + X + EN N
      · have HX := Lib.hid (HR4'.out (by rw [HL.out]; exact hbig))
        have d : decide ((1048576 : Int) < 3 + (X : Int) + (EN N : Int) - 1) = true := decide_eq_true (by omega)
        clear hbig hEb hX4
        go_wp2_with fail
        go_ret2
        rw [HX.out]
        exact ⟨_, rfl, World.ownsRow_nil _ _ _ _, Kp.refl _ _⟩
      · have HX := Lib.hid (HR0'.out (by rw [HL.out]; omega))
        have d : decide ((1048576 : Int) < 3 + (X : Int) + (EN N : Int) - 1) = false := decide_eq_false (by omega)
        have HLL : Hid ((ixB o).length ≤ 1048576) := by show _ ≤ _; rw [HL.out]; omega
        clear hbig hEb hX4
        go_wp2_with fail
        have HB1 := Lib.hid (rbytes_calls 2 (N : Nat) (by decide) (by decide) (by omega) (by omega) w)
        refine HB1.out.mono ?_; rintro e w1 ⟨v1, rfl, ho1, hk1⟩
        have HO1 : Hid (OwnB w1 w.heap.size v1 (bytesN 2 (N : Nat))) := by show OwnB _ _ _ _; unfold OwnB; rw [bytesN_length]; exact ho1
        have HK1 := Lib.hid hk1
        obtain ⟨pv1, cv1, rfl⟩ := HO1.out.form
        clear ho1 hk1 HB1
        have hsm : (s : Int) % 256 = (s : Int) := by omega
        have hsz1 := HK1.out.size
        have HSR : Hid (IsInts .u8 (w1.alloc (.cells #[.int .u8 (s : Nat)] 5)) (.slice (some ⟨w1.heap.size, 0, none⟩) 1 1) [(s : Int)]) := litb_at w1 _ rfl [(s : Int)] 1 rfl _ rfl (by decide) _ (Kp.refl _ _)
        have hl1 : (bytesN 2 (N : Nat)).length + [(s : Int)].length ≤ 1073741824 := by rw [bytesN_length]; simp
        have hB1 : w.heap.size ≤ (w1.alloc (.cells #[.int .u8 (s : Nat)] 5)).heap.size := by simp; omega
        go_wp2_with (at_builtin; refine wpList_ob rfl _ _ rfl rfl (HO1.out.kp0 ((Kp.refl _ _).alloc _)) (.slice (some ⟨w1.heap.size, 0, none⟩) 1 1) [(s : Int)] rfl HSR.out hl1 hB1 ?hk)
        case hk =>
        intro v2 w2 ho2 hk2 _
        have HS2 : Hid (RpS w w2 v2 (hdX o)) := by
          refine ⟨?_, ((HK1.out.alloc _).trans' hk2 (fun t ht => .inr (by have := own_ge HO1.out t (by simpa using ht); omega)))⟩
          rw [HHP.out]
          have e : bytesN 1 (s : Nat) = [(s : Int)] := by simp [bytesN, hsm]
          rw [e]
          exact ho2
        obtain ⟨p2, c2, rfl⟩ := ho2.form
        clear ho2 hk2 hl1 hB1 HSR HO1 HK1 hsm hsz1
        have HBY := Lib.hid (fun (W : World) (x : Nat) (hx : x ≤ 1048576) => rbytes_calls s (x : Nat) hs1 hs5 (by omega) (by omega) W)
        have HBY1 : Hid (∀ W : World, Calls Tryz.prog 73 #[.int .i64 (s : Nat), .int .i64 1] W fun e w' => ∃ v, e = .returned v ∧ w'.ownsRow W.heap.size 5 1 v s ((bytesN s 1).map (Value.int .u8)) ∧ Kp [] W w') := fun W => HBY.out W 1 (by decide)
        clear y1 y2 y3 y4 y5 d
        have HBI : Hid (∀ (W : World) (v : Value) (x : Int), w.heap.size ≤ W.heap.size → True) := fun _ _ _ _ => trivial
        go_wp2_with fail
        refine (HBY1.out _).mono ?_; rintro e w3 ⟨v3, rfl, ho3, hk3⟩
        have HI3 : Hid (IsInts .u8 w3 v3 (bytesN s 1)) := IsInts.owned ho3
        have HO3 := Lib.hid (HS2.out.1.kp0 hk3)
        have HK3 := Lib.hid (HS2.out.2.trans hk3)
        obtain ⟨p3, c3, rfl⟩ := HI3.out.form
        have hl3 : (hdX o).length + (bytesN s 1).length ≤ 1073741824 := by unfold hdX; simp [bytesN_length]; omega
        have hB3 := HK3.out.size
        clear ho3 hk3 HS2
        go_wp2_with (at_builtin; refine wpList_ob rfl _ _ rfl rfl HO3.out (.slice p3 (bytesN s 1).length c3) (bytesN s 1) rfl HI3.out hl3 hB3 ?hk)
        case hk =>
        intro v4 w4 ho4 hk4 _
        have HS4' : Hid (RpS w w4 v4 (hdX o ++ offsP s o (0 + 1))) := by
          refine ⟨?_, HO3.out.grow HK3.out (Nat.le_refl _) hk4⟩
          rw [HOS.out 0, HE0.out]
          simpa [offsP] using ho4
        clear ho4 hk4 hl3 hB3 HO3 HK3 HI3
        have HLO : Hid (∀ j, j ≤ N → (hdX o ++ offsP s o (j + 1)).length ≤ 262150) := fun j hj => by
          rw [List.length_append, offsP_len]
          have h9 : (j + 1) * s ≤ 65536 * 4 := Nat.mul_le_mul (by omega) hs5
          unfold hdX
          simp only [List.length_append, bytesN_length]
          omega
        have HEB : Hid (∀ j, j ≤ N → EN j ≤ 1048576) := fun j hj => by have h1 := HEL.out j hj; have h2 := HEA.out; have h3 := HL.out; have h4 := HLL.out; omega
        obtain ⟨A1, hA1⟩ : ∃ A1, hdX o ++ offsP s o (0 + 1) = A1 := ⟨_, rfl⟩
        obtain ⟨p4, c4, e4⟩ := HS4'.out.1.form
        rw [hA1] at e4
        subst e4
        clear hA1
        go_wp2_with fail
        go_loopw [7, 8, 9] (fun v a i wr => ∃ j : Nat, j ≤ N ∧ i = .int .i64 j ∧ a = .int .i64 (EN j : Nat) ∧ Hid (RpS w wr v (hdX o ++ offsP s o (j + 1)))) (fun _ _ i _ => N - (intOf i).toNat)
        case atStart => exact ⟨0, by omega, rfl, by rw [HE0.out]; rfl, HS4'⟩
        case round =>
          obtain ⟨j, hj, rfl, rfl, HJ⟩ := hrel
          obtain ⟨A, hA⟩ : ∃ A, A = hdX o ++ offsP s o (j + 1) := ⟨_, rfl⟩
          have hAl : A.length ≤ 262150 := by rw [hA]; exact HLO.out j hj
          have HA := Lib.hid hA
          rw [← hA] at HJ
          clear hA
          obtain ⟨pv, cv0, e⟩ := HJ.out.1.form
          subst e
          by_cases hlt : j < N
          · have hjo : j < o.length := by rw [HN.out]; exact hlt
            obtain ⟨g1, o1, c1, p1, cv, e1, _, _, hc1, hi1⟩ := (HV.out _ HJ.out.2).row hjo
            rw [HN.out] at e1
            cases e1
            have HST := Lib.hid (HES.out j hlt)
            have hE1 := HEB.out (j + 1) hlt
            generalize o.getD j [] = G at *
            generalize hGl : G.length = GL at *
            have hw2 : wrap64 ((EN j : Int) + (GL : Int)) = (EN j : Int) + (GL : Int) := ix_w _ _ _ HST.out hE1
            have he : ((EN (j + 1) : Nat) : Int) = (EN j : Int) + (GL : Int) := ix_c _ _ _ HST.out
            have HEQ := Lib.hid he
            have HY := Lib.hid (HBY.out wr (EN (j + 1)) hE1)
            rw [he] at HY
            clear hi1 hjo hE1 hGl he HS4'
            go_wp2_with fail
            refine HY.out.mono ?_; rintro e w5 ⟨v5, rfl, ho5, hk5⟩
            have HI5 : Hid (IsInts .u8 w5 v5 (bytesN s ((EN j : Int) + (GL : Int)))) := IsInts.owned ho5
            have HO5 := Lib.hid (HJ.out.1.kp0 hk5)
            have HK5 := Lib.hid (HJ.out.2.trans hk5)
            obtain ⟨p5, c5, rfl⟩ := HI5.out.form
            have hl5 : A.length + (bytesN s ((EN j : Int) + (GL : Int))).length ≤ 1073741824 := by rw [bytesN_length]; omega
            have hB5 := HK5.out.size
            clear ho5 hk5 HY HJ hc1
            go_wp2_with (at_builtin; refine wpList_ob rfl _ _ rfl rfl HO5.out (.slice p5 (bytesN s ((EN j : Int) + (GL : Int))).length c5) (bytesN s ((EN j : Int) + (GL : Int))) rfl HI5.out hl5 hB5 ?hk)
            case hk =>
            intro v6 w6 ho6 hk6 _
            have HS6 : Hid (RpS w w6 v6 (hdX o ++ offsP s o (j + 1 + 1))) := by
              refine ⟨?_, HO5.out.grow HK5.out (Nat.le_refl _) hk6⟩
              rw [HOS.out (j + 1), HEQ.out, ← List.append_assoc, ← HA.out]
              exact ho6
            clear ho6 hk6 hl5 hB5 HO5 HK5 HI5
            go_wp2_with fail
            go_roundw
            case rel => first | exact ⟨j + 1, hlt, int_eq' (by first | rfl | simp), int_eq' (by first | rfl | exact HEQ.out.symm), HS6⟩ | ((repeat apply Exists.intro); exact ⟨⟨j + 1, hlt, int_eq' (by first | rfl | simp), int_eq' (by have := HEQ.out; omega), HS6⟩, rfl⟩)
            case measure => simp [intOf] <;> omega
          · obtain rfl : N = j := by omega
            have HT0 : Hid (hdX o ++ offsP s o (N + 1) ++ (o.take 0).flatten = hdX o ++ offsP s o (N + 1)) := by show _ = _; simp
            have HS7 : Hid (RpS w wr (.slice pv A.length cv0) (hdX o ++ offsP s o (N + 1) ++ (o.take 0).flatten)) := by show RpS _ _ _ _; rw [HT0.out, ← HA.out]; exact HJ.out
            clear HJ HS4'
            go_wp2_with fail
            go_loopw [7, 10] (fun v i wr => ∃ j : Nat, j ≤ N ∧ i = .int .i64 j ∧ Hid (RpS w wr v (hdX o ++ offsP s o (N + 1) ++ (o.take j).flatten))) (fun _ i _ => N - (intOf i).toNat)
            case atStart => exact ⟨0, by omega, rfl, HS7⟩
            case round =>
              obtain ⟨j, hj, rfl, HJ⟩ := hrel
              obtain ⟨A2, hA2⟩ : ∃ A2, A2 = hdX o ++ offsP s o (N + 1) ++ (o.take j).flatten := ⟨_, rfl⟩
              have HA2 := Lib.hid hA2
              rw [← hA2] at HJ
              clear hA2
              obtain ⟨pv, cv0, e⟩ := HJ.out.1.form
              subst e
              by_cases hlt : j < N
              · have hjo : j < o.length := by rw [HN.out]; exact hlt
                obtain ⟨g1, o1, c1, p1, cv, e1, _, _, hc1, hi1⟩ := (HV.out _ HJ.out.2).row hjo
                rw [HN.out] at e1
                cases e1
                have HI5 := Lib.hid hi1
                have HF := Lib.hid (HFS.out j hlt)
                have hl5 : A2.length + (o.getD j []).length ≤ 1073741824 := by
                  have h1 := HLO.out N (Nat.le_refl _)
                  have h2 := HEL.out (j + 1) hlt
                  have h3 := HES.out j hlt
                  have h4 : EN j = 1 + (o.take j).flatten.length := HEJ.out j
                  have h5 := HEA.out
                  have h6 := HEB.out N (Nat.le_refl _)
                  rw [HA2.out, List.length_append]; omega
                have hB5 := HJ.out.2.size
                have HO5 := Lib.hid HJ.out.1
                have HK5 := Lib.hid HJ.out.2
                generalize o.getD j [] = G at *
                clear hi1 hjo HS7 HJ
                go_wp2_with (at_builtin; refine wpList_ob rfl _ _ rfl rfl HO5.out (.slice p1 G.length cv) G rfl HI5.out hl5 hB5 ?hk)
                case hk =>
                intro v6 w6 ho6 hk6 _
                have HS6 : Hid (RpS w w6 v6 (hdX o ++ offsP s o (N + 1) ++ (o.take (j + 1)).flatten)) := by
                  refine ⟨?_, HO5.out.grow HK5.out (Nat.le_refl _) hk6⟩
                  rw [HF.out, ← List.append_assoc, ← HA2.out]
                  exact ho6
                clear ho6 hk6 hl5 hB5 HO5 HK5 HI5 hc1
                go_wp2_with fail
                go_roundw
                case rel => first | exact ⟨j + 1, hlt, int_eq' (by first | rfl | simp), HS6⟩ | ((repeat apply Exists.intro); exact ⟨⟨j + 1, hlt, int_eq' (by first | rfl | simp), HS6⟩, rfl⟩)
                case measure => simp [intOf] <;> omega
              · obtain rfl : N = j := by omega
                have HE2 : Hid (A2 = ixB o) := by show _ = _; rw [HA2.out, HTF.out, ← HIX.out]
                go_wp2_with fail
                go_ret2
                rw [HX.out]
                refine ⟨_, rfl, ?_, HJ.out.2⟩
                show OwnB wr w.heap.size (.slice pv A2.length cv0) (ixB o)
                rw [← HE2.out]
                exact HJ.out.1
end Go.Proofs.YtlhkaoccnpgkeaaGreat
namespace Go.Proofs.YtlhkaoccnpgkeaaGreat
open Go.RowKit
set_option linter.unusedVariables false
set_option linter.unusedSimpArgs false
section
variable {w : World} {ops : Array Oper} {o : Oper} {a : Act} {Q : Exit → Act → World → Prop} {K : Act → World → Prop} {E : Prop}
/-- Appending bytes to a row of one's own, in a region that draws its order. -/
theorem step_ob (hgd : o.guard = none) (s y : Operand) (ho : o.op = .call { callee := .builtin .append, args := #[s, y], argTypes := #[29, 29] })
    {B : Nat} {v : Value} {l : List Int} (hs : a.eval s = v) (hown : OwnB w B v l) (q : Option Addr) (m c : Nat) (zs : List Int) (hx : a.eval y = .slice q m c) (hsrc : IsInts .u8 w (.slice q m c) zs) (h0 : 0 < m) (hl : l.length + m ≤ 1073741824) (hB : B ≤ w.heap.size)
    (h : ∀ v' w', OwnB w' B v' (l ++ zs) → Kp v.ownBlock.toList w w' → K (a.put o.dst v') w') : if Region.wanted o (yielded ops a.tmps) = true then Oper.wp Tryz.prog o a w K Q else E := by
  obtain ⟨hm, g, off, rfl, hc⟩ := ints_at hsrc h0
  refine step_app hgd s y 29 ho B 5 (.int .u8 0) 1 1 Tryz.underlying29 infoByte rfl (by decide) (by decide) v l.length _ hs hown g off c m (zs.map (Value.int .u8)) hx (by simp [hm]) (fun j u hu => by have := hc j u hu; rwa [add_lit] at this) (oneCell_ints _ _) (by omega) hB ?_
  intro v' w' h1 h2
  refine h v' w' ?_ (Kp.grown (Kp.refl _ _) h2 (fun k hk => .inl (by rw [hk]; simp)))
  unfold OwnB
  rw [List.length_append, hm, List.map_append]
  exact h1
end
section
variable {w : World} {ops : Array Oper} {rest : List Oper} {o : Oper} {a : Act} {Q : Exit → Act → World → Prop}
/-- The same as wpList_ob, the row behind it by a name. -/
theorem wpList_obr (hgd : o.guard = none) (s y : Operand) (ho : o.op = .call { callee := .builtin .append, args := #[s, y], argTypes := #[29, 29] })
    {B : Nat} {v : Value} {l : List Int} (hs : a.eval s = v) (hown : OwnB w B v l) (xv : Value) (zs : List Int) (hx : a.eval y = xv) (hsrc : IsInts .u8 w xv zs) (r : List Int) (hr : Hid (l ++ zs = r)) (hl : l.length + zs.length ≤ 1073741824) (hB : B ≤ w.heap.size)
    (h : ∀ v' w', OwnB w' B v' r → Kp v.ownBlock.toList w w' → (∀ k, v'.ownBlock = some k → v.ownBlock = some k ∨ w.heap.size ≤ k) → wpList Tryz.prog ops Q rest (a.put o.dst v') w') : wpList Tryz.prog ops Q (o :: rest) a w := by
  have h1 := hr.out
  subst h1
  exact wpList_ob hgd s y ho hs hown xv zs hx hsrc hl hB h
end
theorem rfive_calls (x : Int) (g1 : -9223372036854775808 ≤ x) (g2 : x ≤ 9223372036854775807) (w : World) :
    Calls Tryz.prog 74 #[.int .i64 x] w fun e w' => ∃ v, e = .returned v ∧ OwnB w' w.heap.size v (fiveB x) ∧ Kp [] w w' := by
  have HY := Lib.hid (fun W => rbytes_calls 4 x (by decide) (by decide) g1 g2 W)
  have hl0 : OwnB (w.alloc (.cells #[.int .u8 29] 5)) w.heap.size (.slice (some ⟨w.heap.size, 0, none⟩) 1 1) [29] := own_lit w w.heap.size w.heap.size 5 1 1 #[.int .u8 29] rfl (Nat.le_refl _) (by decide) rfl
  have HL := Lib.hid hl0
  clear hl0
  go_enter Tryz.func74, Tryz.ntmps74
  go_wp2_with fail
  refine (HY.out _).mono ?_; rintro e w1 ⟨v1, rfl, ho1, hk1⟩
  have HI1 : Hid (IsInts .u8 w1 v1 (bytesN 4 x)) := IsInts.owned ho1
  have HO1 := Lib.hid (HL.out.kp0 hk1)
  have HK1 : Hid (Kp [] w w1) := Kp.trans (by ((repeat (first | exact Kp.refl _ _ | assumption | refine Kp.drew ?_ | refine Kp.drewN ?_ _ | refine Kp.alloc ?_ _)); (first | done | fail))) hk1
  obtain ⟨p1, c1, rfl⟩ := HI1.out.form
  have hl1 : [(29 : Int)].length + (bytesN 4 x).length ≤ 1073741824 := by rw [bytesN_length]; decide
  have hB1 := HK1.out.size
  clear ho1 hk1
  go_wp2_with (at_builtin; refine wpList_ob rfl _ _ rfl rfl HO1.out (.slice p1 (bytesN 4 x).length c1) (bytesN 4 x) rfl HI1.out hl1 hB1 ?hk)
  case hk =>
  intro v2 w2 ho2 hk2 _
  have HF := Lib.hid ho2
  have HK2 := Lib.hid (HO1.out.grow HK1.out (Nat.le_refl _) hk2)
  clear ho2 hk2
  go_wp2_with fail
  go_ret
  exact ⟨v2, rfl, HF.out, HK2.out⟩
theorem op_hi (op : Nat) (h1 : 3072 ≤ op) (h2 : op < 3328) : bytesN 2 (op : Nat) = [12, (op : Int) - 3072] := by
  have e1 : (op : Int) / 256 % 256 = 12 := by omega
  have e2 : (op : Int) % 256 = (op : Int) - 3072 := by omega
  simp [bytesN, e1, e2]
set_option maxRecDepth 100000 in
theorem rsay_calls (op : Nat) (hop : op < 256 ∨ 3072 ≤ op ∧ op < 3328) (v : Value) (xs : List Int) (w : World) (hv : IsInts .i64 w v xs) (hl : xs.length ≤ 100) (hb : ∀ x ∈ xs, -9223372036854775808 ≤ x ∧ x ≤ 9223372036854775807) :
    Calls Tryz.prog 31 #[.int .i64 (op : Nat), v] w fun e w' => ∃ v', e = .returned v' ∧ OwnB w' w.heap.size v' (sayB op xs) ∧ Kp [] w w' := by
  have HV := Lib.hid (fun W (hk : Kp [] w W) => hv.kp hk (by simp))
  have HB := Lib.hid hb
  have HSB : Hid (sayB op xs = (xs.take xs.length).flatMap fiveB ++ (if 3072 ≤ op then bytesN 2 (op : Nat) else bytesN 1 (op : Nat))) := by show _ = _; rw [List.take_length]; rfl
  have HT : Hid (∀ j, j < xs.length → (xs.take (j + 1)).flatMap fiveB = (xs.take j).flatMap fiveB ++ fiveB (xs.getD j 0)) := fun j hj => by
    rw [List.take_succ_eq_append_getElem hj, List.flatMap_append, List.getD_eq_getElem?_getD, List.getElem?_eq_getElem hj]; simp
  have HL : Hid (∀ j, ((xs.take j).flatMap fiveB).length ≤ 500) := fun j => by rw [fives_length, List.length_take]; omega
  obtain ⟨p, c, rfl⟩ := hv.form
  obtain ⟨n, hN⟩ : ∃ n, xs.length = n := ⟨_, rfl⟩
  have HN := Lib.hid hN
  rw [hN] at HV HSB HT hl ⊢
  clear hv hb hN
  generalize sayB op xs = R at *
  have HS0 : Hid (RpS w w (.slice none 0 0) ((xs.take 0).flatMap fiveB)) := ⟨World.ownsRow_nil _ _ _ _, Kp.refl _ _⟩
  go_enter Tryz.func31, Tryz.ntmps31
  go_wp2_with fail
  go_loopw [5, 6] (fun v i wr => ∃ j : Nat, j ≤ n ∧ i = .int .i64 j ∧ Hid (RpS w wr v ((xs.take j).flatMap fiveB))) (fun _ i _ => n - (intOf i).toNat)
  case atStart => exact ⟨0, by omega, rfl, HS0⟩
  case round =>
    obtain ⟨j, hj, rfl, HJ⟩ := hrel
    obtain ⟨A, hA⟩ : ∃ A, A = (xs.take j).flatMap fiveB := ⟨_, rfl⟩
    have hAl : A.length ≤ 500 := by rw [hA]; exact HL.out j
    have HA := Lib.hid hA
    rw [← hA] at HJ
    clear hA HS0
    obtain ⟨pv, cv0, e⟩ := HJ.out.1.form
    subst e
    by_cases hlt : j < n
    · have hx := HV.out wr HJ.out.2
      have hxl : j < xs.length := by rw [HN.out]; exact hlt
      have hbx := HB.out (xs.getD j 0) (by rw [List.getD_eq_getElem?_getD, List.getElem?_eq_getElem hxl]; exact List.getElem_mem _)
      have HC : Hid (∃ g o, p = some ⟨g, o, none⟩ ∧ n ≤ c ∧ wr.cell? ⟨g, o + j, none⟩ = some (.int .i64 (xs.getD j 0))) := by
        rcases hx with ⟨⟨ad, e⟩, e2⟩ | ⟨g, o, c2, e, h2, h3, h4⟩
        · exfalso; rw [e2] at hxl; simp at hxl
        · cases e; exact ⟨g, o, rfl, by rw [HN.out] at h2; exact h2, h4 j hxl⟩
      have HNU := Lib.hid (rfive_calls (xs.getD j 0) hbx.1 hbx.2 wr)
      have HF := Lib.hid (HT.out j hlt)
      clear hx hxl hbx
      generalize xs.getD j 0 = x at *
      obtain ⟨g, o, rfl, hnc, hcell⟩ := HC.out
      clear HC
      go_wp2_with fail
      refine HNU.out.mono ?_; rintro e w2 ⟨v2, rfl, ho2, hk2⟩
      have HI2 := Lib.hid ho2.ints
      have HO2 := Lib.hid (HJ.out.1.kp0 hk2)
      have HK2 := Lib.hid (HJ.out.2.trans hk2)
      obtain ⟨p2, c2, rfl⟩ := ho2.form
      have hl2 : A.length + (fiveB x).length ≤ 1073741824 := by rw [fiveB_length]; omega
      have hB2 := HK2.out.size
      clear ho2 hk2 HNU HJ hcell
      generalize hFL : (fiveB x).length = FL at *
      go_wp2_with (at_builtin; refine wpList_ob rfl _ _ rfl rfl HO2.out (.slice p2 FL c2) (fiveB x) rfl HI2.out (by rw [hFL]; exact hl2) hB2 ?hk)
      case hk =>
      intro v3 w3 ho3 hk3 _
      have HS3 : Hid (RpS w w3 v3 ((xs.take (j + 1)).flatMap fiveB)) := by
        refine ⟨?_, HO2.out.grow HK2.out (Nat.le_refl _) hk3⟩
        rw [HF.out, ← HA.out]
        exact ho3
      clear ho3 hk3 hl2 hB2 HO2 HK2 HI2
      go_wp2_with fail
      go_roundw
      case rel => first | exact ⟨j + 1, hlt, int_eq' (by first | rfl | simp), HS3⟩ | ((repeat apply Exists.intro); exact ⟨⟨j + 1, hlt, int_eq' (by first | rfl | simp), HS3⟩, rfl⟩)
      case measure => simp [intOf] <;> omega
    · obtain rfl : n = j := by omega
      have HO := Lib.hid HJ.out.1
      have HK := Lib.hid HJ.out.2
      have hsz := HK.out.size
      by_cases ho : 3072 ≤ op
      · have hd : decide ((3072 : Int) ≤ (op : Int)) = true := decide_eq_true (by omega)
        have hw : wrap64 ((op : Int) - 3072) = (op : Int) - 3072 := w64 _ (by omega) (by omega)
        have HE : Hid (R = A ++ [12, (op : Int) - 3072]) := by show _ = _; rw [HSB.out, if_pos ho, HA.out, op_hi op ho (by omega)]
        have HLT : Hid (IsInts .u8 (wr.alloc (.cells #[.int .u8 12, .int .u8 ((op : Int) - 3072)] 5)) (.slice (some ⟨wr.heap.size, 0, none⟩) 2 2) [12, (op : Int) - 3072]) := litb_at wr _ rfl [12, (op : Int) - 3072] 2 rfl _ rfl (by decide) _ (Kp.refl _ _)
        have hl9 : A.length + [12, (op : Int) - 3072].length ≤ 1073741824 := by simp; omega
        have HOa := Lib.hid (HO.out.kp0 ((Kp.refl _ _).alloc (.cells #[.int .u8 12, .int .u8 ((op : Int) - 3072)] 5)))
        clear HJ
        go_wp2_with (at_builtin; refine wpList_ob rfl _ _ rfl rfl HOa.out (.slice (some ⟨wr.heap.size, 0, none⟩) 2 2) [12, (op : Int) - 3072] rfl HLT.out hl9 (by simp; omega) ?hk)
        case hk =>
        intro v3 w3 ho3 hk3 _
        have HS3 : Hid (RpS w w3 v3 R) := ⟨by rw [HE.out]; exact ho3, HOa.out.grow (HK.out.alloc _) (Nat.le_refl _) hk3⟩
        clear ho3 hk3
        go_wp2_with fail
        go_ret
        exact ⟨v3, rfl, HS3.out.1, HS3.out.2⟩
      · have hd : decide ((3072 : Int) ≤ (op : Int)) = false := decide_eq_false (by omega)
        have HE : Hid (R = A ++ [(op : Int)]) := by show _ = _; rw [HSB.out, if_neg ho, HA.out]; have e : (op : Int) % 256 = (op : Int) := (by omega); simp [bytesN, e]
        have HLT : Hid (IsInts .u8 (wr.alloc (.cells #[.int .u8 (op : Nat)] 5)) (.slice (some ⟨wr.heap.size, 0, none⟩) 1 1) [(op : Int)]) := litb_at wr _ rfl [(op : Int)] 1 rfl _ rfl (by decide) _ (Kp.refl _ _)
        have hl9 : A.length + [(op : Int)].length ≤ 1073741824 := by simp; omega
        have HOa := Lib.hid (HO.out.kp0 ((Kp.refl _ _).alloc (.cells #[.int .u8 (op : Nat)] 5)))
        clear HJ
        go_wp2_with (at_builtin; refine wpList_ob rfl _ _ rfl rfl HOa.out (.slice (some ⟨wr.heap.size, 0, none⟩) 1 1) [(op : Int)] rfl HLT.out hl9 (by simp; omega) ?hk)
        case hk =>
        intro v3 w3 ho3 hk3 _
        have HS3 : Hid (RpS w w3 v3 R) := ⟨by rw [HE.out]; exact ho3, HOa.out.grow (HK.out.alloc _) (Nat.le_refl _) hk3⟩
        clear ho3 hk3
        go_wp2_with fail
        go_ret
        exact ⟨v3, rfl, HS3.out.1, HS3.out.2⟩
end Go.Proofs.YtlhkaoccnpgkeaaGreat
namespace Go.Proofs.YtlhkaoccnpgkeaaGreat
open Go.RowKit
set_option linter.unusedVariables false
set_option linter.unusedSimpArgs false
theorem rsay_at (op : Nat) (z : Int) (hz : z = (op : Nat)) (hop : op < 256 ∨ 3072 ≤ op ∧ op < 3328) (v : Value) (xs : List Int) (w : World) (hv : IsInts .i64 w v xs) (hl : xs.length ≤ 100) (hb : ∀ x ∈ xs, -9223372036854775808 ≤ x ∧ x ≤ 9223372036854775807) :
    Calls Tryz.prog 31 #[.int .i64 z, v] w fun e w' => ∃ v', e = .returned v' ∧ OwnB w' w.heap.size v' (sayB op xs) ∧ Kp [] w w' := by
  subst hz
  exact rsay_calls op hop v xs w hv hl hb
def topR (cid : Bool) (names codes a c : Nat) : List Int := if cid then sayB 3102 [0, 0, 0] ++ sayB 15 [(names : Int)] ++ sayB 17 [(codes : Int)] ++ sayB 3108 [(a : Int)] ++ sayB 3109 [(c : Int)] else sayB 15 [(names : Int)] ++ sayB 17 [(codes : Int)] ++ sayB 18 [(a : Int), (c : Int)]
set_option maxRecDepth 100000 in
set_option maxHeartbeats 4000000 in
theorem rtop_calls (cid : Bool) (names codes a c : Nat) (h1 : names ≤ 4294967296) (h2 : codes ≤ 4294967296) (h3 : a ≤ 4294967296) (h4 : c ≤ 4294967296) (w : World) :
    Calls Tryz.prog 29 #[.bool cid, .int .i64 (names : Nat), .int .i64 (codes : Nat), .int .i64 (a : Nat), .int .i64 (c : Nat)] w fun e w' => ∃ v', e = .returned v' ∧ OwnB w' w.heap.size v' (topR cid names codes a c) ∧ Kp [] w w' := by
  cases cid with
  | true =>
    have HT : Hid (topR true names codes a c = sayB 3102 [0, 0, 0] ++ sayB 15 [(names : Int)] ++ sayB 17 [(codes : Int)] ++ sayB 3108 [(a : Int)] ++ sayB 3109 [(c : Int)]) := rfl
    generalize topR true names codes a c = TR at *
    go_enter Tryz.func29, Tryz.ntmps29
    have HSY1 := Lib.hid (rsay_at 3102 3102 rfl (by decide) (.slice (some ⟨w.heap.size, 0, none⟩) 3 3) [0, 0, 0] _ (lit_at w _ rfl [0, 0, 0] 3 rfl #[.int .i64 (0), .int .i64 (0), .int .i64 (0)] rfl (by decide) _ (Kp.refl _ _)) (by simp) (by intro x hx; simp at hx; omega))
    go_wp2_with fail
    refine HSY1.out.mono ?_; rintro e w1 ⟨u1, rfl, h1, k1⟩
    have K1 : Hid (Kp [] w w1) := Kp.trans (by ((repeat (first | exact Kp.refl _ _ | assumption | refine Kp.drew ?_ | refine Kp.drewN ?_ _ | refine Kp.alloc ?_ _)); (first | done | fail))) k1
    have HLn1 : Hid ((sayB 3102 [0, 0, 0]).length = 17) := by show _ = _; rw [sayB_length]; rfl
    have H1 := Lib.hid (h1.base (B := w.heap.size) (by simp))
    clear h1 k1 HSY1
    generalize hE1 : sayB 3102 [0, 0, 0] = E1 at *
    obtain ⟨p1, c1, rfl⟩ := H1.out.form
    have HSY2 := Lib.hid (rsay_at 15 15 rfl (by decide) (.slice (some ⟨w1.heap.size, 0, none⟩) 1 1) [(names : Int)] _ (lit_at w1 _ rfl [(names : Int)] 1 rfl #[.int .i64 (names : Nat)] rfl (by decide) _ (Kp.refl _ _)) (by simp) (by intro x hx; simp at hx; omega))
    go_wp2_with fail
    refine HSY2.out.mono ?_; rintro e w2 ⟨u2, rfl, h2, k2⟩
    have K2 : Hid (Kp [] w1 w2) := Kp.trans (by ((repeat (first | exact Kp.refl _ _ | assumption | refine Kp.drew ?_ | refine Kp.drewN ?_ _ | refine Kp.alloc ?_ _)); (first | done | fail))) k2
    have HLn2 : Hid ((sayB 15 [(names : Int)]).length = 6) := by show _ = _; rw [sayB_length]; rfl
    have H2 := Lib.hid (h2.base (B := w1.heap.size) (by simp))
    clear h2 k2 HSY2
    generalize hE2 : sayB 15 [(names : Int)] = E2 at *
    obtain ⟨p2, c2, rfl⟩ := H2.out.form
    obtain ⟨S3, hS3⟩ : ∃ r, E1 ++ E2 = r := ⟨_, rfl⟩
    have HS3 := Lib.hid hS3
    have HLn3 : Hid (S3.length = 23) := by show _ = _; rw [← hS3, List.length_append, HLn1.out, HLn2.out]
    have hl3 : E1.length + E2.length ≤ 1073741824 := by rw [HLn1.out, HLn2.out]; decide
    clear hS3
    have HOP3 := Lib.hid (H1.out.kp0 K2.out)
    have HKP3 : Hid (Kp [] w w2) := K1.out.trans K2.out
    have hB3 := HKP3.out.size
    go_wp2_with (at_builtin; refine wpList_obr rfl _ _ rfl rfl HOP3.out (.slice p2 E2.length c2) E2 rfl H2.out.ints S3 HS3 hl3 hB3 ?hk)
    case hk =>
    intro a3 y3 ho3 hk3 _
    have O3 := Lib.hid ho3
    have KO3 := Lib.hid (HOP3.out.grow HKP3.out (Nat.le_refl _) hk3)
    clear ho3 hk3 HOP3 HKP3 hl3 hB3
    obtain ⟨q3, d3, rfl⟩ := O3.out.form
    have HSY4 := Lib.hid (rsay_at 17 17 rfl (by decide) (.slice (some ⟨y3.heap.size, 0, none⟩) 1 1) [(codes : Int)] _ (lit_at y3 _ rfl [(codes : Int)] 1 rfl #[.int .i64 (codes : Nat)] rfl (by decide) _ (Kp.refl _ _)) (by simp) (by intro x hx; simp at hx; omega))
    go_wp2_with fail
    refine HSY4.out.mono ?_; rintro e w4 ⟨u4, rfl, h4, k4⟩
    have K4 : Hid (Kp [] y3 w4) := Kp.trans (by ((repeat (first | exact Kp.refl _ _ | assumption | refine Kp.drew ?_ | refine Kp.drewN ?_ _ | refine Kp.alloc ?_ _)); (first | done | fail))) k4
    have HLn4 : Hid ((sayB 17 [(codes : Int)]).length = 6) := by show _ = _; rw [sayB_length]; rfl
    have H4 := Lib.hid (h4.base (B := y3.heap.size) (by simp))
    clear h4 k4 HSY4
    generalize hE4 : sayB 17 [(codes : Int)] = E4 at *
    obtain ⟨p4, c4, rfl⟩ := H4.out.form
    obtain ⟨S5, hS5⟩ : ∃ r, S3 ++ E4 = r := ⟨_, rfl⟩
    have HS5 := Lib.hid hS5
    have HLn5 : Hid (S5.length = 29) := by show _ = _; rw [← hS5, List.length_append, HLn3.out, HLn4.out]
    have hl5 : S3.length + E4.length ≤ 1073741824 := by rw [HLn3.out, HLn4.out]; decide
    clear hS5
    have HOP5 := Lib.hid (O3.out.kp0 K4.out)
    have HKP5 : Hid (Kp [] w w4) := KO3.out.trans K4.out
    have hB5 := HKP5.out.size
    go_wp2_with (at_builtin; refine wpList_obr rfl _ _ rfl rfl HOP5.out (.slice p4 E4.length c4) E4 rfl H4.out.ints S5 HS5 hl5 hB5 ?hk)
    case hk =>
    intro a5 y5 ho5 hk5 _
    have O5 := Lib.hid ho5
    have KO5 := Lib.hid (HOP5.out.grow HKP5.out (Nat.le_refl _) hk5)
    clear ho5 hk5 HOP5 HKP5 hl5 hB5
    obtain ⟨q5, d5, rfl⟩ := O5.out.form
    have HSY6 := Lib.hid (rsay_at 3108 3108 rfl (by decide) (.slice (some ⟨y5.heap.size, 0, none⟩) 1 1) [(a : Int)] _ (lit_at y5 _ rfl [(a : Int)] 1 rfl #[.int .i64 (a : Nat)] rfl (by decide) _ (Kp.refl _ _)) (by simp) (by intro x hx; simp at hx; omega))
    go_wp2_with fail
    refine HSY6.out.mono ?_; rintro e w6 ⟨u6, rfl, h6, k6⟩
    have K6 : Hid (Kp [] y5 w6) := Kp.trans (by ((repeat (first | exact Kp.refl _ _ | assumption | refine Kp.drew ?_ | refine Kp.drewN ?_ _ | refine Kp.alloc ?_ _)); (first | done | fail))) k6
    have HLn6 : Hid ((sayB 3108 [(a : Int)]).length = 7) := by show _ = _; rw [sayB_length]; rfl
    have H6 := Lib.hid (h6.base (B := y5.heap.size) (by simp))
    clear h6 k6 HSY6
    generalize hE6 : sayB 3108 [(a : Int)] = E6 at *
    obtain ⟨p6, c6, rfl⟩ := H6.out.form
    obtain ⟨S7, hS7⟩ : ∃ r, S5 ++ E6 = r := ⟨_, rfl⟩
    have HS7 := Lib.hid hS7
    have HLn7 : Hid (S7.length = 36) := by show _ = _; rw [← hS7, List.length_append, HLn5.out, HLn6.out]
    have hl7 : S5.length + E6.length ≤ 1073741824 := by rw [HLn5.out, HLn6.out]; decide
    clear hS7
    have HOP7 := Lib.hid (O5.out.kp0 K6.out)
    have HKP7 : Hid (Kp [] w w6) := KO5.out.trans K6.out
    have hB7 := HKP7.out.size
    go_wp2_with (at_builtin; refine wpList_obr rfl _ _ rfl rfl HOP7.out (.slice p6 E6.length c6) E6 rfl H6.out.ints S7 HS7 hl7 hB7 ?hk)
    case hk =>
    intro a7 y7 ho7 hk7 _
    have O7 := Lib.hid ho7
    have KO7 := Lib.hid (HOP7.out.grow HKP7.out (Nat.le_refl _) hk7)
    clear ho7 hk7 HOP7 HKP7 hl7 hB7
    obtain ⟨q7, d7, rfl⟩ := O7.out.form
    have HSY8 := Lib.hid (rsay_at 3109 3109 rfl (by decide) (.slice (some ⟨y7.heap.size, 0, none⟩) 1 1) [(c : Int)] _ (lit_at y7 _ rfl [(c : Int)] 1 rfl #[.int .i64 (c : Nat)] rfl (by decide) _ (Kp.refl _ _)) (by simp) (by intro x hx; simp at hx; omega))
    go_wp2_with fail
    refine HSY8.out.mono ?_; rintro e w8 ⟨u8, rfl, h8, k8⟩
    have K8 : Hid (Kp [] y7 w8) := Kp.trans (by ((repeat (first | exact Kp.refl _ _ | assumption | refine Kp.drew ?_ | refine Kp.drewN ?_ _ | refine Kp.alloc ?_ _)); (first | done | fail))) k8
    have HLn8 : Hid ((sayB 3109 [(c : Int)]).length = 7) := by show _ = _; rw [sayB_length]; rfl
    have H8 := Lib.hid (h8.base (B := y7.heap.size) (by simp))
    clear h8 k8 HSY8
    generalize hE8 : sayB 3109 [(c : Int)] = E8 at *
    obtain ⟨p8, c8, rfl⟩ := H8.out.form
    obtain ⟨S9, hS9⟩ : ∃ r, S7 ++ E8 = r := ⟨_, rfl⟩
    have HS9 := Lib.hid hS9
    have HLn9 : Hid (S9.length = 43) := by show _ = _; rw [← hS9, List.length_append, HLn7.out, HLn8.out]
    have hl9 : S7.length + E8.length ≤ 1073741824 := by rw [HLn7.out, HLn8.out]; decide
    clear hS9
    have HOP9 := Lib.hid (O7.out.kp0 K8.out)
    have HKP9 : Hid (Kp [] w w8) := KO7.out.trans K8.out
    have hB9 := HKP9.out.size
    go_wp2_with (at_builtin; refine wpList_obr rfl _ _ rfl rfl HOP9.out (.slice p8 E8.length c8) E8 rfl H8.out.ints S9 HS9 hl9 hB9 ?hk)
    case hk =>
    intro a9 y9 ho9 hk9 _
    have O9 := Lib.hid ho9
    have KO9 := Lib.hid (HOP9.out.grow HKP9.out (Nat.le_refl _) hk9)
    clear ho9 hk9 HOP9 HKP9 hl9 hB9
    obtain ⟨q9, d9, rfl⟩ := O9.out.form
    go_wp2_with fail
    go_ret
    refine ⟨_, rfl, ?_, KO9.out⟩
    rw [HT.out, HS3.out, HS5.out, HS7.out, HS9.out]
    exact O9.out
  | false =>
    have HT : Hid (topR false names codes a c = sayB 15 [(names : Int)] ++ sayB 17 [(codes : Int)] ++ sayB 18 [(a : Int), (c : Int)]) := rfl
    generalize topR false names codes a c = TR at *
    go_enter Tryz.func29, Tryz.ntmps29
    have HSY1 := Lib.hid (rsay_at 15 15 rfl (by decide) (.slice (some ⟨w.heap.size, 0, none⟩) 1 1) [(names : Int)] _ (lit_at w _ rfl [(names : Int)] 1 rfl #[.int .i64 (names : Nat)] rfl (by decide) _ (Kp.refl _ _)) (by simp) (by intro x hx; simp at hx; omega))
    go_wp2_with fail
    refine HSY1.out.mono ?_; rintro e w1 ⟨u1, rfl, h1, k1⟩
    have K1 : Hid (Kp [] w w1) := Kp.trans (by ((repeat (first | exact Kp.refl _ _ | assumption | refine Kp.drew ?_ | refine Kp.drewN ?_ _ | refine Kp.alloc ?_ _)); (first | done | fail))) k1
    have HLn1 : Hid ((sayB 15 [(names : Int)]).length = 6) := by show _ = _; rw [sayB_length]; rfl
    have H1 := Lib.hid (h1.base (B := w.heap.size) (by simp))
    clear h1 k1 HSY1
    generalize hE1 : sayB 15 [(names : Int)] = E1 at *
    obtain ⟨p1, c1, rfl⟩ := H1.out.form
    have HSY2 := Lib.hid (rsay_at 17 17 rfl (by decide) (.slice (some ⟨w1.heap.size, 0, none⟩) 1 1) [(codes : Int)] _ (lit_at w1 _ rfl [(codes : Int)] 1 rfl #[.int .i64 (codes : Nat)] rfl (by decide) _ (Kp.refl _ _)) (by simp) (by intro x hx; simp at hx; omega))
    go_wp2_with fail
    refine HSY2.out.mono ?_; rintro e w2 ⟨u2, rfl, h2, k2⟩
    have K2 : Hid (Kp [] w1 w2) := Kp.trans (by ((repeat (first | exact Kp.refl _ _ | assumption | refine Kp.drew ?_ | refine Kp.drewN ?_ _ | refine Kp.alloc ?_ _)); (first | done | fail))) k2
    have HLn2 : Hid ((sayB 17 [(codes : Int)]).length = 6) := by show _ = _; rw [sayB_length]; rfl
    have H2 := Lib.hid (h2.base (B := w1.heap.size) (by simp))
    clear h2 k2 HSY2
    generalize hE2 : sayB 17 [(codes : Int)] = E2 at *
    obtain ⟨p2, c2, rfl⟩ := H2.out.form
    obtain ⟨S3, hS3⟩ : ∃ r, E1 ++ E2 = r := ⟨_, rfl⟩
    have HS3 := Lib.hid hS3
    have HLn3 : Hid (S3.length = 12) := by show _ = _; rw [← hS3, List.length_append, HLn1.out, HLn2.out]
    have hl3 : E1.length + E2.length ≤ 1073741824 := by rw [HLn1.out, HLn2.out]; decide
    clear hS3
    have HOP3 := Lib.hid (H1.out.kp0 K2.out)
    have HKP3 : Hid (Kp [] w w2) := K1.out.trans K2.out
    have hB3 := HKP3.out.size
    go_wp2_with (at_builtin; refine wpList_obr rfl _ _ rfl rfl HOP3.out (.slice p2 E2.length c2) E2 rfl H2.out.ints S3 HS3 hl3 hB3 ?hk)
    case hk =>
    intro a3 y3 ho3 hk3 _
    have O3 := Lib.hid ho3
    have KO3 := Lib.hid (HOP3.out.grow HKP3.out (Nat.le_refl _) hk3)
    clear ho3 hk3 HOP3 HKP3 hl3 hB3
    obtain ⟨q3, d3, rfl⟩ := O3.out.form
    have HSY4 := Lib.hid (rsay_at 18 18 rfl (by decide) (.slice (some ⟨y3.heap.size, 0, none⟩) 2 2) [(a : Int), (c : Int)] _ (lit_at y3 _ rfl [(a : Int), (c : Int)] 2 rfl #[.int .i64 (a : Nat), .int .i64 (c : Nat)] rfl (by decide) _ (Kp.refl _ _)) (by simp) (by intro x hx; simp at hx; omega))
    go_wp2_with fail
    refine HSY4.out.mono ?_; rintro e w4 ⟨u4, rfl, h4, k4⟩
    have K4 : Hid (Kp [] y3 w4) := Kp.trans (by ((repeat (first | exact Kp.refl _ _ | assumption | refine Kp.drew ?_ | refine Kp.drewN ?_ _ | refine Kp.alloc ?_ _)); (first | done | fail))) k4
    have HLn4 : Hid ((sayB 18 [(a : Int), (c : Int)]).length = 11) := by show _ = _; rw [sayB_length]; rfl
    have H4 := Lib.hid (h4.base (B := y3.heap.size) (by simp))
    clear h4 k4 HSY4
    generalize hE4 : sayB 18 [(a : Int), (c : Int)] = E4 at *
    obtain ⟨p4, c4, rfl⟩ := H4.out.form
    obtain ⟨S5, hS5⟩ : ∃ r, S3 ++ E4 = r := ⟨_, rfl⟩
    have HS5 := Lib.hid hS5
    have HLn5 : Hid (S5.length = 23) := by show _ = _; rw [← hS5, List.length_append, HLn3.out, HLn4.out]
    have hl5 : S3.length + E4.length ≤ 1073741824 := by rw [HLn3.out, HLn4.out]; decide
    clear hS5
    have HOP5 := Lib.hid (O3.out.kp0 K4.out)
    have HKP5 : Hid (Kp [] w w4) := KO3.out.trans K4.out
    have hB5 := HKP5.out.size
    go_wp2_with (at_builtin; refine wpList_obr rfl _ _ rfl rfl HOP5.out (.slice p4 E4.length c4) E4 rfl H4.out.ints S5 HS5 hl5 hB5 ?hk)
    case hk =>
    intro a5 y5 ho5 hk5 _
    have O5 := Lib.hid ho5
    have KO5 := Lib.hid (HOP5.out.grow HKP5.out (Nat.le_refl _) hk5)
    clear ho5 hk5 HOP5 HKP5 hl5 hB5
    obtain ⟨q5, d5, rfl⟩ := O5.out.form
    go_wp2_with fail
    go_ret
    refine ⟨_, rfl, ?_, KO5.out⟩
    rw [HT.out, HS3.out, HS5.out]
    exact O5.out
theorem putM_ok (o : List (List Int)) : decide ((putM o).2 = 0) = !putF o := by
  rw [putM_e]; cases putF o <;> rfl
set_option maxRecDepth 100000 in
set_option maxHeartbeats 8000000 in
theorem rprivate_calls (lv : Value) (f : Fam) (w : World) (hlv : IsBs w lv f.l) (hd : I64 f.d) (hn : I64 f.n) :
    Calls Tryz.prog 30 #[.agg #[lv, .int .i64 f.d, .int .i64 f.n]] w fun e w' => ∃ u1 u2, e = .returned (.tuple #[u1, u2, .bool (!putF f.l)]) ∧ OwnB w' w.heap.size u1 (prvD f) ∧ OwnB w' w.heap.size u2 (prvL f) ∧ Kp [] w w' ∧ ∀ k, u2.ownBlock = some k → u1.ownBlock ≠ some k := by
  obtain ⟨o, d, n⟩ := f
  simp only at hlv hd hn ⊢
  obtain ⟨hd1, hd2⟩ := hd
  obtain ⟨hn1, hn2⟩ := hn
  have HLV := Lib.hid (fun W (hk : Kp [] w W) => hlv.kp0 hk)
  obtain ⟨pl, cl, rfl⟩ := hlv.form
  have HS1 := Lib.hid (fun (W : World) (V : Value) (h : IsInts .i64 W V [d]) => rsay_at 20 20 rfl (by decide) V [d] W h (by simp) (by intro x hx; simp at hx; omega))
  have HS2 := Lib.hid (fun (W : World) (V : Value) (h : IsInts .i64 W V [n]) => rsay_at 21 21 rfl (by decide) V [n] W h (by simp) (by intro x hx; simp at hx; omega))
  have HS3 := Lib.hid (fun (W : World) (V : Value) (h : IsInts .i64 W V [18]) => rsay_at 19 19 rfl (by decide) V [18] W h (by simp) (by intro x hx; simp at hx; omega))
  have HL1 : Hid ((sayB 20 [d]).length = 6) := by show _ = _; rw [sayB_length]; rfl
  have HL2 : Hid ((sayB 21 [n]).length = 6) := by show _ = _; rw [sayB_length]; rfl
  have HL3 : Hid ((sayB 19 [18]).length = 6) := by show _ = _; rw [sayB_length]; rfl
  have HP0 : Hid (o = [] → prvD ⟨o, d, n⟩ = sayB 20 [d] ++ sayB 21 [n] ∧ prvL ⟨o, d, n⟩ = [] ∧ putF o = false) := fun e => ⟨by simp [prvD, e], by simp [prvL, e], by rw [e]; exact putF_nil⟩
  have HP1 : Hid (o ≠ [] → prvD ⟨o, d, n⟩ = sayB 20 [d] ++ sayB 21 [n] ++ sayB 19 [18] ∧ prvL ⟨o, d, n⟩ = (putM o).1) := fun e => ⟨by simp [prvD, e], by simp [prvL, e]⟩
  generalize prvL ⟨o, d, n⟩ = PL at *
  generalize prvD ⟨o, d, n⟩ = PD at *
  generalize sayB 20 [d] = A1 at *
  generalize sayB 21 [n] = A2 at *
  generalize sayB 19 [18] = A3 at *
  obtain ⟨A12, hA12⟩ : ∃ r, A1 ++ A2 = r := ⟨_, rfl⟩
  have HA12 := Lib.hid hA12
  have HLB : Hid (A12.length = 12) := by show _ = _; rw [← hA12, List.length_append, HL1.out, HL2.out]
  clear hlv hA12
  go_enter Tryz.func30, Tryz.ntmps30
  go_upto_region 1 with fail
  go_cut [5] (fun s5 wx => ∃ p5 c5, s5 = .slice p5 12 c5 ∧ Hid (OwnB wx (w.heap.size + 1) (.slice p5 12 c5) A12) ∧ Hid (Kp [] w wx) ∧ wx.heap[w.heap.size]? = some (.cells #[.slice pl o.length cl, .int .i64 d, .int .i64 n] 54 (0, 0)))
  case first =>
    refine wp_gen ?_; intro W0 hW0
    have hk0 : Kp [] w W0 := by rw [hW0]; exact (Kp.refl _ _).alloc _
    have hsz : W0.heap.size = w.heap.size + 1 := by rw [hW0]; simp
    have hbx : W0.heap[w.heap.size]? = some (.cells #[.slice pl o.length cl, .int .i64 d, .int .i64 n] 54 (0, 0)) := by rw [hW0]; exact heap_alloc_new w _
    have HBX := Lib.hid (fun W (hk : Kp [] W0 W) => hk.heap hbx (by simp))
    have HKC : Hid (∀ w', Kp [] W0 w' → w'.cell? ⟨w.heap.size, 1, none⟩ = some (.int .i64 d) ∧ w'.cell? ⟨w.heap.size, 2, none⟩ = some (.int .i64 n)) := fun w' hk => ⟨by rw [cell_of_row w' _ 1 _ _ _ (HBX.out w' hk)]; rfl, by rw [cell_of_row w' _ 2 _ _ _ (HBX.out w' hk)]; rfl⟩
    have HK0 := Lib.hid hk0
    have c7 := HKC.out W0 (Kp.refl _ _)
    have HSZ := Lib.hid hsz
    clear hW0 hk0 hbx hsz
    go_region_held3 (fun w' => w'.cell? ⟨w.heap.size, 1, none⟩ = some (.int .i64 d) ∧ w'.cell? ⟨w.heap.size, 2, none⟩ = some (.int .i64 n)) (first | go_keep | (refine HKC.out _ ?_; ((repeat (first | exact Kp.refl _ _ | assumption | refine Kp.drew ?_ | refine Kp.drewN ?_ _ | refine Kp.alloc ?_ _)); (first | done | fail))))
      (first
        | (refine step_ob (w := x2) (by rfl) (.tmp 11) (.tmp 15) (by rfl) (by rfl) (HO1.out.kp0 hk2) p2 A2.length c2 A2 (by rfl) h2.ints (by rw [HL2.out]; decide) (by rw [HL1.out, HL2.out]; decide) hB2 ?_
           intro v3 x3 h3 k3
           have hA3 : Kp [] W0 x3 := (HO1.out.kp0 hk2).grow hA2 (Nat.le_of_eq HSZ.out) k3)
        | (go_at_call 31
           with_reducible refine (HS2.out _ _ ?hlit).mono ?_
           case hlit => first
             | exact lit_at x1 _ (by first | rfl | (simp; first | done | fail)) [n] 1 rfl _ rfl (by decide) _ (by ((repeat (first | exact Kp.refl _ _ | assumption | refine Kp.drew ?_ | refine Kp.drewN ?_ _ | refine Kp.alloc ?_ _)); (first | done | fail)))
             | exact lit_at (W0.alloc (.cells #[.int .i64 d] 3)) _ (by first | rfl | (simp; first | done | fail)) [n] 1 rfl _ rfl (by decide) _ (Kp.trans (Kp.trans (by ((repeat (first | exact Kp.refl _ _ | assumption | refine Kp.drew ?_ | refine Kp.drewN ?_ _ | refine Kp.alloc ?_ _)); (first | done | fail))) hk1) (by ((repeat (first | exact Kp.refl _ _ | assumption | refine Kp.drew ?_ | refine Kp.drewN ?_ _ | refine Kp.alloc ?_ _)); (first | done | fail))))
             | exact lit_at W0 _ (by first | rfl | (simp; first | done | fail)) [n] 1 rfl _ rfl (by decide) _ (Kp.trans (Kp.trans (by ((repeat (first | exact Kp.refl _ _ | assumption | refine Kp.drew ?_ | refine Kp.drewN ?_ _ | refine Kp.alloc ?_ _)); (first | done | fail))) hk1) (by ((repeat (first | exact Kp.refl _ _ | assumption | refine Kp.drew ?_ | refine Kp.drewN ?_ _ | refine Kp.alloc ?_ _)); (first | done | fail))))
             | fail
           rintro e x2 ⟨v2, rfl, h2, k2⟩
           obtain ⟨p2, c2, rfl⟩ := h2.form
           have hk2 : Kp [] x1 x2 := Kp.trans (by ((repeat (first | exact Kp.refl _ _ | assumption | refine Kp.drew ?_ | refine Kp.drewN ?_ _ | refine Kp.alloc ?_ _)); (first | done | fail))) k2
           have hA2 : Kp [] W0 x2 := hA1.trans hk2
           have hB2 : w.heap.size + 1 ≤ x2.heap.size := by have q1 := hA2.size; have q2 := HSZ.out; omega)
        | (go_at_call 31
           with_reducible refine (HS1.out _ _ ?hlit).mono ?_
           case hlit => first
             | exact lit_at W0 _ (by first | rfl | (simp; first | done | fail)) [d] 1 rfl _ rfl (by decide) _ (by ((repeat (first | exact Kp.refl _ _ | assumption | refine Kp.drew ?_ | refine Kp.drewN ?_ _ | refine Kp.alloc ?_ _)); (first | done | fail)))
             | exact lit_at (W0.alloc (.cells #[.int .i64 n] 3)) _ (by first | rfl | (simp; first | done | fail)) [d] 1 rfl _ rfl (by decide) _ (by ((repeat (first | exact Kp.refl _ _ | assumption | refine Kp.drew ?_ | refine Kp.drewN ?_ _ | refine Kp.alloc ?_ _)); (first | done | fail)))
             | fail
           rintro e x1 ⟨v1, rfl, h1, hk1⟩
           obtain ⟨p1, c1, rfl⟩ := h1.form
           have HO1 : Hid (OwnB x1 (w.heap.size + 1) (.slice p1 A1.length c1) A1) := h1.base (by have q := HSZ.out; simp; omega)
           have hA1 : Kp [] W0 x1 := Kp.trans (by ((repeat (first | exact Kp.refl _ _ | assumption | refine Kp.drew ?_ | refine Kp.drewN ?_ _ | refine Kp.alloc ?_ _)); (first | done | fail))) hk1)
        | fail)
    all_goals
      go_wp2_with fail
      go_meet
      rw [HA12.out] at h3
      obtain ⟨p3, c3, e3⟩ := h3.form
      rw [HLB.out] at e3
      subst e3
      exact ⟨p3, c3, rfl, h3, HK0.out.trans hA3, HBX.out _ hA3⟩
  case rest =>
    obtain ⟨p5, c5, rfl, HO5, HK5, hbx⟩ := hcut
    have c0 : wc.cell? ⟨w.heap.size, 0, none⟩ = some (.slice pl o.length cl) := by rw [cell_of_row wc _ 0 _ _ _ hbx]; rfl
    have HPU := Lib.hid (rput14_calls (.slice pl o.length cl) o wc (HLV.out _ HK5.out))
    have hs5 := HK5.out.size
    have hs5' : w.heap.size + 1 ≤ wc.heap.size := by have := World.block_lt_of_cell? wc _ c0; exact this
    clear hbx
    by_cases h0 : o.length = 0
    · have e0 : o = [] := List.length_eq_zero_iff.1 h0
      have HQ := Lib.hid (HP0.out e0)
      have d0 : ((o.length : Int) == 0) = true := by rw [beq_iff_eq]; omega
      clear e0 h0 HP0 HP1 HPU
      go_wp2_with fail
      go_ret3
      refine ⟨_, .slice none 0 0, by rw [HQ.out.2.2]; first | done | rfl | simp, by rw [HQ.out.1, HA12.out]; exact HO5.out.base (by omega), by rw [HQ.out.2.1]; exact World.ownsRow_nil _ _ _ _, HK5.out, fun k hk => by simp [Value.ownBlock] at hk⟩
    · have e0 : o ≠ [] := by intro e; rw [e] at h0; simp at h0
      have HQ := Lib.hid (HP1.out e0)
      have d0 : ((o.length : Int) == 0) = false := by rw [beq_eq_false_iff_ne]; omega
      have HOK := Lib.hid (putM_ok o)
      rw [HOK.out] at HPU
      clear e0 h0 HP0 HP1
      go_wp2_with fail
      refine HPU.out.mono ?_; rintro e w6 ⟨u6, rfl, h6, k6⟩
      have HO6 := Lib.hid (HO5.out.kp0 k6)
      have HK6 := Lib.hid (HK5.out.trans k6)
      have HU6 := Lib.hid h6
      have hs6 := k6.size
      obtain ⟨p6, c6, rfl⟩ := h6.form
      clear h6 k6 HPU c0
      generalize (putM o).1 = PU at *
      go_wp2_with fail
      refine (HS3.out _ _ (lit_at w6 _ rfl [18] 1 rfl _ rfl (by decide) _ (Kp.refl _ _))).mono ?_; rintro e w7 ⟨u7, rfl, h7, k7⟩
      have k7' : Kp [] w6 w7 := Kp.trans (by ((repeat (first | exact Kp.refl _ _ | assumption | refine Kp.drew ?_ | refine Kp.drewN ?_ _ | refine Kp.alloc ?_ _)); (first | done | fail))) k7
      have HI7 := Lib.hid h7.ints
      have HO7 := Lib.hid (HO6.out.kp0 k7')
      have HU7 := Lib.hid (HU6.out.kp0 k7')
      have HK7 := Lib.hid (HK6.out.trans k7')
      obtain ⟨p7, c7, rfl⟩ := h7.form
      have hs7 := k7'.size
      have hl7 : A12.length + A3.length ≤ 1073741824 := by rw [HLB.out, HL3.out]; decide
      have hB7 : w.heap.size + 1 ≤ w7.heap.size := by omega
      obtain ⟨A123, hA123⟩ : ∃ r, A12 ++ A3 = r := ⟨_, rfl⟩
      have HA123 := Lib.hid hA123
      clear h7 k7 k7' hA123
      go_wp2_with (at_builtin; refine wpList_obr rfl _ _ rfl rfl HO7.out (.slice p7 A3.length c7) A3 rfl HI7.out A123 HA123 hl7 hB7 ?hk)
      case hk =>
      intro v8 w8 ho8 hk8 _
      have hne : ∀ k, (Value.slice p6 PU.length c6).ownBlock = some k → (Value.slice p5 12 c5).ownBlock ≠ some k := fun k hk hk2 => by
        have a1 := own_ge HU6.out k hk
        have a2 := (HO5.out.lt k hk2).2
        omega
      have HU8 : Hid (OwnB w8 wc.heap.size (.slice p6 PU.length c6) PU) := hk8.row HU7.out (fun s hs e => hne s e (by simpa using hs))
      have HO8 := Lib.hid ho8
      have HK8 := Lib.hid (HO7.out.grow HK7.out (by omega) hk8)
      have HAP : Hid (∀ k, (Value.slice p6 PU.length c6).ownBlock = some k → v8.ownBlock ≠ some k) := fun k hk e => by
        rename_i hat
        rcases hat k e with e2 | e2
        · exact hne k hk e2
        · have := (HU7.out.lt k hk).2; omega
      obtain ⟨p8, c8, e8⟩ := ho8.form
      subst e8
      clear ho8 hk8 hne
      go_wp2_with fail
      go_ret3
      refine ⟨_, .slice p6 PU.length c6, rfl, ?_, ?_, HK8.out, HAP.out⟩
      · rw [HQ.out.1, HA12.out, HA123.out]
        exact HO8.out.base (by omega)
      · rw [HQ.out.2]
        exact HU8.out.base hs5
end Go.Proofs.YtlhkaoccnpgkeaaGreat

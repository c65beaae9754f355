/- simple: Encode walked as far as its points. -/
import Derived.Test.YtodjohoonbkklaaSiL
import Derived.Deep.DeepCutAuto
namespace Go.Proofs.Ytodjohoonbkklaa
open Go.RowKit
set_option linter.unusedVariables false
set_option linter.unusedSimpArgs false
def restF (o : List (List Pn)) (j : Nat) : List Pn := (o.drop j).flatten
theorem restF_at (o : List (List Pn)) (j : Nat) (h : j < o.length) : restF o j = o.getD j [] ++ restF o (j + 1) := by
  unfold restF
  rw [List.drop_eq_getElem_cons h, List.flatten_cons, List.getD_eq_getElem?_getD, List.getElem?_eq_getElem h]; rfl
theorem restF_end (o : List (List Pn)) (j : Nat) (h : o.length ≤ j) : restF o j = [] := by
  unfold restF
  rw [List.drop_eq_nil_of_le h]; rfl
set_option maxRecDepth 100000 in
set_option maxHeartbeats 4000000 in
theorem enc_none (v : Value) (o : List (List Pn)) (w : World) (hv : IsOut w v o) (hE : checkO o = 0) (h0 : o ≠ []) (hR : encS (restF o 0) en0 = none) :
    Calls Try.prog 49 #[v] w fun e w' => e = .returned (.tuple #[.slice none 0 0, .int .i64 1]) ∧ Kp [] w w' := by
  obtain ⟨hz1, hz2, hz3⟩ := checkO_zero hE
  have HC := Lib.hid (ohull_ok v o w hv hE)
  have HF : Hid (∀ j, j < o.length → (o.getD j []).length ≤ 4096) := fun j hj => by have := len_le_cnt o hj; omega
  have HV := Lib.hid hv
  have HNU : Hid (∀ p ∈ flatTo o o.length, numF p.x = true ∧ numF p.y = true) := flat_nums hz3
  have HNP : Hid (∀ j, j < o.length → ∀ m, m < (o.getD j []).length → ((-9223372036854775808 ≤ ((o.getD j []).getD m pn0).x ∧ ((o.getD j []).getD m pn0).x ≤ 9223372036854775807) ∧ (-9223372036854775808 ≤ ((o.getD j []).getD m pn0).y ∧ ((o.getD j []).getD m pn0).y ≤ 9223372036854775807))) := by
    intro j hj m hm
    have h := HNU.out ((o.getD j []).getD m pn0) (by
      unfold flatTo
      rw [List.take_length, List.mem_flatten]
      refine ⟨o.getD j [], ?_, ?_⟩
      · rw [List.getD_eq_getElem?_getD, List.getElem?_eq_getElem hj]; exact List.getElem_mem hj
      · rw [List.getD_eq_getElem?_getD (l := o.getD j []), List.getElem?_eq_getElem hm]; exact List.getElem_mem hm)
    have h1 := (numF_iff _).1 h.1
    have h2 := (numF_iff _).1 h.2
    omega
  have HCT := Lib.hid (fun j hj => Nat.le_trans (cntTo_le o (j := j) hj) hz2)
  obtain ⟨pa, ca, rfl⟩ := hv.form
  have HR : Hid (encS (restF o 0) en0 = none) := hR
  have HRE := Lib.hid (restF_end o)
  obtain ⟨N, hN⟩ : ∃ N, o.length = N := ⟨_, rfl⟩
  have HN := Lib.hid hN
  have hN1 : N ≤ 256 := by rw [← hN]; exact hz1
  have hN0 : 0 < N := by rw [← hN]; exact List.length_pos_iff.2 h0
  have hn0 : ((N : Int) == 0) = false := by rw [beq_eq_false_iff_ne]; omega
  rw [hN] at HV HC HCT HRE ⊢
  generalize hullO o = b at *
  clear hN hv hz1 hz2 hz3 hE hR h0 HNU
  go_enter Try.func49, Try.ntmps49
  go_wp2_with fail
  refine HC.out.mono ?_; rintro e w1 ⟨rfl, hk1⟩
  have HK1 := Lib.hid hk1
  have HV1 := Lib.hid (HV.out.kp0 hk1)
  rw [show bxV b = .agg #[.int .i64 b.x0, .int .i64 b.y0, .int .i64 b.x1, .int .i64 b.y1] from rfl]
  clear hk1 HC HV
  go_wp2_with fail
  refine wp_gen ?_; intro W0 hW0
  obtain ⟨q1, q2, q3⟩ := three_heap hW0
  have hs0 : W0.heap.size = w1.heap.size + 3 := by rw [hW0]; simp
  have hk0 : Kp [] w1 W0 := by rw [hW0]; (repeat (first | exact Kp.refl _ _ | assumption | refine Kp.drew ?_ | refine Kp.drewN ?_ _ | refine Kp.alloc ?_ _ | (refine Kp.setCell ?_ (by first | (left; simp; done) | (right; simp; try omega)) _) | (refine Kp.trans' ?_ (by assumption) (by simp; try omega))))
  have HP0 : Hid (∃ vx vy, PEn w1 W0 w1.heap.size (.slice none 0 0) vx vy en0.fl en0.ax en0.ay en0.lx en0.ly b) :=
    ⟨_, _, Nat.le_refl _, ⟨q2, World.ownsRow_nil _ _ _ _, by omega, by omega⟩, ⟨q3, World.ownsRow_nil _ _ _ _, by omega, by omega⟩, World.ownsRow_nil _ _ _ _, by simp [Value.ownBlock], by simp [Value.ownBlock], q1, hk0⟩
  clear hW0 q1 q2 q3 hs0
  go_loopw [8, 10, 12, 13, 14, 38] (fun f _ _ _ _ i wr => ∃ (j : Nat) (s : EnS), j ≤ N ∧ i = .int .i64 j ∧ Hid (∃ vx vy, PEn w1 wr w1.heap.size f vx vy s.fl s.ax s.ay s.lx s.ly b) ∧ Hid (EnB s (cntTo o j)) ∧ Hid (encS (restF o j) s = none)) (fun _ _ _ _ _ i _ => N - (intOf i).toNat)
  case atStart => exact ⟨0, en0, by omega, rfl, HP0.out, ⟨rfl, by simp [en0], by simp [en0], by simp [en0], by simp [en0], by simp [en0]⟩, HR.out⟩
  case round =>
    obtain ⟨j, s, hj, rfl, HJ, HB, HS⟩ := hrel
    clear HP0 HR hk0
    by_cases hlt : j < N
    · have hjo : j < o.length := by rw [HN.out]; exact hlt
      obtain ⟨g1, o1, c1, p1, cv, e1, _, _, h1, hp⟩ := HV1.out.row hjo
      rw [HN.out] at e1
      cases e1
      have hkw : Kp [] w1 wr := HJ.out.choose_spec.choose_spec.2.2.2.2.2.2.2
      have HP : Hid (∀ W, Kp [] w1 W → IsPs W (.slice p1 (o.getD j []).length cv) (o.getD j [])) := fun W hW => hp.kp0 hW
      replace h1 := hkw.cell h1 (by simp)
      have hL := HF.out j hjo
      have HNC := Lib.hid (HNP.out j hjo)
      have HCS : Hid (cntTo o (j + 1) = cntTo o j + (o.getD j []).length ∧ cntTo o j ≤ 4096 ∧ cntTo o (j + 1) ≤ 4096) := ⟨rfl, HCT.out j hj, HCT.out (j + 1) (by omega)⟩
      have HS0 : Hid (encS ((o.getD j []).drop 0 ++ restF o (j + 1)) s = none) := by show _ = _; rw [List.drop_zero, ← restF_at o j hjo]; exact HS.out
      generalize o.getD j [] = c at *
      obtain ⟨L, hcl⟩ : ∃ L, c.length = L := ⟨_, rfl⟩
      have HCL := Lib.hid hcl
      rw [hcl] at h1 hL HP HCS HNC
      obtain ⟨f0, hf0⟩ : ∃ f0, u8 = f0 := ⟨_, rfl⟩
      clear hcl hp hkw HS
      go_wp2_with fail
      go_loopw [8, 12, 13, 14, 44] (fun f _ _ _ i wr2 => ∃ (m : Nat) (s2 : EnS), m ≤ L ∧ i = .int .i64 m ∧ Hid (∃ vx vy, PEn w1 wr2 w1.heap.size f vx vy s2.fl s2.ax s2.ay s2.lx s2.ly b) ∧ Hid (EnB s2 (cntTo o j + m)) ∧ Hid (encS (c.drop m ++ restF o (j + 1)) s2 = none)) (fun _ _ _ _ i _ => L - (intOf i).toNat)
      case atStart => exact ⟨0, s, by omega, rfl, HJ.out, HB.out, HS0.out⟩
      case round =>
        obtain ⟨m, s2, hm, rfl, HI, HB2, HS2⟩ := hrel
        clear HJ HB HS0
        by_cases hml : m < L
        · obtain ⟨vx, vy, hpe⟩ := HI.out
          have HPE := Lib.hid hpe
          have hkw : Kp [] w1 wr := hpe.2.2.2.2.2.2.2
          obtain ⟨g2, o2, q2, e2, _, _, x1, y1, k1⟩ := (HP.out _ hkw).row (i := m) (by rw [HCL.out]; exact hml)
          rw [HCL.out] at e2
          cases e2
          have HTS : Hid (encS (c.getD m pn0 :: (c.drop (m + 1) ++ restF o (j + 1))) s2 = none) := by
            show _ = _
            have hmc : m < c.length := by rw [HCL.out]; exact hml
            have h := HS2.out
            rw [List.drop_eq_getElem_cons hmc] at h
            rw [List.getD_eq_getElem?_getD, List.getElem?_eq_getElem hmc]; exact h
          have HBN := Lib.hid (HNC.out m hml)
          generalize c.getD m pn0 = P at *
          have HB3 := Lib.hid (HB2.out.next HBN.out.1 HBN.out.2)
          have hcnt := HCS.out.2.2
          rw [HCS.out.1] at hcnt
          obtain ⟨e1, e2, e3, e4, e5, _⟩ := HB2.out
          have HPO := Lib.hid (fun hpo => point_ok P hpo HBN.out.1 HBN.out.2 (hpe.kp0 ((Kp.refl _ _).alloc (.cells #[.int .i64 P.x, .int .i64 P.y, .int .i64 P.k] 61))).2.1 (hpe.kp0 ((Kp.refl _ _).alloc (.cells #[.int .i64 P.x, .int .i64 P.y, .int .i64 P.k] 61))).2.2.1 (by omega) hpe.2.2.2.2.1 e4 e5 (by omega) (by omega))
          have HPN := Lib.hid (fun hpo => point_no (w := wr.alloc (.cells #[.int .i64 P.x, .int .i64 P.y, .int .i64 P.k] 61)) (w1.heap.size + 1) (w1.heap.size + 2) P hpo HBN.out.1 HBN.out.2)
          have HPK := Lib.hid (hpe.kp0 ((Kp.refl _ _).alloc (.cells #[.int .i64 P.x, .int .i64 P.y, .int .i64 P.k] 61)))
          have HST : Hid (∀ q, ptOk P = q → encS (P :: (c.drop (m + 1) ++ restF o (j + 1))) s2 = if (q && (putK (P.x.tdiv 65536 - s2.lx) && putK (P.y.tdiv 65536 - s2.ly))) then encS (c.drop (m + 1) ++ restF o (j + 1)) (encPt s2 P) else none) := fun q hq => by subst hq; rfl
          have HEP : Hid (encPt s2 P = ⟨s2.fl ++ [flagP P.k (P.x.tdiv 65536 - s2.lx) (P.y.tdiv 65536 - s2.ly)], s2.ax ++ putB (P.x.tdiv 65536 - s2.lx), s2.ay ++ putB (P.y.tdiv 65536 - s2.ly), P.x.tdiv 65536, P.y.tdiv 65536⟩) := rfl
          obtain ⟨pf, cf, hf⟩ := slice_own hpe.2.2.2.1
          subst hf
          obtain ⟨A, hA⟩ : ∃ A, s2.fl.length = A := ⟨_, rfl⟩
          have HA := Lib.hid hA
          rw [hA]
          have hA1 : A ≤ 4096 := by omega
          clear hpe HB2 HS2 HI hA e1 e2 e3 e4 e5 hkw
          by_cases hpo : ptOk P = true
          · have HQ := Lib.hid (HPO.out hpo)
            have HST2 := Lib.hid (HST.out true hpo)
            clear HPO HPN HST
            go_wp2_with fail
            refine HQ.out.mono ?_; intro e w3 hpt
            obtain ⟨rfl, vx3, vy3, hpe3⟩ := HPK.out.point hpt
            have HPE3 := Lib.hid hpe3
            obtain ⟨fb, hfb⟩ : ∃ fb, flagP P.k (P.x.tdiv 65536 - s2.lx) (P.y.tdiv 65536 - s2.ly) = fb := ⟨_, rfl⟩
            obtain ⟨kk, hkk⟩ : ∃ kk, (putK (P.x.tdiv 65536 - s2.lx) && putK (P.y.tdiv 65536 - s2.ly)) = kk := ⟨_, rfl⟩
            rw [hfb] at HEP ⊢
            rw [hkk] at HST2 ⊢
            have HT2 : Hid ((if kk = true then encS (c.drop (m + 1) ++ restF o (j + 1)) (encPt s2 P) else none) = none) := by
              show _ = _
              have h9 := HTS.out
              rw [HST2.out, Bool.true_and] at h9
              exact h9
            have hk3 : Kp [] w1 w3 := hpe3.2.2.2.2.2.2.2
            have HK3 := Lib.hid hk3
            have hsz3 : w1.heap.size + 3 ≤ w3.heap.size := hpe3.2.1.2.2.2
            clear hpt hpe3 HPK HPE HQ HST2 HTS hk3 hfb hkk
            cases kk with
            | false =>
              have hkf : Kp [] w w3 := HK1.out.trans HK3.out
              go_wp2_with fail
              go_ret2
              exact ⟨rfl, by (repeat (first | exact Kp.refl _ _ | assumption | refine Kp.drew ?_ | refine Kp.drewN ?_ _ | refine Kp.alloc ?_ _ | (refine Kp.setCell ?_ (by first | (left; simp; done) | (right; simp; try omega)) _) | (refine Kp.trans' ?_ (by assumption) (by simp; try omega))))⟩
            | true =>
              have HT3 : Hid (encS (c.drop (m + 1) ++ restF o (j + 1)) (encPt s2 P) = none) := by show _ = _; have := HT2.out; simpa using this
              clear HT2
              go_wp2_with (at_builtin; go_loud (refine wpList_pushM rfl _ _ 22 5 .u8 1 Try.underlying22 infoByte (by decide) rfl (w1.heap.size + 3) (.slice pf A cf) s2.fl A HA.out rfl ?hown w3.heap.size [fb] 1 rfl (by decide) rfl ?hc ?hl ?hbase ?hk))
              case hown => have h := HPE3.out.2.2.2.1; rw [HA.out] at h; exact Kp.row (S := []) (by (repeat (first | exact Kp.refl _ _ | assumption | refine Kp.drew ?_ | refine Kp.drewN ?_ _ | refine Kp.alloc ?_ _ | (refine Kp.setCell ?_ (by first | (left; simp; done) | (right; simp; try omega)) _) | (refine Kp.trans' ?_ (by assumption) (by simp; try omega))))) h (by simp)
              try case hc => exact litI (k := .u8) (zs := [fb]) (Kp.refl _ _)
              case hl => omega
              case hbase => simp; omega
              case hk =>
              intro v5 w5 hown5 hk5 hk6
              have HO5 : Hid (∃ vx vy, PEn w1 w5 w1.heap.size v5 vx vy (encPt s2 P).fl (encPt s2 P).ax (encPt s2 P).ay (encPt s2 P).lx (encPt s2 P).ly b) := by
                rw [HEP.out]
                have hpx := HPE3.out
                rw [HA.out] at hpx
                refine ⟨vx3, vy3, PEn.push (news := [fb]) (n := A + 1) (PEn.kp0 hpx ?_) (by rw [List.length_append, HA.out]; rfl) (by rw [List.map_append]; exact hown5) hk5 (fun k hk => by have := hk6 k hk; simpa using this)⟩
                (repeat (first | exact Kp.refl _ _ | assumption | refine Kp.drew ?_ | refine Kp.drewN ?_ _ | refine Kp.alloc ?_ _ | (refine Kp.setCell ?_ (by first | (left; simp; done) | (right; simp; try omega)) _) | (refine Kp.trans' ?_ (by assumption) (by simp; try omega))))
              clear hown5 hk5 hk6 HPE3 HK3
              go_wp2_with fail
              go_roundw
              case rel => first | exact ⟨m + 1, encPt s2 P, by omega, int_eq' (by omega), HO5, HB3, HT3⟩ | ((repeat apply Exists.intro); exact ⟨⟨m + 1, encPt s2 P, by omega, int_eq' (by omega), HO5, HB3, HT3⟩, rfl⟩)
              case measure => simp [intOf] <;> omega
          · have hpf : ptOk P = false := by simpa using hpo
            have HQ := Lib.hid (HPN.out hpf)
            have HT2 : Hid ((none : Option EnS) = none) := by show _ = _; rw [← HTS.out, HST.out false hpf] <;> rfl
            clear HPO HPN HST HTS
            have hkf : Kp [] w (wr.alloc (.cells #[.int .i64 P.x, .int .i64 P.y, .int .i64 P.k] 61)) := HK1.out.trans HPK.out.2.2.2.2.2.2.2
            go_wp2_with fail
            refine HQ.out.mono ?_; rintro e w3 ⟨rfl, hk3⟩
            have hkf2 := hkf.trans hk3
            go_wp2_with fail
            go_ret2
            exact ⟨rfl, by (repeat (first | exact Kp.refl _ _ | assumption | refine Kp.drew ?_ | refine Kp.drewN ?_ _ | refine Kp.alloc ?_ _ | (refine Kp.setCell ?_ (by first | (left; simp; done) | (right; simp; try omega)) _) | (refine Kp.trans' ?_ (by assumption) (by simp; try omega))))⟩
        · obtain rfl : m = L := by omega
          have HFB : Hid (EnB s2 (cntTo o (j + 1))) := by show EnB _ _; rw [HCS.out.1]; exact HB2.out
          have HFS : Hid (encS (restF o (j + 1)) s2 = none) := by
            have h := HS2.out
            rw [List.drop_eq_nil_of_le (by rw [HCL.out]; exact Nat.le_refl _), List.nil_append] at h
            exact h
          clear HB2 HS2
          go_wp2_with fail
          go_roundw
          case rel => first | exact ⟨j + 1, s2, by omega, int_eq' (by omega), HI, HFB, HFS⟩ | ((repeat apply Exists.intro); exact ⟨⟨j + 1, s2, by omega, int_eq' (by omega), HI, HFB, HFS⟩, rfl⟩)
          case measure => simp [intOf] <;> omega
    · obtain rfl : j = N := by omega
      have h := HS.out
      rw [HRE.out j (Nat.le_refl _)] at h
      cases h
end Go.Proofs.Ytodjohoonbkklaa

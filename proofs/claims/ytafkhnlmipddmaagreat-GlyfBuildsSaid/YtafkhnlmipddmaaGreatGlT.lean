/- glyf: the law GlyfBuilds. -/
import Derived.Test.YtafkhnlmipddmaaGreatGlS
import Derived.Test.YtafkhnlmipddmaaGreatGlL
import Derived.Test.YtafkhnlmipddmaaGreatQuiet
import Derived.BigQuiet
import Derived.Deep.DeepCutAuto
namespace Go.Proofs.YtafkhnlmipddmaaGreat
open Go.RowKit
set_option linter.unusedVariables false
set_option linter.unusedSimpArgs false
set_option maxRecDepth 100000 in
set_option maxHeartbeats 8000000 in
theorem law_GlyfBuilds (v : Value) (o : List (List Int)) (w : World) (hv : IsBs w v o) (hb : ∀ j, j < o.length → (o.getD j []).length ≤ 1125899906842624) :
    Calls Tryz.prog 6 #[v] w fun e w' => e = .returned (.bool true) ∧ Kp [] w w' := by
  have hle : o.length ≤ 9223372036854775807 := by
    obtain ⟨vs, h1, _⟩ := hv
    rcases h1.2 with ⟨_, h0⟩ | ⟨g, off, c, _, h3, h4, _⟩
    · omega
    · unfold maxLen at h4; omega
  have HB := Lib.hid (fun W (hk : Kp [] w W) => gbuild_calls v o W (hv.kp0 hk) hb)
  have HR := Lib.hid (fun W (hk : Kp [] w W) h => rbuild_calls v o W (hv.kp0 hk) h)
  have HR1 : Hid (o.length < 1 ∨ 65535 < o.length → buildM o = (([], []), 1)) := fun h => by unfold buildM; rw [if_pos h]
  have HR3 : Hid (¬ (o.length < 1 ∨ 65535 < o.length) → 1048576 < (bldO o o.length).length → buildM o = (([], []), 3)) := fun h h2 => by unfold buildM; rw [if_neg h, if_pos h2]
  have HR0 : Hid (¬ (o.length < 1 ∨ 65535 < o.length) → ¬ 1048576 < (bldO o o.length).length → buildM o = ((bldO o o.length, offsB o o.length), 0)) := fun h h2 => by unfold buildM; rw [if_neg h, if_neg h2]
  have HOL : Hid ((offsB o o.length).length = o.length + 1) := offsB_len o _
  have HV := Lib.hid hv
  have HSS : Hid (∀ j, j < o.length → sumL o (j + 1) = sumL o j + (o.getD j []).length) := fun j hj => sumL_succ o hj
  have hs0 : sumL o 0 = 0 := rfl
  have HS0 := Lib.hid hs0
  obtain ⟨pa, ca, rfl⟩ := hv.form
  obtain ⟨RES, hRES⟩ : ∃ R, buildM o = R := ⟨_, rfl⟩
  rw [hRES] at HR1 HR3 HR0 HB
  generalize bldO o o.length = BL at *
  generalize offsB o o.length = OL at *
  obtain ⟨N, hN⟩ : ∃ N, o.length = N := ⟨_, rfl⟩
  have HN := Lib.hid hN
  rw [hN] at HB HR HR1 HR3 HR0 HOL HV HSS hle ⊢
  clear hv hb hN hRES hs0
  obtain ⟨M, hM⟩ : ∃ M, min N 70000 = M := ⟨_, rfl⟩
  have hM1 : M ≤ N := by omega
  have hM2 : M ≤ 70000 := by omega
  have hM3 : M = N ∨ M = 70000 := by omega
  have HM1 := Lib.hid hM1
  have HM2 := Lib.hid hM2
  have HM3 := Lib.hid hM3
  have HLE := Lib.hid hle
  clear hM hM1 hM2 hM3 hle
  go_enter Tryz.func6, Tryz.ntmps6
  go_wp2_with fail
  go_loopw [3, 4] (fun n i wr => ∃ j : Nat, j ≤ M ∧ i = .int .i64 j ∧ n = .int .i64 (sumL o j : Nat) ∧ Hid (sumL o j ≤ j * 2097152) ∧ wr = w) (fun _ i _ => M - (intOf i).toNat)
  case atStart => exact ⟨0, by omega, rfl, by rw [HS0.out]; rfl, (by rw [HS0.out]; exact Nat.zero_le _ : sumL o 0 ≤ 0 * 2097152), rfl⟩
  case round =>
    obtain ⟨j, hj, rfl, rfl, HSJ, rfl⟩ := hrel
    by_cases hlt : j < M
    · have hjN : j < N := Nat.lt_of_lt_of_le hlt HM1.out
      have hj7 : j < 70000 := Nat.lt_of_lt_of_le hlt HM2.out
      obtain ⟨g1, o1, c1, p1, cv, e1, _, _, hc1, _⟩ := HV.out.row (i := j) (by rw [HN.out]; exact hjN)
      rw [HN.out] at e1
      cases e1
      have HNX := Lib.hid (HSS.out j hjN)
      have d2 : decide ((j : Int) < (N : Int)) = true := decide_eq_true (by omega)
      have d3 : decide ((j : Int) < 70000) = true := decide_eq_true (by omega)
      have d4 : IntKind.i64.wrap ((j : Int) + 1) = (j : Int) + 1 := by rw [IntKind.wrap_i64]; omega
      have hsj := HSJ.out
      have HJ7 := Lib.hid hj7
      generalize (o.getD j []).length = GL at *
      generalize sumL o j = S0 at *
      by_cases hbig : 2097152 < GL
      · have d1 : decide ((2097152 : Int) < (GL : Int)) = true := decide_eq_true (by omega)
        clear hsj hj7 hbig
        go_wp2_with fail
        refine (lives13_calls _).mono ?_; rintro e w1 ⟨rfl, hk⟩
        go_wp2_with fail
        go_ret
        exact ⟨rfl, hk⟩
      · have d1 : decide ((2097152 : Int) < (GL : Int)) = false := decide_eq_false (by omega)
        have d5 : IntKind.i64.wrap ((S0 : Int) + (GL : Int)) = (S0 : Int) + (GL : Int) := by rw [IntKind.wrap_i64]; omega
        have HS1 : Hid (S0 + GL ≤ (j + 1) * 2097152) := by show _ ≤ _; omega
        clear hsj hj7 hbig
        go_wp2_with fail
        go_roundw
        case rel => first | exact ⟨j + 1, by omega, int_eq' (by omega), int_eq' (by rw [HNX.out]; omega), (by rw [HNX.out]; exact HS1.out : sumL o (j + 1) ≤ (j + 1) * 2097152), by first | rfl | trivial⟩ | ((repeat apply Exists.intro); exact ⟨⟨j + 1, by omega, int_eq' (by omega), int_eq' (by rw [HNX.out]; omega), (by rw [HNX.out]; exact HS1.out : sumL o (j + 1) ≤ (j + 1) * 2097152), by first | rfl | trivial⟩, rfl⟩)
        case measure => simp [intOf] <;> omega
    · obtain rfl : j = M := by omega
      have hsj := HSJ.out
      have hn5 : j ≤ 70000 := HM2.out
      generalize sumL o j = S0 at *
      by_cases hjn : j < N
      · have h7 : j = 70000 := by rcases HM3.out with h | h <;> omega
        have d2 : decide ((j : Int) < (N : Int)) = true := decide_eq_true (by omega)
        have d3 : decide ((j : Int) < 70000) = false := decide_eq_false (by omega)
        have d4 : decide ((66000 : Int) < (N : Int)) = true := decide_eq_true (by omega)
        clear h7 hn5 hsj
        go_wp2_with fail
        refine (lives13_calls _).mono ?_; rintro e w1 ⟨rfl, hk⟩
        go_wp2_with fail
        go_ret
        exact ⟨rfl, hk⟩
      · have d2 : decide ((j : Int) < (N : Int)) = false := decide_eq_false (by omega)
        by_cases h66 : 66000 < N
        · have d4 : decide ((66000 : Int) < (N : Int)) = true := decide_eq_true (by omega)
          clear h66 hn5 hsj
          go_wp2_with fail
          refine (lives13_calls _).mono ?_; rintro e w1 ⟨rfl, hk⟩
          go_wp2_with fail
          go_ret
          exact ⟨rfl, hk⟩
        · have d4 : decide ((66000 : Int) < (N : Int)) = false := decide_eq_false (by omega)
          by_cases h4m : 4194304 < S0
          · have d5 : decide ((4194304 : Int) < (S0 : Int)) = true := decide_eq_true (by omega)
            clear h66 hn5 hsj h4m
            go_wp2_with fail
            refine (lives13_calls _).mono ?_; rintro e w1 ⟨rfl, hk⟩
            go_wp2_with fail
            go_ret
            exact ⟨rfl, hk⟩
          · have d5 : decide ((4194304 : Int) < (S0 : Int)) = false := decide_eq_false (by omega)
            have HK0 : Hid (Kp [] wr wr) := Kp.refl _ _
            clear h4m hn5 hsj HSJ HSS HM2 HM3 HM1
            by_cases hbad : N < 1 ∨ 65535 < N
            · have hX := HR1.out hbad
              rw [hX] at HB
              have hc : (decide ((N : Int) < 1) = true ∨ (decide ((N : Int) < 1) = false ∧ decide ((65535 : Int) < (N : Int)) = true)) := by
                rcases hbad with h | h
                · exact .inl (decide_eq_true (by omega))
                · by_cases h2 : N < 1
                  · exact .inl (decide_eq_true (by omega))
                  · exact .inr ⟨decide_eq_false (by omega), decide_eq_true (by omega)⟩
              clear h66 hbad
              go_wp2_with fail
              refine (HB.out _ HK0.out).mono ?_; rintro e w1 ⟨v1, v2, rfl, hi1, hj1, hk1⟩
              obtain ⟨p1, c1, rfl⟩ := ints_formB hi1
              obtain ⟨p2, c2, rfl⟩ : ∃ p c, v2 = .slice p 0 c := by
                rcases hj1 with ⟨⟨ad, rfl⟩, e⟩ | ⟨g, off, c, rfl, _⟩
                · exact ⟨_, 0, rfl⟩
                · exact ⟨_, c, rfl⟩
              have HK1 := Lib.hid hk1
              clear hi1 hj1 hk1
              go_wp2_with fail
              refine (lives13_calls _).mono ?_; rintro e w2 ⟨rfl, hk2⟩
              have HK2 := Lib.hid (HK1.out.trans hk2)
              clear hk2
              rcases hc with d6 | ⟨d6, d7⟩
              · go_wp2_with fail
                go_ret
                exact ⟨by simp, HK2.out⟩
              · go_wp2_with fail
                go_ret
                exact ⟨by simp, HK2.out⟩
            · have d6 : decide ((N : Int) < 1) = false := decide_eq_false (by omega)
              have d7 : decide ((65535 : Int) < (N : Int)) = false := decide_eq_false (by omega)
              have HRN := Lib.hid (fun W hk => HR.out W hk (by omega))
              clear HR
              by_cases hlong : 1048576 < BL.length
              · have hX := HR3.out hbad hlong
                rw [hX] at HB
                have hno : ¬ BL.length ≤ 1048576 := by omega
                have HNO : Hid (decide (BL.length ≤ 1048576) = false) := decide_eq_false hno
                clear h66 hbad hlong hno
                go_wp2_with fail
                refine (HB.out _ HK0.out).mono ?_; rintro e w1 ⟨v1, v2, rfl, hi1, hj1, hk1⟩
                obtain ⟨p1, c1, rfl⟩ := ints_formB hi1
                obtain ⟨p2, c2, rfl⟩ : ∃ p c, v2 = .slice p 0 c := by
                  rcases hj1 with ⟨⟨ad, rfl⟩, e⟩ | ⟨g, off, c, rfl, _⟩
                  · exact ⟨_, 0, rfl⟩
                  · exact ⟨_, c, rfl⟩
                have HK1 := Lib.hid hk1
                clear hi1 hj1 hk1
                go_wp2_with fail
                refine (lives13_calls _).mono ?_; rintro e w2 ⟨rfl, hk2⟩
                have HK2 := Lib.hid (HK1.out.trans hk2)
                clear hk2
                go_wp2_with fail
                refine (HRN.out _ HK2.out).mono ?_; rintro e w3 ⟨v3, v4, rfl, _, hk3⟩
                rw [HNO.out]
                have HK3 := Lib.hid (HK2.out.trans hk3)
                clear hk3
                go_wp2_with fail
                go_ret
                exact ⟨by simp, HK3.out⟩
              · have hX := HR0.out hbad hlong
                rw [hX] at HB
                have hyes : BL.length ≤ 1048576 := by omega
                have HYES : Hid (decide (BL.length ≤ 1048576) = true) := decide_eq_true hyes
                have HYE := Lib.hid hyes
                have HN6 : Hid (N ≤ 65535) := by show _ ≤ _; omega
                clear h66 hbad hlong hyes
                go_wp2_with fail
                refine (HB.out _ HK0.out).mono ?_; rintro e w1 ⟨v1, v2, rfl, hi1, hj1, hk1⟩
                dsimp only at hi1 hj1 ⊢
                obtain ⟨p1, c1, rfl⟩ := ints_formB hi1
                obtain ⟨g2, o2, c2, rfl, h21⟩ : ∃ g off c, v2 = .slice (some ⟨g, off, none⟩) (N + 1) c ∧ ∀ i, i < N + 1 → w1.cell? ⟨g, off + i, none⟩ = some (.int .i64 (OL.getD i 0)) := by
                  rcases hj1 with ⟨_, e⟩ | ⟨g, off, c, rfl, _, _, h⟩
                  · have h := HOL.out
                    rw [e] at h; simp at h
                  · rw [HOL.out] at h ⊢
                    exact ⟨g, off, c, rfl, h⟩
                have H21 := Lib.hid h21
                have HI1 := Lib.hid hi1
                have HK1 := Lib.hid hk1
                clear hi1 hj1 hk1 h21
                go_wp2_with fail
                refine (lives13_calls _).mono ?_; rintro e w2 ⟨rfl, hk2⟩
                have HK2 := Lib.hid (HK1.out.trans hk2)
                have HK12 := Lib.hid hk2
                clear hk2
                go_wp2_with fail
                refine (HRN.out _ HK2.out).mono ?_; rintro e w3 ⟨v3, v4, rfl, hv34, hk3⟩
                rw [HYES.out]
                obtain ⟨hi3, hj3⟩ := hv34 HYE.out
                obtain ⟨p3, c3, rfl⟩ := ints_formB hi3
                obtain ⟨g4, o4, c4, rfl, h41⟩ : ∃ g off c, v4 = .slice (some ⟨g, off, none⟩) (N + 1) c ∧ ∀ i, i < N + 1 → w3.cell? ⟨g, off + i, none⟩ = some (.int .i64 (OL.getD i 0)) := by
                  rcases hj3 with ⟨_, e⟩ | ⟨g, off, c, rfl, _, _, h⟩
                  · have h := HOL.out
                    rw [e] at h; simp at h
                  · rw [HOL.out] at h ⊢
                    exact ⟨g, off, c, rfl, h⟩
                have H41 := Lib.hid h41
                have hk13 := HK12.out.trans hk3
                have H23 : Hid (∀ i, i < N + 1 → w3.cell? ⟨g2, o2 + i, none⟩ = some (.int .i64 (OL.getD i 0))) := fun i hi => hk13.cell (H21.out i hi) (by simp)
                have hs1 := run_str _ _ _ (HI1.out.kp0 hk13)
                have hs2 := run_str _ _ _ hi3
                have HK3 := Lib.hid (HK2.out.trans hk3)
                generalize toStr BL = TX at *
                generalize BL.length = L2 at *
                clear hi3 hj3 hk3 h41 hv34 hk13 HK12 H21 HI1 HK2 HK1 HYES HYE HRN HB HR0 HR1 HR3 HV HN HLE HOL hX
                go_wp2_with fail
                go_loopw [11] (fun i wq => ∃ q : Nat, q ≤ N + 1 ∧ i = .int .i64 q ∧ Hid (Kp [] w3 wq)) (fun i _ => N + 1 - (intOf i).toNat)
                case atStart => exact ⟨0, by omega, rfl, Kp.refl _ _⟩
                case round =>
                  obtain ⟨q, hq, rfl, HQ⟩ := hrel
                  have hN6 := HN6.out
                  by_cases hlq : q < N + 1
                  · have e2 := HQ.out.cell (H23.out q hlq) (by simp)
                    have e4 := HQ.out.cell (H41.out q hlq) (by simp)
                    generalize OL.getD q 0 = X at *
                    have q2 := fun n : KW wr => KW.cell e2 n
                    have q4 := fun n : KW wr => KW.cell e4 n
                    clear e2 e4
                    go_wp2_with fail
                    refine wp_region_kq (by kernel_rfl) (by kernel_rfl) ?_
                    repeat (go_big_quiet_step (fail))
                    refine wpQuiet_nil ?_
                    intro wz hw'
                    obtain ⟨⟨_, hkwz⟩, rfl⟩ := hw'
                    have HKZ : Hid (Kp [] w3 wz) := HQ.out.trans hkwz
                    clear hkwz
                    go_wp2_with fail
                    go_roundw
                    case rel => first | exact ⟨q + 1, by omega, int_eq' (by omega), HKZ.out⟩ | ((repeat apply Exists.intro); exact ⟨⟨q + 1, by omega, int_eq' (by omega), HKZ.out⟩, rfl⟩)
                    case measure => simp [intOf] <;> omega
                  · obtain rfl : q = N + 1 := by omega
                    go_wp2_with fail
                    go_ret
                    exact ⟨by simp, HK3.out.trans HQ.out⟩
end Go.Proofs.YtafkhnlmipddmaaGreat

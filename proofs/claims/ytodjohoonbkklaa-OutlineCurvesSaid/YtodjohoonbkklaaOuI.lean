/- outline: Same of the reference. -/
import Derived.Test.YtodjohoonbkklaaOuH
namespace Go.Proofs.Ytodjohoonbkklaa
open Go.RowKit
set_option linter.unusedVariables false
set_option linter.unusedSimpArgs false
set_option maxRecDepth 100000 in
set_option maxHeartbeats 4000000 in
theorem rsame_calls (va vb : Value) (a b : List (List Pn)) (w : World) (ha : IsOut w va a) (hb : IsOut w vb b) :
    Calls Try.prog 36 #[va, vb] w fun e w' => e = .returned (.bool (decide (a = b))) ∧ Kp [] w w' := by
  have hla := ha.le
  have hlb := hb.le
  unfold maxLen at hla hlb
  obtain ⟨pa, ca, rfl⟩ := ha.form
  obtain ⟨pb, cb, rfl⟩ := hb.form
  have HA := Lib.hid ha
  have HB := Lib.hid hb
  clear ha hb
  by_cases hl : a.length = b.length
  · obtain ⟨N, hN⟩ : ∃ N, b.length = N := ⟨_, rfl⟩
    have HN1 : Hid (a.length = N) := by show _ = _; rw [hl, hN]
    have HN2 := Lib.hid hN
    have HQ : Hid (eqTo [] a b N → decide (a = b) = true) := fun h => decide_eq_true (eq_of_all [] a b hl (by rw [hl, hN]; exact h))
    have HR : Hid (∀ t, a.getD t [] ≠ b.getD t [] → decide (a = b) = false) := fun t h => decide_eq_false (ne_of_at [] a b t h)
    rw [hl, hN] at HA
    rw [hl, hN]
    rw [hN] at HB hlb
    generalize decide (a = b) = R at *
    clear hl hN hla
    go_enter Try.func36, Try.ntmps36
    go_wp2_with fail
    go_loopw [5, 6] (fun i _ wr => ∃ j : Nat, j ≤ N ∧ i = .int .i64 j ∧ Hid (eqTo [] a b j ∧ Kp [] w wr)) (fun i _ _ => N - (intOf i).toNat)
    case atStart => exact ⟨0, by omega, rfl, fun t ht => absurd ht (by omega), Kp.refl _ _⟩
    case round =>
      obtain ⟨j, hj, rfl, HJ⟩ := hrel
      by_cases hlt : j < N
      · obtain ⟨g1, o1, c1, p1, cv1, e1, _, _, h1, hp1⟩ := (HA.out.kp0 HJ.out.2).row (i := j) (by rw [HN1.out]; exact hlt)
        obtain ⟨g2, o2, c2, p2, cv2, e2, _, _, h2, hp2⟩ := (HB.out.kp0 HJ.out.2).row (i := j) (by rw [HN2.out]; exact hlt)
        rw [HN1.out] at e1
        rw [HN2.out] at e2
        cases e1; cases e2
        have HP1 := Lib.hid hp1
        have HP2 := Lib.hid hp2
        have HR2 := Lib.hid (HR.out j)
        have HSU : Hid (a.getD j [] = b.getD j [] → eqTo [] a b (j + 1)) := fun h => eqTo_succ HJ.out.1 h
        have hm1 := hp1.le
        have hm2 := hp2.le
        unfold maxLen at hm1 hm2
        clear hp1 hp2
        generalize a.getD j [] = A at *
        generalize b.getD j [] = B at *
        by_cases hL : A.length = B.length
        · have HQ2 : Hid (eqTo pn0 A B B.length → A = B) := fun h => eq_of_all pn0 A B hL (by rw [hL]; exact h)
          have HR3 : Hid (∀ t, A.getD t pn0 ≠ B.getD t pn0 → R = false) := fun t h => HR2.out (ne_of_at pn0 A B t h)
          obtain ⟨L, hBL⟩ : ∃ L, B.length = L := ⟨_, rfl⟩
          have HL1 : Hid (A.length = L) := by show _ = _; rw [hL, hBL]
          have HL2 := Lib.hid hBL
          rw [hL, hBL] at h1 HP1
          rw [hBL] at h2 HP2 HQ2 hm2
          clear hL hBL HR2 hm1
          go_wp2_with fail
          go_quiet (fail)
          go_wp2_with fail
          go_loopw [6] (fun i wq => ∃ k : Nat, k ≤ L ∧ i = .int .i64 k ∧ Hid (eqTo pn0 A B k ∧ Kp [] wr wq)) (fun i _ => L - (intOf i).toNat)
          case atStart => exact ⟨0, by omega, rfl, fun t ht => absurd ht (by omega), by (repeat (first | exact Kp.refl _ _ | assumption | refine Kp.drew ?_ | refine Kp.drewN ?_ _ | refine Kp.alloc ?_ _ | (refine Kp.setCell ?_ (by first | (left; simp; done) | (right; simp; try omega)) _) | (refine Kp.trans' ?_ (by assumption) (by simp; try omega))))⟩
          case round =>
            obtain ⟨k, hk, rfl, HJ2⟩ := hrel
            have hr1 := HJ2.out.2.cell h1 (by simp)
            have hr2 := HJ2.out.2.cell h2 (by simp)
            by_cases hk2 : k < L
            · obtain ⟨g3, o3, c3, e3, _, _, x1, y1, k1⟩ := (HP1.out.kp0 HJ2.out.2).row (i := k) (by rw [HL1.out]; exact hk2)
              obtain ⟨g4, o4, c4, e4, _, _, x2, y2, k2⟩ := (HP2.out.kp0 HJ2.out.2).row (i := k) (by rw [HL2.out]; exact hk2)
              rw [HL1.out] at e3
              rw [HL2.out] at e4
              cases e3; cases e4
              by_cases hpq : A.getD k pn0 = B.getD k pn0
              · have HT := Lib.hid (eqTo_succ HJ2.out.1 hpq)
                rw [hpq] at x1 y1 k1
                generalize B.getD k pn0 = p at *
                clear hpq
                go_wp2_with fail
                go_quiet (fail)
                go_wp2_with fail
                go_roundw
                case rel => first | exact ⟨k + 1, by omega, int_eq' (by omega), HT.out, HJ2.out.2.trans (by (repeat (first | exact Kp.refl _ _ | assumption | refine Kp.drew ?_ | refine Kp.drewN ?_ _ | refine Kp.alloc ?_ _ | (refine Kp.setCell ?_ (by first | (left; simp; done) | (right; simp; try omega)) _) | (refine Kp.trans' ?_ (by assumption) (by simp; try omega)))))⟩ | ((repeat apply Exists.intro); exact ⟨⟨k + 1, by omega, int_eq' (by omega), HT.out, HJ2.out.2.trans (by (repeat (first | exact Kp.refl _ _ | assumption | refine Kp.drew ?_ | refine Kp.drewN ?_ _ | refine Kp.alloc ?_ _ | (refine Kp.setCell ?_ (by first | (left; simp; done) | (right; simp; try omega)) _) | (refine Kp.trans' ?_ (by assumption) (by simp; try omega)))))⟩, rfl⟩)
                case measure => simp [intOf]; omega
              · have HF := Lib.hid (HR3.out k hpq)
                have hne := pn_ne hpq
                clear hpq
                generalize B.getD k pn0 = p at *
                generalize A.getD k pn0 = q at *
                obtain ⟨qx, qy, qk⟩ := q
                obtain ⟨px, py, pk⟩ := p
                dsimp only at hne x1 y1 k1 x2 y2 k2
                rcases hne with h9 | ⟨rfl, h9⟩ | ⟨rfl, rfl, h9⟩
                all_goals
                  go_wp2_with fail
                  go_quiet (fail)
                  go_wp2_with fail
                  go_ret
                  exact ⟨by rw [HF.out]; rfl, HJ.out.2.trans (HJ2.out.2.trans (by (repeat (first | exact Kp.refl _ _ | assumption | refine Kp.drew ?_ | refine Kp.drewN ?_ _ | refine Kp.alloc ?_ _ | (refine Kp.setCell ?_ (by first | (left; simp; done) | (right; simp; try omega)) _) | (refine Kp.trans' ?_ (by assumption) (by simp; try omega))))))⟩
            · obtain rfl : k = L := by omega
              have HT := Lib.hid (HSU.out (HQ2.out HJ2.out.1))
              have HK := Lib.hid (HJ.out.2.trans HJ2.out.2)
              go_wp2_with fail
              go_roundw
              case rel => first | exact ⟨j + 1, by omega, int_eq' (by omega), HT.out, HK.out⟩ | ((repeat apply Exists.intro); exact ⟨⟨j + 1, by omega, int_eq' (by omega), HT.out, HK.out⟩, rfl⟩)
              case measure => simp [intOf]; omega
        · have HF := Lib.hid (HR2.out (fun h => hL (by rw [h])))
          have hl2 : ((A.length : Int) != (B.length : Int)) = true := by simp; omega
          go_wp2_with fail
          go_quiet (fail)
          go_wp2_with fail
          go_ret
          exact ⟨by rw [HF.out]; rfl, HJ.out.2.trans (by (repeat (first | exact Kp.refl _ _ | assumption | refine Kp.drew ?_ | refine Kp.drewN ?_ _ | refine Kp.alloc ?_ _ | (refine Kp.setCell ?_ (by first | (left; simp; done) | (right; simp; try omega)) _) | (refine Kp.trans' ?_ (by assumption) (by simp; try omega)))))⟩
      · obtain rfl : j = N := by omega
        have HT := Lib.hid (HQ.out HJ.out.1)
        go_wp2_with fail
        go_ret
        exact ⟨by rw [HT.out]; rfl, HJ.out.2⟩
  · have HF : Hid (decide (a = b) = false) := decide_eq_false (fun h => hl (by rw [h]))
    generalize decide (a = b) = R at *
    have hl2 : ((a.length : Int) != (b.length : Int)) = true := by simp; omega
    go_enter Try.func36, Try.ntmps36
    go_wp2_with fail
    go_ret
    exact ⟨by rw [HF.out]; rfl, Kp.refl _ _⟩
end Go.Proofs.Ytodjohoonbkklaa

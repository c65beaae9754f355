/- outline: Same (slices.Equal, slices.EqualFunc). -/
import Derived.Test.YtodjohoonbkklaaOuG
namespace Go.Proofs.Ytodjohoonbkklaa
open Go.RowKit
set_option linter.unusedVariables false
set_option linter.unusedSimpArgs false
theorem eq_of_all {α : Type} (d : α) (a b : List α) (h : a.length = b.length) (he : ∀ t, t < a.length → a.getD t d = b.getD t d) : a = b := by
  apply List.ext_getElem h
  intro i h1 h2
  have := he i h1
  rw [List.getD_eq_getElem?_getD, List.getD_eq_getElem?_getD, List.getElem?_eq_getElem h1, List.getElem?_eq_getElem h2] at this
  simpa using this
theorem ne_of_at {α : Type} (d : α) (a b : List α) (t : Nat) (he : a.getD t d ≠ b.getD t d) : a ≠ b := fun h => he (by rw [h])
theorem pn_ext {p q : Pn} (h1 : p.x = q.x) (h2 : p.y = q.y) (h3 : p.k = q.k) : p = q := by cases p; cases q; simp_all
theorem pn_ne {p q : Pn} (h : p ≠ q) : p.x ≠ q.x ∨ (p.x = q.x ∧ p.y ≠ q.y) ∨ (p.x = q.x ∧ p.y = q.y ∧ p.k ≠ q.k) := by
  by_cases h1 : p.x = q.x
  · by_cases h2 : p.y = q.y
    · by_cases h3 : p.k = q.k
      · exact absurd (pn_ext h1 h2 h3) h
      · exact .inr (.inr ⟨h1, h2, h3⟩)
    · exact .inr (.inl ⟨h1, h2⟩)
  · exact .inl h1
/-- The first j elements are the same. -/
def eqTo {α : Type} (d : α) (a b : List α) (j : Nat) : Prop := ∀ t, t < j → a.getD t d = b.getD t d
theorem eqTo_succ {α : Type} {d : α} {a b : List α} {j : Nat} (h : eqTo d a b j) (he : a.getD j d = b.getD j d) : eqTo d a b (j + 1) := fun t ht => by
  by_cases e : t = j
  · rw [e]; exact he
  · exact h t (by omega)
set_option maxRecDepth 100000 in
set_option maxHeartbeats 2000000 in
theorem equal_calls (va vb : Value) (a b : List Pn) (w : World) (ha : IsPs w va a) (hb : IsPs w vb b) :
    Calls Try.prog 93 #[va, vb] w fun e w' => e = .returned (.bool (decide (a = b))) ∧ Kp [] w w' := by
  have hla := ha.le
  have hlb := hb.le
  unfold maxLen at hla hlb
  obtain ⟨pa, ca, rfl⟩ := ha.form
  obtain ⟨pb, cb, rfl⟩ := hb.form
  have HA := Lib.hid ha
  have HB := Lib.hid hb
  clear ha hb
  by_cases hl : a.length = b.length
  · obtain ⟨N, hN⟩ : ∃ N, b.length = N := ⟨_, rfl⟩
    have HN1 : Hid (a.length = N) := by show _ = _; rw [hl, hN]
    have HN2 := Lib.hid hN
    have HQ : Hid (eqTo pn0 a b N → decide (a = b) = true) := fun h => decide_eq_true (eq_of_all pn0 a b hl (by rw [hl, hN]; exact h))
    have HR : Hid (∀ t, a.getD t pn0 ≠ b.getD t pn0 → decide (a = b) = false) := fun t h => decide_eq_false (ne_of_at pn0 a b t h)
    rw [hl, hN] at HA
    rw [hl, hN]
    rw [hN] at HB hlb
    generalize decide (a = b) = R at *
    clear hl hN hla
    go_enter Try.func93, Try.ntmps93
    go_wp2_with fail
    go_loopw [5, 13] (fun _ i wr => ∃ j : Nat, j ≤ N ∧ i = .int .i64 j ∧ Hid (eqTo pn0 a b j ∧ Kp [] w wr)) (fun _ i _ => N - (intOf i).toNat)
    case atStart => exact ⟨0, by omega, rfl, fun t ht => absurd ht (by omega), Kp.refl _ _⟩
    case round =>
      obtain ⟨j, hj, rfl, HJ⟩ := hrel
      by_cases hlt : j < N
      · obtain ⟨g1, o1, c1, e1, _, _, x1, y1, k1⟩ := (HA.out.kp0 HJ.out.2).row (i := j) (by rw [HN1.out]; exact hlt)
        obtain ⟨g2, o2, c2, e2, _, _, x2, y2, k2⟩ := (HB.out.kp0 HJ.out.2).row (i := j) (by rw [HN2.out]; exact hlt)
        rw [HN1.out] at e1
        rw [HN2.out] at e2
        cases e1; cases e2
        by_cases hpq : a.getD j pn0 = b.getD j pn0
        · have HT := Lib.hid (eqTo_succ HJ.out.1 hpq)
          rw [hpq] at x1 y1 k1
          generalize b.getD j pn0 = p at *
          clear hpq
          go_wp2_with fail
          go_quiet (fail)
          go_wp2_with fail
          go_roundw
          case rel => first | exact ⟨j + 1, by omega, int_eq' (by omega), HT.out, HJ.out.2.trans (by (repeat (first | exact Kp.refl _ _ | assumption | refine Kp.drew ?_ | refine Kp.drewN ?_ _ | refine Kp.alloc ?_ _ | (refine Kp.setCell ?_ (by first | (left; simp; done) | (right; simp; try omega)) _) | (refine Kp.trans' ?_ (by assumption) (by simp; try omega)))))⟩ | ((repeat apply Exists.intro); exact ⟨⟨j + 1, by omega, int_eq' (by omega), HT.out, HJ.out.2.trans (by (repeat (first | exact Kp.refl _ _ | assumption | refine Kp.drew ?_ | refine Kp.drewN ?_ _ | refine Kp.alloc ?_ _ | (refine Kp.setCell ?_ (by first | (left; simp; done) | (right; simp; try omega)) _) | (refine Kp.trans' ?_ (by assumption) (by simp; try omega)))))⟩, rfl⟩)
          case measure => simp [intOf]; omega
        · have HF := Lib.hid (HR.out j hpq)
          have hne := pn_ne hpq
          clear hpq
          generalize b.getD j pn0 = p at *
          generalize a.getD j pn0 = q at *
          obtain ⟨qx, qy, qk⟩ := q
          obtain ⟨px, py, pk⟩ := p
          dsimp only at hne x1 y1 k1 x2 y2 k2
          rcases hne with h1 | ⟨rfl, h1⟩ | ⟨rfl, rfl, h1⟩
          all_goals
            go_wp2_with fail
            go_quiet (fail)
            go_wp2_with fail
            go_ret
            exact ⟨by rw [HF.out]; rfl, HJ.out.2.trans (by (repeat (first | exact Kp.refl _ _ | assumption | refine Kp.drew ?_ | refine Kp.drewN ?_ _ | refine Kp.alloc ?_ _ | (refine Kp.setCell ?_ (by first | (left; simp; done) | (right; simp; try omega)) _) | (refine Kp.trans' ?_ (by assumption) (by simp; try omega)))))⟩
      · obtain rfl : j = N := by omega
        have HT := Lib.hid (HQ.out HJ.out.1)
        go_wp2_with fail
        go_ret
        exact ⟨by rw [HT.out]; rfl, HJ.out.2⟩
  · have HF : Hid (decide (a = b) = false) := decide_eq_false (fun h => hl (by rw [h]))
    generalize decide (a = b) = R at *
    have hl2 : ((a.length : Int) != (b.length : Int)) = true := by simp; omega
    go_enter Try.func93, Try.ntmps93
    go_wp2_with fail
    go_ret
    exact ⟨by rw [HF.out]; rfl, Kp.refl _ _⟩
theorem same1_calls (va vb : Value) (a b : List Pn) (w : World) (ha : IsPs w va a) (hb : IsPs w vb b) :
    Calls Try.prog 92 #[va, vb] w fun e w' => e = .returned (.bool (decide (a = b))) ∧ Kp [] w w' := by
  have HE := Lib.hid (equal_calls va vb a b w ha hb)
  generalize decide (a = b) = R at *
  clear ha hb
  go_enter Try.func92, Try.ntmps92
  go_wp2_with fail
  refine HE.out.mono ?_; rintro e w1 ⟨rfl, hk1⟩
  have HK := Lib.hid hk1
  clear hk1
  go_wp2_with fail
  go_ret
  exact ⟨rfl, HK.out⟩
set_option maxRecDepth 100000 in
set_option maxHeartbeats 2000000 in
theorem equalf_calls (va vb : Value) (a b : List (List Pn)) (w : World) (ha : IsOut w va a) (hb : IsOut w vb b) :
    Calls Try.prog 91 #[va, vb, .func (.func 92) #[] #[]] w fun e w' => e = .returned (.bool (decide (a = b))) ∧ Kp [] w w' := by
  have hla := ha.le
  have hlb := hb.le
  unfold maxLen at hla hlb
  obtain ⟨pa, ca, rfl⟩ := ha.form
  obtain ⟨pb, cb, rfl⟩ := hb.form
  have HA := Lib.hid ha
  have HB := Lib.hid hb
  clear ha hb
  by_cases hl : a.length = b.length
  · obtain ⟨N, hN⟩ : ∃ N, b.length = N := ⟨_, rfl⟩
    have HN1 : Hid (a.length = N) := by show _ = _; rw [hl, hN]
    have HN2 := Lib.hid hN
    have HQ : Hid (eqTo [] a b N → decide (a = b) = true) := fun h => decide_eq_true (eq_of_all [] a b hl (by rw [hl, hN]; exact h))
    have HR : Hid (∀ t, a.getD t [] ≠ b.getD t [] → decide (a = b) = false) := fun t h => decide_eq_false (ne_of_at [] a b t h)
    rw [hl, hN] at HA
    rw [hl, hN]
    rw [hN] at HB hlb
    generalize decide (a = b) = R at *
    clear hl hN hla
    go_enter Try.func91, Try.ntmps91
    go_wp2_with fail
    go_loopw [7, 8, 9, 17] (fun _ _ _ i wr => ∃ j : Nat, j ≤ N ∧ i = .int .i64 j ∧ Hid (eqTo [] a b j ∧ Kp [] w wr)) (fun _ _ _ i _ => N - (intOf i).toNat)
    case atStart => exact ⟨0, by omega, rfl, fun t ht => absurd ht (by omega), Kp.refl _ _⟩
    case round =>
      obtain ⟨j, hj, rfl, HJ⟩ := hrel
      by_cases hlt : j < N
      · obtain ⟨g1, o1, c1, p1, cv1, e1, _, _, h1, hp1⟩ := (HA.out.kp0 HJ.out.2).row (i := j) (by rw [HN1.out]; exact hlt)
        obtain ⟨g2, o2, c2, p2, cv2, e2, _, _, h2, hp2⟩ := (HB.out.kp0 HJ.out.2).row (i := j) (by rw [HN2.out]; exact hlt)
        rw [HN1.out] at e1
        rw [HN2.out] at e2
        cases e1; cases e2
        have HE := Lib.hid (same1_calls _ _ _ _ wr hp1 hp2)
        clear hp1 hp2
        by_cases hpq : a.getD j [] = b.getD j []
        · have HT := Lib.hid (eqTo_succ HJ.out.1 hpq)
          rw [decide_eq_true hpq] at HE
          clear hpq
          generalize (a.getD j []).length = L1 at *
          generalize (b.getD j []).length = L2 at *
          go_wp2_with fail
          refine HE.out.mono ?_; rintro e w2 ⟨rfl, hk2⟩
          have HK2 : Hid (Kp [] w w2) := HJ.out.2.trans hk2
          clear hk2
          go_wp2_with fail
          go_roundw
          case rel => first | exact ⟨j + 1, by omega, int_eq' (by omega), HT.out, HK2.out⟩ | ((repeat apply Exists.intro); exact ⟨⟨j + 1, by omega, int_eq' (by omega), HT.out, HK2.out⟩, rfl⟩)
          case measure => simp [intOf]; omega
        · have HF := Lib.hid (HR.out j hpq)
          rw [decide_eq_false hpq] at HE
          clear hpq
          generalize (a.getD j []).length = L1 at *
          generalize (b.getD j []).length = L2 at *
          go_wp2_with fail
          refine HE.out.mono ?_; rintro e w2 ⟨rfl, hk2⟩
          have HK2 : Hid (Kp [] w w2) := HJ.out.2.trans hk2
          clear hk2
          go_wp2_with fail
          go_ret
          exact ⟨by rw [HF.out]; rfl, HK2.out⟩
      · obtain rfl : j = N := by omega
        have HT := Lib.hid (HQ.out HJ.out.1)
        go_wp2_with fail
        go_ret
        exact ⟨by rw [HT.out]; rfl, HJ.out.2⟩
  · have HF : Hid (decide (a = b) = false) := decide_eq_false (fun h => hl (by rw [h]))
    generalize decide (a = b) = R at *
    have hl2 : ((a.length : Int) != (b.length : Int)) = true := by simp; omega
    go_enter Try.func91, Try.ntmps91
    go_wp2_with fail
    go_ret
    exact ⟨by rw [HF.out]; rfl, Kp.refl _ _⟩
theorem osame_calls (va vb : Value) (a b : List (List Pn)) (w : World) (ha : IsOut w va a) (hb : IsOut w vb b) :
    Calls Try.prog 42 #[va, vb] w fun e w' => e = .returned (.bool (decide (a = b))) ∧ Kp [] w w' := by
  have HE := Lib.hid (equalf_calls va vb a b w ha hb)
  generalize decide (a = b) = R at *
  clear ha hb
  go_enter Try.func42, Try.ntmps42
  go_wp2_with fail
  refine HE.out.mono ?_; rintro e w1 ⟨rfl, hk1⟩
  have HK := Lib.hid hk1
  clear hk1
  go_wp2_with fail
  go_ret
  exact ⟨rfl, HK.out⟩
end Go.Proofs.Ytodjohoonbkklaa

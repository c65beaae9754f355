/- The reference's MayPut. (Written by wip/metric/genmra.py.) -/
import Derived.Test.YthmokldmdcjklaaMtB
namespace Go.Proofs.Ythmokldmdcjklaa
open Go.RowKit
set_option linter.unusedVariables false
set_option linter.unusedSimpArgs false
def okM (l : List (Int × Int)) (m i : Nat) : Bool := fitsM (l.getD i (0, 0)) && (decide (i < m) || (l.getD i (0, 0)).1 == (l.getD (m - 1) (0, 0)).1)
theorem mem_getDP (l : List (Int × Int)) (p : Int × Int) (h : p ∈ l) : ∃ i, i < l.length ∧ l.getD i (0, 0) = p := by
  obtain ⟨i, hi, he⟩ := List.mem_iff_getElem.1 h
  exact ⟨i, hi, by rw [List.getD_eq_getElem?_getD, List.getElem?_eq_getElem hi]; exact he⟩
theorem getD_memP (l : List (Int × Int)) (i : Nat) (h : i < l.length) : l.getD i (0, 0) ∈ l := by
  rw [List.getD_eq_getElem?_getD, List.getElem?_eq_getElem h]; exact List.getElem_mem _
theorem mayMet_true (l : List (Int × Int)) (m : Nat) (h1 : 1 ≤ l.length) (h2 : l.length ≤ 65535) (h3 : 1 ≤ m) (h4 : m ≤ l.length) (h : ∀ t, t < l.length → okM l m t = true) : mayMet l m = true := by
  unfold mayMet
  simp only [Bool.and_eq_true, decide_eq_true_eq, Int.toNat_natCast]
  refine ⟨⟨⟨⟨⟨h1, h2⟩, by omega⟩, by omega⟩, List.all_eq_true.2 fun p hp => ?_⟩, List.all_eq_true.2 fun p hp => ?_⟩
  · obtain ⟨i, hi, rfl⟩ := mem_getDP l p hp
    have := h i hi
    unfold okM at this
    exact ((Bool.and_eq_true _ _).mp this).1
  · obtain ⟨i, hi, rfl⟩ := mem_getDP _ p hp
    rw [List.length_drop] at hi
    have := h (m + i) (by omega)
    unfold okM at this
    have h9 := ((Bool.and_eq_true _ _).mp this).2
    rw [decide_eq_false (show ¬ m + i < m by omega), Bool.false_or] at h9
    rw [List.getD_eq_getElem?_getD, List.getElem?_drop, ← List.getD_eq_getElem?_getD]; exact h9
theorem mayMet_at (l : List (Int × Int)) (m : Nat) (hm : mayMet l m = true) (j : Nat) (hj : j < l.length) : okM l m j = true := by
  unfold mayMet at hm
  simp only [Bool.and_eq_true, decide_eq_true_eq, Int.toNat_natCast] at hm
  obtain ⟨⟨⟨⟨⟨k1, k2⟩, k3⟩, k4⟩, k5⟩, k6⟩ := hm
  unfold okM
  rw [List.all_eq_true.1 k5 _ (getD_memP l j hj), Bool.true_and]
  by_cases h : j < m
  · rw [decide_eq_true h]; rfl
  · rw [decide_eq_false h, Bool.false_or]
    have := List.all_eq_true.1 k6 ((l.drop m).getD (j - m) (0, 0)) (getD_memP _ _ (by rw [List.length_drop]; omega))
    rw [List.getD_eq_getElem?_getD, List.getElem?_drop, ← List.getD_eq_getElem?_getD, show m + (j - m) = j by omega] at this
    exact this
theorem mayMet_bad (l : List (Int × Int)) (m : Nat) (j : Nat) (hj : j < l.length) (h : okM l m j = false) : mayMet l m = false := by
  cases hm : mayMet l m
  · rfl
  · rw [mayMet_at l m hm j hj] at h; cases h
theorem mayMet_m (l : List (Int × Int)) (m : Int) (h : m < 1 ∨ (l.length : Int) < m ∨ l.length < 1 ∨ 65535 < l.length) : mayMet l m = false := by
  cases hm : mayMet l m
  · rfl
  · unfold mayMet at hm
    simp only [Bool.and_eq_true, decide_eq_true_eq] at hm
    omega
set_option maxRecDepth 100000 in
set_option maxHeartbeats 8000000 in
theorem rmayput_in (g off c : Nat) (l : List (Int × Int)) (m : Nat) (w : World) (h1 : 1 ≤ l.length) (h2 : l.length ≤ 65535) (h3 : 1 ≤ m) (h4 : m ≤ l.length)
    (hc : ∀ i, i < l.length → w.cell? ⟨g, off + i * 2, none⟩ = some (.int .i64 (l.getD i (0, 0)).1) ∧ w.cell? ⟨g, off + i * 2 + 1, none⟩ = some (.int .i64 (l.getD i (0, 0)).2)) :
    Calls Try.prog 28 #[.slice (some ⟨g, off, none⟩) l.length c, .int .i64 m] w fun e w' => e = .returned (.bool (mayMet l m)) ∧ Kp [] w w' := by
  have HC : Hid _ := hc
  clear hc
  have hx1 : decide ((l.length : Int) < 1) = false := decide_eq_false (by omega)
  have hx2 : decide ((65535 : Int) < l.length) = false := decide_eq_false (by omega)
  have hx3 : decide ((m : Int) < 1) = false := decide_eq_false (by omega)
  have hx4 : decide ((l.length : Int) < m) = false := decide_eq_false (by omega)
  have hx5 : decide (l.length < m) = false := decide_eq_false (by omega)
  go_enter Try.func28, Try.ntmps28
  go_wp2_with fail
  go_loopw [5] (fun i wr => ∃ j : Nat, j ≤ l.length ∧ i = .int .i64 j ∧ Kp [] w wr ∧ Hid (∀ t, t < j → okM l m t = true)) (fun i _ => l.length - (intOf i).toNat)
  case atStart => exact ⟨0, by omega, rfl, Kp.refl _ _, fun t ht => by omega⟩
  case round =>
    obtain ⟨j, hj, rfl, hk, HA⟩ := hrel
    clear hx1 hx2 hx3 hx4
    by_cases hlt : j < l.length
    · have hcx := hk.cell (HC.out j hlt).1 (by simp)
      have hcy := hk.cell (HC.out j hlt).2 (by simp)
      have hcl := hk.cell (HC.out (m - 1) (by omega)).1 (by simp)
      have hbad : okM l m j = false → mayMet l m = false := mayMet_bad l m j hlt
      have hpe : Hid (l.getD j (0, 0) = ((l.getD j (0, 0)).1, (l.getD j (0, 0)).2)) := rfl
      have hle : Hid ((l.getD (m - 1) (0, 0)).1 = (l.getD (m - 1) (0, 0)).1) := rfl
      have hokd : Hid (okM l m j = (fitsM ((l.getD j (0, 0)).1, (l.getD j (0, 0)).2) && (decide (j < m) || (l.getD j (0, 0)).1 == (l.getD (m - 1) (0, 0)).1))) := rfl
      have hlI2 : (j : Int) < l.length := by omega
      have hmI : (m : Int) - 1 < l.length := by omega
      have hmT : ((m : Int) - 1).toNat = m - 1 := by omega
      generalize (l.getD (m - 1) (0, 0)).1 = z at *
      generalize (l.getD j (0, 0)).1 = x at *
      generalize (l.getD j (0, 0)).2 = y at *
      clear hpe hle
      by_cases a1 : x < 0
      · have hF : Hid (mayMet l m = false) := hbad (by rw [hokd.out]; unfold fitsM; rw [decide_eq_false (show ¬ 0 ≤ x by omega)]; simp)
        clear hbad
        go_wp2_with fail
        go_quiet (fail)
        go_wp2_with fail
        go_ret
        exact ⟨by rw [hF.out]; first | done | rfl | simp, by (repeat (first | exact Kp.refl _ _ | assumption | refine Kp.drew ?_ | refine Kp.drewN ?_ _ | refine Kp.alloc ?_ _ | (refine Kp.setCell ?_ (by first | (left; simp; done) | (right; simp; try omega)) _) | (refine Kp.trans' ?_ (by assumption) (by simp; try omega))))⟩
      · have a1' : decide (x < 0) = false := decide_eq_false a1
        by_cases a2 : 65535 < x
        · have hF : Hid (mayMet l m = false) := hbad (by rw [hokd.out]; unfold fitsM; rw [decide_eq_false (show ¬ x ≤ 65535 by omega)]; simp)
          clear hbad
          go_wp2_with fail
          go_quiet (fail)
          go_wp2_with fail
          go_ret
          exact ⟨by rw [hF.out]; first | done | rfl | simp, by (repeat (first | exact Kp.refl _ _ | assumption | refine Kp.drew ?_ | refine Kp.drewN ?_ _ | refine Kp.alloc ?_ _ | (refine Kp.setCell ?_ (by first | (left; simp; done) | (right; simp; try omega)) _) | (refine Kp.trans' ?_ (by assumption) (by simp; try omega))))⟩
        · have a2' : decide (65535 < x) = false := decide_eq_false a2
          by_cases a3 : y < -32768
          · have hF : Hid (mayMet l m = false) := hbad (by rw [hokd.out]; unfold fitsM; rw [decide_eq_false (show ¬ -32768 ≤ y by omega)]; simp)
            clear hbad
            go_wp2_with fail
            go_quiet (fail)
            go_wp2_with fail
            go_ret
            exact ⟨by rw [hF.out]; first | done | rfl | simp, by (repeat (first | exact Kp.refl _ _ | assumption | refine Kp.drew ?_ | refine Kp.drewN ?_ _ | refine Kp.alloc ?_ _ | (refine Kp.setCell ?_ (by first | (left; simp; done) | (right; simp; try omega)) _) | (refine Kp.trans' ?_ (by assumption) (by simp; try omega))))⟩
          · have a3' : decide (y < -32768) = false := decide_eq_false a3
            by_cases a4 : 32768 ≤ y
            · have hF : Hid (mayMet l m = false) := hbad (by rw [hokd.out]; unfold fitsM; rw [decide_eq_false (show ¬ y ≤ 32767 by omega)]; simp)
              clear hbad
              go_wp2_with fail
              go_quiet (fail)
              go_wp2_with fail
              go_ret
              exact ⟨by rw [hF.out]; first | done | rfl | simp, by (repeat (first | exact Kp.refl _ _ | assumption | refine Kp.drew ?_ | refine Kp.drewN ?_ _ | refine Kp.alloc ?_ _ | (refine Kp.setCell ?_ (by first | (left; simp; done) | (right; simp; try omega)) _) | (refine Kp.trans' ?_ (by assumption) (by simp; try omega))))⟩
            · have a4' : decide (32768 ≤ y) = false := decide_eq_false a4
              have hfit : fitsM (x, y) = true := by unfold fitsM; rw [decide_eq_true (show 0 ≤ x by omega), decide_eq_true (show x ≤ 65535 by omega), decide_eq_true (show -32768 ≤ y by omega), decide_eq_true (show y ≤ 32767 by omega)]; rfl
              have HFT : Hid _ := hfit
              clear hfit
              by_cases a5 : m ≤ j
              · have a5' : (m : Int) ≤ j := by omega
                by_cases a6 : x = z
                · subst a6
                  have HOK : Hid (okM l m j = true) := by rw [Hid, hokd.out, HFT.out]; simp
                  clear hbad hokd
                  have a6' : (x != x) = false := by simp
                  have HN : Hid (∀ t, t < j + 1 → okM l m t = true) := by
                    intro t ht
                    by_cases e : t = j
                    · subst e; exact HOK.out
                    · exact HA.out t (by omega)
                  clear HOK
                  go_wp2_with fail
                  go_quiet (fail)
                  go_wp2_with fail
                  go_roundw
                  case rel => first | exact ⟨j + 1, by omega, int_eq' (by omega), by (repeat (first | exact Kp.refl _ _ | assumption | refine Kp.drew ?_ | refine Kp.drewN ?_ _ | refine Kp.alloc ?_ _ | (refine Kp.setCell ?_ (by first | (left; simp; done) | (right; simp; try omega)) _) | (refine Kp.trans' ?_ (by assumption) (by simp; try omega)))), HN.out⟩ | ((repeat apply Exists.intro); exact ⟨⟨j + 1, by omega, int_eq' (by omega), by (repeat (first | exact Kp.refl _ _ | assumption | refine Kp.drew ?_ | refine Kp.drewN ?_ _ | refine Kp.alloc ?_ _ | (refine Kp.setCell ?_ (by first | (left; simp; done) | (right; simp; try omega)) _) | (refine Kp.trans' ?_ (by assumption) (by simp; try omega)))), HN.out⟩, rfl⟩) | ((repeat apply Exists.intro); refine ⟨?_, rfl⟩; exact ⟨j + 1, by omega, int_eq' (by omega), by (repeat (first | exact Kp.refl _ _ | assumption | refine Kp.drew ?_ | refine Kp.drewN ?_ _ | refine Kp.alloc ?_ _ | (refine Kp.setCell ?_ (by first | (left; simp; done) | (right; simp; try omega)) _) | (refine Kp.trans' ?_ (by assumption) (by simp; try omega)))), HN.out⟩)
                  case measure => simp [intOf]; omega
                · have a6' : (x != z) = true := bne_iff_ne.2 a6
                  have hF : Hid (mayMet l m = false) := hbad (by rw [hokd.out, decide_eq_false (show ¬ j < m by omega), beq_eq_false_iff_ne.2 a6]; simp)
                  clear hbad hokd
                  go_wp2_with fail
                  go_quiet (fail)
                  go_wp2_with fail
                  go_ret
                  exact ⟨by rw [hF.out]; first | done | rfl | simp, by (repeat (first | exact Kp.refl _ _ | assumption | refine Kp.drew ?_ | refine Kp.drewN ?_ _ | refine Kp.alloc ?_ _ | (refine Kp.setCell ?_ (by first | (left; simp; done) | (right; simp; try omega)) _) | (refine Kp.trans' ?_ (by assumption) (by simp; try omega))))⟩
              · have a5' : decide ((m : Int) ≤ j) = false := decide_eq_false (by omega)
                have HOK : Hid (okM l m j = true) := by rw [Hid, hokd.out, HFT.out, decide_eq_true (show j < m by omega)]; rfl
                clear hbad hokd
                have HN : Hid (∀ t, t < j + 1 → okM l m t = true) := by
                  intro t ht
                  by_cases e : t = j
                  · subst e; exact HOK.out
                  · exact HA.out t (by omega)
                clear HOK
                go_wp2_with fail
                go_quiet (fail)
                go_wp2_with fail
                go_roundw
                case rel => first | exact ⟨j + 1, by omega, int_eq' (by omega), by (repeat (first | exact Kp.refl _ _ | assumption | refine Kp.drew ?_ | refine Kp.drewN ?_ _ | refine Kp.alloc ?_ _ | (refine Kp.setCell ?_ (by first | (left; simp; done) | (right; simp; try omega)) _) | (refine Kp.trans' ?_ (by assumption) (by simp; try omega)))), HN.out⟩ | ((repeat apply Exists.intro); exact ⟨⟨j + 1, by omega, int_eq' (by omega), by (repeat (first | exact Kp.refl _ _ | assumption | refine Kp.drew ?_ | refine Kp.drewN ?_ _ | refine Kp.alloc ?_ _ | (refine Kp.setCell ?_ (by first | (left; simp; done) | (right; simp; try omega)) _) | (refine Kp.trans' ?_ (by assumption) (by simp; try omega)))), HN.out⟩, rfl⟩) | ((repeat apply Exists.intro); refine ⟨?_, rfl⟩; exact ⟨j + 1, by omega, int_eq' (by omega), by (repeat (first | exact Kp.refl _ _ | assumption | refine Kp.drew ?_ | refine Kp.drewN ?_ _ | refine Kp.alloc ?_ _ | (refine Kp.setCell ?_ (by first | (left; simp; done) | (right; simp; try omega)) _) | (refine Kp.trans' ?_ (by assumption) (by simp; try omega)))), HN.out⟩)
                case measure => simp [intOf]; omega
    · obtain rfl : j = l.length := by omega
      have hF : Hid (mayMet l m = true) := mayMet_true l m h1 h2 h3 h4 (fun t ht => HA.out t ht)
      go_wp2_with fail
      go_ret
      exact ⟨by rw [hF.out]; first | done | rfl | simp, hk⟩
theorem rmayput_calls (v : Value) (l : List (Int × Int)) (m : Int) (w : World) (hv : IsPairs w v l) (hl : l.length ≤ 140737488355328) :
    Calls Try.prog 28 #[v, .int .i64 m] w fun e w' => e = .returned (.bool (mayMet l m)) ∧ Kp [] w w' := by
  by_cases hin : 1 ≤ l.length ∧ l.length ≤ 65535 ∧ 1 ≤ m ∧ m ≤ l.length
  · obtain ⟨h1, h2, h3, h4⟩ := hin
    obtain ⟨mn, rfl⟩ : ∃ k : Nat, m = k := ⟨m.toNat, by omega⟩
    rcases hv.cases with ⟨ad, rfl, rfl⟩ | ⟨g, off, c, rfl, p1, p2, p3⟩
    · simp at h1
    · exact rmayput_in g off c l mn w h1 h2 (by omega) (by omega) p3
  · have HF : Hid (mayMet l m = false) := mayMet_m l m (by omega)
    obtain ⟨pa, ca, rfl⟩ := hv.form
    clear hv
    by_cases a1 : (l.length : Int) < 1
    · go_enter Try.func28, Try.ntmps28
      go_wp2_with fail
      go_ret
      exact ⟨by rw [HF.out]; first | done | rfl | simp, Kp.refl _ _⟩
    · have a1' : decide ((l.length : Int) < 1) = false := decide_eq_false a1
      by_cases a2 : (65535 : Int) < l.length
      · go_enter Try.func28, Try.ntmps28
        go_wp2_with fail
        go_ret
        exact ⟨by rw [HF.out]; first | done | rfl | simp, Kp.refl _ _⟩
      · have a2' : decide ((65535 : Int) < l.length) = false := decide_eq_false a2
        by_cases a3 : m < 1
        · go_enter Try.func28, Try.ntmps28
          go_wp2_with fail
          go_ret
          exact ⟨by rw [HF.out]; first | done | rfl | simp, Kp.refl _ _⟩
        · have a3' : decide (m < 1) = false := decide_eq_false a3
          have a4 : (l.length : Int) < m := by omega
          clear hin
          go_enter Try.func28, Try.ntmps28
          go_wp2_with fail
          go_ret
          exact ⟨by rw [HF.out]; first | done | rfl | simp, Kp.refl _ _⟩
end Go.Proofs.Ythmokldmdcjklaa

/- The reference's MayPlaces. (Written by wip/metric/genmts.py.) -/
import Derived.Test.YthmokldmdcjklaaMtG
namespace Go.Proofs.Ythmokldmdcjklaa
open Go.RowKit
set_option linter.unusedVariables false
set_option linter.unusedSimpArgs false
set_option maxRecDepth 100000 in
set_option maxHeartbeats 16000000 in
theorem rmaypl_true (v : Value) (l : List Int) (w : World) (hv : IsInts .i64 w v l) :
    Calls Try.prog 34 #[v, .bool true] w fun e w' => e = .returned (.bool (mayPl l true)) ∧ Kp [] w w' := by
  rcases hv with ⟨⟨ad, rfl⟩, rfl⟩ | ⟨g, off, c, rfl, p1, p2, p3⟩
  · go_enter Try.func34, Try.ntmps34
    go_wp2_with fail
    go_ret
    exact ⟨rfl, Kp.refl _ _⟩
  · have HC : Hid _ := p3
    clear p3
    by_cases hc1 : l.length < 2
    · have hE : Hid (mayPl l true = false) := by unfold Hid mayPl; rw [decide_eq_false (show ¬ 2 ≤ l.length by omega)]; rfl
      have hc1' : (l.length : Int) < 2 := by omega
      go_enter Try.func34, Try.ntmps34
      go_wp2_with fail
      go_ret
      exact ⟨by rw [hE.out]; rfl, Kp.refl _ _⟩
    · have hc1' : decide ((l.length : Int) < 2) = false := decide_eq_false (by omega)
      by_cases hc2 : 65536 < l.length
      · have hE : Hid (mayPl l true = false) := by unfold Hid mayPl; rw [decide_eq_false (show ¬ l.length ≤ 65536 by omega)]; simp
        have hc2' : (65536 : Int) < l.length := by omega
        go_enter Try.func34, Try.ntmps34
        go_wp2_with fail
        go_ret
        exact ⟨by rw [hE.out]; rfl, Kp.refl _ _⟩
      · have hc2' : decide ((65536 : Int) < l.length) = false := decide_eq_false (by omega)
        have hE : Hid (mayPl l true = (srt l && l.all (okPl true))) := by unfold Hid mayPl; rw [decide_eq_true (show 2 ≤ l.length by omega), decide_eq_true (show l.length ≤ 65536 by omega)]; rfl
        have hlI : l.length ≤ 70000 := by omega
        clear hc1 hc2
        go_enter Try.func34, Try.ntmps34
        go_wp2_with fail
        go_loopw [5] (fun i wr => ∃ j : Nat, j ≤ l.length ∧ i = .int .i64 j ∧ Kp [] w wr ∧ Hid ((l.take j).all (okPl true) = true) ∧ Hid (∀ t : Nat, t + 1 < j → l.getD t 0 ≤ l.getD (t + 1) 0)) (fun i _ => l.length - (intOf i).toNat)
        case atStart => exact ⟨0, by omega, rfl, Kp.refl _ _, by simp [Hid], fun t ht => by omega⟩
        case round =>
          obtain ⟨j, hj, rfl, hk, HA, HT⟩ := hrel
          by_cases hlt : j < l.length
          · have hcx := hk.cell (HC.out j hlt) (by simp)
            have hge : Hid (l[j]? = some (l.getD j 0)) := by unfold Hid; rw [List.getD_eq_getElem?_getD, List.getElem?_eq_getElem hlt]; rfl
            have hmem : l.getD j 0 ∈ l := by rw [List.getD_eq_getElem?_getD, List.getElem?_eq_getElem hlt]; exact List.getElem_mem _
            have hbad : okPl true (l.getD j 0) = false → mayPl l true = false := by
              intro h
              rw [hE.out, show l.all (okPl true) = false by rw [← Bool.not_eq_true]; intro e; have := List.all_eq_true.1 e _ hmem; rw [h] at this; cases this]; simp
            have hsrt : 0 < j → l.getD j 0 < l.getD (j - 1) 0 → mayPl l true = false := by
              intro h0 h
              rw [hE.out, srt_false l (j - 1) (by omega) (by rw [show j - 1 + 1 = j by omega]; exact h)]; rfl
            have hxe : Hid (l.getD j 0 = l.getD j 0) := rfl
            have hlI2 : (j : Int) < l.length := by omega
            clear hmem
            by_cases hj0 : 0 < j
            · have hcy := hk.cell (HC.out (j - 1) (by omega)) (by simp)
              have hyx : Hid (∀ t : Nat, t + 1 = j → l.getD (j - 1) 0 ≤ l.getD j 0 → l.getD t 0 ≤ l.getD (t + 1) 0) := by
                intro t ht h
                rw [ht, show t = j - 1 by omega]; exact h
              have hj1 : (1 : Int) ≤ j := by omega
              have hjT : ((j : Int) - 1).toNat = j - 1 := by omega
              have hjU : (j : Int) - 1 < l.length := by omega
              generalize l.getD (j - 1) 0 = y at *
              generalize l.getD j 0 = x at *
              clear hxe
              by_cases h1 : x < 0
              · have hF : Hid (mayPl l true = false) := hbad (by unfold okPl; simp; omega)
                go_wp2_with fail
                go_quiet (fail)
                go_wp2_with fail
                go_ret
                exact ⟨by rw [hF.out]; first | rfl | simp, by (repeat (first | exact Kp.refl _ _ | assumption | refine Kp.drew ?_ | refine Kp.drewN ?_ _ | refine Kp.alloc ?_ _ | (refine Kp.setCell ?_ (by first | (left; simp; done) | (right; simp; try omega)) _) | (refine Kp.trans' ?_ (by assumption) (by simp; try omega))))⟩
              · have h1' : decide (x < 0) = false := decide_eq_false h1
                by_cases h2 : 1048576 < x
                · have hF : Hid (mayPl l true = false) := hbad (by unfold okPl; simp; omega)
                  go_wp2_with fail
                  go_quiet (fail)
                  go_wp2_with fail
                  go_ret
                  exact ⟨by rw [hF.out]; first | rfl | simp, by (repeat (first | exact Kp.refl _ _ | assumption | refine Kp.drew ?_ | refine Kp.drewN ?_ _ | refine Kp.alloc ?_ _ | (refine Kp.setCell ?_ (by first | (left; simp; done) | (right; simp; try omega)) _) | (refine Kp.trans' ?_ (by assumption) (by simp; try omega))))⟩
                · have h2' : decide (1048576 < x) = false := decide_eq_false h2
                  by_cases h5 : x < y
                  · have hF : Hid (mayPl l true = false) := hsrt hj0 h5
                    go_wp2_with fail
                    go_quiet (fail)
                    go_wp2_with fail
                    go_ret
                    exact ⟨by rw [hF.out]; first | rfl | simp, by (repeat (first | exact Kp.refl _ _ | assumption | refine Kp.drew ?_ | refine Kp.drewN ?_ _ | refine Kp.alloc ?_ _ | (refine Kp.setCell ?_ (by first | (left; simp; done) | (right; simp; try omega)) _) | (refine Kp.trans' ?_ (by assumption) (by simp; try omega))))⟩
                  · have h5' : decide (x < y) = false := decide_eq_false h5
                    have HN : Hid ((l.take (j + 1)).all (okPl true) = true) := by
                      rw [Hid, List.take_add_one, hge.out, List.all_append, HA.out]; simp [okPl]; omega
                    have HT2 : Hid (∀ t : Nat, t + 1 < j + 1 → l.getD t 0 ≤ l.getD (t + 1) 0) := by
                      intro t ht
                      by_cases e : t + 1 = j
                      · exact hyx.out t e (by omega)
                      · exact HT.out t (by omega)
                    go_wp2_with fail
                    go_quiet (fail)
                    go_wp2_with fail
                    go_roundw
                    case rel => first | exact ⟨j + 1, by omega, int_eq' (by omega), by (repeat (first | exact Kp.refl _ _ | assumption | refine Kp.drew ?_ | refine Kp.drewN ?_ _ | refine Kp.alloc ?_ _ | (refine Kp.setCell ?_ (by first | (left; simp; done) | (right; simp; try omega)) _) | (refine Kp.trans' ?_ (by assumption) (by simp; try omega)))), HN.out, HT2.out⟩ | ((repeat apply Exists.intro); exact ⟨⟨j + 1, by omega, int_eq' (by omega), by (repeat (first | exact Kp.refl _ _ | assumption | refine Kp.drew ?_ | refine Kp.drewN ?_ _ | refine Kp.alloc ?_ _ | (refine Kp.setCell ?_ (by first | (left; simp; done) | (right; simp; try omega)) _) | (refine Kp.trans' ?_ (by assumption) (by simp; try omega)))), HN.out, HT2.out⟩, rfl⟩) | ((repeat apply Exists.intro); refine ⟨?_, rfl⟩; exact ⟨j + 1, by omega, int_eq' (by omega), by (repeat (first | exact Kp.refl _ _ | assumption | refine Kp.drew ?_ | refine Kp.drewN ?_ _ | refine Kp.alloc ?_ _ | (refine Kp.setCell ?_ (by first | (left; simp; done) | (right; simp; try omega)) _) | (refine Kp.trans' ?_ (by assumption) (by simp; try omega)))), HN.out, HT2.out⟩)
                    case measure => simp [intOf]; omega
            · have hj0' : decide ((0 : Int) < (j : Int)) = false := decide_eq_false (by omega)
              generalize l.getD j 0 = x at *
              clear hxe
              by_cases h1 : x < 0
              · have hF : Hid (mayPl l true = false) := hbad (by unfold okPl; simp; omega)
                go_wp2_with fail
                go_quiet (fail)
                go_wp2_with fail
                go_ret
                exact ⟨by rw [hF.out]; first | rfl | simp, by (repeat (first | exact Kp.refl _ _ | assumption | refine Kp.drew ?_ | refine Kp.drewN ?_ _ | refine Kp.alloc ?_ _ | (refine Kp.setCell ?_ (by first | (left; simp; done) | (right; simp; try omega)) _) | (refine Kp.trans' ?_ (by assumption) (by simp; try omega))))⟩
              · have h1' : decide (x < 0) = false := decide_eq_false h1
                by_cases h2 : 1048576 < x
                · have hF : Hid (mayPl l true = false) := hbad (by unfold okPl; simp; omega)
                  go_wp2_with fail
                  go_quiet (fail)
                  go_wp2_with fail
                  go_ret
                  exact ⟨by rw [hF.out]; first | rfl | simp, by (repeat (first | exact Kp.refl _ _ | assumption | refine Kp.drew ?_ | refine Kp.drewN ?_ _ | refine Kp.alloc ?_ _ | (refine Kp.setCell ?_ (by first | (left; simp; done) | (right; simp; try omega)) _) | (refine Kp.trans' ?_ (by assumption) (by simp; try omega))))⟩
                · have h2' : decide (1048576 < x) = false := decide_eq_false h2
                  have HN : Hid ((l.take (j + 1)).all (okPl true) = true) := by
                    rw [Hid, List.take_add_one, hge.out, List.all_append, HA.out]; simp [okPl]; omega
                  have HT2 : Hid (∀ t : Nat, t + 1 < j + 1 → l.getD t 0 ≤ l.getD (t + 1) 0) := by
                    intro t ht
                    by_cases e : t + 1 = j
                    · omega
                    · exact HT.out t (by omega)
                  go_wp2_with fail
                  go_quiet (fail)
                  go_wp2_with fail
                  go_roundw
                  case rel => first | exact ⟨j + 1, by omega, int_eq' (by omega), by (repeat (first | exact Kp.refl _ _ | assumption | refine Kp.drew ?_ | refine Kp.drewN ?_ _ | refine Kp.alloc ?_ _ | (refine Kp.setCell ?_ (by first | (left; simp; done) | (right; simp; try omega)) _) | (refine Kp.trans' ?_ (by assumption) (by simp; try omega)))), HN.out, HT2.out⟩ | ((repeat apply Exists.intro); exact ⟨⟨j + 1, by omega, int_eq' (by omega), by (repeat (first | exact Kp.refl _ _ | assumption | refine Kp.drew ?_ | refine Kp.drewN ?_ _ | refine Kp.alloc ?_ _ | (refine Kp.setCell ?_ (by first | (left; simp; done) | (right; simp; try omega)) _) | (refine Kp.trans' ?_ (by assumption) (by simp; try omega)))), HN.out, HT2.out⟩, rfl⟩) | ((repeat apply Exists.intro); refine ⟨?_, rfl⟩; exact ⟨j + 1, by omega, int_eq' (by omega), by (repeat (first | exact Kp.refl _ _ | assumption | refine Kp.drew ?_ | refine Kp.drewN ?_ _ | refine Kp.alloc ?_ _ | (refine Kp.setCell ?_ (by first | (left; simp; done) | (right; simp; try omega)) _) | (refine Kp.trans' ?_ (by assumption) (by simp; try omega)))), HN.out, HT2.out⟩)
                  case measure => simp [intOf]; omega
          · obtain rfl : j = l.length := by omega
            have hF : Hid (mayPl l true = true) := by
              have h := HA.out
              rw [List.take_length] at h
              rw [Hid, hE.out, h, srt_true l (fun i hi => HT.out i hi)]; rfl
            go_wp2_with fail
            go_ret
            exact ⟨by rw [hF.out]; rfl, hk⟩
set_option maxRecDepth 100000 in
set_option maxHeartbeats 16000000 in
theorem rmaypl_false (v : Value) (l : List Int) (w : World) (hv : IsInts .i64 w v l) :
    Calls Try.prog 34 #[v, .bool false] w fun e w' => e = .returned (.bool (mayPl l false)) ∧ Kp [] w w' := by
  rcases hv with ⟨⟨ad, rfl⟩, rfl⟩ | ⟨g, off, c, rfl, p1, p2, p3⟩
  · go_enter Try.func34, Try.ntmps34
    go_wp2_with fail
    go_ret
    exact ⟨rfl, Kp.refl _ _⟩
  · have HC : Hid _ := p3
    clear p3
    by_cases hc1 : l.length < 2
    · have hE : Hid (mayPl l false = false) := by unfold Hid mayPl; rw [decide_eq_false (show ¬ 2 ≤ l.length by omega)]; rfl
      have hc1' : (l.length : Int) < 2 := by omega
      go_enter Try.func34, Try.ntmps34
      go_wp2_with fail
      go_ret
      exact ⟨by rw [hE.out]; rfl, Kp.refl _ _⟩
    · have hc1' : decide ((l.length : Int) < 2) = false := decide_eq_false (by omega)
      by_cases hc2 : 65536 < l.length
      · have hE : Hid (mayPl l false = false) := by unfold Hid mayPl; rw [decide_eq_false (show ¬ l.length ≤ 65536 by omega)]; simp
        have hc2' : (65536 : Int) < l.length := by omega
        go_enter Try.func34, Try.ntmps34
        go_wp2_with fail
        go_ret
        exact ⟨by rw [hE.out]; rfl, Kp.refl _ _⟩
      · have hc2' : decide ((65536 : Int) < l.length) = false := decide_eq_false (by omega)
        have hE : Hid (mayPl l false = (srt l && l.all (okPl false))) := by unfold Hid mayPl; rw [decide_eq_true (show 2 ≤ l.length by omega), decide_eq_true (show l.length ≤ 65536 by omega)]; rfl
        have hlI : l.length ≤ 70000 := by omega
        clear hc1 hc2
        go_enter Try.func34, Try.ntmps34
        go_wp2_with fail
        go_loopw [5] (fun i wr => ∃ j : Nat, j ≤ l.length ∧ i = .int .i64 j ∧ Kp [] w wr ∧ Hid ((l.take j).all (okPl false) = true) ∧ Hid (∀ t : Nat, t + 1 < j → l.getD t 0 ≤ l.getD (t + 1) 0)) (fun i _ => l.length - (intOf i).toNat)
        case atStart => exact ⟨0, by omega, rfl, Kp.refl _ _, by simp [Hid], fun t ht => by omega⟩
        case round =>
          obtain ⟨j, hj, rfl, hk, HA, HT⟩ := hrel
          by_cases hlt : j < l.length
          · have hcx := hk.cell (HC.out j hlt) (by simp)
            have hge : Hid (l[j]? = some (l.getD j 0)) := by unfold Hid; rw [List.getD_eq_getElem?_getD, List.getElem?_eq_getElem hlt]; rfl
            have hmem : l.getD j 0 ∈ l := by rw [List.getD_eq_getElem?_getD, List.getElem?_eq_getElem hlt]; exact List.getElem_mem _
            have hbad : okPl false (l.getD j 0) = false → mayPl l false = false := by
              intro h
              rw [hE.out, show l.all (okPl false) = false by rw [← Bool.not_eq_true]; intro e; have := List.all_eq_true.1 e _ hmem; rw [h] at this; cases this]; simp
            have hsrt : 0 < j → l.getD j 0 < l.getD (j - 1) 0 → mayPl l false = false := by
              intro h0 h
              rw [hE.out, srt_false l (j - 1) (by omega) (by rw [show j - 1 + 1 = j by omega]; exact h)]; rfl
            have hxe : Hid (l.getD j 0 = l.getD j 0) := rfl
            have hlI2 : (j : Int) < l.length := by omega
            clear hmem
            by_cases hj0 : 0 < j
            · have hcy := hk.cell (HC.out (j - 1) (by omega)) (by simp)
              have hyx : Hid (∀ t : Nat, t + 1 = j → l.getD (j - 1) 0 ≤ l.getD j 0 → l.getD t 0 ≤ l.getD (t + 1) 0) := by
                intro t ht h
                rw [ht, show t = j - 1 by omega]; exact h
              have hj1 : (1 : Int) ≤ j := by omega
              have hjT : ((j : Int) - 1).toNat = j - 1 := by omega
              have hjU : (j : Int) - 1 < l.length := by omega
              generalize l.getD (j - 1) 0 = y at *
              generalize l.getD j 0 = x at *
              clear hxe
              by_cases h1 : x < 0
              · have hF : Hid (mayPl l false = false) := hbad (by unfold okPl; simp; omega)
                go_wp2_with fail
                go_quiet (fail)
                go_wp2_with fail
                go_ret
                exact ⟨by rw [hF.out]; first | rfl | simp, by (repeat (first | exact Kp.refl _ _ | assumption | refine Kp.drew ?_ | refine Kp.drewN ?_ _ | refine Kp.alloc ?_ _ | (refine Kp.setCell ?_ (by first | (left; simp; done) | (right; simp; try omega)) _) | (refine Kp.trans' ?_ (by assumption) (by simp; try omega))))⟩
              · have h1' : decide (x < 0) = false := decide_eq_false h1
                by_cases h2 : 1048576 < x
                · have hF : Hid (mayPl l false = false) := hbad (by unfold okPl; simp; omega)
                  go_wp2_with fail
                  go_quiet (fail)
                  go_wp2_with fail
                  go_ret
                  exact ⟨by rw [hF.out]; first | rfl | simp, by (repeat (first | exact Kp.refl _ _ | assumption | refine Kp.drew ?_ | refine Kp.drewN ?_ _ | refine Kp.alloc ?_ _ | (refine Kp.setCell ?_ (by first | (left; simp; done) | (right; simp; try omega)) _) | (refine Kp.trans' ?_ (by assumption) (by simp; try omega))))⟩
                · have h2' : decide (1048576 < x) = false := decide_eq_false h2
                  by_cases h5 : x < y
                  · have hF : Hid (mayPl l false = false) := hsrt hj0 h5
                    go_wp2_with fail
                    go_quiet (fail)
                    go_wp2_with fail
                    go_ret
                    exact ⟨by rw [hF.out]; first | rfl | simp, by (repeat (first | exact Kp.refl _ _ | assumption | refine Kp.drew ?_ | refine Kp.drewN ?_ _ | refine Kp.alloc ?_ _ | (refine Kp.setCell ?_ (by first | (left; simp; done) | (right; simp; try omega)) _) | (refine Kp.trans' ?_ (by assumption) (by simp; try omega))))⟩
                  · have h5' : decide (x < y) = false := decide_eq_false h5
                    have hWJ : IntKind.i64.wrap ((j : Int) - 1) = (j : Int) - 1 := by rw [IntKind.wrap_i64]; omega
                    by_cases h3 : x % 2 = 0
                    · have h3' : (Int.tmod x 2 != 0) = false := by rw [Int.tmod_eq_emod_of_nonneg (by omega), h3]; rfl
                      have h3e : (x % 2 != 0) = false := by rw [h3]; rfl
                      by_cases h4 : 131070 < x
                      · have hF : Hid (mayPl l false = false) := hbad (by unfold okPl; simp; omega)
                        clear h3 hbad hsrt
                        go_wp2_with fail
                        go_quiet (fail)
                        go_wp2_with fail
                        go_ret
                        exact ⟨by rw [hF.out]; first | rfl | simp, by (repeat (first | exact Kp.refl _ _ | assumption | refine Kp.drew ?_ | refine Kp.drewN ?_ _ | refine Kp.alloc ?_ _ | (refine Kp.setCell ?_ (by first | (left; simp; done) | (right; simp; try omega)) _) | (refine Kp.trans' ?_ (by assumption) (by simp; try omega))))⟩
                      · have h4' : decide (131070 < x) = false := decide_eq_false h4
                        have HN : Hid ((l.take (j + 1)).all (okPl false) = true) := by
                          rw [Hid, List.take_add_one, hge.out, List.all_append, HA.out]; simp [okPl]; omega
                        have HT2 : Hid (∀ t : Nat, t + 1 < j + 1 → l.getD t 0 ≤ l.getD (t + 1) 0) := by
                          intro t ht
                          by_cases e : t + 1 = j
                          · exact hyx.out t e (by omega)
                          · exact HT.out t (by omega)
                        clear h3 hbad hsrt
                        go_wp2_with fail
                        go_quiet (fail)
                        go_wp2_with fail
                        go_roundw
                        case rel => first | exact ⟨j + 1, by omega, int_eq' (by omega), by (repeat (first | exact Kp.refl _ _ | assumption | refine Kp.drew ?_ | refine Kp.drewN ?_ _ | refine Kp.alloc ?_ _ | (refine Kp.setCell ?_ (by first | (left; simp; done) | (right; simp; try omega)) _) | (refine Kp.trans' ?_ (by assumption) (by simp; try omega)))), HN.out, HT2.out⟩ | ((repeat apply Exists.intro); exact ⟨⟨j + 1, by omega, int_eq' (by omega), by (repeat (first | exact Kp.refl _ _ | assumption | refine Kp.drew ?_ | refine Kp.drewN ?_ _ | refine Kp.alloc ?_ _ | (refine Kp.setCell ?_ (by first | (left; simp; done) | (right; simp; try omega)) _) | (refine Kp.trans' ?_ (by assumption) (by simp; try omega)))), HN.out, HT2.out⟩, rfl⟩) | ((repeat apply Exists.intro); refine ⟨?_, rfl⟩; exact ⟨j + 1, by omega, int_eq' (by omega), by (repeat (first | exact Kp.refl _ _ | assumption | refine Kp.drew ?_ | refine Kp.drewN ?_ _ | refine Kp.alloc ?_ _ | (refine Kp.setCell ?_ (by first | (left; simp; done) | (right; simp; try omega)) _) | (refine Kp.trans' ?_ (by assumption) (by simp; try omega)))), HN.out, HT2.out⟩)
                        case measure => simp [intOf]; omega
                    · have h3' : (Int.tmod x 2 != 0) = true := by rw [Int.tmod_eq_emod_of_nonneg (by omega)]; exact bne_iff_ne.2 h3
                      have h3e : (x % 2 != 0) = true := bne_iff_ne.2 h3
                      have hF : Hid (mayPl l false = false) := hbad (by unfold okPl; simp; omega)
                      clear h3 hbad hsrt
                      go_wp2_with fail
                      go_quiet (fail)
                      go_wp2_with fail
                      go_ret
                      exact ⟨by rw [hF.out]; first | rfl | simp, by (repeat (first | exact Kp.refl _ _ | assumption | refine Kp.drew ?_ | refine Kp.drewN ?_ _ | refine Kp.alloc ?_ _ | (refine Kp.setCell ?_ (by first | (left; simp; done) | (right; simp; try omega)) _) | (refine Kp.trans' ?_ (by assumption) (by simp; try omega))))⟩
            · have hj0' : decide ((0 : Int) < (j : Int)) = false := decide_eq_false (by omega)
              generalize l.getD j 0 = x at *
              clear hxe
              by_cases h1 : x < 0
              · have hF : Hid (mayPl l false = false) := hbad (by unfold okPl; simp; omega)
                go_wp2_with fail
                go_quiet (fail)
                go_wp2_with fail
                go_ret
                exact ⟨by rw [hF.out]; first | rfl | simp, by (repeat (first | exact Kp.refl _ _ | assumption | refine Kp.drew ?_ | refine Kp.drewN ?_ _ | refine Kp.alloc ?_ _ | (refine Kp.setCell ?_ (by first | (left; simp; done) | (right; simp; try omega)) _) | (refine Kp.trans' ?_ (by assumption) (by simp; try omega))))⟩
              · have h1' : decide (x < 0) = false := decide_eq_false h1
                by_cases h2 : 1048576 < x
                · have hF : Hid (mayPl l false = false) := hbad (by unfold okPl; simp; omega)
                  go_wp2_with fail
                  go_quiet (fail)
                  go_wp2_with fail
                  go_ret
                  exact ⟨by rw [hF.out]; first | rfl | simp, by (repeat (first | exact Kp.refl _ _ | assumption | refine Kp.drew ?_ | refine Kp.drewN ?_ _ | refine Kp.alloc ?_ _ | (refine Kp.setCell ?_ (by first | (left; simp; done) | (right; simp; try omega)) _) | (refine Kp.trans' ?_ (by assumption) (by simp; try omega))))⟩
                · have h2' : decide (1048576 < x) = false := decide_eq_false h2
                  skip
                  by_cases h3 : x % 2 = 0
                  · have h3' : (Int.tmod x 2 != 0) = false := by rw [Int.tmod_eq_emod_of_nonneg (by omega), h3]; rfl
                    have h3e : (x % 2 != 0) = false := by rw [h3]; rfl
                    by_cases h4 : 131070 < x
                    · have hF : Hid (mayPl l false = false) := hbad (by unfold okPl; simp; omega)
                      clear h3 hbad hsrt
                      go_wp2_with fail
                      go_quiet (fail)
                      go_wp2_with fail
                      go_ret
                      exact ⟨by rw [hF.out]; first | rfl | simp, by (repeat (first | exact Kp.refl _ _ | assumption | refine Kp.drew ?_ | refine Kp.drewN ?_ _ | refine Kp.alloc ?_ _ | (refine Kp.setCell ?_ (by first | (left; simp; done) | (right; simp; try omega)) _) | (refine Kp.trans' ?_ (by assumption) (by simp; try omega))))⟩
                    · have h4' : decide (131070 < x) = false := decide_eq_false h4
                      have HN : Hid ((l.take (j + 1)).all (okPl false) = true) := by
                        rw [Hid, List.take_add_one, hge.out, List.all_append, HA.out]; simp [okPl]; omega
                      have HT2 : Hid (∀ t : Nat, t + 1 < j + 1 → l.getD t 0 ≤ l.getD (t + 1) 0) := by
                        intro t ht
                        by_cases e : t + 1 = j
                        · omega
                        · exact HT.out t (by omega)
                      clear h3 hbad hsrt
                      go_wp2_with fail
                      go_quiet (fail)
                      go_wp2_with fail
                      go_roundw
                      case rel => first | exact ⟨j + 1, by omega, int_eq' (by omega), by (repeat (first | exact Kp.refl _ _ | assumption | refine Kp.drew ?_ | refine Kp.drewN ?_ _ | refine Kp.alloc ?_ _ | (refine Kp.setCell ?_ (by first | (left; simp; done) | (right; simp; try omega)) _) | (refine Kp.trans' ?_ (by assumption) (by simp; try omega)))), HN.out, HT2.out⟩ | ((repeat apply Exists.intro); exact ⟨⟨j + 1, by omega, int_eq' (by omega), by (repeat (first | exact Kp.refl _ _ | assumption | refine Kp.drew ?_ | refine Kp.drewN ?_ _ | refine Kp.alloc ?_ _ | (refine Kp.setCell ?_ (by first | (left; simp; done) | (right; simp; try omega)) _) | (refine Kp.trans' ?_ (by assumption) (by simp; try omega)))), HN.out, HT2.out⟩, rfl⟩) | ((repeat apply Exists.intro); refine ⟨?_, rfl⟩; exact ⟨j + 1, by omega, int_eq' (by omega), by (repeat (first | exact Kp.refl _ _ | assumption | refine Kp.drew ?_ | refine Kp.drewN ?_ _ | refine Kp.alloc ?_ _ | (refine Kp.setCell ?_ (by first | (left; simp; done) | (right; simp; try omega)) _) | (refine Kp.trans' ?_ (by assumption) (by simp; try omega)))), HN.out, HT2.out⟩)
                      case measure => simp [intOf]; omega
                  · have h3' : (Int.tmod x 2 != 0) = true := by rw [Int.tmod_eq_emod_of_nonneg (by omega)]; exact bne_iff_ne.2 h3
                    have h3e : (x % 2 != 0) = true := bne_iff_ne.2 h3
                    have hF : Hid (mayPl l false = false) := hbad (by unfold okPl; simp; omega)
                    clear h3 hbad hsrt
                    go_wp2_with fail
                    go_quiet (fail)
                    go_wp2_with fail
                    go_ret
                    exact ⟨by rw [hF.out]; first | rfl | simp, by (repeat (first | exact Kp.refl _ _ | assumption | refine Kp.drew ?_ | refine Kp.drewN ?_ _ | refine Kp.alloc ?_ _ | (refine Kp.setCell ?_ (by first | (left; simp; done) | (right; simp; try omega)) _) | (refine Kp.trans' ?_ (by assumption) (by simp; try omega))))⟩
          · obtain rfl : j = l.length := by omega
            have hF : Hid (mayPl l false = true) := by
              have h := HA.out
              rw [List.take_length] at h
              rw [Hid, hE.out, h, srt_true l (fun i hi => HT.out i hi)]; rfl
            go_wp2_with fail
            go_ret
            exact ⟨by rw [hF.out]; rfl, hk⟩
theorem rmaypl_calls (v : Value) (l : List Int) (long : Bool) (w : World) (hv : IsInts .i64 w v l) :
    Calls Try.prog 34 #[v, .bool long] w fun e w' => e = .returned (.bool (mayPl l long)) ∧ Kp [] w w' := by
  cases long
  · exact rmaypl_false v l w hv
  · exact rmaypl_true v l w hv
end Go.Proofs.Ythmokldmdcjklaa

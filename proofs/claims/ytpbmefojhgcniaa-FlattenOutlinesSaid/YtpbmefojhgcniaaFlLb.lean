/- flatten: the laws FlattenMoves and FlattenPhases. (Written by wip/flatten/genfllb.py.) -/
import Derived.Test.YtpbmefojhgcniaaFlLa
import Derived.Deep.DeepCutAuto
namespace Go.Proofs.Ytpbmefojhgcniaa
open Go.RowKit
set_option linter.unusedVariables false
set_option linter.unusedSimpArgs false
theorem smF_mv {L : List (List (Int × Int))} (dx dy : Int) (h : smF L) : smF (movL dx dy L) := fun j hj => by
  have hl : (movL dx dy L).length = L.length := by unfold movL; rw [List.length_map]
  rw [movL_at dx dy L (by omega), List.length_map]; exact h j (by omega)
/-- What is moved and has a box is not moved far. -/
theorem move_near {L : List (List (Int × Int))} {dx dy : Int} (hm : mayF L = 0) (h : (moveM L dx dy).2 = 0) (hne : (boxF L).1 ≠ ⟨0, 0, 0, 0⟩) : (-2097152 ≤ dx ∧ dx ≤ 2097152) ∧ -2097152 ≤ dy ∧ dy ≤ 2097152 := by
  apply farM_no
  cases hf : farM dx dy with
  | false => rfl
  | true =>
    exfalso; apply hne
    have hq : L.flatten = [] := by
      cases hL : L.flatten with
      | nil => rfl
      | cons q T =>
        exfalso
        have hb : (flTo L L.length).any (badM dx dy) = true := by
          rw [flTo_all, hL, List.any_eq_true]
          exact ⟨q, List.mem_cons_self, by unfold badM; rw [hf]; rfl⟩
        unfold moveM at h
        rw [if_pos hb] at h; cases h
    rw [box_is hm, hq]
    rfl
theorem tdiv64 (a : Int) : Int.tdiv (64 * a) 64 = a := by rw [Int.mul_comm]; exact Int.mul_tdiv_cancel a (by decide)
set_option maxRecDepth 100000 in
set_option maxHeartbeats 8000000 in
theorem moves_large (v : Value) (L : List (List (Int × Int))) (dx dy : Int) (w : World) (hv : IsFl w v L) (hs : smF L) (hl : 5000 < L.length ∨ (L.length ≤ 5000 ∧ 70000 < fcnt L)) :
    Calls Try.prog 6 #[v, .int .i64 dx, .int .i64 dy] w fun e w' => e = .returned (.bool true) ∧ Kp [] w w' := by
  have HL := Lib.hid (fun W => lives21_calls W)
  have hle := hv.le
  unfold maxLen at hle
  rcases hl with hl | ⟨hl, hc⟩
  · have HC := Lib.hid (rfcount_any v L w hv)
    obtain ⟨pa, ca, rfl⟩ := hv.form
    have d5 : decide ((5000 : Int) < (L.length : Int)) = true := decide_eq_true (by omega)
    generalize L.length = N at *
    clear hv hs
    go_enter Try.func6, Try.ntmps6
    go_wp2_with fail
    refine HC.out.mono ?_; rintro e w1 ⟨⟨n, rfl⟩, hk1⟩
    cases hn : decide ((70000 : Int) < n)
    · go_wp2_with fail
      refine (HL.out _).mono ?_; rintro e w2 ⟨rfl, hk2⟩
      go_wp2_with fail
      go_ret
      exact ⟨rfl, hk1.trans hk2⟩
    · go_wp2_with fail
      refine (HL.out _).mono ?_; rintro e w2 ⟨rfl, hk2⟩
      go_wp2_with fail
      go_ret
      exact ⟨rfl, hk1.trans hk2⟩
  · have HC := Lib.hid (rfcount_few v L w hv hs hl)
    obtain ⟨pa, ca, rfl⟩ := hv.form
    have d5 : decide ((70000 : Int) < (fcnt L : Int)) = true := decide_eq_true (by omega)
    generalize L.length = N at *
    generalize fcnt L = F at *
    clear hv hs
    go_enter Try.func6, Try.ntmps6
    go_wp2_with fail
    refine HC.out.mono ?_; rintro e w1 ⟨rfl, hk1⟩
    go_wp2_with fail
    refine (HL.out _).mono ?_; rintro e w2 ⟨rfl, hk2⟩
    go_wp2_with fail
    go_ret
    exact ⟨rfl, hk1.trans hk2⟩
set_option maxRecDepth 100000 in
set_option maxHeartbeats 8000000 in
theorem moves_no (v : Value) (L : List (List (Int × Int))) (dx dy : Int) (w : World) (hv : IsFl w v L) (hs : smF L) (hl : L.length ≤ 5000) (hc : ¬ 70000 < fcnt L) (E : Int) (hm : mayF L = E) (hE : E ≠ 0) :
    Calls Try.prog 6 #[v, .int .i64 dx, .int .i64 dy] w fun e w' => e = .returned (.bool true) ∧ Kp [] w w' := by
  have HL := Lib.hid (fun W => lives21_calls W)
  have HV : Hid (∀ W, Kp [] w W → IsFl W v L) := fun W hW => hv.kp0 hW
  have HC := Lib.hid (rfcount_few v L w hv hs hl)
  have HMV := Lib.hid (fun W hW => fmove_calls v L dx dy W (HV.out W hW) hs (by omega))
  have HM := Lib.hid (fun W hW => rflmay_calls v L W (HV.out W hW) hs hl)
  rw [hm] at HM
  have hEb : (E != 0) = true := by simpa using hE
  rw [show moveF L dx dy = ([], E) from by unfold moveF; rw [if_pos (by rw [hm]; exact hE), hm]] at HMV
  have d7 : decide ((70000 : Int) < (fcnt L : Int)) = false := decide_eq_false (by omega)
  have d5 : decide ((5000 : Int) < (L.length : Int)) = false := decide_eq_false (by omega)
  obtain ⟨pa, ca, rfl⟩ := hv.form
  generalize L.length = N at *
  generalize fcnt L = F at *
  clear hv hs hm hE
  go_enter Try.func6, Try.ntmps6
  go_wp2_with fail
  refine HC.out.mono ?_; rintro e w1 ⟨rfl, hk1⟩
  have HK1 := Lib.hid hk1
  clear hk1
  go_wp2_with fail
  refine (HMV.out _ HK1.out).mono ?_; rintro e w2 ⟨v2, rfl, hf2, hk2⟩
  have HK2 : Hid (Kp [] w w2) := HK1.out.trans hk2
  obtain ⟨p2, c2, rfl⟩ := hf2.form
  have HF2 : Hid (∀ W, Kp [] w2 W → IsFl W (.slice p2 0 c2) _) := fun W hW => hf2.kp0 hW
  simp only [List.length_nil] at *
  clear hk2 hf2 HK1
  go_wp2_with fail
  refine (HL.out _).mono ?_; rintro e w3 ⟨rfl, hk3⟩
  have HK23 : Hid (Kp [] w2 w3) := hk3
  clear hk3
  go_wp2_with fail
  refine (HM.out _ (HK2.out.trans HK23.out)).mono ?_; rintro e w4 ⟨rfl, hk4⟩
  have HK24 : Hid (Kp [] w2 w4) := HK23.out.trans hk4
  clear hk4
  go_wp2_with fail
  go_ret
  exact ⟨by simp, HK2.out.trans HK24.out⟩
set_option maxRecDepth 100000 in
set_option maxHeartbeats 8000000 in
theorem moves_bad (v : Value) (L : List (List (Int × Int))) (dx dy : Int) (w : World) (hv : IsFl w v L) (hs : smF L) (hl : L.length ≤ 5000) (hc : ¬ 70000 < fcnt L) (hm : mayF L = 0) (hM : (moveM L dx dy).2 ≠ 0) :
    Calls Try.prog 6 #[v, .int .i64 dx, .int .i64 dy] w fun e w' => e = .returned (.bool true) ∧ Kp [] w w' := by
  have HL := Lib.hid (fun W => lives21_calls W)
  have HV : Hid (∀ W, Kp [] w W → IsFl W v L) := fun W hW => hv.kp0 hW
  have HC := Lib.hid (rfcount_few v L w hv hs hl)
  have HMV := Lib.hid (fun W hW => fmove_calls v L dx dy W (HV.out W hW) hs (by omega))
  have HM := Lib.hid (fun W hW => rflmay_calls v L W (HV.out W hW) hs hl)
  rw [hm] at HM
  rw [show moveF L dx dy = moveM L dx dy from by unfold moveF; rw [if_neg (by simp [hm])]] at HMV
  have HRM := Lib.hid (fun W hW => rfmove_calls v L dx dy W (HV.out W hW) (by omega) hm)
  obtain ⟨⟨M, E⟩, hME⟩ : ∃ q, moveM L dx dy = q := ⟨_, rfl⟩
  rw [hME] at HMV HRM hM
  dsimp only at HMV HRM hM
  have hEb : (E != 0) = true := by simpa using hM
  clear hME
  have HSA := Lib.hid (fun va vb W (h1 : IsFl W va M) (h2 : IsFl W vb M) => fsame_calls va vb M M W h1 h2)
  rw [decide_eq_true (rfl : M = M)] at HSA
  have d7 : decide ((70000 : Int) < (fcnt L : Int)) = false := decide_eq_false (by omega)
  have d5 : decide ((5000 : Int) < (L.length : Int)) = false := decide_eq_false (by omega)
  obtain ⟨pa, ca, rfl⟩ := hv.form
  generalize L.length = N at *
  generalize fcnt L = F at *
  clear hv hs hm hM
  go_enter Try.func6, Try.ntmps6
  go_wp2_with fail
  refine HC.out.mono ?_; rintro e w1 ⟨rfl, hk1⟩
  have HK1 := Lib.hid hk1
  clear hk1
  go_wp2_with fail
  refine (HMV.out _ HK1.out).mono ?_; rintro e w2 ⟨v2, rfl, hf2, hk2⟩
  have HK2 : Hid (Kp [] w w2) := HK1.out.trans hk2
  obtain ⟨p2, c2, rfl⟩ := hf2.form
  have HF2 : Hid (∀ W, Kp [] w2 W → IsFl W (.slice p2 M.length c2) _) := fun W hW => hf2.kp0 hW
  skip
  clear hk2 hf2 HK1
  go_wp2_with fail
  refine (HL.out _).mono ?_; rintro e w3 ⟨rfl, hk3⟩
  have HK23 : Hid (Kp [] w2 w3) := hk3
  clear hk3
  go_wp2_with fail
  refine (HM.out _ (HK2.out.trans HK23.out)).mono ?_; rintro e w4 ⟨rfl, hk4⟩
  have HK24 : Hid (Kp [] w2 w4) := HK23.out.trans hk4
  clear hk4
  go_wp2_with fail
  refine (HRM.out _ (HK2.out.trans HK24.out)).mono ?_; rintro e w5 ⟨v5, rfl, hf5, hk5⟩
  have HK25 : Hid (Kp [] w2 w5) := HK24.out.trans hk5
  obtain ⟨p5, c5, rfl⟩ := hf5.form
  have HF5 : Hid (∀ W, Kp [] w5 W → IsFl W _ _) := fun W hW => hf5.kp0 hW
  clear hk5 hf5 HK24 HK23
  go_wp2_with fail
  refine (HSA.out _ _ _ (HF2.out _ HK25.out) (HF5.out _ (Kp.refl _ _))).mono ?_; rintro e w6 ⟨rfl, hk6⟩
  have HK26 : Hid (Kp [] w2 w6) := HK25.out.trans hk6
  have HK56 : Hid (Kp [] w5 w6) := hk6
  clear hk6
  go_wp2_with fail
  refine (HSA.out _ _ _ (HF2.out _ HK26.out) (HF5.out _ HK56.out)).mono ?_; rintro e w7 ⟨rfl, hk7⟩
  go_wp2_with fail
  go_ret
  exact ⟨by simp, HK2.out.trans (HK26.out.trans hk7)⟩
set_option maxRecDepth 100000 in
set_option maxHeartbeats 8000000 in
theorem moves_ok (v : Value) (L : List (List (Int × Int))) (dx dy : Int) (w : World) (hv : IsFl w v L) (hs : smF L) (hl : L.length ≤ 5000) (hc : ¬ 70000 < fcnt L) (hm : mayF L = 0) (hM : (moveM L dx dy).2 = 0) :
    Calls Try.prog 6 #[v, .int .i64 dx, .int .i64 dy] w fun e w' => e = .returned (.bool true) ∧ Kp [] w w' := by
  have HL := Lib.hid (fun W => lives21_calls W)
  have HV : Hid (∀ W, Kp [] w W → IsFl W v L) := fun W hW => hv.kp0 hW
  have HC := Lib.hid (rfcount_few v L w hv hs hl)
  have HMV := Lib.hid (fun W hW => fmove_calls v L dx dy W (HV.out W hW) hs (by omega))
  have HM := Lib.hid (fun W hW => rflmay_calls v L W (HV.out W hW) hs hl)
  rw [hm] at HM
  rw [show moveF L dx dy = moveM L dx dy from by unfold moveF; rw [if_neg (by simp [hm])]] at HMV
  have HRM := Lib.hid (fun W hW => rfmove_calls v L dx dy W (HV.out W hW) (by omega) hm)
  have hMM := (move_ok hM).1
  have hmm := move_may hm hM
  have hsm := smF_mv dx dy hs
  have hlen : (movL dx dy L).length = L.length := by unfold movL; rw [List.length_map]
  have har := area_mv L dx dy L.length (Nat.le_refl _)
  rw [hMM] at HMV HRM
  dsimp only at HMV HRM
  have HRB := Lib.hid (fun W hW => rfbox_calls v L W (HV.out W hW) hm)
  have HRA := Lib.hid (fun W hW => rfarea_calls v L W (HV.out W hW) hm)
  have HAR := Lib.hid (fun W v2 (h : IsFl W v2 (movL dx dy L)) => farea_calls v2 _ W h hsm)
  have HBX := Lib.hid (fun W v2 (h : IsFl W v2 (movL dx dy L)) => fbox_calls v2 _ W h hsm)
  rw [show areaF (movL dx dy L) = (areaTo L L.length, 0) from by unfold areaF; rw [if_neg (by simp [hmm]), hlen, har]] at HAR
  rw [show (boxF (movL dx dy L)).2 = 0 from by rw [box_is hmm]] at HBX
  have hBM : (boxF L).1 = ⟨0, 0, 0, 0⟩ ∨ (dx.tmod 64 ≠ 0) ∨ (dx.tmod 64 = 0 ∧ dy.tmod 64 ≠ 0) ∨ ((boxF L).1 ≠ ⟨0, 0, 0, 0⟩ ∧ ∃ a c : Int, dx = 64 * a ∧ dy = 64 * c ∧ (boxF (movL dx dy L)).1 = movB (boxF L).1 a c ∧ (-32768 ≤ a ∧ a ≤ 32768) ∧ -32768 ≤ c ∧ c ≤ 32768) := by
    by_cases h0 : (boxF L).1 = ⟨0, 0, 0, 0⟩
    · exact .inl h0
    · by_cases h1 : dx.tmod 64 = 0
      · by_cases h2 : dy.tmod 64 = 0
        · obtain ⟨a, ha⟩ := Int.dvd_of_tmod_eq_zero h1
          obtain ⟨c, hc⟩ := Int.dvd_of_tmod_eq_zero h2
          have hn := move_near hm hM h0
          refine .inr (.inr (.inr ⟨h0, a, c, ha, hc, ?_, by omega, by omega⟩))
          subst ha hc
          exact box_mv hm hmm h0
        · exact .inr (.inr (.inl ⟨h1, h2⟩))
      · exact .inr (.inl h1)
  have hBF := boxF_facts hm
  obtain ⟨⟨b0, b1, b2, b3⟩, hb⟩ : ∃ q, (boxF L).1 = q := ⟨_, rfl⟩
  rw [hb] at HRB hBM hBF
  obtain ⟨⟨m0, m1, m2, m3⟩, hmb⟩ : ∃ q, (boxF (movL dx dy L)).1 = q := ⟨_, rfl⟩
  rw [hmb] at HBX hBM
  generalize areaTo L L.length = A at *
  generalize hMg : movL dx dy L = M at *
  rw [show bxV ⟨b0, b1, b2, b3⟩ = .agg #[.int .i64 b0, .int .i64 b1, .int .i64 b2, .int .i64 b3] from rfl] at HRB
  rw [show bxV ⟨m0, m1, m2, m3⟩ = .agg #[.int .i64 m0, .int .i64 m1, .int .i64 m2, .int .i64 m3] from rfl] at HBX
  clear hMM hmm hsm har hb hmb hMg hM
  have HSA := Lib.hid (fun va vb W (h1 : IsFl W va M) (h2 : IsFl W vb M) => fsame_calls va vb M M W h1 h2)
  rw [decide_eq_true (rfl : M = M)] at HSA
  have d7 : decide ((70000 : Int) < (fcnt L : Int)) = false := decide_eq_false (by omega)
  have d5 : decide ((5000 : Int) < (L.length : Int)) = false := decide_eq_false (by omega)
  obtain ⟨pa, ca, rfl⟩ := hv.form
  generalize L.length = N at *
  generalize fcnt L = F at *
  clear hv hs hm
  go_enter Try.func6, Try.ntmps6
  go_wp2_with fail
  refine HC.out.mono ?_; rintro e w1 ⟨rfl, hk1⟩
  have HK1 := Lib.hid hk1
  clear hk1
  go_wp2_with fail
  refine (HMV.out _ HK1.out).mono ?_; rintro e w2 ⟨v2, rfl, hf2, hk2⟩
  have HK2 : Hid (Kp [] w w2) := HK1.out.trans hk2
  obtain ⟨p2, c2, rfl⟩ := hf2.form
  have HF2 : Hid (∀ W, Kp [] w2 W → IsFl W (.slice p2 M.length c2) _) := fun W hW => hf2.kp0 hW
  rw [hlen] at HF2 ⊢
  clear hk2 hf2 HK1
  go_wp2_with fail
  refine (HL.out _).mono ?_; rintro e w3 ⟨rfl, hk3⟩
  have HK23 : Hid (Kp [] w2 w3) := hk3
  clear hk3
  go_wp2_with fail
  refine (HM.out _ (HK2.out.trans HK23.out)).mono ?_; rintro e w4 ⟨rfl, hk4⟩
  have HK24 : Hid (Kp [] w2 w4) := HK23.out.trans hk4
  clear hk4
  go_wp2_with fail
  refine (HRM.out _ (HK2.out.trans HK24.out)).mono ?_; rintro e w5 ⟨v5, rfl, hf5, hk5⟩
  have HK25 : Hid (Kp [] w2 w5) := HK24.out.trans hk5
  obtain ⟨p5, c5, rfl⟩ := hf5.form
  have HF5 : Hid (∀ W, Kp [] w5 W → IsFl W _ _) := fun W hW => hf5.kp0 hW
  rw [hlen] at HF5 ⊢
  clear hk5 hf5 HK24 HK23
  go_wp2_with fail
  refine (HSA.out _ _ _ (HF2.out _ HK25.out) (HF5.out _ (Kp.refl _ _))).mono ?_; rintro e w6 ⟨rfl, hk6⟩
  have HK26 : Hid (Kp [] w2 w6) := HK25.out.trans hk6
  have HK56 : Hid (Kp [] w5 w6) := hk6
  clear hk6
  go_wp2_with fail
  refine (HAR.out _ _ (HF2.out _ HK26.out)).mono ?_; rintro e w7 ⟨rfl, hk7⟩
  have HK27 : Hid (Kp [] w2 w7) := HK26.out.trans hk7
  clear hk7
  go_wp2_with fail
  refine (HBX.out _ _ (HF2.out _ HK27.out)).mono ?_; rintro e w8 ⟨rfl, hk8⟩
  have HK28 : Hid (Kp [] w2 w8) := HK27.out.trans hk8
  clear hk8
  go_upto_region 14 with fail
  refine wp_gen ?_; intro W8 hW8
  obtain ⟨D, hD⟩ : ∃ B, w8.heap.size = B := ⟨_, rfl⟩
  have HX : Hid (BxAt W8 D ⟨m0, m1, m2, m3⟩) := by show BxAt _ _ _; rw [hW8, ← hD]; exact heap_alloc_new _ _
  replace HK28 : Hid (Kp [] w2 W8) := by show Kp _ _ _; rw [hW8]; exact HK28.out.alloc _
  rw [hD]
  clear hW8 hD
  go_wp2_with fail
  refine (HRA.out _ (HK2.out.trans HK28.out)).mono ?_; rintro e w9 ⟨rfl, hk9⟩
  have HK29 : Hid (Kp [] w2 w9) := HK28.out.trans hk9
  replace HX : Hid (BxAt w9 D ⟨m0, m1, m2, m3⟩) := HX.out.kp hk9 (by simp)
  clear hk9
  go_wp2_with fail
  refine (HRB.out _ (HK2.out.trans HK29.out)).mono ?_; rintro e w10 ⟨rfl, hk10⟩
  have HKA : Hid (Kp [] w2 w10) := HK29.out.trans hk10
  replace HX : Hid (BxAt w10 D ⟨m0, m1, m2, m3⟩) := HX.out.kp hk10 (by simp)
  clear hk10
  go_upto_region 17 with fail
  refine wp_gen ?_; intro WA hWA
  obtain ⟨C, hC⟩ : ∃ B, w10.heap.size = B := ⟨_, rfl⟩
  have HY : Hid (BxAt WA C ⟨b0, b1, b2, b3⟩) := by show BxAt _ _ _; rw [hWA, ← hC]; exact heap_alloc_new _ _
  replace HX : Hid (BxAt WA D ⟨m0, m1, m2, m3⟩) := by show BxAt _ _ _; rw [hWA]; exact HX.out.kp (S := []) ((Kp.refl [] _).alloc _) (by simp)
  replace HKA : Hid (Kp [] w2 WA) := by show Kp _ _ _; rw [hWA]; exact HKA.out.alloc _
  rw [hC]
  clear hWA hC HK28 HK29 HK27 HK26 HK56 HK25
  have HKF : Hid (Kp [] w WA) := HK2.out.trans HKA.out
  rcases hBM with h | h | ⟨h1, h⟩ | ⟨hn, a, c, rfl, rfl, hmv, ha, hc⟩
  · simp only [Bx.mk.injEq] at h
    obtain ⟨rfl, rfl, rfl, rfl⟩ := h
    obtain ⟨y0, y1, y2, y3⟩ := HY.out.cells
    cases h1 : decide (dx.tmod 64 = 0)
    · have e1 : (dx.tmod 64 != 0) = true := by simpa using h1
      go_wp2_with fail
      go_ret
      exact ⟨by simp, HKF.out⟩
    · have e1 : (dx.tmod 64 != 0) = false := by simpa using h1
      cases h2 : decide (dy.tmod 64 = 0)
      · have e2 : (dy.tmod 64 != 0) = true := by simpa using h2
        go_wp2_with fail
        go_ret
        exact ⟨by simp, HKF.out⟩
      · have e2 : (dy.tmod 64 != 0) = false := by simpa using h2
        go_wp2_with fail
        go_ret
        exact ⟨by simp, HKF.out⟩
  · have e1 : (dx.tmod 64 != 0) = true := by simpa using h
    go_wp2_with fail
    go_ret
    exact ⟨by simp, HKF.out⟩
  · have e1 : (dx.tmod 64 != 0) = false := by simpa using h1
    have e2 : (dy.tmod 64 != 0) = true := by simpa using h
    go_wp2_with fail
    go_ret
    exact ⟨by simp, HKF.out⟩
  · have e1 : (Int.tmod (64 * a) 64 != 0) = false := by
      have h9 : Int.tmod (64 * a) 64 = 0 := Int.mul_tmod_right 64 a
      rw [h9]; rfl
    have e2 : (Int.tmod (64 * c) 64 != 0) = false := by
      have h9 : Int.tmod (64 * c) 64 = 0 := Int.mul_tmod_right 64 c
      rw [h9]; rfl
    have e3 := tdiv64 a
    have e4 := tdiv64 c
    simp only [movB, Bx.mk.injEq] at hmv
    obtain ⟨rfl, rfl, rfl, rfl⟩ := hmv
    obtain ⟨y0, y1, y2, y3⟩ := HY.out.cells
    obtain ⟨x0, x1, x2, x3⟩ := HX.out.cells
    obtain ⟨⟨l0, l1⟩, ⟨l2, l3⟩, ⟨l4, l5⟩, l6, l7⟩ := hBF
    have w1 : IntKind.i64.wrap (b0 + a) = b0 + a := wrI _ (by omega) (by omega)
    have w2 : IntKind.i64.wrap (b1 + c) = b1 + c := wrI _ (by omega) (by omega)
    have w3 : IntKind.i64.wrap (b2 + a) = b2 + a := wrI _ (by omega) (by omega)
    have w4 : IntKind.i64.wrap (b3 + c) = b3 + c := wrI _ (by omega) (by omega)
    have w5 : IntKind.i64.wrap a = a := wrI _ (by omega) (by omega)
    have w6 : IntKind.i64.wrap c = c := wrI _ (by omega) (by omega)
    clear hn ha hc l0 l1 l2 l3 l4 l5 l6 l7
    go_upto_region 19 with fail
    all_goals
      go_wp2_with fail
      go_ret
      exact ⟨by simp, HKF.out⟩
theorem law_FlattenMoves (v : Value) (L : List (List (Int × Int))) (dx dy : Int) (w : World) (hv : IsFl w v L) (hs : smF L) : Calls Try.prog 6 #[v, .int .i64 dx, .int .i64 dy] w fun e w' => e = .returned (.bool true) ∧ Kp [] w w' := by
  by_cases h5 : 5000 < L.length
  · exact moves_large v L dx dy w hv hs (.inl h5)
  · by_cases h7 : 70000 < fcnt L
    · exact moves_large v L dx dy w hv hs (.inr ⟨by omega, h7⟩)
    · by_cases hm : mayF L = 0
      · by_cases hM : (moveM L dx dy).2 = 0
        · exact moves_ok v L dx dy w hv hs (by omega) h7 hm hM
        · exact moves_bad v L dx dy w hv hs (by omega) h7 hm hM
      · exact moves_no v L dx dy w hv hs (by omega) h7 _ rfl hm
end Go.Proofs.Ytpbmefojhgcniaa

/- flatten: the law FlattenPhases. -/
import Derived.Test.YtpbmefojhgcniaaFlLb
import Derived.Deep.DeepCutAuto
namespace Go.Proofs.Ytpbmefojhgcniaa
open Go.RowKit
set_option linter.unusedVariables false
set_option linter.unusedSimpArgs false
theorem flat_len (s : Sc) (o : List (List Pn)) : (flatM s o).1.length ≤ o.length := by
  unfold flatM
  split
  · simp
  · split
    · simp
    · split
      · simp
      · split
        · simp
        · simp
/-- Behind both loops. -/
def OnTo (o : List (List Pn)) (j : Nat) : Prop := ∀ i, i < j → ∀ k, k < (o.getD i []).length → ((o.getD i []).getD k pn0).k = 1
theorem OnTo.all {o : List (List Pn)} (h : OnTo o o.length) : ∀ c ∈ o, ∀ p ∈ c, p.k = 1 := by
  intro c hc p hp
  obtain ⟨i, hi, rfl⟩ := List.mem_iff_getElem.1 hc
  obtain ⟨k, hk, rfl⟩ := List.mem_iff_getElem.1 hp
  have h1 := h i hi
  rw [List.getD_eq_getElem?_getD, List.getElem?_eq_getElem hi] at h1
  have h2 := h1 k hk
  rw [List.getD_eq_getElem?_getD] at h2
  simp only [Option.getD_some, List.getElem?_eq_getElem hk] at h2
  exact h2
set_option maxRecDepth 100000 in
set_option maxHeartbeats 8000000 in
theorem phases_out (s : Sc) (v : Value) (o : List (List Pn)) (w : World) (hv : IsOut w v o) (hb : ∀ j, j < o.length → (o.getD j []).length ≤ 1125899906842624) (h : largeB o = true ∨ (largeB o = false ∧ mayS s = false)) :
    Calls Try.prog 7 #[scV s, v] w fun e w' => e = .returned (.bool true) ∧ Kp [] w w' := by
  have HL := Lib.hid (fun W => lives21_calls W)
  have HLA := Lib.hid (fun W (hk : Kp [] w W) => flarge_calls v o W (hv.kp0 hk) hb)
  have HM := Lib.hid (fun W => rmayscale_calls s W)
  obtain ⟨pa, ca, rfl⟩ := hv.form
  clear hv hb
  unfold scV at *
  generalize o.length = N at *
  rcases h with h | ⟨h, h2⟩
  · rw [h] at HLA
    go_enter Try.func7, Try.ntmps7
    go_wp2_with fail
    refine (HLA.out _ (by (repeat (first | exact Kp.refl _ _ | assumption | refine Kp.drew ?_ | refine Kp.drewN ?_ _ | refine Kp.alloc ?_ _ | (refine Kp.setCell ?_ (by first | (left; simp; done) | (right; simp; try omega)) _) | (refine Kp.trans' ?_ (by assumption) (by simp; try omega)))))).mono ?_; rintro e w1 ⟨rfl, hw1⟩
    subst hw1
    go_wp2_with fail
    refine (HL.out _).mono ?_; rintro e w2 ⟨rfl, hk2⟩
    go_wp2_with fail
    go_ret
    exact ⟨rfl, Kp.trans (by (repeat (first | exact Kp.refl _ _ | assumption | refine Kp.drew ?_ | refine Kp.drewN ?_ _ | refine Kp.alloc ?_ _ | (refine Kp.setCell ?_ (by first | (left; simp; done) | (right; simp; try omega)) _) | (refine Kp.trans' ?_ (by assumption) (by simp; try omega))))) hk2⟩
  · rw [h] at HLA
    rw [h2] at HM
    go_enter Try.func7, Try.ntmps7
    go_wp2_with fail
    refine (HLA.out _ (by (repeat (first | exact Kp.refl _ _ | assumption | refine Kp.drew ?_ | refine Kp.drewN ?_ _ | refine Kp.alloc ?_ _ | (refine Kp.setCell ?_ (by first | (left; simp; done) | (right; simp; try omega)) _) | (refine Kp.trans' ?_ (by assumption) (by simp; try omega)))))).mono ?_; rintro e w1 ⟨rfl, hw1⟩
    subst hw1
    go_wp2_with fail
    refine (HM.out _).mono ?_; rintro e w2 ⟨rfl, hk2⟩
    go_wp2_with fail
    refine (HL.out _).mono ?_; rintro e w3 ⟨rfl, hk3⟩
    go_wp2_with fail
    go_ret
    exact ⟨rfl, Kp.trans (by (repeat (first | exact Kp.refl _ _ | assumption | refine Kp.drew ?_ | refine Kp.drewN ?_ _ | refine Kp.alloc ?_ _ | (refine Kp.setCell ?_ (by first | (left; simp; done) | (right; simp; try omega)) _) | (refine Kp.trans' ?_ (by assumption) (by simp; try omega))))) (hk2.trans hk3)⟩
set_option maxRecDepth 100000 in
set_option maxHeartbeats 8000000 in
theorem phases_in (s : Sc) (v : Value) (o : List (List Pn)) (w : World) (hv : IsOut w v o) (hb : ∀ j, j < o.length → (o.getD j []).length ≤ 1125899906842624) (hl : largeB o = false) (hs : mayS s = true) :
    Calls Try.prog 7 #[scV s, v] w fun e w' => e = .returned (.bool true) ∧ Kp [] w w' := by
  have HL := Lib.hid (fun W => lives21_calls W)
  have HLA := Lib.hid (fun W (hk : Kp [] w W) => flarge_calls v o W (hv.kp0 hk) hb)
  have HM := Lib.hid (fun W => rmayscale_calls s W)
  obtain ⟨n3, n5⟩ := not_large hl
  have hsm : smallO o := fun j hj => by have := len_le_cnt o hj; omega
  have HF := Lib.hid (fun (t : Sc) W (hk : Kp [] w W) => fflat_calls t v o W (hv.kp0 hk) hsm (by omega))
  have HV : Hid (∀ W, Kp [] w W → IsOut W v o) := fun W hW => hv.kp0 hW
  have HLN : Hid (∀ j, j < o.length → (o.getD j []).length ≤ 5000) := fun j hj => by have := len_le_cnt o hj; omega
  have HPM : Hid (OnTo o o.length → (flatM s o).2 = 0 → (flatM (noPh s) o).2 = 0 → moveM (flatM (noPh s) o).1 s.fx s.fy = ((flatM s o).1, 0)) := fun h1 h2 h3 => phase_move h1.all h2 h3
  have HMY : Hid ((flatM (noPh s) o).2 = 0 → mayF (flatM (noPh s) o).1 = 0) := flat_may
  have hfl := flat_len (noPh s) o
  rw [hl] at HLA
  rw [hs] at HM
  obtain ⟨pa, ca, rfl⟩ := hv.form
  have HFS := Lib.hid (HF.out s)
  have HFZ := Lib.hid (HF.out (noPh s))
  have HSV : Hid (scV (noPh s) = .agg #[.int .i64 s.u, .int .i64 s.p, .int .i64 0, .int .i64 0]) := rfl
  clear hv hb hl hs hsm n5 HF
  obtain ⟨⟨Y, E2⟩, hY⟩ : ∃ q, flatM (noPh s) o = q := ⟨_, rfl⟩
  obtain ⟨⟨X, E1⟩, hX⟩ : ∃ q, flatM s o = q := ⟨_, rfl⟩
  rw [hY] at HPM HMY HFZ hfl
  rw [hX] at HPM HFS
  dsimp only at HPM HMY HFZ HFS hfl
  clear hX hY
  have HRM := Lib.hid (fun (hm : mayF Y = 0) (v2 : Value) W (h : IsFl W v2 Y) => rfmove_calls v2 Y s.fx s.fy W h (by omega) hm)
  have HSA := Lib.hid (fun va vb W (h1 : IsFl W va X) (h2 : IsFl W vb X) => fsame_calls va vb X X W h1 h2)
  rw [decide_eq_true (rfl : X = X)] at HSA
  rw [HSV.out] at HFZ
  obtain ⟨N, hN⟩ : ∃ N, o.length = N := ⟨_, rfl⟩
  have HN := Lib.hid hN
  rw [hN] at HLA HV HLN HPM HFS HFZ n3 ⊢
  clear hN hfl
  unfold scV at *
  go_enter Try.func7, Try.ntmps7
  go_wp2_with fail
  refine (HLA.out _ (by (repeat (first | exact Kp.refl _ _ | assumption | refine Kp.drew ?_ | refine Kp.drewN ?_ _ | refine Kp.alloc ?_ _ | (refine Kp.setCell ?_ (by first | (left; simp; done) | (right; simp; try omega)) _) | (refine Kp.trans' ?_ (by assumption) (by simp; try omega)))))).mono ?_; rintro e w1 ⟨rfl, hw1⟩
  subst hw1
  have hq := heap_alloc_new w (.cells #[.int .i64 s.u, .int .i64 s.p, .int .i64 s.fx, .int .i64 s.fy] 23)
  have hkw : Kp [] w (w.alloc (.cells #[.int .i64 s.u, .int .i64 s.p, .int .i64 s.fx, .int .i64 s.fy] 23)) := by (repeat (first | exact Kp.refl _ _ | assumption | refine Kp.drew ?_ | refine Kp.drewN ?_ _ | refine Kp.alloc ?_ _ | (refine Kp.setCell ?_ (by first | (left; simp; done) | (right; simp; try omega)) _) | (refine Kp.trans' ?_ (by assumption) (by simp; try omega))))
  generalize w.alloc (.cells #[.int .i64 s.u, .int .i64 s.p, .int .i64 s.fx, .int .i64 s.fy] 23) = W0 at *
  have HS : Hid (ScAt W0 w.heap.size s) := hq
  have HK : Hid (Kp [] w W0) := hkw
  clear hq hkw
  obtain ⟨s0, s1, s2, s3⟩ := HS.out.cells
  go_wp2_with fail
  refine (HM.out _).mono ?_; rintro e w2 ⟨rfl, hk2⟩
  clear s0 s1 s2 s3
  replace HS : Hid (ScAt w2 w.heap.size s) := HS.out.kp0 hk2
  replace HK : Hid (Kp [] w w2) := HK.out.trans hk2
  have HV2 := Lib.hid (HV.out _ HK.out)
  clear hk2 HLA HM
  go_wp2_with fail
  go_loopw [5, 6] (fun i _ wr => ∃ j : Nat, j ≤ N ∧ i = .int .i64 j ∧ w2 = wr ∧ Hid (OnTo o j)) (fun i _ _ => N - (intOf i).toNat)
  case atStart => exact ⟨0, by omega, rfl, rfl, fun i hi => absurd hi (by omega)⟩
  case round =>
    obtain ⟨j, hj, rfl, rfl, HO⟩ := hrel
    by_cases hlt : j < N
    · obtain ⟨g1, o1, c1, p1, cv, e1, _, _, h1, hp⟩ := HV2.out.row (i := j) (by rw [HN.out]; exact hlt)
      rw [HN.out] at e1
      cases e1
      have HP := Lib.hid hp
      have hLL := HLN.out j hlt
      have HON : Hid ((∀ k, k < (o.getD j []).length → ((o.getD j []).getD k pn0).k = 1) → OnTo o (j + 1)) := fun h i hi => by
        by_cases e : i = j
        · subst e; exact h
        · exact HO.out i (by omega)
      generalize o.getD j [] = c at *
      obtain ⟨L, hL⟩ : ∃ L, c.length = L := ⟨_, rfl⟩
      have HLE := Lib.hid hL
      rw [hL] at h1 HP HON hLL
      clear hp hL
      go_wp2_with fail
      go_loopw [6] (fun k wr => ∃ m : Nat, m ≤ L ∧ k = .int .i64 m ∧ w2 = wr ∧ Hid (∀ t, t < m → (c.getD t pn0).k = 1)) (fun k _ => L - (intOf k).toNat)
      case atStart => exact ⟨0, by omega, rfl, by first | rfl | assumption, fun t ht => absurd ht (by omega)⟩
      case round =>
        obtain ⟨m, hm, rfl, rfl, HT⟩ := hrel
        by_cases hml : m < L
        · obtain ⟨g2, o2, c2, e2, _, _, x0, y0, z0⟩ := HP.out.row (i := m) (by rw [HLE.out]; exact hml)
          rw [HLE.out] at e2
          cases e2
          clear x0 y0
          have HNX : Hid ((c.getD m pn0).k = 1 → ∀ t, t < m + 1 → (c.getD t pn0).k = 1) := fun h t ht => by
            by_cases e : t = m
            · subst e; exact h
            · exact HT.out t (by omega)
          generalize (c.getD m pn0).k = K at *
          by_cases hk : K = 1
          · subst hk
            have HQ := Lib.hid (HNX.out rfl)
            go_wp2_with fail
            go_roundw
            case rel => first | exact ⟨m + 1, by omega, int_eq' (by omega), by first | rfl | trivial, HQ⟩ | ((repeat apply Exists.intro); exact ⟨⟨m + 1, by omega, int_eq' (by omega), by first | rfl | trivial, HQ⟩, rfl⟩)
            case measure => simp [intOf] <;> omega
          · have hkb : (K != 1) = true := by simpa using hk
            clear HNX
            go_wp2_with fail
            refine (HL.out _).mono ?_; rintro e w3 ⟨rfl, hk3⟩
            go_wp2_with fail
            go_ret
            exact ⟨rfl, HK.out.trans hk3⟩
        · obtain rfl : m = L := by omega
          have HQ := Lib.hid (HON.out HT.out)
          go_wp2_with fail
          go_roundw
          case rel => first | exact ⟨j + 1, by omega, int_eq' (by omega), by first | rfl | trivial, HQ⟩ | ((repeat apply Exists.intro); exact ⟨⟨j + 1, by omega, int_eq' (by omega), by first | rfl | trivial, HQ⟩, rfl⟩)
          case measure => simp [intOf] <;> omega
    · obtain rfl : j = N := by omega
      have HPX := Lib.hid (HPM.out HO.out)
      clear HPM
      obtain ⟨s0, s1, s2, s3⟩ := HS.out.cells
      go_upto_region 12 with fail
      refine wp_gen ?_; intro W1 hW1
      clear s0 s1 s2 s3
      obtain ⟨Z, hZ⟩ : ∃ B, w2.heap.size = B := ⟨_, rfl⟩
      have hka : Kp [] w2 W1 := by rw [hW1]; exact (Kp.refl _ _).alloc _
      have HZ : Hid (ScAt W1 Z s) := by show ScAt _ _ _; rw [hW1, ← hZ]; exact heap_alloc_new _ _
      have hSZ : w.heap.size < Z := by rw [← hZ]; exact lt_of_block HS.out
      replace HS : Hid (ScAt W1 w.heap.size s) := HS.out.kp0 hka
      replace HK : Hid (Kp [] w W1) := HK.out.trans hka
      rw [hZ]
      clear hW1 hZ hka HV2
      obtain ⟨z0, z1, z2, z3⟩ := HZ.out.cells
      have f2 := frozen_of_row W1 Z 2 _ _ HZ.out
      have f3 := frozen_of_row W1 Z 3 _ _ HZ.out
      go_upto_region 13 with fail
      refine wp_gen ?_; intro W2 hW2
      clear z0 z1 z2 z3 f2 f3
      replace HZ : Hid (ScAt W2 Z (noPh s)) := by
        show ScAt _ _ _
        rw [hW2]
        have h1 := heap_setCell_same W1 Z 2 _ _ (.int .i64 0) HZ.out
        have h2 := heap_setCell_same _ Z 3 _ _ (.int .i64 0) h1
        simpa [ScAt, noPh] using h2
      replace HS : Hid (ScAt W2 w.heap.size s) := by
        show ScAt _ _ _
        rw [hW2]
        unfold ScAt
        rw [heap_setCell_other _ _ _ _ (by show w.heap.size ≠ Z; omega), heap_setCell_other _ _ _ _ (by show w.heap.size ≠ Z; omega)]
        exact HS.out
      replace HK : Hid (Kp [] w W2) := by
        show Kp _ _ _
        rw [hW2]
        exact (HK.out.setCell (.inr (by show _ ≤ Z; omega)) _).setCell (.inr (by show _ ≤ Z; omega)) _
      clear hW2
      obtain ⟨s0, s1, s2, s3⟩ := HS.out.cells
      go_wp2_with fail
      refine (HFS.out _ HK.out).mono ?_; rintro e w3 ⟨v3, rfl, hf3, hk3⟩
      clear s0 s1 s2 s3
      replace HZ : Hid (ScAt w3 Z (noPh s)) := HZ.out.kp0 hk3
      replace HS : Hid (ScAt w3 w.heap.size s) := HS.out.kp0 hk3
      replace HK : Hid (Kp [] w w3) := HK.out.trans hk3
      have HF3 : Hid (∀ W, Kp [] w3 W → IsFl W v3 X) := fun W hW => hf3.kp0 hW
      clear hf3 hk3
      obtain ⟨z0, z1, z2, z3⟩ := HZ.out.cells
      go_wp2_with fail
      refine (HFZ.out _ HK.out).mono ?_; rintro e w4 ⟨v4, rfl, hf4, hk4⟩
      clear z0 z1 z2 z3 HZ
      replace HS : Hid (ScAt w4 w.heap.size s) := HS.out.kp0 hk4
      replace HK : Hid (Kp [] w w4) := HK.out.trans hk4
      have HK34 : Hid (Kp [] w3 w4) := hk4
      have HF4 : Hid (∀ W, Kp [] w4 W → IsFl W v4 Y) := fun W hW => hf4.kp0 hW
      clear hf4 hk4
      go_wp2_with fail
      refine (HL.out _).mono ?_; rintro e w5 ⟨rfl, hk5⟩
      replace HS : Hid (ScAt w5 w.heap.size s) := HS.out.kp0 hk5
      replace HK : Hid (Kp [] w w5) := HK.out.trans hk5
      have HK45 : Hid (Kp [] w4 w5) := hk5
      clear hk5
      have hcases : (E1 != 0) = true ∨ (E1 = 0 ∧ (E2 != 0) = true) ∨ (E1 = 0 ∧ E2 = 0) := by
        by_cases h1 : E1 = 0
        · by_cases h2 : E2 = 0
          · exact .inr (.inr ⟨h1, h2⟩)
          · exact .inr (.inl ⟨h1, by simpa using h2⟩)
        · exact .inl (by simpa using h1)
      rcases hcases with h | ⟨rfl, h⟩ | ⟨rfl, rfl⟩
      · go_wp2_with fail
        refine (HL.out _).mono ?_; rintro e w6 ⟨rfl, hk6⟩
        go_wp2_with fail
        go_ret
        exact ⟨rfl, HK.out.trans hk6⟩
      · go_wp2_with fail
        refine (HL.out _).mono ?_; rintro e w6 ⟨rfl, hk6⟩
        go_wp2_with fail
        go_ret
        exact ⟨rfl, HK.out.trans hk6⟩
      · have HRX := Lib.hid (HRM.out (HMY.out rfl))
        have hpx := HPX.out rfl rfl
        rw [hpx] at HRX
        dsimp only at HRX
        clear hpx HPX HRM HMY
        obtain ⟨s0, s1, s2, s3⟩ := HS.out.cells
        go_wp2_with fail
        refine (HRX.out _ _ (HF4.out _ HK45.out)).mono ?_; rintro e w6 ⟨v6, rfl, hf6, hk6⟩
        have HK6 : Hid (Kp [] w w6) := HK.out.trans hk6
        have HK36 : Hid (Kp [] w3 w6) := HK34.out.trans (HK45.out.trans hk6)
        have HF6 := Lib.hid hf6
        clear hf6 hk6 s0 s1 s2 s3
        go_wp2_with fail
        refine (HSA.out _ _ _ (HF3.out _ HK36.out) HF6.out).mono ?_; rintro e w7 ⟨rfl, hk7⟩
        go_wp2_with fail
        go_ret
        exact ⟨by simp, HK6.out.trans hk7⟩
theorem law_FlattenPhases (s : Sc) (v : Value) (o : List (List Pn)) (w : World) (hv : IsOut w v o) (hb : ∀ j, j < o.length → (o.getD j []).length ≤ 1125899906842624) :
    Calls Try.prog 7 #[scV s, v] w fun e w' => e = .returned (.bool true) ∧ Kp [] w w' := by
  cases h : largeB o with
  | true => exact phases_out s v o w hv hb (.inl h)
  | false =>
    cases hs : mayS s with
    | false => exact phases_out s v o w hv hb (.inr ⟨h, hs⟩)
    | true => exact phases_in s v o w hv hb h hs
end Go.Proofs.Ytpbmefojhgcniaa

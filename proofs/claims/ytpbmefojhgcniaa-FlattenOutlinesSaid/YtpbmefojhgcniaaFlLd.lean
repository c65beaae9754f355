/- flatten: the law FlattenOutlines. -/
import Derived.Test.YtpbmefojhgcniaaFlLc
import Derived.Test.YtpbmefojhgcniaaFlZb
import Derived.Deep.DeepCutAuto
namespace Go.Proofs.Ytpbmefojhgcniaa
open Go.RowKit
set_option linter.unusedVariables false
set_option linter.unusedSimpArgs false
set_option maxRecDepth 100000 in
set_option maxHeartbeats 8000000 in
theorem outlines_large (s : Sc) (v : Value) (o : List (List Pn)) (w : World) (hv : IsOut w v o) (hb : ∀ j, j < o.length → (o.getD j []).length ≤ 1125899906842624) (h : largeB o = true) :
    Calls Try.prog 4 #[scV s, v] w fun e w' => e = .returned (.bool true) ∧ Kp [] w w' := by
  have HL := Lib.hid (fun W => lives21_calls W)
  have HLA := Lib.hid (fun W (hk : Kp [] w W) => flarge_calls v o W (hv.kp0 hk) hb)
  obtain ⟨pa, ca, rfl⟩ := hv.form
  clear hv hb
  unfold scV at *
  generalize o.length = N at *
  rw [h] at HLA
  go_enter Try.func4, Try.ntmps4
  go_wp2_with fail
  refine (HLA.out _ (by (repeat (first | exact Kp.refl _ _ | assumption | refine Kp.drew ?_ | refine Kp.drewN ?_ _ | refine Kp.alloc ?_ _ | (refine Kp.setCell ?_ (by first | (left; simp; done) | (right; simp; try omega)) _) | (refine Kp.trans' ?_ (by assumption) (by simp; try omega)))))).mono ?_; rintro e w1 ⟨rfl, hw1⟩
  subst hw1
  go_wp2_with fail
  refine (HL.out _).mono ?_; rintro e w2 ⟨rfl, hk2⟩
  go_wp2_with fail
  go_ret
  exact ⟨rfl, Kp.trans (by (repeat (first | exact Kp.refl _ _ | assumption | refine Kp.drew ?_ | refine Kp.drewN ?_ _ | refine Kp.alloc ?_ _ | (refine Kp.setCell ?_ (by first | (left; simp; done) | (right; simp; try omega)) _) | (refine Kp.trans' ?_ (by assumption) (by simp; try omega))))) hk2⟩
set_option maxRecDepth 100000 in
set_option maxHeartbeats 8000000 in
theorem outlines_in (s : Sc) (v : Value) (o : List (List Pn)) (w : World) (hv : IsOut w v o) (hb : ∀ j, j < o.length → (o.getD j []).length ≤ 1125899906842624) (hl : largeB o = false) :
    Calls Try.prog 4 #[scV s, v] w fun e w' => e = .returned (.bool true) ∧ Kp [] w w' := by
  have HL := Lib.hid (fun W => lives21_calls W)
  have HLA := Lib.hid (fun W (hk : Kp [] w W) => flarge_calls v o W (hv.kp0 hk) hb)
  have HM := Lib.hid (fun W => rmayscale_calls s W)
  obtain ⟨n3, n5⟩ := not_large hl
  have hsm : smallO o := fun j hj => by have := len_le_cnt o hj; omega
  have hti : tinyO o := fun j hj => by have := len_le_cnt o hj; omega
  have HF := Lib.hid (fun W (hk : Kp [] w W) => fflat_calls s v o W (hv.kp0 hk) hsm (by omega))
  have HCK := Lib.hid (fun W (hk : Kp [] w W) => rcheck_calls v o W (hv.kp0 hk) hti (by omega))
  have HRF := Lib.hid (fun (hs : mayS s = true) (hE : checkO o = 0) W (hk : Kp [] w W) => rflat_calls s v o W (hv.kp0 hk) hs hE)
  have HE1 : Hid (mayS s = false → flatM s o = ([], 210)) := fun h => by unfold flatM; rw [if_pos h]
  have HE2 : Hid (mayS s = true → checkO o ≠ 0 → flatM s o = ([], checkO o)) := fun h h2 => by unfold flatM; rw [if_neg (by simp [h]), if_pos h2]
  have HMY : Hid ((flatM s o).2 = 0 → mayF (flatM s o).1 = 0) := flat_may
  have hSM : smF (flatM s o).1 := by
    by_cases h0 : (flatM s o).2 = 0
    · intro j hj
      obtain ⟨_, h2, _, h4⟩ := flat_parts h0
      rw [h4] at hj ⊢
      have hj2 : j < o.length := by simpa using hj
      have h5 := flatC_len s h2 hj2
      show ((o.map (flatC s)).getD j []).length ≤ _
      rw [List.getD_eq_getElem?_getD, List.getElem?_map, List.getElem?_eq_getElem hj2]
      rw [List.getD_eq_getElem?_getD, List.getElem?_eq_getElem hj2] at h5
      show (flatC s o[j]).length ≤ _
      have h6 : (flatC s o[j]).length ≤ 2097408 := h5
      omega
    · have hz : (flatM s o).1 = [] := by
        unfold flatM at h0 ⊢
        split
        · rfl
        · split
          · rfl
          · split
            · rfl
            · split
              · rfl
              · rename_i h1 h2 h3 h4
                rw [if_neg h1, if_neg h2, if_neg h3, if_neg h4] at h0
                exact absurd rfl h0
      rw [hz]
      intro j hj
      simp at hj
  rw [hl] at HLA
  obtain ⟨pa, ca, rfl⟩ := hv.form
  obtain ⟨⟨X, E⟩, hX⟩ : ∃ q, flatM s o = q := ⟨_, rfl⟩
  rw [hX] at HF HRF HE1 HE2 HMY hSM
  dsimp only at HF HRF HMY hSM
  have HSA := Lib.hid (fun va vb W (h1 : IsFl W va X) (h2 : IsFl W vb X) => fsame_calls va vb X X W h1 h2)
  rw [decide_eq_true (rfl : X = X)] at HSA
  have HFM := Lib.hid (fun v2 W (h : IsFl W v2 X) => fmay_flat v2 X W h hSM)
  clear hv hb hl hsm hti n5 hX hSM
  generalize o.length = N at *
  generalize checkO o = CE at *
  obtain ⟨MS, hMS⟩ : ∃ MS, mayS s = MS := ⟨_, rfl⟩
  rw [hMS] at HM HRF HE1 HE2
  clear hMS
  unfold scV at *
  go_enter Try.func4, Try.ntmps4
  go_wp2_with fail
  refine (HLA.out _ (by (repeat (first | exact Kp.refl _ _ | assumption | refine Kp.drew ?_ | refine Kp.drewN ?_ _ | refine Kp.alloc ?_ _ | (refine Kp.setCell ?_ (by first | (left; simp; done) | (right; simp; try omega)) _) | (refine Kp.trans' ?_ (by assumption) (by simp; try omega)))))).mono ?_; rintro e w1 ⟨rfl, hw1⟩
  subst hw1
  have hq := heap_alloc_new w (.cells #[.int .i64 s.u, .int .i64 s.p, .int .i64 s.fx, .int .i64 s.fy] 23)
  have hkw : Kp [] w (w.alloc (.cells #[.int .i64 s.u, .int .i64 s.p, .int .i64 s.fx, .int .i64 s.fy] 23)) := by (repeat (first | exact Kp.refl _ _ | assumption | refine Kp.drew ?_ | refine Kp.drewN ?_ _ | refine Kp.alloc ?_ _ | (refine Kp.setCell ?_ (by first | (left; simp; done) | (right; simp; try omega)) _) | (refine Kp.trans' ?_ (by assumption) (by simp; try omega))))
  generalize w.alloc (.cells #[.int .i64 s.u, .int .i64 s.p, .int .i64 s.fx, .int .i64 s.fy] 23) = W0 at *
  have HS : Hid (ScAt W0 w.heap.size s) := hq
  have HK : Hid (Kp [] w W0) := hkw
  clear hq hkw
  obtain ⟨s0, s1, s2, s3⟩ := HS.out.cells
  go_wp2_with fail
  refine (HF.out _ HK.out).mono ?_; rintro e w2 ⟨v2, rfl, hf2, hk2⟩
  obtain ⟨p2, c2, rfl⟩ := hf2.form
  clear s0 s1 s2 s3
  replace HS : Hid (ScAt w2 w.heap.size s) := HS.out.kp0 hk2
  replace HK : Hid (Kp [] w w2) := HK.out.trans hk2
  have HF2 : Hid (∀ W, Kp [] w2 W → IsFl W (.slice p2 X.length c2) X) := fun W hW => hf2.kp0 hW
  clear hk2 hf2 HLA
  go_wp2_with fail
  refine (HL.out _).mono ?_; rintro e w3 ⟨rfl, hk3⟩
  replace HS : Hid (ScAt w3 w.heap.size s) := HS.out.kp0 hk3
  replace HK : Hid (Kp [] w w3) := HK.out.trans hk3
  have HK23 : Hid (Kp [] w2 w3) := hk3
  clear hk3
  obtain ⟨s0, s1, s2, s3⟩ := HS.out.cells
  go_wp2_with fail
  refine (HM.out _).mono ?_; rintro e w4 ⟨rfl, hk4⟩
  clear s0 s1 s2 s3
  replace HS : Hid (ScAt w4 w.heap.size s) := HS.out.kp0 hk4
  replace HK : Hid (Kp [] w w4) := HK.out.trans hk4
  have HK24 : Hid (Kp [] w2 w4) := HK23.out.trans hk4
  clear hk4 HK23
  cases MS with
  | false =>
    have h := HE1.out (by first | rfl | trivial)
    simp only [Prod.mk.injEq] at h
    obtain ⟨rfl, rfl⟩ := h
    go_wp2_with fail
    go_ret
    exact ⟨by simp, HK.out⟩
  | true =>
    go_wp2_with fail
    refine (HCK.out _ HK.out).mono ?_; rintro e w5 ⟨rfl, hk5⟩
    replace HS : Hid (ScAt w5 w.heap.size s) := HS.out.kp0 hk5
    replace HK : Hid (Kp [] w w5) := HK.out.trans hk5
    have HK25 : Hid (Kp [] w2 w5) := HK24.out.trans hk5
    clear hk5 HK24
    by_cases hC : CE = 0
    · subst hC
      have HRX := Lib.hid (HRF.out (by first | rfl | trivial) (by first | rfl | trivial))
      clear HRF HE1 HE2
      obtain ⟨s0, s1, s2, s3⟩ := HS.out.cells
      go_wp2_with fail
      refine (HRX.out _ HK.out).mono ?_; rintro e w6 ⟨v6, rfl, hf6, hk6⟩
      replace HK : Hid (Kp [] w w6) := HK.out.trans hk6
      have HK26 : Hid (Kp [] w2 w6) := HK25.out.trans hk6
      have HF6 := Lib.hid hf6
      clear hk6 hf6 s0 s1 s2 s3 HK25
      go_wp2_with fail
      refine (HSA.out _ _ _ (HF2.out _ HK26.out) HF6.out).mono ?_; rintro e w7 ⟨rfl, hk7⟩
      replace HK : Hid (Kp [] w w7) := HK.out.trans hk7
      have HK27 : Hid (Kp [] w2 w7) := HK26.out.trans hk7
      clear hk7
      by_cases hE : E = 0
      · subst hE
        have HFX := Lib.hid (HFM.out _ _ (HF2.out _ HK27.out))
        rw [HMY.out rfl] at HFX
        go_wp2_with fail
        refine HFX.out.mono ?_; rintro e w8 ⟨rfl, hk8⟩
        go_wp2_with fail
        go_ret
        exact ⟨by simp, HK.out.trans hk8⟩
      · have hEb : (E != 0) = true := by simpa using hE
        go_wp2_with fail
        go_ret
        exact ⟨by simp, HK.out⟩
    · have h := HE2.out (by first | rfl | trivial) hC
      simp only [Prod.mk.injEq] at h
      obtain ⟨rfl, rfl⟩ := h
      have hEb : (E != 0) = true := by simpa using hC
      go_wp2_with fail
      go_ret
      exact ⟨by simp, HK.out⟩
theorem law_FlattenOutlines (s : Sc) (v : Value) (o : List (List Pn)) (w : World) (hv : IsOut w v o) (hb : ∀ j, j < o.length → (o.getD j []).length ≤ 1125899906842624) :
    Calls Try.prog 4 #[scV s, v] w fun e w' => e = .returned (.bool true) ∧ Kp [] w w' := by
  cases h : largeB o with
  | true => exact outlines_large s v o w hv hb h
  | false => exact outlines_in s v o w hv hb h
end Go.Proofs.Ytpbmefojhgcniaa

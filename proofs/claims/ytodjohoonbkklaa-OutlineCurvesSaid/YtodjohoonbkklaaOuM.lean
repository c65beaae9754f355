/- outline: Join. -/
import Derived.Test.YtodjohoonbkklaaOuL
namespace Go.Proofs.Ytodjohoonbkklaa
open Go.RowKit
set_option linter.unusedVariables false
set_option linter.unusedSimpArgs false
theorem WVs.one {w : World} {base : Nat} {v : Value} {vs : List Value} {o : List (List Pn)} (h : WVs w base v vs o) : ∀ u ∈ vs, u.oneCell' = true := by
  intro u hu
  obtain ⟨i, hi, rfl⟩ := List.mem_iff_getElem.1 hu
  obtain ⟨p, c, e⟩ := (h.2 i (by have := h.1.1; omega)).1.form
  rw [List.getD_eq_getElem?_getD, List.getElem?_eq_getElem hi] at e
  simp only [Option.getD_some] at e
  rw [e]; rfl
/-- What Join gives. -/
def joinM (a b : List (List Pn)) : List (List Pn) × Int := if checkO a ≠ 0 then ([], checkO a) else if checkO b ≠ 0 then ([], checkO b) else if 256 < a.length + b.length ∨ 4096 < cnt a + cnt b then ([], 100) else (a ++ b, 0)
theorem join_out {w w4 : World} {base base2 : Nat} {va vb v : Value} {a b : List (List Pn)} {vsa vsb : List Value} {n : Nat} {e : TypeId} (ha : WVs w base va vsa a) (hb : WVs w base2 vb vsb b) (hlt : ∀ k, va.ownBlock = some k → k < base2)
    (hn : n = a.length + b.length) (hown : w4.ownsRow base e 1 v n (vsa ++ vsb)) (hgr : w.grownBy w4 va.ownBlock) : IsOut w4 v (a ++ b) := by
  have hla : vsa.length = a.length := by have := ha.1.1; omega
  have hlb : vsb.length = b.length := by have := hb.1.1; omega
  have hk : Kp va.ownBlock.toList w w4 := Kp.grown (Kp.refl _ _) hgr (fun k hk => .inl (by rw [hk]; simp))
  subst hn
  refine ⟨vsa ++ vsb, by rw [List.length_append]; exact Reads.owned hown, fun i hi => ?_⟩
  by_cases e : i < a.length
  · rw [List.getD_eq_getElem?_getD, List.getElem?_append_left (by omega), ← List.getD_eq_getElem?_getD, List.getD_eq_getElem?_getD (l := a ++ b), List.getElem?_append_left e, ← List.getD_eq_getElem?_getD]
    exact (ha.2 i e).1.kp hk (fun s hs e2 => ((ha.2 i e).2 s e2).1 (by simpa using hs))
  · have hi2 : i - a.length < b.length := by rw [List.length_append] at hi; omega
    rw [List.getD_eq_getElem?_getD, List.getElem?_append_right (by omega), hla, ← List.getD_eq_getElem?_getD, List.getD_eq_getElem?_getD (l := a ++ b), List.getElem?_append_right (by omega), ← List.getD_eq_getElem?_getD]
    exact (hb.2 _ hi2).1.kp hk (fun s hs e2 => by
      have h1 := ((hb.2 _ hi2).2 s e2).2.2
      have h2 := hlt s (by simpa using hs)
      omega)
set_option maxRecDepth 100000 in
set_option maxHeartbeats 4000000 in
theorem join_calls (va vb : Value) (a b : List (List Pn)) (w : World) (ha : IsOut w va a) (hb : IsOut w vb b) (fa : fewO a) (fb : fewO b) (ca : cnt a ≤ 1152921504606846976) (cb : cnt b ≤ 1152921504606846976) :
    Calls Try.prog 39 #[va, vb] w fun e w' => ∃ v', e = .returned (.tuple #[v', .int .i64 (joinM a b).2]) ∧ IsOut w' v' (joinM a b).1 ∧ Kp [] w w' := by
  have HCA := Lib.hid (fun W (hk : Kp [] w W) => check_calls va a W (ha.kp0 hk) (fun j hj => by have := fa.2 j hj; omega) (by omega))
  have HCB := Lib.hid (fun W (hk : Kp [] w W) => check_calls vb b W (hb.kp0 hk) (fun j hj => by have := fb.2 j hj; omega) (by omega))
  have HNA := Lib.hid (fun W (hk : Kp [] w W) => ccount_calls va a W (ha.kp0 hk) (by omega))
  have HNB := Lib.hid (fun W (hk : Kp [] w W) => ccount_calls vb b W (hb.kp0 hk) (by omega))
  have HKA := Lib.hid (fun W (hk : Kp [] w W) => oclone_calls va a W (ha.kp0 hk) fa)
  have HKB := Lib.hid (fun W (hk : Kp [] w W) => oclone_calls vb b W (hb.kp0 hk) fb)
  have hla : a.length ≤ 1048576 := fa.1
  have hlb : b.length ≤ 1048576 := fb.1
  obtain ⟨pa, qa, rfl⟩ := ha.form
  obtain ⟨pb, qb, rfl⟩ := hb.form
  have HJ : Hid (joinM a b = if checkO a ≠ 0 then ([], checkO a) else if checkO b ≠ 0 then ([], checkO b) else if 256 < a.length + b.length ∨ 4096 < cnt a + cnt b then ([], 100) else (a ++ b, 0)) := rfl
  clear ha hb fa fb
  by_cases h1 : checkO a = 0
  · rw [h1] at HCA
    by_cases h2 : checkO b = 0
    · rw [h2] at HCB
      have HJ2 : Hid (joinM a b = if 256 < a.length + b.length ∨ 4096 < cnt a + cnt b then ([], 100) else (a ++ b, 0)) := by show _ = _; rw [HJ.out, if_neg (by simp [h1]), if_neg (by simp [h2])]
      have HMY := Lib.hid (fun W => many_calls ((a.length : Int) + (b.length : Int)) ((cnt a : Nat) + (cnt b : Nat) : Int) W)
      obtain ⟨X, hX⟩ : ∃ X, (decide ((256 : Int) < (a.length : Int) + (b.length : Int)) || decide ((4096 : Int) < ((cnt a : Nat) : Int) + (cnt b : Nat))) = X := ⟨_, rfl⟩
      have HX := Lib.hid hX
      rw [hX] at HMY
      clear hX h1 h2 HJ
      generalize joinM a b = J at *
      cases X
      · have HJ3 : Hid (J = (a ++ b, 0)) := by
          show _ = _
          have h := HX.out
          simp only [Bool.or_eq_false_iff, decide_eq_false_iff_not] at h
          rw [HJ2.out, if_neg (by omega)]
        clear HJ2 HX
        go_enter Try.func39, Try.ntmps39
        go_wp2_with fail
        refine (HCA.out _ (Kp.refl _ _)).mono ?_; rintro e w1 ⟨rfl, hk1⟩
        have HK1 := Lib.hid hk1
        clear hk1
        go_wp2_with fail
        refine (HCB.out _ HK1.out).mono ?_; rintro e w2 ⟨rfl, hk2⟩
        have HK2 : Hid (Kp [] w w2) := HK1.out.trans hk2
        clear hk2 HK1
        go_wp2_with fail
        refine (HNA.out _ HK2.out).mono ?_; rintro e w3 ⟨rfl, rfl⟩
        go_wp2_with fail
        refine (HNB.out _ HK2.out).mono ?_; rintro e w3 ⟨rfl, rfl⟩
        go_wp2_with fail
        refine (HMY.out _).mono ?_; rintro e w3 ⟨rfl, rfl⟩
        go_wp2_with fail
        refine (HKA.out _ HK2.out).mono ?_; rintro e w4 ⟨v4, rfl, hw4, hk4⟩
        have HK4 : Hid (Kp [] w w4) := HK2.out.trans hk4
        have HW4 := Lib.hid hw4
        have hs24 := hk4.size
        clear hw4 hk4
        go_wp2_with fail
        refine (HKB.out _ HK4.out).mono ?_; rintro e w5 ⟨v5, rfl, hw5, hk5⟩
        have HK5 : Hid (Kp [] w w5) := HK4.out.trans hk5
        obtain ⟨vsa, hva⟩ := HW4.out
        obtain ⟨vsb, hvb⟩ := hw5
        have HLT : Hid (∀ k, v4.ownBlock = some k → k < w4.heap.size) := fun k hk => (hva.1.lt k hk).2
        have HVA : Hid (WVs w5 w2.heap.size v4 vsa a) := hva.kp0 hk5
        have HVB := Lib.hid hvb
        obtain ⟨p4, q4, rfl⟩ := slice_own HVA.out.1
        obtain ⟨p5, q5, rfl⟩ := slice_own HVB.out.1
        have hs45 := hk5.size
        have hsw2 := HK2.out.size
        clear hva hvb hk5 HW4
        go_wp2_with (at_builtin; refine wpList_app rfl _ _ 42 rfl w2.heap.size 96 (.slice none 0 0) 1 24 Try.underlying42 infoPs rfl (by decide) (by decide) (.slice p4 a.length q4) a.length vsa rfl ?hown (.slice p5 b.length q5) b.length vsb rfl ?hsrc ?hone ?hb1 ?hb2 ?hk)
        case hown => exact HVA.out.1
        case hsrc => exact Reads.owned HVB.out.1
        case hone => exact HVB.out.one
        case hb1 => omega
        case hb2 => omega
        case hk =>
        intro v6 w6 hown hgr
        have HO6 : Hid (IsOut w6 v6 (a ++ b)) := join_out HVA.out HVB.out HLT.out rfl hown hgr
        have HK6 : Hid (Kp [] w w6) := Kp.grown HK5.out hgr (fun k hk => .inr (by have := own_ge HVA.out.1 k hk; omega))
        clear hown hgr
        go_wp2_with fail
        go_ret2
        rw [HJ3.out]
        exact ⟨_, rfl, HO6.out, HK6.out⟩
      · have HJ3 : Hid (J = ([], 100)) := by
          show _ = _
          have h := HX.out
          simp only [Bool.or_eq_true, decide_eq_true_eq] at h
          rw [HJ2.out, if_pos (by omega)]
        clear HJ2 HX
        go_enter Try.func39, Try.ntmps39
        go_wp2_with fail
        refine (HCA.out _ (Kp.refl _ _)).mono ?_; rintro e w1 ⟨rfl, hk1⟩
        have HK1 := Lib.hid hk1
        clear hk1
        go_wp2_with fail
        refine (HCB.out _ HK1.out).mono ?_; rintro e w2 ⟨rfl, hk2⟩
        have HK2 : Hid (Kp [] w w2) := HK1.out.trans hk2
        clear hk2 HK1
        go_wp2_with fail
        refine (HNA.out _ HK2.out).mono ?_; rintro e w3 ⟨rfl, rfl⟩
        go_wp2_with fail
        refine (HNB.out _ HK2.out).mono ?_; rintro e w3 ⟨rfl, rfl⟩
        go_wp2_with fail
        refine (HMY.out _).mono ?_; rintro e w3 ⟨rfl, rfl⟩
        go_wp2_with fail
        go_ret2
        rw [HJ3.out]
        exact ⟨_, rfl, IsOut.nil _ _, HK2.out⟩
    · have HJ3 : Hid (joinM a b = ([], checkO b)) := by show _ = _; rw [HJ.out, if_neg (by simp [h1]), if_pos h2]
      have hne : (checkO b != 0) = true := by simp [h2]
      clear HJ h1
      generalize joinM a b = J at *
      generalize checkO b = E at *
      clear h2
      go_enter Try.func39, Try.ntmps39
      go_wp2_with fail
      refine (HCA.out _ (Kp.refl _ _)).mono ?_; rintro e w1 ⟨rfl, hk1⟩
      have HK1 := Lib.hid hk1
      clear hk1
      go_wp2_with fail
      refine (HCB.out _ HK1.out).mono ?_; rintro e w2 ⟨rfl, hk2⟩
      have HK2 : Hid (Kp [] w w2) := HK1.out.trans hk2
      clear hk2 HK1
      go_wp2_with fail
      go_ret2
      rw [HJ3.out]
      exact ⟨_, rfl, IsOut.nil _ _, HK2.out⟩
  · have HJ3 : Hid (joinM a b = ([], checkO a)) := by show _ = _; rw [HJ.out, if_pos h1]
    have hne : (checkO a != 0) = true := by simp [h1]
    clear HJ
    generalize joinM a b = J at *
    generalize checkO a = E at *
    clear h1
    go_enter Try.func39, Try.ntmps39
    go_wp2_with fail
    refine (HCA.out _ (Kp.refl _ _)).mono ?_; rintro e w1 ⟨rfl, hk1⟩
    have HK1 := Lib.hid hk1
    clear hk1
    go_wp2_with fail
    go_ret2
    rw [HJ3.out]
    exact ⟨_, rfl, IsOut.nil _ _, HK1.out⟩
end Go.Proofs.Ytodjohoonbkklaa

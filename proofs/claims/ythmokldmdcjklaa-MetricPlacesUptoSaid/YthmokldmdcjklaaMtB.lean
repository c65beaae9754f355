/- metric.mayPut: may metrics be put? -/
import Derived.Test.YthmokldmdcjklaaMtA
namespace Go.Proofs.Ythmokldmdcjklaa
open Go.RowKit
set_option linter.unusedVariables false
set_option linter.unusedSimpArgs false
/-- May metrics be put? -/
def mayMet (l : List (Int × Int)) (m : Int) : Bool :=
  decide (1 ≤ l.length) && decide (l.length ≤ 65535) && decide (1 ≤ m) && decide (m ≤ l.length) && l.all fitsM && (l.drop m.toNat).all fun p => p.1 == (l.getD (m.toNat - 1) (0, 0)).1
def cutOff2 (off n c : Nat) : Nat := if n = c then off else off + n * 2
theorem run_cut2 (g off N c n : Nat) (i : Int) (hi : i = n) (h1 : n ≤ N) (h2 : N ≤ c) (hc : c ≤ maxLen) (w : World) :
    (Instr.slice 45 (.slice (some ⟨g, off, none⟩) N c) (some (.int .i64 i)) none none).run Try.prog w = .ok (.slice (some ⟨g, cutOff2 off n c, none⟩) (N - n) (c - n)) w := by
  subst hi
  unfold maxLen at hc
  go_simp
  unfold cutOff2
  by_cases h : c = n <;> simp [h, eq_comm]
theorem IsPairs.drop {w : World} {g off N c : Nat} {l : List (Int × Int)} (h : IsPairs w (.slice (some ⟨g, off, none⟩) N c) l) (hN : N = l.length) (n : Nat) (hn : n ≤ N) : IsPairs w (.slice (some ⟨g, cutOff2 off n c, none⟩) (N - n) (c - n)) (l.drop n) := by
  subst hN
  rcases h.cases with ⟨ad, e, rfl⟩ | ⟨g1, o1, c1, e, h1, h2, h3⟩
  · cases e
    refine ⟨by simp [pairCells], .inl ⟨⟨_, by simp; rfl⟩, by simp⟩⟩
  · cases e
    have hl : (l.drop n).length = l.length - n := List.length_drop
    refine ⟨by rw [pairCells_length], .inr ⟨g, cutOff2 off n c, c - n, by rw [hl], by omega, by omega, fun j u hu => ?_⟩⟩
    have hj : j < (pairCells (l.drop n)).length := (List.getElem?_eq_some_iff.1 hu).1
    rw [pairCells_length, hl] at hj
    have hnc : n ≠ c := by omega
    unfold cutOff2; rw [if_neg hnc]
    have hi := h3 (n + j / 2) (by omega)
    have hd : (l.drop n).getD (j / 2) (0, 0) = l.getD (n + j / 2) (0, 0) := by rw [List.getD_eq_getElem?_getD, List.getElem?_drop, List.getD_eq_getElem?_getD]
    have ha := pairCells_at (l.drop n) (j / 2) (by rw [hl]; omega)
    rw [hd] at ha
    by_cases hp : j % 2 = 0
    · have e1 : 2 * (j / 2) = j := by omega
      rw [e1] at ha
      rw [ha.1] at hu
      rw [← hu, show off + n * 2 + j = off + (n + j / 2) * 2 by omega]
      exact hi.1
    · have e1 : 2 * (j / 2) + 1 = j := by omega
      rw [e1] at ha
      rw [ha.2] at hu
      rw [← hu, show off + n * 2 + j = off + (n + j / 2) * 2 + 1 by omega]
      exact hi.2
set_option maxRecDepth 100000 in
set_option maxHeartbeats 1000000 in
theorem mayput_calls (v : Value) (l : List (Int × Int)) (m : Int) (w : World) (hv : IsPairs w v l) (hl : l.length ≤ 140737488355328) :
    Calls Try.prog 59 #[v, .int .i64 m] w fun e w' => e = .returned (.bool (mayMet l m)) ∧ Kp [] w w' := by
  have HV : Hid (IsPairs w v l) := hv
  obtain ⟨pa, ca, hva⟩ := hv.form
  have hl2 : (l.length : Int) ≤ 140737488355328 := by omega
  clear hl
  by_cases hc : 1 ≤ l.length ∧ l.length ≤ 65535
  · obtain ⟨hc1, hc2⟩ := hc
    have hl9 : l.length ≤ 65535 := hc2
    clear hl2
    by_cases h1 : m < 1
    · have hE : Hid (mayMet l m = false) := by unfold Hid mayMet; rw [decide_eq_false (show ¬ 1 ≤ m by omega)]; simp
      subst hva
      go_enter Try.func59, Try.ntmps59
      go_wp2_with fail
      refine (mcount_yes _ (by omega) (by omega) _).mono ?_; rintro e w' ⟨rfl, rfl⟩
      go_wp2_with fail
      go_ret
      exact ⟨by rw [hE.out]; rfl, Kp.refl _ _⟩
    · have h1' : decide (m < 1) = false := decide_eq_false h1
      by_cases h2 : (l.length : Int) < m
      · have hE : Hid (mayMet l m = false) := by unfold Hid mayMet; rw [decide_eq_false (show ¬ m ≤ l.length by omega)]; simp
        subst hva
        go_enter Try.func59, Try.ntmps59
        go_wp2_with fail
        refine (mcount_yes _ (by omega) (by omega) _).mono ?_; rintro e w' ⟨rfl, rfl⟩
        go_wp2_with fail
        go_ret
        exact ⟨by rw [hE.out]; rfl, Kp.refl _ _⟩
      · have h2' : decide ((l.length : Int) < m) = false := decide_eq_false h2
        rcases hv.cases with ⟨ad, rfl, rfl⟩ | ⟨g, off, c, e, p1, p2, p3⟩
        · simp at hc1
        · subst e
          obtain ⟨mn, rfl⟩ : ∃ mn : Nat, m = mn + 1 := ⟨(m - 1).toNat, by omega⟩
          have hm1 : mn < l.length := by omega
          have hE : Hid (mayMet l (mn + 1) = (l.all fitsM && (l.drop (mn + 1)).all fun p => p.1 == (l.getD mn (0, 0)).1)) := by
            unfold Hid mayMet
            rw [decide_eq_true hc1, decide_eq_true hc2, decide_eq_true (show (1 : Int) ≤ mn + 1 by omega), decide_eq_true (show (mn : Int) + 1 ≤ l.length by omega), show ((mn : Int) + 1).toNat = mn + 1 by omega, Nat.add_sub_cancel]; rfl
          have hca := (p3 mn hm1).1
          have hgw : g < w.heap.size := World.block_lt_of_cell? w _ hca
          generalize hla : (l.getD mn (0, 0)).1 = last at *
          clear hva
          have hns := run_cut2 g off l.length c (mn + 1) ((mn : Int) + 1) (by omega) (by omega) p1 p2
          have hnm : ((mn : Int) + 1) - 1 = mn := by omega
          clear hv p3 h1 h2
          go_enter Try.func59, Try.ntmps59
          go_wp2_with fail
          refine (mcount_yes _ (by omega) (by omega) _).mono ?_; rintro e w' ⟨rfl, rfl⟩
          go_wp2_with fail
          have hka : Kp [] w (w.alloc (.cells #[.int .i64 last] 3)) := (Kp.refl _ _).alloc _
          refine (containsFuncM0_calls 79 Try.call79 (fun p => !fitsM p) _ l _ (HV.out.kp hka (by simp)) (fun i _ wr _ => wrongm_calls _ wr)).mono ?_
          rintro e w2 ⟨rfl, hk2⟩
          have ha1 : Hid (l.any (fun p => !fitsM p) = !l.all fitsM) := by unfold Hid; rw [List.not_all_eq_any_not]
          rw [ha1.out]
          have hcb : w2.cell? ⟨w.heap.size, 0, none⟩ = some (.int .i64 last) := hk2.cell (by go_simp) (by simp)
          have hk02 := hka.trans hk2
          have hcl := Lib.hid ((containsFuncM1_calls 77 Try.call77 (.pointer (some ⟨w.heap.size, 0, none⟩)) (fun p => p.1 != last) _ (l.drop (mn + 1)) w2 ((HV.out.kp hk02 (by simp)).drop rfl (mn + 1) (by omega)) (fun i _ wr hk => otherm_calls _ _ last wr (hk.cell hcb (by simp)))))
          have ha2 : Hid ((l.drop (mn + 1)).any (fun p => p.1 != last) = !(l.drop (mn + 1)).all (fun p => p.1 == last)) := by unfold Hid; rw [List.not_all_eq_any_not]; rfl
          cases hb1 : l.all fitsM
          · rw [hb1] at hE
            have hE2 : Hid (mayMet l (mn + 1) = false) := by rw [Hid, hE.out]; rfl
            clear hcl hb1
            go_wp2_with fail
            go_ret
            exact ⟨by rw [hE2.out]; rfl, hk02⟩
          · rw [hb1] at hE
            have hE2 : Hid (mayMet l (mn + 1) = (l.drop (mn + 1)).all fun p => p.1 == last) := by rw [Hid, hE.out]; rfl
            clear hb1
            go_wp2_with fail
            refine Calls.mono hcl.out ?_
            rintro e w3 ⟨rfl, hk3⟩
            rw [ha2.out]
            go_wp2_with fail
            go_ret
            exact ⟨by rw [hE2.out]; simp, hk02.trans hk3⟩
  · have hE : Hid (mayMet l m = false) := by
      unfold Hid mayMet
      by_cases h : 1 ≤ l.length
      · rw [decide_eq_false (show ¬ l.length ≤ 65535 by omega)]; simp
      · rw [decide_eq_false h]; simp
    subst hva
    go_enter Try.func59, Try.ntmps59
    go_wp2_with fail
    refine (mcount_no _ (by omega) _).mono ?_; rintro e w' ⟨rfl, rfl⟩
    go_wp2_with fail
    go_ret
    exact ⟨by rw [hE.out]; rfl, Kp.refl _ _⟩
end Go.Proofs.Ythmokldmdcjklaa

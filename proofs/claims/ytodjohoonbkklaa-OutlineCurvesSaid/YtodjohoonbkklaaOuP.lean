/- outline: turned. -/
import Derived.Test.YtodjohoonbkklaaOuO
import Derived.Lib.SliceRun
import Derived.Deep.RegionHeld3
namespace Go.Proofs.Ytodjohoonbkklaa
open Go.RowKit
set_option linter.unusedVariables false
set_option linter.unusedSimpArgs false
theorem psCells_drop (c : List Pn) (k : Nat) (hk : k ≤ c.length) : psCells (c.drop k) = (psCells c).drop (k * 3) := by
  conv => rhs; rw [← List.take_append_drop k c, psCells_app]
  exact (List.drop_left' (by rw [psCells_length, List.length_take, Nat.min_eq_left hk])).symm
theorem psCells_take (c : List Pn) (k : Nat) (hk : k ≤ c.length) : psCells (c.take k) = (psCells c).take (k * 3) := by
  conv => rhs; rw [← List.take_append_drop k c, psCells_app]
  exact (List.take_left' (by rw [psCells_length, List.length_take, Nat.min_eq_left hk])).symm
theorem IsPs.drop {w : World} {g off n cap : Nat} {c : List Pn} (h : IsPs w (.slice (some ⟨g, off, none⟩) n cap) c) (k : Nat) (hk : k ≤ c.length) : IsPs w (.slice (some ⟨g, off + k * 3, none⟩) (c.length - k) (cap - k)) (c.drop k) := by
  rcases h.cases with ⟨ad, e, rfl⟩ | ⟨g', off', c', e, h1, h2, _⟩
  · cases e
    obtain rfl : k = 0 := by simpa using hk
    exact IsPs.nil w _
  · cases e
    refine ⟨?_, .inr ⟨g, off + k * 3, cap - k, by rw [List.length_drop], by rw [List.length_drop]; omega, by omega, fun j u hu => ?_⟩⟩
    · have := h.1; rw [psCells_drop c k hk, List.length_drop, this, List.length_drop]; omega
    · rcases h.2 with ⟨⟨ad, e⟩, h0⟩ | ⟨g2, o2, c2, e, _, _, h3⟩
      · have : c = [] := List.eq_nil_of_length_eq_zero (by first | exact h0 | simpa using h0)
        subst this; simp [psCells] at hu
      · cases e
        rw [psCells_drop c k hk, List.getElem?_drop] at hu
        have := h3 _ u hu
        rwa [← Nat.add_assoc] at this
theorem IsPs.take {w : World} {g off n cap : Nat} {c : List Pn} (h : IsPs w (.slice (some ⟨g, off, none⟩) n cap) c) (k : Nat) (hk : k ≤ c.length) : IsPs w (.slice (some ⟨g, off, none⟩) k cap) (c.take k) := by
  rcases h.cases with ⟨ad, e, rfl⟩ | ⟨g', off', c', e, h1, h2, _⟩
  · cases e
    obtain rfl : k = 0 := by simpa using hk
    exact IsPs.nil w _
  · cases e
    refine ⟨?_, .inr ⟨g, off, cap, by rw [List.length_take, Nat.min_eq_left hk], by rw [List.length_take]; omega, by omega, fun j u hu => ?_⟩⟩
    · have := h.1; rw [psCells_take c k hk, List.length_take, this, List.length_take]; omega
    · rcases h.2 with ⟨⟨ad, e⟩, h0⟩ | ⟨g2, o2, c2, e, _, _, h3⟩
      · have : c = [] := List.eq_nil_of_length_eq_zero (by first | exact h0 | simpa using h0)
        subst this; simp [psCells] at hu
      · cases e
        rw [psCells_take c k hk, List.getElem?_take] at hu
        split at hu
        · exact h3 _ u hu
        · cases hu
theorem IsPs.flat {w : World} {g off n cap : Nat} {c : List Pn} (h : IsPs w (.slice (some ⟨g, off, none⟩) n cap) c) : ∀ j u, (psCells c)[j]? = some u → w.cell? ⟨g, off + j, none⟩ = some u := by
  intro j u hu
  rcases h.2 with ⟨⟨ad, e⟩, h0⟩ | ⟨g2, o2, c2, e, _, _, h3⟩
  · have : c = [] := List.eq_nil_of_length_eq_zero (by first | exact h0 | simpa using h0)
    subst this; simp [psCells] at hu
  · cases e; exact h3 _ u hu
/-- A contour, turned so that it begins on the outline. -/
def turnP (c : List Pn) : List Pn := if onAt c < c.length then c.drop (onAt c) ++ c.take (onAt c) else midP (c.getD (c.length - 1) pn0) (c.getD 0 pn0) :: c
theorem turnP_none (c : List Pn) (h : firstOn c < 0) : turnP c = midP (c.getD (c.length - 1) pn0) (c.getD 0 pn0) :: c := by
  unfold firstOn at h; unfold turnP
  split at h
  · omega
  · rename_i h1; rw [if_neg h1]
theorem turnP_on (c : List Pn) (h : ¬ firstOn c < 0) : onAt c < c.length ∧ firstOn c = (onAt c : Nat) ∧ turnP c = c.drop (onAt c) ++ c.take (onAt c) := by
  unfold firstOn at h ⊢; unfold turnP
  split at h
  · rename_i h1; rw [if_pos h1, if_pos h1]; exact ⟨h1, rfl, rfl⟩
  · omega
/-- All coordinates lie in the bounds. -/
def numsP (c : List Pn) : Prop := ∀ i, i < c.length → numF (c.getD i pn0).x = true ∧ numF (c.getD i pn0).y = true
set_option maxRecDepth 100000 in
set_option maxHeartbeats 4000000 in
theorem turned_calls (v : Value) (c : List Pn) (w : World) (h : IsPs w v c) (h0 : 0 < c.length) (hl : c.length ≤ 1048576) (hn : numsP c) :
    Calls Try.prog 135 #[v] w fun e w' => ∃ v', e = .returned v' ∧ w'.ownsRow w.heap.size 61 3 v' (turnP c).length (psCells (turnP c)) ∧ Kp [] w w' := by
  have HI := Lib.hid (indexon_calls v c w h)
  obtain ⟨pa, ca, rfl⟩ := h.form
  have HV := Lib.hid h
  by_cases hz : firstOn c < 0
  · have HT := Lib.hid (turnP_none c hz)
    obtain ⟨a1, a2⟩ := hn (c.length - 1) (by omega)
    obtain ⟨b1, b2⟩ := hn 0 h0
    have HM := Lib.hid (fun W => mid_calls (c.getD (c.length - 1) pn0) (c.getD 0 pn0) W a1 a2 b1 b2)
    generalize firstOn c = F at *
    obtain ⟨N, hN⟩ : ∃ N, c.length = N := ⟨_, rfl⟩
    have HN := Lib.hid hN
    rw [hN] at HI h0 hl HM ⊢
    clear h a1 a2 b1 b2 hn
    have hN1 : IntKind.i64.wrap ((N : Int) - 1) = (N : Int) - 1 := by rw [IntKind.wrap_i64]; omega
    have hN2 : (((N : Int) - 1)).toNat = N - 1 := by omega
    have hN3 : (1 : Int) ≤ (N : Int) := by omega
    have hN7 : (N : Int) - 1 ≤ (N : Int) - 1 := by omega
    have hN8 : ¬ ((N : Int) - 1 < 0) := by omega
    have hN9 : N - 1 < N := by omega
    have hN4 : (N : Int) - 1 ≤ (N : Int) := by omega
    have hN5 : (N : Int) - 1 < (N : Int) := by omega
    have hN6 : (0 : Int) < (N : Int) := by omega
    go_enter Try.func135, Try.ntmps135
    go_wp2_with fail
    refine HI.out.mono ?_; rintro e w1 ⟨rfl, hk1⟩
    have HK1 := Lib.hid hk1
    obtain ⟨g1, o1, c1, e1, h5, h6, x1, y1, k1⟩ := (HV.out.kp0 hk1).row (i := N - 1) (by rw [HN.out]; omega)
    obtain ⟨g2, o2, c2, e2, _, _, x2, y2, k2⟩ := (HV.out.kp0 hk1).row (i := 0) (by rw [HN.out]; omega)
    rw [HN.out] at e1 e2
    cases e1; cases e2
    clear hk1
    rw [Nat.zero_mul, Nat.add_zero] at x2 y2 k2
    rw [show pnV (c.getD (N - 1) pn0) = .agg #[.int .i64 (c.getD (N - 1) pn0).x, .int .i64 (c.getD (N - 1) pn0).y, .int .i64 (c.getD (N - 1) pn0).k] from rfl, show pnV (c.getD 0 pn0) = .agg #[.int .i64 (c.getD 0 pn0).x, .int .i64 (c.getD 0 pn0).y, .int .i64 (c.getD 0 pn0).k] from rfl] at HM
    obtain ⟨M, HMM⟩ : ∃ M, Hid (midP (c.getD (N - 1) pn0) (c.getD 0 pn0) = M) := ⟨_, rfl⟩
    have HM2 : Hid (∀ (W : World), Calls Try.prog 136 #[.agg #[.int .i64 (c.getD (N - 1) pn0).x, .int .i64 (c.getD (N - 1) pn0).y, .int .i64 (c.getD (N - 1) pn0).k], .agg #[.int .i64 (c.getD 0 pn0).x, .int .i64 (c.getD 0 pn0).y, .int .i64 (c.getD 0 pn0).k]] W fun e w' => e = Ending.returned (.agg #[.int .i64 M.x, .int .i64 M.y, .int .i64 M.k]) ∧ Kp [] W w') := fun W => by
      have := HM.out W; rw [HMM.out] at this; exact this
    clear HM
    generalize (c.getD (N - 1) pn0).x = X1 at *
    generalize (c.getD (N - 1) pn0).y = Y1 at *
    generalize (c.getD (N - 1) pn0).k = K1 at *
    generalize (c.getD 0 pn0).x = X2 at *
    generalize (c.getD 0 pn0).y = Y2 at *
    generalize (c.getD 0 pn0).k = K2 at *
    obtain ⟨mx, my, mk⟩ := M
    dsimp only at HM2
    have hkp := HK1.out
    go_wp2_with fail
    go_region_held3 (fun w' => w'.cell? ⟨g1, o1 + (N - 1) * 3, none⟩ = some (.int .i64 X1) ∧ w'.cell? ⟨g1, o1 + (N - 1) * 3 + 1, none⟩ = some (.int .i64 Y1) ∧ w'.cell? ⟨g1, o1 + (N - 1) * 3 + 2, none⟩ = some (.int .i64 K1) ∧ w'.cell? ⟨g1, o1, none⟩ = some (.int .i64 X2) ∧ w'.cell? ⟨g1, o1 + 1, none⟩ = some (.int .i64 Y2) ∧ w'.cell? ⟨g1, o1 + 2, none⟩ = some (.int .i64 K2))
      (first | go_keep | exact ⟨hk12.cell x1 (by simp), hk12.cell y1 (by simp), hk12.cell k1 (by simp), hk12.cell x2 (by simp), hk12.cell y2 (by simp), hk12.cell k2 (by simp)⟩ | exact ⟨hk14.cell x1 (by simp), hk14.cell y1 (by simp), hk14.cell k1 (by simp), hk14.cell x2 (by simp), hk14.cell y2 (by simp), hk14.cell k2 (by simp)⟩)
      ((first
        | (go_at_call 136
           refine (HM2.out _).mono ?_
           rintro e w2 ⟨rfl, hk2⟩
           have hk12 : Kp [] w1 w2 := Kp.trans (by (repeat (first | exact Kp.refl _ _ | assumption | refine Kp.drew ?_ | refine Kp.drewN ?_ _ | refine Kp.alloc ?_ _ | (refine Kp.setCell ?_ (by first | (left; simp; done) | (right; simp; try omega)) _) | (refine Kp.trans' ?_ (by assumption) (by simp; try omega))))) hk2)
        | (refine step_app (by rfl) _ _ 96 (by rfl) w.heap.size 61 (.agg #[.int .i64 0, .int .i64 0, .int .i64 0]) 3 24 Try.underlying96 infoPn rfl (by decide) (by decide) (.slice (some ⟨w2.heap.size, 0, none⟩) 1 1) 1 (psCells [⟨mx, my, mk⟩]) (by rfl) (Kp.row (S := []) (by (repeat (first | exact Kp.refl _ _ | assumption | refine Kp.drew ?_ | refine Kp.drewN ?_ _ | refine Kp.alloc ?_ _ | (refine Kp.setCell ?_ (by first | (left; simp; done) | (right; simp; try omega)) _) | (refine Kp.trans' ?_ (by assumption) (by simp; try omega))))) (own_lit w2 w2.heap.size w.heap.size 61 3 1 #[.int .i64 mx, .int .i64 my, .int .i64 mk] rfl (by have a1 := hk12.size; have a2 := hkp.size; omega) (by decide) (by rfl)) (by simp)) g1 o1 ca N (psCells c) (by rfl) (by rw [psCells_length, HN.out]) (IsPs.flat (HV.out.kp0 (hkp.trans (hk12.trans (by (repeat (first | exact Kp.refl _ _ | assumption | refine Kp.drew ?_ | refine Kp.drewN ?_ _ | refine Kp.alloc ?_ _ | (refine Kp.setCell ?_ (by first | (left; simp; done) | (right; simp; try omega)) _) | (refine Kp.trans' ?_ (by assumption) (by simp; try omega))))))))) (oneCell_ps c) (by omega) (by have a1 := hk12.size; have a2 := hkp.size; simp; omega) ?_
           intro v4 w4 hown4 hgr4
           have hk14 : Kp [] w1 w4 := Kp.grown (hk12.trans (by (repeat (first | exact Kp.refl _ _ | assumption | refine Kp.drew ?_ | refine Kp.drewN ?_ _ | refine Kp.alloc ?_ _ | (refine Kp.setCell ?_ (by first | (left; simp; done) | (right; simp; try omega)) _) | (refine Kp.trans' ?_ (by assumption) (by simp; try omega)))))) hgr4 (by intro k hk; right; simp [Value.ownBlock] at hk; have a1 := hk12.size; omega))))
    all_goals
      have hps : psCells [⟨mx, my, mk⟩] ++ psCells c = psCells (turnP c) := by rw [HT.out, HN.out, HMM.out]; exact (psCells_app [⟨mx, my, mk⟩] c).symm
      have hlen : 1 + N = (turnP c).length := by rw [HT.out, List.length_cons, HN.out]; omega
      rw [hps, hlen] at hown4
      have HO := Lib.hid hown4
      have HK4 : Hid (Kp [] w w4) := hkp.trans hk14
      clear hown4 hgr4 hps hlen hk14 hk12 hk2
      go_wp2_with fail
      go_ret
      exact ⟨_, rfl, HO.out, HK4.out⟩
  · obtain ⟨hk0, hk9, hT⟩ := turnP_on c hz
    have HT := Lib.hid hT
    rw [hk9] at HI
    clear hT hz hk9 hn
    obtain ⟨k, hk⟩ : ∃ k, onAt c = k := ⟨_, rfl⟩
    rw [hk] at HI HT hk0
    clear hk
    obtain ⟨g1, o1, c1, e1, h5, h6, _⟩ := h.row (i := 0) h0
    cases e1
    have HD : Hid (∀ W, Kp [] w W → IsPs W (.slice (some ⟨g1, o1 + k * 3, none⟩) (c.length - k) (ca - k)) (c.drop k)) := fun W hW => (HV.out.kp0 hW).drop k (by omega)
    have HTK : Hid (∀ W, Kp [] w W → IsPs W (.slice (some ⟨g1, o1, none⟩) k ca) (c.take k)) := fun W hW => (HV.out.kp0 hW).take k (by omega)
    have HLD : Hid ((c.drop k).length = c.length - k) := List.length_drop
    have HLT : Hid ((c.take k).length = k) := by show _ = _; rw [List.length_take]; omega
    have HLN : Hid ((turnP c).length = c.length) := by show _ = _; rw [HT.out, List.length_append, HLD.out, HLT.out]; omega
    obtain ⟨N, hN⟩ : ∃ N, c.length = N := ⟨_, rfl⟩
    rw [hN] at HI h0 hl HD HLD HLN hk0 h5 ⊢
    clear h hN HV
    unfold maxLen at h6
    have b1 : (0 : Int) ≤ (k : Int) := by omega
    have b2 : (k : Int) ≤ (N : Int) := by omega
    have b3 : (k : Int) ≤ (ca : Int) := by omega
    have b4 : (k : Int) < (ca : Int) := by omega
    have b5 : k < ca := by omega
    have b6 : (N : Int) ≤ (ca : Int) := by omega
    have b7 : ¬ (ca = k) := by omega
    have b9 : decide ((k : Int) < 0) = false := by simp
    have b8 : ¬ ((k : Int) < 0) := by omega
    go_enter Try.func135, Try.ntmps135
    go_wp2_with fail
    refine HI.out.mono ?_; rintro e w1 ⟨rfl, hk1⟩
    have hkp := hk1
    clear HI
    go_wp2_with fail
    go_region_held3 (fun w' => True)
      (trivial)
      ((first
        | (go_at_call 139
           refine (clonep_calls _ _ _ (HD.out _ (by (repeat (first | exact Kp.refl _ _ | assumption | refine Kp.drew ?_ | refine Kp.drewN ?_ _ | refine Kp.alloc ?_ _ | (refine Kp.setCell ?_ (by first | (left; simp; done) | (right; simp; try omega)) _) | (refine Kp.trans' ?_ (by assumption) (by simp; try omega)))))) (by rw [HLD.out]; omega)).mono ?_
           rintro e w2 ⟨v2, rfl, hown2, hk2⟩
           rw [HLD.out] at hown2
           obtain ⟨p2, c2, rfl⟩ := slice_own hown2
           have hk12 : Kp [] w w2 := Kp.trans (by (repeat (first | exact Kp.refl _ _ | assumption | refine Kp.drew ?_ | refine Kp.drewN ?_ _ | refine Kp.alloc ?_ _ | (refine Kp.setCell ?_ (by first | (left; simp; done) | (right; simp; try omega)) _) | (refine Kp.trans' ?_ (by assumption) (by simp; try omega))))) hk2)
        | (refine step_app (by rfl) _ _ 96 (by rfl) w1.heap.size 61 (.agg #[.int .i64 0, .int .i64 0, .int .i64 0]) 3 24 Try.underlying96 infoPn rfl (by decide) (by decide) (.slice p2 (N - k) c2) (N - k) (psCells (c.drop k)) (by rfl) hown2 g1 o1 ca k (psCells (c.take k)) (by rfl) (by rw [psCells_length, HLT.out]) (IsPs.flat (HTK.out _ (by (repeat (first | exact Kp.refl _ _ | assumption | refine Kp.drew ?_ | refine Kp.drewN ?_ _ | refine Kp.alloc ?_ _ | (refine Kp.setCell ?_ (by first | (left; simp; done) | (right; simp; try omega)) _) | (refine Kp.trans' ?_ (by assumption) (by simp; try omega))))))) (oneCell_ps _) (by omega) (by have a1 := hk2.size; simp at a1 ⊢; omega) ?_
           intro v4 w4 hown4 hgr4)))
    all_goals
      have hlen : N - k + k = (turnP c).length := by rw [HLN.out]; omega
      have hk4 : Kp [] w w4 := Kp.grown hk12 hgr4 (fun x hx => .inr (by have a1 := own_ge hown2 x hx; have a2 := hkp.size; simp at a1; omega))
      rw [← psCells_app, ← HT.out, hlen] at hown4
      have HO : Hid (w4.ownsRow w.heap.size 61 3 v4 (turnP c).length (psCells (turnP c))) := ⟨hown4.1, hown4.2.imp_right fun ⟨g, cap, cur, a, b, d⟩ => ⟨g, cap, cur, a, Nat.le_trans hkp.size b, d⟩⟩
      have HK4 := Lib.hid hk4
      clear hown4 hgr4 hlen hk4 hk12 hk2 hown2
      go_wp2_with fail
      go_ret
      exact ⟨_, rfl, HO.out, HK4.out⟩
end Go.Proofs.Ytodjohoonbkklaa

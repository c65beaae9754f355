/- outline: turned · outline: an append onto a row that may share its block with another (out := c[:1:1]) · outline: explicit (plain) · outline: explicit (the walk). (Written by wip/outline/genous.py.) · outline: Explicit. (Written by wip/outline/genout.py.) · outline: the reference's explicit. (Written by wip/outline/genouu.py.). (Merged by wip/tools/mergetpl.py out of OuP, OuQ, OuR, OuS, OuT, OuU.) -/
import Derived.Test.YtpbmefojhgcniaaOmB
import Derived.Lib.SliceRun
import Derived.Deep.RegionHeld3
import Derived.ArgAppend
namespace Go.Proofs.Ytpbmefojhgcniaa
open Go.RowKit
set_option linter.unusedVariables false
set_option linter.unusedSimpArgs false
theorem psCells_drop (c : List Pn) (k : Nat) (hk : k ≤ c.length) : psCells (c.drop k) = (psCells c).drop (k * 3) := by
  conv => rhs; rw [← List.take_append_drop k c, psCells_app]
  exact (List.drop_left' (by rw [psCells_length, List.length_take, Nat.min_eq_left hk])).symm
theorem psCells_take (c : List Pn) (k : Nat) (hk : k ≤ c.length) : psCells (c.take k) = (psCells c).take (k * 3) := by
  conv => rhs; rw [← List.take_append_drop k c, psCells_app]
  exact (List.take_left' (by rw [psCells_length, List.length_take, Nat.min_eq_left hk])).symm
theorem IsPs.drop {w : World} {g off n cap : Nat} {c : List Pn} (h : IsPs w (.slice (some ⟨g, off, none⟩) n cap) c) (k : Nat) (hk : k ≤ c.length) : IsPs w (.slice (some ⟨g, off + k * 3, none⟩) (c.length - k) (cap - k)) (c.drop k) := by
  rcases h.cases with ⟨ad, e, rfl⟩ | ⟨g', off', c', e, h1, h2, _⟩
  · cases e
    obtain rfl : k = 0 := by simpa using hk
    exact IsPs.nil w _
  · cases e
    refine ⟨?_, .inr ⟨g, off + k * 3, cap - k, by rw [List.length_drop], by rw [List.length_drop]; omega, by omega, fun j u hu => ?_⟩⟩
    · have := h.1; rw [psCells_drop c k hk, List.length_drop, this, List.length_drop]; omega
    · rcases h.2 with ⟨⟨ad, e⟩, h0⟩ | ⟨g2, o2, c2, e, _, _, h3⟩
      · have : c = [] := List.eq_nil_of_length_eq_zero (by first | exact h0 | simpa using h0)
        subst this; simp [psCells] at hu
      · cases e
        rw [psCells_drop c k hk, List.getElem?_drop] at hu
        have := h3 _ u hu
        rwa [← Nat.add_assoc] at this
theorem IsPs.take {w : World} {g off n cap : Nat} {c : List Pn} (h : IsPs w (.slice (some ⟨g, off, none⟩) n cap) c) (k : Nat) (hk : k ≤ c.length) : IsPs w (.slice (some ⟨g, off, none⟩) k cap) (c.take k) := by
  rcases h.cases with ⟨ad, e, rfl⟩ | ⟨g', off', c', e, h1, h2, _⟩
  · cases e
    obtain rfl : k = 0 := by simpa using hk
    exact IsPs.nil w _
  · cases e
    refine ⟨?_, .inr ⟨g, off, cap, by rw [List.length_take, Nat.min_eq_left hk], by rw [List.length_take]; omega, by omega, fun j u hu => ?_⟩⟩
    · have := h.1; rw [psCells_take c k hk, List.length_take, this, List.length_take]; omega
    · rcases h.2 with ⟨⟨ad, e⟩, h0⟩ | ⟨g2, o2, c2, e, _, _, h3⟩
      · have : c = [] := List.eq_nil_of_length_eq_zero (by first | exact h0 | simpa using h0)
        subst this; simp [psCells] at hu
      · cases e
        rw [psCells_take c k hk, List.getElem?_take] at hu
        split at hu
        · exact h3 _ u hu
        · cases hu
theorem IsPs.flat {w : World} {g off n cap : Nat} {c : List Pn} (h : IsPs w (.slice (some ⟨g, off, none⟩) n cap) c) : ∀ j u, (psCells c)[j]? = some u → w.cell? ⟨g, off + j, none⟩ = some u := by
  intro j u hu
  rcases h.2 with ⟨⟨ad, e⟩, h0⟩ | ⟨g2, o2, c2, e, _, _, h3⟩
  · have : c = [] := List.eq_nil_of_length_eq_zero (by first | exact h0 | simpa using h0)
    subst this; simp [psCells] at hu
  · cases e; exact h3 _ u hu
/-- A contour, turned so that it begins on the outline. -/
def turnP (c : List Pn) : List Pn := if onAt c < c.length then c.drop (onAt c) ++ c.take (onAt c) else midP (c.getD (c.length - 1) pn0) (c.getD 0 pn0) :: c
theorem turnP_none (c : List Pn) (h : firstOn c < 0) : turnP c = midP (c.getD (c.length - 1) pn0) (c.getD 0 pn0) :: c := by
  unfold firstOn at h; unfold turnP
  split at h
  · omega
  · rename_i h1; rw [if_neg h1]
theorem turnP_on (c : List Pn) (h : ¬ firstOn c < 0) : onAt c < c.length ∧ firstOn c = (onAt c : Nat) ∧ turnP c = c.drop (onAt c) ++ c.take (onAt c) := by
  unfold firstOn at h ⊢; unfold turnP
  split at h
  · rename_i h1; rw [if_pos h1, if_pos h1]; exact ⟨h1, rfl, rfl⟩
  · omega
/-- All coordinates lie in the bounds. -/
def numsP (c : List Pn) : Prop := ∀ i, i < c.length → numF (c.getD i pn0).x = true ∧ numF (c.getD i pn0).y = true
set_option maxRecDepth 100000 in
set_option maxHeartbeats 4000000 in
theorem turned_calls (v : Value) (c : List Pn) (w : World) (h : IsPs w v c) (h0 : 0 < c.length) (hl : c.length ≤ 1048576) (hn : numsP c) :
    Calls Try.prog 97 #[v] w fun e w' => ∃ v', e = .returned v' ∧ w'.ownsRow w.heap.size 25 3 v' (turnP c).length (psCells (turnP c)) ∧ Kp [] w w' := by
  have HI := Lib.hid (indexon_calls v c w h)
  obtain ⟨pa, ca, rfl⟩ := h.form
  have HV := Lib.hid h
  by_cases hz : firstOn c < 0
  · have HT := Lib.hid (turnP_none c hz)
    obtain ⟨a1, a2⟩ := hn (c.length - 1) (by omega)
    obtain ⟨b1, b2⟩ := hn 0 h0
    have HM := Lib.hid (fun W => mid_calls (c.getD (c.length - 1) pn0) (c.getD 0 pn0) W a1 a2 b1 b2)
    generalize firstOn c = F at *
    obtain ⟨N, hN⟩ : ∃ N, c.length = N := ⟨_, rfl⟩
    have HN := Lib.hid hN
    rw [hN] at HI h0 hl HM ⊢
    clear h a1 a2 b1 b2 hn
    have hN1 : IntKind.i64.wrap ((N : Int) - 1) = (N : Int) - 1 := by rw [IntKind.wrap_i64]; omega
    have hN2 : (((N : Int) - 1)).toNat = N - 1 := by omega
    have hN3 : (1 : Int) ≤ (N : Int) := by omega
    have hN7 : (N : Int) - 1 ≤ (N : Int) - 1 := by omega
    have hN8 : ¬ ((N : Int) - 1 < 0) := by omega
    have hN9 : N - 1 < N := by omega
    have hN4 : (N : Int) - 1 ≤ (N : Int) := by omega
    have hN5 : (N : Int) - 1 < (N : Int) := by omega
    have hN6 : (0 : Int) < (N : Int) := by omega
    go_enter Try.func97, Try.ntmps97
    go_wp2_with fail
    refine HI.out.mono ?_; rintro e w1 ⟨rfl, hk1⟩
    have HK1 := Lib.hid hk1
    obtain ⟨g1, o1, c1, e1, h5, h6, x1, y1, k1⟩ := (HV.out.kp0 hk1).row (i := N - 1) (by rw [HN.out]; omega)
    obtain ⟨g2, o2, c2, e2, _, _, x2, y2, k2⟩ := (HV.out.kp0 hk1).row (i := 0) (by rw [HN.out]; omega)
    rw [HN.out] at e1 e2
    cases e1; cases e2
    clear hk1
    rw [Nat.zero_mul, Nat.add_zero] at x2 y2 k2
    rw [show pnV (c.getD (N - 1) pn0) = .agg #[.int .i64 (c.getD (N - 1) pn0).x, .int .i64 (c.getD (N - 1) pn0).y, .int .i64 (c.getD (N - 1) pn0).k] from rfl, show pnV (c.getD 0 pn0) = .agg #[.int .i64 (c.getD 0 pn0).x, .int .i64 (c.getD 0 pn0).y, .int .i64 (c.getD 0 pn0).k] from rfl] at HM
    obtain ⟨M, HMM⟩ : ∃ M, Hid (midP (c.getD (N - 1) pn0) (c.getD 0 pn0) = M) := ⟨_, rfl⟩
    have HM2 : Hid (∀ (W : World), Calls Try.prog 98 #[.agg #[.int .i64 (c.getD (N - 1) pn0).x, .int .i64 (c.getD (N - 1) pn0).y, .int .i64 (c.getD (N - 1) pn0).k], .agg #[.int .i64 (c.getD 0 pn0).x, .int .i64 (c.getD 0 pn0).y, .int .i64 (c.getD 0 pn0).k]] W fun e w' => e = Ending.returned (.agg #[.int .i64 M.x, .int .i64 M.y, .int .i64 M.k]) ∧ Kp [] W w') := fun W => by
      have := HM.out W; rw [HMM.out] at this; exact this
    clear HM
    generalize (c.getD (N - 1) pn0).x = X1 at *
    generalize (c.getD (N - 1) pn0).y = Y1 at *
    generalize (c.getD (N - 1) pn0).k = K1 at *
    generalize (c.getD 0 pn0).x = X2 at *
    generalize (c.getD 0 pn0).y = Y2 at *
    generalize (c.getD 0 pn0).k = K2 at *
    obtain ⟨mx, my, mk⟩ := M
    dsimp only at HM2
    have hkp := HK1.out
    go_wp2_with fail
    go_region_held3 (fun w' => w'.cell? ⟨g1, o1 + (N - 1) * 3, none⟩ = some (.int .i64 X1) ∧ w'.cell? ⟨g1, o1 + (N - 1) * 3 + 1, none⟩ = some (.int .i64 Y1) ∧ w'.cell? ⟨g1, o1 + (N - 1) * 3 + 2, none⟩ = some (.int .i64 K1) ∧ w'.cell? ⟨g1, o1, none⟩ = some (.int .i64 X2) ∧ w'.cell? ⟨g1, o1 + 1, none⟩ = some (.int .i64 Y2) ∧ w'.cell? ⟨g1, o1 + 2, none⟩ = some (.int .i64 K2))
      (first | go_keep | exact ⟨hk12.cell x1 (by simp), hk12.cell y1 (by simp), hk12.cell k1 (by simp), hk12.cell x2 (by simp), hk12.cell y2 (by simp), hk12.cell k2 (by simp)⟩ | exact ⟨hk14.cell x1 (by simp), hk14.cell y1 (by simp), hk14.cell k1 (by simp), hk14.cell x2 (by simp), hk14.cell y2 (by simp), hk14.cell k2 (by simp)⟩)
      ((first
        | (go_at_call 98
           refine (HM2.out _).mono ?_
           rintro e w2 ⟨rfl, hk2⟩
           have hk12 : Kp [] w1 w2 := Kp.trans (by (repeat (first | exact Kp.refl _ _ | assumption | refine Kp.drew ?_ | refine Kp.drewN ?_ _ | refine Kp.alloc ?_ _ | (refine Kp.setCell ?_ (by first | (left; simp; done) | (right; simp; try omega)) _) | (refine Kp.trans' ?_ (by assumption) (by simp; try omega))))) hk2)
        | (refine step_app (by rfl) _ _ 56 (by rfl) w.heap.size 25 (.agg #[.int .i64 0, .int .i64 0, .int .i64 0]) 3 24 Try.underlying56 infoPn rfl (by decide) (by decide) (.slice (some ⟨w2.heap.size, 0, none⟩) 1 1) 1 (psCells [⟨mx, my, mk⟩]) (by rfl) (Kp.row (S := []) (by (repeat (first | exact Kp.refl _ _ | assumption | refine Kp.drew ?_ | refine Kp.drewN ?_ _ | refine Kp.alloc ?_ _ | (refine Kp.setCell ?_ (by first | (left; simp; done) | (right; simp; try omega)) _) | (refine Kp.trans' ?_ (by assumption) (by simp; try omega))))) (own_lit w2 w2.heap.size w.heap.size 25 3 1 #[.int .i64 mx, .int .i64 my, .int .i64 mk] rfl (by have a1 := hk12.size; have a2 := hkp.size; omega) (by decide) (by rfl)) (by simp)) g1 o1 ca N (psCells c) (by rfl) (by rw [psCells_length, HN.out]) (IsPs.flat (HV.out.kp0 (hkp.trans (hk12.trans (by (repeat (first | exact Kp.refl _ _ | assumption | refine Kp.drew ?_ | refine Kp.drewN ?_ _ | refine Kp.alloc ?_ _ | (refine Kp.setCell ?_ (by first | (left; simp; done) | (right; simp; try omega)) _) | (refine Kp.trans' ?_ (by assumption) (by simp; try omega))))))))) (oneCell_ps c) (by omega) (by have a1 := hk12.size; have a2 := hkp.size; simp; omega) ?_
           intro v4 w4 hown4 hgr4
           have hk14 : Kp [] w1 w4 := Kp.grown (hk12.trans (by (repeat (first | exact Kp.refl _ _ | assumption | refine Kp.drew ?_ | refine Kp.drewN ?_ _ | refine Kp.alloc ?_ _ | (refine Kp.setCell ?_ (by first | (left; simp; done) | (right; simp; try omega)) _) | (refine Kp.trans' ?_ (by assumption) (by simp; try omega)))))) hgr4 (by intro k hk; right; simp [Value.ownBlock] at hk; have a1 := hk12.size; omega))))
    all_goals
      have hps : psCells [⟨mx, my, mk⟩] ++ psCells c = psCells (turnP c) := by rw [HT.out, HN.out, HMM.out]; exact (psCells_app [⟨mx, my, mk⟩] c).symm
      have hlen : 1 + N = (turnP c).length := by rw [HT.out, List.length_cons, HN.out]; omega
      rw [hps, hlen] at hown4
      have HO := Lib.hid hown4
      have HK4 : Hid (Kp [] w w4) := hkp.trans hk14
      clear hown4 hgr4 hps hlen hk14 hk12 hk2
      go_wp2_with fail
      go_ret
      exact ⟨_, rfl, HO.out, HK4.out⟩
  · obtain ⟨hk0, hk9, hT⟩ := turnP_on c hz
    have HT := Lib.hid hT
    rw [hk9] at HI
    clear hT hz hk9 hn
    obtain ⟨k, hk⟩ : ∃ k, onAt c = k := ⟨_, rfl⟩
    rw [hk] at HI HT hk0
    clear hk
    obtain ⟨g1, o1, c1, e1, h5, h6, _⟩ := h.row (i := 0) h0
    cases e1
    have HD : Hid (∀ W, Kp [] w W → IsPs W (.slice (some ⟨g1, o1 + k * 3, none⟩) (c.length - k) (ca - k)) (c.drop k)) := fun W hW => (HV.out.kp0 hW).drop k (by omega)
    have HTK : Hid (∀ W, Kp [] w W → IsPs W (.slice (some ⟨g1, o1, none⟩) k ca) (c.take k)) := fun W hW => (HV.out.kp0 hW).take k (by omega)
    have HLD : Hid ((c.drop k).length = c.length - k) := List.length_drop
    have HLT : Hid ((c.take k).length = k) := by show _ = _; rw [List.length_take]; omega
    have HLN : Hid ((turnP c).length = c.length) := by show _ = _; rw [HT.out, List.length_append, HLD.out, HLT.out]; omega
    obtain ⟨N, hN⟩ : ∃ N, c.length = N := ⟨_, rfl⟩
    rw [hN] at HI h0 hl HD HLD HLN hk0 h5 ⊢
    clear h hN HV
    unfold maxLen at h6
    have b1 : (0 : Int) ≤ (k : Int) := by omega
    have b2 : (k : Int) ≤ (N : Int) := by omega
    have b3 : (k : Int) ≤ (ca : Int) := by omega
    have b4 : (k : Int) < (ca : Int) := by omega
    have b5 : k < ca := by omega
    have b6 : (N : Int) ≤ (ca : Int) := by omega
    have b7 : ¬ (ca = k) := by omega
    have b9 : decide ((k : Int) < 0) = false := by simp
    have b8 : ¬ ((k : Int) < 0) := by omega
    go_enter Try.func97, Try.ntmps97
    go_wp2_with fail
    refine HI.out.mono ?_; rintro e w1 ⟨rfl, hk1⟩
    have hkp := hk1
    clear HI
    go_wp2_with fail
    go_region_held3 (fun w' => True)
      (trivial)
      ((first
        | (go_at_call 106
           refine (clonep_calls _ _ _ (HD.out _ (by (repeat (first | exact Kp.refl _ _ | assumption | refine Kp.drew ?_ | refine Kp.drewN ?_ _ | refine Kp.alloc ?_ _ | (refine Kp.setCell ?_ (by first | (left; simp; done) | (right; simp; try omega)) _) | (refine Kp.trans' ?_ (by assumption) (by simp; try omega)))))) (by rw [HLD.out]; omega)).mono ?_
           rintro e w2 ⟨v2, rfl, hown2, hk2⟩
           rw [HLD.out] at hown2
           obtain ⟨p2, c2, rfl⟩ := slice_own hown2
           have hk12 : Kp [] w w2 := Kp.trans (by (repeat (first | exact Kp.refl _ _ | assumption | refine Kp.drew ?_ | refine Kp.drewN ?_ _ | refine Kp.alloc ?_ _ | (refine Kp.setCell ?_ (by first | (left; simp; done) | (right; simp; try omega)) _) | (refine Kp.trans' ?_ (by assumption) (by simp; try omega))))) hk2)
        | (refine step_app (by rfl) _ _ 56 (by rfl) w1.heap.size 25 (.agg #[.int .i64 0, .int .i64 0, .int .i64 0]) 3 24 Try.underlying56 infoPn rfl (by decide) (by decide) (.slice p2 (N - k) c2) (N - k) (psCells (c.drop k)) (by rfl) hown2 g1 o1 ca k (psCells (c.take k)) (by rfl) (by rw [psCells_length, HLT.out]) (IsPs.flat (HTK.out _ (by (repeat (first | exact Kp.refl _ _ | assumption | refine Kp.drew ?_ | refine Kp.drewN ?_ _ | refine Kp.alloc ?_ _ | (refine Kp.setCell ?_ (by first | (left; simp; done) | (right; simp; try omega)) _) | (refine Kp.trans' ?_ (by assumption) (by simp; try omega))))))) (oneCell_ps _) (by omega) (by have a1 := hk2.size; simp at a1 ⊢; omega) ?_
           intro v4 w4 hown4 hgr4)))
    all_goals
      have hlen : N - k + k = (turnP c).length := by rw [HLN.out]; omega
      have hk4 : Kp [] w w4 := Kp.grown hk12 hgr4 (fun x hx => .inr (by have a1 := own_ge hown2 x hx; have a2 := hkp.size; simp at a1; omega))
      rw [← psCells_app, ← HT.out, hlen] at hown4
      have HO : Hid (w4.ownsRow w.heap.size 25 3 v4 (turnP c).length (psCells (turnP c))) := ⟨hown4.1, hown4.2.imp_right fun ⟨g, cap, cur, a, b, d⟩ => ⟨g, cap, cur, a, Nat.le_trans hkp.size b, d⟩⟩
      have HK4 := Lib.hid hk4
      clear hown4 hgr4 hlen hk4 hk12 hk2 hown2
      go_wp2_with fail
      go_ret
      exact ⟨_, rfl, HO.out, HK4.out⟩
end Go.Proofs.Ytpbmefojhgcniaa
namespace Go.Proofs.Ytpbmefojhgcniaa
open Go.RowKit
set_option linter.unusedVariables false
set_option linter.unusedSimpArgs false
/-- A row of the call's own from a block on, or a slice without room. -/
def GrowR (w : World) (base : Nat) (v : Value) (l : List Pn) : Prop :=
  w.ownsRow base 25 3 v l.length (psCells l) ∨ ∃ g, v = .slice (some ⟨g, 0, none⟩) l.length l.length ∧ l.length ≤ maxLen ∧ ∀ j u, (psCells l)[j]? = some u → w.cell? ⟨g, j, none⟩ = some u
theorem GrowR.form {w : World} {base : Nat} {v : Value} {l : List Pn} (h : GrowR w base v l) : ∃ p c, v = .slice p l.length c := by
  rcases h with h | ⟨g, rfl, _⟩
  · exact slice_own h
  · exact ⟨_, _, rfl⟩
theorem GrowR.kp0 {w w' : World} {base : Nat} {v : Value} {l : List Pn} (h : GrowR w base v l) (hk : Kp [] w w') : GrowR w' base v l := by
  rcases h with h | ⟨g, rfl, h1, h2⟩
  · exact .inl (hk.row h (by simp))
  · exact .inr ⟨g, rfl, h1, fun j u hu => hk.cell (h2 j u hu) (by simp)⟩
section
variable {w : World} {ops : Array Oper} {o : Oper} {a : Act} {Q : Exit → Act → World → Prop}
theorem step_growP {K : Act → World → Prop} {E : Prop} (hgd : o.guard = none) (s x : Operand) (ho : o.op = .call { callee := .builtin .append, args := #[s, x], argTypes := #[56, 56] })
    (base : Nat) (v : Value) (l : List Pn) (hs : a.eval s = v) (hg : GrowR w base v l) (G C m : Nat) (news : List Pn) (hm : news.length = m) (hm0 : 0 < m)
    (hx : a.eval x = .slice (some ⟨G, 0, none⟩) m C) (hc : ∀ j u, (psCells news)[j]? = some u → w.cell? ⟨G, 0 + j, none⟩ = some u)
    (hl : (l.length + m) * 24 ≤ 140737488355328) (hbase : base ≤ w.heap.size)
    (h : ∀ v' w', w'.ownsRow base 25 3 v' (l.length + m) (psCells (l ++ news)) → (∀ w0, w0.heap.size ≤ base → Kp [] w0 w → Kp [] w0 w') → K (a.put o.dst v') w') :
    if Region.wanted o (yielded ops a.tmps) = true then Oper.wp Try.prog o a w K Q else E := by
  have hw : Region.wanted o (yielded ops a.tmps) = true := by simp [Region.wanted, hgd]
  rw [if_pos hw]
  obtain ⟨i, hi, hz, hsize, hby⟩ := info_parts infoPn
  subst hm
  have hnl : (psCells news).length = news.length * 3 := psCells_length news
  have hll : (psCells l).length = l.length * 3 := psCells_length l
  rcases hg with hown | ⟨g, rfl, h1, h2⟩
  · obtain ⟨v', w', hrun, r1, r2, _⟩ := run_append_own (P := Try.prog) w base 56 o.type 25 i (.agg #[.int .i64 0, .int .i64 0, .int .i64 0]) 3 24 Try.underlying56 hi hz hsize hby rfl (by decide) v l.length (psCells l) hown ⟨G, 0, none⟩ news.length C (psCells news) hnl (by intro j u hj; rw [add_lit]; exact hc j u hj) (oneCell_ps news) (by unfold maxLen; omega) hl hbase
    unfold Oper.wp
    simp [execOp, ho, resolve, invoke, builtin, hs, hx, hrun, Result.andThen]
    exact h v' w' (by rw [psCells_app]; exact r1) (fun w0 h0 hk => Kp.grown hk r2 (fun k hk' => .inr (by have := own_ge hown k hk'; omega)))
  · obtain ⟨v', w', hrun, r1, r2⟩ := run_append_arg_grows (P := Try.prog) w 56 o.type 25 i (.agg #[.int .i64 0, .int .i64 0, .int .i64 0]) 3 24 Try.underlying56 hi hz hsize hby rfl (by decide) ⟨g, 0, none⟩ l.length l.length (psCells l) hll (fun j u hj => by rw [add_lit, Nat.zero_add]; exact h2 j u hj) ⟨G, 0, none⟩ news.length C (psCells news) hnl (by intro j u hj; rw [add_lit]; exact hc j u hj) (by omega) (by unfold maxLen; omega) hl
    unfold Oper.wp
    simp [execOp, ho, resolve, invoke, builtin, hs, hx, hrun, Result.andThen]
    exact h v' w' (by rw [psCells_app]; exact ⟨r1.1, r1.2.imp_right fun ⟨g, cap, cur, a, b, d⟩ => ⟨g, cap, cur, a, Nat.le_trans hbase b, d⟩⟩) (fun w0 h0 hk => Kp.grown hk r2 (fun k hk' => by cases hk'))
end
end Go.Proofs.Ytpbmefojhgcniaa
namespace Go.Proofs.Ytpbmefojhgcniaa
open Go.RowKit
set_option linter.unusedVariables false
set_option linter.unusedSimpArgs false
/-- The explicit points up to a place. -/
def expG (c : List Pn) : Nat → List Pn
  | 0 => [c.getD 0 pn0]
  | j + 1 => expG c j ++ (if (c.getD (j + 1) pn0).k = 2 ∧ (c.getD j pn0).k = 2 then [midP (c.getD j pn0) (c.getD (j + 1) pn0)] else []) ++ [c.getD (j + 1) pn0]
theorem expG_len (c : List Pn) (j : Nat) : 0 < (expG c j).length ∧ (expG c j).length ≤ 2 * j + 1 := by
  induction j with
  | zero => simp [expG]
  | succ j ih =>
    unfold expG
    simp only [List.length_append, List.length_cons, List.length_nil]
    split <;> simp <;> omega
def expC (c : List Pn) : List Pn := expG (turnP c) ((turnP c).length - 1)
theorem turnP_len (c : List Pn) (h : 0 < c.length) : 0 < (turnP c).length ∧ (turnP c).length ≤ c.length + 1 := by
  unfold turnP; split
  · rename_i h1; rw [List.length_append, List.length_drop, List.length_take]; omega
  · simp
theorem numsP_mem {c : List Pn} (h : numsP c) : ∀ p ∈ c, numF p.x = true ∧ numF p.y = true := fun p hp => by
  obtain ⟨i, hi, rfl⟩ := List.mem_iff_getElem.1 hp
  have := h i hi
  rwa [List.getD_eq_getElem?_getD, List.getElem?_eq_getElem hi] at this
theorem numsP_of {c : List Pn} (h : ∀ p ∈ c, numF p.x = true ∧ numF p.y = true) : numsP c := fun i hi => by
  rw [List.getD_eq_getElem?_getD, List.getElem?_eq_getElem hi]; exact h _ (List.getElem_mem hi)
theorem numF_mid {a b : Int} (ha : numF a = true) (hb : numF b = true) : numF ((a + b) / 2) = true := by
  obtain ⟨a1, a2⟩ := (numF_iff _).1 ha
  obtain ⟨b1, b2⟩ := (numF_iff _).1 hb
  exact (numF_iff _).2 ⟨by omega, by omega⟩
theorem numsP_turn {c : List Pn} (h0 : 0 < c.length) (h : numsP c) : numsP (turnP c) := by
  refine numsP_of fun p hp => ?_
  have hm := numsP_mem h
  unfold turnP at hp; split at hp
  · rcases List.mem_append.1 hp with hp | hp
    · exact hm p (List.mem_of_mem_drop hp)
    · exact hm p (List.mem_of_mem_take hp)
  · rcases List.mem_cons.1 hp with rfl | hp
    · have a := h (c.length - 1) (by omega)
      have b := h 0 h0
      exact ⟨numF_mid a.1 b.1, numF_mid a.2 b.2⟩
    · exact hm p hp
end Go.Proofs.Ytpbmefojhgcniaa
namespace Go.Proofs.Ytpbmefojhgcniaa
open Go.RowKit
set_option linter.unusedVariables false
set_option linter.unusedSimpArgs false
theorem ps_some {w : World} {base : Nat} {v : Value} {l : List Pn} (h : w.ownsRow base 25 3 v l.length (psCells l)) (h0 : 0 < l.length) : ∃ g c, v = .slice (some ⟨g, 0, none⟩) l.length c ∧ base ≤ g ∧ g < w.heap.size ∧ l.length ≤ c ∧ c ≤ maxLen := by
  rcases h.2 with ⟨_, e⟩ | ⟨g, cap, cur, rfl, h1, h2, h3, h4, _⟩
  · omega
  · exact ⟨g, cap, rfl, h1, (Array.getElem?_eq_some_iff.1 h2).1, h3, h4⟩
section
variable {w : World} {ops : Array Oper} {rest : List Oper} {o : Oper} {a : Act} {Q : Exit → Act → World → Prop}
theorem wpList_growP (hgd : o.guard = none) (s x : Operand) (ho : o.op = .call { callee := .builtin .append, args := #[s, x], argTypes := #[56, 56] })
    (base : Nat) (v : Value) (l : List Pn) (hs : a.eval s = v) (hg : GrowR w base v l) (G C m : Nat) (news : List Pn) (hm : news.length = m) (hm0 : 0 < m)
    (hx : a.eval x = .slice (some ⟨G, 0, none⟩) m C) (hc : ∀ j u, (psCells news)[j]? = some u → w.cell? ⟨G, 0 + j, none⟩ = some u)
    (hl : (l.length + m) * 24 ≤ 140737488355328) (hbase : base ≤ w.heap.size)
    (h : ∀ v' w', w'.ownsRow base 25 3 v' (l.length + m) (psCells (l ++ news)) → (∀ w0, w0.heap.size ≤ base → Kp [] w0 w → Kp [] w0 w') → wpList Try.prog ops Q rest (a.put o.dst v') w') : wpList Try.prog ops Q (o :: rest) a w := by
  obtain ⟨i, hi, hz, hsize, hby⟩ := info_parts infoPn
  subst hm
  have hnl : (psCells news).length = news.length * 3 := psCells_length news
  have hll : (psCells l).length = l.length * 3 := psCells_length l
  rcases hg with hown | ⟨g, rfl, h1, h2⟩
  · refine wpList_append_own w hgd s x _ ho base 25 i (.agg #[.int .i64 0, .int .i64 0, .int .i64 0]) 3 24 Try.underlying56 hi hz hsize hby rfl (by decide) v l.length (psCells l) hs hown ⟨G, 0, none⟩ news.length C (psCells news) hx hnl (by intro j u hj; rw [add_lit]; exact hc j u hj) (oneCell_ps news) (by unfold maxLen; omega) hl hbase ?_
    intro v' w' r1 r2 _
    exact h v' w' (by rw [psCells_app]; exact r1) (fun w0 h0 hk => Kp.grown hk r2 (fun k hk' => .inr (by have := own_ge hown k hk'; omega)))
  · refine wpList_append_grows w hgd s x _ ho 25 i (.agg #[.int .i64 0, .int .i64 0, .int .i64 0]) 3 24 Try.underlying56 hi hz hsize hby rfl (by decide) (some ⟨g, 0, none⟩) l.length l.length (psCells l) hs (fun hn => by cases hn) hll (fun b hb j u hj => ?_) ⟨G, 0, none⟩ news.length C (psCells news) hx hnl (by intro j u hj; rw [add_lit]; exact hc j u hj) (oneCell_ps news) (by omega) (by unfold maxLen; omega) hl ?_
    · cases hb; rw [add_lit, Nat.zero_add]; exact h2 j u hj
    · intro v' w' r1 r2
      exact h v' w' (by rw [psCells_app]; exact ⟨r1.1, r1.2.imp_right fun ⟨g, cap, cur, a, b, d⟩ => ⟨g, cap, cur, a, Nat.le_trans hbase b, d⟩⟩) (fun w0 h0 hk => Kp.grown hk r2 (fun k hk' => by cases hk'))
end
theorem GrowR.owned {w : World} {base : Nat} {v : Value} {n : Nat} {l : List Pn} (hn : n = l.length) (h : w.ownsRow base 25 3 v n (psCells l)) : GrowR w base v l := by
  subst hn; exact .inl h
theorem holdT {p : Prop} (h : Unit → p) : p := h ()
theorem expG_mid (c : List Pn) (j : Nat) (h1 : (c.getD (j + 1) pn0).k = 2) (h2 : (c.getD j pn0).k = 2) : expG c (j + 1) = (expG c j ++ [midP (c.getD j pn0) (c.getD (j + 1) pn0)]) ++ [c.getD (j + 1) pn0] := by
  rw [expG, if_pos ⟨h1, h2⟩]
theorem expG_no (c : List Pn) (j : Nat) (h : ¬ ((c.getD (j + 1) pn0).k = 2 ∧ (c.getD j pn0).k = 2)) : expG c (j + 1) = expG c j ++ [c.getD (j + 1) pn0] := by
  rw [expG, if_neg h, List.append_nil]
theorem expG_mid' (c : List Pn) (j : Nat) (hj : 1 ≤ j) (h1 : (c.getD j pn0).k = 2) (h2 : (c.getD (j - 1) pn0).k = 2) : expG c j = (expG c (j - 1) ++ [midP (c.getD (j - 1) pn0) (c.getD j pn0)]) ++ [c.getD j pn0] := by
  obtain ⟨i, rfl⟩ : ∃ i, j = i + 1 := ⟨j - 1, by omega⟩
  exact expG_mid c i h1 h2
theorem expG_no' (c : List Pn) (j : Nat) (hj : 1 ≤ j) (h : ¬ ((c.getD j pn0).k = 2 ∧ (c.getD (j - 1) pn0).k = 2)) : expG c j = expG c (j - 1) ++ [c.getD j pn0] := by
  obtain ⟨i, rfl⟩ : ∃ i, j = i + 1 := ⟨j - 1, by omega⟩
  exact expG_no c i h
theorem lit3 {w W : World} {x y k : Int} (hk : Kp [] (w.alloc (.cells #[.int .i64 x, .int .i64 y, .int .i64 k] 25)) W) : ∀ j u, (psCells [⟨x, y, k⟩])[j]? = some u → W.cell? ⟨w.heap.size, 0 + j, none⟩ = some u := by
  obtain ⟨h0, h1, h2⟩ := pbox hk
  intro j u hu
  have hj : j < 3 := (List.getElem?_eq_some_iff.1 hu).1
  obtain rfl | rfl | rfl : j = 0 ∨ j = 1 ∨ j = 2 := by omega
  · cases hu; exact h0
  · cases hu; exact h1
  · cases hu; exact h2
theorem GrowR.isps {w : World} {base : Nat} {v : Value} {l : List Pn} (h : GrowR w base v l) : IsPs w v l := by
  rcases h with h | ⟨g, rfl, h1, h2⟩
  · exact IsPs.owned rfl h
  · exact ⟨psCells_length l, .inr ⟨g, 0, l.length, rfl, Nat.le_refl _, h1, fun j u hu => by rw [Nat.zero_add]; exact h2 j u hu⟩⟩
set_option maxRecDepth 100000 in
set_option maxHeartbeats 4000000 in
theorem explicit_calls (v : Value) (c : List Pn) (w : World) (h : IsPs w v c) (h0 : 0 < c.length) (hl : c.length ≤ 1048575) (hn : numsP c) :
    Calls Try.prog 85 #[v] w fun e w' => ∃ v', e = .returned v' ∧ IsPs w' v' (expC c) ∧ (∀ b, blockOf v' = some b → w.heap.size ≤ b ∧ b < w'.heap.size) ∧ Kp [] w w' := by
  have HT := Lib.hid (turned_calls v c w h h0 (by omega) hn)
  obtain ⟨pa, ca, rfl⟩ := h.form
  have hT0 := turnP_len c h0
  have HNU := Lib.hid (numsP_turn h0 hn)
  unfold expC
  clear h hn
  generalize c.length = L at *
  generalize turnP c = T at *
  go_enter Try.func85, Try.ntmps85
  go_wp2_with fail
  refine HT.out.mono ?_; rintro e w1 ⟨v1, rfl, hown1, hk1⟩
  obtain ⟨g, c1, rfl, hg1, hg2, hc1, hc2⟩ := ps_some hown1 hT0.1
  have HP : Hid (IsPs w1 (.slice (some ⟨g, 0, none⟩) T.length c1) T) := IsPs.owned rfl hown1
  have HK1 := Lib.hid hk1
  have HG0 : Hid (GrowR w1 w1.heap.size (.slice (some ⟨g, 0, none⟩) 1 1) (expG T 0)) := by
    refine .inr ⟨g, rfl, by simp [expG, maxLen], fun j u hu => ?_⟩
    have ht := (HP.out.take 1 hT0.1).flat j u (by
      rw [show T.take 1 = [T.getD 0 pn0] by
        match T, hT0.1 with
        | p :: l, _ => rfl]; exact hu)
    rwa [Nat.zero_add] at ht
  have HB0 : Hid (∀ b, blockOf (.slice (some ⟨g, 0, none⟩) 1 1) = some b → w.heap.size ≤ b ∧ b < w1.heap.size) := fun b hb => by simp [blockOf] at hb; omega
  obtain ⟨N, hN⟩ : ∃ N, T.length = N := ⟨_, rfl⟩
  have HN := Lib.hid hN
  rw [hN] at hT0 HP hc1 ⊢
  obtain ⟨hT1, hT2⟩ := hT0
  unfold maxLen at hc2
  clear hN hown1 hk1 HT
  have b1 : (1 : Int) ≤ (c1 : Int) := by omega
  have b2 : (1 : Int) ≤ (N : Int) := by omega
  have b3 : 1 ≤ c1 := by omega
  have hww : w.heap.size ≤ w1.heap.size := HK1.out.size
  go_wp2_with fail
  go_loopw [3, 4] (fun u i wr => ∃ j : Nat, 1 ≤ j ∧ j ≤ N ∧ i = .int .i64 (j : Int) ∧ Hid (GrowR wr w1.heap.size u (expG T (j - 1)) ∧ (∀ b, blockOf u = some b → w.heap.size ≤ b ∧ b < wr.heap.size) ∧ Kp [] w1 wr)) (fun _ i _ => N - (intOf i).toNat)
  case atStart => exact ⟨1, by omega, hT1, rfl, HG0.out, HB0.out, Kp.refl _ _⟩
  case round =>
    obtain ⟨j, hj1, hj, rfl, HJ⟩ := hrel
    by_cases hlt : j < N
    · obtain ⟨g1, o1, q1, e1, _, _, x1, y1, k1⟩ := HP.out.row (i := j) (by rw [HN.out]; exact hlt)
      obtain ⟨g2, o2, q2, e2, _, _, x2, y2, k2⟩ := HP.out.row (i := j - 1) (by rw [HN.out]; omega)
      rw [HN.out] at e1 e2
      cases e1; cases e2
      rw [Nat.zero_add] at x1 y1 k1 x2 y2 k2
      have HLEN := Lib.hid (expG_len T (j - 1)).2
      have w1j : IntKind.i64.wrap ((j : Int) - 1) = (j : Int) - 1 := by rw [IntKind.wrap_i64]; omega
      have c1j : ((j : Int) - 1).toNat = j - 1 := by omega
      have c2j : (j : Int) < (N : Int) := by omega
      have c3j : (1 : Int) ≤ (j : Int) := by omega
      have c5j : (j : Int) - 1 < (N : Int) := by omega
      have hNU1 := HNU.out (j) (by rw [HN.out]; exact hlt)
      have hNU2 := HNU.out (j - 1) (by rw [HN.out]; omega)
      have HM := Lib.hid (fun W => mid_calls (T.getD (j - 1) pn0) (T.getD j pn0) W hNU2.1 hNU2.2 hNU1.1 hNU1.2)
      clear hNU1 hNU2
      obtain ⟨pu, cu, hu3⟩ := HJ.out.1.form
      subst hu3
      have HMID := Lib.hid (expG_mid' T j hj1)
      have HNO := Lib.hid (expG_no' T j hj1)
      have hwr : w1.heap.size ≤ wr.heap.size := HJ.out.2.2.size
      have hgr : g < wr.heap.size := by omega
      rw [show pnV (T.getD (j - 1) pn0) = .agg #[.int .i64 (T.getD (j - 1) pn0).x, .int .i64 (T.getD (j - 1) pn0).y, .int .i64 (T.getD (j - 1) pn0).k] from rfl, show pnV (T.getD j pn0) = .agg #[.int .i64 (T.getD j pn0).x, .int .i64 (T.getD j pn0).y, .int .i64 (T.getD j pn0).k] from rfl] at HM
      obtain ⟨M, HMM⟩ : ∃ M, Hid (midP (T.getD (j - 1) pn0) (T.getD j pn0) = M) := ⟨_, rfl⟩
      have HM2 : Hid (∀ (W : World), Calls Try.prog 98 #[.agg #[.int .i64 (T.getD (j - 1) pn0).x, .int .i64 (T.getD (j - 1) pn0).y, .int .i64 (T.getD (j - 1) pn0).k], .agg #[.int .i64 (T.getD j pn0).x, .int .i64 (T.getD j pn0).y, .int .i64 (T.getD j pn0).k]] W fun e w' => e = Ending.returned (.agg #[.int .i64 M.x, .int .i64 M.y, .int .i64 M.k]) ∧ Kp [] W w') := fun W => by
        have := HM.out W; rw [HMM.out] at this; exact this
      rw [HMM.out] at HMID
      clear HM HMM
      obtain ⟨Q1, HQ1⟩ : ∃ Q1, T.getD j pn0 = Q1 := ⟨_, rfl⟩
      obtain ⟨Q2, HQ2⟩ : ∃ Q2, T.getD (j - 1) pn0 = Q2 := ⟨_, rfl⟩
      rw [HQ1] at HMID HNO HM2 x1 y1 k1
      rw [HQ2] at HMID HNO HM2 x2 y2 k2
      clear HQ1 HQ2
      obtain ⟨X1, Y1, K1⟩ := Q1
      obtain ⟨X2, Y2, K2⟩ := Q2
      obtain ⟨mx, my, mk⟩ := M
      dsimp only at HMID HNO HM2 x1 y1 k1 x2 y2 k2
      by_cases hq1 : K1 = 2
      · by_cases hq2 : K2 = 2
        · subst hq1
          subst hq2
          have HEX := Lib.hid (HMID.out rfl rfl)
          clear HMID HNO
          have hkp : Kp [] w1 wr := HJ.out.2.2
          have HGR := Lib.hid HJ.out.1
          have hLL := HLEN.out
          obtain ⟨E, hE⟩ : ∃ E, expG T (j - 1) = E := ⟨_, rfl⟩
          rw [hE] at HEX HGR hLL ⊢
          clear hE HJ HLEN
          obtain ⟨EL, hEL⟩ : ∃ EL, E.length = EL := ⟨_, rfl⟩
          have HEL := Lib.hid hEL
          rw [hEL] at HGR hLL ⊢
          have HC1 : Hid (∀ W, Kp [] w1 W → W.cell? ⟨g, j * 3, none⟩ = some (.int .i64 X1) ∧ W.cell? ⟨g, j * 3 + 1, none⟩ = some (.int .i64 Y1) ∧ W.cell? ⟨g, j * 3 + 2, none⟩ = some (.int .i64 2)) := fun W hW => ⟨hW.cell x1 (by simp), hW.cell y1 (by simp), hW.cell k1 (by simp)⟩
          have HC2 : Hid (∀ W, Kp [] w1 W → W.cell? ⟨g, (j - 1) * 3, none⟩ = some (.int .i64 X2) ∧ W.cell? ⟨g, (j - 1) * 3 + 1, none⟩ = some (.int .i64 Y2) ∧ W.cell? ⟨g, (j - 1) * 3 + 2, none⟩ = some (.int .i64 2)) := fun W hW => ⟨hW.cell x2 (by simp), hW.cell y2 (by simp), hW.cell k2 (by simp)⟩
          clear hEL x1 y1 k1 x2 y2 k2
          obtain ⟨x1, y1, k1⟩ := HC1.out wr hkp
          obtain ⟨x2, y2, k2⟩ := HC2.out wr hkp
          have c4j : ¬ ((j : Int) - 1 < 0) := by omega
          have c6j : (j : Int) - 1 ≤ (N : Int) := by omega
          have c7j : j - 1 < N := by omega
          have d5j : wrap64 ((j : Int) - 1) = (j : Int) - 1 := by unfold wrap64; omega
          go_wp2_with fail
          go_region_held3 (fun w' => w'.cell? ⟨g, (j - 1) * 3, none⟩ = some (.int .i64 X2) ∧ w'.cell? ⟨g, (j - 1) * 3 + 1, none⟩ = some (.int .i64 Y2) ∧ w'.cell? ⟨g, (j - 1) * 3 + 2, none⟩ = some (.int .i64 2) ∧ w'.cell? ⟨g, j * 3, none⟩ = some (.int .i64 X1) ∧ w'.cell? ⟨g, j * 3 + 1, none⟩ = some (.int .i64 Y1) ∧ w'.cell? ⟨g, j * 3 + 2, none⟩ = some (.int .i64 2))
            (first | go_keep | exact ⟨(HC2.out _ hk12).1, (HC2.out _ hk12).2.1, (HC2.out _ hk12).2.2, (HC1.out _ hk12).1, (HC1.out _ hk12).2.1, (HC1.out _ hk12).2.2⟩ | exact ⟨(HC2.out _ hk14).1, (HC2.out _ hk14).2.1, (HC2.out _ hk14).2.2, (HC1.out _ hk14).1, (HC1.out _ hk14).2.1, (HC1.out _ hk14).2.2⟩)
            ((first
              | (go_at_call 98
                 refine (HM2.out _).mono ?_
                 rintro e w2 ⟨rfl, hk2⟩
                 have hk12 : Kp [] w1 w2 := hkp.trans (Kp.trans (by (repeat (first | exact Kp.refl _ _ | assumption | refine Kp.drew ?_ | refine Kp.drewN ?_ _ | refine Kp.alloc ?_ _ | (refine Kp.setCell ?_ (by first | (left; simp; done) | (right; simp; try omega)) _) | (refine Kp.trans' ?_ (by assumption) (by simp; try omega))))) hk2)
                 have hks2 : wr.heap.size ≤ w2.heap.size := by have a1 := hk2.size; simp at a1; omega)
              | (refine step_growP rfl _ _ rfl w1.heap.size (.slice pu EL cu) E (by rfl) (HGR.out.kp0 (Kp.trans (by (repeat (first | exact Kp.refl _ _ | assumption | refine Kp.drew ?_ | refine Kp.drewN ?_ _ | refine Kp.alloc ?_ _ | (refine Kp.setCell ?_ (by first | (left; simp; done) | (right; simp; try omega)) _) | (refine Kp.trans' ?_ (by assumption) (by simp; try omega))))) (Kp.trans hk2 (by (repeat (first | exact Kp.refl _ _ | assumption | refine Kp.drew ?_ | refine Kp.drewN ?_ _ | refine Kp.alloc ?_ _ | (refine Kp.setCell ?_ (by first | (left; simp; done) | (right; simp; try omega)) _) | (refine Kp.trans' ?_ (by assumption) (by simp; try omega)))))))) w2.heap.size 1 1 [⟨mx, my, mk⟩] rfl (by decide) (by rfl) (lit3 (Kp.refl _ _)) (by rw [HEL.out]; omega) (by simp; omega) ?_
                 intro v4 w4 hown4 hgr4
                 have hk14 : Kp [] w1 w4 := hgr4 w1 (Nat.le_refl _) (hk12.trans (by (repeat (first | exact Kp.refl _ _ | assumption | refine Kp.drew ?_ | refine Kp.drewN ?_ _ | refine Kp.alloc ?_ _ | (refine Kp.setCell ?_ (by first | (left; simp; done) | (right; simp; try omega)) _) | (refine Kp.trans' ?_ (by assumption) (by simp; try omega)))))))))
          obtain ⟨p4, q4, rfl⟩ := slice_own hown4
          rw [HEL.out] at hown4 ⊢
          have HGR4 : Hid (GrowR w4 w1.heap.size (.slice p4 (EL + 1) q4) (E ++ [⟨mx, my, mk⟩])) := GrowR.owned (by simp [HEL.out]) hown4
          have HEL4 : Hid ((E ++ [(⟨mx, my, mk⟩ : Pn)]).length = EL + 1) := by show _ = _; simp [HEL.out]
          obtain ⟨x1, y1, k1⟩ := HC1.out w4 hk14
          have hwr4 : w1.heap.size ≤ w4.heap.size := hk14.size
          clear hown4 hgr4 hk12 hk2 hks2 HM2 HGR HEL hkp
          obtain ⟨E4, hE4⟩ : ∃ E4, E ++ [(⟨mx, my, mk⟩ : Pn)] = E4 := ⟨_, rfl⟩
          rw [hE4] at HEX HGR4 HEL4
          clear hE4
          obtain ⟨EL4, hEL4⟩ : ∃ n, EL + 1 = n := ⟨_, rfl⟩
          have hLL4 : EL4 ≤ 2 * (j - 1) + 2 := by omega
          rw [hEL4] at HGR4 HEL4 ⊢
          clear hEL4 c4j c6j c7j d5j
          go_wp2_with (at_builtin; refine holdT ?hh)
          case hh =>
          intro _
          refine wpList_growP rfl _ _ rfl w1.heap.size _ E4 (by rfl) (by first | exact HGR4.out.kp0 (by (repeat (first | exact Kp.refl _ _ | assumption | refine Kp.drew ?_ | refine Kp.drewN ?_ _ | refine Kp.alloc ?_ _ | (refine Kp.setCell ?_ (by first | (left; simp; done) | (right; simp; try omega)) _) | (refine Kp.trans' ?_ (by assumption) (by simp; try omega)))))) w4.heap.size 1 1 [⟨X1, Y1, _⟩] rfl (by decide) rfl (lit3 (Kp.refl _ _)) (by rw [HEL4.out]; omega) (by simp; omega) ?_
          intro v9 w9 hown9 hgr9
          have hk9 : Kp [] w1 w9 := hgr9 w1 (Nat.le_refl _) (hk14.trans (by (repeat (first | exact Kp.refl _ _ | assumption | refine Kp.drew ?_ | refine Kp.drewN ?_ _ | refine Kp.alloc ?_ _ | (refine Kp.setCell ?_ (by first | (left; simp; done) | (right; simp; try omega)) _) | (refine Kp.trans' ?_ (by assumption) (by simp; try omega))))))
          rw [HEL4.out] at hown9
          obtain ⟨p9, q9, rfl⟩ := slice_own hown9
          have HR : Hid (GrowR w9 w1.heap.size (.slice p9 (EL4 + 1) q9) (expG T (j + 1 - 1)) ∧ (∀ b, blockOf (.slice p9 (EL4 + 1) q9) = some b → w.heap.size ≤ b ∧ b < w9.heap.size) ∧ Kp [] w1 w9) := by
            refine ⟨?_, fun b hb => ?_, hk9⟩
            · rw [Nat.add_sub_cancel, HEX.out]; exact GrowR.owned (by simp [HEL4.out]) hown9
            · have := hown9.lt b (blockOf_own hb); omega
          clear hown9 hgr9 hk9 x1 y1 k1 HGR4 hk14
          go_wp2_with fail
          go_roundw
          case rel => first | exact ⟨j + 1, by omega, by omega, int_eq' (by omega), HR⟩ | ((repeat apply Exists.intro); exact ⟨⟨j + 1, by omega, by omega, int_eq' (by omega), HR⟩, rfl⟩)
          case measure => simp [intOf]; omega
        · have hq2f : (K2 == 2) = false := by simpa using hq2
          subst hq1
          have HEX := Lib.hid (HNO.out (fun e => hq2 e.2))
          clear HMID HNO HM2
          have hkp : Kp [] w1 wr := HJ.out.2.2
          have HGR := Lib.hid HJ.out.1
          have hLL := HLEN.out
          obtain ⟨E, hE⟩ : ∃ E, expG T (j - 1) = E := ⟨_, rfl⟩
          rw [hE] at HEX HGR hLL ⊢
          clear hE HJ HLEN
          obtain ⟨EL, hEL⟩ : ∃ EL, E.length = EL := ⟨_, rfl⟩
          have HEL := Lib.hid hEL
          rw [hEL] at HGR hLL ⊢
          have HC1 : Hid (∀ W, Kp [] w1 W → W.cell? ⟨g, j * 3, none⟩ = some (.int .i64 X1) ∧ W.cell? ⟨g, j * 3 + 1, none⟩ = some (.int .i64 Y1) ∧ W.cell? ⟨g, j * 3 + 2, none⟩ = some (.int .i64 2)) := fun W hW => ⟨hW.cell x1 (by simp), hW.cell y1 (by simp), hW.cell k1 (by simp)⟩
          have HC2 : Hid (∀ W, Kp [] w1 W → W.cell? ⟨g, (j - 1) * 3, none⟩ = some (.int .i64 X2) ∧ W.cell? ⟨g, (j - 1) * 3 + 1, none⟩ = some (.int .i64 Y2) ∧ W.cell? ⟨g, (j - 1) * 3 + 2, none⟩ = some (.int .i64 K2)) := fun W hW => ⟨hW.cell x2 (by simp), hW.cell y2 (by simp), hW.cell k2 (by simp)⟩
          clear hEL x1 y1 k1 x2 y2 k2
          obtain ⟨x1, y1, k1⟩ := HC1.out wr hkp
          obtain ⟨x2, y2, k2⟩ := HC2.out wr hkp
          clear x2 y2
          go_wp2_with (at_builtin; refine holdT ?hh)
          case hh =>
          intro _
          refine wpList_growP rfl _ _ rfl w1.heap.size _ E (by rfl) (by first | exact HGR.out.kp0 (by (repeat (first | exact Kp.refl _ _ | assumption | refine Kp.drew ?_ | refine Kp.drewN ?_ _ | refine Kp.alloc ?_ _ | (refine Kp.setCell ?_ (by first | (left; simp; done) | (right; simp; try omega)) _) | (refine Kp.trans' ?_ (by assumption) (by simp; try omega)))))) wr.heap.size 1 1 [⟨X1, Y1, _⟩] rfl (by decide) rfl (lit3 (Kp.refl _ _)) (by rw [HEL.out]; omega) (by simp; omega) ?_
          intro v9 w9 hown9 hgr9
          have hk9 : Kp [] w1 w9 := hgr9 w1 (Nat.le_refl _) (hkp.trans (by (repeat (first | exact Kp.refl _ _ | assumption | refine Kp.drew ?_ | refine Kp.drewN ?_ _ | refine Kp.alloc ?_ _ | (refine Kp.setCell ?_ (by first | (left; simp; done) | (right; simp; try omega)) _) | (refine Kp.trans' ?_ (by assumption) (by simp; try omega))))))
          rw [HEL.out] at hown9
          obtain ⟨p9, q9, rfl⟩ := slice_own hown9
          have HR : Hid (GrowR w9 w1.heap.size (.slice p9 (EL + 1) q9) (expG T (j + 1 - 1)) ∧ (∀ b, blockOf (.slice p9 (EL + 1) q9) = some b → w.heap.size ≤ b ∧ b < w9.heap.size) ∧ Kp [] w1 w9) := by
            refine ⟨?_, fun b hb => ?_, hk9⟩
            · rw [Nat.add_sub_cancel, HEX.out]; exact GrowR.owned (by simp [HEL.out]) hown9
            · have := hown9.lt b (blockOf_own hb); omega
          clear hown9 hgr9 hk9 x1 y1 k1 HGR hkp
          go_wp2_with fail
          go_roundw
          case rel => first | exact ⟨j + 1, by omega, by omega, int_eq' (by omega), HR⟩ | ((repeat apply Exists.intro); exact ⟨⟨j + 1, by omega, by omega, int_eq' (by omega), HR⟩, rfl⟩)
          case measure => simp [intOf]; omega
      · have hq1f : (K1 == 2) = false := by simpa using hq1
        have HEX := Lib.hid (HNO.out (fun e => hq1 e.1))
        clear HMID HNO HM2
        have hkp : Kp [] w1 wr := HJ.out.2.2
        have HGR := Lib.hid HJ.out.1
        have hLL := HLEN.out
        obtain ⟨E, hE⟩ : ∃ E, expG T (j - 1) = E := ⟨_, rfl⟩
        rw [hE] at HEX HGR hLL ⊢
        clear hE HJ HLEN
        obtain ⟨EL, hEL⟩ : ∃ EL, E.length = EL := ⟨_, rfl⟩
        have HEL := Lib.hid hEL
        rw [hEL] at HGR hLL ⊢
        have HC1 : Hid (∀ W, Kp [] w1 W → W.cell? ⟨g, j * 3, none⟩ = some (.int .i64 X1) ∧ W.cell? ⟨g, j * 3 + 1, none⟩ = some (.int .i64 Y1) ∧ W.cell? ⟨g, j * 3 + 2, none⟩ = some (.int .i64 K1)) := fun W hW => ⟨hW.cell x1 (by simp), hW.cell y1 (by simp), hW.cell k1 (by simp)⟩
        have HC2 : Hid (∀ W, Kp [] w1 W → W.cell? ⟨g, (j - 1) * 3, none⟩ = some (.int .i64 X2) ∧ W.cell? ⟨g, (j - 1) * 3 + 1, none⟩ = some (.int .i64 Y2) ∧ W.cell? ⟨g, (j - 1) * 3 + 2, none⟩ = some (.int .i64 K2)) := fun W hW => ⟨hW.cell x2 (by simp), hW.cell y2 (by simp), hW.cell k2 (by simp)⟩
        clear hEL x1 y1 k1 x2 y2 k2
        obtain ⟨x1, y1, k1⟩ := HC1.out wr hkp
        obtain ⟨x2, y2, k2⟩ := HC2.out wr hkp
        clear x2 y2
        go_wp2_with (at_builtin; refine holdT ?hh)
        case hh =>
        intro _
        refine wpList_growP rfl _ _ rfl w1.heap.size _ E (by rfl) (by first | exact HGR.out.kp0 (by (repeat (first | exact Kp.refl _ _ | assumption | refine Kp.drew ?_ | refine Kp.drewN ?_ _ | refine Kp.alloc ?_ _ | (refine Kp.setCell ?_ (by first | (left; simp; done) | (right; simp; try omega)) _) | (refine Kp.trans' ?_ (by assumption) (by simp; try omega)))))) wr.heap.size 1 1 [⟨X1, Y1, _⟩] rfl (by decide) rfl (lit3 (Kp.refl _ _)) (by rw [HEL.out]; omega) (by simp; omega) ?_
        intro v9 w9 hown9 hgr9
        have hk9 : Kp [] w1 w9 := hgr9 w1 (Nat.le_refl _) (hkp.trans (by (repeat (first | exact Kp.refl _ _ | assumption | refine Kp.drew ?_ | refine Kp.drewN ?_ _ | refine Kp.alloc ?_ _ | (refine Kp.setCell ?_ (by first | (left; simp; done) | (right; simp; try omega)) _) | (refine Kp.trans' ?_ (by assumption) (by simp; try omega))))))
        rw [HEL.out] at hown9
        obtain ⟨p9, q9, rfl⟩ := slice_own hown9
        have HR : Hid (GrowR w9 w1.heap.size (.slice p9 (EL + 1) q9) (expG T (j + 1 - 1)) ∧ (∀ b, blockOf (.slice p9 (EL + 1) q9) = some b → w.heap.size ≤ b ∧ b < w9.heap.size) ∧ Kp [] w1 w9) := by
          refine ⟨?_, fun b hb => ?_, hk9⟩
          · rw [Nat.add_sub_cancel, HEX.out]; exact GrowR.owned (by simp [HEL.out]) hown9
          · have := hown9.lt b (blockOf_own hb); omega
        clear hown9 hgr9 hk9 x1 y1 k1 HGR hkp
        go_wp2_with fail
        go_roundw
        case rel => first | exact ⟨j + 1, by omega, by omega, int_eq' (by omega), HR⟩ | ((repeat apply Exists.intro); exact ⟨⟨j + 1, by omega, by omega, int_eq' (by omega), HR⟩, rfl⟩)
        case measure => simp [intOf]; omega
    · obtain rfl : N = j := by omega
      have HG := Lib.hid HJ.out.1.isps
      have HB := Lib.hid HJ.out.2.1
      have HK := Lib.hid (HK1.out.trans HJ.out.2.2)
      clear HJ
      go_wp2_with fail
      go_ret
      exact ⟨_, rfl, by rw [HN.out]; exact HG.out, HB.out, HK.out⟩
end Go.Proofs.Ytpbmefojhgcniaa
namespace Go.Proofs.Ytpbmefojhgcniaa
open Go.RowKit
set_option linter.unusedVariables false
set_option linter.unusedSimpArgs false
theorem checkO_zero {o : List (List Pn)} (h : checkO o = 0) : o.length ≤ 256 ∧ cnt o ≤ 4096 ∧ ∀ j, j < o.length → mayCo (o.getD j []) = true := by
  unfold checkO at h
  split at h
  · omega
  · rename_i h1
    split at h
    · rename_i h2
      refine ⟨by omega, by omega, fun j hj => ?_⟩
      rw [List.all_eq_true] at h2
      rw [List.getD_eq_getElem?_getD, List.getElem?_eq_getElem hj]
      exact h2 _ (List.getElem_mem hj)
    · omega
theorem mayTo_at {c : List Pn} {n i : Nat} (h : mayTo c n = true) (hi : i < n) : mayPn c i = true := by
  unfold mayTo at h; rw [List.all_eq_true] at h; exact h i (by simpa using hi)
theorem mayCo_facts {c : List Pn} (h : mayCo c = true) : 0 < c.length ∧ numsP c ∧ ∀ i, i < c.length → mayPn c i = true := by
  unfold mayCo at h
  rw [Bool.and_eq_true, decide_eq_true_eq] at h
  refine ⟨h.1, fun i hi => ?_, fun i hi => mayTo_at h.2 hi⟩
  have := mayTo_at h.2 hi
  unfold mayPn at this
  rw [Bool.and_eq_true, Bool.and_eq_true] at this
  exact ⟨this.1, this.2.1⟩
theorem expC_len (c : List Pn) (h : 0 < c.length) : 0 < (expC c).length ∧ (expC c).length ≤ 2 * c.length + 1 := by
  have h1 := turnP_len c h
  have h2 := expG_len (turnP c) ((turnP c).length - 1)
  unfold expC; omega
theorem WOut.base {w : World} {base b2 : Nat} {v : Value} {o : List (List Pn)} (h : WOut w base v o) (hb : b2 ≤ base) : WOut w b2 v o := by
  obtain ⟨vs, h1, h2⟩ := h
  exact ⟨vs, ⟨h1.1, h1.2.imp_right fun ⟨g, cap, cur, a, b, d⟩ => ⟨g, cap, cur, a, Nat.le_trans hb b, d⟩⟩, fun i hi => ⟨(h2 i hi).1, fun b hbb => ⟨((h2 i hi).2 b hbb).1, ((h2 i hi).2 b hbb).2.1, Nat.le_trans hb ((h2 i hi).2 b hbb).2.2⟩⟩⟩
/-- An outline, made explicit. -/
def expO (o : List (List Pn)) : List (List Pn) := o.map expC
theorem map_take {o : List (List Pn)} {j : Nat} (f : List Pn → List Pn) (hj : j < o.length) : (o.map f).take (j + 1) = (o.map f).take j ++ [f (o.getD j [])] := by
  rw [List.take_succ_eq_append_getElem (by simpa using hj), List.getElem_map, List.getD_eq_getElem?_getD, List.getElem?_eq_getElem hj]; rfl
set_option maxRecDepth 100000 in
set_option maxHeartbeats 4000000 in
theorem oexplicit_no (v : Value) (o : List (List Pn)) (w : World) (hv : IsOut w v o) (hs : smallO o) (hc : cnt o ≤ 4611686018427387904) (E : Int) (hE : checkO o = E) (hE0 : E ≠ 0) :
    Calls Try.prog 75 #[v] w fun e w' => e = .returned (.tuple #[.slice none 0 0, .int .i64 E]) ∧ Kp [] w w' := by
  have HC := Lib.hid (check_calls v o w hv hs hc)
  rw [hE] at HC
  obtain ⟨pa, ca, rfl⟩ := hv.form
  generalize o.length = N at *
  have hE1 : (E == 0) = false := by simpa using hE0
  clear hE hv
  go_enter Try.func75, Try.ntmps75
  go_wp2_with fail
  refine HC.out.mono ?_; rintro e w1 ⟨rfl, hk1⟩
  go_wp2_with fail
  go_ret2
  exact ⟨rfl, hk1⟩
set_option maxRecDepth 100000 in
set_option maxHeartbeats 4000000 in
theorem oexplicit_ok (v : Value) (o : List (List Pn)) (w : World) (hv : IsOut w v o) (hE : checkO o = 0) :
    Calls Try.prog 75 #[v] w fun e w' => ∃ v', e = .returned (.tuple #[v', .int .i64 0]) ∧ WOut w' w.heap.size v' (expO o) ∧ Kp [] w w' := by
  obtain ⟨hz1, hz2, hz3⟩ := checkO_zero hE
  have HF : Hid (∀ j, j < o.length → (o.getD j []).length ≤ 4096) := fun j hj => by have := len_le_cnt o hj; omega
  have HC := Lib.hid (check_calls v o w hv (fun j hj => by have := HF.out j hj; omega) (by omega))
  rw [hE] at HC
  obtain ⟨i0, hi, hzz0, hzz1, hzz2⟩ := info_parts infoPs
  have HV := Lib.hid hv
  have HM := Lib.hid hz3
  obtain ⟨pa, ca, rfl⟩ := hv.form
  obtain ⟨N, hN⟩ : ∃ N, o.length = N := ⟨_, rfl⟩
  have HN := Lib.hid hN
  have hN1 : N ≤ 256 := by rw [← hN]; exact hz1
  rw [hN] at HV HC ⊢
  clear hN hv hz1 hz2 hz3 hE
  go_enter Try.func75, Try.ntmps75
  go_wp2_with fail
  refine HC.out.mono ?_; rintro e w0 ⟨rfl, hk0⟩
  have HK0 := Lib.hid hk0
  have HV0 := Lib.hid (HV.out.kp0 hk0)
  clear hk0 HC HV
  go_wp2_with fail
  go_loopw [5, 7, 15] (fun u _ i wr => ∃ (j : Nat) (l : Value), j ≤ N ∧ i = .int .i64 j ∧ l = u ∧ Hid (WOut wr w0.heap.size l ((expO o).take j) ∧ Kp [] w0 wr)) (fun _ _ i _ => N - (intOf i).toNat)
  case atStart => exact ⟨0, _, by omega, rfl, rfl, WOut.nil _ _, Kp.refl _ _⟩
  case round =>
    obtain ⟨j, l, hj, rfl, rfl, HJ⟩ := hrel
    by_cases hlt : j < N
    · have hjo : j < o.length := by rw [HN.out]; exact hlt
      obtain ⟨g1, o1, c1, p1, cv, e1, _, _, h1, hp⟩ := (HV0.out.kp0 HJ.out.2).row hjo
      rw [HN.out] at e1
      cases e1
      have hL := HF.out j hjo
      obtain ⟨hM1, hM2, _⟩ := mayCo_facts (HM.out j hjo)
      have HTK : Hid ((expO o).take (j + 1) = (expO o).take j ++ [expC (o.getD j [])]) := map_take expC hjo
      have HTL : Hid (((expO o).take j).length = j) := by show _ = _; unfold expO; rw [List.length_take, List.length_map]; omega
      obtain ⟨vs, HW⟩ : ∃ vs, Hid (WVs wr w0.heap.size l vs ((expO o).take j)) := by obtain ⟨vs, h⟩ := HJ.out.1; exact ⟨vs, h⟩
      have hr := HW.out.1
      rw [HTL.out] at hr
      obtain ⟨pl, cl, hl⟩ := slice_own hr
      subst hl
      have HR := Lib.hid hr
      have HOB := Lib.hid (fun b (hb : (Value.slice pl j cl).ownBlock = some b) => (hr.lt b hb).2)
      have HCP := Lib.hid (explicit_calls _ _ wr hp hM1 (by omega) hM2)
      have HKW : Hid (Kp [] w0 wr) := HJ.out.2
      generalize o.getD j [] = c at *
      generalize expO o = X at *
      generalize expC c = d at *
      clear hp hr hjo HJ hM2
      obtain ⟨L, hcl⟩ : ∃ L, c.length = L := ⟨_, rfl⟩
      rw [hcl] at h1 HCP hL
      clear hcl hM1 hL
      go_wp2_with fail
      refine HCP.out.mono ?_; rintro e w1 ⟨v1, rfl, hi1, hb1, hk1⟩
      obtain ⟨pv, qv, hv1⟩ := hi1.form
      subst hv1
      have HI1 := Lib.hid hi1
      have HB1 := Lib.hid hb1
      have HW1 := Lib.hid (HW.out.kp0 hk1)
      have HR1 := Lib.hid (hk1.row HR.out (by simp))
      have HK1 := Lib.hid hk1
      have hsz1 : wr.heap.size ≤ w1.heap.size := HK1.out.size
      have hszw : w0.heap.size ≤ wr.heap.size := HKW.out.size
      have hvl : vs.length = j := by have := HR1.out.1; omega
      clear hi1 hb1 hk1 HW HR HCP
      generalize d.length = D at *
      go_wp2_with (at_builtin; refine wpList_append_lies _ rfl _ _ 37 rfl w0.heap.size 56 i0 (.slice none 0 0) 1 24 Try.underlying37 hi hzz0 hzz1 hzz2 rfl (by decide) (.slice pl j cl) j vs rfl ?hown ⟨w1.heap.size, 0, none⟩ 1 1 [.slice pv D qv] rfl rfl ?hnews ?hone (by decide) ?hm ?hb1 ?hb2 (w1.heap.size + 1) ?hH ?hk)
      case hown => exact Kp.row (S := []) (by (repeat (first | exact Kp.refl _ _ | assumption | refine Kp.drew ?_ | refine Kp.drewN ?_ _ | refine Kp.alloc ?_ _ | (refine Kp.setCell ?_ (by first | (left; simp; done) | (right; simp; try omega)) _) | (refine Kp.trans' ?_ (by assumption) (by simp; try omega))))) HR1.out (by simp)
      case hnews => exact World.news_of_block (heap_alloc_new w1 _)
      case hone => intro u hu; simp at hu; subst hu; rfl
      case hm => unfold maxLen; omega
      case hb1 => omega
      case hb2 => simp; omega
      case hH => simp
      case hk =>
      intro g4 c4 w4 hown hgr hat hlt4
      have hka : Kp [] w1 (w1.alloc (.cells #[.slice pv D qv] 56)) := by (repeat (first | exact Kp.refl _ _ | assumption | refine Kp.drew ?_ | refine Kp.drewN ?_ _ | refine Kp.alloc ?_ _ | (refine Kp.setCell ?_ (by first | (left; simp; done) | (right; simp; try omega)) _) | (refine Kp.trans' ?_ (by assumption) (by simp; try omega))))
      have HW2 := HW1.out.kp0 hka
      have hpush := WVs.push (H := w1.heap.size + 1) HW2 ((HI1.out : IsPs w1 (.slice pv D qv) d).kp0 hka) (fun b hb => by
        have h9 := HB1.out b hb
        exact ⟨fun e => by have := HOB.out b e; omega, by simp; omega, by omega⟩) (by rw [HTL.out]; exact hown) hgr hat (by simp)
      rw [HTL.out, ← HTK.out] at hpush
      have HPU : Hid (WOut w4 w0.heap.size (.slice (some ⟨g4, 0, none⟩) (j + 1) c4) (X.take (j + 1)) ∧ Kp [] w0 w4) := ⟨⟨_, hpush⟩, by
        have hkk : Kp [] w0 wr := HKW.out
        exact Kp.grown (hkk.trans (HK1.out.trans hka)) hgr (fun k hk => .inr (own_ge HR1.out k hk))⟩
      clear hown hgr hat hka HW2 hpush hlt4
      go_wp2_with fail
      go_roundw
      case rel => first | exact ⟨j + 1, _, by omega, int_eq' (by omega), rfl, HPU⟩ | ((repeat apply Exists.intro); exact ⟨⟨j + 1, _, by omega, int_eq' (by omega), rfl, HPU⟩, rfl⟩)
      case measure => simp [intOf]; omega
    · obtain rfl : j = N := by omega
      have HE := Lib.hid HJ.out
      rw [List.take_of_length_le (by unfold expO; rw [List.length_map, HN.out]; exact Nat.le_refl _)] at HE
      have HW : Hid (WOut wr w.heap.size l (expO o)) := HE.out.1.base (HK0.out.size)
      have HK : Hid (Kp [] w wr) := HK0.out.trans HE.out.2
      clear HJ HE
      go_wp2_with fail
      go_ret2
      exact ⟨_, rfl, HW.out, HK.out⟩
end Go.Proofs.Ytpbmefojhgcniaa
namespace Go.Proofs.Ytpbmefojhgcniaa
open Go.RowKit
set_option linter.unusedVariables false
set_option linter.unusedSimpArgs false
/-- What the reference has laid behind k points (from place f on). -/
def outR (c : List Pn) (f : Nat) (pre : List Pn) : Nat → List Pn
  | 0 => pre
  | k + 1 => outR c f pre k ++ [ringAt c ((f : Int) + k)] ++ (if ((ringAt c ((f : Int) + k)).k = 2 ∧ (ringAt c ((f : Int) + k + 1)).k = 2) ∧ ¬ (k + 1 = c.length ∧ (c.getD f pn0).k = 2) then [midP (ringAt c ((f : Int) + k)) (ringAt c ((f : Int) + k + 1))] else [])
theorem ringAt_lt (c : List Pn) (i : Nat) (h : i < c.length) : ringAt c (i : Int) = c.getD i pn0 := by
  unfold ringAt
  have : (i : Int) % (c.length : Int) = i := Int.emod_eq_of_lt (by omega) (by omega)
  rw [this]; rfl
theorem ringAt_wrap (c : List Pn) (i : Nat) (h1 : c.length ≤ i) (h2 : i < 2 * c.length) : ringAt c (i : Int) = c.getD (i - c.length) pn0 := by
  have h := ringAt_lt c (i - c.length) (by omega)
  rw [← h, ← ring_back c (((i - c.length : Nat)) : Int)]
  congr 1; omega
theorem turn_at (c : List Pn) (k : Nat) (hf : onAt c < c.length) (hk : k < c.length) : (turnP c).getD k pn0 = ringAt c ((onAt c : Int) + k) := by
  unfold turnP; rw [if_pos hf]
  have e : ((onAt c : Int) + k) = ((onAt c + k : Nat) : Int) := by omega
  rw [e, List.getD_eq_getElem?_getD]
  by_cases h : onAt c + k < c.length
  · rw [ringAt_lt c _ h, List.getElem?_append_left (by rw [List.length_drop]; omega), List.getElem?_drop, List.getD_eq_getElem?_getD]
  · rw [ringAt_wrap c _ (by omega) (by omega), List.getElem?_append_right (by rw [List.length_drop]; omega), List.length_drop, List.getElem?_take, if_pos (by omega), List.getD_eq_getElem?_getD]
    congr 2; omega
theorem onAt_k (c : List Pn) (h : onAt c < c.length) : (c.getD (onAt c) pn0).k = 1 := by
  induction c with
  | nil => simp at h
  | cons p l ih =>
    unfold onAt at h ⊢
    split
    · rename_i h1; simpa using h1
    · rename_i h1
      rw [if_neg h1] at h
      simp only [List.length_cons] at h
      simpa using ih (by omega)
theorem outR_on (c : List Pn) (h : onAt c < c.length) : ∀ k, k < c.length → outR c (onAt c) [] (k + 1) = expG (turnP c) k ++ (if k + 1 < c.length ∧ ((turnP c).getD k pn0).k = 2 ∧ ((turnP c).getD (k + 1) pn0).k = 2 then [midP ((turnP c).getD k pn0) ((turnP c).getD (k + 1) pn0)] else []) := by
  intro k
  induction k with
  | zero =>
    intro hk
    have h0 := turn_at c 0 h hk
    have hk1 : ((turnP c).getD 0 pn0).k = 1 := by rw [h0]; have := ringAt_lt c (onAt c) h; simp only [Int.ofNat_zero, Int.add_zero]; first | (rw [this]; exact onAt_k c h) | (simp; rw [this]; exact onAt_k c h)
    rw [outR, outR, ← h0, if_neg (by rw [hk1]; simp), if_neg (by rw [hk1]; simp)]
    rfl
  | succ k ih =>
    intro hk
    have hkk := ih (by omega)
    have h1 := turn_at c (k + 1) h hk
    have e1 : ((onAt c : Int) + ((k + 1 : Nat) : Int)) = (onAt c : Int) + k + 1 := by omega
    rw [outR, hkk, ← h1, expG]
    have hon : ¬ (c.getD (onAt c) pn0).k = 2 := by rw [onAt_k c h]; simp
    have c1 : (k + 1 < c.length ∧ ((turnP c).getD k pn0).k = 2 ∧ ((turnP c).getD (k + 1) pn0).k = 2) = (((turnP c).getD (k + 1) pn0).k = 2 ∧ ((turnP c).getD k pn0).k = 2) := propext ⟨fun x => ⟨x.2.2, x.2.1⟩, fun x => ⟨by omega, x.2, x.1⟩⟩
    simp only [c1]
    have key : (if (((turnP c).getD (k + 1) pn0).k = 2 ∧ (ringAt c ((onAt c : Int) + ((k + 1 : Nat) : Int) + 1)).k = 2) ∧ ¬ (k + 1 + 1 = c.length ∧ (c.getD (onAt c) pn0).k = 2) then [midP ((turnP c).getD (k + 1) pn0) (ringAt c ((onAt c : Int) + ((k + 1 : Nat) : Int) + 1))] else []) = (if k + 1 + 1 < c.length ∧ ((turnP c).getD (k + 1) pn0).k = 2 ∧ ((turnP c).getD (k + 1 + 1) pn0).k = 2 then [midP ((turnP c).getD (k + 1) pn0) ((turnP c).getD (k + 1 + 1) pn0)] else []) := by
      by_cases hl : k + 1 + 1 < c.length
      · have h2 := turn_at c (k + 1 + 1) h hl
        have e2 : ((onAt c : Int) + ((k + 1 : Nat) : Int) + 1) = (onAt c : Int) + ((k + 1 + 1 : Nat) : Int) := by omega
        rw [e2, ← h2]
        have c2 : ((((turnP c).getD (k + 1) pn0).k = 2 ∧ ((turnP c).getD (k + 1 + 1) pn0).k = 2) ∧ ¬ (k + 1 + 1 = c.length ∧ (c.getD (onAt c) pn0).k = 2)) = (k + 1 + 1 < c.length ∧ ((turnP c).getD (k + 1) pn0).k = 2 ∧ ((turnP c).getD (k + 1 + 1) pn0).k = 2) := propext ⟨fun x => ⟨hl, x.1⟩, fun x => ⟨x.2, fun y => hon y.2⟩⟩
        simp only [c2]
      · have h2 : (ringAt c ((onAt c : Int) + ((k + 1 : Nat) : Int) + 1)).k = 1 := by
          have e2 : ((onAt c : Int) + ((k + 1 : Nat) : Int) + 1) = ((onAt c : Int)) + (c.length : Int) := by omega
          rw [e2, ring_back, ringAt_lt c _ h]; exact onAt_k c h
        rw [if_neg (fun x => by rw [h2] at x; exact absurd x.1.2 (by decide)), if_neg (fun x => hl x.1)]
    rw [key]
theorem outR_expC (c : List Pn) (h : onAt c < c.length) : outR c (onAt c) [] c.length = expC c := by
  have hl : (turnP c).length = c.length := by unfold turnP; rw [if_pos h, List.length_append, List.length_drop, List.length_take]; omega
  obtain ⟨n, hn⟩ : ∃ n, c.length = n + 1 := ⟨c.length - 1, by omega⟩
  have := outR_on c h n (by omega)
  rw [hn, this, if_neg (by omega), List.append_nil]
  unfold expC; rw [hl, hn]; rfl
/-- A contour without a point on the outline has control points of one kind alone. -/
theorem quads {c : List Pn} (hm : mayCo c = true) (h : c.length ≤ onAt c) : ∀ i, i < c.length → (c.getD i pn0).k = 2 := by
  obtain ⟨h0, _, h2⟩ := mayCo_facts hm
  have hoff := offTo_onAt c
  have hno : ∀ i, i < c.length → (c.getD i pn0).k ≠ 1 := fun i hi => hoff i (by omega)
  have hring : ∀ i : Int, ((ringAt c i).k == 1) = false := fun i => by
    obtain ⟨k, hk, _, hr⟩ := ring_idx c i h0
    rw [hr]; simpa using hno k hk
  intro i hi
  have := h2 i hi
  unfold mayPn standsB kindsB at this
  have h1 := hno i hi
  simp only [hring, Bool.false_and, Bool.and_false, Bool.or_false, Bool.and_eq_true, Bool.or_eq_true, beq_iff_eq] at this
  rcases this.2.2 with h | h
  · exact absurd h h1
  · simpa using h
theorem expG_succ (c : List Pn) (j : Nat) : expG c (j + 1) = expG c j ++ (if (c.getD (j + 1) pn0).k = 2 ∧ (c.getD j pn0).k = 2 then [midP (c.getD j pn0) (c.getD (j + 1) pn0)] else []) ++ [c.getD (j + 1) pn0] := rfl
theorem outR_none (c : List Pn) (hm : mayCo c = true) (h : c.length ≤ onAt c) : ∀ k, k < c.length → outR c 0 [midP (c.getD (c.length - 1) pn0) (c.getD 0 pn0)] (k + 1) = expG (turnP c) (k + 1) ++ (if k + 1 < c.length then [midP (c.getD k pn0) (c.getD (k + 1) pn0)] else []) := by
  have hq := quads hm h
  have hT : turnP c = midP (c.getD (c.length - 1) pn0) (c.getD 0 pn0) :: c := by unfold turnP; rw [if_neg (by omega)]
  have hTs : ∀ k, (turnP c).getD (k + 1) pn0 = c.getD k pn0 := fun k => by rw [hT]; simp
  have ring0 : ∀ k, k < c.length → ringAt c ((0 : Nat) + (k : Int)) = c.getD k pn0 := fun k hk => by rw [Int.natCast_zero, Int.zero_add]; exact ringAt_lt c k hk
  intro k
  have step : ∀ k, k < c.length → (if ((ringAt c ((0 : Nat) + (k : Int))).k = 2 ∧ (ringAt c ((0 : Nat) + (k : Int) + 1)).k = 2) ∧ ¬ (k + 1 = c.length ∧ (c.getD 0 pn0).k = 2) then [midP (ringAt c ((0 : Nat) + (k : Int))) (ringAt c ((0 : Nat) + (k : Int) + 1))] else []) = (if k + 1 < c.length then [midP (c.getD k pn0) (c.getD (k + 1) pn0)] else []) := by
    intro k hk
    rw [ring0 k hk]
    have e : ((0 : Nat) : Int) + (k : Int) + 1 = (0 : Nat) + ((k + 1 : Nat) : Int) := by omega
    rw [e]
    by_cases hl : k + 1 < c.length
    · rw [ring0 (k + 1) hl, if_pos ⟨⟨hq k hk, hq _ hl⟩, fun x => by omega⟩, if_pos hl]
    · rw [if_neg (fun x => x.2 ⟨by omega, hq 0 (by omega)⟩), if_neg hl]
  induction k with
  | zero =>
    intro hk
    have e0 : expG (turnP c) (0 + 1) = [midP (c.getD (c.length - 1) pn0) (c.getD 0 pn0)] ++ [c.getD 0 pn0] := by
      rw [expG_succ, hTs, if_neg (fun x => by rw [hT] at x; exact absurd x.2 (by simp [midP])), List.append_nil, hT]; rfl
    rw [outR, outR, step 0 hk, ring0 0 hk, e0]
  | succ k ih =>
    intro hk
    have e1 : expG (turnP c) (k + 1 + 1) = expG (turnP c) (k + 1) ++ [midP (c.getD k pn0) (c.getD (k + 1) pn0)] ++ [c.getD (k + 1) pn0] := by
      rw [expG_succ, hTs, hTs, if_pos ⟨hq _ hk, hq _ (by omega)⟩]
    rw [outR, ih (by omega), step (k + 1) hk, ring0 (k + 1) hk, e1, if_pos (show k + 1 < c.length by omega)]
theorem outR_expC0 (c : List Pn) (hm : mayCo c = true) (h : c.length ≤ onAt c) : outR c 0 [midP (c.getD (c.length - 1) pn0) (c.getD 0 pn0)] c.length = expC c := by
  obtain ⟨h0, _⟩ := mayCo_facts hm
  obtain ⟨n, hn⟩ : ∃ n, c.length = n + 1 := ⟨c.length - 1, by omega⟩
  have := outR_none c hm h n (by omega)
  have hl : (turnP c).length = c.length + 1 := by unfold turnP; rw [if_neg (by omega)]; simp
  unfold expC
  rw [hl, Nat.add_sub_cancel]
  conv => lhs; rw [hn]
  rw [hn] at this ⊢
  rw [this, if_neg (by omega), List.append_nil]
theorem outR_len (c : List Pn) (f : Nat) (pre : List Pn) (k : Nat) : (outR c f pre k).length ≤ pre.length + 2 * k := by
  induction k with
  | zero => simp [outR]
  | succ k ih => unfold outR; simp only [List.length_append, List.length_cons, List.length_nil]; split <;> simp <;> omega
end Go.Proofs.Ytpbmefojhgcniaa

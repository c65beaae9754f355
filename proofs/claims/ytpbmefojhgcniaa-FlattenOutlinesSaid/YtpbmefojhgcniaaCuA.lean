/- curve, and its reference: the small functions. (Written by wip/curve/gencua.py.) -/
import Derived.Test.YtpbmefojhgcniaaCuPlainB
import Derived.Test.YtpbmefojhgcniaaPair
import Derived.Lib.Hide
import Derived.WalkKit
import Derived.ProofKit
import Derived.BigQuiet
import Derived.Deep.QuietTactic
import Derived.WalkLawsBesides
import Derived.WalkSpells
import Derived.Test.YtpbmefojhgcniaaProg
namespace Go.Proofs.Ytpbmefojhgcniaa
open Go.RowKit
set_option linter.unusedVariables false
set_option linter.unusedSimpArgs false
def dotV (p : Int × Int) : Value := .agg #[.int .i64 p.1, .int .i64 p.2]
def bowV (q : Bw) : Value := .agg #[.int .i64 q.k, .int .i64 q.a.1, .int .i64 q.a.2, .int .i64 q.b.1, .int .i64 q.b.2, .int .i64 q.c.1, .int .i64 q.c.2, .int .i64 q.d.1, .int .i64 q.d.2]
/-- What a box of two, of nine cells holds, later on. -/
theorem box2 {w W : World} {t : TypeId} {v0 v1 : Value} (hk : Kp [] (w.alloc (.cells #[v0, v1] t)) W) : W.cell? ⟨w.heap.size, 0, none⟩ = some v0 ∧ W.cell? ⟨w.heap.size, 1, none⟩ = some v1 :=
  ⟨hk.cell (cell_of_row _ w.heap.size 0 _ t (0, 0) (heap_alloc_new w _)) (by simp), hk.cell (cell_of_row _ w.heap.size 1 _ t (0, 0) (heap_alloc_new w _)) (by simp)⟩
theorem box9 {w W : World} {t : TypeId} {v0 v1 v2 v3 v4 v5 v6 v7 v8 : Value} (hk : Kp [] (w.alloc (.cells #[v0, v1, v2, v3, v4, v5, v6, v7, v8] t)) W) :
    W.cell? ⟨w.heap.size, 0, none⟩ = some v0 ∧ W.cell? ⟨w.heap.size, 1, none⟩ = some v1 ∧ W.cell? ⟨w.heap.size, 2, none⟩ = some v2 ∧ W.cell? ⟨w.heap.size, 3, none⟩ = some v3 ∧ W.cell? ⟨w.heap.size, 4, none⟩ = some v4 ∧ W.cell? ⟨w.heap.size, 5, none⟩ = some v5 ∧ W.cell? ⟨w.heap.size, 6, none⟩ = some v6 ∧ W.cell? ⟨w.heap.size, 7, none⟩ = some v7 ∧ W.cell? ⟨w.heap.size, 8, none⟩ = some v8 :=
  have g := fun (j : Nat) => cell_of_row (w.alloc (.cells #[v0, v1, v2, v3, v4, v5, v6, v7, v8] t)) w.heap.size j _ t (0, 0) (heap_alloc_new w _)
  ⟨hk.cell (g 0) (by simp), hk.cell (g 1) (by simp), hk.cell (g 2) (by simp), hk.cell (g 3) (by simp), hk.cell (g 4) (by simp), hk.cell (g 5) (by simp), hk.cell (g 6) (by simp), hk.cell (g 7) (by simp), hk.cell (g 8) (by simp)⟩
theorem cwithin_calls (x : Int) (w : World) : Calls Try.prog 107 #[.int .i64 x] w fun e w' => e = .returned (.bool (inD x)) ∧ Kp [] w w' := by
  by_cases h1 : -1048576 ≤ x
  · have hE : Hid (inD x = decide (x ≤ 1048576)) := by unfold Hid inD; rw [decide_eq_true h1]; rfl
    go_enter Try.func107, Try.ntmps107
    go_wp2
    go_ret
    exact ⟨by rw [hE.out]; first | done | rfl | simp, by (repeat (first | exact Kp.refl _ _ | assumption | refine Kp.drew ?_ | refine Kp.drewN ?_ _ | refine Kp.alloc ?_ _ | (refine Kp.setCell ?_ (by first | (left; simp; done) | (right; simp; try omega)) _) | (refine Kp.trans' ?_ (by assumption) (by simp; try omega))))⟩
  · have hE : Hid (inD x = false) := by unfold Hid inD; rw [decide_eq_false h1]; simp
    have h1' : decide (-1048576 ≤ x) = false := decide_eq_false h1
    go_enter Try.func107, Try.ntmps107
    go_wp2
    go_ret
    exact ⟨by rw [hE.out]; first | done | rfl | simp, by (repeat (first | exact Kp.refl _ _ | assumption | refine Kp.drew ?_ | refine Kp.drewN ?_ _ | refine Kp.alloc ?_ _ | (refine Kp.setCell ?_ (by first | (left; simp; done) | (right; simp; try omega)) _) | (refine Kp.trans' ?_ (by assumption) (by simp; try omega))))⟩
theorem maydot_calls (x y : Int) (w : World) : Calls Try.prog 99 #[.agg #[.int .i64 x, .int .i64 y]] w fun e w' => e = .returned (.bool (dotQ (x, y))) ∧ Kp [] w w' := by
  cases hx : inD x
  · have HX : Hid _ := hx
    have HE : Hid (dotQ (x, y) = false) := by unfold Hid dotQ; rw [hx]; rfl
    clear hx
    go_enter Try.func99, Try.ntmps99
    go_wp2_with fail
    refine (cwithin_calls x _).mono ?_; rintro e w1 ⟨rfl, hk⟩
    rw [HX.out]
    go_wp2_with fail
    go_ret
    exact ⟨by rw [HE.out]; first | done | rfl | simp, by (repeat (first | exact Kp.refl _ _ | assumption | refine Kp.drew ?_ | refine Kp.drewN ?_ _ | refine Kp.alloc ?_ _ | (refine Kp.setCell ?_ (by first | (left; simp; done) | (right; simp; try omega)) _) | (refine Kp.trans' ?_ (by assumption) (by simp; try omega))))⟩
  · have HX : Hid _ := hx
    have HE : Hid (dotQ (x, y) = inD y) := by unfold Hid dotQ; rw [hx]; rfl
    clear hx
    go_enter Try.func99, Try.ntmps99
    go_wp2_with fail
    refine (cwithin_calls x _).mono ?_; rintro e w1 ⟨rfl, hk⟩
    rw [HX.out]
    obtain ⟨cb0, cb1⟩ := box2 hk
    go_wp2_with fail
    refine (cwithin_calls y _).mono ?_; rintro e w2 ⟨rfl, hk2⟩
    go_wp2_with fail
    go_ret
    exact ⟨by rw [HE.out]; first | done | rfl | simp, by (repeat (first | exact Kp.refl _ _ | assumption | refine Kp.drew ?_ | refine Kp.drewN ?_ _ | refine Kp.alloc ?_ _ | (refine Kp.setCell ?_ (by first | (left; simp; done) | (right; simp; try omega)) _) | (refine Kp.trans' ?_ (by assumption) (by simp; try omega))))⟩
theorem size_calls (x : Int) (h1 : -1099511627776 ≤ x) (h2 : x ≤ 1099511627776) (w : World) : Calls Try.prog 103 #[.int .i64 x] w fun e w' => e = .returned (.int .i64 (absI x)) ∧ w' = w := by
  by_cases h : x < 0
  · have HE : Hid (absI x = -x) := if_pos h
    go_enter Try.func103, Try.ntmps103
    go_wp2
    go_ret
    exact ⟨by rw [HE.out]; first | rfl | simp, rfl⟩
  · have HE : Hid (absI x = x) := if_neg h
    have h' : decide (x < 0) = false := decide_eq_false h
    go_enter Try.func103, Try.ntmps103
    go_wp2
    go_ret
    exact ⟨by rw [HE.out]; first | done | rfl | simp, rfl⟩
theorem most_calls (x y : Int) (w : World) : Calls Try.prog 94 #[.int .i64 x, .int .i64 y] w fun e w' => e = .returned (.int .i64 (max x y)) ∧ w' = w := by
  by_cases h : y < x
  · have HE : Hid (max x y = x) := by rw [Hid]; omega
    go_enter Try.func94, Try.ntmps94
    go_wp2
    go_ret
    exact ⟨by rw [HE.out]; first | done | rfl | simp, rfl⟩
  · have HE : Hid (max x y = y) := by rw [Hid]; omega
    have h' : decide (y < x) = false := decide_eq_false h
    go_enter Try.func94, Try.ntmps94
    go_wp2
    go_ret
    exact ⟨by rw [HE.out]; first | done | rfl | simp, rfl⟩
theorem second_calls (a1 a2 b1 b2 c1 c2 : Int) (ha : dotQ (a1, a2) = true) (hb : dotQ (b1, b2) = true) (hc : dotQ (c1, c2) = true) (w : World) :
    Calls Try.prog 93 #[.agg #[.int .i64 a1, .int .i64 a2], .agg #[.int .i64 b1, .int .i64 b2], .agg #[.int .i64 c1, .int .i64 c2]] w fun e w' => e = .returned (.int .i64 (secQ (a1, a2) (b1, b2) (c1, c2))) ∧ Kp [] w w' := by
  rw [dotQ_iff] at ha hb hc
  simp only at ha hb hc
  obtain ⟨⟨x1, x2⟩, x3, x4⟩ := ha
  obtain ⟨⟨y1, y2⟩, y3, y4⟩ := hb
  obtain ⟨⟨z1, z2⟩, z3, z4⟩ := hc
  have HE : Hid (secQ (a1, a2) (b1, b2) (c1, c2) = max (absI (a1 - 2 * b1 + c1)) (absI (a2 - 2 * b2 + c2))) := rfl
  go_enter Try.func93, Try.ntmps93
  go_wp2_with fail
  go_quiet (first
    | (go_at_call 103; exact Calls.quiet_of_same (size_calls _ (by omega) (by omega) _))
    | (go_at_call 94; exact Calls.quiet_of_same (most_calls _ _ _)))
  go_wp2_with fail
  go_ret
  exact ⟨by rw [HE.out]; first | done | rfl | simp, by (repeat (first | exact Kp.refl _ _ | assumption | refine Kp.drew ?_ | refine Kp.drewN ?_ _ | refine Kp.alloc ?_ _ | (refine Kp.setCell ?_ (by first | (left; simp; done) | (right; simp; try omega)) _) | (refine Kp.trans' ?_ (by assumption) (by simp; try omega))))⟩
/-- The switch on a bow's kind. -/
theorem kinds (k : Int) : k = 1 ∨ k = 2 ∨ k = 3 ∨ ((k == 1) = false ∧ (k == 2) = false ∧ (k == 3) = false ∧ k ≠ 1 ∧ k ≠ 2 ∧ k ≠ 3) := by
  by_cases h1 : k = 1
  · exact .inl h1
  · by_cases h2 : k = 2
    · exact .inr (.inl h2)
    · by_cases h3 : k = 3
      · exact .inr (.inr (.inl h3))
      · exact .inr (.inr (.inr ⟨beq_eq_false_iff_ne.2 h1, beq_eq_false_iff_ne.2 h2, beq_eq_false_iff_ne.2 h3, h1, h2, h3⟩))
set_option maxRecDepth 100000 in
set_option maxHeartbeats 2000000 in
theorem dots_calls (q : Bw) (w : World) : Calls Try.prog 89 #[bowV q] w fun e w' => ∃ v, e = .returned v ∧ IsPairs w' v (dotsL q) ∧ Kp [] w w' ∧ ∀ b, blockOf v = some b → w.heap.size ≤ b := by
  obtain ⟨k, ⟨a1, a2⟩, ⟨b1, b2⟩, ⟨c1, c2⟩, ⟨d1, d2⟩⟩ := q
  show Calls Try.prog 89 #[.agg #[.int .i64 k, .int .i64 a1, .int .i64 a2, .int .i64 b1, .int .i64 b2, .int .i64 c1, .int .i64 c2, .int .i64 d1, .int .i64 d2]] w _
  rcases kinds k with rfl | rfl | rfl | ⟨h1, h2, h3, g1, g2, g3⟩
  · have HI : Hid (IsPairs ((w.alloc (.cells #[.int .i64 1, .int .i64 a1, .int .i64 a2, .int .i64 b1, .int .i64 b2, .int .i64 c1, .int .i64 c2, .int .i64 d1, .int .i64 d2] 71)).alloc (.cells #[.int .i64 a1, .int .i64 a2, .int .i64 d1, .int .i64 d2] 27)) (.slice (some ⟨w.heap.size + 1, 0, none⟩) 2 2) [(a1, a2), (d1, d2)]) := Reads.made (w.alloc (.cells #[.int .i64 1, .int .i64 a1, .int .i64 a2, .int .i64 b1, .int .i64 b2, .int .i64 c1, .int .i64 c2, .int .i64 d1, .int .i64 d2] 71)) (w.heap.size + 1) 2 2 (pairCells [(a1, a2), (d1, d2)]) _ (by simp) rfl (by decide)
    go_enter Try.func89, Try.ntmps89
    go_wp2_with fail
    go_ret
    exact ⟨_, rfl, HI.out, by (repeat (first | exact Kp.refl _ _ | assumption | refine Kp.drew ?_ | refine Kp.drewN ?_ _ | refine Kp.alloc ?_ _ | (refine Kp.setCell ?_ (by first | (left; simp; done) | (right; simp; try omega)) _) | (refine Kp.trans' ?_ (by assumption) (by simp; try omega)))), fun b hb => by have := ((blockOf_some _ _ _ _ _ _).1 hb).2; omega⟩
  · have HI : Hid (IsPairs ((w.alloc (.cells #[.int .i64 2, .int .i64 a1, .int .i64 a2, .int .i64 b1, .int .i64 b2, .int .i64 c1, .int .i64 c2, .int .i64 d1, .int .i64 d2] 71)).alloc (.cells #[.int .i64 a1, .int .i64 a2, .int .i64 b1, .int .i64 b2, .int .i64 d1, .int .i64 d2] 27)) (.slice (some ⟨w.heap.size + 1, 0, none⟩) 3 3) [(a1, a2), (b1, b2), (d1, d2)]) := Reads.made (w.alloc (.cells #[.int .i64 2, .int .i64 a1, .int .i64 a2, .int .i64 b1, .int .i64 b2, .int .i64 c1, .int .i64 c2, .int .i64 d1, .int .i64 d2] 71)) (w.heap.size + 1) 2 3 (pairCells [(a1, a2), (b1, b2), (d1, d2)]) _ (by simp) rfl (by decide)
    go_enter Try.func89, Try.ntmps89
    go_wp2_with fail
    go_ret
    exact ⟨_, rfl, HI.out, by (repeat (first | exact Kp.refl _ _ | assumption | refine Kp.drew ?_ | refine Kp.drewN ?_ _ | refine Kp.alloc ?_ _ | (refine Kp.setCell ?_ (by first | (left; simp; done) | (right; simp; try omega)) _) | (refine Kp.trans' ?_ (by assumption) (by simp; try omega)))), fun b hb => by have := ((blockOf_some _ _ _ _ _ _).1 hb).2; omega⟩
  · have HI : Hid (IsPairs ((w.alloc (.cells #[.int .i64 3, .int .i64 a1, .int .i64 a2, .int .i64 b1, .int .i64 b2, .int .i64 c1, .int .i64 c2, .int .i64 d1, .int .i64 d2] 71)).alloc (.cells #[.int .i64 a1, .int .i64 a2, .int .i64 b1, .int .i64 b2, .int .i64 c1, .int .i64 c2, .int .i64 d1, .int .i64 d2] 27)) (.slice (some ⟨w.heap.size + 1, 0, none⟩) 4 4) [(a1, a2), (b1, b2), (c1, c2), (d1, d2)]) := Reads.made (w.alloc (.cells #[.int .i64 3, .int .i64 a1, .int .i64 a2, .int .i64 b1, .int .i64 b2, .int .i64 c1, .int .i64 c2, .int .i64 d1, .int .i64 d2] 71)) (w.heap.size + 1) 2 4 (pairCells [(a1, a2), (b1, b2), (c1, c2), (d1, d2)]) _ (by simp) rfl (by decide)
    go_enter Try.func89, Try.ntmps89
    go_wp2_with fail
    go_ret
    exact ⟨_, rfl, HI.out, by (repeat (first | exact Kp.refl _ _ | assumption | refine Kp.drew ?_ | refine Kp.drewN ?_ _ | refine Kp.alloc ?_ _ | (refine Kp.setCell ?_ (by first | (left; simp; done) | (right; simp; try omega)) _) | (refine Kp.trans' ?_ (by assumption) (by simp; try omega)))), fun b hb => by have := ((blockOf_some _ _ _ _ _ _).1 hb).2; omega⟩
  · have HI : Hid (∀ W : World, IsPairs W (.slice none 0 0) (dotsL ⟨k, (a1, a2), (b1, b2), (c1, c2), (d1, d2)⟩)) := by
      intro W; rw [dotsL, if_neg g1, if_neg g2, if_neg g3]; exact ⟨rfl, .inl ⟨⟨_, rfl⟩, rfl⟩⟩
    clear g1 g2 g3
    go_enter Try.func89, Try.ntmps89
    go_wp2_with fail
    go_ret
    exact ⟨_, rfl, HI.out _, by (repeat (first | exact Kp.refl _ _ | assumption | refine Kp.drew ?_ | refine Kp.drewN ?_ _ | refine Kp.alloc ?_ _ | (refine Kp.setCell ?_ (by first | (left; simp; done) | (right; simp; try omega)) _) | (refine Kp.trans' ?_ (by assumption) (by simp; try omega)))), fun b hb => by simp at hb⟩
end Go.Proofs.Ytpbmefojhgcniaa

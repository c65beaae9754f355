/- outline: the small functions. (Written by wip/outline/genoub.py.) -/
import Derived.Test.YtodjohoonbkklaaOuA
import Derived.Lib.Hide
import Derived.Lib.MinMax
import Derived.WalkKit
import Derived.ProofKit
import Derived.OwnWalk
namespace Go.Proofs.Ytodjohoonbkklaa
open Go.RowKit
set_option linter.unusedVariables false
set_option linter.unusedSimpArgs false
theorem pbox {w W : World} {t : TypeId} {v0 v1 v2 : Value} (hk : Kp [] (w.alloc (.cells #[v0, v1, v2] t)) W) : W.cell? ⟨w.heap.size, 0, none⟩ = some v0 ∧ W.cell? ⟨w.heap.size, 1, none⟩ = some v1 ∧ W.cell? ⟨w.heap.size, 2, none⟩ = some v2 :=
  ⟨hk.cell (by go_simp) (by simp), hk.cell (by go_simp) (by simp), hk.cell (by go_simp) (by simp)⟩
/-- May a number be? -/
def numF (x : Int) : Bool := decide (-2147483648 ≤ x) && decide (x ≤ 2147483648)
theorem numF_iff (x : Int) : numF x = true ↔ -2147483648 ≤ x ∧ x ≤ 2147483648 := by simp [numF]
theorem fmay_calls (x : Int) (w : World) : Calls Try.prog 124 #[.int .i64 x] w fun e w' => e = .returned (.bool (numF x)) ∧ w = w' := by
  by_cases h1 : -2147483648 ≤ x
  · by_cases h2 : x ≤ 2147483648
    · have HE : Hid (numF x = true) := by show _ = _; unfold numF; rw [decide_eq_true h1, decide_eq_true h2]; rfl
      rw [HE.out]
      go_enter Try.func124, Try.ntmps124
      go_wp2_with fail
      go_ret
      exact ⟨rfl, rfl⟩
    · have HE : Hid (numF x = false) := by show _ = _; unfold numF; rw [decide_eq_true h1, decide_eq_false h2]; rfl
      rw [HE.out]
      go_enter Try.func124, Try.ntmps124
      go_wp2_with fail
      go_ret
      exact ⟨rfl, rfl⟩
  · have HE : Hid (numF x = false) := by show _ = _; unfold numF; rw [decide_eq_false h1]; rfl
    rw [HE.out]
    go_enter Try.func124, Try.ntmps124
    go_wp2_with fail
    go_ret
    exact ⟨rfl, rfl⟩
theorem rfmay_calls (x : Int) (w : World) : Calls Try.prog 126 #[.int .i64 x] w fun e w' => e = .returned (.bool (numF x)) ∧ w = w' := by
  by_cases h1 : -2147483648 ≤ x
  · by_cases h2 : x ≤ 2147483648
    · have HE : Hid (numF x = true) := by show _ = _; unfold numF; rw [decide_eq_true h1, decide_eq_true h2]; rfl
      rw [HE.out]
      go_enter Try.func126, Try.ntmps126
      go_wp2_with fail
      go_ret
      exact ⟨rfl, rfl⟩
    · have HE : Hid (numF x = false) := by show _ = _; unfold numF; rw [decide_eq_true h1, decide_eq_false h2]; rfl
      rw [HE.out]
      go_enter Try.func126, Try.ntmps126
      go_wp2_with fail
      go_ret
      exact ⟨rfl, rfl⟩
  · have HE : Hid (numF x = false) := by show _ = _; unfold numF; rw [decide_eq_false h1]; rfl
    rw [HE.out]
    go_enter Try.func126, Try.ntmps126
    go_wp2_with fail
    go_ret
    exact ⟨rfl, rfl⟩
set_option maxRecDepth 100000 in
theorem ccount_calls (v : Value) (o : List (List Pn)) (w : World) (h : IsOut w v o) (hc : cnt o ≤ 4611686018427387904) : Calls Try.prog 31 #[v] w fun e w' => e = .returned (.int .i64 (cnt o : Nat)) ∧ w = w' := by
  have hle := h.le
  unfold maxLen at hle
  obtain ⟨pa, ca, rfl⟩ := h.form
  have HO := Lib.hid h
  have HC := Lib.hid (fun j hj => Nat.le_trans (cntTo_le o (j := j) hj) hc)
  clear h
  obtain ⟨N, hN⟩ : ∃ N, o.length = N := ⟨_, rfl⟩
  have HN := Lib.hid hN
  have HE : Hid (cnt o = cntTo o N) := by show _ = _; unfold cnt; rw [hN]
  rw [hN] at HO HC hle ⊢
  clear hN hc
  go_enter Try.func31, Try.ntmps31
  go_wp2_with fail
  go_loopw [3, 5, 8] (fun n _ i wr => ∃ j : Nat, j ≤ N ∧ i = .int .i64 j ∧ n = .int .i64 (cntTo o j : Nat) ∧ wr = w) (fun n _ i _ => N - (intOf i).toNat)
  case atStart => exact ⟨0, by omega, rfl, rfl, rfl⟩
  case round =>
    obtain ⟨j, hj, rfl, rfl, rfl⟩ := hrel
    by_cases hlt : j < N
    · obtain ⟨g1, o1, c1, p1, cv, e1, _, _, h1, _⟩ := HO.out.row (i := j) (by rw [HN.out]; exact hlt)
      rw [HN.out] at e1
      cases e1
      have hb := HC.out (j + 1) (by omega)
      have hs : Hid (cntTo o (j + 1) = cntTo o j + (o.getD j []).length) := rfl
      have hb2 : cntTo o j + (o.getD j []).length ≤ 4611686018427387904 := by rw [← hs.out]; exact hb
      generalize (o.getD j []).length = L at *
      generalize cntTo o j = A at *
      clear hb
      go_wp2_with fail
      go_roundw
      case rel => first | exact ⟨j + 1, by omega, int_eq' (by omega), int_eq' (by rw [hs.out]; omega), by first | rfl | trivial⟩ | ((repeat apply Exists.intro); exact ⟨⟨j + 1, by omega, int_eq' (by omega), int_eq' (by rw [hs.out]; omega), by first | rfl | trivial⟩, rfl⟩)
      case measure => simp [intOf]; omega
    · obtain rfl : j = N := by omega
      go_wp2_with fail
      go_ret
      exact ⟨by rw [HE.out]; first | done | rfl | simp, rfl⟩
set_option maxRecDepth 100000 in
theorem rcount_calls (v : Value) (o : List (List Pn)) (w : World) (h : IsOut w v o) (hc : cnt o ≤ 4611686018427387904) : Calls Try.prog 32 #[v] w fun e w' => e = .returned (.int .i64 (cnt o : Nat)) ∧ w = w' := by
  have hle := h.le
  unfold maxLen at hle
  obtain ⟨pa, ca, rfl⟩ := h.form
  have HO := Lib.hid h
  have HC := Lib.hid (fun j hj => Nat.le_trans (cntTo_le o (j := j) hj) hc)
  clear h
  obtain ⟨N, hN⟩ : ∃ N, o.length = N := ⟨_, rfl⟩
  have HN := Lib.hid hN
  have HE : Hid (cnt o = cntTo o N) := by show _ = _; unfold cnt; rw [hN]
  rw [hN] at HO HC hle ⊢
  clear hN hc
  go_enter Try.func32, Try.ntmps32
  go_wp2_with fail
  go_loopw [3, 4] (fun n i wr => ∃ j : Nat, j ≤ N ∧ i = .int .i64 j ∧ n = .int .i64 (cntTo o j : Nat) ∧ wr = w) (fun n i _ => N - (intOf i).toNat)
  case atStart => exact ⟨0, by omega, rfl, rfl, rfl⟩
  case round =>
    obtain ⟨j, hj, rfl, rfl, rfl⟩ := hrel
    by_cases hlt : j < N
    · obtain ⟨g1, o1, c1, p1, cv, e1, _, _, h1, _⟩ := HO.out.row (i := j) (by rw [HN.out]; exact hlt)
      rw [HN.out] at e1
      cases e1
      have hb := HC.out (j + 1) (by omega)
      have hs : Hid (cntTo o (j + 1) = cntTo o j + (o.getD j []).length) := rfl
      have hb2 : cntTo o j + (o.getD j []).length ≤ 4611686018427387904 := by rw [← hs.out]; exact hb
      generalize (o.getD j []).length = L at *
      generalize cntTo o j = A at *
      clear hb
      go_wp2_with fail
      go_roundw
      case rel => first | exact ⟨j + 1, by omega, int_eq' (by omega), int_eq' (by rw [hs.out]; omega), by first | rfl | trivial⟩ | ((repeat apply Exists.intro); exact ⟨⟨j + 1, by omega, int_eq' (by omega), int_eq' (by rw [hs.out]; omega), by first | rfl | trivial⟩, rfl⟩)
      case measure => simp [intOf]; omega
    · obtain rfl : j = N := by omega
      go_wp2_with fail
      go_ret
      exact ⟨by rw [HE.out]; first | done | rfl | simp, rfl⟩
/-- A point in the ring. -/
def ringAt (c : List Pn) (i : Int) : Pn := c.getD (i % (c.length : Int)).toNat pn0
theorem ring_mod (i n : Int) (h : 0 < n) : ((Int.tmod i n) + n).tmod n = i % n ∧ -n < Int.tmod i n ∧ Int.tmod i n < n := by
  have h1 : -n < Int.tmod i n ∧ Int.tmod i n < n := by
    have a := Int.tmod_lt_of_pos i h
    have b := Int.lt_tmod_of_pos i h
    omega
  refine ⟨?_, h1⟩
  rw [Int.tmod_eq_emod_of_nonneg (by omega), Int.add_emod_right]
  have h2 : Int.tmod i n = i - n * (Int.tdiv i n) := by have := Int.mul_tdiv_add_tmod i n; omega
  rw [h2, Int.sub_mul_emod_self_left]
theorem ring_idx (c : List Pn) (i : Int) (h : 0 < c.length) : ∃ k : Nat, k < c.length ∧ i % (c.length : Int) = k ∧ ringAt c i = c.getD k pn0 := by
  have h1 := Int.emod_nonneg i (b := (c.length : Int)) (by omega)
  have h2 := Int.emod_lt_of_pos i (b := (c.length : Int)) (by omega)
  exact ⟨(i % (c.length : Int)).toNat, by omega, by omega, rfl⟩
theorem at_calls (v : Value) (c : List Pn) (i : Int) (w : World) (h : IsPs w v c) (h0 : 0 < c.length) (hl : c.length ≤ 4611686018427387904) (hi : -4611686018427387904 ≤ i) (hi2 : i ≤ 4611686018427387904) :
    Calls Try.prog 138 #[v, .int .i64 i] w fun e w' => e = .returned (pnV (ringAt c i)) ∧ Kp [] w w' := by
  obtain ⟨k, hk, hm, hr⟩ := ring_idx c i h0
  obtain ⟨g, off, cp, rfl, _, _, c0, c1, c2⟩ := h.row hk
  obtain ⟨r1, r2, r3⟩ := ring_mod i c.length (by omega)
  have hgl : g < w.heap.size := World.block_lt_of_cell? w _ c0
  rw [hm] at r1
  rw [hr]
  generalize c.getD k pn0 = p at *
  generalize c.length = N at *
  have hw1 : wrap64 (Int.tmod i N + (N : Int)) = Int.tmod i N + (N : Int) := by unfold wrap64; omega
  have hnz : (N : Int) ≠ 0 := by omega
  clear hm hr h
  rw [show pnV p = .agg #[.int .i64 p.x, .int .i64 p.y, .int .i64 p.k] from rfl]
  clear r2 r3
  go_enter Try.func138, Try.ntmps138
  go_wp2_with fail
  refine bodyPost_ret (v := .agg #[.int .i64 p.x, .int .i64 p.y, .int .i64 p.k]) (by simp [results, Try.results138, go_sem]) rfl ⟨rfl, by (repeat (first | exact Kp.refl _ _ | assumption | refine Kp.drew ?_ | refine Kp.drewN ?_ _ | refine Kp.alloc ?_ _ | (refine Kp.setCell ?_ (by first | (left; simp; done) | (right; simp; try omega)) _) | (refine Kp.trans' ?_ (by assumption) (by simp; try omega))))⟩
theorem rat10_calls (v : Value) (c : List Pn) (i : Int) (w : World) (h : IsPs w v c) (h0 : 0 < c.length) (hl : c.length ≤ 2305843009213693952) (hi : -(c.length : Int) ≤ i) (hi2 : i ≤ 2305843009213693952) :
    Calls Try.prog 88 #[v, .int .i64 i] w fun e w' => e = .returned (pnV (ringAt c i)) ∧ Kp [] w w' := by
  obtain ⟨k, hk, hm, hr⟩ := ring_idx c i h0
  obtain ⟨g, off, cp, rfl, _, _, c0, c1, c2⟩ := h.row hk
  have hgl : g < w.heap.size := World.block_lt_of_cell? w _ c0
  have r1 : Int.tmod (i + (c.length : Int)) (c.length : Int) = k := by rw [Int.tmod_eq_emod_of_nonneg (by omega), Int.add_emod_right]; exact hm
  have r2 : (i + (c.length : Int)) % (c.length : Int) = k := by rw [Int.add_emod_right]; exact hm
  rw [hr]
  generalize c.getD k pn0 = p at *
  generalize c.length = N at *
  have hw1 : wrap64 (i + (N : Int)) = i + (N : Int) := by unfold wrap64; omega
  have hnz : (N : Int) ≠ 0 := by omega
  clear hm hr h
  rw [show pnV p = .agg #[.int .i64 p.x, .int .i64 p.y, .int .i64 p.k] from rfl]
  go_enter Try.func88, Try.ntmps88
  go_wp2_with fail
  refine bodyPost_ret (v := .agg #[.int .i64 p.x, .int .i64 p.y, .int .i64 p.k]) (by simp [results, Try.results88, go_sem]) rfl ⟨rfl, by (repeat (first | exact Kp.refl _ _ | assumption | refine Kp.drew ?_ | refine Kp.drewN ?_ _ | refine Kp.alloc ?_ _ | (refine Kp.setCell ?_ (by first | (left; simp; done) | (right; simp; try omega)) _) | (refine Kp.trans' ?_ (by assumption) (by simp; try omega))))⟩
theorem ison_calls (p : Pn) (w : World) : Calls Try.prog 150 #[pnV p] w fun e w' => e = .returned (.bool (p.k == 1)) ∧ Kp [] w w' := by
  rw [show pnV p = .agg #[.int .i64 p.x, .int .i64 p.y, .int .i64 p.k] from rfl]
  go_enter Try.func150, Try.ntmps150
  go_wp2_with fail
  go_ret
  exact ⟨rfl, by (repeat (first | exact Kp.refl _ _ | assumption | refine Kp.drew ?_ | refine Kp.drewN ?_ _ | refine Kp.alloc ?_ _ | (refine Kp.setCell ?_ (by first | (left; simp; done) | (right; simp; try omega)) _) | (refine Kp.trans' ?_ (by assumption) (by simp; try omega))))⟩
/-- The point in the middle of two. -/
def midP (a b : Pn) : Pn := ⟨(a.x + b.x) / 2, (a.y + b.y) / 2, 1⟩
theorem floor2_calls (a : Int) (h1 : -4611686018427387904 ≤ a) (h2 : a ≤ 4611686018427387904) (w : World) : Calls Try.prog 151 #[.int .i64 a, .int .i64 2] w fun e w' => e = .returned (.int .i64 (a / 2)) ∧ w = w' := by
  have hd : Int.tdiv a 2 = if 0 ≤ a then a / 2 else -((-a) / 2) := by
    split
    · rename_i h; exact Int.tdiv_eq_ediv_of_nonneg h
    · rename_i h
      have := Int.neg_tdiv (-a) 2
      rw [Int.neg_neg] at this
      rw [this, Int.tdiv_eq_ediv_of_nonneg (by omega)]
  have hm : Int.tmod a 2 = a - 2 * Int.tdiv a 2 := by have := Int.mul_tdiv_add_tmod a 2; omega
  by_cases h0 : 0 ≤ a
  · rw [if_pos h0] at hd
    rw [hd] at hm
    have h00 : decide (a < 0) = false := decide_eq_false (by omega)
    by_cases he : a % 2 = 0
    · have hm0 : Int.tmod a 2 = 0 := by omega
      clear hm
      go_enter Try.func151, Try.ntmps151
      go_wp2_with fail
      go_ret
      exact ⟨by simp [hd], rfl⟩
    · have hm0 : Int.tmod a 2 = 1 := by omega
      clear hm
      go_enter Try.func151, Try.ntmps151
      go_wp2_with fail
      go_ret
      exact ⟨by simp [hd], rfl⟩
  · rw [if_neg h0] at hd
    rw [hd] at hm
    have h00 : decide (a < 0) = true := decide_eq_true (by omega)
    by_cases he : a % 2 = 0
    · have hm0 : Int.tmod a 2 = 0 := by omega
      have hq : a / 2 = -(-a / 2) := by omega
      clear hm
      go_enter Try.func151, Try.ntmps151
      go_wp2_with fail
      go_ret
      exact ⟨rfl, rfl⟩
    · have hm0 : Int.tmod a 2 = -1 := by omega
      have hq : a / 2 = -(-a / 2) - 1 := by omega
      clear hm
      go_enter Try.func151, Try.ntmps151
      go_wp2_with fail
      go_ret
      exact ⟨rfl, rfl⟩
set_option maxRecDepth 100000 in
theorem mid_calls (a b : Pn) (w : World) (ha : numF a.x = true) (ha2 : numF a.y = true) (hb : numF b.x = true) (hb2 : numF b.y = true) :
    Calls Try.prog 136 #[pnV a, pnV b] w fun e w' => e = .returned (pnV (midP a b)) ∧ Kp [] w w' := by
  obtain ⟨ax, ay, ak⟩ := a
  obtain ⟨bx, cy, bk⟩ := b
  obtain ⟨a1, a2⟩ := (numF_iff _).1 ha
  obtain ⟨a3, a4⟩ := (numF_iff _).1 ha2
  obtain ⟨b1, b2⟩ := (numF_iff _).1 hb
  obtain ⟨b3, b4⟩ := (numF_iff _).1 hb2
  dsimp only at a1 a2 a3 a4 b1 b2 b3 b4
  clear ha ha2 hb hb2
  rw [show pnV ⟨ax, ay, ak⟩ = .agg #[.int .i64 ax, .int .i64 ay, .int .i64 ak] from rfl, show pnV ⟨bx, cy, bk⟩ = .agg #[.int .i64 bx, .int .i64 cy, .int .i64 bk] from rfl, show pnV (midP ⟨ax, ay, ak⟩ ⟨bx, cy, bk⟩) = .agg #[.int .i64 ((ax + bx) / 2), .int .i64 ((ay + cy) / 2), .int .i64 1] from rfl]
  go_enter Try.func136, Try.ntmps136
  go_wp2_with fail
  refine bodyPost_ret (v := .agg #[.int .i64 ((ax + bx) / 2), .int .i64 ((ay + cy) / 2), .int .i64 1]) (by simp [results, Try.results136, go_sem]) rfl ⟨rfl, by (repeat (first | exact Kp.refl _ _ | assumption | refine Kp.drew ?_ | refine Kp.drewN ?_ _ | refine Kp.alloc ?_ _ | (refine Kp.setCell ?_ (by first | (left; simp; done) | (right; simp; try omega)) _) | (refine Kp.trans' ?_ (by assumption) (by simp; try omega))))⟩
theorem many_calls (a b : Int) (w : World) : Calls Try.prog 79 #[.int .i64 a, .int .i64 b] w fun e w' => e = .returned (.bool (decide (256 < a) || decide (4096 < b))) ∧ w = w' := by
  by_cases h1 : 256 < a
  · rw [decide_eq_true h1, Bool.true_or]
    go_enter Try.func79, Try.ntmps79
    go_wp2_with fail
    go_ret
    exact ⟨rfl, rfl⟩
  · rw [decide_eq_false h1, Bool.false_or]
    go_enter Try.func79, Try.ntmps79
    go_wp2_with fail
    go_ret
    exact ⟨rfl, rfl⟩
end Go.Proofs.Ytodjohoonbkklaa

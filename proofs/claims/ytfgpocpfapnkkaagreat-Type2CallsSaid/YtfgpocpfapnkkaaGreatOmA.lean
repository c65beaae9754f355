/- outline: points, contours (slices of points), outlines (slices of contours), as the walks read them. (Written by wip/outline/genoua.py.) · outline: the small functions. (Written by wip/outline/genoub.py.) · outline: stands, mayPoint, mayContour · outline: mayPoint, mayContour, Check · outline: Check; the reference's cubic, may, Check · outline: the reference's cubic, may, Check. (Written by wip/outline/genouf.py.) · outline: the reference's Check; the reference's Same · outline: Same (slices.Equal, slices.EqualFunc) · outline: Same of the reference. (Merged by wip/tools/mergetpl.py out of OuA, OuB, OuC, OuD, OuE, OuF, OuG, OuH, OuI.) -/
import Derived.Test.YtfgpocpfapnkkaaGreatProg
import Derived.Test.YtfgpocpfapnkkaaGreatApp
import Derived.Test.YtfgpocpfapnkkaaGreatPair
import Derived.Test.YtfgpocpfapnkkaaGreatQuiet
import Derived.KernelRfl
import Derived.Deep.QuietTactic
import Derived.BigQuiet
import Derived.RegionTactic
import Derived.Lib.Hide
import Derived.Lib.MinMax
import Derived.WalkKit
import Derived.ProofKit
import Derived.OwnWalk
namespace Go.Proofs.YtfgpocpfapnkkaaGreat
open Go.RowKit
set_option linter.unusedVariables false
set_option linter.unusedSimpArgs false
/-- A point. -/
structure Pn where
  x : Int
  y : Int
  k : Int
deriving DecidableEq
def pnCells (p : Pn) : Array Value := #[.int .i64 p.x, .int .i64 p.y, .int .i64 p.k]
def pnV (p : Pn) : Value := .agg (pnCells p)
/-- Points as cells. -/
def psCells (l : List Pn) : List Value := l.flatMap fun p => (pnCells p).toList
theorem psCells_length (l : List Pn) : (psCells l).length = l.length * 3 := by
  induction l with
  | nil => rfl
  | cons p l ih => simp [psCells, pnCells] at ih ⊢; omega
theorem psCells_app (l r : List Pn) : psCells (l ++ r) = psCells l ++ psCells r := by simp [psCells]
theorem psCells_snoc (l : List Pn) (p : Pn) : psCells (l ++ [p]) = psCells l ++ (pnCells p).toList := by simp [psCells]
def pn0 : Pn := ⟨0, 0, 0⟩
theorem psCells_at (l : List Pn) (i : Nat) (h : i < l.length) : ∀ j, j < 3 → (psCells l)[i * 3 + j]? = (pnCells (l.getD i pn0))[j]? := by
  induction l generalizing i with
  | nil => simp at h
  | cons p l ih =>
    intro j hj
    have e : psCells (p :: l) = (pnCells p).toList ++ psCells l := by simp [psCells]
    have hl : (pnCells p).toList.length = 3 := rfl
    cases i with
    | zero =>
      rw [e, List.getElem?_append_left (by omega)]
      simp
    | succ i =>
      have := ih i (by simpa using h) j hj
      rw [e, List.getElem?_append_right (by omega), hl, show (i + 1) * 3 + j - 3 = i * 3 + j by omega, this]
      simp
/-- A slice of points that can be read. -/
def IsPs (w : World) (v : Value) (l : List Pn) : Prop := Reads 3 w v l.length (psCells l)
theorem IsPs.kp {S : List Nat} {w w' : World} {v : Value} {l : List Pn} (h : IsPs w v l) (hk : Kp S w w') (hS : ∀ s ∈ S, blockOf v ≠ some s) : IsPs w' v l := Reads.kp h hk hS
theorem IsPs.nil (w : World) (a : Option Addr) : IsPs w (.slice a 0 0) [] := ⟨rfl, .inl ⟨⟨a, rfl⟩, rfl⟩⟩
/-- It is empty, or its cells lie at an address. -/
theorem IsPs.cases {w : World} {v : Value} {l : List Pn} (h : IsPs w v l) :
    (∃ ad, v = .slice ad 0 0 ∧ l = []) ∨
    ∃ g off c, v = .slice (some ⟨g, off, none⟩) l.length c ∧ l.length ≤ c ∧ c ≤ maxLen ∧ ∀ i, i < l.length → ∀ j u, (pnCells (l.getD i pn0))[j]? = some u → w.cell? ⟨g, off + i * 3 + j, none⟩ = some u := by
  rcases h.2 with ⟨⟨ad, rfl⟩, h0⟩ | ⟨g, off, c, rfl, h1, h2, h3⟩
  · have hl : l = [] := List.eq_nil_of_length_eq_zero (by first | exact h0 | simpa using h0)
    subst hl
    exact .inl ⟨ad, rfl, rfl⟩
  · refine .inr ⟨g, off, c, rfl, h1, h2, fun i hi j u hu => ?_⟩
    have hj : j < 3 := by
      have := (Array.getElem?_eq_some_iff.1 hu).1
      exact this
    have := h3 (i * 3 + j) u (by rw [psCells_at l i hi j hj]; exact hu)
    rwa [← Nat.add_assoc] at this
theorem IsPs.form {w : World} {v : Value} {l : List Pn} (h : IsPs w v l) : ∃ p c, v = .slice p l.length c := by
  rcases h.cases with ⟨ad, rfl, rfl⟩ | ⟨g, off, c, rfl, _⟩
  · exact ⟨_, 0, rfl⟩
  · exact ⟨_, c, rfl⟩
theorem IsPs.le {w : World} {v : Value} {l : List Pn} (h : IsPs w v l) : l.length ≤ maxLen := by
  rcases h.cases with ⟨ad, rfl, rfl⟩ | ⟨g, off, c, rfl, h1, h2, _⟩
  · simp
  · omega
theorem IsPs.owned {w : World} {base : Nat} {e : TypeId} {v : Value} {n : Nat} {l : List Pn} (hn : n = l.length) (h : w.ownsRow base e 3 v n (psCells l)) : IsPs w v l := by
  subst hn; exact Reads.owned h
theorem infoPn : (Tryz.prog.info? 38).map (fun i => (i.zero, i.size, i.bytes)) = some (some (.agg #[.int .i64 0, .int .i64 0, .int .i64 0]), 3, 24) := by kernel_rfl
theorem oneCell_pn (p : Pn) : ∀ u ∈ (pnCells p).toList, u.oneCell' = true := by
  intro u hu; simp only [pnCells, List.mem_cons, List.not_mem_nil, or_false] at hu
  rcases hu with rfl | rfl | rfl <;> rfl
theorem oneCell_ps (l : List Pn) : ∀ u ∈ psCells l, u.oneCell' = true := by
  intro u hu; simp only [psCells, List.mem_flatMap] at hu
  obtain ⟨p, _, hp⟩ := hu
  exact oneCell_pn p u hp
theorem IsPs.kp0 {w w' : World} {v : Value} {l : List Pn} (h : IsPs w v l) (hk : Kp [] w w') : IsPs w' v l := h.kp hk (by simp)
/-- A point of a contour lies in three cells. -/
theorem IsPs.row {w : World} {v : Value} {l : List Pn} (h : IsPs w v l) {i : Nat} (hi : i < l.length) : ∃ g off c, v = .slice (some ⟨g, off, none⟩) l.length c ∧ l.length ≤ c ∧ c ≤ maxLen ∧ w.cell? ⟨g, off + i * 3, none⟩ = some (.int .i64 (l.getD i pn0).x) ∧ w.cell? ⟨g, off + i * 3 + 1, none⟩ = some (.int .i64 (l.getD i pn0).y) ∧ w.cell? ⟨g, off + i * 3 + 2, none⟩ = some (.int .i64 (l.getD i pn0).k) := by
  rcases h.cases with ⟨ad, rfl, rfl⟩ | ⟨g, off, c, rfl, h1, h2, h3⟩
  · simp at hi
  · exact ⟨g, off, c, rfl, h1, h2, by have := h3 i hi 0 (.int .i64 (l.getD i pn0).x) rfl; rwa [Nat.add_zero] at this, h3 i hi 1 _ rfl, h3 i hi 2 _ rfl⟩
/-- An outline: a slice whose cells are contours. -/
def IsOut (w : World) (v : Value) (o : List (List Pn)) : Prop :=
  ∃ vs : List Value, Reads 1 w v o.length vs ∧ ∀ i, i < o.length → IsPs w (vs.getD i (.slice none 0 0)) (o.getD i [])
theorem IsOut.kp0 {w w' : World} {v : Value} {o : List (List Pn)} (h : IsOut w v o) (hk : Kp [] w w') : IsOut w' v o := by
  obtain ⟨vs, h1, h2⟩ := h
  exact ⟨vs, Reads.kp h1 hk (by simp), fun i hi => (h2 i hi).kp0 hk⟩
theorem IsOut.nil (w : World) (a : Option Addr) : IsOut w (.slice a 0 0) [] := ⟨[], ⟨rfl, .inl ⟨⟨a, rfl⟩, rfl⟩⟩, fun i hi => by simp at hi⟩
theorem IsOut.form {w : World} {v : Value} {o : List (List Pn)} (h : IsOut w v o) : ∃ p c, v = .slice p o.length c := by
  obtain ⟨vs, h1, _⟩ := h
  rcases h1.2 with ⟨⟨ad, rfl⟩, h0⟩ | ⟨g, off, c, rfl, _⟩
  · exact ⟨_, 0, by rw [h0]⟩
  · exact ⟨_, c, rfl⟩
theorem IsOut.le {w : World} {v : Value} {o : List (List Pn)} (h : IsOut w v o) : o.length ≤ maxLen := by
  obtain ⟨vs, h1, _⟩ := h
  rcases h1.2 with ⟨⟨ad, rfl⟩, h0⟩ | ⟨g, off, c, rfl, h2, h3, _⟩
  · rw [h0]; simp
  · omega
/-- A contour of an outline lies in one cell. -/
theorem IsOut.row {w : World} {v : Value} {o : List (List Pn)} (h : IsOut w v o) {i : Nat} (hi : i < o.length) : ∃ g off c p cv, v = .slice (some ⟨g, off, none⟩) o.length c ∧ o.length ≤ c ∧ c ≤ maxLen ∧ w.cell? ⟨g, off + i, none⟩ = some (.slice p (o.getD i []).length cv) ∧ IsPs w (.slice p (o.getD i []).length cv) (o.getD i []) := by
  obtain ⟨vs, h1, h2⟩ := h
  have hp := h2 i hi
  obtain ⟨p, cv, hv⟩ := hp.form
  rcases h1.2 with ⟨⟨ad, rfl⟩, h0⟩ | ⟨g, off, c, rfl, h3, h4, h5⟩
  · omega
  · refine ⟨g, off, c, p, cv, rfl, h3, h4, ?_, by rw [← hv]; exact hp⟩
    have hl : i < vs.length := by have := h1.1; omega
    have := h5 i _ (List.getElem?_eq_getElem hl)
    rw [this, ← hv, List.getD_eq_getElem?_getD, List.getElem?_eq_getElem hl]; rfl
/-- How many points there are ahead of contour j. -/
def cntTo (o : List (List Pn)) : Nat → Nat
  | 0 => 0
  | j + 1 => cntTo o j + (o.getD j []).length
def cnt (o : List (List Pn)) : Nat := cntTo o o.length
theorem cntTo_mono (o : List (List Pn)) : ∀ (d j : Nat), cntTo o j ≤ cntTo o (j + d) := by
  intro d
  induction d with
  | zero => intro j; exact Nat.le_refl _
  | succ d ih => intro j; have := ih j; rw [← Nat.add_assoc, cntTo]; omega
theorem cntTo_le (o : List (List Pn)) {j : Nat} (h : j ≤ o.length) : cntTo o j ≤ cnt o := by
  obtain ⟨d, hd⟩ : ∃ d, o.length = j + d := ⟨o.length - j, by omega⟩
  unfold cnt; rw [hd]; exact cntTo_mono o d j
end Go.Proofs.YtfgpocpfapnkkaaGreat
namespace Go.Proofs.YtfgpocpfapnkkaaGreat
open Go.RowKit
set_option linter.unusedVariables false
set_option linter.unusedSimpArgs false
theorem pbox {w W : World} {t : TypeId} {v0 v1 v2 : Value} (hk : Kp [] (w.alloc (.cells #[v0, v1, v2] t)) W) : W.cell? ⟨w.heap.size, 0, none⟩ = some v0 ∧ W.cell? ⟨w.heap.size, 1, none⟩ = some v1 ∧ W.cell? ⟨w.heap.size, 2, none⟩ = some v2 :=
  ⟨hk.cell (by go_simp) (by simp), hk.cell (by go_simp) (by simp), hk.cell (by go_simp) (by simp)⟩
/-- May a number be? -/
def numF (x : Int) : Bool := decide (-2147483648 ≤ x) && decide (x ≤ 2147483648)
theorem numF_iff (x : Int) : numF x = true ↔ -2147483648 ≤ x ∧ x ≤ 2147483648 := by simp [numF]
theorem fmay_calls (x : Int) (w : World) : Calls Tryz.prog 16 #[.int .i64 x] w fun e w' => e = .returned (.bool (numF x)) ∧ w = w' := by
  by_cases h1 : -2147483648 ≤ x
  · by_cases h2 : x ≤ 2147483648
    · have HE : Hid (numF x = true) := by show _ = _; unfold numF; rw [decide_eq_true h1, decide_eq_true h2]; rfl
      rw [HE.out]
      go_enter Tryz.func16, Tryz.ntmps16
      go_wp2_with fail
      go_ret
      exact ⟨rfl, rfl⟩
    · have HE : Hid (numF x = false) := by show _ = _; unfold numF; rw [decide_eq_true h1, decide_eq_false h2]; rfl
      rw [HE.out]
      go_enter Tryz.func16, Tryz.ntmps16
      go_wp2_with fail
      go_ret
      exact ⟨rfl, rfl⟩
  · have HE : Hid (numF x = false) := by show _ = _; unfold numF; rw [decide_eq_false h1]; rfl
    rw [HE.out]
    go_enter Tryz.func16, Tryz.ntmps16
    go_wp2_with fail
    go_ret
    exact ⟨rfl, rfl⟩
theorem rfmay_calls (x : Int) (w : World) : Calls Tryz.prog 33 #[.int .i64 x] w fun e w' => e = .returned (.bool (numF x)) ∧ w = w' := by
  by_cases h1 : -2147483648 ≤ x
  · by_cases h2 : x ≤ 2147483648
    · have HE : Hid (numF x = true) := by show _ = _; unfold numF; rw [decide_eq_true h1, decide_eq_true h2]; rfl
      rw [HE.out]
      go_enter Tryz.func33, Tryz.ntmps33
      go_wp2_with fail
      go_ret
      exact ⟨rfl, rfl⟩
    · have HE : Hid (numF x = false) := by show _ = _; unfold numF; rw [decide_eq_true h1, decide_eq_false h2]; rfl
      rw [HE.out]
      go_enter Tryz.func33, Tryz.ntmps33
      go_wp2_with fail
      go_ret
      exact ⟨rfl, rfl⟩
  · have HE : Hid (numF x = false) := by show _ = _; unfold numF; rw [decide_eq_false h1]; rfl
    rw [HE.out]
    go_enter Tryz.func33, Tryz.ntmps33
    go_wp2_with fail
    go_ret
    exact ⟨rfl, rfl⟩
set_option maxRecDepth 100000 in
theorem ccount_calls (v : Value) (o : List (List Pn)) (w : World) (h : IsOut w v o) (hc : cnt o ≤ 4611686018427387904) : Calls Tryz.prog 29 #[v] w fun e w' => e = .returned (.int .i64 (cnt o : Nat)) ∧ w = w' := by
  have hle := h.le
  unfold maxLen at hle
  obtain ⟨pa, ca, rfl⟩ := h.form
  have HO := Lib.hid h
  have HC := Lib.hid (fun j hj => Nat.le_trans (cntTo_le o (j := j) hj) hc)
  clear h
  obtain ⟨N, hN⟩ : ∃ N, o.length = N := ⟨_, rfl⟩
  have HN := Lib.hid hN
  have HE : Hid (cnt o = cntTo o N) := by show _ = _; unfold cnt; rw [hN]
  rw [hN] at HO HC hle ⊢
  clear hN hc
  go_enter Tryz.func29, Tryz.ntmps29
  go_wp2_with fail
  go_loopw [3, 5, 8] (fun n _ i wr => ∃ j : Nat, j ≤ N ∧ i = .int .i64 j ∧ n = .int .i64 (cntTo o j : Nat) ∧ wr = w) (fun n _ i _ => N - (intOf i).toNat)
  case atStart => exact ⟨0, by omega, rfl, rfl, rfl⟩
  case round =>
    obtain ⟨j, hj, rfl, rfl, rfl⟩ := hrel
    by_cases hlt : j < N
    · obtain ⟨g1, o1, c1, p1, cv, e1, _, _, h1, _⟩ := HO.out.row (i := j) (by rw [HN.out]; exact hlt)
      rw [HN.out] at e1
      cases e1
      have hb := HC.out (j + 1) (by omega)
      have hs : Hid (cntTo o (j + 1) = cntTo o j + (o.getD j []).length) := rfl
      have hb2 : cntTo o j + (o.getD j []).length ≤ 4611686018427387904 := by rw [← hs.out]; exact hb
      generalize (o.getD j []).length = L at *
      generalize cntTo o j = A at *
      clear hb
      go_wp2_with fail
      go_roundw
      case rel => first | exact ⟨j + 1, by omega, int_eq' (by omega), int_eq' (by rw [hs.out]; omega), by first | rfl | trivial⟩ | ((repeat apply Exists.intro); exact ⟨⟨j + 1, by omega, int_eq' (by omega), int_eq' (by rw [hs.out]; omega), by first | rfl | trivial⟩, rfl⟩)
      case measure => simp [intOf]; omega
    · obtain rfl : j = N := by omega
      go_wp2_with fail
      go_ret
      exact ⟨by rw [HE.out]; first | done | rfl | simp, rfl⟩
set_option maxRecDepth 100000 in
theorem rcount_calls (v : Value) (o : List (List Pn)) (w : World) (h : IsOut w v o) (hc : cnt o ≤ 4611686018427387904) : Calls Tryz.prog 21 #[v] w fun e w' => e = .returned (.int .i64 (cnt o : Nat)) ∧ w = w' := by
  have hle := h.le
  unfold maxLen at hle
  obtain ⟨pa, ca, rfl⟩ := h.form
  have HO := Lib.hid h
  have HC := Lib.hid (fun j hj => Nat.le_trans (cntTo_le o (j := j) hj) hc)
  clear h
  obtain ⟨N, hN⟩ : ∃ N, o.length = N := ⟨_, rfl⟩
  have HN := Lib.hid hN
  have HE : Hid (cnt o = cntTo o N) := by show _ = _; unfold cnt; rw [hN]
  rw [hN] at HO HC hle ⊢
  clear hN hc
  go_enter Tryz.func21, Tryz.ntmps21
  go_wp2_with fail
  go_loopw [3, 4] (fun n i wr => ∃ j : Nat, j ≤ N ∧ i = .int .i64 j ∧ n = .int .i64 (cntTo o j : Nat) ∧ wr = w) (fun n i _ => N - (intOf i).toNat)
  case atStart => exact ⟨0, by omega, rfl, rfl, rfl⟩
  case round =>
    obtain ⟨j, hj, rfl, rfl, rfl⟩ := hrel
    by_cases hlt : j < N
    · obtain ⟨g1, o1, c1, p1, cv, e1, _, _, h1, _⟩ := HO.out.row (i := j) (by rw [HN.out]; exact hlt)
      rw [HN.out] at e1
      cases e1
      have hb := HC.out (j + 1) (by omega)
      have hs : Hid (cntTo o (j + 1) = cntTo o j + (o.getD j []).length) := rfl
      have hb2 : cntTo o j + (o.getD j []).length ≤ 4611686018427387904 := by rw [← hs.out]; exact hb
      generalize (o.getD j []).length = L at *
      generalize cntTo o j = A at *
      clear hb
      go_wp2_with fail
      go_roundw
      case rel => first | exact ⟨j + 1, by omega, int_eq' (by omega), int_eq' (by rw [hs.out]; omega), by first | rfl | trivial⟩ | ((repeat apply Exists.intro); exact ⟨⟨j + 1, by omega, int_eq' (by omega), int_eq' (by rw [hs.out]; omega), by first | rfl | trivial⟩, rfl⟩)
      case measure => simp [intOf]; omega
    · obtain rfl : j = N := by omega
      go_wp2_with fail
      go_ret
      exact ⟨by rw [HE.out]; first | done | rfl | simp, rfl⟩
/-- A point in the ring. -/
def ringAt (c : List Pn) (i : Int) : Pn := c.getD (i % (c.length : Int)).toNat pn0
theorem ring_mod (i n : Int) (h : 0 < n) : ((Int.tmod i n) + n).tmod n = i % n ∧ -n < Int.tmod i n ∧ Int.tmod i n < n := by
  have h1 : -n < Int.tmod i n ∧ Int.tmod i n < n := by
    have a := Int.tmod_lt_of_pos i h
    have b := Int.lt_tmod_of_pos i h
    omega
  refine ⟨?_, h1⟩
  rw [Int.tmod_eq_emod_of_nonneg (by omega), Int.add_emod_right]
  have h2 : Int.tmod i n = i - n * (Int.tdiv i n) := by have := Int.mul_tdiv_add_tmod i n; omega
  rw [h2, Int.sub_mul_emod_self_left]
theorem ring_idx (c : List Pn) (i : Int) (h : 0 < c.length) : ∃ k : Nat, k < c.length ∧ i % (c.length : Int) = k ∧ ringAt c i = c.getD k pn0 := by
  have h1 := Int.emod_nonneg i (b := (c.length : Int)) (by omega)
  have h2 := Int.emod_lt_of_pos i (b := (c.length : Int)) (by omega)
  exact ⟨(i % (c.length : Int)).toNat, by omega, by omega, rfl⟩
theorem at_calls (v : Value) (c : List Pn) (i : Int) (w : World) (h : IsPs w v c) (h0 : 0 < c.length) (hl : c.length ≤ 4611686018427387904) (hi : -4611686018427387904 ≤ i) (hi2 : i ≤ 4611686018427387904) :
    Calls Tryz.prog 89 #[v, .int .i64 i] w fun e w' => e = .returned (pnV (ringAt c i)) ∧ Kp [] w w' := by
  obtain ⟨k, hk, hm, hr⟩ := ring_idx c i h0
  obtain ⟨g, off, cp, rfl, _, _, c0, c1, c2⟩ := h.row hk
  obtain ⟨r1, r2, r3⟩ := ring_mod i c.length (by omega)
  have hgl : g < w.heap.size := World.block_lt_of_cell? w _ c0
  rw [hm] at r1
  rw [hr]
  generalize c.getD k pn0 = p at *
  generalize c.length = N at *
  have hw1 : wrap64 (Int.tmod i N + (N : Int)) = Int.tmod i N + (N : Int) := by unfold wrap64; omega
  have hnz : (N : Int) ≠ 0 := by omega
  clear hm hr h
  rw [show pnV p = .agg #[.int .i64 p.x, .int .i64 p.y, .int .i64 p.k] from rfl]
  clear r2 r3
  go_enter Tryz.func89, Tryz.ntmps89
  go_wp2_with fail
  refine bodyPost_ret (v := .agg #[.int .i64 p.x, .int .i64 p.y, .int .i64 p.k]) (by simp [results, Tryz.results89, go_sem]) rfl ⟨rfl, by (repeat (first | exact Kp.refl _ _ | assumption | refine Kp.drew ?_ | refine Kp.drewN ?_ _ | refine Kp.alloc ?_ _ | (refine Kp.setCell ?_ (by first | (left; simp; done) | (right; simp; try omega)) _) | (refine Kp.trans' ?_ (by assumption) (by simp; try omega))))⟩
theorem rat10_calls (v : Value) (c : List Pn) (i : Int) (w : World) (h : IsPs w v c) (h0 : 0 < c.length) (hl : c.length ≤ 2305843009213693952) (hi : -(c.length : Int) ≤ i) (hi2 : i ≤ 2305843009213693952) :
    Calls Tryz.prog 48 #[v, .int .i64 i] w fun e w' => e = .returned (pnV (ringAt c i)) ∧ Kp [] w w' := by
  obtain ⟨k, hk, hm, hr⟩ := ring_idx c i h0
  obtain ⟨g, off, cp, rfl, _, _, c0, c1, c2⟩ := h.row hk
  have hgl : g < w.heap.size := World.block_lt_of_cell? w _ c0
  have r1 : Int.tmod (i + (c.length : Int)) (c.length : Int) = k := by rw [Int.tmod_eq_emod_of_nonneg (by omega), Int.add_emod_right]; exact hm
  have r2 : (i + (c.length : Int)) % (c.length : Int) = k := by rw [Int.add_emod_right]; exact hm
  rw [hr]
  generalize c.getD k pn0 = p at *
  generalize c.length = N at *
  have hw1 : wrap64 (i + (N : Int)) = i + (N : Int) := by unfold wrap64; omega
  have hnz : (N : Int) ≠ 0 := by omega
  clear hm hr h
  rw [show pnV p = .agg #[.int .i64 p.x, .int .i64 p.y, .int .i64 p.k] from rfl]
  go_enter Tryz.func48, Tryz.ntmps48
  go_wp2_with fail
  refine bodyPost_ret (v := .agg #[.int .i64 p.x, .int .i64 p.y, .int .i64 p.k]) (by simp [results, Tryz.results48, go_sem]) rfl ⟨rfl, by (repeat (first | exact Kp.refl _ _ | assumption | refine Kp.drew ?_ | refine Kp.drewN ?_ _ | refine Kp.alloc ?_ _ | (refine Kp.setCell ?_ (by first | (left; simp; done) | (right; simp; try omega)) _) | (refine Kp.trans' ?_ (by assumption) (by simp; try omega))))⟩
/-- The point in the middle of two. -/
def midP (a b : Pn) : Pn := ⟨(a.x + b.x) / 2, (a.y + b.y) / 2, 1⟩
theorem many_calls (a b : Int) (w : World) : Calls Tryz.prog 28 #[.int .i64 a, .int .i64 b] w fun e w' => e = .returned (.bool (decide (256 < a) || decide (4096 < b))) ∧ w = w' := by
  by_cases h1 : 256 < a
  · rw [decide_eq_true h1, Bool.true_or]
    go_enter Tryz.func28, Tryz.ntmps28
    go_wp2_with fail
    go_ret
    exact ⟨rfl, rfl⟩
  · rw [decide_eq_false h1, Bool.false_or]
    go_enter Tryz.func28, Tryz.ntmps28
    go_wp2_with fail
    go_ret
    exact ⟨rfl, rfl⟩
end Go.Proofs.YtfgpocpfapnkkaaGreat
namespace Go.Proofs.YtfgpocpfapnkkaaGreat
open Go.RowKit
set_option linter.unusedVariables false
set_option linter.unusedSimpArgs false
def kindsB (c : List Pn) (a b d : Int) : Bool := ((ringAt c a).k == 1) && (((ringAt c b).k == 3) && ((ringAt c d).k == 1))
def standsB (c : List Pn) (i : Int) : Bool := decide (3 ≤ c.length) && (kindsB c (i - 1) (i + 1) (i + 2) || kindsB c (i + 1) (i - 1) (i - 2))
def mayPn (c : List Pn) (i : Nat) : Bool := numF (c.getD i pn0).x && (numF (c.getD i pn0).y && ((c.getD i pn0).k == 1 || ((c.getD i pn0).k == 2 || ((c.getD i pn0).k == 3 && standsB c i))))
def mayTo (c : List Pn) (j : Nat) : Bool := (List.range j).all (mayPn c)
def mayCo (c : List Pn) : Bool := decide (0 < c.length) && mayTo c c.length
theorem field_k (v0 v1 v2 : Value) (w : World) : (Instr.field 38 (.agg #[v0, v1, v2]) 2).run Tryz.prog w = .ok v2 w := by kernel_rfl
theorem at_as (v : Value) (c : List Pn) (i : Int) (k : Int) (hk : (ringAt c i).k = k) (w : World) (h : IsPs w v c) (h0 : 0 < c.length) (hl : c.length ≤ 4611686018427387904) (hi : -4611686018427387904 ≤ i) (hi2 : i ≤ 4611686018427387904) :
    Calls Tryz.prog 89 #[v, .int .i64 i] w fun e w' => e = .returned (.agg #[.int .i64 (ringAt c i).x, .int .i64 (ringAt c i).y, .int .i64 k]) ∧ Kp [] w w' := by
  subst hk; exact at_calls v c i w h h0 hl hi hi2
set_option maxRecDepth 100000 in
set_option maxHeartbeats 2000000 in
theorem kinds_calls (B : Nat) (v : Value) (c : List Pn) (a b d : Int) (w : World) (hB : w.cell? ⟨B, 0, none⟩ = some v) (h : IsPs w v c) (h0 : 0 < c.length) (hl : c.length ≤ 4611686018427387904)
    (ha : -4611686018427387904 ≤ a ∧ a ≤ 4611686018427387904) (hb : -4611686018427387904 ≤ b ∧ b ≤ 4611686018427387904) (hd : -4611686018427387904 ≤ d ∧ d ≤ 4611686018427387904) :
    Calls Tryz.prog 88 #[.int .i64 a, .int .i64 b, .int .i64 d, .pointer (some ⟨B, 0, none⟩)] w fun e w' => e = .returned (.bool (kindsB c a b d)) ∧ Kp [] w w' := by
  obtain ⟨ha0, ha1⟩ := ha
  obtain ⟨hb0, hb1⟩ := hb
  obtain ⟨hd0, hd1⟩ := hd
  obtain ⟨ka, hka⟩ : ∃ k, (ringAt c a).k = k := ⟨_, rfl⟩
  obtain ⟨kb, hkb⟩ : ∃ k, (ringAt c b).k = k := ⟨_, rfl⟩
  obtain ⟨kd, hkd⟩ : ∃ k, (ringAt c d).k = k := ⟨_, rfl⟩
  have HA := Lib.hid (fun W hW => at_as v c a ka hka W hW h0 hl ha0 ha1)
  have HB := Lib.hid (fun W hW => at_as v c b kb hkb W hW h0 hl hb0 hb1)
  have HD := Lib.hid (fun W hW => at_as v c d kd hkd W hW h0 hl hd0 hd1)
  have HP := Lib.hid h
  have HE : Hid (kindsB c a b d = ((ka == 1) && ((kb == 3) && (kd == 1)))) := by show _ = _; unfold kindsB; rw [hka, hkb, hkd]
  rw [HE.out]
  have HC := Lib.hid hB
  have hfk := field_k
  obtain ⟨pv, cv, hv⟩ := h.form
  subst hv
  generalize (ringAt c a).x = xa at *
  generalize (ringAt c a).y = ya at *
  generalize (ringAt c b).x = xb at *
  generalize (ringAt c b).y = yb at *
  generalize (ringAt c d).x = xd at *
  generalize (ringAt c d).y = yd at *
  clear hka hkb hkd h HE
  by_cases h1 : ka = 1
  · have h1' : (ka == 1) = true := by simp [h1]
    rw [h1', Bool.true_and]
    clear h1
    by_cases h2 : kb = 3
    · have h2' : (kb == 3) = true := by simp [h2]
      rw [h2', Bool.true_and]
      clear h2
      go_enter Tryz.func88, Tryz.ntmps88
      go_wp2_with fail
      refine (HA.out _ HP.out).mono ?_; rintro e w1 ⟨rfl, hk1⟩
      have hc1 := hk1.cell HC.out (by simp)
      have HP1 := Lib.hid (HP.out.kp0 hk1)
      go_wp2_with fail
      refine (HB.out _ HP1.out).mono ?_; rintro e w2 ⟨rfl, hk2⟩
      have hc2 := hk2.cell hc1 (by simp)
      have HP2 := Lib.hid (HP1.out.kp0 hk2)
      go_wp2_with fail
      refine (HD.out _ HP2.out).mono ?_; rintro e w3 ⟨rfl, hk3⟩
      have HK : Hid (Kp [] w w3) := hk1.trans (hk2.trans hk3)
      go_wp2_with fail
      go_ret
      exact ⟨rfl, HK.out⟩
    · have h2' : (kb == 3) = false := by simp [h2]
      rw [h2', Bool.false_and]
      clear h2
      go_enter Tryz.func88, Tryz.ntmps88
      go_wp2_with fail
      refine (HA.out _ HP.out).mono ?_; rintro e w1 ⟨rfl, hk1⟩
      have hc1 := hk1.cell HC.out (by simp)
      have HP1 := Lib.hid (HP.out.kp0 hk1)
      go_wp2_with fail
      refine (HB.out _ HP1.out).mono ?_; rintro e w2 ⟨rfl, hk2⟩
      have HK : Hid (Kp [] w w2) := hk1.trans hk2
      go_wp2_with fail
      go_ret
      exact ⟨rfl, HK.out⟩
  · have h1' : (ka == 1) = false := by simp [h1]
    rw [h1', Bool.false_and]
    clear h1
    go_enter Tryz.func88, Tryz.ntmps88
    go_wp2_with fail
    refine (HA.out _ HP.out).mono ?_; rintro e w1 ⟨rfl, hk1⟩
    have HK : Hid (Kp [] w w1) := hk1
    go_wp2_with fail
    go_ret
    exact ⟨rfl, HK.out⟩
set_option maxRecDepth 100000 in
set_option maxHeartbeats 2000000 in
theorem stands_calls (v : Value) (c : List Pn) (i : Int) (w : World) (h : IsPs w v c) (hl : c.length ≤ 2305843009213693952) (hi : 0 ≤ i) (hi2 : i < c.length) :
    Calls Tryz.prog 62 #[v, .int .i64 i] w fun e w' => e = .returned (.bool (standsB c i)) ∧ Kp [] w w' := by
  obtain ⟨pv, cv, hv⟩ := h.form
  subst hv
  have HP := Lib.hid h
  have hk0 : Kp [] w (w.alloc (.cells #[.slice pv c.length cv] 36)) := (Kp.refl _ _).alloc _
  have hcell : (w.alloc (.cells #[.slice pv c.length cv] 36)).cell? ⟨w.heap.size, 0, none⟩ = some (.slice pv c.length cv) := by go_simp
  have HX := Lib.hid (fun W (hk : Kp [] (w.alloc (.cells #[.slice pv c.length cv] 36)) W) => kinds_calls w.heap.size _ c (i - 1) (i + 1) (i + 2) W (hk.cell hcell (by simp)) (h.kp0 (hk0.trans hk)) (by omega) (by omega) (by omega) (by omega) (by omega))
  have HY := Lib.hid (fun W (hk : Kp [] (w.alloc (.cells #[.slice pv c.length cv] 36)) W) => kinds_calls w.heap.size _ c (i + 1) (i - 1) (i - 2) W (hk.cell hcell (by simp)) (h.kp0 (hk0.trans hk)) (by omega) (by omega) (by omega) (by omega) (by omega))
  have HE : Hid (standsB c i = (decide (3 ≤ c.length) && (kindsB c (i - 1) (i + 1) (i + 2) || kindsB c (i + 1) (i - 1) (i - 2)))) := rfl
  rw [HE.out]
  generalize kindsB c (i - 1) (i + 1) (i + 2) = X at *
  generalize kindsB c (i + 1) (i - 1) (i - 2) = Y at *
  generalize c.length = N at *
  clear h HE
  by_cases h3 : 3 ≤ N
  · rw [decide_eq_true h3, Bool.true_and]
    cases X
    · rw [Bool.false_or]
      go_enter Tryz.func62, Tryz.ntmps62
      go_wp2_with fail
      refine (HX.out _ (Kp.refl _ _)).mono ?_; rintro e w1 ⟨rfl, hk1⟩
      have HK1 := Lib.hid hk1
      go_wp2_with fail
      refine (HY.out _ HK1.out).mono ?_; rintro e w2 ⟨rfl, hk2⟩
      have HK : Hid (Kp [] w w2) := hk0.trans (HK1.out.trans hk2)
      go_wp2_with fail
      go_ret
      exact ⟨rfl, HK.out⟩
    · rw [Bool.true_or]
      go_enter Tryz.func62, Tryz.ntmps62
      go_wp2_with fail
      refine (HX.out _ (Kp.refl _ _)).mono ?_; rintro e w1 ⟨rfl, hk1⟩
      have HK : Hid (Kp [] w w1) := hk0.trans hk1
      go_wp2_with fail
      go_ret
      exact ⟨rfl, HK.out⟩
  · rw [decide_eq_false h3, Bool.false_and]
    go_enter Tryz.func62, Tryz.ntmps62
    go_wp2_with fail
    go_ret
    exact ⟨rfl, by (repeat (first | exact Kp.refl _ _ | assumption | refine Kp.drew ?_ | refine Kp.drewN ?_ _ | refine Kp.alloc ?_ _ | (refine Kp.setCell ?_ (by first | (left; simp; done) | (right; simp; try omega)) _) | (refine Kp.trans' ?_ (by assumption) (by simp; try omega))))⟩
end Go.Proofs.YtfgpocpfapnkkaaGreat
namespace Go.Proofs.YtfgpocpfapnkkaaGreat
open Go.RowKit
set_option linter.unusedVariables false
set_option linter.unusedSimpArgs false
theorem kind_cases (k : Int) : k = 1 ∨ k = 2 ∨ k = 3 ∨ ((k == 1) = false ∧ (k == 2) = false ∧ (k == 3) = false) := by
  by_cases h1 : k = 1
  · exact .inl h1
  · by_cases h2 : k = 2
    · exact .inr (.inl h2)
    · by_cases h3 : k = 3
      · exact .inr (.inr (.inl h3))
      · exact .inr (.inr (.inr ⟨by simp [h1], by simp [h2], by simp [h3]⟩))
set_option maxRecDepth 100000 in
set_option maxHeartbeats 2000000 in
theorem maypn_calls (v : Value) (c : List Pn) (i : Nat) (w : World) (h : IsPs w v c) (hl : c.length ≤ 2305843009213693952) (hi : i < c.length) :
    Calls Tryz.prog 47 #[v, .int .i64 i] w fun e w' => e = .returned (.bool (mayPn c i)) ∧ Kp [] w w' := by
  have HS := Lib.hid (fun W (hk : Kp [] w W) => stands_calls v c i W (h.kp0 hk) hl (by omega) (by omega))
  obtain ⟨g, off, cp, rfl, _, _, c0, c1, c2⟩ := h.row hi
  have hgl : g < w.heap.size := World.block_lt_of_cell? w _ c0
  have HE : Hid (mayPn c i = (numF (c.getD i pn0).x && (numF (c.getD i pn0).y && ((c.getD i pn0).k == 1 || ((c.getD i pn0).k == 2 || ((c.getD i pn0).k == 3 && standsB c i)))))) := rfl
  rw [HE.out]
  have HX := Lib.hid (fun W => fmay_calls (c.getD i pn0).x W)
  have HY := Lib.hid (fun W => fmay_calls (c.getD i pn0).y W)
  generalize standsB c i = T at *
  generalize c.getD i pn0 = p at *
  obtain ⟨x, y, k⟩ := p
  dsimp only at c0 c1 c2 HX HY ⊢
  generalize numF x = X at *
  generalize numF y = Y at *
  generalize c.length = N at *
  clear HE h
  cases X
  · rw [Bool.false_and]
    go_enter Tryz.func47, Tryz.ntmps47
    go_wp2_with fail
    refine (HX.out _).mono ?_; rintro e w1 ⟨rfl, rfl⟩
    go_wp2_with fail
    go_ret
    exact ⟨rfl, by (repeat (first | exact Kp.refl _ _ | assumption | refine Kp.drew ?_ | refine Kp.drewN ?_ _ | refine Kp.alloc ?_ _ | (refine Kp.setCell ?_ (by first | (left; simp; done) | (right; simp; try omega)) _) | (refine Kp.trans' ?_ (by assumption) (by simp; try omega))))⟩
  · rw [Bool.true_and]
    cases Y
    · rw [Bool.false_and]
      go_enter Tryz.func47, Tryz.ntmps47
      go_wp2_with fail
      refine (HX.out _).mono ?_; rintro e w1 ⟨rfl, rfl⟩
      go_wp2_with fail
      refine (HY.out _).mono ?_; rintro e w1 ⟨rfl, rfl⟩
      go_wp2_with fail
      go_ret
      exact ⟨rfl, by (repeat (first | exact Kp.refl _ _ | assumption | refine Kp.drew ?_ | refine Kp.drewN ?_ _ | refine Kp.alloc ?_ _ | (refine Kp.setCell ?_ (by first | (left; simp; done) | (right; simp; try omega)) _) | (refine Kp.trans' ?_ (by assumption) (by simp; try omega))))⟩
    · rw [Bool.true_and]
      rcases kind_cases k with rfl | rfl | rfl | ⟨k1, k2, k3⟩
      · go_enter Tryz.func47, Tryz.ntmps47
        go_wp2_with fail
        refine (HX.out _).mono ?_; rintro e w1 ⟨rfl, rfl⟩
        go_wp2_with fail
        refine (HY.out _).mono ?_; rintro e w1 ⟨rfl, rfl⟩
        go_wp2_with fail
        go_ret
        exact ⟨rfl, by (repeat (first | exact Kp.refl _ _ | assumption | refine Kp.drew ?_ | refine Kp.drewN ?_ _ | refine Kp.alloc ?_ _ | (refine Kp.setCell ?_ (by first | (left; simp; done) | (right; simp; try omega)) _) | (refine Kp.trans' ?_ (by assumption) (by simp; try omega))))⟩
      · go_enter Tryz.func47, Tryz.ntmps47
        go_wp2_with fail
        refine (HX.out _).mono ?_; rintro e w1 ⟨rfl, rfl⟩
        go_wp2_with fail
        refine (HY.out _).mono ?_; rintro e w1 ⟨rfl, rfl⟩
        go_wp2_with fail
        go_ret
        exact ⟨rfl, by (repeat (first | exact Kp.refl _ _ | assumption | refine Kp.drew ?_ | refine Kp.drewN ?_ _ | refine Kp.alloc ?_ _ | (refine Kp.setCell ?_ (by first | (left; simp; done) | (right; simp; try omega)) _) | (refine Kp.trans' ?_ (by assumption) (by simp; try omega))))⟩
      · rw [show ((3 : Int) == 1 || ((3 : Int) == 2 || ((3 : Int) == 3 && T))) = T by cases T <;> rfl]
        go_enter Tryz.func47, Tryz.ntmps47
        go_wp2_with fail
        refine (HX.out _).mono ?_; rintro e w1 ⟨rfl, rfl⟩
        go_wp2_with fail
        refine (HY.out _).mono ?_; rintro e w1 ⟨rfl, rfl⟩
        go_wp2_with fail
        refine (HS.out _ (by (repeat (first | exact Kp.refl _ _ | assumption | refine Kp.drew ?_ | refine Kp.drewN ?_ _ | refine Kp.alloc ?_ _ | (refine Kp.setCell ?_ (by first | (left; simp; done) | (right; simp; try omega)) _) | (refine Kp.trans' ?_ (by assumption) (by simp; try omega)))))).mono ?_; rintro e w3 ⟨rfl, hk3⟩
        have HK : Hid (Kp [] w w3) := Kp.trans (by (repeat (first | exact Kp.refl _ _ | assumption | refine Kp.drew ?_ | refine Kp.drewN ?_ _ | refine Kp.alloc ?_ _ | (refine Kp.setCell ?_ (by first | (left; simp; done) | (right; simp; try omega)) _) | (refine Kp.trans' ?_ (by assumption) (by simp; try omega))))) hk3
        go_wp2_with fail
        go_ret
        exact ⟨rfl, HK.out⟩
      · rw [k1, k2, k3, Bool.false_or, Bool.false_or, Bool.false_and]
        go_enter Tryz.func47, Tryz.ntmps47
        go_wp2_with fail
        refine (HX.out _).mono ?_; rintro e w1 ⟨rfl, rfl⟩
        go_wp2_with fail
        refine (HY.out _).mono ?_; rintro e w1 ⟨rfl, rfl⟩
        go_wp2_with fail
        go_ret
        exact ⟨rfl, by (repeat (first | exact Kp.refl _ _ | assumption | refine Kp.drew ?_ | refine Kp.drewN ?_ _ | refine Kp.alloc ?_ _ | (refine Kp.setCell ?_ (by first | (left; simp; done) | (right; simp; try omega)) _) | (refine Kp.trans' ?_ (by assumption) (by simp; try omega))))⟩
theorem mayTo_succ (c : List Pn) (j : Nat) : mayTo c (j + 1) = (mayTo c j && mayPn c j) := by simp [mayTo, List.range_succ]
theorem mayTo_not (c : List Pn) {j n : Nat} (h : j < n) (hb : mayPn c j = false) : mayTo c n = false := by
  unfold mayTo; rw [List.all_eq_false]; exact ⟨j, by simpa using h, by rw [hb]; simp⟩
set_option maxRecDepth 100000 in
theorem mayco_calls (v : Value) (c : List Pn) (w : World) (h : IsPs w v c) (hl : c.length ≤ 2305843009213693952) :
    Calls Tryz.prog 32 #[v] w fun e w' => e = .returned (.bool (mayCo c)) ∧ Kp [] w w' := by
  have HS := Lib.hid (fun i hi W (hk : Kp [] w W) => maypn_calls v c i W (h.kp0 hk) hl hi)
  obtain ⟨pv, cv, rfl⟩ := h.form
  obtain ⟨N, hN⟩ : ∃ N, c.length = N := ⟨_, rfl⟩
  have HE : Hid (mayCo c = (decide (0 < N) && mayTo c N)) := by show _ = _; unfold mayCo; rw [hN]
  rw [hN] at hl HS ⊢
  rw [HE.out]
  clear hN HE h
  go_enter Tryz.func32, Tryz.ntmps32
  go_wp2_with fail
  go_loopw [3, 6] (fun _ i wr => ∃ j : Nat, j ≤ N ∧ i = .int .i64 j ∧ Hid (mayTo c j = true ∧ Kp [] w wr)) (fun _ i _ => N - (intOf i).toNat)
  case atStart => exact ⟨0, by omega, rfl, rfl, Kp.refl _ _⟩
  case round =>
    obtain ⟨j, hj, rfl, HJ⟩ := hrel
    by_cases hlt : j < N
    · have HM := Lib.hid (HS.out j hlt wr HJ.out.2)
      have HT := Lib.hid (mayTo_succ c j)
      have HF := Lib.hid (mayTo_not c hlt)
      have hN0 : Hid (0 < N) := by show 0 < N; omega
      generalize mayPn c j = X at *
      cases X
      · have HF2 := Lib.hid (HF.out rfl)
        clear HF HT
        go_wp2_with fail
        refine HM.out.mono ?_; rintro e w2 ⟨rfl, hk2⟩
        have HK : Hid (Kp [] w w2) := HJ.out.2.trans hk2
        go_wp2_with fail
        go_ret
        exact ⟨by rw [HF2.out, Bool.and_false]; rfl, HK.out⟩
      · have HT2 : Hid (mayTo c (j + 1) = true) := by show _ = _; rw [HT.out, HJ.out.1]; rfl
        clear HF HT
        go_wp2_with fail
        refine HM.out.mono ?_; rintro e w2 ⟨rfl, hk2⟩
        have HK : Hid (Kp [] w w2) := HJ.out.2.trans hk2
        clear hk2
        go_wp2_with fail
        go_roundw
        case rel => first | exact ⟨j + 1, by omega, int_eq' (by omega), HT2.out, HK.out⟩ | ((repeat apply Exists.intro); exact ⟨⟨j + 1, by omega, int_eq' (by omega), HT2.out, HK.out⟩, rfl⟩)
        case measure => simp [intOf]; omega
    · obtain rfl : j = N := by omega
      have HK := Lib.hid HJ.out.2
      have HT := Lib.hid HJ.out.1
      clear HJ
      go_wp2_with fail
      go_ret
      exact ⟨by rw [HT.out, Bool.and_true]; simp, HK.out⟩
end Go.Proofs.YtfgpocpfapnkkaaGreat
namespace Go.Proofs.YtfgpocpfapnkkaaGreat
open Go.RowKit
set_option linter.unusedVariables false
set_option linter.unusedSimpArgs false
/-- What Check says. -/
def checkO (o : List (List Pn)) : Int := if 256 < o.length ∨ 4096 < cnt o then 100 else if o.all mayCo then 0 else 101
def okTo (o : List (List Pn)) (j : Nat) : Bool := (o.take j).all mayCo
theorem okTo_succ (o : List (List Pn)) (j : Nat) (h : j < o.length) : okTo o (j + 1) = (okTo o j && mayCo (o.getD j [])) := by
  unfold okTo
  rw [List.take_succ_eq_append_getElem h, List.all_append, List.getD_eq_getElem?_getD, List.getElem?_eq_getElem h]
  simp only [List.all_cons, List.all_nil, Bool.and_true, Option.getD_some]
theorem okTo_not (o : List (List Pn)) (j : Nat) (h : j < o.length) (hb : mayCo (o.getD j []) = false) : o.all mayCo = false := by
  rw [List.all_eq_false]
  refine ⟨o.getD j [], ?_, by rw [hb]; simp⟩
  rw [List.getD_eq_getElem?_getD, List.getElem?_eq_getElem h]; exact List.getElem_mem _
/-- No contour is too long to be counted. -/
def smallO (o : List (List Pn)) : Prop := ∀ j, j < o.length → (o.getD j []).length ≤ 2305843009213693952
theorem check1_calls (v : Value) (c : List Pn) (w : World) (h : IsPs w v c) (hl : c.length ≤ 2305843009213693952) : Calls Tryz.prog 31 #[v] w fun e w' => e = .returned (.bool (!mayCo c)) ∧ Kp [] w w' := by
  have HM := Lib.hid (mayco_calls v c w h hl)
  generalize mayCo c = X at *
  obtain ⟨pv, cv, rfl⟩ := h.form
  clear h
  go_enter Tryz.func31, Tryz.ntmps31
  go_wp2_with fail
  refine HM.out.mono ?_; rintro e w1 ⟨rfl, hk1⟩
  have HK := Lib.hid hk1
  clear hk1
  go_wp2_with fail
  go_ret
  exact ⟨rfl, HK.out⟩
set_option maxRecDepth 100000 in
theorem indexOu_calls (v : Value) (o : List (List Pn)) (w : World) (hv : IsOut w v o) (hs : smallO o) :
    Calls Tryz.prog 46 #[v, .func (.func 31) #[] #[]] w fun e w' => ∃ z : Int, (-1 ≤ z ∧ z ≤ 9223372036854775807 ∧ decide (0 ≤ z) = !o.all mayCo) ∧ e = .returned (.int .i64 z) ∧ Kp [] w w' := by
  have hle := hv.le
  unfold maxLen at hle
  obtain ⟨pa, ca, rfl⟩ := hv.form
  have HV := Lib.hid hv
  have HS := Lib.hid hs
  clear hv hs
  obtain ⟨N, hN⟩ : ∃ N, o.length = N := ⟨_, rfl⟩
  have HN := Lib.hid hN
  rw [hN] at HV hle ⊢
  clear hN
  go_enter Tryz.func46, Tryz.ntmps46
  go_wp2_with fail
  go_loopw [5, 8] (fun _ i wr => ∃ j : Nat, j ≤ N ∧ i = .int .i64 j ∧ Hid (okTo o j = true ∧ Kp [] w wr)) (fun _ i _ => N - (intOf i).toNat)
  case atStart => exact ⟨0, by omega, rfl, rfl, Kp.refl _ _⟩
  case round =>
    obtain ⟨j, hj, rfl, HJ⟩ := hrel
    by_cases hlt : j < N
    · have hjo : j < o.length := by rw [HN.out]; exact hlt
      obtain ⟨g1, o1, c1, p1, cv, e1, _, _, h1, hp⟩ := (HV.out.kp0 HJ.out.2).row hjo
      rw [HN.out] at e1
      cases e1
      have HP := Lib.hid (okTo_succ o j hjo)
      have HP2 := Lib.hid (okTo_not o j hjo)
      have HC := Lib.hid (check1_calls _ _ wr hp (HS.out j hjo))
      clear hjo hp
      generalize mayCo (o.getD j []) = X at *
      generalize (o.getD j []).length = L at *
      go_wp2_with fail
      refine HC.out.mono ?_; rintro e w2 ⟨rfl, hk2⟩
      have HK2 : Hid (Kp [] w w2) := HJ.out.2.trans hk2
      clear hk2 h1
      cases X
      · have HA := Lib.hid (HP2.out rfl)
        clear HP2
        go_wp2_with fail
        go_ret
        exact ⟨_, ⟨by omega, by omega, by rw [HA.out]; simp⟩, rfl, HK2.out⟩
      · have HB : Hid (okTo o (j + 1) = true) := by show _ = _; rw [HP.out, HJ.out.1]; rfl
        clear HP HP2
        go_wp2_with fail
        go_roundw
        case rel => first | exact ⟨j + 1, by omega, int_eq' (by omega), HB.out, HK2.out⟩ | ((repeat apply Exists.intro); exact ⟨⟨j + 1, by omega, int_eq' (by omega), HB.out, HK2.out⟩, rfl⟩)
        case measure => simp [intOf]; omega
    · obtain rfl : j = N := by omega
      have HA : Hid (o.all mayCo = true) := by
        have := HJ.out.1; unfold okTo at this
        rwa [List.take_of_length_le (by rw [HN.out]; exact Nat.le_refl _)] at this
      go_wp2_with fail
      go_ret
      exact ⟨_, ⟨by decide, by decide, by rw [HA.out]; rfl⟩, rfl, HJ.out.2⟩
theorem containsOu_calls (v : Value) (o : List (List Pn)) (w : World) (hv : IsOut w v o) (hs : smallO o) :
    Calls Tryz.prog 30 #[v, .func (.func 31) #[] #[]] w fun e w' => e = .returned (.bool (!o.all mayCo)) ∧ Kp [] w w' := by
  have HI := Lib.hid (indexOu_calls v o w hv hs)
  generalize (!o.all mayCo) = X at *
  clear hv
  go_enter Tryz.func30, Tryz.ntmps30
  go_wp2_with fail
  refine HI.out.mono ?_; rintro e w1 ⟨z, ⟨z0, z1, hz⟩, rfl, hk1⟩
  have HK := Lib.hid hk1
  clear hk1 HI
  go_wp2_with fail
  go_ret
  exact ⟨rfl, HK.out⟩
theorem checkO_many {o : List (List Pn)} (h : (decide ((256 : Int) < o.length) || decide ((4096 : Int) < (cnt o : Nat))) = true) : checkO o = 100 := by
  simp only [Bool.or_eq_true, decide_eq_true_eq] at h
  unfold checkO; rw [if_pos (by omega)]
theorem checkO_few {o : List (List Pn)} (h : (decide ((256 : Int) < o.length) || decide ((4096 : Int) < (cnt o : Nat))) = false) : checkO o = if o.all mayCo then 0 else 101 := by
  simp only [Bool.or_eq_false_iff, decide_eq_false_iff_not] at h
  unfold checkO; rw [if_neg (by omega)]
set_option maxRecDepth 100000 in
theorem check_calls (v : Value) (o : List (List Pn)) (w : World) (hv : IsOut w v o) (hs : smallO o) (hc : cnt o ≤ 4611686018427387904) :
    Calls Tryz.prog 20 #[v] w fun e w' => e = .returned (.int .i64 (checkO o)) ∧ Kp [] w w' := by
  have HC := Lib.hid (ccount_calls v o w hv hc)
  have HM := Lib.hid (fun W => many_calls (o.length : Int) (cnt o : Nat) W)
  have HF := Lib.hid (containsOu_calls v o w hv hs)
  obtain ⟨pa, ca, rfl⟩ := hv.form
  have HE1 := Lib.hid (checkO_many (o := o))
  have HE2 := Lib.hid (checkO_few (o := o))
  generalize (decide ((256 : Int) < o.length) || decide ((4096 : Int) < (cnt o : Nat))) = X at *
  generalize checkO o = E at *
  generalize o.all mayCo = A at *
  generalize cnt o = C at *
  generalize o.length = N at *
  clear hv hs
  cases X
  · have HE := Lib.hid (HE2.out rfl)
    rw [HE.out]
    clear HE1 HE2 HE
    cases A
    · go_enter Tryz.func20, Tryz.ntmps20
      go_wp2_with fail
      refine HC.out.mono ?_; rintro e w1 ⟨rfl, rfl⟩
      go_wp2_with fail
      refine (HM.out _).mono ?_; rintro e w1 ⟨rfl, rfl⟩
      go_wp2_with fail
      refine HF.out.mono ?_; rintro e w2 ⟨rfl, hk2⟩
      have HK := Lib.hid hk2
      clear hk2
      go_wp2_with fail
      go_ret
      exact ⟨rfl, HK.out⟩
    · go_enter Tryz.func20, Tryz.ntmps20
      go_wp2_with fail
      refine HC.out.mono ?_; rintro e w1 ⟨rfl, rfl⟩
      go_wp2_with fail
      refine (HM.out _).mono ?_; rintro e w1 ⟨rfl, rfl⟩
      go_wp2_with fail
      refine HF.out.mono ?_; rintro e w2 ⟨rfl, hk2⟩
      have HK := Lib.hid hk2
      clear hk2
      go_wp2_with fail
      go_ret
      exact ⟨rfl, HK.out⟩
  · have HE := Lib.hid (HE1.out rfl)
    rw [HE.out]
    clear HE1 HE2 HE
    go_enter Tryz.func20, Tryz.ntmps20
    go_wp2_with fail
    refine HC.out.mono ?_; rintro e w1 ⟨rfl, rfl⟩
    go_wp2_with fail
    refine (HM.out _).mono ?_; rintro e w1 ⟨rfl, rfl⟩
    go_wp2_with fail
    go_ret
    exact ⟨rfl, Kp.refl _ _⟩
end Go.Proofs.YtfgpocpfapnkkaaGreat
namespace Go.Proofs.YtfgpocpfapnkkaaGreat
open Go.RowKit
set_option linter.unusedVariables false
set_option linter.unusedSimpArgs false
theorem rat_as (v : Value) (c : List Pn) (i : Int) (k : Int) (hk : (ringAt c i).k = k) (w : World) (h : IsPs w v c) (h0 : 0 < c.length) (hl : c.length ≤ 2305843009213693952) (hi : -(c.length : Int) ≤ i) (hi2 : i ≤ 2305843009213693952) :
    Calls Tryz.prog 48 #[v, .int .i64 i] w fun e w' => e = .returned (.agg #[.int .i64 (ringAt c i).x, .int .i64 (ringAt c i).y, .int .i64 k]) ∧ Kp [] w w' := by
  subst hk; exact rat10_calls v c i w h h0 hl hi hi2
theorem ring_back (c : List Pn) (i : Int) : ringAt c (i + (c.length : Int)) = ringAt c i := by unfold ringAt; rw [Int.add_emod_right]
set_option maxRecDepth 100000 in
set_option maxHeartbeats 2000000 in
theorem rcubic_calls (v : Value) (c : List Pn) (i : Int) (w : World) (h : IsPs w v c) (hl : c.length ≤ 1152921504606846976) (hi : 0 ≤ i) (hi2 : i < c.length) :
    Calls Tryz.prog 34 #[v, .int .i64 i] w fun e w' => e = .returned (.bool (standsB c i)) ∧ Kp [] w w' := by
  obtain ⟨ka, hka⟩ : ∃ k, (ringAt c (i - 1)).k = k := ⟨_, rfl⟩
  obtain ⟨kb, hkb⟩ : ∃ k, (ringAt c (i + 1)).k = k := ⟨_, rfl⟩
  obtain ⟨kc, hkc⟩ : ∃ k, (ringAt c (i + 2)).k = k := ⟨_, rfl⟩
  obtain ⟨kd, hkd⟩ : ∃ k, (ringAt c (i - 2)).k = k := ⟨_, rfl⟩
  have hkd2 : (ringAt c (i - 2 + (c.length : Int))).k = kd := by rw [ring_back]; exact hkd
  have HE : Hid (standsB c i = (decide (3 ≤ c.length) && (((ka == 1) && ((kb == 3) && (kc == 1))) || ((kb == 1) && ((ka == 3) && (kd == 1)))))) := by show _ = _; unfold standsB kindsB; rw [hka, hkb, hkc, hkd]
  have HA := Lib.hid (fun W hW => rat_as v c (i - 1) ka hka W hW (by omega) (by omega) (by omega) (by omega))
  have HB := Lib.hid (fun W hW => rat_as v c (i + 1) kb hkb W hW (by omega) (by omega) (by omega) (by omega))
  have HC := Lib.hid (fun W hW => rat_as v c (i + 2) kc hkc W hW (by omega) (by omega) (by omega) (by omega))
  have HD := Lib.hid (fun W hW => rat_as v c (i - 2 + (c.length : Int)) kd hkd2 W hW (by omega) (by omega) (by omega) (by omega))
  have HP := Lib.hid h
  have hfk := field_k
  obtain ⟨pv, cv, hv⟩ := h.form
  subst hv
  rw [HE.out]
  generalize (ringAt c (i - 1)).x = xa at *
  generalize (ringAt c (i - 1)).y = ya at *
  generalize (ringAt c (i + 1)).x = xb at *
  generalize (ringAt c (i + 1)).y = yb at *
  generalize (ringAt c (i + 2)).x = xc at *
  generalize (ringAt c (i + 2)).y = yc at *
  generalize (ringAt c (i - 2 + (c.length : Int))).x = xd at *
  generalize (ringAt c (i - 2 + (c.length : Int))).y = yd at *
  generalize c.length = N at *
  clear hka hkb hkc hkd hkd2 h HE
  by_cases h3 : 3 ≤ N
  · rw [decide_eq_true h3, Bool.true_and]
    by_cases ha : ka = 1 ∧ kb = 3
    · obtain ⟨rfl, rfl⟩ := ha
      rw [show (((1 : Int) == 1) && (((3 : Int) == 3) && (kc == 1)) || ((3 : Int) == 1) && (((1 : Int) == 3) && (kd == 1))) = (kc == 1) by cases (kc == 1) <;> rfl]
      go_enter Tryz.func34, Tryz.ntmps34
      go_wp2_with fail
      refine (HA.out _ HP.out).mono ?_; rintro e w1 ⟨rfl, hk1⟩
      have HP1 := Lib.hid (HP.out.kp0 hk1)
      go_wp2_with fail
      refine (HB.out _ HP1.out).mono ?_; rintro e w2 ⟨rfl, hk2⟩
      have HP2 := Lib.hid (HP1.out.kp0 hk2)
      have HK2 : Hid (Kp [] w w2) := hk1.trans hk2
      clear hk1 hk2
      go_wp2_with fail
      refine (HC.out _ HP2.out).mono ?_; rintro e w3 ⟨rfl, hk3⟩
      have HK3 : Hid (Kp [] w w3) := HK2.out.trans hk3
      go_wp2_with fail
      go_ret
      exact ⟨rfl, HK3.out⟩
    · by_cases hb : ka = 3 ∧ kb = 1
      · obtain ⟨rfl, rfl⟩ := hb
        rw [show (((3 : Int) == 1) && (((1 : Int) == 3) && (kc == 1)) || ((1 : Int) == 1) && (((3 : Int) == 3) && (kd == 1))) = (kd == 1) by cases (kd == 1) <;> rfl]
        clear ha
        go_enter Tryz.func34, Tryz.ntmps34
        go_wp2_with fail
        refine (HA.out _ HP.out).mono ?_; rintro e w1 ⟨rfl, hk1⟩
        have HP1 := Lib.hid (HP.out.kp0 hk1)
        go_wp2_with fail
        refine (HB.out _ HP1.out).mono ?_; rintro e w2 ⟨rfl, hk2⟩
        have HP2 := Lib.hid (HP1.out.kp0 hk2)
        have HK2 : Hid (Kp [] w w2) := hk1.trans hk2
        clear hk1 hk2
        go_wp2_with fail
        refine (HD.out _ HP2.out).mono ?_; rintro e w3 ⟨rfl, hk3⟩
        have HK3 : Hid (Kp [] w w3) := HK2.out.trans hk3
        go_wp2_with fail
        go_ret
        exact ⟨rfl, HK3.out⟩
      · have hx : (((ka == 1) && ((kb == 3) && (kc == 1))) || ((kb == 1) && ((ka == 3) && (kd == 1)))) = false := by
          by_cases a1 : ka = 1
          · have b3 : (kb == 3) = false := by simp; omega
            have a3 : (ka == 3) = false := by simp; omega
            rw [b3, a3]; simp
          · have a0 : (ka == 1) = false := by simp [a1]
            rw [a0]
            by_cases a3 : ka = 3
            · have b1 : (kb == 1) = false := by simp; omega
              rw [b1]; rfl
            · have a4 : (ka == 3) = false := by simp [a3]
              rw [a4]; simp
        rw [hx]
        clear hx
        by_cases a1 : ka = 1
        · have b3 : (kb == 3) = false := by simp; omega
          subst a1
          clear ha hb
          go_enter Tryz.func34, Tryz.ntmps34
          go_wp2_with fail
          refine (HA.out _ HP.out).mono ?_; rintro e w1 ⟨rfl, hk1⟩
          have HP1 := Lib.hid (HP.out.kp0 hk1)
          go_wp2_with fail
          refine (HB.out _ HP1.out).mono ?_; rintro e w2 ⟨rfl, hk2⟩
          have HP2 := Lib.hid (HP1.out.kp0 hk2)
          have HK2 : Hid (Kp [] w w2) := hk1.trans hk2
          clear hk1 hk2
          go_wp2_with fail
          go_ret
          exact ⟨rfl, HK2.out⟩
        · have a0 : (ka == 1) = false := by simp [a1]
          by_cases a3 : ka = 3
          · have b1 : (kb == 1) = false := by simp; omega
            subst a3
            clear ha hb a1
            go_enter Tryz.func34, Tryz.ntmps34
            go_wp2_with fail
            refine (HA.out _ HP.out).mono ?_; rintro e w1 ⟨rfl, hk1⟩
            have HP1 := Lib.hid (HP.out.kp0 hk1)
            go_wp2_with fail
            refine (HB.out _ HP1.out).mono ?_; rintro e w2 ⟨rfl, hk2⟩
            have HP2 := Lib.hid (HP1.out.kp0 hk2)
            have HK2 : Hid (Kp [] w w2) := hk1.trans hk2
            clear hk1 hk2
            go_wp2_with fail
            go_ret
            exact ⟨rfl, HK2.out⟩
          · have a4 : (ka == 3) = false := by simp [a3]
            clear ha hb a1 a3
            go_enter Tryz.func34, Tryz.ntmps34
            go_wp2_with fail
            refine (HA.out _ HP.out).mono ?_; rintro e w1 ⟨rfl, hk1⟩
            have HP1 := Lib.hid (HP.out.kp0 hk1)
            go_wp2_with fail
            refine (HB.out _ HP1.out).mono ?_; rintro e w2 ⟨rfl, hk2⟩
            have HP2 := Lib.hid (HP1.out.kp0 hk2)
            have HK2 : Hid (Kp [] w w2) := hk1.trans hk2
            clear hk1 hk2
            go_wp2_with fail
            go_ret
            exact ⟨rfl, HK2.out⟩
  · rw [decide_eq_false h3, Bool.false_and]
    go_enter Tryz.func34, Tryz.ntmps34
    go_wp2_with fail
    refine (HA.out _ HP.out).mono ?_; rintro e w1 ⟨rfl, hk1⟩
    have HP1 := Lib.hid (HP.out.kp0 hk1)
    go_wp2_with fail
    refine (HB.out _ HP1.out).mono ?_; rintro e w2 ⟨rfl, hk2⟩
    have HP2 := Lib.hid (HP1.out.kp0 hk2)
    have HK2 : Hid (Kp [] w w2) := hk1.trans hk2
    clear hk1 hk2
    go_wp2_with fail
    go_ret
    exact ⟨rfl, HK2.out⟩
set_option maxRecDepth 100000 in
set_option maxHeartbeats 4000000 in
theorem rmayco_calls (v : Value) (c : List Pn) (w : World) (h : IsPs w v c) (hl : c.length ≤ 1152921504606846976) :
    Calls Tryz.prog 22 #[v] w fun e w' => e = .returned (.bool (mayCo c)) ∧ Kp [] w w' := by
  have HS := Lib.hid (fun (i : Nat) (hi : i < c.length) W (hk : Kp [] w W) => rcubic_calls v c i W (h.kp0 hk) hl (by omega) (by omega))
  have HP := Lib.hid h
  obtain ⟨pv, cv, rfl⟩ := h.form
  obtain ⟨N, hN⟩ : ∃ N, c.length = N := ⟨_, rfl⟩
  have HN := Lib.hid hN
  have HE : Hid (mayCo c = (decide (0 < N) && mayTo c N)) := by show _ = _; unfold mayCo; rw [hN]
  rw [hN] at hl HS HP ⊢
  rw [HE.out]
  clear hN HE h
  go_enter Tryz.func22, Tryz.ntmps22
  go_wp2_with fail
  go_loopw [3, 4] (fun i _ wr => ∃ j : Nat, j ≤ N ∧ i = .int .i64 j ∧ Hid (mayTo c j = true ∧ Kp [] w wr)) (fun i _ _ => N - (intOf i).toNat)
  case atStart => exact ⟨0, by omega, rfl, rfl, Kp.refl _ _⟩
  case round =>
    obtain ⟨j, hj, rfl, HJ⟩ := hrel
    by_cases hlt : j < N
    · have hjc : j < c.length := by rw [HN.out]; exact hlt
      obtain ⟨g, off, cp, e1, _, _, c0, c1, c2⟩ := (HP.out.kp0 HJ.out.2).row hjc
      rw [HN.out] at e1
      cases e1
      have hgl : g < wr.heap.size := World.block_lt_of_cell? wr _ c0
      have HC := Lib.hid (fun W (hk : Kp [] wr W) => HS.out j hlt W (HJ.out.2.trans hk))
      have HT := Lib.hid (mayTo_succ c j)
      have HF := Lib.hid (mayTo_not c hlt)
      have HMP : Hid (mayPn c j = (numF (c.getD j pn0).x && (numF (c.getD j pn0).y && ((c.getD j pn0).k == 1 || ((c.getD j pn0).k == 2 || ((c.getD j pn0).k == 3 && standsB c j)))))) := rfl
      have HX := Lib.hid (fun W => rfmay_calls (c.getD j pn0).x W)
      have HY := Lib.hid (fun W => rfmay_calls (c.getD j pn0).y W)
      generalize standsB c j = T at *
      generalize c.getD j pn0 = p at *
      obtain ⟨x, y, k⟩ := p
      dsimp only at c0 c1 c2 HX HY HMP
      generalize numF x = X at *
      generalize numF y = Y at *
      generalize mayPn c j = Z at *
      clear hjc
      rcases kind_cases k with rfl | rfl | rfl | ⟨k1, k2, k3⟩
      · cases X
        · skip
          have HF2 := Lib.hid (HF.out (by rw [HMP.out]; rfl))
          clear HF HT HMP
          go_wp2_with fail
          refine (HX.out _).mono ?_; rintro e w1 ⟨rfl, rfl⟩
          go_wp2_with fail
          go_ret
          exact ⟨by rw [HF2.out, Bool.and_false]; rfl, HJ.out.2.trans (by (repeat (first | exact Kp.refl _ _ | assumption | refine Kp.drew ?_ | refine Kp.drewN ?_ _ | refine Kp.alloc ?_ _ | (refine Kp.setCell ?_ (by first | (left; simp; done) | (right; simp; try omega)) _) | (refine Kp.trans' ?_ (by assumption) (by simp; try omega)))))⟩
        · cases Y
          · skip
            have HF2 := Lib.hid (HF.out (by rw [HMP.out]; rfl))
            clear HF HT HMP
            go_wp2_with fail
            refine (HX.out _).mono ?_; rintro e w1 ⟨rfl, rfl⟩
            go_wp2_with fail
            refine (HY.out _).mono ?_; rintro e w1 ⟨rfl, rfl⟩
            go_wp2_with fail
            go_ret
            exact ⟨by rw [HF2.out, Bool.and_false]; rfl, HJ.out.2.trans (by (repeat (first | exact Kp.refl _ _ | assumption | refine Kp.drew ?_ | refine Kp.drewN ?_ _ | refine Kp.alloc ?_ _ | (refine Kp.setCell ?_ (by first | (left; simp; done) | (right; simp; try omega)) _) | (refine Kp.trans' ?_ (by assumption) (by simp; try omega)))))⟩
          · skip
            have HT2 : Hid (mayTo c (j + 1) = true) := by show _ = _; rw [HT.out, HJ.out.1, HMP.out]; rfl
            clear HF HT HMP
            go_wp2_with fail
            refine (HX.out _).mono ?_; rintro e w1 ⟨rfl, rfl⟩
            go_wp2_with fail
            refine (HY.out _).mono ?_; rintro e w1 ⟨rfl, rfl⟩
            go_wp2_with fail
            go_roundw
            case rel => first | exact ⟨j + 1, by omega, int_eq' (by omega), HT2.out, HJ.out.2.trans (by (repeat (first | exact Kp.refl _ _ | assumption | refine Kp.drew ?_ | refine Kp.drewN ?_ _ | refine Kp.alloc ?_ _ | (refine Kp.setCell ?_ (by first | (left; simp; done) | (right; simp; try omega)) _) | (refine Kp.trans' ?_ (by assumption) (by simp; try omega)))))⟩ | ((repeat apply Exists.intro); exact ⟨⟨j + 1, by omega, int_eq' (by omega), HT2.out, HJ.out.2.trans (by (repeat (first | exact Kp.refl _ _ | assumption | refine Kp.drew ?_ | refine Kp.drewN ?_ _ | refine Kp.alloc ?_ _ | (refine Kp.setCell ?_ (by first | (left; simp; done) | (right; simp; try omega)) _) | (refine Kp.trans' ?_ (by assumption) (by simp; try omega)))))⟩, rfl⟩)
            case measure => simp [intOf]; omega
      · cases X
        · skip
          have HF2 := Lib.hid (HF.out (by rw [HMP.out]; rfl))
          clear HF HT HMP
          go_wp2_with fail
          refine (HX.out _).mono ?_; rintro e w1 ⟨rfl, rfl⟩
          go_wp2_with fail
          go_ret
          exact ⟨by rw [HF2.out, Bool.and_false]; rfl, HJ.out.2.trans (by (repeat (first | exact Kp.refl _ _ | assumption | refine Kp.drew ?_ | refine Kp.drewN ?_ _ | refine Kp.alloc ?_ _ | (refine Kp.setCell ?_ (by first | (left; simp; done) | (right; simp; try omega)) _) | (refine Kp.trans' ?_ (by assumption) (by simp; try omega)))))⟩
        · cases Y
          · skip
            have HF2 := Lib.hid (HF.out (by rw [HMP.out]; rfl))
            clear HF HT HMP
            go_wp2_with fail
            refine (HX.out _).mono ?_; rintro e w1 ⟨rfl, rfl⟩
            go_wp2_with fail
            refine (HY.out _).mono ?_; rintro e w1 ⟨rfl, rfl⟩
            go_wp2_with fail
            go_ret
            exact ⟨by rw [HF2.out, Bool.and_false]; rfl, HJ.out.2.trans (by (repeat (first | exact Kp.refl _ _ | assumption | refine Kp.drew ?_ | refine Kp.drewN ?_ _ | refine Kp.alloc ?_ _ | (refine Kp.setCell ?_ (by first | (left; simp; done) | (right; simp; try omega)) _) | (refine Kp.trans' ?_ (by assumption) (by simp; try omega)))))⟩
          · skip
            have HT2 : Hid (mayTo c (j + 1) = true) := by show _ = _; rw [HT.out, HJ.out.1, HMP.out]; rfl
            clear HF HT HMP
            go_wp2_with fail
            refine (HX.out _).mono ?_; rintro e w1 ⟨rfl, rfl⟩
            go_wp2_with fail
            refine (HY.out _).mono ?_; rintro e w1 ⟨rfl, rfl⟩
            go_wp2_with fail
            go_roundw
            case rel => first | exact ⟨j + 1, by omega, int_eq' (by omega), HT2.out, HJ.out.2.trans (by (repeat (first | exact Kp.refl _ _ | assumption | refine Kp.drew ?_ | refine Kp.drewN ?_ _ | refine Kp.alloc ?_ _ | (refine Kp.setCell ?_ (by first | (left; simp; done) | (right; simp; try omega)) _) | (refine Kp.trans' ?_ (by assumption) (by simp; try omega)))))⟩ | ((repeat apply Exists.intro); exact ⟨⟨j + 1, by omega, int_eq' (by omega), HT2.out, HJ.out.2.trans (by (repeat (first | exact Kp.refl _ _ | assumption | refine Kp.drew ?_ | refine Kp.drewN ?_ _ | refine Kp.alloc ?_ _ | (refine Kp.setCell ?_ (by first | (left; simp; done) | (right; simp; try omega)) _) | (refine Kp.trans' ?_ (by assumption) (by simp; try omega)))))⟩, rfl⟩)
            case measure => simp [intOf]; omega
      · cases X
        · skip
          have HF2 := Lib.hid (HF.out (by rw [HMP.out]; rfl))
          clear HF HT HMP
          go_wp2_with fail
          refine (HX.out _).mono ?_; rintro e w1 ⟨rfl, rfl⟩
          go_wp2_with fail
          go_ret
          exact ⟨by rw [HF2.out, Bool.and_false]; rfl, HJ.out.2.trans (by (repeat (first | exact Kp.refl _ _ | assumption | refine Kp.drew ?_ | refine Kp.drewN ?_ _ | refine Kp.alloc ?_ _ | (refine Kp.setCell ?_ (by first | (left; simp; done) | (right; simp; try omega)) _) | (refine Kp.trans' ?_ (by assumption) (by simp; try omega)))))⟩
        · cases Y
          · skip
            have HF2 := Lib.hid (HF.out (by rw [HMP.out]; rfl))
            clear HF HT HMP
            go_wp2_with fail
            refine (HX.out _).mono ?_; rintro e w1 ⟨rfl, rfl⟩
            go_wp2_with fail
            refine (HY.out _).mono ?_; rintro e w1 ⟨rfl, rfl⟩
            go_wp2_with fail
            go_ret
            exact ⟨by rw [HF2.out, Bool.and_false]; rfl, HJ.out.2.trans (by (repeat (first | exact Kp.refl _ _ | assumption | refine Kp.drew ?_ | refine Kp.drewN ?_ _ | refine Kp.alloc ?_ _ | (refine Kp.setCell ?_ (by first | (left; simp; done) | (right; simp; try omega)) _) | (refine Kp.trans' ?_ (by assumption) (by simp; try omega)))))⟩
          · cases T
            · skip
              have HF2 := Lib.hid (HF.out (by rw [HMP.out]; rfl))
              clear HF HT HMP
              go_wp2_with fail
              refine (HX.out _).mono ?_; rintro e w1 ⟨rfl, rfl⟩
              go_wp2_with fail
              refine (HY.out _).mono ?_; rintro e w1 ⟨rfl, rfl⟩
              go_wp2_with fail
              refine (HC.out _ (by (repeat (first | exact Kp.refl _ _ | assumption | refine Kp.drew ?_ | refine Kp.drewN ?_ _ | refine Kp.alloc ?_ _ | (refine Kp.setCell ?_ (by first | (left; simp; done) | (right; simp; try omega)) _) | (refine Kp.trans' ?_ (by assumption) (by simp; try omega)))))).mono ?_; rintro e w2 ⟨rfl, hk2⟩
              have HK2 : Hid (Kp [] w w2) := HJ.out.2.trans (Kp.trans (by (repeat (first | exact Kp.refl _ _ | assumption | refine Kp.drew ?_ | refine Kp.drewN ?_ _ | refine Kp.alloc ?_ _ | (refine Kp.setCell ?_ (by first | (left; simp; done) | (right; simp; try omega)) _) | (refine Kp.trans' ?_ (by assumption) (by simp; try omega))))) hk2)
              clear hk2
              go_wp2_with fail
              go_ret
              exact ⟨by rw [HF2.out, Bool.and_false]; rfl, HK2.out⟩
            · skip
              have HT2 : Hid (mayTo c (j + 1) = true) := by show _ = _; rw [HT.out, HJ.out.1, HMP.out]; rfl
              clear HF HT HMP
              go_wp2_with fail
              refine (HX.out _).mono ?_; rintro e w1 ⟨rfl, rfl⟩
              go_wp2_with fail
              refine (HY.out _).mono ?_; rintro e w1 ⟨rfl, rfl⟩
              go_wp2_with fail
              refine (HC.out _ (by (repeat (first | exact Kp.refl _ _ | assumption | refine Kp.drew ?_ | refine Kp.drewN ?_ _ | refine Kp.alloc ?_ _ | (refine Kp.setCell ?_ (by first | (left; simp; done) | (right; simp; try omega)) _) | (refine Kp.trans' ?_ (by assumption) (by simp; try omega)))))).mono ?_; rintro e w2 ⟨rfl, hk2⟩
              have HK2 : Hid (Kp [] w w2) := HJ.out.2.trans (Kp.trans (by (repeat (first | exact Kp.refl _ _ | assumption | refine Kp.drew ?_ | refine Kp.drewN ?_ _ | refine Kp.alloc ?_ _ | (refine Kp.setCell ?_ (by first | (left; simp; done) | (right; simp; try omega)) _) | (refine Kp.trans' ?_ (by assumption) (by simp; try omega))))) hk2)
              clear hk2
              go_wp2_with fail
              go_roundw
              case rel => first | exact ⟨j + 1, by omega, int_eq' (by omega), HT2.out, HK2.out⟩ | ((repeat apply Exists.intro); exact ⟨⟨j + 1, by omega, int_eq' (by omega), HT2.out, HK2.out⟩, rfl⟩)
              case measure => simp [intOf]; omega
      · have hk13 : k < 1 ∨ 3 < k := by
          have a1 : k ≠ 1 := by simpa using k1
          have a2 : k ≠ 2 := by simpa using k2
          have a3 : k ≠ 3 := by simpa using k3
          omega
        have HF2 := Lib.hid (HF.out (by rw [HMP.out]; rw [k1, k2, k3]; simp))
        clear HF HT HMP
        clear k1 k2 k3
        rcases hk13 with hk1 | hk3
        · skip
          go_wp2_with fail
          go_ret
          exact ⟨by rw [HF2.out, Bool.and_false]; rfl, HJ.out.2.trans (by (repeat (first | exact Kp.refl _ _ | assumption | refine Kp.drew ?_ | refine Kp.drewN ?_ _ | refine Kp.alloc ?_ _ | (refine Kp.setCell ?_ (by first | (left; simp; done) | (right; simp; try omega)) _) | (refine Kp.trans' ?_ (by assumption) (by simp; try omega)))))⟩
        · have hk1 : decide (k < 1) = false := decide_eq_false (by omega)
          go_wp2_with fail
          go_ret
          exact ⟨by rw [HF2.out, Bool.and_false]; rfl, HJ.out.2.trans (by (repeat (first | exact Kp.refl _ _ | assumption | refine Kp.drew ?_ | refine Kp.drewN ?_ _ | refine Kp.alloc ?_ _ | (refine Kp.setCell ?_ (by first | (left; simp; done) | (right; simp; try omega)) _) | (refine Kp.trans' ?_ (by assumption) (by simp; try omega)))))⟩
    · obtain rfl : j = N := by omega
      have HK := Lib.hid HJ.out.2
      have HT := Lib.hid HJ.out.1
      clear HJ
      go_wp2_with fail
      go_ret
      exact ⟨by rw [HT.out, Bool.and_true]; simp, HK.out⟩
end Go.Proofs.YtfgpocpfapnkkaaGreat
namespace Go.Proofs.YtfgpocpfapnkkaaGreat
open Go.RowKit
set_option linter.unusedVariables false
set_option linter.unusedSimpArgs false
def tinyO (o : List (List Pn)) : Prop := ∀ j, j < o.length → (o.getD j []).length ≤ 1152921504606846976
theorem tinyO.small {o : List (List Pn)} (h : tinyO o) : smallO o := fun j hj => by have := h j hj; omega
set_option maxRecDepth 100000 in
set_option maxHeartbeats 2000000 in
theorem rcheck_calls (v : Value) (o : List (List Pn)) (w : World) (hv : IsOut w v o) (hs : tinyO o) (hc : cnt o ≤ 4611686018427387904) :
    Calls Tryz.prog 12 #[v] w fun e w' => e = .returned (.int .i64 (checkO o)) ∧ Kp [] w w' := by
  have HC := Lib.hid (rcount_calls v o w hv hc)
  have hle := hv.le
  unfold maxLen at hle
  obtain ⟨pa, ca, rfl⟩ := hv.form
  have HV := Lib.hid hv
  have HS := Lib.hid hs
  have HE0 : Hid (checkO o = if 256 < o.length ∨ 4096 < cnt o then 100 else if o.all mayCo then 0 else 101) := rfl
  obtain ⟨N, hN⟩ : ∃ N, o.length = N := ⟨_, rfl⟩
  have HN := Lib.hid hN
  rw [hN] at HV hle HC HE0 ⊢
  obtain ⟨C, hC⟩ : ∃ C, cnt o = C := ⟨_, rfl⟩
  rw [hC] at HC HE0 hc
  clear hN hv hs hC
  by_cases h1 : 256 < N
  · have HE : Hid (checkO o = 100) := by show _ = _; rw [HE0.out, if_pos (.inl h1)]
    rw [HE.out]
    clear HE0 HE
    go_enter Tryz.func12, Tryz.ntmps12
    go_wp2_with fail
    go_ret
    exact ⟨rfl, Kp.refl _ _⟩
  by_cases h2 : 4096 < C
  · have HE : Hid (checkO o = 100) := by show _ = _; rw [HE0.out, if_pos (.inr h2)]
    rw [HE.out]
    clear HE0 HE
    go_enter Tryz.func12, Tryz.ntmps12
    go_wp2_with fail
    refine HC.out.mono ?_; rintro e w1 ⟨rfl, rfl⟩
    go_wp2_with fail
    go_ret
    exact ⟨rfl, Kp.refl _ _⟩
  have HE : Hid (checkO o = if o.all mayCo then 0 else 101) := by show _ = _; rw [HE0.out, if_neg (by omega)]
  have hd1 : decide (256 < (N : Int)) = false := decide_eq_false (by omega)
  have hd2 : decide (4096 < (C : Int)) = false := decide_eq_false (by omega)
  generalize checkO o = E at *
  clear HE0 h1 h2
  go_enter Tryz.func12, Tryz.ntmps12
  go_wp2_with fail
  refine HC.out.mono ?_; rintro e w1 ⟨rfl, rfl⟩
  clear HC
  go_wp2_with fail
  go_loopw [3] (fun i wr => ∃ j : Nat, j ≤ N ∧ i = .int .i64 j ∧ Hid (okTo o j = true ∧ Kp [] w wr)) (fun i _ => N - (intOf i).toNat)
  case atStart => exact ⟨0, by omega, rfl, rfl, Kp.refl _ _⟩
  case round =>
    obtain ⟨j, hj, rfl, HJ⟩ := hrel
    by_cases hlt : j < N
    · have hjo : j < o.length := by rw [HN.out]; exact hlt
      obtain ⟨g1, o1, c1, p1, cv, e1, _, _, h1, hp⟩ := (HV.out.kp0 HJ.out.2).row hjo
      rw [HN.out] at e1
      cases e1
      have HP := Lib.hid (okTo_succ o j hjo)
      have HP2 := Lib.hid (okTo_not o j hjo)
      have HM := Lib.hid (rmayco_calls _ _ wr hp (HS.out j hjo))
      clear hjo hp
      generalize mayCo (o.getD j []) = X at *
      generalize (o.getD j []).length = L at *
      go_wp2_with fail
      refine HM.out.mono ?_; rintro e w2 ⟨rfl, hk2⟩
      have HK2 : Hid (Kp [] w w2) := HJ.out.2.trans hk2
      clear hk2 h1
      cases X
      · have HA := Lib.hid (HP2.out rfl)
        clear HP2
        go_wp2_with fail
        go_ret
        exact ⟨by rw [HE.out, HA.out]; rfl, HK2.out⟩
      · have HB : Hid (okTo o (j + 1) = true) := by show _ = _; rw [HP.out, HJ.out.1]; rfl
        clear HP HP2
        go_wp2_with fail
        go_roundw
        case rel => first | exact ⟨j + 1, by omega, int_eq' (by omega), HB.out, HK2.out⟩ | ((repeat apply Exists.intro); exact ⟨⟨j + 1, by omega, int_eq' (by omega), HB.out, HK2.out⟩, rfl⟩)
        case measure => simp [intOf]; omega
    · obtain rfl : j = N := by omega
      have HA : Hid (o.all mayCo = true) := by
        have := HJ.out.1; unfold okTo at this
        rwa [List.take_of_length_le (by rw [HN.out]; exact Nat.le_refl _)] at this
      have HK := Lib.hid HJ.out.2
      clear HJ
      go_wp2_with fail
      go_ret
      exact ⟨by rw [HE.out, HA.out]; rfl, HK.out⟩
end Go.Proofs.YtfgpocpfapnkkaaGreat
namespace Go.Proofs.YtfgpocpfapnkkaaGreat
open Go.RowKit
set_option linter.unusedVariables false
set_option linter.unusedSimpArgs false
theorem eq_of_all {α : Type} (d : α) (a b : List α) (h : a.length = b.length) (he : ∀ t, t < a.length → a.getD t d = b.getD t d) : a = b := by
  apply List.ext_getElem h
  intro i h1 h2
  have := he i h1
  rw [List.getD_eq_getElem?_getD, List.getD_eq_getElem?_getD, List.getElem?_eq_getElem h1, List.getElem?_eq_getElem h2] at this
  simpa using this
theorem ne_of_at {α : Type} (d : α) (a b : List α) (t : Nat) (he : a.getD t d ≠ b.getD t d) : a ≠ b := fun h => he (by rw [h])
theorem pn_ext {p q : Pn} (h1 : p.x = q.x) (h2 : p.y = q.y) (h3 : p.k = q.k) : p = q := by cases p; cases q; simp_all
theorem pn_ne {p q : Pn} (h : p ≠ q) : p.x ≠ q.x ∨ (p.x = q.x ∧ p.y ≠ q.y) ∨ (p.x = q.x ∧ p.y = q.y ∧ p.k ≠ q.k) := by
  by_cases h1 : p.x = q.x
  · by_cases h2 : p.y = q.y
    · by_cases h3 : p.k = q.k
      · exact absurd (pn_ext h1 h2 h3) h
      · exact .inr (.inr ⟨h1, h2, h3⟩)
    · exact .inr (.inl ⟨h1, h2⟩)
  · exact .inl h1
/-- The first j elements are the same. -/
def eqTo {α : Type} (d : α) (a b : List α) (j : Nat) : Prop := ∀ t, t < j → a.getD t d = b.getD t d
theorem eqTo_succ {α : Type} {d : α} {a b : List α} {j : Nat} (h : eqTo d a b j) (he : a.getD j d = b.getD j d) : eqTo d a b (j + 1) := fun t ht => by
  by_cases e : t = j
  · rw [e]; exact he
  · exact h t (by omega)
end Go.Proofs.YtfgpocpfapnkkaaGreat
namespace Go.Proofs.YtfgpocpfapnkkaaGreat
open Go.RowKit
set_option linter.unusedVariables false
set_option linter.unusedSimpArgs false
set_option maxRecDepth 100000 in
set_option maxHeartbeats 4000000 in
theorem rsame_calls (va vb : Value) (a b : List (List Pn)) (w : World) (ha : IsOut w va a) (hb : IsOut w vb b) :
    Calls Tryz.prog 14 #[va, vb] w fun e w' => e = .returned (.bool (decide (a = b))) ∧ Kp [] w w' := by
  have hla := ha.le
  have hlb := hb.le
  unfold maxLen at hla hlb
  obtain ⟨pa, ca, rfl⟩ := ha.form
  obtain ⟨pb, cb, rfl⟩ := hb.form
  have HA := Lib.hid ha
  have HB := Lib.hid hb
  clear ha hb
  by_cases hl : a.length = b.length
  · obtain ⟨N, hN⟩ : ∃ N, b.length = N := ⟨_, rfl⟩
    have HN1 : Hid (a.length = N) := by show _ = _; rw [hl, hN]
    have HN2 := Lib.hid hN
    have HQ : Hid (eqTo [] a b N → decide (a = b) = true) := fun h => decide_eq_true (eq_of_all [] a b hl (by rw [hl, hN]; exact h))
    have HR : Hid (∀ t, a.getD t [] ≠ b.getD t [] → decide (a = b) = false) := fun t h => decide_eq_false (ne_of_at [] a b t h)
    rw [hl, hN] at HA
    rw [hl, hN]
    rw [hN] at HB hlb
    generalize decide (a = b) = R at *
    clear hl hN hla
    go_enter Tryz.func14, Tryz.ntmps14
    go_wp2_with fail
    go_loopw [5, 6] (fun i _ wr => ∃ j : Nat, j ≤ N ∧ i = .int .i64 j ∧ Hid (eqTo [] a b j ∧ Kp [] w wr)) (fun i _ _ => N - (intOf i).toNat)
    case atStart => exact ⟨0, by omega, rfl, fun t ht => absurd ht (by omega), Kp.refl _ _⟩
    case round =>
      obtain ⟨j, hj, rfl, HJ⟩ := hrel
      by_cases hlt : j < N
      · obtain ⟨g1, o1, c1, p1, cv1, e1, _, _, h1, hp1⟩ := (HA.out.kp0 HJ.out.2).row (i := j) (by rw [HN1.out]; exact hlt)
        obtain ⟨g2, o2, c2, p2, cv2, e2, _, _, h2, hp2⟩ := (HB.out.kp0 HJ.out.2).row (i := j) (by rw [HN2.out]; exact hlt)
        rw [HN1.out] at e1
        rw [HN2.out] at e2
        cases e1; cases e2
        have HP1 := Lib.hid hp1
        have HP2 := Lib.hid hp2
        have HR2 := Lib.hid (HR.out j)
        have HSU : Hid (a.getD j [] = b.getD j [] → eqTo [] a b (j + 1)) := fun h => eqTo_succ HJ.out.1 h
        have hm1 := hp1.le
        have hm2 := hp2.le
        unfold maxLen at hm1 hm2
        clear hp1 hp2
        generalize a.getD j [] = A at *
        generalize b.getD j [] = B at *
        by_cases hL : A.length = B.length
        · have HQ2 : Hid (eqTo pn0 A B B.length → A = B) := fun h => eq_of_all pn0 A B hL (by rw [hL]; exact h)
          have HR3 : Hid (∀ t, A.getD t pn0 ≠ B.getD t pn0 → R = false) := fun t h => HR2.out (ne_of_at pn0 A B t h)
          obtain ⟨L, hBL⟩ : ∃ L, B.length = L := ⟨_, rfl⟩
          have HL1 : Hid (A.length = L) := by show _ = _; rw [hL, hBL]
          have HL2 := Lib.hid hBL
          rw [hL, hBL] at h1 HP1
          rw [hBL] at h2 HP2 HQ2 hm2
          clear hL hBL HR2 hm1
          go_wp2_with fail
          go_quiet (fail)
          go_wp2_with fail
          go_loopw [6] (fun i wq => ∃ k : Nat, k ≤ L ∧ i = .int .i64 k ∧ Hid (eqTo pn0 A B k ∧ Kp [] wr wq)) (fun i _ => L - (intOf i).toNat)
          case atStart => exact ⟨0, by omega, rfl, fun t ht => absurd ht (by omega), by (repeat (first | exact Kp.refl _ _ | assumption | refine Kp.drew ?_ | refine Kp.drewN ?_ _ | refine Kp.alloc ?_ _ | (refine Kp.setCell ?_ (by first | (left; simp; done) | (right; simp; try omega)) _) | (refine Kp.trans' ?_ (by assumption) (by simp; try omega))))⟩
          case round =>
            obtain ⟨k, hk, rfl, HJ2⟩ := hrel
            have hr1 := HJ2.out.2.cell h1 (by simp)
            have hr2 := HJ2.out.2.cell h2 (by simp)
            by_cases hk2 : k < L
            · obtain ⟨g3, o3, c3, e3, _, _, x1, y1, k1⟩ := (HP1.out.kp0 HJ2.out.2).row (i := k) (by rw [HL1.out]; exact hk2)
              obtain ⟨g4, o4, c4, e4, _, _, x2, y2, k2⟩ := (HP2.out.kp0 HJ2.out.2).row (i := k) (by rw [HL2.out]; exact hk2)
              rw [HL1.out] at e3
              rw [HL2.out] at e4
              cases e3; cases e4
              by_cases hpq : A.getD k pn0 = B.getD k pn0
              · have HT := Lib.hid (eqTo_succ HJ2.out.1 hpq)
                rw [hpq] at x1 y1 k1
                generalize B.getD k pn0 = p at *
                clear hpq
                go_wp2_with fail
                go_quiet (fail)
                go_wp2_with fail
                go_roundw
                case rel => first | exact ⟨k + 1, by omega, int_eq' (by omega), HT.out, HJ2.out.2.trans (by (repeat (first | exact Kp.refl _ _ | assumption | refine Kp.drew ?_ | refine Kp.drewN ?_ _ | refine Kp.alloc ?_ _ | (refine Kp.setCell ?_ (by first | (left; simp; done) | (right; simp; try omega)) _) | (refine Kp.trans' ?_ (by assumption) (by simp; try omega)))))⟩ | ((repeat apply Exists.intro); exact ⟨⟨k + 1, by omega, int_eq' (by omega), HT.out, HJ2.out.2.trans (by (repeat (first | exact Kp.refl _ _ | assumption | refine Kp.drew ?_ | refine Kp.drewN ?_ _ | refine Kp.alloc ?_ _ | (refine Kp.setCell ?_ (by first | (left; simp; done) | (right; simp; try omega)) _) | (refine Kp.trans' ?_ (by assumption) (by simp; try omega)))))⟩, rfl⟩)
                case measure => simp [intOf]; omega
              · have HF := Lib.hid (HR3.out k hpq)
                have hne := pn_ne hpq
                clear hpq
                generalize B.getD k pn0 = p at *
                generalize A.getD k pn0 = q at *
                obtain ⟨qx, qy, qk⟩ := q
                obtain ⟨px, py, pk⟩ := p
                dsimp only at hne x1 y1 k1 x2 y2 k2
                rcases hne with h9 | ⟨rfl, h9⟩ | ⟨rfl, rfl, h9⟩
                all_goals
                  go_wp2_with fail
                  go_quiet (fail)
                  go_wp2_with fail
                  go_ret
                  exact ⟨by rw [HF.out]; rfl, HJ.out.2.trans (HJ2.out.2.trans (by (repeat (first | exact Kp.refl _ _ | assumption | refine Kp.drew ?_ | refine Kp.drewN ?_ _ | refine Kp.alloc ?_ _ | (refine Kp.setCell ?_ (by first | (left; simp; done) | (right; simp; try omega)) _) | (refine Kp.trans' ?_ (by assumption) (by simp; try omega))))))⟩
            · obtain rfl : k = L := by omega
              have HT := Lib.hid (HSU.out (HQ2.out HJ2.out.1))
              have HK := Lib.hid (HJ.out.2.trans HJ2.out.2)
              go_wp2_with fail
              go_roundw
              case rel => first | exact ⟨j + 1, by omega, int_eq' (by omega), HT.out, HK.out⟩ | ((repeat apply Exists.intro); exact ⟨⟨j + 1, by omega, int_eq' (by omega), HT.out, HK.out⟩, rfl⟩)
              case measure => simp [intOf]; omega
        · have HF := Lib.hid (HR2.out (fun h => hL (by rw [h])))
          have hl2 : ((A.length : Int) != (B.length : Int)) = true := by simp; omega
          go_wp2_with fail
          go_quiet (fail)
          go_wp2_with fail
          go_ret
          exact ⟨by rw [HF.out]; rfl, HJ.out.2.trans (by (repeat (first | exact Kp.refl _ _ | assumption | refine Kp.drew ?_ | refine Kp.drewN ?_ _ | refine Kp.alloc ?_ _ | (refine Kp.setCell ?_ (by first | (left; simp; done) | (right; simp; try omega)) _) | (refine Kp.trans' ?_ (by assumption) (by simp; try omega)))))⟩
      · obtain rfl : j = N := by omega
        have HT := Lib.hid (HQ.out HJ.out.1)
        go_wp2_with fail
        go_ret
        exact ⟨by rw [HT.out]; rfl, HJ.out.2⟩
  · have HF : Hid (decide (a = b) = false) := decide_eq_false (fun h => hl (by rw [h]))
    generalize decide (a = b) = R at *
    have hl2 : ((a.length : Int) != (b.length : Int)) = true := by simp; omega
    go_enter Tryz.func14, Tryz.ntmps14
    go_wp2_with fail
    go_ret
    exact ⟨by rw [HF.out]; rfl, Kp.refl _ _⟩
end Go.Proofs.YtfgpocpfapnkkaaGreat

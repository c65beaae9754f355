/- compose: what 'part' reads, in plain Lean (partM); a part's block under its loops. -/
import Derived.Test.YtodjohoonbkklaaCpE
namespace Go.Proofs.Ytodjohoonbkklaa
open Go.RowKit
set_option linter.unusedVariables false
set_option linter.unusedSimpArgs false
/-- Where a reader stands. -/
abbrev Rs := Nat × Bool
def stp (zs : List Int) (m : Nat) (s : Rs) : Rs := (rdK zs s.1 s.2 m, rdB zs s.1 s.2 m)
def val (zs : List Int) (m : Nat) (s : Rs) : Int := rdV zs s.1 s.2 m
/-- The matrix' numbers, put at their places of the cells. -/
def putAll (L : List Value) (x : Int) : List Nat → List Value
  | [] => L
  | c :: cs => putAll (L.set c (.int .i64 x)) x cs
def fillM (zs : List Int) : List (List Nat) → Rs → List Value → Rs × List Value
  | [], s, L => (s, L)
  | pl :: pls, s, L => fillM zs pls (stp zs 2 s) (putAll L (s16 (val zs 2 s)) pl)
theorem putAll_length (cs : List Nat) (x : Int) : ∀ L : List Value, (putAll L x cs).length = L.length := by
  induction cs with
  | nil => intro L; rfl
  | cons c cs ih => intro L; rw [putAll, ih, List.length_set]
theorem putAll_snoc (cs : List Nat) (c : Nat) (x : Int) : ∀ L : List Value, putAll L x (cs ++ [c]) = (putAll L x cs).set c (.int .i64 x) := by
  induction cs with
  | nil => intro L; rfl
  | cons d cs ih => intro L; rw [List.cons_append, putAll, ih]; rfl
theorem fillM_snoc (zs : List Int) (pls : List (List Nat)) (pl : List Nat) : ∀ (s : Rs) (L : List Value), fillM zs (pls ++ [pl]) s L = (stp zs 2 (fillM zs pls s L).1, putAll (fillM zs pls s L).2 (s16 (val zs 2 (fillM zs pls s L).1)) pl) := by
  induction pls with
  | nil => intro s L; rfl
  | cons q pls ih => intro s L; rw [List.cons_append, fillM, ih]; rfl
theorem fillM_length (zs : List Int) (pls : List (List Nat)) : ∀ (s : Rs) (L : List Value), (fillM zs pls s L).2.length = L.length := by
  induction pls with
  | nil => intro s L; rfl
  | cons q pls ih => intro s L; rw [fillM, ih, putAll_length]
theorem take_snoc {α : Type} (l : List α) (j : Nat) (d : α) (h : j < l.length) : l.take (j + 1) = l.take j ++ [l.getD j d] := by
  rw [List.take_succ_eq_append_getElem h, List.getD_eq_getElem?_getD, List.getElem?_eq_getElem h]; rfl
/-- What a part's first numbers are: flags, glyph, the two arguments; and where the reader then stands. -/
structure Hd where
  f : Int
  g : Int
  a : Int
  b : Int
  s : Rs
def headM (zs : List Int) (s : Rs) : Hd :=
  let f := val zs 2 s
  let s1 := stp zs 2 s
  let g := val zs 2 s1
  let s2 := stp zs 2 s1
  let n := argN (f % 4)
  let a := argV (f % 4) (val zs n s2)
  let s3 := stp zs n s2
  let b := argV (f % 4) (val zs n s3)
  ⟨f, g, a, b, stp zs n s3⟩
def turnB (f : Int) : Bool := decide (bits .and .i64 f 6144 = 2048)
def stepB (f : Int) : Bool := decide (bits .and .i64 f 2 ≠ 0)
/-- The part, its matrix not yet read. -/
def bareM (h : Hd) : Pt := if stepB h.f then ⟨h.g, 16384, 0, 0, 16384, false, h.a, h.b, turnB h.f, 0, 0⟩ else ⟨h.g, 16384, 0, 0, 16384, true, 0, 0, false, h.a, h.b⟩
def matM (f : Int) : Int := bits .and .i64 f 200
/-- The cells of a part behind its matrix. -/
def cellsM (zs : List Int) (h : Hd) : Rs × List Value := fillM zs (plM (matM h.f)) h.s (ptCells (bareM h)).toList
/-- The part itself: the matrix by its flags. -/
def partM (zs : List Int) (s : Rs) : Pt × Bool × Bool × Rs :=
  let h := headM zs s
  let p := bareM h
  let Y := matM h.f
  let x1 := s16 (val zs 2 h.s)
  let s1 := stp zs 2 h.s
  let x2 := s16 (val zs 2 s1)
  let s2 := stp zs 2 s1
  let x3 := s16 (val zs 2 s2)
  let s3 := stp zs 2 s2
  let x4 := s16 (val zs 2 s3)
  let s4 := stp zs 2 s3
  let q : Pt × Rs := if Y = 8 then ({ p with xx := x1, yy := x1 }, s1) else if Y = 64 then ({ p with xx := x1, yy := x2 }, s2) else if Y = 128 then ({ p with xx := x1, xy := x2, yx := x3, yy := x4 }, s4) else (p, h.s)
  (q.1, decide (bits .and .i64 h.f 32 ≠ 0), okM Y && !q.2.2, q.2)
theorem cells_part (zs : List Int) (s : Rs) : cellsM zs (headM zs s) = ((partM zs s).2.2.2, (ptCells (partM zs s).1).toList) := by
  unfold cellsM partM plM
  dsimp only
  generalize headM zs s = h
  generalize matM h.f = Y
  by_cases h8 : Y = 8
  · subst h8; rfl
  by_cases h64 : Y = 64
  · subst h64; rfl
  by_cases h128 : Y = 128
  · subst h128; rfl
  · simp only [if_neg h8, if_neg h64, if_neg h128]; rfl
theorem partM_flags (zs : List Int) (s : Rs) : (partM zs s).2.1 = decide (bits .and .i64 (headM zs s).f 32 ≠ 0) ∧ (partM zs s).2.2.1 = (okM (matM (headM zs s).f) && !(partM zs s).2.2.2.2) := ⟨rfl, rfl⟩
theorem plM_ok (Y : Int) : ∀ j, j < (plM Y).length → ∀ i, i < ((plM Y).getD j []).length → ((plM Y).getD j []).getD i 0 < 11 := by
  unfold plM
  by_cases h8 : Y = 8
  · rw [if_pos h8]; decide
  · rw [if_neg h8]
    by_cases h64 : Y = 64
    · rw [if_pos h64]; decide
    · rw [if_neg h64]
      by_cases h128 : Y = 128
      · rw [if_pos h128]; decide
      · rw [if_neg h128]; decide
theorem plM_len (Y : Int) : (plM Y).length ≤ 4 ∧ ∀ j, j < (plM Y).length → ((plM Y).getD j []).length ≤ 2 := by
  unfold plM
  by_cases h8 : Y = 8
  · rw [if_pos h8]; decide
  · rw [if_neg h8]
    by_cases h64 : Y = 64
    · rw [if_pos h64]; decide
    · rw [if_neg h64]
      by_cases h128 : Y = 128
      · rw [if_pos h128]; decide
      · rw [if_neg h128]; decide
/-- Where 'part' stands in memory in its loops. -/
def PtSt (w wr : World) (r : Nat) (v : Value) (zs : List Int) (B b0 : Nat) (v10 : Value) (PL : List (List Nat)) (s : Rs) (L : List Value) : Prop :=
  RdS wr r v zs s.1 s.2 ∧ wr.heap[B]? = some (.cells L.toArray 36 (0, 0)) ∧ wr.heap[w.heap.size]? = some (.cells #[.int .i64 0, .int .i64 0, .int .i64 0, .int .i64 0, .int .i64 0, .bool false, .int .i64 0, .int .i64 0, .bool false, .int .i64 0, .int .i64 0] 36 (0, 0)) ∧ IsPl b0 wr v10 B PL ∧ Kp [r] w wr ∧ r < w.heap.size ∧ w.heap.size < B ∧ B < b0 ∧ blockOf v ≠ some B ∧ L.length = 11
theorem PtSt.read {w wr w' : World} {r B b0 : Nat} {v v10 : Value} {zs : List Int} {PL : List (List Nat)} {s s' : Rs} {L : List Value} (h : PtSt w wr r v zs B b0 v10 PL s L) (hr : RdS w' r v zs s'.1 s'.2) (hk : Kp [r] wr w') : PtSt w w' r v zs B b0 v10 PL s' L := by
  obtain ⟨h1, h2, h3, h4, h5, h6, h7, h8, h9, h10⟩ := h
  exact ⟨hr, hk.heap h2 (by simp; omega), hk.heap h3 (by simp; omega), h4.kp hk (fun t ht => by simp at ht; omega), h5.trans hk, h6, h7, h8, h9, h10⟩
theorem PtSt.put {w wr : World} {r B b0 : Nat} {v v10 : Value} {zs : List Int} {PL : List (List Nat)} {s : Rs} {L : List Value} (h : PtSt w wr r v zs B b0 v10 PL s L) (c : Nat) (x : Int) : PtSt w (wr.setCell ⟨B, c, none⟩ (.int .i64 x)) r v zs B b0 v10 PL s (L.set c (.int .i64 x)) := by
  obtain ⟨h1, h2, h3, h4, h5, h6, h7, h8, h9, h10⟩ := h
  have hk : Kp [B] wr (wr.setCell ⟨B, c, none⟩ (.int .i64 x)) := (Kp.refl _ _).setCell (.inl (by simp)) _
  refine ⟨h1.kp hk (by simp; omega) (fun t ht e => by simp at ht; subst ht; exact h9 e), ?_, hk.heap h3 (by simp; omega), h4.kp hk (fun t ht => by simp at ht; omega), h5.trans' hk (fun t ht => by simp at ht; subst ht; exact .inr (by omega)), h6, h7, h8, h9, by simp [h10]⟩
  rw [heap_setCell_same wr B c _ _ (.int .i64 x) h2]; simp
theorem PtSt.cell {w wr : World} {r B b0 : Nat} {v v10 : Value} {zs : List Int} {PL : List (List Nat)} {s : Rs} {L : List Value} (h : PtSt w wr r v zs B b0 v10 PL s L) (c : Nat) (hc : c < 11) : (∃ u, wr.cell? ⟨B, c, none⟩ = some u) ∧ wr.frozen? ⟨B, c, none⟩ = false := by
  obtain ⟨h1, h2, h3, h4, h5, h6, h7, h8, h9, h10⟩ := h
  exact ⟨⟨L[c]'(by omega), by rw [cell_of_row wr B c _ _ _ h2]; simp [h10, hc]⟩, frozen_of_row wr B c _ _ h2⟩
end Go.Proofs.Ytodjohoonbkklaa

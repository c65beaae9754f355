/- outline: the reference's explicit (the walk). (Written by wip/outline/genouv.py.) · outline: the reference's Explicit. (Written by wip/outline/genouw.py.) · outline: boxes: pair, least, most · outline: the hull of numbers, by both · outline: the reference's hull of numbers. (Written by wip/outline/genouz.py.). (Merged by wip/tools/mergetpl.py out of OuV, OuW, OuX, OuY, OuZ.) -/
import Derived.Test.YtafkhnlmipddmaaGreatOmC
import Derived.Deep.RegionHeld3
import Derived.Deep.DeepCutAuto
namespace Go.Proofs.YtafkhnlmipddmaaGreat
open Go.RowKit
set_option linter.unusedVariables false
set_option linter.unusedSimpArgs false
section
variable {w : World} {ops : Array Oper} {rest : List Oper} {o : Oper} {a : Act} {Q : Exit → Act → World → Prop}
/-- One point more, onto a row of the call's own. -/
theorem wpList_pushP (hgd : o.guard = none) (s x : Operand) (ho : o.op = .call { callee := .builtin .append, args := #[s, x], argTypes := #[23, 23] })
    (base : Nat) (v : Value) (l : List Pn) (n : Nat) (hn : l.length = n) (hs : a.eval s = v) (hown : w.ownsRow base 46 3 v n (psCells l)) (G C : Nat) (p : Pn)
    (hx : a.eval x = .slice (some ⟨G, 0, none⟩) 1 C) (hc : ∀ j u, (psCells [p])[j]? = some u → w.cell? ⟨G, 0 + j, none⟩ = some u)
    (hl : (n + 1) * 24 ≤ 140737488355328) (hbase : base ≤ w.heap.size)
    (h : ∀ v' w', w'.ownsRow base 46 3 v' (n + 1) (psCells (l ++ [p])) → (∀ w0, w0.heap.size ≤ base → Kp [] w0 w → Kp [] w0 w') → Kp v.ownBlock.toList w w' → wpList Tryz.prog ops Q rest (a.put o.dst v') w') : wpList Tryz.prog ops Q (o :: rest) a w := by
  obtain ⟨i, hi, hz, hsize, hby⟩ := info_parts infoPn
  subst hn
  have hll : (psCells l).length = l.length * 3 := psCells_length l
  refine wpList_append_own w hgd s x _ ho base 46 i (.agg #[.int .i64 0, .int .i64 0, .int .i64 0]) 3 24 Tryz.underlying23 hi hz hsize hby rfl (by decide) v l.length (psCells l) hs hown ⟨G, 0, none⟩ 1 C (psCells [p]) hx rfl (by intro j u hj; rw [add_lit]; exact hc j u hj) (oneCell_ps [p]) (by unfold maxLen; omega) hl hbase ?_
  intro v' w' r1 r2 _
  exact h v' w' (by rw [psCells_app]; exact r1) (fun w0 h0 hk => Kp.grown hk r2 (fun k hk' => .inr (by have := own_ge hown k hk'; omega))) (Kp.grown (Kp.refl _ _) r2 (fun k hk => .inl (by rw [hk]; simp)))
/-- The same inside a region that draws its order. -/
theorem step_pushP {K : Act → World → Prop} {E : Prop} (hgd : o.guard = none) (s x : Operand) (ho : o.op = .call { callee := .builtin .append, args := #[s, x], argTypes := #[23, 23] })
    (base : Nat) (v : Value) (l : List Pn) (n : Nat) (hn : l.length = n) (hs : a.eval s = v) (hown : w.ownsRow base 46 3 v n (psCells l)) (G C : Nat) (p : Pn)
    (hx : a.eval x = .slice (some ⟨G, 0, none⟩) 1 C) (hc : ∀ j u, (psCells [p])[j]? = some u → w.cell? ⟨G, 0 + j, none⟩ = some u)
    (hl : (n + 1) * 24 ≤ 140737488355328) (hbase : base ≤ w.heap.size)
    (h : ∀ v' w', w'.ownsRow base 46 3 v' (n + 1) (psCells (l ++ [p])) → (∀ w0, w0.heap.size ≤ base → Kp [] w0 w → Kp [] w0 w') → Kp v.ownBlock.toList w w' → K (a.put o.dst v') w') :
    if Region.wanted o (yielded ops a.tmps) = true then Oper.wp Tryz.prog o a w K Q else E := by
  have hw : Region.wanted o (yielded ops a.tmps) = true := by simp [Region.wanted, hgd]
  rw [if_pos hw]
  obtain ⟨i, hi, hz, hsize, hby⟩ := info_parts infoPn
  subst hn
  have hll : (psCells l).length = l.length * 3 := psCells_length l
  refine wp_append_own w s x _ ho base 46 i (.agg #[.int .i64 0, .int .i64 0, .int .i64 0]) 3 24 Tryz.underlying23 hi hz hsize hby rfl (by decide) v l.length (psCells l) hs hown ⟨G, 0, none⟩ 1 C (psCells [p]) hx rfl (by intro j u hj; rw [add_lit]; exact hc j u hj) (oneCell_ps [p]) (by unfold maxLen; omega) hl hbase ?_
  intro v' w' r1 r2 _
  exact h v' w' (by rw [psCells_app]; exact r1) (fun w0 h0 hk => Kp.grown hk r2 (fun k hk' => .inr (by have := own_ge hown k hk'; omega))) (Kp.grown (Kp.refl _ _) r2 (fun k hk => .inl (by rw [hk]; simp)))
end
theorem outR_yes (c : List Pn) (f : Nat) (pre : List Pn) (k : Nat) (P Q : Pn) (hP : ringAt c ((f : Int) + k) = P) (hQ : ringAt c ((f : Int) + k + 1) = Q) (h1 : P.k = 2) (h2 : Q.k = 2) (h3 : ¬ (k + 1 = c.length ∧ (c.getD f pn0).k = 2)) : outR c f pre (k + 1) = (outR c f pre k ++ [P]) ++ [midP P Q] := by
  subst hP; subst hQ
  rw [outR, if_pos ⟨⟨h1, h2⟩, h3⟩]
theorem outR_no (c : List Pn) (f : Nat) (pre : List Pn) (k : Nat) (P Q : Pn) (hP : ringAt c ((f : Int) + k) = P) (hQ : ringAt c ((f : Int) + k + 1) = Q) (h : ¬ ((P.k = 2 ∧ Q.k = 2) ∧ ¬ (k + 1 = c.length ∧ (c.getD f pn0).k = 2))) : outR c f pre (k + 1) = outR c f pre k ++ [P] := by
  subst hP; subst hQ
  rw [outR, if_neg h, List.append_nil]
/-- The least place of a point on the outline behind place i. -/
def fromOn (c : List Pn) (i : Nat) (F : Int) : Prop := (F = -1 ∧ ∀ t, i ≤ t → t < c.length → (c.getD t pn0).k ≠ 1) ∨ ∃ m : Nat, F = m ∧ i ≤ m ∧ m < c.length ∧ (c.getD m pn0).k = 1 ∧ ∀ t, i ≤ t → t < m → (c.getD t pn0).k ≠ 1
theorem fromOn_end (c : List Pn) (F : Int) (h : fromOn c 0 F) : F = firstOn c := by
  unfold firstOn
  rcases h with ⟨rfl, h⟩ | ⟨m, rfl, _, h2, h3, h4⟩
  · rw [onAt_none c (fun t ht => h t (by omega) ht), if_neg (by omega)]
  · rw [onAt_found c m h2 (fun t ht => h4 t (by omega) ht) h3, if_pos h2]
theorem fromOn_yes {c : List Pn} {i : Nat} {F : Int} (hi : i < c.length) (h : (c.getD i pn0).k = 1) : fromOn c i (i : Nat) :=
  .inr ⟨i, rfl, Nat.le_refl _, hi, h, fun t h1 h2 => by omega⟩
theorem fromOn_no {c : List Pn} {i : Nat} {F : Int} (hf : fromOn c (i + 1) F) (h : (c.getD i pn0).k ≠ 1) : fromOn c i F := by
  rcases hf with ⟨rfl, h1⟩ | ⟨m, rfl, h1, h2, h3, h4⟩
  · refine .inl ⟨rfl, fun t h2 h3 => ?_⟩
    by_cases e : t = i
    · rw [e]; exact h
    · exact h1 t (by omega) h3
  · refine .inr ⟨m, rfl, by omega, h2, h3, fun t h5 h6 => ?_⟩
    by_cases e : t = i
    · rw [e]; exact h
    · exact h4 t (by omega) h6
theorem lit3g {w W : World} {x y k : Int} {G : Nat} (hk : Kp [] (w.alloc (.cells #[.int .i64 x, .int .i64 y, .int .i64 k] 46)) W) (hG : G = w.heap.size) : ∀ j u, (psCells [⟨x, y, k⟩])[j]? = some u → W.cell? ⟨G, 0 + j, none⟩ = some u := by
  subst hG; exact lit3 hk
theorem two_boxes {S : List Nat} {w W : World} {t1 t2 : TypeId} {v0 v1 v2 u0 u1 u2 : Value} {C : Obj} (hk : Kp S (((w.alloc (.cells #[v0, v1, v2] t1)).alloc (.cells #[u0, u1, u2] t2)).alloc C) W) (hS : ∀ s ∈ S, s < w.heap.size) :
    (W.cell? ⟨w.heap.size, 0, none⟩ = some v0 ∧ W.cell? ⟨w.heap.size, 1, none⟩ = some v1 ∧ W.cell? ⟨w.heap.size, 2, none⟩ = some v2) ∧ W.cell? ⟨w.heap.size + 1, 0, none⟩ = some u0 ∧ W.cell? ⟨w.heap.size + 1, 1, none⟩ = some u1 ∧ W.cell? ⟨w.heap.size + 1, 2, none⟩ = some u2 := by
  have n0 : w.heap.size ∉ S := fun h => by have := hS _ h; omega
  have n1 : w.heap.size + 1 ∉ S := fun h => by have := hS _ h; omega
  exact ⟨⟨hk.cell (by go_simp) n0, hk.cell (by go_simp) n0, hk.cell (by go_simp) n0⟩, hk.cell (by go_simp) n1, hk.cell (by go_simp) n1, hk.cell (by go_simp) n1⟩
end Go.Proofs.YtafkhnlmipddmaaGreat
namespace Go.Proofs.YtafkhnlmipddmaaGreat
open Go.RowKit
set_option linter.unusedVariables false
set_option linter.unusedSimpArgs false
end Go.Proofs.YtafkhnlmipddmaaGreat
namespace Go.Proofs.YtafkhnlmipddmaaGreat
open Go.RowKit
set_option linter.unusedVariables false
set_option linter.unusedSimpArgs false
/-- A box. -/
structure Bx where
  x0 : Int
  y0 : Int
  x1 : Int
  y1 : Int
deriving DecidableEq
def bxV (b : Bx) : Value := .agg #[.int .i64 b.x0, .int .i64 b.y0, .int .i64 b.x1, .int .i64 b.y1]
/-- A world by a name. -/
theorem wp_gen {P : Program} {c : Code} {Q : Exit → Act → World → Prop} {a : Act} {w : World} (h : ∀ W, W = w → Code.wp P c Q a W) : Code.wp P c Q a w := h w rfl
theorem three_heap {w W : World} {A B C : Obj} (h : W = ((w.alloc A).alloc B).alloc C) : W.heap[w.heap.size]? = some A ∧ W.heap[w.heap.size + 1]? = some B ∧ W.heap[w.heap.size + 1 + 1]? = some C := by
  have h1 := heap_alloc_new w A
  have h2 := heap_alloc_new (w.alloc A) B
  have h3 := heap_alloc_new ((w.alloc A).alloc B) C
  have s1 : (w.alloc A).heap.size = w.heap.size + 1 := by simp
  have s2 : ((w.alloc A).alloc B).heap.size = w.heap.size + 1 + 1 := by simp
  rw [s1] at h2
  rw [s2] at h3
  subst h
  exact ⟨(((Kp.refl [] (w.alloc A)).alloc B).alloc C).heap h1 (by simp), ((Kp.refl [] ((w.alloc A).alloc B)).alloc C).heap h2 (by simp), h3⟩
theorem rleast_calls (a b : Int) (w : World) : Calls Tryz.prog 66 #[.int .i64 a, .int .i64 b] w fun e w' => e = .returned (.int .i64 (min a b)) ∧ Kp [] w w' := by
  by_cases h : a < b
  · have e : min a b = a := by omega
    rw [e]
    go_enter Tryz.func66, Tryz.ntmps66
    go_wp2_with fail
    go_ret
    exact ⟨rfl, by (repeat (first | exact Kp.refl _ _ | assumption | refine Kp.drew ?_ | refine Kp.drewN ?_ _ | refine Kp.alloc ?_ _ | (refine Kp.setCell ?_ (by first | (left; simp; done) | (right; simp; try omega)) _) | (refine Kp.trans' ?_ (by assumption) (by simp; try omega))))⟩
  · have e : min a b = b := by omega
    rw [e]
    go_enter Tryz.func66, Tryz.ntmps66
    go_wp2_with fail
    go_ret
    exact ⟨rfl, by (repeat (first | exact Kp.refl _ _ | assumption | refine Kp.drew ?_ | refine Kp.drewN ?_ _ | refine Kp.alloc ?_ _ | (refine Kp.setCell ?_ (by first | (left; simp; done) | (right; simp; try omega)) _) | (refine Kp.trans' ?_ (by assumption) (by simp; try omega))))⟩
theorem rmost_calls (a b : Int) (w : World) : Calls Tryz.prog 67 #[.int .i64 a, .int .i64 b] w fun e w' => e = .returned (.int .i64 (max a b)) ∧ Kp [] w w' := by
  by_cases h : b < a
  · have e : max a b = a := by omega
    rw [e]
    go_enter Tryz.func67, Tryz.ntmps67
    go_wp2_with fail
    go_ret
    exact ⟨rfl, by (repeat (first | exact Kp.refl _ _ | assumption | refine Kp.drew ?_ | refine Kp.drewN ?_ _ | refine Kp.alloc ?_ _ | (refine Kp.setCell ?_ (by first | (left; simp; done) | (right; simp; try omega)) _) | (refine Kp.trans' ?_ (by assumption) (by simp; try omega))))⟩
  · have e : max a b = b := by omega
    rw [e]
    go_enter Tryz.func67, Tryz.ntmps67
    go_wp2_with fail
    go_ret
    exact ⟨rfl, by (repeat (first | exact Kp.refl _ _ | assumption | refine Kp.drew ?_ | refine Kp.drewN ?_ _ | refine Kp.alloc ?_ _ | (refine Kp.setCell ?_ (by first | (left; simp; done) | (right; simp; try omega)) _) | (refine Kp.trans' ?_ (by assumption) (by simp; try omega))))⟩
end Go.Proofs.YtafkhnlmipddmaaGreat
namespace Go.Proofs.YtafkhnlmipddmaaGreat
open Go.RowKit
set_option linter.unusedVariables false
set_option linter.unusedSimpArgs false
/-- The hull of the first j places. -/
def hullB (xs ys : List Int) : Nat → Bx
  | 0 => ⟨0, 0, 0, 0⟩
  | j + 1 =>
    let b := if j = 0 then (⟨xs.getD 0 0, ys.getD 0 0, xs.getD 0 0, ys.getD 0 0⟩ : Bx) else hullB xs ys j
    ⟨min b.x0 (xs.getD j 0), min b.y0 (ys.getD j 0), max b.x1 (xs.getD j 0), max b.y1 (ys.getD j 0)⟩
theorem hullB_one (xs ys : List Int) : hullB xs ys 1 = ⟨xs.getD 0 0, ys.getD 0 0, xs.getD 0 0, ys.getD 0 0⟩ := by
  rw [hullB, if_pos rfl]; simp
theorem hullB_succ (xs ys : List Int) (j : Nat) (h : j ≠ 0) : hullB xs ys (j + 1) = ⟨min (hullB xs ys j).x0 (xs.getD j 0), min (hullB xs ys j).y0 (ys.getD j 0), max (hullB xs ys j).x1 (xs.getD j 0), max (hullB xs ys j).y1 (ys.getD j 0)⟩ := by
  rw [hullB, if_neg h]
/-- A box lies in block B. -/
def BxAt (W : World) (B : Nat) (b : Bx) : Prop := W.heap[B]? = some (.cells #[.int .i64 b.x0, .int .i64 b.y0, .int .i64 b.x1, .int .i64 b.y1] 71)
theorem BxAt.cells {W : World} {B : Nat} {b : Bx} (h : BxAt W B b) : W.cell? ⟨B, 0, none⟩ = some (.int .i64 b.x0) ∧ W.cell? ⟨B, 1, none⟩ = some (.int .i64 b.y0) ∧ W.cell? ⟨B, 2, none⟩ = some (.int .i64 b.x1) ∧ W.cell? ⟨B, 3, none⟩ = some (.int .i64 b.y1) :=
  ⟨by rw [cell_of_row W B 0 _ _ (0, 0) h]; rfl, by rw [cell_of_row W B 1 _ _ (0, 0) h]; rfl, by rw [cell_of_row W B 2 _ _ (0, 0) h]; rfl, by rw [cell_of_row W B 3 _ _ (0, 0) h]; rfl⟩
theorem BxAt.frozen {W : World} {B : Nat} {b : Bx} (h : BxAt W B b) : W.frozen? ⟨B, 0, none⟩ = false ∧ W.frozen? ⟨B, 1, none⟩ = false ∧ W.frozen? ⟨B, 2, none⟩ = false ∧ W.frozen? ⟨B, 3, none⟩ = false :=
  ⟨frozen_of_row W B 0 _ _ h, frozen_of_row W B 1 _ _ h, frozen_of_row W B 2 _ _ h, frozen_of_row W B 3 _ _ h⟩
theorem BxAt.put {W : World} {B : Nat} {b : Bx} (h : BxAt W B b) (x y z u : Int) : BxAt ((((W.setCell ⟨B, 0, none⟩ (.int .i64 x)).setCell ⟨B, 1, none⟩ (.int .i64 y)).setCell ⟨B, 2, none⟩ (.int .i64 z)).setCell ⟨B, 3, none⟩ (.int .i64 u)) B ⟨x, y, z, u⟩ := by
  have h1 := heap_setCell_same W B 0 _ _ (.int .i64 x) h
  have h2 := heap_setCell_same _ B 1 _ _ (.int .i64 y) h1
  have h3 := heap_setCell_same _ B 2 _ _ (.int .i64 z) h2
  have h4 := heap_setCell_same _ B 3 _ _ (.int .i64 u) h3
  simpa [BxAt] using h4
theorem BxAt.far {W : World} {B : Nat} {b : Bx} (h : BxAt W B b) {p : Addr} (hp : B ≠ p.block) (u : Value) : BxAt (W.setCell p u) B b := by
  unfold BxAt at h ⊢; rw [heap_setCell_other W p B u hp]; exact h
theorem BxAt.kp {S : List Nat} {W W' : World} {B : Nat} {b : Bx} (h : BxAt W B b) (hk : Kp S W W') (hB : B ∉ S) : BxAt W' B b := hk.heap h hB
theorem two_heap {w W : World} {A B : Obj} (h : W = (w.alloc A).alloc B) : W.heap[w.heap.size]? = some A ∧ W.heap[w.heap.size + 1]? = some B := by
  have h1 := heap_alloc_new w A
  have h2 := heap_alloc_new (w.alloc A) B
  have s1 : (w.alloc A).heap.size = w.heap.size + 1 := by simp
  rw [s1] at h2
  subst h
  exact ⟨((Kp.refl [] (w.alloc A)).alloc B).heap h1 (by simp), h2⟩
/-- All of them lie in the bounds. -/
def numsI (xs : List Int) : Prop := ∀ i, i < xs.length → numF (xs.getD i 0) = true
theorem ints_form {k : IntKind} {w : World} {v : Value} {zs : List Int} (h : IsInts k w v zs) : ∃ p c, v = .slice p zs.length c := by
  rcases h with ⟨⟨a, rfl⟩, rfl⟩ | ⟨g, off, c, rfl, _⟩
  · exact ⟨_, _, rfl⟩
  · exact ⟨_, _, rfl⟩
theorem ints_row {k : IntKind} {w : World} {v : Value} {zs : List Int} (h : IsInts k w v zs) {i : Nat} (hi : i < zs.length) : ∃ g off c, v = .slice (some ⟨g, off, none⟩) zs.length c ∧ w.cell? ⟨g, off + i, none⟩ = some (.int k (zs.getD i 0)) := by
  rcases h with ⟨⟨a, rfl⟩, rfl⟩ | ⟨g, off, c, rfl, _, _, h⟩
  · simp at hi
  · exact ⟨g, off, c, rfl, h i hi⟩
theorem ints_kp0 {k : IntKind} {w w' : World} {v : Value} {zs : List Int} (h : IsInts k w v zs) (hk : Kp [] w w') : IsInts k w' v zs := h.kp hk (by simp)
/-- Where Hull stands: the result's block, the box's block. -/
def HuSt (w W : World) (b : Bx) : Prop := BxAt W w.heap.size ⟨0, 0, 0, 0⟩ ∧ BxAt W (w.heap.size + 1) b ∧ Kp [] w W
theorem HuSt.kp {w W W' : World} {b : Bx} (h : HuSt w W b) (hk : Kp [] W W') : HuSt w W' b := ⟨h.1.kp hk (by simp), h.2.1.kp hk (by simp), h.2.2.trans hk⟩
theorem HuSt.put {w W : World} {b : Bx} (h : HuSt w W b) (x y z u : Int) : HuSt w ((((W.setCell ⟨w.heap.size + 1, 0, none⟩ (.int .i64 x)).setCell ⟨w.heap.size + 1, 1, none⟩ (.int .i64 y)).setCell ⟨w.heap.size + 1, 2, none⟩ (.int .i64 z)).setCell ⟨w.heap.size + 1, 3, none⟩ (.int .i64 u)) ⟨x, y, z, u⟩ :=
  ⟨(((h.1.far (by simp) _).far (by simp) _).far (by simp) _).far (by simp) _, h.2.1.put x y z u, by have := h.2.2; (repeat (first | exact Kp.refl _ _ | assumption | refine Kp.drew ?_ | refine Kp.drewN ?_ _ | refine Kp.alloc ?_ _ | (refine Kp.setCell ?_ (by first | (left; simp; done) | (right; simp; try omega)) _) | (refine Kp.trans' ?_ (by assumption) (by simp; try omega))))⟩
theorem HuSt.lt {w W : World} {b : Bx} (h : HuSt w W b) : w.heap.size + 1 < W.heap.size := lt_of_block h.2.1
end Go.Proofs.YtafkhnlmipddmaaGreat
namespace Go.Proofs.YtafkhnlmipddmaaGreat
open Go.RowKit
set_option linter.unusedVariables false
set_option linter.unusedSimpArgs false
set_option maxRecDepth 100000 in
set_option maxHeartbeats 8000000 in
theorem rahull_calls (vx vy : Value) (xs ys : List Int) (w : World) (hx : IsInts .i64 w vx xs) (hy : IsInts .i64 w vy ys) (hl : xs.length = ys.length) :
    Calls Tryz.prog 49 #[vx, vy] w fun e w' => e = .returned (bxV (hullB xs ys xs.length)) ∧ Kp [] w w' := by
  have hle := hx.le
  unfold maxLen at hle
  obtain ⟨px, cx, rfl⟩ := ints_form hx
  obtain ⟨py, cy, rfl⟩ := ints_form hy
  have HX := Lib.hid hx
  have HY := Lib.hid hy
  obtain ⟨N, hN⟩ : ∃ N, xs.length = N := ⟨_, rfl⟩
  have HN := Lib.hid hN
  have HM : Hid (ys.length = N) := by show _ = _; omega
  rw [hN] at HX hle ⊢
  rw [HM.out] at HY ⊢
  clear hx hy hN hl
  go_enter Tryz.func49, Tryz.ntmps49
  go_wp2_with fail
  refine wp_gen ?_; intro W hW
  obtain ⟨hA, hB⟩ := two_heap hW
  have HS0 : Hid (HuSt w W ⟨0, 0, 0, 0⟩) := ⟨hA, hB, by rw [hW]; (repeat (first | exact Kp.refl _ _ | assumption | refine Kp.drew ?_ | refine Kp.drewN ?_ _ | refine Kp.alloc ?_ _ | (refine Kp.setCell ?_ (by first | (left; simp; done) | (right; simp; try omega)) _) | (refine Kp.trans' ?_ (by assumption) (by simp; try omega))))⟩
  clear hA hB hW
  go_loopw [6] (fun i wr => ∃ j : Nat, j ≤ N ∧ i = .int .i64 j ∧ Hid (HuSt w wr (hullB xs ys j))) (fun i _ => N - (intOf i).toNat)
  case atStart => exact ⟨0, by omega, rfl, HS0.out⟩
  case round =>
    obtain ⟨j, hj, rfl, HJ⟩ := hrel
    clear HS0
    by_cases hlt : j < N
    · obtain ⟨gx, ox, cx', ex, xj⟩ := ints_row HX.out (i := j) (by rw [HN.out]; exact hlt)
      obtain ⟨gy, oy, cy', ey, yj⟩ := ints_row HY.out (i := j) (by rw [HM.out]; exact hlt)
      rw [HN.out] at ex
      rw [HM.out] at ey
      cases ex; cases ey
      have HH1 := Lib.hid (hullB_one xs ys)
      have HHS := Lib.hid (hullB_succ xs ys j)
      have n0 : (0 : Int) ≤ (j : Int) := by omega
      have n1 : (j : Int) < (N : Int) := by omega
      have n2 : ¬ ((j : Int) < 0) := by omega
      have HC : Hid (∀ W, Kp [] w W → W.cell? ⟨gx, ox + j, none⟩ = some (.int .i64 (xs.getD j 0)) ∧ W.cell? ⟨gy, oy + j, none⟩ = some (.int .i64 (ys.getD j 0))) := fun W hW => ⟨hW.cell xj (by simp), hW.cell yj (by simp)⟩
      clear xj yj
      by_cases hj0 : j = 0
      · subst hj0
        generalize xs.getD 0 0 = x at *
        generalize ys.getD 0 0 = y at *
        generalize hullB xs ys 0 = b at *
        rw [Nat.add_zero, Nat.add_zero] at HC
        have hNp : (0 : Int) < (N : Int) := by omega
        obtain ⟨xj, yj⟩ := HC.out wr HJ.out.2.2
        have q0 := KW.cell xj
        have q1 := KW.cell yj
        clear HHS xj yj
        go_wp2_with fail
        refine wp_region_kqt 13 (by kernel_rfl) (by kernel_rfl) ?_
        simp only [List.take_succ_cons, List.take_zero, List.drop_succ_cons, List.drop_zero]
        repeat (go_big_quiet_step (fail))
        refine wpQuiet_nil ?_
        intro w1 hw'
        obtain ⟨⟨_, hkw1⟩, rfl⟩ := hw'
        try dsimp only
        have HJ1 := Lib.hid (HJ.out.kp hkw1)
        obtain ⟨b0, b1, b2, b3⟩ := HJ1.out.2.1.cells
        obtain ⟨f0, f1, f2, f3⟩ := HJ1.out.2.1.frozen
        clear q0 q1 hkw1 HJ
        go_wp2_with fail
        refine wp_gen ?_; intro W2 hW2
        have HJ22 : Hid (HuSt w W2 ⟨x, y, x, y⟩) := by rw [hW2]; exact HJ1.out.put x y x y
        clear hW2 b0 b1 b2 b3 f0 f1 f2 f3 HJ1
        have HJ2 := Lib.hid HJ22.out
        obtain ⟨b0, b1, b2, b3⟩ := HJ2.out.2.1.cells
        obtain ⟨xq, yq⟩ := HC.out W2 HJ2.out.2.2
        have q0 := KW.cell b0
        have q1 := KW.cell b1
        have q2 := KW.cell b2
        have q3 := KW.cell b3
        have q4 := KW.cell xq
        have q5 := KW.cell yq
        clear b0 b1 b2 b3 xq yq
        refine wp_region_kqt 29 (by kernel_rfl) (by kernel_rfl) ?_
        simp only [List.take_succ_cons, List.take_zero, List.drop_succ_cons, List.drop_zero]
        repeat (go_big_quiet_step ((first | (go_at_call 66; exact Calls.kq (rleast_calls _ _ _)) | (go_at_call 67; exact Calls.kq (rmost_calls _ _ _)))))
        refine wpQuiet_nil ?_
        intro w3 hw'
        obtain ⟨⟨_, hkw3⟩, rfl⟩ := hw'
        try dsimp only
        have HJ3 := Lib.hid (HJ2.out.kp hkw3)
        obtain ⟨b0, b1, b2, b3⟩ := HJ3.out.2.1.cells
        obtain ⟨f0, f1, f2, f3⟩ := HJ3.out.2.1.frozen
        have HF := Lib.hid (HJ3.out.put x y x y)
        rw [← HH1.out] at HF
        clear q0 q1 q2 q3 q4 q5 hkw3 HJ2 HJ3
        go_wp2_with fail
        go_roundw
        case rel => first | exact ⟨0 + 1, by omega, int_eq' (by omega), HF.out⟩ | ((repeat apply Exists.intro); exact ⟨⟨0 + 1, by omega, int_eq' (by omega), HF.out⟩, rfl⟩)
        case measure => simp [intOf] <;> omega
      · have hjb : ((j : Int) == 0) = false := by simpa using hj0
        have HHS1 := Lib.hid (HHS.out hj0)
        generalize xs.getD j 0 = x at *
        generalize ys.getD j 0 = y at *
        generalize hullB xs ys j = b at *
        clear HHS HH1
        go_wp2_with fail
        refine wp_gen ?_; intro W2 hW2
        have HJ22 : Hid (HuSt w W2 b) := by rw [hW2]; exact HJ.out
        clear hW2 HJ
        have HJ2 := Lib.hid HJ22.out
        obtain ⟨b0, b1, b2, b3⟩ := HJ2.out.2.1.cells
        obtain ⟨xq, yq⟩ := HC.out W2 HJ2.out.2.2
        have q0 := KW.cell b0
        have q1 := KW.cell b1
        have q2 := KW.cell b2
        have q3 := KW.cell b3
        have q4 := KW.cell xq
        have q5 := KW.cell yq
        clear b0 b1 b2 b3 xq yq
        refine wp_region_kqt 29 (by kernel_rfl) (by kernel_rfl) ?_
        simp only [List.take_succ_cons, List.take_zero, List.drop_succ_cons, List.drop_zero]
        repeat (go_big_quiet_step ((first | (go_at_call 66; exact Calls.kq (rleast_calls _ _ _)) | (go_at_call 67; exact Calls.kq (rmost_calls _ _ _)))))
        refine wpQuiet_nil ?_
        intro w3 hw'
        obtain ⟨⟨_, hkw3⟩, rfl⟩ := hw'
        try dsimp only
        have HJ3 := Lib.hid (HJ2.out.kp hkw3)
        obtain ⟨b0, b1, b2, b3⟩ := HJ3.out.2.1.cells
        obtain ⟨f0, f1, f2, f3⟩ := HJ3.out.2.1.frozen
        have HF := Lib.hid (HJ3.out.put (min b.x0 x) (min b.y0 y) (max b.x1 x) (max b.y1 y))
        rw [← HHS1.out] at HF
        clear q0 q1 q2 q3 q4 q5 hkw3 HJ2 HJ3
        go_wp2_with fail
        go_roundw
        case rel => first | exact ⟨j + 1, by omega, int_eq' (by omega), HF.out⟩ | ((repeat apply Exists.intro); exact ⟨⟨j + 1, by omega, int_eq' (by omega), HF.out⟩, rfl⟩)
        case measure => simp [intOf] <;> omega
    · obtain rfl : j = N := by omega
      obtain ⟨b, hb⟩ : ∃ b, hullB xs ys j = b := ⟨_, rfl⟩
      rw [hb] at HJ
      have HE := Lib.hid HJ.out
      have HB := Lib.hid hb
      clear HJ hb
      obtain ⟨r0, r1, r2, r3⟩ := HE.out.1.cells
      obtain ⟨s0, s1, s2, s3⟩ := HE.out.1.frozen
      obtain ⟨b0, b1, b2, b3⟩ := HE.out.2.1.cells
      have hk := HE.out.2.2
      go_wp2_with fail
      refine bodyPost_ret (v := bxV b) (by simp [results, Tryz.results49, go_sem, bxV, r0, r1, r2, r3]) rfl ⟨by rw [HB.out], by (repeat (first | exact Kp.refl _ _ | assumption | refine Kp.drew ?_ | refine Kp.drewN ?_ _ | refine Kp.alloc ?_ _ | (refine Kp.setCell ?_ (by first | (left; simp; done) | (right; simp; try omega)) _) | (refine Kp.trans' ?_ (by assumption) (by simp; try omega))))⟩
end Go.Proofs.YtafkhnlmipddmaaGreat

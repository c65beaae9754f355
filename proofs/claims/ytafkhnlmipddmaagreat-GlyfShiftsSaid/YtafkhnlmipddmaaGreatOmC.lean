/- outline: turned · outline: an append onto a row that may share its block with another (out := c[:1:1]) · outline: explicit (plain) · outline: explicit (the walk). (Written by wip/outline/genous.py.) · outline: Explicit. (Written by wip/outline/genout.py.) · outline: the reference's explicit. (Written by wip/outline/genouu.py.). (Merged by wip/tools/mergetpl.py out of OuP, OuQ, OuR, OuS, OuT, OuU.) -/
import Derived.Test.YtafkhnlmipddmaaGreatOmB
import Derived.Lib.SliceRun
import Derived.Deep.RegionHeld3
import Derived.ArgAppend
namespace Go.Proofs.YtafkhnlmipddmaaGreat
open Go.RowKit
set_option linter.unusedVariables false
set_option linter.unusedSimpArgs false
theorem psCells_drop (c : List Pn) (k : Nat) (hk : k ≤ c.length) : psCells (c.drop k) = (psCells c).drop (k * 3) := by
  conv => rhs; rw [← List.take_append_drop k c, psCells_app]
  exact (List.drop_left' (by rw [psCells_length, List.length_take, Nat.min_eq_left hk])).symm
theorem psCells_take (c : List Pn) (k : Nat) (hk : k ≤ c.length) : psCells (c.take k) = (psCells c).take (k * 3) := by
  conv => rhs; rw [← List.take_append_drop k c, psCells_app]
  exact (List.take_left' (by rw [psCells_length, List.length_take, Nat.min_eq_left hk])).symm
theorem IsPs.drop {w : World} {g off n cap : Nat} {c : List Pn} (h : IsPs w (.slice (some ⟨g, off, none⟩) n cap) c) (k : Nat) (hk : k ≤ c.length) : IsPs w (.slice (some ⟨g, off + k * 3, none⟩) (c.length - k) (cap - k)) (c.drop k) := by
  rcases h.cases with ⟨ad, e, rfl⟩ | ⟨g', off', c', e, h1, h2, _⟩
  · cases e
    obtain rfl : k = 0 := by simpa using hk
    exact IsPs.nil w _
  · cases e
    refine ⟨?_, .inr ⟨g, off + k * 3, cap - k, by rw [List.length_drop], by rw [List.length_drop]; omega, by omega, fun j u hu => ?_⟩⟩
    · have := h.1; rw [psCells_drop c k hk, List.length_drop, this, List.length_drop]; omega
    · rcases h.2 with ⟨⟨ad, e⟩, h0⟩ | ⟨g2, o2, c2, e, _, _, h3⟩
      · have : c = [] := List.eq_nil_of_length_eq_zero (by first | exact h0 | simpa using h0)
        subst this; simp [psCells] at hu
      · cases e
        rw [psCells_drop c k hk, List.getElem?_drop] at hu
        have := h3 _ u hu
        rwa [← Nat.add_assoc] at this
theorem IsPs.take {w : World} {g off n cap : Nat} {c : List Pn} (h : IsPs w (.slice (some ⟨g, off, none⟩) n cap) c) (k : Nat) (hk : k ≤ c.length) : IsPs w (.slice (some ⟨g, off, none⟩) k cap) (c.take k) := by
  rcases h.cases with ⟨ad, e, rfl⟩ | ⟨g', off', c', e, h1, h2, _⟩
  · cases e
    obtain rfl : k = 0 := by simpa using hk
    exact IsPs.nil w _
  · cases e
    refine ⟨?_, .inr ⟨g, off, cap, by rw [List.length_take, Nat.min_eq_left hk], by rw [List.length_take]; omega, by omega, fun j u hu => ?_⟩⟩
    · have := h.1; rw [psCells_take c k hk, List.length_take, this, List.length_take]; omega
    · rcases h.2 with ⟨⟨ad, e⟩, h0⟩ | ⟨g2, o2, c2, e, _, _, h3⟩
      · have : c = [] := List.eq_nil_of_length_eq_zero (by first | exact h0 | simpa using h0)
        subst this; simp [psCells] at hu
      · cases e
        rw [psCells_take c k hk, List.getElem?_take] at hu
        split at hu
        · exact h3 _ u hu
        · cases hu
theorem IsPs.flat {w : World} {g off n cap : Nat} {c : List Pn} (h : IsPs w (.slice (some ⟨g, off, none⟩) n cap) c) : ∀ j u, (psCells c)[j]? = some u → w.cell? ⟨g, off + j, none⟩ = some u := by
  intro j u hu
  rcases h.2 with ⟨⟨ad, e⟩, h0⟩ | ⟨g2, o2, c2, e, _, _, h3⟩
  · have : c = [] := List.eq_nil_of_length_eq_zero (by first | exact h0 | simpa using h0)
    subst this; simp [psCells] at hu
  · cases e; exact h3 _ u hu
/-- A contour, turned so that it begins on the outline. -/
def turnP (c : List Pn) : List Pn := if onAt c < c.length then c.drop (onAt c) ++ c.take (onAt c) else midP (c.getD (c.length - 1) pn0) (c.getD 0 pn0) :: c
theorem turnP_none (c : List Pn) (h : firstOn c < 0) : turnP c = midP (c.getD (c.length - 1) pn0) (c.getD 0 pn0) :: c := by
  unfold firstOn at h; unfold turnP
  split at h
  · omega
  · rename_i h1; rw [if_neg h1]
theorem turnP_on (c : List Pn) (h : ¬ firstOn c < 0) : onAt c < c.length ∧ firstOn c = (onAt c : Nat) ∧ turnP c = c.drop (onAt c) ++ c.take (onAt c) := by
  unfold firstOn at h ⊢; unfold turnP
  split at h
  · rename_i h1; rw [if_pos h1, if_pos h1]; exact ⟨h1, rfl, rfl⟩
  · omega
/-- All coordinates lie in the bounds. -/
def numsP (c : List Pn) : Prop := ∀ i, i < c.length → numF (c.getD i pn0).x = true ∧ numF (c.getD i pn0).y = true
end Go.Proofs.YtafkhnlmipddmaaGreat
namespace Go.Proofs.YtafkhnlmipddmaaGreat
open Go.RowKit
set_option linter.unusedVariables false
set_option linter.unusedSimpArgs false
/-- A row of the call's own from a block on, or a slice without room. -/
def GrowR (w : World) (base : Nat) (v : Value) (l : List Pn) : Prop :=
  w.ownsRow base 46 3 v l.length (psCells l) ∨ ∃ g, v = .slice (some ⟨g, 0, none⟩) l.length l.length ∧ l.length ≤ maxLen ∧ ∀ j u, (psCells l)[j]? = some u → w.cell? ⟨g, j, none⟩ = some u
theorem GrowR.form {w : World} {base : Nat} {v : Value} {l : List Pn} (h : GrowR w base v l) : ∃ p c, v = .slice p l.length c := by
  rcases h with h | ⟨g, rfl, _⟩
  · exact slice_own h
  · exact ⟨_, _, rfl⟩
theorem GrowR.kp0 {w w' : World} {base : Nat} {v : Value} {l : List Pn} (h : GrowR w base v l) (hk : Kp [] w w') : GrowR w' base v l := by
  rcases h with h | ⟨g, rfl, h1, h2⟩
  · exact .inl (hk.row h (by simp))
  · exact .inr ⟨g, rfl, h1, fun j u hu => hk.cell (h2 j u hu) (by simp)⟩
section
variable {w : World} {ops : Array Oper} {o : Oper} {a : Act} {Q : Exit → Act → World → Prop}
theorem step_growP {K : Act → World → Prop} {E : Prop} (hgd : o.guard = none) (s x : Operand) (ho : o.op = .call { callee := .builtin .append, args := #[s, x], argTypes := #[23, 23] })
    (base : Nat) (v : Value) (l : List Pn) (hs : a.eval s = v) (hg : GrowR w base v l) (G C m : Nat) (news : List Pn) (hm : news.length = m) (hm0 : 0 < m)
    (hx : a.eval x = .slice (some ⟨G, 0, none⟩) m C) (hc : ∀ j u, (psCells news)[j]? = some u → w.cell? ⟨G, 0 + j, none⟩ = some u)
    (hl : (l.length + m) * 24 ≤ 140737488355328) (hbase : base ≤ w.heap.size)
    (h : ∀ v' w', w'.ownsRow base 46 3 v' (l.length + m) (psCells (l ++ news)) → (∀ w0, w0.heap.size ≤ base → Kp [] w0 w → Kp [] w0 w') → K (a.put o.dst v') w') :
    if Region.wanted o (yielded ops a.tmps) = true then Oper.wp Tryz.prog o a w K Q else E := by
  have hw : Region.wanted o (yielded ops a.tmps) = true := by simp [Region.wanted, hgd]
  rw [if_pos hw]
  obtain ⟨i, hi, hz, hsize, hby⟩ := info_parts infoPn
  subst hm
  have hnl : (psCells news).length = news.length * 3 := psCells_length news
  have hll : (psCells l).length = l.length * 3 := psCells_length l
  rcases hg with hown | ⟨g, rfl, h1, h2⟩
  · obtain ⟨v', w', hrun, r1, r2, _⟩ := run_append_own (P := Tryz.prog) w base 23 o.type 46 i (.agg #[.int .i64 0, .int .i64 0, .int .i64 0]) 3 24 Tryz.underlying23 hi hz hsize hby rfl (by decide) v l.length (psCells l) hown ⟨G, 0, none⟩ news.length C (psCells news) hnl (by intro j u hj; rw [add_lit]; exact hc j u hj) (oneCell_ps news) (by unfold maxLen; omega) hl hbase
    unfold Oper.wp
    simp [execOp, ho, resolve, invoke, builtin, hs, hx, hrun, Result.andThen]
    exact h v' w' (by rw [psCells_app]; exact r1) (fun w0 h0 hk => Kp.grown hk r2 (fun k hk' => .inr (by have := own_ge hown k hk'; omega)))
  · obtain ⟨v', w', hrun, r1, r2⟩ := run_append_arg_grows (P := Tryz.prog) w 23 o.type 46 i (.agg #[.int .i64 0, .int .i64 0, .int .i64 0]) 3 24 Tryz.underlying23 hi hz hsize hby rfl (by decide) ⟨g, 0, none⟩ l.length l.length (psCells l) hll (fun j u hj => by rw [add_lit, Nat.zero_add]; exact h2 j u hj) ⟨G, 0, none⟩ news.length C (psCells news) hnl (by intro j u hj; rw [add_lit]; exact hc j u hj) (by omega) (by unfold maxLen; omega) hl
    unfold Oper.wp
    simp [execOp, ho, resolve, invoke, builtin, hs, hx, hrun, Result.andThen]
    exact h v' w' (by rw [psCells_app]; exact ⟨r1.1, r1.2.imp_right fun ⟨g, cap, cur, a, b, d⟩ => ⟨g, cap, cur, a, Nat.le_trans hbase b, d⟩⟩) (fun w0 h0 hk => Kp.grown hk r2 (fun k hk' => by cases hk'))
end
end Go.Proofs.YtafkhnlmipddmaaGreat
namespace Go.Proofs.YtafkhnlmipddmaaGreat
open Go.RowKit
set_option linter.unusedVariables false
set_option linter.unusedSimpArgs false
/-- The explicit points up to a place. -/
def expG (c : List Pn) : Nat → List Pn
  | 0 => [c.getD 0 pn0]
  | j + 1 => expG c j ++ (if (c.getD (j + 1) pn0).k = 2 ∧ (c.getD j pn0).k = 2 then [midP (c.getD j pn0) (c.getD (j + 1) pn0)] else []) ++ [c.getD (j + 1) pn0]
theorem expG_len (c : List Pn) (j : Nat) : 0 < (expG c j).length ∧ (expG c j).length ≤ 2 * j + 1 := by
  induction j with
  | zero => simp [expG]
  | succ j ih =>
    unfold expG
    simp only [List.length_append, List.length_cons, List.length_nil]
    split <;> simp <;> omega
def expC (c : List Pn) : List Pn := expG (turnP c) ((turnP c).length - 1)
theorem turnP_len (c : List Pn) (h : 0 < c.length) : 0 < (turnP c).length ∧ (turnP c).length ≤ c.length + 1 := by
  unfold turnP; split
  · rename_i h1; rw [List.length_append, List.length_drop, List.length_take]; omega
  · simp
theorem numsP_mem {c : List Pn} (h : numsP c) : ∀ p ∈ c, numF p.x = true ∧ numF p.y = true := fun p hp => by
  obtain ⟨i, hi, rfl⟩ := List.mem_iff_getElem.1 hp
  have := h i hi
  rwa [List.getD_eq_getElem?_getD, List.getElem?_eq_getElem hi] at this
theorem numsP_of {c : List Pn} (h : ∀ p ∈ c, numF p.x = true ∧ numF p.y = true) : numsP c := fun i hi => by
  rw [List.getD_eq_getElem?_getD, List.getElem?_eq_getElem hi]; exact h _ (List.getElem_mem hi)
theorem numF_mid {a b : Int} (ha : numF a = true) (hb : numF b = true) : numF ((a + b) / 2) = true := by
  obtain ⟨a1, a2⟩ := (numF_iff _).1 ha
  obtain ⟨b1, b2⟩ := (numF_iff _).1 hb
  exact (numF_iff _).2 ⟨by omega, by omega⟩
theorem numsP_turn {c : List Pn} (h0 : 0 < c.length) (h : numsP c) : numsP (turnP c) := by
  refine numsP_of fun p hp => ?_
  have hm := numsP_mem h
  unfold turnP at hp; split at hp
  · rcases List.mem_append.1 hp with hp | hp
    · exact hm p (List.mem_of_mem_drop hp)
    · exact hm p (List.mem_of_mem_take hp)
  · rcases List.mem_cons.1 hp with rfl | hp
    · have a := h (c.length - 1) (by omega)
      have b := h 0 h0
      exact ⟨numF_mid a.1 b.1, numF_mid a.2 b.2⟩
    · exact hm p hp
end Go.Proofs.YtafkhnlmipddmaaGreat
namespace Go.Proofs.YtafkhnlmipddmaaGreat
open Go.RowKit
set_option linter.unusedVariables false
set_option linter.unusedSimpArgs false
theorem ps_some {w : World} {base : Nat} {v : Value} {l : List Pn} (h : w.ownsRow base 46 3 v l.length (psCells l)) (h0 : 0 < l.length) : ∃ g c, v = .slice (some ⟨g, 0, none⟩) l.length c ∧ base ≤ g ∧ g < w.heap.size ∧ l.length ≤ c ∧ c ≤ maxLen := by
  rcases h.2 with ⟨_, e⟩ | ⟨g, cap, cur, rfl, h1, h2, h3, h4, _⟩
  · omega
  · exact ⟨g, cap, rfl, h1, (Array.getElem?_eq_some_iff.1 h2).1, h3, h4⟩
section
variable {w : World} {ops : Array Oper} {rest : List Oper} {o : Oper} {a : Act} {Q : Exit → Act → World → Prop}
theorem wpList_growP (hgd : o.guard = none) (s x : Operand) (ho : o.op = .call { callee := .builtin .append, args := #[s, x], argTypes := #[23, 23] })
    (base : Nat) (v : Value) (l : List Pn) (hs : a.eval s = v) (hg : GrowR w base v l) (G C m : Nat) (news : List Pn) (hm : news.length = m) (hm0 : 0 < m)
    (hx : a.eval x = .slice (some ⟨G, 0, none⟩) m C) (hc : ∀ j u, (psCells news)[j]? = some u → w.cell? ⟨G, 0 + j, none⟩ = some u)
    (hl : (l.length + m) * 24 ≤ 140737488355328) (hbase : base ≤ w.heap.size)
    (h : ∀ v' w', w'.ownsRow base 46 3 v' (l.length + m) (psCells (l ++ news)) → (∀ w0, w0.heap.size ≤ base → Kp [] w0 w → Kp [] w0 w') → wpList Tryz.prog ops Q rest (a.put o.dst v') w') : wpList Tryz.prog ops Q (o :: rest) a w := by
  obtain ⟨i, hi, hz, hsize, hby⟩ := info_parts infoPn
  subst hm
  have hnl : (psCells news).length = news.length * 3 := psCells_length news
  have hll : (psCells l).length = l.length * 3 := psCells_length l
  rcases hg with hown | ⟨g, rfl, h1, h2⟩
  · refine wpList_append_own w hgd s x _ ho base 46 i (.agg #[.int .i64 0, .int .i64 0, .int .i64 0]) 3 24 Tryz.underlying23 hi hz hsize hby rfl (by decide) v l.length (psCells l) hs hown ⟨G, 0, none⟩ news.length C (psCells news) hx hnl (by intro j u hj; rw [add_lit]; exact hc j u hj) (oneCell_ps news) (by unfold maxLen; omega) hl hbase ?_
    intro v' w' r1 r2 _
    exact h v' w' (by rw [psCells_app]; exact r1) (fun w0 h0 hk => Kp.grown hk r2 (fun k hk' => .inr (by have := own_ge hown k hk'; omega)))
  · refine wpList_append_grows w hgd s x _ ho 46 i (.agg #[.int .i64 0, .int .i64 0, .int .i64 0]) 3 24 Tryz.underlying23 hi hz hsize hby rfl (by decide) (some ⟨g, 0, none⟩) l.length l.length (psCells l) hs (fun hn => by cases hn) hll (fun b hb j u hj => ?_) ⟨G, 0, none⟩ news.length C (psCells news) hx hnl (by intro j u hj; rw [add_lit]; exact hc j u hj) (oneCell_ps news) (by omega) (by unfold maxLen; omega) hl ?_
    · cases hb; rw [add_lit, Nat.zero_add]; exact h2 j u hj
    · intro v' w' r1 r2
      exact h v' w' (by rw [psCells_app]; exact ⟨r1.1, r1.2.imp_right fun ⟨g, cap, cur, a, b, d⟩ => ⟨g, cap, cur, a, Nat.le_trans hbase b, d⟩⟩) (fun w0 h0 hk => Kp.grown hk r2 (fun k hk' => by cases hk'))
end
theorem GrowR.owned {w : World} {base : Nat} {v : Value} {n : Nat} {l : List Pn} (hn : n = l.length) (h : w.ownsRow base 46 3 v n (psCells l)) : GrowR w base v l := by
  subst hn; exact .inl h
theorem holdT {p : Prop} (h : Unit → p) : p := h ()
theorem expG_mid (c : List Pn) (j : Nat) (h1 : (c.getD (j + 1) pn0).k = 2) (h2 : (c.getD j pn0).k = 2) : expG c (j + 1) = (expG c j ++ [midP (c.getD j pn0) (c.getD (j + 1) pn0)]) ++ [c.getD (j + 1) pn0] := by
  rw [expG, if_pos ⟨h1, h2⟩]
theorem expG_no (c : List Pn) (j : Nat) (h : ¬ ((c.getD (j + 1) pn0).k = 2 ∧ (c.getD j pn0).k = 2)) : expG c (j + 1) = expG c j ++ [c.getD (j + 1) pn0] := by
  rw [expG, if_neg h, List.append_nil]
theorem expG_mid' (c : List Pn) (j : Nat) (hj : 1 ≤ j) (h1 : (c.getD j pn0).k = 2) (h2 : (c.getD (j - 1) pn0).k = 2) : expG c j = (expG c (j - 1) ++ [midP (c.getD (j - 1) pn0) (c.getD j pn0)]) ++ [c.getD j pn0] := by
  obtain ⟨i, rfl⟩ : ∃ i, j = i + 1 := ⟨j - 1, by omega⟩
  exact expG_mid c i h1 h2
theorem expG_no' (c : List Pn) (j : Nat) (hj : 1 ≤ j) (h : ¬ ((c.getD j pn0).k = 2 ∧ (c.getD (j - 1) pn0).k = 2)) : expG c j = expG c (j - 1) ++ [c.getD j pn0] := by
  obtain ⟨i, rfl⟩ : ∃ i, j = i + 1 := ⟨j - 1, by omega⟩
  exact expG_no c i h
theorem lit3 {w W : World} {x y k : Int} (hk : Kp [] (w.alloc (.cells #[.int .i64 x, .int .i64 y, .int .i64 k] 46)) W) : ∀ j u, (psCells [⟨x, y, k⟩])[j]? = some u → W.cell? ⟨w.heap.size, 0 + j, none⟩ = some u := by
  obtain ⟨h0, h1, h2⟩ := pbox hk
  intro j u hu
  have hj : j < 3 := (List.getElem?_eq_some_iff.1 hu).1
  obtain rfl | rfl | rfl : j = 0 ∨ j = 1 ∨ j = 2 := by omega
  · cases hu; exact h0
  · cases hu; exact h1
  · cases hu; exact h2
theorem GrowR.isps {w : World} {base : Nat} {v : Value} {l : List Pn} (h : GrowR w base v l) : IsPs w v l := by
  rcases h with h | ⟨g, rfl, h1, h2⟩
  · exact IsPs.owned rfl h
  · exact ⟨psCells_length l, .inr ⟨g, 0, l.length, rfl, Nat.le_refl _, h1, fun j u hu => by rw [Nat.zero_add]; exact h2 j u hu⟩⟩
end Go.Proofs.YtafkhnlmipddmaaGreat
namespace Go.Proofs.YtafkhnlmipddmaaGreat
open Go.RowKit
set_option linter.unusedVariables false
set_option linter.unusedSimpArgs false
theorem checkO_zero {o : List (List Pn)} (h : checkO o = 0) : o.length ≤ 256 ∧ cnt o ≤ 4096 ∧ ∀ j, j < o.length → mayCo (o.getD j []) = true := by
  unfold checkO at h
  split at h
  · omega
  · rename_i h1
    split at h
    · rename_i h2
      refine ⟨by omega, by omega, fun j hj => ?_⟩
      rw [List.all_eq_true] at h2
      rw [List.getD_eq_getElem?_getD, List.getElem?_eq_getElem hj]
      exact h2 _ (List.getElem_mem hj)
    · omega
theorem mayTo_at {c : List Pn} {n i : Nat} (h : mayTo c n = true) (hi : i < n) : mayPn c i = true := by
  unfold mayTo at h; rw [List.all_eq_true] at h; exact h i (by simpa using hi)
theorem mayCo_facts {c : List Pn} (h : mayCo c = true) : 0 < c.length ∧ numsP c ∧ ∀ i, i < c.length → mayPn c i = true := by
  unfold mayCo at h
  rw [Bool.and_eq_true, decide_eq_true_eq] at h
  refine ⟨h.1, fun i hi => ?_, fun i hi => mayTo_at h.2 hi⟩
  have := mayTo_at h.2 hi
  unfold mayPn at this
  rw [Bool.and_eq_true, Bool.and_eq_true] at this
  exact ⟨this.1, this.2.1⟩
theorem expC_len (c : List Pn) (h : 0 < c.length) : 0 < (expC c).length ∧ (expC c).length ≤ 2 * c.length + 1 := by
  have h1 := turnP_len c h
  have h2 := expG_len (turnP c) ((turnP c).length - 1)
  unfold expC; omega
theorem WOut.base {w : World} {base b2 : Nat} {v : Value} {o : List (List Pn)} (h : WOut w base v o) (hb : b2 ≤ base) : WOut w b2 v o := by
  obtain ⟨vs, h1, h2⟩ := h
  exact ⟨vs, ⟨h1.1, h1.2.imp_right fun ⟨g, cap, cur, a, b, d⟩ => ⟨g, cap, cur, a, Nat.le_trans hb b, d⟩⟩, fun i hi => ⟨(h2 i hi).1, fun b hbb => ⟨((h2 i hi).2 b hbb).1, ((h2 i hi).2 b hbb).2.1, Nat.le_trans hb ((h2 i hi).2 b hbb).2.2⟩⟩⟩
/-- An outline, made explicit. -/
def expO (o : List (List Pn)) : List (List Pn) := o.map expC
theorem map_take {o : List (List Pn)} {j : Nat} (f : List Pn → List Pn) (hj : j < o.length) : (o.map f).take (j + 1) = (o.map f).take j ++ [f (o.getD j [])] := by
  rw [List.take_succ_eq_append_getElem (by simpa using hj), List.getElem_map, List.getD_eq_getElem?_getD, List.getElem?_eq_getElem hj]; rfl
end Go.Proofs.YtafkhnlmipddmaaGreat
namespace Go.Proofs.YtafkhnlmipddmaaGreat
open Go.RowKit
set_option linter.unusedVariables false
set_option linter.unusedSimpArgs false
/-- What the reference has laid behind k points (from place f on). -/
def outR (c : List Pn) (f : Nat) (pre : List Pn) : Nat → List Pn
  | 0 => pre
  | k + 1 => outR c f pre k ++ [ringAt c ((f : Int) + k)] ++ (if ((ringAt c ((f : Int) + k)).k = 2 ∧ (ringAt c ((f : Int) + k + 1)).k = 2) ∧ ¬ (k + 1 = c.length ∧ (c.getD f pn0).k = 2) then [midP (ringAt c ((f : Int) + k)) (ringAt c ((f : Int) + k + 1))] else [])
theorem ringAt_lt (c : List Pn) (i : Nat) (h : i < c.length) : ringAt c (i : Int) = c.getD i pn0 := by
  unfold ringAt
  have : (i : Int) % (c.length : Int) = i := Int.emod_eq_of_lt (by omega) (by omega)
  rw [this]; rfl
theorem ringAt_wrap (c : List Pn) (i : Nat) (h1 : c.length ≤ i) (h2 : i < 2 * c.length) : ringAt c (i : Int) = c.getD (i - c.length) pn0 := by
  have h := ringAt_lt c (i - c.length) (by omega)
  rw [← h, ← ring_back c (((i - c.length : Nat)) : Int)]
  congr 1; omega
theorem turn_at (c : List Pn) (k : Nat) (hf : onAt c < c.length) (hk : k < c.length) : (turnP c).getD k pn0 = ringAt c ((onAt c : Int) + k) := by
  unfold turnP; rw [if_pos hf]
  have e : ((onAt c : Int) + k) = ((onAt c + k : Nat) : Int) := by omega
  rw [e, List.getD_eq_getElem?_getD]
  by_cases h : onAt c + k < c.length
  · rw [ringAt_lt c _ h, List.getElem?_append_left (by rw [List.length_drop]; omega), List.getElem?_drop, List.getD_eq_getElem?_getD]
  · rw [ringAt_wrap c _ (by omega) (by omega), List.getElem?_append_right (by rw [List.length_drop]; omega), List.length_drop, List.getElem?_take, if_pos (by omega), List.getD_eq_getElem?_getD]
    congr 2; omega
theorem onAt_k (c : List Pn) (h : onAt c < c.length) : (c.getD (onAt c) pn0).k = 1 := by
  induction c with
  | nil => simp at h
  | cons p l ih =>
    unfold onAt at h ⊢
    split
    · rename_i h1; simpa using h1
    · rename_i h1
      rw [if_neg h1] at h
      simp only [List.length_cons] at h
      simpa using ih (by omega)
theorem outR_on (c : List Pn) (h : onAt c < c.length) : ∀ k, k < c.length → outR c (onAt c) [] (k + 1) = expG (turnP c) k ++ (if k + 1 < c.length ∧ ((turnP c).getD k pn0).k = 2 ∧ ((turnP c).getD (k + 1) pn0).k = 2 then [midP ((turnP c).getD k pn0) ((turnP c).getD (k + 1) pn0)] else []) := by
  intro k
  induction k with
  | zero =>
    intro hk
    have h0 := turn_at c 0 h hk
    have hk1 : ((turnP c).getD 0 pn0).k = 1 := by rw [h0]; have := ringAt_lt c (onAt c) h; simp only [Int.ofNat_zero, Int.add_zero]; first | (rw [this]; exact onAt_k c h) | (simp; rw [this]; exact onAt_k c h)
    rw [outR, outR, ← h0, if_neg (by rw [hk1]; simp), if_neg (by rw [hk1]; simp)]
    rfl
  | succ k ih =>
    intro hk
    have hkk := ih (by omega)
    have h1 := turn_at c (k + 1) h hk
    have e1 : ((onAt c : Int) + ((k + 1 : Nat) : Int)) = (onAt c : Int) + k + 1 := by omega
    rw [outR, hkk, ← h1, expG]
    have hon : ¬ (c.getD (onAt c) pn0).k = 2 := by rw [onAt_k c h]; simp
    have c1 : (k + 1 < c.length ∧ ((turnP c).getD k pn0).k = 2 ∧ ((turnP c).getD (k + 1) pn0).k = 2) = (((turnP c).getD (k + 1) pn0).k = 2 ∧ ((turnP c).getD k pn0).k = 2) := propext ⟨fun x => ⟨x.2.2, x.2.1⟩, fun x => ⟨by omega, x.2, x.1⟩⟩
    simp only [c1]
    have key : (if (((turnP c).getD (k + 1) pn0).k = 2 ∧ (ringAt c ((onAt c : Int) + ((k + 1 : Nat) : Int) + 1)).k = 2) ∧ ¬ (k + 1 + 1 = c.length ∧ (c.getD (onAt c) pn0).k = 2) then [midP ((turnP c).getD (k + 1) pn0) (ringAt c ((onAt c : Int) + ((k + 1 : Nat) : Int) + 1))] else []) = (if k + 1 + 1 < c.length ∧ ((turnP c).getD (k + 1) pn0).k = 2 ∧ ((turnP c).getD (k + 1 + 1) pn0).k = 2 then [midP ((turnP c).getD (k + 1) pn0) ((turnP c).getD (k + 1 + 1) pn0)] else []) := by
      by_cases hl : k + 1 + 1 < c.length
      · have h2 := turn_at c (k + 1 + 1) h hl
        have e2 : ((onAt c : Int) + ((k + 1 : Nat) : Int) + 1) = (onAt c : Int) + ((k + 1 + 1 : Nat) : Int) := by omega
        rw [e2, ← h2]
        have c2 : ((((turnP c).getD (k + 1) pn0).k = 2 ∧ ((turnP c).getD (k + 1 + 1) pn0).k = 2) ∧ ¬ (k + 1 + 1 = c.length ∧ (c.getD (onAt c) pn0).k = 2)) = (k + 1 + 1 < c.length ∧ ((turnP c).getD (k + 1) pn0).k = 2 ∧ ((turnP c).getD (k + 1 + 1) pn0).k = 2) := propext ⟨fun x => ⟨hl, x.1⟩, fun x => ⟨x.2, fun y => hon y.2⟩⟩
        simp only [c2]
      · have h2 : (ringAt c ((onAt c : Int) + ((k + 1 : Nat) : Int) + 1)).k = 1 := by
          have e2 : ((onAt c : Int) + ((k + 1 : Nat) : Int) + 1) = ((onAt c : Int)) + (c.length : Int) := by omega
          rw [e2, ring_back, ringAt_lt c _ h]; exact onAt_k c h
        rw [if_neg (fun x => by rw [h2] at x; exact absurd x.1.2 (by decide)), if_neg (fun x => hl x.1)]
    rw [key]
theorem outR_expC (c : List Pn) (h : onAt c < c.length) : outR c (onAt c) [] c.length = expC c := by
  have hl : (turnP c).length = c.length := by unfold turnP; rw [if_pos h, List.length_append, List.length_drop, List.length_take]; omega
  obtain ⟨n, hn⟩ : ∃ n, c.length = n + 1 := ⟨c.length - 1, by omega⟩
  have := outR_on c h n (by omega)
  rw [hn, this, if_neg (by omega), List.append_nil]
  unfold expC; rw [hl, hn]; rfl
/-- A contour without a point on the outline has control points of one kind alone. -/
theorem quads {c : List Pn} (hm : mayCo c = true) (h : c.length ≤ onAt c) : ∀ i, i < c.length → (c.getD i pn0).k = 2 := by
  obtain ⟨h0, _, h2⟩ := mayCo_facts hm
  have hoff := offTo_onAt c
  have hno : ∀ i, i < c.length → (c.getD i pn0).k ≠ 1 := fun i hi => hoff i (by omega)
  have hring : ∀ i : Int, ((ringAt c i).k == 1) = false := fun i => by
    obtain ⟨k, hk, _, hr⟩ := ring_idx c i h0
    rw [hr]; simpa using hno k hk
  intro i hi
  have := h2 i hi
  unfold mayPn standsB kindsB at this
  have h1 := hno i hi
  simp only [hring, Bool.false_and, Bool.and_false, Bool.or_false, Bool.and_eq_true, Bool.or_eq_true, beq_iff_eq] at this
  rcases this.2.2 with h | h
  · exact absurd h h1
  · simpa using h
theorem expG_succ (c : List Pn) (j : Nat) : expG c (j + 1) = expG c j ++ (if (c.getD (j + 1) pn0).k = 2 ∧ (c.getD j pn0).k = 2 then [midP (c.getD j pn0) (c.getD (j + 1) pn0)] else []) ++ [c.getD (j + 1) pn0] := rfl
theorem outR_none (c : List Pn) (hm : mayCo c = true) (h : c.length ≤ onAt c) : ∀ k, k < c.length → outR c 0 [midP (c.getD (c.length - 1) pn0) (c.getD 0 pn0)] (k + 1) = expG (turnP c) (k + 1) ++ (if k + 1 < c.length then [midP (c.getD k pn0) (c.getD (k + 1) pn0)] else []) := by
  have hq := quads hm h
  have hT : turnP c = midP (c.getD (c.length - 1) pn0) (c.getD 0 pn0) :: c := by unfold turnP; rw [if_neg (by omega)]
  have hTs : ∀ k, (turnP c).getD (k + 1) pn0 = c.getD k pn0 := fun k => by rw [hT]; simp
  have ring0 : ∀ k, k < c.length → ringAt c ((0 : Nat) + (k : Int)) = c.getD k pn0 := fun k hk => by rw [Int.natCast_zero, Int.zero_add]; exact ringAt_lt c k hk
  intro k
  have step : ∀ k, k < c.length → (if ((ringAt c ((0 : Nat) + (k : Int))).k = 2 ∧ (ringAt c ((0 : Nat) + (k : Int) + 1)).k = 2) ∧ ¬ (k + 1 = c.length ∧ (c.getD 0 pn0).k = 2) then [midP (ringAt c ((0 : Nat) + (k : Int))) (ringAt c ((0 : Nat) + (k : Int) + 1))] else []) = (if k + 1 < c.length then [midP (c.getD k pn0) (c.getD (k + 1) pn0)] else []) := by
    intro k hk
    rw [ring0 k hk]
    have e : ((0 : Nat) : Int) + (k : Int) + 1 = (0 : Nat) + ((k + 1 : Nat) : Int) := by omega
    rw [e]
    by_cases hl : k + 1 < c.length
    · rw [ring0 (k + 1) hl, if_pos ⟨⟨hq k hk, hq _ hl⟩, fun x => by omega⟩, if_pos hl]
    · rw [if_neg (fun x => x.2 ⟨by omega, hq 0 (by omega)⟩), if_neg hl]
  induction k with
  | zero =>
    intro hk
    have e0 : expG (turnP c) (0 + 1) = [midP (c.getD (c.length - 1) pn0) (c.getD 0 pn0)] ++ [c.getD 0 pn0] := by
      rw [expG_succ, hTs, if_neg (fun x => by rw [hT] at x; exact absurd x.2 (by simp [midP])), List.append_nil, hT]; rfl
    rw [outR, outR, step 0 hk, ring0 0 hk, e0]
  | succ k ih =>
    intro hk
    have e1 : expG (turnP c) (k + 1 + 1) = expG (turnP c) (k + 1) ++ [midP (c.getD k pn0) (c.getD (k + 1) pn0)] ++ [c.getD (k + 1) pn0] := by
      rw [expG_succ, hTs, hTs, if_pos ⟨hq _ hk, hq _ (by omega)⟩]
    rw [outR, ih (by omega), step (k + 1) hk, ring0 (k + 1) hk, e1, if_pos (show k + 1 < c.length by omega)]
theorem outR_expC0 (c : List Pn) (hm : mayCo c = true) (h : c.length ≤ onAt c) : outR c 0 [midP (c.getD (c.length - 1) pn0) (c.getD 0 pn0)] c.length = expC c := by
  obtain ⟨h0, _⟩ := mayCo_facts hm
  obtain ⟨n, hn⟩ : ∃ n, c.length = n + 1 := ⟨c.length - 1, by omega⟩
  have := outR_none c hm h n (by omega)
  have hl : (turnP c).length = c.length + 1 := by unfold turnP; rw [if_neg (by omega)]; simp
  unfold expC
  rw [hl, Nat.add_sub_cancel]
  conv => lhs; rw [hn]
  rw [hn] at this ⊢
  rw [this, if_neg (by omega), List.append_nil]
theorem outR_len (c : List Pn) (f : Nat) (pre : List Pn) (k : Nat) : (outR c f pre k).length ≤ pre.length + 2 * k := by
  induction k with
  | zero => simp [outR]
  | succ k ih => unfold outR; simp only [List.length_append, List.length_cons, List.length_nil]; split <;> simp <;> omega
end Go.Proofs.YtafkhnlmipddmaaGreat

/- outline: an append onto a row that may share its block with another (out := c[:1:1]). -/
import Derived.Test.YtodjohoonbkklaaOuP
import Derived.ArgAppend
namespace Go.Proofs.Ytodjohoonbkklaa
open Go.RowKit
set_option linter.unusedVariables false
set_option linter.unusedSimpArgs false
/-- A row of the call's own from a block on, or a slice without room. -/
def GrowR (w : World) (base : Nat) (v : Value) (l : List Pn) : Prop :=
  w.ownsRow base 61 3 v l.length (psCells l) ∨ ∃ g, v = .slice (some ⟨g, 0, none⟩) l.length l.length ∧ l.length ≤ maxLen ∧ ∀ j u, (psCells l)[j]? = some u → w.cell? ⟨g, j, none⟩ = some u
theorem GrowR.form {w : World} {base : Nat} {v : Value} {l : List Pn} (h : GrowR w base v l) : ∃ p c, v = .slice p l.length c := by
  rcases h with h | ⟨g, rfl, _⟩
  · exact slice_own h
  · exact ⟨_, _, rfl⟩
theorem GrowR.kp0 {w w' : World} {base : Nat} {v : Value} {l : List Pn} (h : GrowR w base v l) (hk : Kp [] w w') : GrowR w' base v l := by
  rcases h with h | ⟨g, rfl, h1, h2⟩
  · exact .inl (hk.row h (by simp))
  · exact .inr ⟨g, rfl, h1, fun j u hu => hk.cell (h2 j u hu) (by simp)⟩
section
variable {w : World} {ops : Array Oper} {o : Oper} {a : Act} {Q : Exit → Act → World → Prop}
theorem step_growP {K : Act → World → Prop} {E : Prop} (hgd : o.guard = none) (s x : Operand) (ho : o.op = .call { callee := .builtin .append, args := #[s, x], argTypes := #[96, 96] })
    (base : Nat) (v : Value) (l : List Pn) (hs : a.eval s = v) (hg : GrowR w base v l) (G C m : Nat) (news : List Pn) (hm : news.length = m) (hm0 : 0 < m)
    (hx : a.eval x = .slice (some ⟨G, 0, none⟩) m C) (hc : ∀ j u, (psCells news)[j]? = some u → w.cell? ⟨G, 0 + j, none⟩ = some u)
    (hl : (l.length + m) * 24 ≤ 140737488355328) (hbase : base ≤ w.heap.size)
    (h : ∀ v' w', w'.ownsRow base 61 3 v' (l.length + m) (psCells (l ++ news)) → (∀ w0, w0.heap.size ≤ base → Kp [] w0 w → Kp [] w0 w') → K (a.put o.dst v') w') :
    if Region.wanted o (yielded ops a.tmps) = true then Oper.wp Try.prog o a w K Q else E := by
  have hw : Region.wanted o (yielded ops a.tmps) = true := by simp [Region.wanted, hgd]
  rw [if_pos hw]
  obtain ⟨i, hi, hz, hsize, hby⟩ := info_parts infoPn
  subst hm
  have hnl : (psCells news).length = news.length * 3 := psCells_length news
  have hll : (psCells l).length = l.length * 3 := psCells_length l
  rcases hg with hown | ⟨g, rfl, h1, h2⟩
  · obtain ⟨v', w', hrun, r1, r2, _⟩ := run_append_own (P := Try.prog) w base 96 o.type 61 i (.agg #[.int .i64 0, .int .i64 0, .int .i64 0]) 3 24 Try.underlying96 hi hz hsize hby rfl (by decide) v l.length (psCells l) hown ⟨G, 0, none⟩ news.length C (psCells news) hnl (by intro j u hj; rw [add_lit]; exact hc j u hj) (oneCell_ps news) (by unfold maxLen; omega) hl hbase
    unfold Oper.wp
    simp [execOp, ho, resolve, invoke, builtin, hs, hx, hrun, Result.andThen]
    exact h v' w' (by rw [psCells_app]; exact r1) (fun w0 h0 hk => Kp.grown hk r2 (fun k hk' => .inr (by have := own_ge hown k hk'; omega)))
  · obtain ⟨v', w', hrun, r1, r2⟩ := run_append_arg_grows (P := Try.prog) w 96 o.type 61 i (.agg #[.int .i64 0, .int .i64 0, .int .i64 0]) 3 24 Try.underlying96 hi hz hsize hby rfl (by decide) ⟨g, 0, none⟩ l.length l.length (psCells l) hll (fun j u hj => by rw [add_lit, Nat.zero_add]; exact h2 j u hj) ⟨G, 0, none⟩ news.length C (psCells news) hnl (by intro j u hj; rw [add_lit]; exact hc j u hj) (by omega) (by unfold maxLen; omega) hl
    unfold Oper.wp
    simp [execOp, ho, resolve, invoke, builtin, hs, hx, hrun, Result.andThen]
    exact h v' w' (by rw [psCells_app]; exact ⟨r1.1, r1.2.imp_right fun ⟨g, cap, cur, a, b, d⟩ => ⟨g, cap, cur, a, Nat.le_trans hbase b, d⟩⟩) (fun w0 h0 hk => Kp.grown hk r2 (fun k hk' => by cases hk'))
end
end Go.Proofs.Ytodjohoonbkklaa

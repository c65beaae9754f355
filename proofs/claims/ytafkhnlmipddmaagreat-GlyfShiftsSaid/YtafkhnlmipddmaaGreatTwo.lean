/- Two rows of integers of a call's own, side by side; an append onto one of them inside a region that draws its order. -/
import Derived.Test.YtafkhnlmipddmaaGreatApp
import Derived.Deep.AppendLies
namespace Go.Proofs.YtafkhnlmipddmaaGreat
open Go.RowKit
set_option linter.unusedVariables false
def intsV (xs : List Int) : List Value := xs.map (Value.int .i64)
def TwoR (e : TypeId) (W : World) (base : Nat) (vx : Value) (xs : List Int) (vy : Value) (ys : List Int) : Prop :=
  W.ownsRow base e 1 vx xs.length (intsV xs) ∧ W.ownsRow base e 1 vy ys.length (intsV ys) ∧ ∀ k, vx.ownBlock = some k → vy.ownBlock ≠ some k
theorem TwoR.kp0 {e : TypeId} {W W' : World} {base : Nat} {vx vy : Value} {xs ys : List Int} (h : TwoR e W base vx xs vy ys) (hk : Kp [] W W') : TwoR e W' base vx xs vy ys :=
  ⟨hk.row h.1 (by simp), hk.row h.2.1 (by simp), h.2.2⟩
theorem TwoR.swap {e : TypeId} {W : World} {base : Nat} {vx vy : Value} {xs ys : List Int} (h : TwoR e W base vx xs vy ys) : TwoR e W base vy ys vx xs := ⟨h.2.1, h.1, fun k hk h2 => h.2.2 k h2 hk⟩
theorem TwoR.nil (e : TypeId) (W : World) (base : Nat) : TwoR e W base (.slice none 0 0) [] (.slice none 0 0) [] := ⟨World.ownsRow_nil _ _ _ _, World.ownsRow_nil _ _ _ _, fun k hk => by simp [Value.ownBlock] at hk⟩
section
variable {P : Program} {w : World} {ops : Array Oper} {o : Oper} {a : Act} {Q : Exit → Act → World → Prop}
theorem step_appI {K : Act → World → Prop} {E : Prop} (hgd : o.guard = none) (s x : Operand) (t : TypeId)
    (ho : o.op = .call { callee := .builtin .append, args := #[s, x], argTypes := #[t, t] })
    (base : Nat) (e : TypeId) (ht : P.underlying t = some (.slice e)) (hinfo : (P.info? e).map (fun i => (i.zero, i.size, i.bytes)) = some (some (.int .i64 0), 1, 8))
    (v : Value) (xs : List Int) (n : Nat) (hn : xs.length = n) (hs : a.eval s = v) (hown : w.ownsRow base e 1 v n (intsV xs))
    (G C : Nat) (z : Int) (hx : a.eval x = .slice (some ⟨G, 0, none⟩) 1 C) (hc : w.cell? ⟨G, 0, none⟩ = some (.int .i64 z))
    (hbytes : (n + 1) * 8 ≤ 140737488355328) (hbase : base ≤ w.heap.size)
    (h : ∀ g c w', (∀ vy ys, TwoR e w base v xs vy ys → TwoR e w' base (.slice (some ⟨g, 0, none⟩) (n + 1) c) (xs ++ [z]) vy ys) → (∀ w0, w0.heap.size ≤ base → Kp [] w0 w → Kp [] w0 w') → Kp v.ownBlock.toList w w' → K (a.put o.dst (.slice (some ⟨g, 0, none⟩) (n + 1) c)) w') :
    if Region.wanted o (yielded ops a.tmps) = true then Oper.wp P o a w K Q else E := by
  obtain ⟨i, hi, hz, hsize, hby⟩ := info_parts hinfo
  subst hn
  refine step_append_lies w hgd s x t ho base e i (.int .i64 0) 1 8 ht hi hz hsize hby rfl (by decide) v xs.length (intsV xs) hs hown ⟨G, 0, none⟩ 1 C [.int .i64 z] hx rfl (by
    intro j u hu
    rcases j with _ | j
    · rw [add_lit]; cases hu; exact hc
    · simp at hu) (by intro u hu; simp at hu; subst hu; rfl) (by decide) (by unfold maxLen; omega) hbytes hbase w.heap.size rfl ?_
  intro g c w' h1 h2 h3 h4
  have hk : Kp v.ownBlock.toList w w' := Kp.grown (Kp.refl _ _) h2 (fun k hk => .inl (by rw [hk]; simp))
  refine h g c w' (fun vy ys hT => ⟨by simpa [intsV] using h1, hk.row hT.2.1 (fun s hs e => ?_), fun k hk2 e => ?_⟩) (fun w0 h0 hk0 => Kp.grown hk0 h2 (fun k hk' => .inr (by have := own_ge hown k hk'; omega))) hk
  · exact hT.2.2 s (by simpa using hs) e
  · have e2 : g = k := by simpa [Value.ownBlock] using hk2
    subst e2
    rcases h3 with h3 | h3
    · exact hT.2.2 g h3 e
    · have := (hT.2.1.lt g e).2; omega
end
end Go.Proofs.YtafkhnlmipddmaaGreat

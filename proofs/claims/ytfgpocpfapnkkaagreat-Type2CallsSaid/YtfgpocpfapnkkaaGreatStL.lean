/- stack: what Do does, in plain Lean (doM), and Do's contract, operator by operator. -/
import Derived.Test.YtfgpocpfapnkkaaGreatStK
import Derived.Test.YtfgpocpfapnkkaaGreatStR
namespace Go.Proofs.YtfgpocpfapnkkaaGreat
open Go.RowKit
set_option linter.unusedVariables false
set_option linter.unusedSimpArgs false
def needM (op : Int) : Nat := if op = 23 then 0 else if op = 22 then 4 else if op = 9 ∨ op = 14 ∨ op = 26 ∨ op = 5 ∨ op = 18 ∨ op = 27 ∨ op = 29 ∨ op = 21 then 1 else 2
instance (op : Int) : Decidable (isNum op) := by unfold isNum; infer_instance
instance (op : Int) : Decidable (isMov op) := by unfold isMov; infer_instance
/-- What an operator makes of the numbers below (lo) and those that it needs (hi). -/
noncomputable def stepM (op : Int) (lo hi l st dr : List Int) : Int × List Int × List Int × List Int :=
  let a := hi.getD 0 0
  let b := hi.getD 1 0
  if isNum op then
    (let r := numOp op a (hi.getD (needM op - 1) 0)
     if r.2 = 0 then (0, lo ++ [r.1], st, dr) else (r.2, l, st, dr))
  else if op = 18 then (0, lo, st, dr)
  else if op = 27 then (if 48 < lo.length + 2 then (170, l, st, dr) else (0, lo ++ [a, a], st, dr))
  else if op = 28 then (0, lo ++ [b, a], st, dr)
  else if op = 22 then (0, lo ++ [if hi.getD 2 0 ≤ hi.getD 3 0 then a else b], st, dr)
  else if op = 29 then (if max (a / 65536) 0 < lo.length then (0, lo ++ [lo.getD (lo.length - 1 - (max (a / 65536) 0).toNat) 0], st, dr) else (170, l, st, dr))
  else if op = 30 then
    (if a / 65536 < 0 ∨ (lo.length : Int) < a / 65536 then (170, l, st, dr) else if a / 65536 = 0 then (0, lo, st, dr)
     else (0, rollL lo (a / 65536).toNat (((b / 65536).tmod (a / 65536) + a / 65536).tmod (a / 65536)).toNat, st, dr))
  else if op = 20 then (if 0 ≤ b / 65536 ∧ b / 65536 < 32 then (0, lo, st.set (b / 65536).toNat a, dr) else (170, l, st, dr))
  else if op = 21 then (if 0 ≤ a / 65536 ∧ a / 65536 < 32 then (0, lo ++ [st.getD (a / 65536).toNat 0], st, dr) else (170, l, st, dr))
  else if lo.length = 48 then (170, l, st, dr)
  else (0, lo ++ [match dr with | [] => 65536 | d :: _ => 1 + d % 65536], st, dr.tail)
noncomputable def doM (op : Int) (l st dr : List Int) : Int × List Int × List Int × List Int :=
  if ¬ isNum op ∧ ¬ isMov op then (1, l, st, dr)
  else if l.length < needM op then (170, l, st, dr)
  else stepM op (l.take (l.length - needM op)) (l.drop (l.length - needM op)) l st dr
/-- What Do leaves. -/
def DoPost (w : World) (s base : Nat) (vl vd : Value) (r : Int × List Int × List Int × List Int) (e : Ending) (w' : World) : Prop :=
  e = .returned (.int .i64 r.1) ∧ ∃ vl' vd', StS w' s base vl' r.2.1 r.2.2.1 vd' r.2.2.2 ∧ StK w w' s vl vl' ∧ KV vd vd'
theorem DoPost.same {w w' : World} {s base : Nat} {vl vd : Value} {l st dr : List Int} (h : StS w s base vl l st vd dr) (hk : Kp [] w w') (er : Int) : DoPost w s base vl vd (er, l, st, dr) (.returned (.int .i64 er)) w' :=
  ⟨rfl, vl, vd, h.kp0 hk, StK.of_kp s vl hk, KV.refl vd⟩
theorem StS.form {w : World} {s base : Nat} {vl vd : Value} {l st dr : List Int} (h : StS w s base vl l st vd dr) (hl : l ≠ []) : ∃ g c, vl = .slice (some ⟨g, 0, none⟩) l.length c ∧ l.length ≤ c ∧ c ≤ maxLen := by
  rcases h.2.2.2.1 with ⟨_, h0⟩ | ⟨g, cap, cur, rfl, h1, h2, h3, h4, h5, h6⟩
  · exact absurd h0 hl
  · exact ⟨g, cap, rfl, h3, h4⟩
theorem StS.nums {w : World} {s base g n c : Nat} {vd : Value} {l st dr : List Int} (h : StS w s base (.slice (some ⟨g, 0, none⟩) n c) l st vd dr) (i : Nat) (hi : i < l.length) : w.cell? ⟨g, i, none⟩ = some (.int .i64 (l.getD i 0)) := by
  rcases h.2.2.2.1 with ⟨h0, _⟩ | ⟨g', cap, cur, hv, h1, h2, h3, h4, h5, h6⟩
  · cases h0
  · cases hv
    rw [cell_of_row w _ _ _ _ _ h2, ← Array.getElem?_toList, take_getD h6 i hi]
theorem StS.low {w : World} {s base g n c : Nat} {vd : Value} {lo hi st dr : List Int} (h : StS w s base (.slice (some ⟨g, 0, none⟩) n c) (lo ++ hi) st vd dr) (hl : lo.length ≤ 100) : FullR w (.slice (some ⟨g, 0, none⟩) lo.length lo.length) lo :=
  .inr ⟨g, rfl, by unfold maxLen; omega, fun i hi' => by
    rw [h.nums i (by simp; omega), List.getD_eq_getElem?_getD, List.getElem?_append_left hi', ← List.getD_eq_getElem?_getD]⟩
theorem StS.hi {w : World} {s base g n c : Nat} {vd : Value} {lo hi st dr : List Int} (h : StS w s base (.slice (some ⟨g, 0, none⟩) n c) (lo ++ hi) st vd dr) (i : Nat) (hi' : i < hi.length) : w.cell? ⟨g, lo.length + i, none⟩ = some (.int .i64 (hi.getD i 0)) := by
  rw [h.nums (lo.length + i) (by simp; omega), List.getD_eq_getElem?_getD, List.getElem?_append_right (by omega), show lo.length + i - lo.length = i by omega, ← List.getD_eq_getElem?_getD]
theorem mov_fin {w w1 w2 : World} {s base : Nat} {vl vd v' : Value} {l l' st dr : List Int} (h : StS w s base vl l st vd dr) (hk1 : Kp [] w w1) (ho : OwnC w2 w1.heap.size 3 v' l') (hk2 : Kp [] w1 w2) :
    OwnC w2 base 3 v' l' ∧ v'.ownBlock ≠ some s ∧ (∀ b, blockOf vd = some b → v'.ownBlock ≠ some b) ∧ (∀ b, v'.ownBlock = some b → vl.ownBlock = some b ∨ w.heap.size ≤ b) ∧ StS w2 s base vl l st vd dr ∧ Kp [s] w1 w2 ∧ KV vd vd := by
  have hs := h.lt
  have hb := h.2.2.1
  have hsz := hk1.size
  refine ⟨OwnC_mono ho (by omega), fun e => ?_, fun b hb e => ?_, fun b e => .inr ?_, (h.kp0 hk1).kp0 hk2, hk2.more (fun t ht => nomatch ht), KV.refl vd⟩
  · have := (ho.lt s e).1; omega
  · have := (ho.lt b e).1; have := (h.2.2.2.2.2.2 b hb).2.2.2; omega
  · have := (ho.lt b e).1; omega
theorem mov_low {w w1 w2 : World} {s base g c : Nat} {vd : Value} {lo hi st dr : List Int} (n : Nat) (hn : n = (lo ++ hi).length) (h : StS w s base (.slice (some ⟨g, 0, none⟩) n c) (lo ++ hi) st vd dr) (hk1 : Kp [] w w1) (hk2 : Kp [] w1 w2) :
    OwnC w2 base 3 (.slice (some ⟨g, 0, none⟩) lo.length lo.length) lo ∧ (.slice (some ⟨g, 0, none⟩) lo.length lo.length : Value).ownBlock ≠ some s ∧ (∀ b, blockOf vd = some b → (.slice (some ⟨g, 0, none⟩) lo.length lo.length : Value).ownBlock ≠ some b) ∧
      (∀ b, (.slice (some ⟨g, 0, none⟩) lo.length lo.length : Value).ownBlock = some b → (.slice (some ⟨g, 0, none⟩) n c : Value).ownBlock = some b ∨ w.heap.size ≤ b) ∧ StS w2 s base (.slice (some ⟨g, 0, none⟩) n c) (lo ++ hi) st vd dr ∧ Kp [s] w1 w2 ∧ KV vd vd := by
  subst hn
  have h2 := (h.kp0 hk1).kp0 hk2
  have hc := h2.2.2.2.1.clip lo.length (by simp)
  rw [show (lo ++ hi).take lo.length = lo by simp] at hc
  exact ⟨hc, h.2.2.2.2.1, fun b hb => (h.2.2.2.2.2.2 b hb).2.1, fun b e => .inl e, h2, hk2.more (fun t ht => nomatch ht), KV.refl vd⟩
theorem take_low (lo hi : List Int) (k : Nat) (hk : hi.length = k) : (lo ++ hi).take ((lo ++ hi).length - k) = lo ∧ (lo ++ hi).drop ((lo ++ hi).length - k) = hi := by
  have : (lo ++ hi).length - k = lo.length := by simp; omega
  rw [this]; simp
theorem doM_at (op : Int) (lo hi st dr : List Int) (hop : isNum op ∨ isMov op) (hk : hi.length = needM op) : doM op (lo ++ hi) st dr = stepM op lo hi (lo ++ hi) st dr := by
  unfold doM
  rw [if_neg (fun h => hop.elim h.1 h.2), if_neg (by simp; omega), (take_low lo hi _ hk).1, (take_low lo hi _ hk).2]
theorem split_hi (l : List Int) (k : Nat) (h : k ≤ l.length) : ∃ lo hi, l = lo ++ hi ∧ hi.length = k := ⟨l.take (l.length - k), l.drop (l.length - k), by simp, by simp; omega⟩
end Go.Proofs.YtfgpocpfapnkkaaGreat

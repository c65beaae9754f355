/- A row of integers that the program holds for itself, with or without room (OwnC); append onto it; the block of a Stack (StS). -/
import Derived.Test.YtfgpocpfapnkkaaGreatApp
import Derived.Test.YtfgpocpfapnkkaaGreatQuiet
import Derived.ArgAppend
import Derived.Lib.Hide
import Derived.WalkKit
import Derived.ProofKit
namespace Go.Proofs.YtfgpocpfapnkkaaGreat
open Go.RowKit
set_option linter.unusedVariables false
set_option linter.unusedSimpArgs false
/-- nil, or a row in a block of one's own that begins there; cells behind the capacity may lie in the block. -/
def OwnC (w : World) (base : Nat) (e : TypeId) (v : Value) (l : List Int) : Prop :=
  (v = .slice none 0 0 ∧ l = []) ∨
  ∃ g cap cur, v = .slice (some ⟨g, 0, none⟩) l.length cap ∧ base ≤ g ∧ w.heap[g]? = some (.cells cur e (0, 0)) ∧ l.length ≤ cap ∧ cap ≤ maxLen ∧ cap ≤ cur.size ∧ cur.toList.take l.length = l.map (Value.int .i64)
theorem OwnC.kp {S : List Nat} {w w' : World} {base : Nat} {e : TypeId} {v : Value} {l : List Int} (h : OwnC w base e v l) (hk : Kp S w w') (hS : ∀ s ∈ S, v.ownBlock ≠ some s) : OwnC w' base e v l := by
  rcases h with h | ⟨g, cap, cur, rfl, h1, h2, h3⟩
  · exact .inl h
  · exact .inr ⟨g, cap, cur, rfl, h1, hk.heap h2 (fun hs => hS g hs rfl), h3⟩
theorem OwnC.form {w : World} {base : Nat} {e : TypeId} {v : Value} {l : List Int} (h : OwnC w base e v l) : ∃ p c, v = .slice p l.length c := by
  rcases h with ⟨rfl, rfl⟩ | ⟨g, cap, cur, rfl, _⟩
  · exact ⟨_, _, rfl⟩
  · exact ⟨_, _, rfl⟩
theorem OwnC.lt {w : World} {base : Nat} {e : TypeId} {v : Value} {l : List Int} (h : OwnC w base e v l) (b : Nat) (hb : v.ownBlock = some b) : base ≤ b ∧ b < w.heap.size := by
  rcases h with ⟨rfl, rfl⟩ | ⟨g, cap, cur, rfl, h1, h2, _⟩
  · simp [Value.ownBlock] at hb
  · simp [Value.ownBlock] at hb; subst hb; exact ⟨h1, lt_of_block h2⟩
theorem take_getD {cur : List Value} {l : List Int} (h : cur.take l.length = l.map (Value.int .i64)) (i : Nat) (hi : i < l.length) : cur[i]? = some (.int .i64 (l.getD i 0)) := by
  have e : (cur.take l.length)[i]? = (l.map (Value.int .i64))[i]? := by rw [h]
  rw [List.getElem?_take_of_lt hi, List.getElem?_map, List.getElem?_eq_getElem hi] at e
  rw [e, List.getD_eq_getElem?_getD, List.getElem?_eq_getElem hi]; rfl
theorem OwnC.ints {w : World} {base : Nat} {e : TypeId} {v : Value} {l : List Int} (h : OwnC w base e v l) : IsInts .i64 w v l := by
  rcases h with ⟨rfl, rfl⟩ | ⟨g, cap, cur, rfl, h1, h2, h3, h4, h5, h6⟩
  · exact .inl ⟨⟨_, rfl⟩, rfl⟩
  · refine .inr ⟨g, 0, cap, rfl, h3, h4, fun i hi => ?_⟩
    rw [Nat.zero_add, cell_of_row w g i _ _ _ h2, ← Array.getElem?_toList, take_getD h6 i hi]
theorem OwnC.owned {w : World} {b0 base : Nat} {e : TypeId} {v : Value} {n : Nat} {l : List Int} (hb : base ≤ b0) (hn : n = l.length) (h : w.ownsRow b0 e 1 v n (l.map (Value.int .i64))) : OwnC w base e v l := by
  subst hn
  rcases h.2 with ⟨rfl, h0⟩ | ⟨g, cap, cur, rfl, h1, h2, h3, h4, h5, h6⟩
  · exact .inl ⟨rfl, List.eq_nil_of_length_eq_zero h0⟩
  · exact .inr ⟨g, cap, cur, rfl, by omega, h2, h3, h4, by omega, by simpa using h6⟩
/-- The row without its last one. -/
theorem OwnC.pop {w : World} {base : Nat} {e : TypeId} {p : Option Addr} {c : Nat} {l : List Int} {x : Int} (h : OwnC w base e (.slice p (l ++ [x]).length c) (l ++ [x])) : OwnC w base e (.slice p l.length c) l := by
  rcases h with ⟨hv, h0⟩ | ⟨g, cap, cur, hv, h1, h2, h3, h4, h5, h6⟩
  · simp at h0
  · cases hv
    refine .inr ⟨g, c, cur, rfl, h1, h2, by simp at h3; omega, h4, h5, ?_⟩
    have : (cur.toList.take (l ++ [x]).length).take l.length = ((l ++ [x]).map (Value.int .i64)).take l.length := by rw [h6]
    rw [List.take_take, List.map_append, List.take_append_of_le_length (by simp), show min l.length (l ++ [x]).length = l.length by simp] at this
    rw [this]; exact List.take_of_length_le (by simp)
/-- The first n of a row, with no room (slices.Clip). -/
theorem OwnC.clip {w : World} {base : Nat} {e : TypeId} {g c : Nat} {l : List Int} (n : Nat) (hn : n ≤ l.length) (h : OwnC w base e (.slice (some ⟨g, 0, none⟩) l.length c) l) : OwnC w base e (.slice (some ⟨g, 0, none⟩) n n) (l.take n) := by
  rcases h with ⟨hv, h0⟩ | ⟨g', cap, cur, hv, h1, h2, h3, h4, h5, h6⟩
  · cases hv
  · cases hv
    have hl : (l.take n).length = n := by simp; omega
    refine .inr ⟨g, n, cur, by rw [hl], h1, h2, by omega, by omega, by omega, ?_⟩
    have : (cur.toList.take l.length).take n = (l.map (Value.int .i64)).take n := by rw [h6]
    rw [List.take_take, show min n l.length = n by omega] at this
    rw [hl, this, List.map_take]
section
variable {P : Program} {w : World} {ops : Array Oper} {rest : List Oper} {o : Oper} {a : Act} {Q : Exit → Act → World → Prop}
/-- One more number onto such a row. -/
theorem wpList_push (hgd : o.guard = none) (s x : Operand) (t : TypeId) (ho : o.op = .call { callee := .builtin .append, args := #[s, x], argTypes := #[t, t] })
    (base : Nat) (e : TypeId) (ht : P.underlying t = some (.slice e)) (hinfo : (P.info? e).map (fun i => (i.zero, i.size, i.bytes)) = some (some (.int .i64 0), 1, 8))
    (v : Value) (l : List Int) (y : Int) (hs : a.eval s = v) (hown : OwnC w base e v l) (ad : Addr) (c : Nat) (hx : a.eval x = .slice (some ad) 1 c) (hc : w.cell? ad = some (.int .i64 y)) (hl : l.length < 1000000) (hbase : base ≤ w.heap.size)
    (h : ∀ v' w', OwnC w' base e v' (l ++ [y]) → Kp v.ownBlock.toList w w' → (∀ k, v'.ownBlock = some k → v.ownBlock = some k ∨ w.heap.size ≤ k) → wpList P ops Q rest (a.put o.dst v') w') : wpList P ops Q (o :: rest) a w := by
  obtain ⟨i, hi, hz, hsize, hby⟩ := info_parts hinfo
  have hcs : ∀ j u, ([Value.int .i64 y] : List Value)[j]? = some u → w.cell? (ad.add j) = some u := fun j u hj => by
    have : j = 0 := by have := (List.getElem?_eq_some_iff.1 hj).1; simp at this; exact this
    subst this
    simp at hj; subst hj
    have : ad.add 0 = ad := by unfold Addr.add; split <;> simp_all
    rw [this]; exact hc
  have fin : ∀ v' w', w'.ownsRow w.heap.size e 1 v' (l.length + 1) (l.map (Value.int .i64) ++ [.int .i64 y]) → w.grownBy w' none → wpList P ops Q rest (a.put o.dst v') w' := fun v' w' h1 h2 => by
    refine h v' w' (OwnC.owned (n := l.length + 1) hbase (by simp) (by simpa using h1)) (Kp.grown (Kp.refl _ _) h2 (fun k hk => by cases hk)) (fun k hk => .inr (h1.lt k hk).1)
  rcases hown with ⟨rfl, rfl⟩ | ⟨g, cap, cur, rfl, h1, h2, h3, h4, h5, h6⟩
  · exact wpList_append_grows w hgd s x t ho e i (.int .i64 0) 1 8 ht hi hz hsize hby rfl (by decide) none 0 0 [] hs (fun _ => ⟨rfl, rfl⟩) rfl (fun b hb => by cases hb) ad 1 c [.int .i64 y] hx rfl hcs (by simp [Value.oneCell']) (by decide) (by unfold maxLen; decide) (by decide) fin
  · refine wpList_append_arg w hgd s x t ho e i (.int .i64 0) 1 8 ht hi hz hsize hby rfl (by decide) g 0 l.length cap (l.map (Value.int .i64)) hs (by simp) (fun j u hj => ?_) ad 1 c [.int .i64 y] hx rfl hcs (by simp [Value.oneCell']) (fun hr j hj => ?_) (by unfold maxLen; omega) (by omega) (fun hr => ?_) (fun _ => fin)
    · have hjl : j < l.length := by have := (List.getElem?_eq_some_iff.1 hj).1; simpa using this
      rw [Nat.zero_add, cell_of_row w g j _ _ _ h2, ← Array.getElem?_toList, take_getD h6 j hjl]
      rw [List.getElem?_map, List.getElem?_eq_getElem hjl] at hj
      rw [List.getD_eq_getElem?_getD, List.getElem?_eq_getElem hjl]; exact hj
    · have hj0 : j = 0 := by simpa using hj
      subst hj0
      have : l.length < cur.size := by omega
      rw [cell_of_row w g _ _ _ _ h2, Array.getElem?_eq_getElem (by omega)]
      exact ⟨rfl, frozen_of_row w g _ _ _ h2⟩
    · have hw : w.setCells g (0 + l.length * 1) [Value.int .i64 y] = w.setCell ⟨g, l.length, none⟩ (.int .i64 y) := by
        rw [show 0 + l.length * 1 = l.length by omega]; rfl
      rw [hw]
      have hb := heap_setCell_same w g l.length _ _ (.int .i64 y) h2
      refine h _ _ (.inr ⟨g, cap, _, by simp, h1, hb, by simp; omega, h4, by simp; omega, ?_⟩) ((Kp.refl _ _).setCell (.inl (by simp [Value.ownBlock])) _) (fun k hk => .inl hk)
      have hlt : l.length < cur.toList.length := by simp; omega
      simp only [Array.toList_setIfInBounds, List.length_append, List.length_singleton, List.map_append, List.map_cons, List.map_nil]
      rw [List.take_add_one, List.take_set_of_le (Nat.le_refl _), h6, List.getElem?_set_self hlt]; rfl
end
/-- Where a Stack lies in memory. -/
def StS (w : World) (s base : Nat) (vl : Value) (l st : List Int) (vd : Value) (dr : List Int) : Prop :=
  w.heap[s]? = some (.cells (vl :: (st.map (Value.int .i64) ++ [vd])).toArray 61 (0, 0)) ∧ st.length = 32 ∧ base ≤ s ∧ OwnC w base 3 vl l ∧ vl.ownBlock ≠ some s ∧
  IsInts .i64 w vd dr ∧ ∀ b, blockOf vd = some b → b ≠ s ∧ vl.ownBlock ≠ some b ∧ base ≤ b ∧ b < w.heap.size
end Go.Proofs.YtfgpocpfapnkkaaGreat

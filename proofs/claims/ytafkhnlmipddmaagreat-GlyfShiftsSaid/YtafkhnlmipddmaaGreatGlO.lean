/- glyf: a row of glyphs' bytes that grows (all of its cells are rows: so no glyph's bytes lie in it). -/
import Derived.Test.YtafkhnlmipddmaaGreatGlI
import Derived.Lib.AppendZeros
import Derived.Laws.AppendOwn
import Derived.Deep.DeepCutAuto
namespace Go.Proofs.YtafkhnlmipddmaaGreat
open Go.RowKit
set_option linter.unusedVariables false
set_option linter.unusedSimpArgs false
def allS (cur : Array Value) : Prop := ∀ x ∈ cur.toList, ∃ a n c, x = .slice a n c
def RowV (w : World) (base : Nat) (v : Value) (xs : List Value) : Prop :=
  ∃ g cap cur, v = .slice (some ⟨g, 0, none⟩) xs.length cap ∧ base ≤ g ∧ w.heap[g]? = some (.cells cur 25 (0, 0)) ∧ xs.length ≤ cap ∧ cap ≤ maxLen ∧ cur.size = cap ∧ cur.toList.take xs.length = xs ∧ allS cur
theorem RowV.kp0 {w w' : World} {base : Nat} {v : Value} {xs : List Value} (h : RowV w base v xs) (hk : Kp [] w w') : RowV w' base v xs := by
  obtain ⟨g, cap, cur, h1, h2, h3, h4⟩ := h
  exact ⟨g, cap, cur, h1, h2, hk.heap h3 (by simp), h4⟩
theorem RowV.reads {w : World} {base : Nat} {v : Value} {xs : List Value} (h : RowV w base v xs) : Reads 1 w v xs.length xs := by
  obtain ⟨g, cap, cur, rfl, h2, h3, h4, h5, h6, h7, h8⟩ := h
  refine ⟨by omega, .inr ⟨g, 0, cap, rfl, h4, h5, fun j u hu => ?_⟩⟩
  rw [Nat.zero_add, cell_of_row w g j cur _ (0, 0) h3]
  rw [← h7, List.getElem?_take] at hu
  split at hu
  · simpa using hu
  · cases hu
/-- Bytes are as they were behind a change of a block whose cells are rows. -/
theorem ints_apart {w w' : World} {g : Nat} {cur : Array Value} {e : TypeId} {f : Nat × Nat} {u : Value} {d : List Int} (h : IsInts .u8 w u d) (hg : w.heap[g]? = some (.cells cur e f)) (ha : allS cur) (hk : Kp [g] w w') : IsInts .u8 w' u d := by
  rcases h with h | ⟨g', off, c, rfl, h1, h2, h3⟩
  · exact .inl h
  · refine .inr ⟨g', off, c, rfl, h1, h2, fun i hi => hk.cell (h3 i hi) ?_⟩
    simp only [List.mem_singleton]
    rintro rfl
    have h4 := h3 i hi
    rw [cell_of_row w g' _ cur e f hg] at h4
    obtain ⟨a, n, c2, h5⟩ := ha _ (by
      rw [← Array.getElem?_toList] at h4
      exact List.mem_of_getElem? h4)
    cases h5
theorem kp_grown {w w' : World} {r : Option Nat} (h : w.grownBy w' r) : Kp r.toList w w' := Kp.grown (Kp.refl _ _) h (fun k hk => .inl (by rw [hk]; simp))
theorem zero_slc : ∀ k, ∀ x ∈ (Builtin.zeroCells (Value.slice none 0 0).cells k).toList, ∃ a n c, x = .slice a n c := by
  intro k x hx
  obtain ⟨i, hi, rfl⟩ := List.mem_iff_getElem.1 hx
  simp [Builtin.zeroCells, Value.cells, Nat.mod_one]
section
variable {P : Program} (w : World)
theorem run_appV (base : Nat) (t ty : TypeId) (i : TypeInfo) (ht : P.underlying t = some (.slice 25)) (hi : P.info? 25 = some i) (hz : i.zero = some (.slice none 0 0)) (hsize : i.size = 1) (hby : i.bytes = 24)
    (v : Value) (xs : List Value) (hr : RowV w base v xs) (A : Addr) (p : Option Addr) (n c : Nat) (hA : w.cell? A = some (.slice p n c)) (hb : xs.length ≤ 1048576) (hbase : base ≤ w.heap.size) :
    ∃ v' w', (Builtin.append_ #[t, t] ty #[v, .slice (some A) 1 1]).run P w = .ok v' w' ∧ RowV w' base v' (xs ++ [.slice p n c]) ∧ Kp v.ownBlock.toList w w' := by
  obtain ⟨g, cap, cur, rfl, h2, h3, h4, h5, h6, h7, h8⟩ := hr
  have hnews : ∀ j u, [Value.slice p n c][j]? = some u → w.cell? (A.add j) = some u := fun j u hu => by
    cases j with
    | zero => simp at hu; subst hu; rw [show A.add 0 = A by unfold Addr.add; cases A; split <;> simp_all]; exact hA
    | succ j => simp at hu
  have hlen : (xs ++ [Value.slice p n c]).length = xs.length + 1 := by simp
  by_cases hroom : xs.length + 1 ≤ cap
  · have hrun := run_append_room (P := P) w t ty 25 i ht hi g xs.length cap cur h3 A 1 1 [.slice p n c] (by rw [hsize]; rfl) hnews (by simp [Value.oneCell']) hroom (by rw [hsize, h6]; simp; omega)
    rw [hsize, Nat.mul_one] at hrun
    refine ⟨_, _, hrun, ⟨g, cap, _, by rw [hlen], h2, setRow_heap w g cur _ _ _ h3, by rw [hlen]; exact hroom, h5, ?_, ?_, ?_⟩, kp_grown ⟨rfl, rfl, rfl, by simp, fun k _ hk => setRow_other w g k _ (fun e => hk (by simp [Value.ownBlock, e]))⟩⟩
    · simp only [List.size_toArray, List.length_append, List.length_take, List.length_drop, Array.length_toList, List.length_singleton]; omega
    · rw [h7]
      exact List.take_left
    · intro x hx
      simp only [List.mem_append, List.mem_singleton] at hx
      rcases hx with (hx | rfl) | hx
      · exact h8 x (List.mem_of_mem_take hx)
      · exact ⟨_, _, _, rfl⟩
      · exact h8 x (List.mem_of_mem_drop hx)
  · have holds : ∀ j u, xs[j]? = some u → w.cell? ((⟨g, 0, none⟩ : Addr).add j) = some u := fun j u hu => by
      rw [add_lit, Nat.zero_add, cell_of_row w g j cur _ (0, 0) h3]
      rw [← h7, List.getElem?_take] at hu
      split at hu
      · simpa using hu
      · cases hu
    have hrun := run_append_grow (P := P) w t ty 25 i _ ht hi hz ⟨g, 0, none⟩ xs.length cap xs (by rw [hsize, Nat.mul_one]) holds A 1 1 [.slice p n c] (by rw [hsize]; rfl) hnews (by omega) (by omega) (growslice_fits (by omega) (by rw [hby]; omega))
    have hge := grownCap_ge w (xs.length + 1) cap 25
    have hcm := grownCap_le_maxLen w (xs.length + 1) cap 25 (by unfold maxLen; omega)
    refine ⟨_, _, hrun, ⟨w.heap.size, _, _, by rw [hlen], hbase, heap_alloc_new w.drew _, by rw [hlen]; exact hge, hcm, ?_, ?_, ?_⟩, ?_⟩
    · simp only [Array.size_append, List.size_toArray, size_zeroCells, List.length_singleton, Value.cells]
      simp
      omega
    · simp only [Array.toList_append, List.append_assoc]
      rw [← List.append_assoc]
      exact List.take_left
    · intro x hx
      simp only [Array.toList_append, List.mem_append, List.mem_singleton] at hx
      rcases hx with (hx | rfl) | hx
      · have : x ∈ cur.toList.take xs.length := by rw [h7]; exact hx
        exact h8 x (List.mem_of_mem_take this)
      · exact ⟨_, _, _, rfl⟩
      · exact zero_slc _ x hx
    · have hgr : ∀ ob, w.grownBy (w.drew.alloc ob) none := fun ob => ⟨rfl, rfl, rfl, by simp, fun k hk _ => heap_alloc_old w.drew ob hk⟩
      exact (Kp.grown (Kp.refl [] _) (hgr _) (by simp)).more (by simp)
theorem wpList_appV {ops : Array Oper} {rest : List Oper} {o : Oper} {a : Act} {Q : Exit → Act → World → Prop} (hgd : o.guard = none) (s x : Operand) (t : TypeId)
    (ho : o.op = .call { callee := .builtin .append, args := #[s, x], argTypes := #[t, t] })
    (base : Nat) (i : TypeInfo) (ht : P.underlying t = some (.slice 25)) (hi : P.info? 25 = some i) (hz : i.zero = some (.slice none 0 0)) (hsize : i.size = 1) (hby : i.bytes = 24)
    (v : Value) (xs : List Value) (hs : a.eval s = v) (hr : RowV w base v xs) (A : Addr) (p : Option Addr) (n c : Nat) (hx : a.eval x = .slice (some A) 1 1) (hA : w.cell? A = some (.slice p n c)) (hb : xs.length ≤ 1048576) (hbase : base ≤ w.heap.size)
    (h : ∀ v' w', RowV w' base v' (xs ++ [.slice p n c]) → Kp v.ownBlock.toList w w' → wpList P ops Q rest (a.put o.dst v') w') : wpList P ops Q (o :: rest) a w := by
  obtain ⟨v', w', h1, h2, h3⟩ := run_appV (P := P) w base t o.type i ht hi hz hsize hby v xs hr A p n c hA hb hbase
  exact Lib.wpList_append_run w hgd s x t t ho v _ hs hx v' w' h1 (h v' w' h2 h3)
end
/-- Glyphs' bytes as the law builds them. -/
def WBs (w : World) (base : Nat) (v : Value) (o : List (List Int)) : Prop := ∃ vs : List Value, RowV w base v vs ∧ vs.length = o.length ∧ ∀ i, i < o.length → IsInts .u8 w (vs.getD i (.slice none 0 0)) (o.getD i [])
theorem WBs.kp0 {w w' : World} {base : Nat} {v : Value} {o : List (List Int)} (h : WBs w base v o) (hk : Kp [] w w') : WBs w' base v o := by
  obtain ⟨vs, h1, h2, h3⟩ := h
  exact ⟨vs, h1.kp0 hk, h2, fun i hi => (h3 i hi).kp hk (by simp)⟩
theorem WBs.is {w : World} {base : Nat} {v : Value} {o : List (List Int)} (h : WBs w base v o) : IsBs w v o := by
  obtain ⟨vs, h1, h2, h3⟩ := h
  exact ⟨vs, by rw [← h2]; exact h1.reads, h3⟩
theorem WBs.form {w : World} {base : Nat} {v : Value} {o : List (List Int)} (h : WBs w base v o) : ∃ g c, v = .slice (some ⟨g, 0, none⟩) o.length c ∧ base ≤ g ∧ g < w.heap.size := by
  obtain ⟨vs, ⟨g, cap, cur, rfl, h4, h5, _⟩, h2, h3⟩ := h
  exact ⟨g, cap, by rw [h2], h4, lt_of_block h5⟩
theorem WBs.push {w w' : World} {base : Nat} {v v' : Value} {vs : List Value} {o : List (List Int)} {b : List Int} {u : Value} (h : RowV w base v vs) (h2 : vs.length = o.length) (h3 : ∀ i, i < o.length → IsInts .u8 w (vs.getD i (.slice none 0 0)) (o.getD i []))
    (hu : IsInts .u8 w u b) (hr : RowV w' base v' (vs ++ [u])) (hk : Kp v.ownBlock.toList w w') : WBs w' base v' (o ++ [b]) := by
  obtain ⟨g, cap, cur, rfl, h4, h5, _, _, _, _, h8⟩ := h
  have key : ∀ u d, IsInts .u8 w u d → IsInts .u8 w' u d := fun u d hd => ints_apart hd h5 h8 (by simpa [Value.ownBlock] using hk)
  refine ⟨vs ++ [u], hr, by simp [h2], fun i hi => ?_⟩
  by_cases e : i = o.length
  · subst e
    rw [List.getD_eq_getElem?_getD, List.getElem?_append_right (by omega), h2, List.getD_eq_getElem?_getD (l := o ++ [b]), List.getElem?_append_right (by omega)]
    simpa using key u b hu
  · have hi2 : i < o.length := by simp at hi; omega
    rw [List.getD_eq_getElem?_getD, List.getElem?_append_left (by omega), ← List.getD_eq_getElem?_getD, List.getD_eq_getElem?_getD (l := o ++ [b]), List.getElem?_append_left (by omega), ← List.getD_eq_getElem?_getD]
    exact key _ _ (h3 i hi2)
theorem infoSl : (Tryz.prog.info? 25).map (fun i => (i.zero, i.size, i.bytes)) = some (some (.slice none 0 0), 1, 24) := by kernel_rfl
theorem allS_set {cur : Array Value} (h : allS cur) (i : Nat) (p : Option Addr) (n c : Nat) : allS (cur.setIfInBounds i (.slice p n c)) := by
  intro x hx
  rw [Array.toList_setIfInBounds] at hx
  rcases List.mem_or_eq_of_mem_set hx with hx | rfl
  · exact h x hx
  · exact ⟨_, _, _, rfl⟩
/-- The first glyph's bytes, anew. -/
theorem WBs.set0 {w : World} {base g c0 : Nat} {b0 b : List Int} {o : List (List Int)} {p : Option Addr} {n c : Nat} (h : WBs w base (.slice (some ⟨g, 0, none⟩) (o.length + 1) c0) (b0 :: o)) (hu : IsInts .u8 w (.slice p n c) b) :
    WBs (w.setCell ⟨g, 0, none⟩ (.slice p n c)) base (.slice (some ⟨g, 0, none⟩) (o.length + 1) c0) (b :: o) ∧ (∃ x, w.cell? ⟨g, 0, none⟩ = some x) ∧ w.frozen? ⟨g, 0, none⟩ = false ∧ Kp [g] w (w.setCell ⟨g, 0, none⟩ (.slice p n c)) := by
  obtain ⟨vs, ⟨g', cap, cur, e1, h2, h3, h4, h5, h6, h7, h8⟩, h9, h10⟩ := h
  have hvl : vs.length = o.length + 1 := by simpa using h9
  obtain ⟨eg, _, ec⟩ : g = g' ∧ o.length + 1 = vs.length ∧ c0 = cap := by simpa using e1
  subst eg ec
  have hk : Kp [g] w (w.setCell ⟨g, 0, none⟩ (.slice p n c)) := Kp.setCell (Kp.refl _ _) (.inl (by simp)) _
  have hcs : 0 < cur.size := by omega
  refine ⟨⟨vs.set 0 (.slice p n c), ⟨g, c0, cur.setIfInBounds 0 (.slice p n c), by rw [List.length_set, hvl], h2, heap_setCell_same w g 0 _ _ _ h3, by rw [List.length_set]; exact h4, h5, by simpa using h6, ?_, allS_set h8 0 p n c⟩, by rw [List.length_set, hvl]; rfl, fun i hi => ?_⟩, ⟨cur[0], ?_⟩, frozen_of_row w g 0 _ _ h3, hk⟩
  · rw [List.length_set, Array.toList_setIfInBounds, List.take_set, h7]
  · cases i with
    | zero =>
      rw [List.getD_eq_getElem?_getD, List.getElem?_set_self (by omega)]
      exact ints_apart hu h3 h8 hk
    | succ i =>
      rw [List.getD_eq_getElem?_getD, List.getElem?_set_ne (by omega), ← List.getD_eq_getElem?_getD]
      exact ints_apart (h10 (i + 1) hi) h3 h8 hk
  · rw [cell_of_row w g 0 cur _ _ h3]
    exact Array.getElem?_eq_getElem hcs
end Go.Proofs.YtafkhnlmipddmaaGreat

/- metric.Load: what it makes of bytes, and where it stands in memory. -/
import Derived.Test.YthmokldmdcjklaaWireF
import Derived.Test.YthmokldmdcjklaaPair
import Derived.Deep.RegionLaw
import Derived.Deep.AppendLies
namespace Go.Proofs.Ythmokldmdcjklaa
open Go.RowKit
set_option linter.unusedVariables false
set_option linter.unusedSimpArgs false
theorem infoIntM : (Try.prog.info? 3).map (fun i => (i.zero, i.size, i.bytes)) = some (some (.int .i64 0), 1, 8) := by kernel_rfl
/-- Where glyph i's bytes begin. -/
def kM (m i : Nat) : Nat := 2 * i + 2 * min i m
def metA (zs : List Int) (m i : Nat) : Int := beN (cutB zs (kM m i) 2)
def metB (zs : List Int) (m i : Nat) : Int := s16 (beN (cutB zs (kM m i + if i < m then 2 else 0) 2))
def advsL (zs : List Int) (m j : Nat) : List Int := (List.range (min j m)).map (metA zs m)
def bearsL (zs : List Int) (m j : Nat) : List Int := (List.range j).map (metB zs m)
theorem kM_succ (m j : Nat) : kM m (j + 1) = kM m j + if j < m then 4 else 2 := by
  unfold kM; by_cases h : j < m <;> simp [h] <;> omega
theorem kM_mono (m i j : Nat) (h : i ≤ j) : kM m i ≤ kM m j := by unfold kM; omega
theorem advsL_succ (zs : List Int) (m j : Nat) (h : j < m) : advsL zs m (j + 1) = advsL zs m j ++ [metA zs m j] := by
  unfold advsL; rw [show min (j + 1) m = min j m + 1 by omega, List.range_succ, List.map_append, show min j m = j by omega]; rfl
theorem advsL_same (zs : List Int) (m j : Nat) (h : ¬ j < m) : advsL zs m (j + 1) = advsL zs m j := by
  unfold advsL; rw [show min (j + 1) m = min j m by omega]
theorem bearsL_succ (zs : List Int) (m j : Nat) : bearsL zs m (j + 1) = bearsL zs m j ++ [metB zs m j] := by unfold bearsL; rw [List.range_succ, List.map_append]; rfl
theorem advsL_length (zs : List Int) (m j : Nat) : (advsL zs m j).length = min j m := by simp [advsL]
theorem bearsL_length (zs : List Int) (m j : Nat) : (bearsL zs m j).length = j := by simp [bearsL]
theorem metA_bounds (zs : List Int) (m i : Nat) (hb : ∀ c ∈ zs, 0 ≤ c ∧ c ≤ 255) : 0 ≤ metA zs m i ∧ metA zs m i ≤ 65535 := by
  unfold metA
  have h := beN_lt (cutB zs (kM m i) 2) (cutB_mem _ _ _ hb)
  have hl : (cutB zs (kM m i) 2).length ≤ 2 := by unfold cutB; rw [List.length_take]; omega
  have : (256 ^ (cutB zs (kM m i) 2).length : Nat) ≤ 65536 := Nat.le_trans (Nat.pow_le_pow_right (by decide) hl) (by decide)
  omega
/-- One round's reading: where it goes well, and where it does not. -/
theorem met_round (zs : List Int) (m j : Nat) (h : kM m j ≤ zs.length) :
    (j < m → (rdB zs (rdK zs (kM m j) false 2) (rdB zs (kM m j) false 2) 2 = true → zs.length < kM m (j + 1)) ∧
      (rdB zs (rdK zs (kM m j) false 2) (rdB zs (kM m j) false 2) 2 = false → kM m (j + 1) ≤ zs.length ∧ rdK zs (rdK zs (kM m j) false 2) (rdB zs (kM m j) false 2) 2 = kM m (j + 1) ∧ rdV zs (kM m j) false 2 = metA zs m j ∧ s16 (rdV zs (rdK zs (kM m j) false 2) (rdB zs (kM m j) false 2) 2) = metB zs m j)) ∧
    (¬ j < m → (rdB zs (kM m j) false 2 = true → zs.length < kM m (j + 1)) ∧
      (rdB zs (kM m j) false 2 = false → kM m (j + 1) ≤ zs.length ∧ rdK zs (kM m j) false 2 = kM m (j + 1) ∧ s16 (rdV zs (kM m j) false 2) = metB zs m j)) := by
  constructor
  · intro hj
    have e1 := kM_succ m j
    rw [if_pos hj] at e1
    by_cases h1 : zs.length < kM m j + 2
    · have b1 : rdB zs (kM m j) false 2 = true := by simp [rdB, h1]
      have b2 : rdB zs (rdK zs (kM m j) false 2) true 2 = true := by simp [rdB]
      rw [b1, b2]
      exact ⟨fun _ => by omega, fun h => by cases h⟩
    · have b1 : rdB zs (kM m j) false 2 = false := by simp [rdB]; omega
      have k1 : rdK zs (kM m j) false 2 = kM m j + 2 := by unfold rdK; rw [b1]; rfl
      have v1 : rdV zs (kM m j) false 2 = metA zs m j := by unfold rdV; rw [b1]; rfl
      rw [b1, k1, v1]
      by_cases h2 : zs.length < kM m j + 2 + 2
      · have b2 : rdB zs (kM m j + 2) false 2 = true := by simp [rdB, h2]
        rw [b2]
        exact ⟨fun _ => by omega, fun h => by cases h⟩
      · have b2 : rdB zs (kM m j + 2) false 2 = false := by simp [rdB]; omega
        have k2 : rdK zs (kM m j + 2) false 2 = kM m j + 2 + 2 := by unfold rdK; rw [b2]; rfl
        have v2 : s16 (rdV zs (kM m j + 2) false 2) = metB zs m j := by unfold rdV metB; rw [b2, if_pos hj]; rfl
        rw [b2, k2, v2]
        exact ⟨(fun h => by cases h), fun _ => ⟨by omega, by omega, rfl, rfl⟩⟩
  · intro hj
    have e1 := kM_succ m j
    rw [if_neg hj] at e1
    by_cases h2 : zs.length < kM m j + 2
    · have b2 : rdB zs (kM m j) false 2 = true := by simp [rdB, h2]
      rw [b2]
      exact ⟨fun _ => by omega, fun h => by cases h⟩
    · have b2 : rdB zs (kM m j) false 2 = false := by simp [rdB]; omega
      have k2 : rdK zs (kM m j) false 2 = kM m j + 2 := by unfold rdK; rw [b2]; rfl
      have v2 : s16 (rdV zs (kM m j) false 2) = metB zs m j := by unfold rdV metB; rw [b2, if_neg hj]; rfl
      rw [b2, k2, v2]
      exact ⟨(fun h => by cases h), fun _ => ⟨by omega, by omega, rfl⟩⟩
/-- Where a load stands in memory: the metrics (block q), their two rows, the reader (block r). -/
structure MSt (w wr : World) (r q : Nat) (v : Value) (zs : List Int) (k : Nat) (bad : Bool) (A B : List Int) (va vb : Value) : Prop where
  rd : Rdr wr r v (k : Nat) bad
  obj : wr.heap[q]? = some (.cells #[va, vb] 96 (0, 0))
  ownA : wr.ownsRow (q + 1) 3 1 va A.length (A.map (Value.int .i64))
  ownB : wr.ownsRow (q + 1) 3 1 vb B.length (B.map (Value.int .i64))
  apart : ∀ b, va.ownBlock = some b → vb.ownBlock ≠ some b
  ints : IsInts .u8 wr v zs
  kp : Kp [] w wr
  sz : q < wr.heap.size
  rq : r < q
  wr0 : w.heap.size ≤ r
  vb0 : ∀ b, blockOf v = some b → b < r
theorem MSt.rkp {w wr w2 : World} {r q : Nat} {v : Value} {zs : List Int} {k k2 : Nat} {bad bad2 : Bool} {A B : List Int} {va vb : Value} (h : MSt w wr r q v zs k bad A B va vb) (hk : Kp [r] wr w2) (hr : Rdr w2 r v (k2 : Nat) bad2) : MSt w w2 r q v zs k2 bad2 A B va vb := by
  have hb := h.rq
  have e : ∀ {u : Value} {C : List Int}, wr.ownsRow (q + 1) 3 1 u C.length (C.map (Value.int .i64)) → ∀ s ∈ [r], u.ownBlock ≠ some s := by
    intro u C hu s hs e; simp at hs; subst hs; have := own_ge hu _ e; omega
  exact ⟨hr, hk.heap h.obj (by simp; omega), hk.row h.ownA (e h.ownA), hk.row h.ownB (e h.ownB), h.apart, h.ints.kp hk (fun s hs hz => by simp at hs; subst hs; have := h.vb0 _ hz; omega), h.kp.trans' hk (fun t ht => .inr (by simp at ht; subst ht; exact h.wr0)), Nat.lt_of_lt_of_le h.sz hk.size, h.rq, h.wr0, h.vb0⟩
theorem MSt.drew {w wr w2 : World} {r q : Nat} {v : Value} {zs : List Int} {k : Nat} {bad : Bool} {A B : List Int} {va vb : Value} (h : MSt w wr r q v zs k bad A B va vb) (hk : Kp [] wr w2) : MSt w w2 r q v zs k bad A B va vb :=
  h.rkp (hk.more (fun s hs => nomatch hs)) (h.rd.kp hk (by simp))
theorem MSt.facts {w wr : World} {r q : Nat} {v : Value} {zs : List Int} {k : Nat} {bad : Bool} {A B : List Int} {va vb : Value} (h : MSt w wr r q v zs k bad A B va vb) :
    wr.cell? ⟨q, 0, none⟩ = some va ∧ wr.cell? ⟨q, 1, none⟩ = some vb ∧ wr.frozen? ⟨q, 0, none⟩ = false ∧ wr.frozen? ⟨q, 1, none⟩ = false :=
  ⟨by rw [cell_of_row wr q 0 _ _ _ h.obj]; rfl, by rw [cell_of_row wr q 1 _ _ _ h.obj]; rfl, frozen_of_row wr q 0 _ _ h.obj, frozen_of_row wr q 1 _ _ h.obj⟩
/-- What an append to one of the two rows leaves. -/
theorem MSt.grew {w wr w4 : World} {r q : Nat} {v : Value} {zs : List Int} {k : Nat} {bad : Bool} {A B : List Int} {va vb u : Value} {O : Obj} (h : MSt w wr r q v zs k bad A B va vb) (hu : ∀ b, u.ownBlock = some b → q + 1 ≤ b)
    (hgr : (wr.alloc O).grownBy w4 u.ownBlock) : Kp u.ownBlock.toList wr w4 ∧ w4.heap[q]? = some (.cells #[va, vb] 96 (0, 0)) ∧ q ∉ u.ownBlock.toList ∧ ∀ s ∈ u.ownBlock.toList, q + 1 ≤ s := by
  have hall : ∀ s ∈ u.ownBlock.toList, q + 1 ≤ s := by
    intro s hs; cases hv : u.ownBlock with
    | none => simp [hv] at hs
    | some b => simp [hv] at hs; subst hs; exact hu _ hv
  have hk : Kp u.ownBlock.toList wr w4 := Kp.grown ((Kp.refl _ _).alloc O) hgr (fun k hk => .inl (by rw [hk]; simp))
  have hq : q ∉ u.ownBlock.toList := fun hm => by have := hall _ hm; omega
  exact ⟨hk, hk.heap h.obj hq, hq, hall⟩
theorem MSt.at4 {w wr w4 : World} {r q : Nat} {v : Value} {zs : List Int} {k : Nat} {bad : Bool} {A B : List Int} {va vb u : Value} {O : Obj} (h : MSt w wr r q v zs k bad A B va vb) (hu : ∀ b, u.ownBlock = some b → q + 1 ≤ b)
    (hgr : (wr.alloc O).grownBy w4 u.ownBlock) : w4.cell? ⟨q, 0, none⟩ = some va ∧ w4.cell? ⟨q, 1, none⟩ = some vb ∧ w4.frozen? ⟨q, 0, none⟩ = false ∧ w4.frozen? ⟨q, 1, none⟩ = false := by
  obtain ⟨_, hb, _, _⟩ := h.grew hu hgr
  exact ⟨by rw [cell_of_row w4 q 0 _ _ _ hb]; rfl, by rw [cell_of_row w4 q 1 _ _ _ hb]; rfl, frozen_of_row w4 q 0 _ _ hb, frozen_of_row w4 q 1 _ _ hb⟩
theorem MSt.wroteA {w wr w4 : World} {r q : Nat} {v : Value} {zs : List Int} {k : Nat} {bad : Bool} {A B : List Int} {va vb : Value} {x : Int} {O : Obj} {g4 c4 H : Nat} (h : MSt w wr r q v zs k bad A B va vb)
    (hown : w4.ownsRow (q + 1) 3 1 (.slice (some ⟨g4, 0, none⟩) (A.length + 1) c4) (A.length + 1) (A.map (Value.int .i64) ++ [.int .i64 x])) (hgr : (wr.alloc O).grownBy w4 va.ownBlock) (hat : va.ownBlock = some g4 ∨ g4 = H) (hH : wr.heap.size ≤ H) :
    MSt w (w4.setCell ⟨q, 0, none⟩ (.slice (some ⟨g4, 0, none⟩) (A.length + 1) c4)) r q v zs k bad (A ++ [x]) B (.slice (some ⟨g4, 0, none⟩) (A.length + 1) c4) vb := by
  obtain ⟨hk4, hb, hq, hall⟩ := h.grew (own_ge h.ownA) hgr
  have hk5 : Kp [q] w4 (w4.setCell ⟨q, 0, none⟩ (.slice (some ⟨g4, 0, none⟩) (A.length + 1) c4)) := (Kp.refl _ _).setCell (.inl (by simp)) _
  have hk45 : Kp (q :: va.ownBlock.toList) wr (w4.setCell ⟨q, 0, none⟩ (.slice (some ⟨g4, 0, none⟩) (A.length + 1) c4)) := (hk4.more (fun s hs => .inl (List.mem_cons_of_mem _ hs))).trans (hk5.more (fun s hs => .inl (by simp at hs; simp [hs])))
  have hall2 : ∀ s ∈ q :: va.ownBlock.toList, q ≤ s := by
    intro s hs; rcases List.mem_cons.1 hs with rfl | hs
    · exact Nat.le_refl _
    · have := hall s hs; omega
  have hrq := h.rq
  refine ⟨h.rd.kp hk45 (fun hm => by have := hall2 _ hm; omega), heap_setCell_same w4 q 0 _ _ _ hb, ?_, ?_, ?_, h.ints.kp hk45 (fun s hs e => by have := hall2 s hs; have := h.vb0 _ e; omega), h.kp.trans' hk45 (fun t ht => .inr (by have := hall2 t ht; have := h.wr0; omega)), ?_, h.rq, h.wr0, h.vb0⟩
  · have := hk5.row hown (by intro s hs e; simp at hs; subst hs; have := own_ge hown _ e; omega)
    simpa using this
  · refine hk45.row h.ownB (fun s hs e => ?_)
    rcases List.mem_cons.1 hs with rfl | hs
    · have := own_ge h.ownB _ e; omega
    · cases hv : va.ownBlock with
      | none => simp [hv] at hs
      | some b => simp [hv] at hs; subst hs; exact h.apart _ hv e
  · intro b hb e
    simp [Value.ownBlock] at hb; subst hb
    rcases hat with e2 | e2
    · exact h.apart _ e2 e
    · have := (h.ownB.lt _ e).2; omega
  · have := hk4.size; have := h.sz; simp [World.setCell]; omega
theorem MSt.wroteB {w wr w4 : World} {r q : Nat} {v : Value} {zs : List Int} {k : Nat} {bad : Bool} {A B : List Int} {va vb : Value} {x : Int} {O : Obj} {g4 c4 H : Nat} (h : MSt w wr r q v zs k bad A B va vb)
    (hown : w4.ownsRow (q + 1) 3 1 (.slice (some ⟨g4, 0, none⟩) (B.length + 1) c4) (B.length + 1) (B.map (Value.int .i64) ++ [.int .i64 x])) (hgr : (wr.alloc O).grownBy w4 vb.ownBlock) (hat : vb.ownBlock = some g4 ∨ g4 = H) (hH : wr.heap.size ≤ H) :
    MSt w (w4.setCell ⟨q, 1, none⟩ (.slice (some ⟨g4, 0, none⟩) (B.length + 1) c4)) r q v zs k bad A (B ++ [x]) va (.slice (some ⟨g4, 0, none⟩) (B.length + 1) c4) := by
  obtain ⟨hk4, hb, hq, hall⟩ := h.grew (own_ge h.ownB) hgr
  have hk5 : Kp [q] w4 (w4.setCell ⟨q, 1, none⟩ (.slice (some ⟨g4, 0, none⟩) (B.length + 1) c4)) := (Kp.refl _ _).setCell (.inl (by simp)) _
  have hk45 : Kp (q :: vb.ownBlock.toList) wr (w4.setCell ⟨q, 1, none⟩ (.slice (some ⟨g4, 0, none⟩) (B.length + 1) c4)) := (hk4.more (fun s hs => .inl (List.mem_cons_of_mem _ hs))).trans (hk5.more (fun s hs => .inl (by simp at hs; simp [hs])))
  have hall2 : ∀ s ∈ q :: vb.ownBlock.toList, q ≤ s := by
    intro s hs; rcases List.mem_cons.1 hs with rfl | hs
    · exact Nat.le_refl _
    · have := hall s hs; omega
  have hrq := h.rq
  refine ⟨h.rd.kp hk45 (fun hm => by have := hall2 _ hm; omega), heap_setCell_same w4 q 1 _ _ _ hb, ?_, ?_, ?_, h.ints.kp hk45 (fun s hs e => by have := hall2 s hs; have := h.vb0 _ e; omega), h.kp.trans' hk45 (fun t ht => .inr (by have := hall2 t ht; have := h.wr0; omega)), ?_, h.rq, h.wr0, h.vb0⟩
  · refine hk45.row h.ownA (fun s hs e => ?_)
    rcases List.mem_cons.1 hs with rfl | hs
    · have := own_ge h.ownA _ e; omega
    · cases hv : vb.ownBlock with
      | none => simp [hv] at hs
      | some b => simp [hv] at hs; subst hs; exact h.apart _ e hv
  · have := hk5.row hown (by intro s hs e; simp at hs; subst hs; have := own_ge hown _ e; omega)
    simpa using this
  · intro b hb e
    simp [Value.ownBlock] at e; subst e
    rcases hat with e2 | e2
    · exact h.apart _ hb e2
    · have := (h.ownA.lt _ hb).2; omega
  · have := hk4.size; have := h.sz; simp [World.setCell]; omega
end Go.Proofs.Ythmokldmdcjklaa

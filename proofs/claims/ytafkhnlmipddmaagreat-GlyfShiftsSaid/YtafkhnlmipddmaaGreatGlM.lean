/- metric: fits; the library's IndexFunc, ContainsFunc at metrics. (Written by wip/metric/genmta.py.) · metric.Load: what it makes of bytes, and where it stands in memory · metric.mayPlaces: may places be put? slices.IsSorted · metric.mayPlaces, metric.PutPlaces · metric.LoadPlaces: places out of bytes · metric.LoadPlaces: the walk; where a glyph's outline begins and ends · metric: where a glyph's outline begins and ends; how many there are; where a load of places refuses · The reference's MayPlaces. (Written by wip/metric/genmts.py.) · The reference's PutPlaces; places that were put are loaded again · Places that were put are loaded again, whatever follows. Plain lists; no program in sight. (Merged by wip/tools/mergetpl.py out of MtA, MtD, MtG, MtH, MtI, MtJ, MtK, MtS, MtT, MtU.) -/
import Derived.Test.YtafkhnlmipddmaaGreatWmA
import Derived.Test.YtafkhnlmipddmaaGreatPair
import Derived.Deep.RegionLaw
import Derived.Deep.AppendLies
import Derived.BigQuiet
import Derived.Deep.QuietTactic
import Derived.Lib.Hide
import Derived.Deep.RegionHeld3
namespace Go.Proofs.YtafkhnlmipddmaaGreat
open Go.RowKit
set_option linter.unusedVariables false
set_option linter.unusedSimpArgs false
def fitsM (p : Int × Int) : Bool := decide (0 ≤ p.1) && decide (p.1 ≤ 65535) && decide (-32768 ≤ p.2) && decide (p.2 ≤ 32767)
def aggP (p : Int × Int) : Value := .agg #[.int .i64 p.1, .int .i64 p.2]
theorem mcount_yes (n : Int) (h1 : 1 ≤ n) (h2 : n ≤ 65535) (w : World) : Calls Tryz.prog 53 #[.int .i64 n] w fun e w' => e = .returned (.bool true) ∧ w = w' := by
  go_enter Tryz.func53, Tryz.ntmps53
  go_wp2
  go_ret
  exact ⟨by simp, rfl⟩
theorem mcount_no (n : Int) (h1 : n < 1 ∨ 65535 < n) (w : World) : Calls Tryz.prog 53 #[.int .i64 n] w fun e w' => e = .returned (.bool false) ∧ w = w' := by
  by_cases h : n < 1
  · have h2 : decide (1 ≤ n) = false := by simpa using h
    go_enter Tryz.func53, Tryz.ntmps53
    go_wp2
    go_ret
    exact ⟨by simp, rfl⟩
  · go_enter Tryz.func53, Tryz.ntmps53
    go_wp2
    go_ret
    exact ⟨by simp; omega, rfl⟩
/-- The first place whose pair is so, counted from i; -1: there is none. -/
def posFromM (p : Int × Int → Bool) : List (Int × Int) → Nat → Int
  | [], _ => -1
  | a :: l, i => if p a then i else posFromM p l (i + 1)
theorem posFromM_hit (p : Int × Int → Bool) (xs : List (Int × Int)) (j : Nat) (h : j < xs.length) (he : p (xs.getD j (0, 0)) = true) : posFromM p (xs.drop j) j = j := by
  rw [List.drop_eq_getElem_cons h]
  rw [List.getD_eq_getElem?_getD, List.getElem?_eq_getElem h] at he
  exact if_pos he
theorem posFromM_miss (p : Int × Int → Bool) (xs : List (Int × Int)) (j : Nat) (h : j < xs.length) (he : p (xs.getD j (0, 0)) = false) : posFromM p (xs.drop j) j = posFromM p (xs.drop (j + 1)) (j + 1) := by
  rw [List.drop_eq_getElem_cons h]
  rw [List.getD_eq_getElem?_getD, List.getElem?_eq_getElem h] at he
  exact if_neg (by simpa using he)
theorem posFromM_any (p : Int × Int → Bool) : ∀ (l : List (Int × Int)) (i : Nat), decide (0 ≤ posFromM p l i) = l.any p := by
  intro l
  induction l with
  | nil => intro i; rfl
  | cons a l ih =>
    intro i
    unfold posFromM
    cases h : p a
    · simp [h, ih]
    · simp [h]
end Go.Proofs.YtafkhnlmipddmaaGreat
namespace Go.Proofs.YtafkhnlmipddmaaGreat
open Go.RowKit
set_option linter.unusedVariables false
set_option linter.unusedSimpArgs false
theorem infoIntM : (Tryz.prog.info? 3).map (fun i => (i.zero, i.size, i.bytes)) = some (some (.int .i64 0), 1, 8) := by kernel_rfl
/-- Where glyph i's bytes begin. -/
def kM (m i : Nat) : Nat := 2 * i + 2 * min i m
def metA (zs : List Int) (m i : Nat) : Int := beN (cutB zs (kM m i) 2)
def metB (zs : List Int) (m i : Nat) : Int := s16 (beN (cutB zs (kM m i + if i < m then 2 else 0) 2))
def advsL (zs : List Int) (m j : Nat) : List Int := (List.range (min j m)).map (metA zs m)
def bearsL (zs : List Int) (m j : Nat) : List Int := (List.range j).map (metB zs m)
theorem kM_succ (m j : Nat) : kM m (j + 1) = kM m j + if j < m then 4 else 2 := by
  unfold kM; by_cases h : j < m <;> simp [h] <;> omega
theorem kM_mono (m i j : Nat) (h : i ≤ j) : kM m i ≤ kM m j := by unfold kM; omega
theorem advsL_succ (zs : List Int) (m j : Nat) (h : j < m) : advsL zs m (j + 1) = advsL zs m j ++ [metA zs m j] := by
  unfold advsL; rw [show min (j + 1) m = min j m + 1 by omega, List.range_succ, List.map_append, show min j m = j by omega]; rfl
theorem advsL_same (zs : List Int) (m j : Nat) (h : ¬ j < m) : advsL zs m (j + 1) = advsL zs m j := by
  unfold advsL; rw [show min (j + 1) m = min j m by omega]
theorem bearsL_succ (zs : List Int) (m j : Nat) : bearsL zs m (j + 1) = bearsL zs m j ++ [metB zs m j] := by unfold bearsL; rw [List.range_succ, List.map_append]; rfl
theorem advsL_length (zs : List Int) (m j : Nat) : (advsL zs m j).length = min j m := by simp [advsL]
theorem bearsL_length (zs : List Int) (m j : Nat) : (bearsL zs m j).length = j := by simp [bearsL]
theorem metA_bounds (zs : List Int) (m i : Nat) (hb : ∀ c ∈ zs, 0 ≤ c ∧ c ≤ 255) : 0 ≤ metA zs m i ∧ metA zs m i ≤ 65535 := by
  unfold metA
  have h := beN_lt (cutB zs (kM m i) 2) (cutB_mem _ _ _ hb)
  have hl : (cutB zs (kM m i) 2).length ≤ 2 := by unfold cutB; rw [List.length_take]; omega
  have : (256 ^ (cutB zs (kM m i) 2).length : Nat) ≤ 65536 := Nat.le_trans (Nat.pow_le_pow_right (by decide) hl) (by decide)
  omega
/-- One round's reading: where it goes well, and where it does not. -/
theorem met_round (zs : List Int) (m j : Nat) (h : kM m j ≤ zs.length) :
    (j < m → (rdB zs (rdK zs (kM m j) false 2) (rdB zs (kM m j) false 2) 2 = true → zs.length < kM m (j + 1)) ∧
      (rdB zs (rdK zs (kM m j) false 2) (rdB zs (kM m j) false 2) 2 = false → kM m (j + 1) ≤ zs.length ∧ rdK zs (rdK zs (kM m j) false 2) (rdB zs (kM m j) false 2) 2 = kM m (j + 1) ∧ rdV zs (kM m j) false 2 = metA zs m j ∧ s16 (rdV zs (rdK zs (kM m j) false 2) (rdB zs (kM m j) false 2) 2) = metB zs m j)) ∧
    (¬ j < m → (rdB zs (kM m j) false 2 = true → zs.length < kM m (j + 1)) ∧
      (rdB zs (kM m j) false 2 = false → kM m (j + 1) ≤ zs.length ∧ rdK zs (kM m j) false 2 = kM m (j + 1) ∧ s16 (rdV zs (kM m j) false 2) = metB zs m j)) := by
  constructor
  · intro hj
    have e1 := kM_succ m j
    rw [if_pos hj] at e1
    by_cases h1 : zs.length < kM m j + 2
    · have b1 : rdB zs (kM m j) false 2 = true := by simp [rdB, h1]
      have b2 : rdB zs (rdK zs (kM m j) false 2) true 2 = true := by simp [rdB]
      rw [b1, b2]
      exact ⟨fun _ => by omega, fun h => by cases h⟩
    · have b1 : rdB zs (kM m j) false 2 = false := by simp [rdB]; omega
      have k1 : rdK zs (kM m j) false 2 = kM m j + 2 := by unfold rdK; rw [b1]; rfl
      have v1 : rdV zs (kM m j) false 2 = metA zs m j := by unfold rdV; rw [b1]; rfl
      rw [b1, k1, v1]
      by_cases h2 : zs.length < kM m j + 2 + 2
      · have b2 : rdB zs (kM m j + 2) false 2 = true := by simp [rdB, h2]
        rw [b2]
        exact ⟨fun _ => by omega, fun h => by cases h⟩
      · have b2 : rdB zs (kM m j + 2) false 2 = false := by simp [rdB]; omega
        have k2 : rdK zs (kM m j + 2) false 2 = kM m j + 2 + 2 := by unfold rdK; rw [b2]; rfl
        have v2 : s16 (rdV zs (kM m j + 2) false 2) = metB zs m j := by unfold rdV metB; rw [b2, if_pos hj]; rfl
        rw [b2, k2, v2]
        exact ⟨(fun h => by cases h), fun _ => ⟨by omega, by omega, rfl, rfl⟩⟩
  · intro hj
    have e1 := kM_succ m j
    rw [if_neg hj] at e1
    by_cases h2 : zs.length < kM m j + 2
    · have b2 : rdB zs (kM m j) false 2 = true := by simp [rdB, h2]
      rw [b2]
      exact ⟨fun _ => by omega, fun h => by cases h⟩
    · have b2 : rdB zs (kM m j) false 2 = false := by simp [rdB]; omega
      have k2 : rdK zs (kM m j) false 2 = kM m j + 2 := by unfold rdK; rw [b2]; rfl
      have v2 : s16 (rdV zs (kM m j) false 2) = metB zs m j := by unfold rdV metB; rw [b2, if_neg hj]; rfl
      rw [b2, k2, v2]
      exact ⟨(fun h => by cases h), fun _ => ⟨by omega, by omega, rfl⟩⟩
end Go.Proofs.YtafkhnlmipddmaaGreat
namespace Go.Proofs.YtafkhnlmipddmaaGreat
open Go.RowKit
set_option linter.unusedVariables false
set_option linter.unusedSimpArgs false
/-- None is less than the one before it. -/
def srt (l : List Int) : Bool := (List.range (l.length - 1)).all fun i => decide (l.getD i 0 ≤ l.getD (i + 1) 0)
theorem srt_true (l : List Int) (h : ∀ i, i + 1 < l.length → l.getD i 0 ≤ l.getD (i + 1) 0) : srt l = true := by
  unfold srt; rw [List.all_eq_true]; intro i hi
  simp only [List.mem_range] at hi
  exact decide_eq_true (h i (by omega))
theorem srt_false (l : List Int) (i : Nat) (hi : i + 1 < l.length) (h : l.getD (i + 1) 0 < l.getD i 0) : srt l = false := by
  rw [← Bool.not_eq_true]; intro e
  unfold srt at e; rw [List.all_eq_true] at e
  have := e i (List.mem_range.2 (by omega))
  simp only [decide_eq_true_eq] at this; omega
theorem srt_at (l : List Int) (h : srt l = true) (i : Nat) (hi : i + 1 < l.length) : l.getD i 0 ≤ l.getD (i + 1) 0 := by
  unfold srt at h; rw [List.all_eq_true] at h
  have := h i (List.mem_range.2 (by omega))
  simpa using this
/-- May a place be put? -/
def okPl (long : Bool) (x : Int) : Bool := decide (0 ≤ x) && decide (x ≤ 1048576) && (long || (x % 2 == 0 && decide (x ≤ 131070)))
def mayPl (l : List Int) (long : Bool) : Bool := decide (2 ≤ l.length) && decide (l.length ≤ 65536) && srt l && l.all (okPl long)
end Go.Proofs.YtafkhnlmipddmaaGreat
namespace Go.Proofs.YtafkhnlmipddmaaGreat
open Go.RowKit
set_option linter.unusedVariables false
set_option linter.unusedSimpArgs false
/-- The table of the first so many places. -/
def plPre (l : List Int) (long : Bool) : Nat → List Int
  | 0 => []
  | j + 1 => plPre l long j ++ if long then bytesN 4 (l.getD j 0) else bytesN 2 (l.getD j 0 / 2)
theorem plPre_len (l : List Int) (long : Bool) (j : Nat) : (plPre l long j).length = (if long then 4 else 2) * j := by
  induction j with
  | zero => simp [plPre]
  | succ j ih => unfold plPre; cases long <;> simp_all [bytesN_length] <;> omega
end Go.Proofs.YtafkhnlmipddmaaGreat
namespace Go.Proofs.YtafkhnlmipddmaaGreat
open Go.RowKit
set_option linter.unusedVariables false
set_option linter.unusedSimpArgs false
/-- One place's number, from k on. -/
def plV (zs : List Int) (long : Bool) (k : Nat) : Int := if long then rdV zs k false 4 else 2 * rdV zs k false 2
def plB (zs : List Int) (long : Bool) (k : Nat) : Bool := if long then rdB zs k false 4 else rdB zs k false 2
def plK (zs : List Int) (long : Bool) (k : Nat) : Nat := if long then rdK zs k false 4 else rdK zs k false 2
/-- So many places: none is less than the one before it, none greater than the size. -/
def plGo (zs : List Int) (long : Bool) (size : Int) : Nat → Int → List Int → Nat → Option (List Int)
  | 0, _, l, _ => some l
  | m + 1, last, l, k => if plB zs long k = true ∨ plV zs long k < last ∨ size < plV zs long k then none else plGo zs long size m (plV zs long k) (l ++ [plV zs long k]) (plK zs long k)
def plLoad (zs : List Int) (n : Nat) (long : Bool) (size : Int) : Option (List Int) := plGo zs long size (n + 1) 0 [] 0
theorem plV_bounds (zs : List Int) (long : Bool) (k : Nat) (hb : ∀ c ∈ zs, 0 ≤ c ∧ c ≤ 255) : 0 ≤ plV zs long k ∧ plV zs long k ≤ 4294967295 := by
  unfold plV
  cases long
  · have := rdV_bounds zs k false 2 hb; simp; omega
  · have := rdV_bounds zs k false 4 hb; simp; omega
theorem plK_le (zs : List Int) (long : Bool) (k : Nat) (h : k ≤ zs.length) : plK zs long k ≤ zs.length := by
  unfold plK; cases long <;> exact rdK_le _ _ _ _ h
/-- Where a load of places stands in memory. -/
structure PSt (w wr : World) (b6 r b10 q : Nat) (v : Value) (zs : List Int) (long : Bool) (k : Nat) (bad : Bool) (A : List Int) (va : Value) : Prop where
  rd : Rdr wr r v (k : Nat) bad
  obj : wr.heap[q]? = some (.cells #[va] 103 (0, 0))
  own : wr.ownsRow (q + 1) 3 1 va A.length (A.map (Value.int .i64))
  ints : IsInts .u8 wr v zs
  kp : Kp [] w wr
  sz : q < wr.heap.size
  c6 : wr.cell? ⟨b6, 0, none⟩ = some (.bool long)
  c10 : wr.cell? ⟨b10, 0, none⟩ = some (.pointer (some ⟨r, 0, none⟩))
  ord : w.heap.size ≤ b6 ∧ b6 < r ∧ r < b10 ∧ b10 < q
  vb0 : ∀ b, blockOf v = some b → b < b6
theorem PSt.rkp {w wr w2 : World} {b6 r b10 q : Nat} {v : Value} {zs : List Int} {long : Bool} {k k2 : Nat} {bad bad2 : Bool} {A : List Int} {va : Value} (h : PSt w wr b6 r b10 q v zs long k bad A va) (hk : Kp [r] wr w2) (hr : Rdr w2 r v (k2 : Nat) bad2) : PSt w w2 b6 r b10 q v zs long k2 bad2 A va := by
  obtain ⟨o1, o2, o3, o4⟩ := h.ord
  exact ⟨hr, hk.heap h.obj (by simp; omega), hk.row h.own (fun s hs e => by simp at hs; subst hs; have := own_ge h.own _ e; omega), h.ints.kp hk (fun s hs hz => by simp at hs; subst hs; have := h.vb0 _ hz; omega), h.kp.trans' hk (fun t ht => .inr (by simp at ht; subst ht; omega)), Nat.lt_of_lt_of_le h.sz hk.size, hk.cell h.c6 (by simp; omega), hk.cell h.c10 (by simp; omega), h.ord, h.vb0⟩
theorem PSt.drew {w wr w2 : World} {b6 r b10 q : Nat} {v : Value} {zs : List Int} {long : Bool} {k : Nat} {bad : Bool} {A : List Int} {va : Value} (h : PSt w wr b6 r b10 q v zs long k bad A va) (hk : Kp [] wr w2) : PSt w w2 b6 r b10 q v zs long k bad A va :=
  h.rkp (hk.more (fun s hs => nomatch hs)) (h.rd.kp hk (by simp))
theorem PSt.facts {w wr : World} {b6 r b10 q : Nat} {v : Value} {zs : List Int} {long : Bool} {k : Nat} {bad : Bool} {A : List Int} {va : Value} (h : PSt w wr b6 r b10 q v zs long k bad A va) :
    wr.cell? ⟨q, 0, none⟩ = some va ∧ wr.frozen? ⟨q, 0, none⟩ = false := ⟨by rw [cell_of_row wr q 0 _ _ _ h.obj]; rfl, frozen_of_row wr q 0 _ _ h.obj⟩
theorem PSt.grew {w wr w4 : World} {b6 r b10 q : Nat} {v : Value} {zs : List Int} {long : Bool} {k : Nat} {bad : Bool} {A : List Int} {va : Value} {O : Obj} (h : PSt w wr b6 r b10 q v zs long k bad A va)
    (hgr : (wr.alloc O).drew.grownBy w4 va.ownBlock) : Kp va.ownBlock.toList wr w4 ∧ w4.heap[q]? = some (.cells #[va] 103 (0, 0)) ∧ q ∉ va.ownBlock.toList ∧ ∀ s ∈ va.ownBlock.toList, q + 1 ≤ s := by
  have hall : ∀ s ∈ va.ownBlock.toList, q + 1 ≤ s := by
    intro s hs; cases hv : va.ownBlock with
    | none => simp [hv] at hs
    | some b => simp [hv] at hs; subst hs; exact own_ge h.own _ hv
  have hk : Kp va.ownBlock.toList wr w4 := Kp.grown (((Kp.refl _ _).alloc O).drew) hgr (fun k hk => .inl (by rw [hk]; simp))
  have hq : q ∉ va.ownBlock.toList := fun hm => by have := hall _ hm; omega
  exact ⟨hk, hk.heap h.obj hq, hq, hall⟩
theorem PSt.at4 {w wr w4 : World} {b6 r b10 q : Nat} {v : Value} {zs : List Int} {long : Bool} {k : Nat} {bad : Bool} {A : List Int} {va : Value} {O : Obj} (h : PSt w wr b6 r b10 q v zs long k bad A va)
    (hgr : (wr.alloc O).grownBy w4 va.ownBlock) : w4.cell? ⟨q, 0, none⟩ = some va ∧ w4.frozen? ⟨q, 0, none⟩ = false := by
  obtain ⟨_, hb, _, _⟩ := h.grew ⟨hgr.os, hgr.tape, hgr.output, hgr.size, hgr.block⟩
  exact ⟨by rw [cell_of_row w4 q 0 _ _ _ hb]; rfl, frozen_of_row w4 q 0 _ _ hb⟩
theorem PSt.wrote {w wr w4 : World} {b6 r b10 q : Nat} {v : Value} {zs : List Int} {long : Bool} {k : Nat} {bad : Bool} {A : List Int} {va : Value} {x : Int} {O : Obj} {u : Value} (h : PSt w wr b6 r b10 q v zs long k bad A va)
    (hown : w4.ownsRow (q + 1) 3 1 u (A.length + 1) (A.map (Value.int .i64) ++ [.int .i64 x])) (hgr : (wr.alloc O).grownBy w4 va.ownBlock) :
    PSt w (w4.setCell ⟨q, 0, none⟩ u) b6 r b10 q v zs long k bad (A ++ [x]) u := by
  have hgr' : (wr.alloc O).drew.grownBy w4 va.ownBlock := ⟨hgr.os, hgr.tape, hgr.output, hgr.size, hgr.block⟩
  obtain ⟨hk4, hb, hq, hall⟩ := h.grew hgr'
  have hk5 : Kp [q] w4 (w4.setCell ⟨q, 0, none⟩ u) := (Kp.refl _ _).setCell (.inl (by simp)) _
  have hk45 : Kp (q :: va.ownBlock.toList) wr (w4.setCell ⟨q, 0, none⟩ u) := (hk4.more (fun s hs => .inl (List.mem_cons_of_mem _ hs))).trans (hk5.more (fun s hs => .inl (by simp at hs; simp [hs])))
  have hall2 : ∀ s ∈ q :: va.ownBlock.toList, q ≤ s := by
    intro s hs; rcases List.mem_cons.1 hs with rfl | hs
    · exact Nat.le_refl _
    · have := hall s hs; omega
  obtain ⟨o1, o2, o3, o4⟩ := h.ord
  refine ⟨h.rd.kp hk45 (fun hm => by have := hall2 _ hm; omega), heap_setCell_same w4 q 0 _ _ _ hb, ?_, h.ints.kp hk45 (fun s hs e => by have := hall2 s hs; have := h.vb0 _ e; omega), h.kp.trans' hk45 (fun t ht => .inr (by have := hall2 t ht; omega)), ?_, hk45.cell h.c6 (fun hm => by have := hall2 _ hm; simp at this; omega), hk45.cell h.c10 (fun hm => by have := hall2 _ hm; simp at this; omega), h.ord, h.vb0⟩
  · have := hk5.row hown (by intro s hs e; simp at hs; subst hs; have := own_ge hown _ e; omega)
    simpa using this
  · have := hk4.size; have := h.sz; simp [World.setCell]; omega
/-- The function that reads the next place. -/
theorem nextp_calls {w wr : World} {b6 r b10 q : Nat} {v : Value} {zs : List Int} {long : Bool} {k : Nat} {A : List Int} {va : Value} (h : PSt w wr b6 r b10 q v zs long k false A va) (hb : ∀ c ∈ zs, 0 ≤ c ∧ c ≤ 255) (hk : k ≤ zs.length) :
    Calls Tryz.prog 55 #[.pointer (some ⟨b6, 0, none⟩), .pointer (some ⟨b10, 0, none⟩)] wr fun e w' => e = .returned (.int .i64 (plV zs long k)) ∧ PSt w w' b6 r b10 q v zs long (plK zs long k) (plB zs long k) A va := by
  have c6 := h.c6
  have c10 := h.c10
  obtain ⟨o1, o2, o3, o4⟩ := h.ord
  have hne : blockOf v ≠ some r := fun e => by have := h.vb0 _ e; omega
  have H : Hid (PSt w wr b6 r b10 q v zs long k false A va) := h
  have HB : Hid _ := hb
  clear h hb
  cases long
  · have hbd := rdV_bounds zs k false 2 HB.out
    have hbd1 := hbd.1
    have hbd2 : rdV zs k false 2 < 65536 := by have := hbd.2; omega
    clear hbd
    have hV : Hid (plV zs false k = 2 * rdV zs k false 2) := rfl
    go_enter Tryz.func55, Tryz.ntmps55
    go_wp2_with fail
    refine (u16_calls r v zs k false _ H.out.rd H.out.ints HB.out hne hk).mono ?_
    rintro e w3 ⟨rfl, hr3, hk3⟩
    have hs3 := H.out.rkp hk3 hr3
    generalize rdV zs k false 2 = x at *
    go_wp2_with fail
    go_ret
    exact ⟨by rw [hV.out]; rfl, hs3⟩
  · have hV : Hid (plV zs true k = rdV zs k false 4) := rfl
    go_enter Tryz.func55, Tryz.ntmps55
    go_wp2_with fail
    refine (u32_calls r v zs k false _ H.out.rd H.out.ints HB.out hne hk).mono ?_
    rintro e w3 ⟨rfl, hr3, hk3⟩
    have hs3 := H.out.rkp hk3 hr3
    go_wp2_with fail
    go_ret
    exact ⟨by rw [hV.out]; rfl, hs3⟩
end Go.Proofs.YtafkhnlmipddmaaGreat
namespace Go.Proofs.YtafkhnlmipddmaaGreat
open Go.RowKit
set_option linter.unusedVariables false
set_option linter.unusedSimpArgs false
/-- Block q holds places A. -/
def IsPl (w : World) (q : Nat) (A : List Int) : Prop := ∃ va, w.heap[q]? = some (.cells #[va] 103 (0, 0)) ∧ IsInts .i64 w va A
theorem IsPl.kp {w w' : World} {q : Nat} {A : List Int} (h : IsPl w q A) (hk : Kp [] w w') : IsPl w' q A := by
  obtain ⟨va, h1, h2⟩ := h
  exact ⟨va, hk.heap h1 (by simp), h2.kp hk (by simp)⟩
/-- What a load of places hands back. -/
def PlD (R : Option (List Int)) (w : World) (e : Ending) (w' : World) : Prop :=
  (R = none ∧ e = .returned (.tuple #[.pointer none, .int .i64 61]) ∧ Kp [] w w') ∨
  (∃ l q, R = some l ∧ e = .returned (.tuple #[.pointer (some ⟨q, 0, none⟩), .int .i64 0]) ∧ IsPl w' q l ∧ Kp [] w w')
set_option maxRecDepth 100000 in
set_option maxHeartbeats 4000000 in
theorem plload_calls (v : Value) (zs : List Int) (n : Nat) (long : Bool) (size : Int) (h1 : 1 ≤ n) (h3 : n ≤ 65535) (s0 : 0 ≤ size) (s1 : size ≤ 1048576) (w : World) (hz : IsInts .u8 w v zs) (hb : ∀ c ∈ zs, 0 ≤ c ∧ c ≤ 255) (hv : ∀ b, blockOf v = some b → b < w.heap.size) :
    Calls Tryz.prog 32 #[v, .int .i64 n, .bool long, .int .i64 size] w (PlD (plLoad zs n long size) w) := by
  obtain ⟨i0, hi, hz0, hz1, hz2⟩ := info_parts infoIntM
  obtain ⟨pa, ca, hva⟩ : ∃ p c, v = .slice p zs.length c := by
    rcases hz with ⟨⟨ad, rfl⟩, rfl⟩ | ⟨g, off, c, rfl, _⟩
    · exact ⟨_, 0, rfl⟩
    · exact ⟨_, c, rfl⟩
  have HB : Hid _ := hb
  have HV : Hid _ := hv
  have HVA : Hid _ := hva
  have hm1 : decide (size < 0) = false := decide_eq_false (by omega)
  have hm2 : decide (1048576 < size) = false := decide_eq_false (by omega)
  have hnI : (n : Int) ≤ 100000 := by omega
  clear hb hv hva
  go_enter Tryz.func32, Tryz.ntmps32
  go_wp2_with fail
  refine (mcount_yes _ (by omega) (by omega) _).mono ?_; rintro e w' ⟨rfl, rfl⟩
  go_wp2_with fail
  have hka : Kp [] w (w.alloc (.cells #[.bool long] 4)) := by (repeat (first | exact Kp.refl _ _ | assumption | refine Kp.drew ?_ | refine Kp.drewN ?_ _ | refine Kp.alloc ?_ _ | (refine Kp.setCell ?_ (by first | (left; simp; done) | (right; simp; try omega)) _) | (refine Kp.trans' ?_ (by assumption) (by simp; try omega))))
  have hc6a : (w.alloc (.cells #[.bool long] 4)).cell? ⟨w.heap.size, 0, none⟩ = some (.bool long) := by go_simp
  have hsza : w.heap.size < (w.alloc (.cells #[.bool long] 4)).heap.size := by simp
  generalize hwa : w.alloc (.cells #[.bool long] 4) = wa at *
  have HWA : Hid _ := hwa
  clear hwa
  refine (new_calls v pa zs.length ca HVA.out _).mono ?_; rintro e w1 ⟨rfl, hw1⟩
  have hr1 : Rdr w1 wa.heap.size v (0 : Nat) false := by subst hw1; exact heap_alloc_new wa _
  have hk1 : Kp [] wa w1 := by subst hw1; (repeat (first | exact Kp.refl _ _ | assumption | refine Kp.drew ?_ | refine Kp.drewN ?_ _ | refine Kp.alloc ?_ _ | (refine Kp.setCell ?_ (by first | (left; simp; done) | (right; simp; try omega)) _) | (refine Kp.trans' ?_ (by assumption) (by simp; try omega))))
  have hsz : wa.heap.size < w1.heap.size := by subst hw1; simp
  clear hw1
  have hz1 := hz.kp (hka.trans hk1) (by simp)
  have hk01 := hka.trans hk1
  have hc6 := hk1.cell hc6a (by simp)
  have hst : PSt w ((w1.alloc (.cells #[.pointer (some ⟨wa.heap.size, 0, none⟩)] 100)).alloc (.cells #[.slice none 0 0] 103)) w.heap.size wa.heap.size w1.heap.size (w1.heap.size + 1) v zs long 0 false [] (.slice none 0 0) := by
    have hk12 : Kp [] w1 ((w1.alloc (.cells #[.pointer (some ⟨wa.heap.size, 0, none⟩)] 100)).alloc (.cells #[.slice none 0 0] 103)) := ((Kp.refl _ _).alloc _).alloc _
    refine ⟨hr1.kp hk12 (by simp), ?_, World.ownsRow_nil _ _ _ _, hz1.kp hk12 (by simp), hk01.trans hk12, by simp, hk12.cell hc6 (by simp), by go_simp, ⟨Nat.le_refl _, hsza, hsz, by omega⟩, HV.out⟩
    have := heap_alloc_new (w1.alloc (.cells #[.pointer (some ⟨wa.heap.size, 0, none⟩)] 100)) (.cells #[.slice none 0 0] 103)
    rw [show (w1.alloc (.cells #[.pointer (some ⟨wa.heap.size, 0, none⟩)] 100)).heap.size = w1.heap.size + 1 by simp] at this
    exact this
  clear hz hr1 hk1 hz1 hka hc6a hc6 hk01
  go_wp2_with fail
  generalize (w1.alloc (.cells #[.pointer (some ⟨wa.heap.size, 0, none⟩)] 100)).alloc (.cells #[.slice none 0 0] 103) = w2 at *
  generalize hb6 : w.heap.size = b6 at *
  generalize hr : wa.heap.size = r at *
  generalize hb10 : w1.heap.size = b10 at *
  clear hsza hsz HWA
  have hAT : Hid (plGo zs long size (n + 1 - 0) 0 [] 0 = plLoad zs n long size) := rfl
  go_loopw [13, 14, 33] (fun last _ i wr => ∃ (j k : Nat) (A : List Int) (lst : Int) (va : Value), j ≤ n + 1 ∧ i = .int .i64 j ∧ last = .int .i64 lst ∧ 0 ≤ lst ∧ lst ≤ 1048576 ∧ k ≤ zs.length ∧ PSt w wr b6 r b10 (b10 + 1) v zs long k false A va ∧ A.length ≤ j ∧ Hid (plGo zs long size (n + 1 - j) lst A k = plLoad zs n long size)) (fun _ _ i _ => n + 1 - (intOf i).toNat)
  case atStart => exact ⟨0, 0, [], 0, _, by omega, rfl, rfl, by omega, by omega, by omega, hst, by simp, hAT.out⟩
  case round =>
    obtain ⟨j, k, A, lst, va, hj, rfl, rfl, l0, l1, hk, hs, hA, HG⟩ := hrel
    clear hst hAT
    by_cases hlt : j < n + 1
    · have hlt' : (j : Int) < (n : Int) + 1 := by omega
      have HG2 : Hid ((if plB zs long k = true ∨ plV zs long k < lst ∨ size < plV zs long k then none else plGo zs long size (n + 1 - (j + 1)) (plV zs long k) (A ++ [plV zs long k]) (plK zs long k)) = plLoad zs n long size) := by
        unfold Hid; rw [← HG.out, show n + 1 - j = (n + 1 - (j + 1)) + 1 by omega]; rfl
      clear HG
      have hcl := Lib.hid (nextp_calls hs HB.out hk)
      have hbd := plV_bounds zs long k HB.out
      have hk2 := plK_le zs long k hk
      clear hs
      go_wp2_with fail
      refine Calls.mono hcl.out ?_
      rintro e w3 ⟨rfl, hs3⟩
      clear hcl
      obtain ⟨x0, x1⟩ := hbd
      generalize plV zs long k = x at *
      generalize plB zs long k = bad at *
      generalize plK zs long k = k2 at *
      have hc10 := hs3.c10
      have HS3 : Hid (PSt w w3 b6 r b10 (b10 + 1) v zs long k2 bad A va) := hs3
      have hkp3 := hs3.kp
      clear hs3
      go_wp2_with fail
      refine (done_calls r v _ _ _ HS3.out.rd).mono ?_; rintro e w9 ⟨rfl, rfl⟩
      cases bad
      · by_cases hx1 : x < lst
        · have hR : Hid (plLoad zs n long size = none) := by rw [Hid, ← HG2.out, if_pos (.inr (.inl hx1))]
          go_wp2_with fail
          go_ret2
          exact .inl ⟨hR.out, rfl, hkp3⟩
        · have hx1' : decide (x < lst) = false := decide_eq_false hx1
          by_cases hx2 : size < x
          · have hR : Hid (plLoad zs n long size = none) := by rw [Hid, ← HG2.out, if_pos (.inr (.inr hx2))]
            go_wp2_with fail
            go_ret2
            exact .inl ⟨hR.out, rfl, hkp3⟩
          · have hx2' : decide (size < x) = false := decide_eq_false hx2
            have HG3 : Hid (plGo zs long size (n + 1 - (j + 1)) x (A ++ [x]) k2 = plLoad zs n long size) := by
              rw [Hid, ← HG2.out, if_neg (by rintro (h | h | h); cases h; exact hx1 h; exact hx2 h)]
            obtain ⟨pA, cA, rfl⟩ := slice_own HS3.out.own
            obtain ⟨c0, f0⟩ := HS3.out.facts
            have hqw := HS3.out.sz
            have hAl : A.length ≤ 70000 := by omega
            clear HG2
            go_wp2_with (at_builtin; refine wpList_app rfl _ _ 51 rfl (b10 + 1 + 1) 3 (.int .i64 0) 1 8 Tryz.underlying51 infoIntM rfl (by decide) (by decide) (.slice pA A.length cA) A.length (A.map (Value.int .i64)) rfl ?hown (.slice (some ⟨w3.heap.size, 0, none⟩) 1 1) 1 [.int .i64 x] rfl ?hsrc ?hone ?hb1 ?hb2 ?hk)
            case hown => exact HS3.out.own.alloc _
            case hsrc => exact Reads.made _ _ 1 1 [.int .i64 x] _ rfl rfl (by decide)
            case hone => first | (intro u hu; simp at hu; subst hu; rfl) | rfl
            case hb1 => omega
            case hb2 => simp; omega
            case hk =>
            intro u w4 hown hgr
            have hs5 := HS3.out.wrote hown hgr
            obtain ⟨hc4, hf4⟩ := HS3.out.at4 hgr
            obtain ⟨p9, c9, rfl⟩ := slice_own hown
            clear hown hgr hc10
            go_wp2_with fail
            go_roundw
            case rel => first | exact ⟨j + 1, k2, A ++ [x], x, _, by omega, int_eq' (by omega), rfl, x0, by omega, hk2, hs5, by simp; omega, HG3.out⟩ | ((repeat apply Exists.intro); exact ⟨⟨j + 1, k2, A ++ [x], x, _, by omega, int_eq' (by omega), rfl, x0, by omega, hk2, hs5, by simp; omega, HG3.out⟩, rfl⟩)
            case measure => simp [intOf]; omega
      · have hR : Hid (plLoad zs n long size = none) := by rw [Hid, ← HG2.out, if_pos (.inl rfl)]
        go_wp2_with fail
        go_ret2
        exact .inl ⟨hR.out, rfl, hkp3⟩
    · obtain rfl : j = n + 1 := by omega
      have hR : Hid (plLoad zs n long size = some A) := by rw [Hid, ← HG.out, Nat.sub_self]; rfl
      have hd : Hid (IsPl wr (b10 + 1) A) := ⟨va, hs.obj, IsInts.owned hs.own⟩
      have hkp := hs.kp
      have hlt' : ¬ ((n : Int) + 1 < (n : Int) + 1) := by omega
      clear hs
      go_wp2_with fail
      go_ret2
      exact .inr ⟨A, _, hR.out, rfl, hd.out, hkp⟩
end Go.Proofs.YtafkhnlmipddmaaGreat
namespace Go.Proofs.YtafkhnlmipddmaaGreat
open Go.RowKit
set_option linter.unusedVariables false
set_option linter.unusedSimpArgs false
theorem pllen_nil (w : World) : Calls Tryz.prog 43 #[.pointer none] w fun e w' => e = .returned (.int .i64 0) ∧ w' = w := by
  go_enter Tryz.func43, Tryz.ntmps43
  go_wp2
  go_ret
  exact ⟨rfl, rfl⟩
theorem IsPl.form {w : World} {q : Nat} {A : List Int} (h : IsPl w q A) : ∃ p c, w.cell? ⟨q, 0, none⟩ = some (.slice p A.length c) ∧ q < w.heap.size ∧ IsInts .i64 w (.slice p A.length c) A := by
  obtain ⟨va, h1, h2⟩ := h
  have hq := lt_of_block h1
  have c1 : w.cell? ⟨q, 0, none⟩ = some va := by rw [cell_of_row w q 0 _ _ _ h1]; rfl
  have h3 := h2
  rcases h2 with ⟨⟨ad, rfl⟩, rfl⟩ | ⟨g, off, c, rfl, _⟩
  · exact ⟨_, 0, c1, hq, h3⟩
  · exact ⟨_, c, c1, hq, h3⟩
theorem pllen_calls (q : Nat) (A : List Int) (w : World) (h : IsPl w q A) (hl : A.length ≤ 70000) : Calls Tryz.prog 43 #[.pointer (some ⟨q, 0, none⟩)] w fun e w' => e = .returned (.int .i64 (A.length - 1)) ∧ w' = w := by
  obtain ⟨p, c, c1, hq, _⟩ := h.form
  clear h
  go_enter Tryz.func43, Tryz.ntmps43
  go_wp2
  go_ret
  exact ⟨by simp, rfl⟩
theorem plat_nil (g : Int) (w : World) : Calls Tryz.prog 42 #[.pointer none, .int .i64 g] w fun e w' => e = .returned (.tuple #[.int .i64 0, .int .i64 0, .int .i64 6]) ∧ Kp [] w w' := by
  go_enter Tryz.func42, Tryz.ntmps42
  go_wp2_with fail
  go_ret3
  exact ⟨rfl, by (repeat (first | exact Kp.refl _ _ | assumption | refine Kp.drew ?_ | refine Kp.drewN ?_ _ | refine Kp.alloc ?_ _ | (refine Kp.setCell ?_ (by first | (left; simp; done) | (right; simp; try omega)) _) | (refine Kp.trans' ?_ (by assumption) (by simp; try omega))))⟩
theorem plat_out (q : Nat) (A : List Int) (g : Int) (w : World) (h : IsPl w q A) (hl : A.length ≤ 70000) (hg : g < 0 ∨ (A.length : Int) - 1 ≤ g) :
    Calls Tryz.prog 42 #[.pointer (some ⟨q, 0, none⟩), .int .i64 g] w fun e w' => e = .returned (.tuple #[.int .i64 0, .int .i64 0, .int .i64 62]) ∧ Kp [] w w' := by
  obtain ⟨p, c, c1, hq, _⟩ := h.form
  clear h
  by_cases h0 : g < 0
  · go_enter Tryz.func42, Tryz.ntmps42
    go_wp2_with fail
    go_ret3
    exact ⟨rfl, by (repeat (first | exact Kp.refl _ _ | assumption | refine Kp.drew ?_ | refine Kp.drewN ?_ _ | refine Kp.alloc ?_ _ | (refine Kp.setCell ?_ (by first | (left; simp; done) | (right; simp; try omega)) _) | (refine Kp.trans' ?_ (by assumption) (by simp; try omega))))⟩
  · have h0' : decide (g < 0) = false := decide_eq_false h0
    have h2 : (A.length : Int) - 1 ≤ g := by omega
    go_enter Tryz.func42, Tryz.ntmps42
    go_wp2_with fail
    go_ret3
    exact ⟨rfl, by (repeat (first | exact Kp.refl _ _ | assumption | refine Kp.drew ?_ | refine Kp.drewN ?_ _ | refine Kp.alloc ?_ _ | (refine Kp.setCell ?_ (by first | (left; simp; done) | (right; simp; try omega)) _) | (refine Kp.trans' ?_ (by assumption) (by simp; try omega))))⟩
theorem plat_in (q : Nat) (A : List Int) (g : Nat) (w : World) (h : IsPl w q A) (hl : A.length ≤ 70000) (hg : g + 1 < A.length) :
    Calls Tryz.prog 42 #[.pointer (some ⟨q, 0, none⟩), .int .i64 g] w fun e w' => e = .returned (.tuple #[.int .i64 (A.getD g 0), .int .i64 (A.getD (g + 1) 0), .int .i64 0]) ∧ Kp [] w w' := by
  obtain ⟨p, c, c1, hq, hi⟩ := h.form
  rcases hi with ⟨⟨ad, e⟩, rfl⟩ | ⟨g1, o1, k1, e, a1, b1, d1⟩
  · simp at hg
  · cases e
    have e1 := d1 g (by omega)
    have e2 := d1 (g + 1) hg
    have hg1 : g1 < w.heap.size := World.block_lt_of_cell? w _ e1
    have hgA : (g : Int) < A.length := by omega
    have hgB : (g : Int) + 1 < A.length := by omega
    have hgT : ((g : Int) + 1).toNat = g + 1 := by omega
    have hg0 : decide ((g : Int) < 0) = false := decide_eq_false (by omega)
    have hgC : decide ((A.length : Int) - 1 ≤ g) = false := decide_eq_false (by omega)
    clear d1 h
    generalize A.getD g 0 = x at *
    generalize A.getD (g + 1) 0 = y at *
    go_enter Tryz.func42, Tryz.ntmps42
    go_wp2_with fail
    go_quiet (fail)
    go_wp2_with fail
    go_ret3
    exact ⟨rfl, by (repeat (first | exact Kp.refl _ _ | assumption | refine Kp.drew ?_ | refine Kp.drewN ?_ _ | refine Kp.alloc ?_ _ | (refine Kp.setCell ?_ (by first | (left; simp; done) | (right; simp; try omega)) _) | (refine Kp.trans' ?_ (by assumption) (by simp; try omega))))⟩
set_option maxRecDepth 100000 in
theorem plload_no (v : Value) (n : Int) (long : Bool) (size : Int) (w : World) (h : ¬ (1 ≤ n ∧ n ≤ 65535 ∧ 0 ≤ size ∧ size ≤ 1048576)) :
    Calls Tryz.prog 32 #[v, .int .i64 n, .bool long, .int .i64 size] w fun e w' => e = .returned (.tuple #[.pointer none, .int .i64 1]) ∧ Kp [] w w' := by
  by_cases hn : 1 ≤ n ∧ n ≤ 65535
  · by_cases h1 : size < 0
    · go_enter Tryz.func32, Tryz.ntmps32
      go_wp2_with fail
      refine (mcount_yes _ hn.1 hn.2 _).mono ?_; rintro e w' ⟨rfl, rfl⟩
      go_wp2_with fail
      go_ret2
      exact ⟨rfl, by (repeat (first | exact Kp.refl _ _ | assumption | refine Kp.drew ?_ | refine Kp.drewN ?_ _ | refine Kp.alloc ?_ _ | (refine Kp.setCell ?_ (by first | (left; simp; done) | (right; simp; try omega)) _) | (refine Kp.trans' ?_ (by assumption) (by simp; try omega))))⟩
    · have h1' : decide (size < 0) = false := decide_eq_false h1
      have h2 : 1048576 < size := by omega
      clear h
      go_enter Tryz.func32, Tryz.ntmps32
      go_wp2_with fail
      refine (mcount_yes _ hn.1 hn.2 _).mono ?_; rintro e w' ⟨rfl, rfl⟩
      go_wp2_with fail
      go_ret2
      exact ⟨rfl, by (repeat (first | exact Kp.refl _ _ | assumption | refine Kp.drew ?_ | refine Kp.drewN ?_ _ | refine Kp.alloc ?_ _ | (refine Kp.setCell ?_ (by first | (left; simp; done) | (right; simp; try omega)) _) | (refine Kp.trans' ?_ (by assumption) (by simp; try omega))))⟩
  · go_enter Tryz.func32, Tryz.ntmps32
    go_wp2_with fail
    refine (mcount_no _ (by omega) _).mono ?_; rintro e w' ⟨rfl, rfl⟩
    go_wp2_with fail
    go_ret2
    exact ⟨rfl, by (repeat (first | exact Kp.refl _ _ | assumption | refine Kp.drew ?_ | refine Kp.drewN ?_ _ | refine Kp.alloc ?_ _ | (refine Kp.setCell ?_ (by first | (left; simp; done) | (right; simp; try omega)) _) | (refine Kp.trans' ?_ (by assumption) (by simp; try omega))))⟩
end Go.Proofs.YtafkhnlmipddmaaGreat
namespace Go.Proofs.YtafkhnlmipddmaaGreat
open Go.RowKit
set_option linter.unusedVariables false
set_option linter.unusedSimpArgs false
set_option maxRecDepth 100000 in
set_option maxHeartbeats 16000000 in
theorem rmaypl_true (v : Value) (l : List Int) (w : World) (hv : IsInts .i64 w v l) :
    Calls Tryz.prog 31 #[v, .bool true] w fun e w' => e = .returned (.bool (mayPl l true)) ∧ Kp [] w w' := by
  rcases hv with ⟨⟨ad, rfl⟩, rfl⟩ | ⟨g, off, c, rfl, p1, p2, p3⟩
  · go_enter Tryz.func31, Tryz.ntmps31
    go_wp2_with fail
    go_ret
    exact ⟨rfl, Kp.refl _ _⟩
  · have HC : Hid _ := p3
    clear p3
    by_cases hc1 : l.length < 2
    · have hE : Hid (mayPl l true = false) := by unfold Hid mayPl; rw [decide_eq_false (show ¬ 2 ≤ l.length by omega)]; rfl
      have hc1' : (l.length : Int) < 2 := by omega
      go_enter Tryz.func31, Tryz.ntmps31
      go_wp2_with fail
      go_ret
      exact ⟨by rw [hE.out]; rfl, Kp.refl _ _⟩
    · have hc1' : decide ((l.length : Int) < 2) = false := decide_eq_false (by omega)
      by_cases hc2 : 65536 < l.length
      · have hE : Hid (mayPl l true = false) := by unfold Hid mayPl; rw [decide_eq_false (show ¬ l.length ≤ 65536 by omega)]; simp
        have hc2' : (65536 : Int) < l.length := by omega
        go_enter Tryz.func31, Tryz.ntmps31
        go_wp2_with fail
        go_ret
        exact ⟨by rw [hE.out]; rfl, Kp.refl _ _⟩
      · have hc2' : decide ((65536 : Int) < l.length) = false := decide_eq_false (by omega)
        have hE : Hid (mayPl l true = (srt l && l.all (okPl true))) := by unfold Hid mayPl; rw [decide_eq_true (show 2 ≤ l.length by omega), decide_eq_true (show l.length ≤ 65536 by omega)]; rfl
        have hlI : l.length ≤ 70000 := by omega
        clear hc1 hc2
        go_enter Tryz.func31, Tryz.ntmps31
        go_wp2_with fail
        go_loopw [5] (fun i wr => ∃ j : Nat, j ≤ l.length ∧ i = .int .i64 j ∧ Kp [] w wr ∧ Hid ((l.take j).all (okPl true) = true) ∧ Hid (∀ t : Nat, t + 1 < j → l.getD t 0 ≤ l.getD (t + 1) 0)) (fun i _ => l.length - (intOf i).toNat)
        case atStart => exact ⟨0, by omega, rfl, Kp.refl _ _, by simp [Hid], fun t ht => by omega⟩
        case round =>
          obtain ⟨j, hj, rfl, hk, HA, HT⟩ := hrel
          by_cases hlt : j < l.length
          · have hcx := hk.cell (HC.out j hlt) (by simp)
            have hge : Hid (l[j]? = some (l.getD j 0)) := by unfold Hid; rw [List.getD_eq_getElem?_getD, List.getElem?_eq_getElem hlt]; rfl
            have hmem : l.getD j 0 ∈ l := by rw [List.getD_eq_getElem?_getD, List.getElem?_eq_getElem hlt]; exact List.getElem_mem _
            have hbad : okPl true (l.getD j 0) = false → mayPl l true = false := by
              intro h
              rw [hE.out, show l.all (okPl true) = false by rw [← Bool.not_eq_true]; intro e; have := List.all_eq_true.1 e _ hmem; rw [h] at this; cases this]; simp
            have hsrt : 0 < j → l.getD j 0 < l.getD (j - 1) 0 → mayPl l true = false := by
              intro h0 h
              rw [hE.out, srt_false l (j - 1) (by omega) (by rw [show j - 1 + 1 = j by omega]; exact h)]; rfl
            have hxe : Hid (l.getD j 0 = l.getD j 0) := rfl
            have hlI2 : (j : Int) < l.length := by omega
            clear hmem
            by_cases hj0 : 0 < j
            · have hcy := hk.cell (HC.out (j - 1) (by omega)) (by simp)
              have hyx : Hid (∀ t : Nat, t + 1 = j → l.getD (j - 1) 0 ≤ l.getD j 0 → l.getD t 0 ≤ l.getD (t + 1) 0) := by
                intro t ht h
                rw [ht, show t = j - 1 by omega]; exact h
              have hj1 : (1 : Int) ≤ j := by omega
              have hjT : ((j : Int) - 1).toNat = j - 1 := by omega
              have hjU : (j : Int) - 1 < l.length := by omega
              generalize l.getD (j - 1) 0 = y at *
              generalize l.getD j 0 = x at *
              clear hxe
              by_cases h1 : x < 0
              · have hF : Hid (mayPl l true = false) := hbad (by unfold okPl; simp; omega)
                go_wp2_with fail
                go_quiet (fail)
                go_wp2_with fail
                go_ret
                exact ⟨by rw [hF.out]; first | rfl | simp, by (repeat (first | exact Kp.refl _ _ | assumption | refine Kp.drew ?_ | refine Kp.drewN ?_ _ | refine Kp.alloc ?_ _ | (refine Kp.setCell ?_ (by first | (left; simp; done) | (right; simp; try omega)) _) | (refine Kp.trans' ?_ (by assumption) (by simp; try omega))))⟩
              · have h1' : decide (x < 0) = false := decide_eq_false h1
                by_cases h2 : 1048576 < x
                · have hF : Hid (mayPl l true = false) := hbad (by unfold okPl; simp; omega)
                  go_wp2_with fail
                  go_quiet (fail)
                  go_wp2_with fail
                  go_ret
                  exact ⟨by rw [hF.out]; first | rfl | simp, by (repeat (first | exact Kp.refl _ _ | assumption | refine Kp.drew ?_ | refine Kp.drewN ?_ _ | refine Kp.alloc ?_ _ | (refine Kp.setCell ?_ (by first | (left; simp; done) | (right; simp; try omega)) _) | (refine Kp.trans' ?_ (by assumption) (by simp; try omega))))⟩
                · have h2' : decide (1048576 < x) = false := decide_eq_false h2
                  by_cases h5 : x < y
                  · have hF : Hid (mayPl l true = false) := hsrt hj0 h5
                    go_wp2_with fail
                    go_quiet (fail)
                    go_wp2_with fail
                    go_ret
                    exact ⟨by rw [hF.out]; first | rfl | simp, by (repeat (first | exact Kp.refl _ _ | assumption | refine Kp.drew ?_ | refine Kp.drewN ?_ _ | refine Kp.alloc ?_ _ | (refine Kp.setCell ?_ (by first | (left; simp; done) | (right; simp; try omega)) _) | (refine Kp.trans' ?_ (by assumption) (by simp; try omega))))⟩
                  · have h5' : decide (x < y) = false := decide_eq_false h5
                    have HN : Hid ((l.take (j + 1)).all (okPl true) = true) := by
                      rw [Hid, List.take_add_one, hge.out, List.all_append, HA.out]; simp [okPl]; omega
                    have HT2 : Hid (∀ t : Nat, t + 1 < j + 1 → l.getD t 0 ≤ l.getD (t + 1) 0) := by
                      intro t ht
                      by_cases e : t + 1 = j
                      · exact hyx.out t e (by omega)
                      · exact HT.out t (by omega)
                    go_wp2_with fail
                    go_quiet (fail)
                    go_wp2_with fail
                    go_roundw
                    case rel => first | exact ⟨j + 1, by omega, int_eq' (by omega), by (repeat (first | exact Kp.refl _ _ | assumption | refine Kp.drew ?_ | refine Kp.drewN ?_ _ | refine Kp.alloc ?_ _ | (refine Kp.setCell ?_ (by first | (left; simp; done) | (right; simp; try omega)) _) | (refine Kp.trans' ?_ (by assumption) (by simp; try omega)))), HN.out, HT2.out⟩ | ((repeat apply Exists.intro); exact ⟨⟨j + 1, by omega, int_eq' (by omega), by (repeat (first | exact Kp.refl _ _ | assumption | refine Kp.drew ?_ | refine Kp.drewN ?_ _ | refine Kp.alloc ?_ _ | (refine Kp.setCell ?_ (by first | (left; simp; done) | (right; simp; try omega)) _) | (refine Kp.trans' ?_ (by assumption) (by simp; try omega)))), HN.out, HT2.out⟩, rfl⟩) | ((repeat apply Exists.intro); refine ⟨?_, rfl⟩; exact ⟨j + 1, by omega, int_eq' (by omega), by (repeat (first | exact Kp.refl _ _ | assumption | refine Kp.drew ?_ | refine Kp.drewN ?_ _ | refine Kp.alloc ?_ _ | (refine Kp.setCell ?_ (by first | (left; simp; done) | (right; simp; try omega)) _) | (refine Kp.trans' ?_ (by assumption) (by simp; try omega)))), HN.out, HT2.out⟩)
                    case measure => simp [intOf]; omega
            · have hj0' : decide ((0 : Int) < (j : Int)) = false := decide_eq_false (by omega)
              generalize l.getD j 0 = x at *
              clear hxe
              by_cases h1 : x < 0
              · have hF : Hid (mayPl l true = false) := hbad (by unfold okPl; simp; omega)
                go_wp2_with fail
                go_quiet (fail)
                go_wp2_with fail
                go_ret
                exact ⟨by rw [hF.out]; first | rfl | simp, by (repeat (first | exact Kp.refl _ _ | assumption | refine Kp.drew ?_ | refine Kp.drewN ?_ _ | refine Kp.alloc ?_ _ | (refine Kp.setCell ?_ (by first | (left; simp; done) | (right; simp; try omega)) _) | (refine Kp.trans' ?_ (by assumption) (by simp; try omega))))⟩
              · have h1' : decide (x < 0) = false := decide_eq_false h1
                by_cases h2 : 1048576 < x
                · have hF : Hid (mayPl l true = false) := hbad (by unfold okPl; simp; omega)
                  go_wp2_with fail
                  go_quiet (fail)
                  go_wp2_with fail
                  go_ret
                  exact ⟨by rw [hF.out]; first | rfl | simp, by (repeat (first | exact Kp.refl _ _ | assumption | refine Kp.drew ?_ | refine Kp.drewN ?_ _ | refine Kp.alloc ?_ _ | (refine Kp.setCell ?_ (by first | (left; simp; done) | (right; simp; try omega)) _) | (refine Kp.trans' ?_ (by assumption) (by simp; try omega))))⟩
                · have h2' : decide (1048576 < x) = false := decide_eq_false h2
                  have HN : Hid ((l.take (j + 1)).all (okPl true) = true) := by
                    rw [Hid, List.take_add_one, hge.out, List.all_append, HA.out]; simp [okPl]; omega
                  have HT2 : Hid (∀ t : Nat, t + 1 < j + 1 → l.getD t 0 ≤ l.getD (t + 1) 0) := by
                    intro t ht
                    by_cases e : t + 1 = j
                    · omega
                    · exact HT.out t (by omega)
                  go_wp2_with fail
                  go_quiet (fail)
                  go_wp2_with fail
                  go_roundw
                  case rel => first | exact ⟨j + 1, by omega, int_eq' (by omega), by (repeat (first | exact Kp.refl _ _ | assumption | refine Kp.drew ?_ | refine Kp.drewN ?_ _ | refine Kp.alloc ?_ _ | (refine Kp.setCell ?_ (by first | (left; simp; done) | (right; simp; try omega)) _) | (refine Kp.trans' ?_ (by assumption) (by simp; try omega)))), HN.out, HT2.out⟩ | ((repeat apply Exists.intro); exact ⟨⟨j + 1, by omega, int_eq' (by omega), by (repeat (first | exact Kp.refl _ _ | assumption | refine Kp.drew ?_ | refine Kp.drewN ?_ _ | refine Kp.alloc ?_ _ | (refine Kp.setCell ?_ (by first | (left; simp; done) | (right; simp; try omega)) _) | (refine Kp.trans' ?_ (by assumption) (by simp; try omega)))), HN.out, HT2.out⟩, rfl⟩) | ((repeat apply Exists.intro); refine ⟨?_, rfl⟩; exact ⟨j + 1, by omega, int_eq' (by omega), by (repeat (first | exact Kp.refl _ _ | assumption | refine Kp.drew ?_ | refine Kp.drewN ?_ _ | refine Kp.alloc ?_ _ | (refine Kp.setCell ?_ (by first | (left; simp; done) | (right; simp; try omega)) _) | (refine Kp.trans' ?_ (by assumption) (by simp; try omega)))), HN.out, HT2.out⟩)
                  case measure => simp [intOf]; omega
          · obtain rfl : j = l.length := by omega
            have hF : Hid (mayPl l true = true) := by
              have h := HA.out
              rw [List.take_length] at h
              rw [Hid, hE.out, h, srt_true l (fun i hi => HT.out i hi)]; rfl
            go_wp2_with fail
            go_ret
            exact ⟨by rw [hF.out]; rfl, hk⟩
set_option maxRecDepth 100000 in
set_option maxHeartbeats 16000000 in
theorem rmaypl_false (v : Value) (l : List Int) (w : World) (hv : IsInts .i64 w v l) :
    Calls Tryz.prog 31 #[v, .bool false] w fun e w' => e = .returned (.bool (mayPl l false)) ∧ Kp [] w w' := by
  rcases hv with ⟨⟨ad, rfl⟩, rfl⟩ | ⟨g, off, c, rfl, p1, p2, p3⟩
  · go_enter Tryz.func31, Tryz.ntmps31
    go_wp2_with fail
    go_ret
    exact ⟨rfl, Kp.refl _ _⟩
  · have HC : Hid _ := p3
    clear p3
    by_cases hc1 : l.length < 2
    · have hE : Hid (mayPl l false = false) := by unfold Hid mayPl; rw [decide_eq_false (show ¬ 2 ≤ l.length by omega)]; rfl
      have hc1' : (l.length : Int) < 2 := by omega
      go_enter Tryz.func31, Tryz.ntmps31
      go_wp2_with fail
      go_ret
      exact ⟨by rw [hE.out]; rfl, Kp.refl _ _⟩
    · have hc1' : decide ((l.length : Int) < 2) = false := decide_eq_false (by omega)
      by_cases hc2 : 65536 < l.length
      · have hE : Hid (mayPl l false = false) := by unfold Hid mayPl; rw [decide_eq_false (show ¬ l.length ≤ 65536 by omega)]; simp
        have hc2' : (65536 : Int) < l.length := by omega
        go_enter Tryz.func31, Tryz.ntmps31
        go_wp2_with fail
        go_ret
        exact ⟨by rw [hE.out]; rfl, Kp.refl _ _⟩
      · have hc2' : decide ((65536 : Int) < l.length) = false := decide_eq_false (by omega)
        have hE : Hid (mayPl l false = (srt l && l.all (okPl false))) := by unfold Hid mayPl; rw [decide_eq_true (show 2 ≤ l.length by omega), decide_eq_true (show l.length ≤ 65536 by omega)]; rfl
        have hlI : l.length ≤ 70000 := by omega
        clear hc1 hc2
        go_enter Tryz.func31, Tryz.ntmps31
        go_wp2_with fail
        go_loopw [5] (fun i wr => ∃ j : Nat, j ≤ l.length ∧ i = .int .i64 j ∧ Kp [] w wr ∧ Hid ((l.take j).all (okPl false) = true) ∧ Hid (∀ t : Nat, t + 1 < j → l.getD t 0 ≤ l.getD (t + 1) 0)) (fun i _ => l.length - (intOf i).toNat)
        case atStart => exact ⟨0, by omega, rfl, Kp.refl _ _, by simp [Hid], fun t ht => by omega⟩
        case round =>
          obtain ⟨j, hj, rfl, hk, HA, HT⟩ := hrel
          by_cases hlt : j < l.length
          · have hcx := hk.cell (HC.out j hlt) (by simp)
            have hge : Hid (l[j]? = some (l.getD j 0)) := by unfold Hid; rw [List.getD_eq_getElem?_getD, List.getElem?_eq_getElem hlt]; rfl
            have hmem : l.getD j 0 ∈ l := by rw [List.getD_eq_getElem?_getD, List.getElem?_eq_getElem hlt]; exact List.getElem_mem _
            have hbad : okPl false (l.getD j 0) = false → mayPl l false = false := by
              intro h
              rw [hE.out, show l.all (okPl false) = false by rw [← Bool.not_eq_true]; intro e; have := List.all_eq_true.1 e _ hmem; rw [h] at this; cases this]; simp
            have hsrt : 0 < j → l.getD j 0 < l.getD (j - 1) 0 → mayPl l false = false := by
              intro h0 h
              rw [hE.out, srt_false l (j - 1) (by omega) (by rw [show j - 1 + 1 = j by omega]; exact h)]; rfl
            have hxe : Hid (l.getD j 0 = l.getD j 0) := rfl
            have hlI2 : (j : Int) < l.length := by omega
            clear hmem
            by_cases hj0 : 0 < j
            · have hcy := hk.cell (HC.out (j - 1) (by omega)) (by simp)
              have hyx : Hid (∀ t : Nat, t + 1 = j → l.getD (j - 1) 0 ≤ l.getD j 0 → l.getD t 0 ≤ l.getD (t + 1) 0) := by
                intro t ht h
                rw [ht, show t = j - 1 by omega]; exact h
              have hj1 : (1 : Int) ≤ j := by omega
              have hjT : ((j : Int) - 1).toNat = j - 1 := by omega
              have hjU : (j : Int) - 1 < l.length := by omega
              generalize l.getD (j - 1) 0 = y at *
              generalize l.getD j 0 = x at *
              clear hxe
              by_cases h1 : x < 0
              · have hF : Hid (mayPl l false = false) := hbad (by unfold okPl; simp; omega)
                go_wp2_with fail
                go_quiet (fail)
                go_wp2_with fail
                go_ret
                exact ⟨by rw [hF.out]; first | rfl | simp, by (repeat (first | exact Kp.refl _ _ | assumption | refine Kp.drew ?_ | refine Kp.drewN ?_ _ | refine Kp.alloc ?_ _ | (refine Kp.setCell ?_ (by first | (left; simp; done) | (right; simp; try omega)) _) | (refine Kp.trans' ?_ (by assumption) (by simp; try omega))))⟩
              · have h1' : decide (x < 0) = false := decide_eq_false h1
                by_cases h2 : 1048576 < x
                · have hF : Hid (mayPl l false = false) := hbad (by unfold okPl; simp; omega)
                  go_wp2_with fail
                  go_quiet (fail)
                  go_wp2_with fail
                  go_ret
                  exact ⟨by rw [hF.out]; first | rfl | simp, by (repeat (first | exact Kp.refl _ _ | assumption | refine Kp.drew ?_ | refine Kp.drewN ?_ _ | refine Kp.alloc ?_ _ | (refine Kp.setCell ?_ (by first | (left; simp; done) | (right; simp; try omega)) _) | (refine Kp.trans' ?_ (by assumption) (by simp; try omega))))⟩
                · have h2' : decide (1048576 < x) = false := decide_eq_false h2
                  by_cases h5 : x < y
                  · have hF : Hid (mayPl l false = false) := hsrt hj0 h5
                    go_wp2_with fail
                    go_quiet (fail)
                    go_wp2_with fail
                    go_ret
                    exact ⟨by rw [hF.out]; first | rfl | simp, by (repeat (first | exact Kp.refl _ _ | assumption | refine Kp.drew ?_ | refine Kp.drewN ?_ _ | refine Kp.alloc ?_ _ | (refine Kp.setCell ?_ (by first | (left; simp; done) | (right; simp; try omega)) _) | (refine Kp.trans' ?_ (by assumption) (by simp; try omega))))⟩
                  · have h5' : decide (x < y) = false := decide_eq_false h5
                    have hWJ : IntKind.i64.wrap ((j : Int) - 1) = (j : Int) - 1 := by rw [IntKind.wrap_i64]; omega
                    by_cases h3 : x % 2 = 0
                    · have h3' : (Int.tmod x 2 != 0) = false := by rw [Int.tmod_eq_emod_of_nonneg (by omega), h3]; rfl
                      have h3e : (x % 2 != 0) = false := by rw [h3]; rfl
                      by_cases h4 : 131070 < x
                      · have hF : Hid (mayPl l false = false) := hbad (by unfold okPl; simp; omega)
                        clear h3 hbad hsrt
                        go_wp2_with fail
                        go_quiet (fail)
                        go_wp2_with fail
                        go_ret
                        exact ⟨by rw [hF.out]; first | rfl | simp, by (repeat (first | exact Kp.refl _ _ | assumption | refine Kp.drew ?_ | refine Kp.drewN ?_ _ | refine Kp.alloc ?_ _ | (refine Kp.setCell ?_ (by first | (left; simp; done) | (right; simp; try omega)) _) | (refine Kp.trans' ?_ (by assumption) (by simp; try omega))))⟩
                      · have h4' : decide (131070 < x) = false := decide_eq_false h4
                        have HN : Hid ((l.take (j + 1)).all (okPl false) = true) := by
                          rw [Hid, List.take_add_one, hge.out, List.all_append, HA.out]; simp [okPl]; omega
                        have HT2 : Hid (∀ t : Nat, t + 1 < j + 1 → l.getD t 0 ≤ l.getD (t + 1) 0) := by
                          intro t ht
                          by_cases e : t + 1 = j
                          · exact hyx.out t e (by omega)
                          · exact HT.out t (by omega)
                        clear h3 hbad hsrt
                        go_wp2_with fail
                        go_quiet (fail)
                        go_wp2_with fail
                        go_roundw
                        case rel => first | exact ⟨j + 1, by omega, int_eq' (by omega), by (repeat (first | exact Kp.refl _ _ | assumption | refine Kp.drew ?_ | refine Kp.drewN ?_ _ | refine Kp.alloc ?_ _ | (refine Kp.setCell ?_ (by first | (left; simp; done) | (right; simp; try omega)) _) | (refine Kp.trans' ?_ (by assumption) (by simp; try omega)))), HN.out, HT2.out⟩ | ((repeat apply Exists.intro); exact ⟨⟨j + 1, by omega, int_eq' (by omega), by (repeat (first | exact Kp.refl _ _ | assumption | refine Kp.drew ?_ | refine Kp.drewN ?_ _ | refine Kp.alloc ?_ _ | (refine Kp.setCell ?_ (by first | (left; simp; done) | (right; simp; try omega)) _) | (refine Kp.trans' ?_ (by assumption) (by simp; try omega)))), HN.out, HT2.out⟩, rfl⟩) | ((repeat apply Exists.intro); refine ⟨?_, rfl⟩; exact ⟨j + 1, by omega, int_eq' (by omega), by (repeat (first | exact Kp.refl _ _ | assumption | refine Kp.drew ?_ | refine Kp.drewN ?_ _ | refine Kp.alloc ?_ _ | (refine Kp.setCell ?_ (by first | (left; simp; done) | (right; simp; try omega)) _) | (refine Kp.trans' ?_ (by assumption) (by simp; try omega)))), HN.out, HT2.out⟩)
                        case measure => simp [intOf]; omega
                    · have h3' : (Int.tmod x 2 != 0) = true := by rw [Int.tmod_eq_emod_of_nonneg (by omega)]; exact bne_iff_ne.2 h3
                      have h3e : (x % 2 != 0) = true := bne_iff_ne.2 h3
                      have hF : Hid (mayPl l false = false) := hbad (by unfold okPl; simp; omega)
                      clear h3 hbad hsrt
                      go_wp2_with fail
                      go_quiet (fail)
                      go_wp2_with fail
                      go_ret
                      exact ⟨by rw [hF.out]; first | rfl | simp, by (repeat (first | exact Kp.refl _ _ | assumption | refine Kp.drew ?_ | refine Kp.drewN ?_ _ | refine Kp.alloc ?_ _ | (refine Kp.setCell ?_ (by first | (left; simp; done) | (right; simp; try omega)) _) | (refine Kp.trans' ?_ (by assumption) (by simp; try omega))))⟩
            · have hj0' : decide ((0 : Int) < (j : Int)) = false := decide_eq_false (by omega)
              generalize l.getD j 0 = x at *
              clear hxe
              by_cases h1 : x < 0
              · have hF : Hid (mayPl l false = false) := hbad (by unfold okPl; simp; omega)
                go_wp2_with fail
                go_quiet (fail)
                go_wp2_with fail
                go_ret
                exact ⟨by rw [hF.out]; first | rfl | simp, by (repeat (first | exact Kp.refl _ _ | assumption | refine Kp.drew ?_ | refine Kp.drewN ?_ _ | refine Kp.alloc ?_ _ | (refine Kp.setCell ?_ (by first | (left; simp; done) | (right; simp; try omega)) _) | (refine Kp.trans' ?_ (by assumption) (by simp; try omega))))⟩
              · have h1' : decide (x < 0) = false := decide_eq_false h1
                by_cases h2 : 1048576 < x
                · have hF : Hid (mayPl l false = false) := hbad (by unfold okPl; simp; omega)
                  go_wp2_with fail
                  go_quiet (fail)
                  go_wp2_with fail
                  go_ret
                  exact ⟨by rw [hF.out]; first | rfl | simp, by (repeat (first | exact Kp.refl _ _ | assumption | refine Kp.drew ?_ | refine Kp.drewN ?_ _ | refine Kp.alloc ?_ _ | (refine Kp.setCell ?_ (by first | (left; simp; done) | (right; simp; try omega)) _) | (refine Kp.trans' ?_ (by assumption) (by simp; try omega))))⟩
                · have h2' : decide (1048576 < x) = false := decide_eq_false h2
                  skip
                  by_cases h3 : x % 2 = 0
                  · have h3' : (Int.tmod x 2 != 0) = false := by rw [Int.tmod_eq_emod_of_nonneg (by omega), h3]; rfl
                    have h3e : (x % 2 != 0) = false := by rw [h3]; rfl
                    by_cases h4 : 131070 < x
                    · have hF : Hid (mayPl l false = false) := hbad (by unfold okPl; simp; omega)
                      clear h3 hbad hsrt
                      go_wp2_with fail
                      go_quiet (fail)
                      go_wp2_with fail
                      go_ret
                      exact ⟨by rw [hF.out]; first | rfl | simp, by (repeat (first | exact Kp.refl _ _ | assumption | refine Kp.drew ?_ | refine Kp.drewN ?_ _ | refine Kp.alloc ?_ _ | (refine Kp.setCell ?_ (by first | (left; simp; done) | (right; simp; try omega)) _) | (refine Kp.trans' ?_ (by assumption) (by simp; try omega))))⟩
                    · have h4' : decide (131070 < x) = false := decide_eq_false h4
                      have HN : Hid ((l.take (j + 1)).all (okPl false) = true) := by
                        rw [Hid, List.take_add_one, hge.out, List.all_append, HA.out]; simp [okPl]; omega
                      have HT2 : Hid (∀ t : Nat, t + 1 < j + 1 → l.getD t 0 ≤ l.getD (t + 1) 0) := by
                        intro t ht
                        by_cases e : t + 1 = j
                        · omega
                        · exact HT.out t (by omega)
                      clear h3 hbad hsrt
                      go_wp2_with fail
                      go_quiet (fail)
                      go_wp2_with fail
                      go_roundw
                      case rel => first | exact ⟨j + 1, by omega, int_eq' (by omega), by (repeat (first | exact Kp.refl _ _ | assumption | refine Kp.drew ?_ | refine Kp.drewN ?_ _ | refine Kp.alloc ?_ _ | (refine Kp.setCell ?_ (by first | (left; simp; done) | (right; simp; try omega)) _) | (refine Kp.trans' ?_ (by assumption) (by simp; try omega)))), HN.out, HT2.out⟩ | ((repeat apply Exists.intro); exact ⟨⟨j + 1, by omega, int_eq' (by omega), by (repeat (first | exact Kp.refl _ _ | assumption | refine Kp.drew ?_ | refine Kp.drewN ?_ _ | refine Kp.alloc ?_ _ | (refine Kp.setCell ?_ (by first | (left; simp; done) | (right; simp; try omega)) _) | (refine Kp.trans' ?_ (by assumption) (by simp; try omega)))), HN.out, HT2.out⟩, rfl⟩) | ((repeat apply Exists.intro); refine ⟨?_, rfl⟩; exact ⟨j + 1, by omega, int_eq' (by omega), by (repeat (first | exact Kp.refl _ _ | assumption | refine Kp.drew ?_ | refine Kp.drewN ?_ _ | refine Kp.alloc ?_ _ | (refine Kp.setCell ?_ (by first | (left; simp; done) | (right; simp; try omega)) _) | (refine Kp.trans' ?_ (by assumption) (by simp; try omega)))), HN.out, HT2.out⟩)
                      case measure => simp [intOf]; omega
                  · have h3' : (Int.tmod x 2 != 0) = true := by rw [Int.tmod_eq_emod_of_nonneg (by omega)]; exact bne_iff_ne.2 h3
                    have h3e : (x % 2 != 0) = true := bne_iff_ne.2 h3
                    have hF : Hid (mayPl l false = false) := hbad (by unfold okPl; simp; omega)
                    clear h3 hbad hsrt
                    go_wp2_with fail
                    go_quiet (fail)
                    go_wp2_with fail
                    go_ret
                    exact ⟨by rw [hF.out]; first | rfl | simp, by (repeat (first | exact Kp.refl _ _ | assumption | refine Kp.drew ?_ | refine Kp.drewN ?_ _ | refine Kp.alloc ?_ _ | (refine Kp.setCell ?_ (by first | (left; simp; done) | (right; simp; try omega)) _) | (refine Kp.trans' ?_ (by assumption) (by simp; try omega))))⟩
          · obtain rfl : j = l.length := by omega
            have hF : Hid (mayPl l false = true) := by
              have h := HA.out
              rw [List.take_length] at h
              rw [Hid, hE.out, h, srt_true l (fun i hi => HT.out i hi)]; rfl
            go_wp2_with fail
            go_ret
            exact ⟨by rw [hF.out]; rfl, hk⟩
theorem rmaypl_calls (v : Value) (l : List Int) (long : Bool) (w : World) (hv : IsInts .i64 w v l) :
    Calls Tryz.prog 31 #[v, .bool long] w fun e w' => e = .returned (.bool (mayPl l long)) ∧ Kp [] w w' := by
  cases long
  · exact rmaypl_false v l w hv
  · exact rmaypl_true v l w hv
end Go.Proofs.YtafkhnlmipddmaaGreat
namespace Go.Proofs.YtafkhnlmipddmaaGreat
open Go.RowKit
set_option linter.unusedVariables false
set_option linter.unusedSimpArgs false
/-- Where the reference's put of places stands in memory. -/
def RQSt (w wr : World) (B : Nat) (v : Value) (l acc : List Int) (v5 : Value) : Prop :=
  IsInts .i64 wr v l ∧ wr.ownsRow B 5 1 v5 acc.length (acc.map (Value.int .u8)) ∧ Kp [] w wr ∧ w.heap.size = B ∧ ∀ b, blockOf v = some b → b < B
theorem RQSt.kp {w wr w2 : World} {B : Nat} {v : Value} {l acc : List Int} {v5 : Value} (h : RQSt w wr B v l acc v5) (hq : Kp [] wr w2) : RQSt w w2 B v l acc v5 :=
  ⟨h.1.kp hq (by simp), hq.row h.2.1 (by simp), h.2.2.1.trans hq, h.2.2.2⟩
theorem RQSt.base {w wr : World} {B : Nat} {v : Value} {l acc : List Int} {v5 : Value} (h : RQSt w wr B v l acc v5) : B ≤ wr.heap.size := by have := h.2.2.1.size; have := h.2.2.2.1; omega
theorem RQSt.app {w wr wq w2 : World} {B : Nat} {v : Value} {l acc news : List Int} {v5 v7 : Value} (h : RQSt w wr B v l acc v5) (hq : Kp [] wr wq)
    (hown : w2.ownsRow B 5 1 v7 (acc.length + news.length) (acc.map (Value.int .u8) ++ news.map (Value.int .u8))) (hg : wq.grownBy w2 v5.ownBlock) : RQSt w w2 B v l (acc ++ news) v7 := by
  obtain ⟨h1, h2, h3, h4, h5⟩ := h
  have hge := own_ge h2
  have hk : Kp [] w w2 := Kp.grown (h3.trans hq) hg (fun k hk => .inr (by have := hge k hk; omega))
  have hk2 : Kp (v5.ownBlock.toList) wr w2 := Kp.grown (hq.more (fun s hs => nomatch hs)) hg (fun k hk => .inl (by rw [hk]; simp))
  have hnot2 : ∀ s ∈ v5.ownBlock.toList, blockOf v ≠ some s := by
    intro s hs; cases hv : v5.ownBlock with
    | none => simp [hv] at hs
    | some b => simp [hv] at hs; subst hs; intro e; have := h5 _ e; have := hge _ hv; omega
  exact ⟨h1.kp hk2 hnot2, by simpa using hown, hk, h4, h5⟩
/-- What a put hands back. -/
def RQD (R : List Int) (w : World) (e : Ending) (w' : World) : Prop := ∃ v, e = .returned v ∧ IsInts .u8 w' v R ∧ Kp [] w w' ∧ ∀ b, blockOf v = some b → w.heap.size ≤ b
set_option maxRecDepth 100000 in
set_option maxHeartbeats 2000000 in
theorem rputpl_calls (v : Value) (l : List Int) (long : Bool) (w : World) (hm : mayPl l long = true) (hv : IsInts .i64 w v l) (hvb : ∀ b, blockOf v = some b → b < w.heap.size) :
    Calls Tryz.prog 33 #[v, .bool long] w (RQD (plPre l long l.length) w) := by
  unfold mayPl at hm
  simp only [Bool.and_eq_true, decide_eq_true_eq] at hm
  obtain ⟨⟨⟨k1, k2⟩, k3⟩, k4⟩ := hm
  have HA : Hid (∀ x ∈ l, 0 ≤ x ∧ x ≤ 1048576) := by
    intro x hx
    have := List.all_eq_true.1 k4 x hx
    simp only [okPl, Bool.and_eq_true, decide_eq_true_eq] at this
    omega
  have HV : Hid (IsInts .i64 w v l) := hv
  have HVB : Hid _ := hvb
  rcases hv with ⟨⟨ad, rfl⟩, rfl⟩ | ⟨g, off, c, rfl, p1, p2, p3⟩
  · simp at k1
  have hlI : l.length ≤ 70000 := by omega
  clear k3 k4 p3 hvb k2
  go_enter Tryz.func33, Tryz.ntmps33
  go_wp2_with fail
  generalize hB : w.heap.size = B at *
  go_loopw [5, 6] (fun v5 i wr => ∃ j : Nat, j ≤ l.length ∧ i = .int .i64 j ∧ RQSt w wr B (.slice (some ⟨g, off, none⟩) l.length c) l (plPre l long j) v5) (fun _ i _ => l.length - (intOf i).toNat)
  case atStart => exact ⟨0, by omega, rfl, HV.out, World.ownsRow_nil _ _ _ _, Kp.refl _ _, hB, HVB.out⟩
  case round =>
    obtain ⟨j, hj, rfl, hs⟩ := hrel
    obtain ⟨p5, c5, rfl⟩ := slice_own hs.2.1
    have HS : Hid (RQSt w wr B (.slice (some ⟨g, off, none⟩) l.length c) l (plPre l long j) (.slice p5 (plPre l long j).length c5)) := hs
    clear hs
    by_cases hlt : j < l.length
    · have hc1 : wr.cell? ⟨g, off + j, none⟩ = some (.int .i64 (l.getD j 0)) := by
        rcases HS.out.1 with ⟨⟨ad, h⟩, h'⟩ | ⟨g1, o1, c1, h, _, _, h3⟩
        · exfalso; rw [h'] at hlt; simp at hlt
        · cases h; exact h3 j hlt
      have hb := HA.out (l.getD j 0) (by rw [List.getD_eq_getElem?_getD, List.getElem?_eq_getElem hlt]; exact List.getElem_mem _)
      obtain ⟨b1, b2⟩ := hb
      have hlen := plPre_len l long j
      have hpre : Hid (plPre l long (j + 1) = plPre l long j ++ if long then bytesN 4 (l.getD j 0) else bytesN 2 (l.getD j 0 / 2)) := rfl
      generalize l.getD j 0 = x at *
      cases long
      · have hroom : (plPre l false j).length ≤ 300000 := by rw [hlen]; simp; omega
        clear hlen
        generalize plPre l false j = acc at *
        have htd : Int.tdiv x 2 = x / 2 := Int.tdiv_eq_ediv_of_nonneg b1
        go_wp2_with fail
        refine (rbytes_calls 2 (x / 2) (by decide) (by decide) (by omega) (by omega) _).mono ?_
        rintro e w3 ⟨v3, rfl, hown3, hk3⟩
        obtain ⟨p3, c3, rfl⟩ := slice_own hown3
        have HS3 : Hid (RQSt w w3 B (.slice (some ⟨g, off, none⟩) l.length c) l acc (.slice p5 acc.length c5)) := HS.out.kp hk3
        have hr3 := Lib.hid (Reads.owned hown3)
        clear hown3 hk3 hc1
        go_wp2_with (at_builtin; refine wpList_app rfl _ _ 25 rfl B 5 (.int .u8 0) 1 1 Tryz.underlying25 infoByte rfl (by decide) (by decide) (.slice p5 acc.length c5) acc.length (acc.map (Value.int .u8)) rfl ?hown (.slice p3 2 c3) 2 ((bytesN 2 (x / 2)).map (Value.int .u8)) rfl ?hsrc (oneCell_ints _ _) ?hb1 ?hb2 ?hk)
        case hown => exact HS3.out.2.1
        case hsrc => exact hr3.out
        case hb1 => omega
        case hb2 => exact HS3.out.base
        case hk =>
        intro u w4 hown hgr
        have hs4 : RQSt w w4 B (.slice (some ⟨g, off, none⟩) l.length c) l (acc ++ bytesN 2 (x / 2)) u := HS3.out.app (Kp.refl _ _) (by rw [bytesN_length]; exact hown) hgr
        rw [show acc ++ bytesN 2 (x / 2) = plPre l false (j + 1) from hpre.out.symm] at hs4
        clear hown hgr
        go_wp2_with fail
        go_roundw
        case rel => first | exact ⟨j + 1, by omega, int_eq' (by omega), hs4⟩ | ((repeat apply Exists.intro); exact ⟨⟨j + 1, by omega, int_eq' (by omega), hs4⟩, rfl⟩)
        case measure => simp [intOf]; omega
      · have hroom : (plPre l true j).length ≤ 300000 := by rw [hlen]; simp; omega
        clear hlen
        generalize plPre l true j = acc at *
        go_wp2_with fail
        refine (rbytes_calls 4 x (by decide) (by decide) (by omega) (by omega) _).mono ?_
        rintro e w3 ⟨v3, rfl, hown3, hk3⟩
        obtain ⟨p3, c3, rfl⟩ := slice_own hown3
        have HS3 : Hid (RQSt w w3 B (.slice (some ⟨g, off, none⟩) l.length c) l acc (.slice p5 acc.length c5)) := HS.out.kp hk3
        have hr3 := Lib.hid (Reads.owned hown3)
        clear hown3 hk3 hc1
        go_wp2_with (at_builtin; refine wpList_app rfl _ _ 25 rfl B 5 (.int .u8 0) 1 1 Tryz.underlying25 infoByte rfl (by decide) (by decide) (.slice p5 acc.length c5) acc.length (acc.map (Value.int .u8)) rfl ?hown (.slice p3 4 c3) 4 ((bytesN 4 x).map (Value.int .u8)) rfl ?hsrc (oneCell_ints _ _) ?hb1 ?hb2 ?hk)
        case hown => exact HS3.out.2.1
        case hsrc => exact hr3.out
        case hb1 => omega
        case hb2 => exact HS3.out.base
        case hk =>
        intro u w4 hown hgr
        have hs4 : RQSt w w4 B (.slice (some ⟨g, off, none⟩) l.length c) l (acc ++ bytesN 4 x) u := HS3.out.app (Kp.refl _ _) (by rw [bytesN_length]; exact hown) hgr
        rw [show acc ++ bytesN 4 x = plPre l true (j + 1) from hpre.out.symm] at hs4
        clear hown hgr
        go_wp2_with fail
        go_roundw
        case rel => first | exact ⟨j + 1, by omega, int_eq' (by omega), hs4⟩ | ((repeat apply Exists.intro); exact ⟨⟨j + 1, by omega, int_eq' (by omega), hs4⟩, rfl⟩)
        case measure => simp [intOf]; omega
    · obtain rfl : j = l.length := by omega
      go_wp2_with fail
      go_ret
      exact ⟨_, rfl, IsInts.owned HS.out.2.1, HS.out.2.2.1, fun b hb => by have := own_geb HS.out.2.1 b hb; omega⟩
end Go.Proofs.YtafkhnlmipddmaaGreat
namespace Go.Proofs.YtafkhnlmipddmaaGreat
set_option linter.unusedVariables false
set_option linter.unusedSimpArgs false
theorem rd_atM (A B C : List Int) : rdB (A ++ B ++ C) A.length false B.length = false ∧ rdV (A ++ B ++ C) A.length false B.length = beN B ∧ rdK (A ++ B ++ C) A.length false B.length = A.length + B.length := by
  have h1 : rdB (A ++ B ++ C) A.length false B.length = false := by unfold rdB; simp
  refine ⟨h1, ?_, ?_⟩
  · unfold rdV cutB; rw [h1, if_neg (by simp), List.append_assoc, List.drop_left, List.take_left]
  · unfold rdK; rw [h1, if_neg (by simp)]
theorem rd_inM {zs A B C : List Int} (h : zs = A ++ B ++ C) (k m : Nat) (hk : k = A.length) (hm : m = B.length) : rdB zs k false m = false ∧ rdV zs k false m = beN B ∧ rdK zs k false m = k + m := by
  subst h hk hm; exact rd_atM A B C
theorem beN_bytes2 (x : Int) (h0 : 0 ≤ x) (h1 : x ≤ 65535) : beN (bytesN 2 x) = x := by simp [beN, bytesN]; omega
theorem beN_bytes4 (x : Int) (h0 : 0 ≤ x) (h1 : x ≤ 4294967295) : beN (bytesN 4 x) = x := by simp [beN, bytesN]; omega
theorem plPre_split (l : List Int) (long : Bool) (j d : Nat) : ∃ r, plPre l long (j + d) = plPre l long j ++ r := by
  induction d with
  | zero => exact ⟨[], by simp⟩
  | succ d ih =>
    obtain ⟨r, h⟩ := ih
    refine ⟨r ++ (if long then bytesN 4 (l.getD (j + d) 0) else bytesN 2 (l.getD (j + d) 0 / 2)), ?_⟩
    rw [show j + (d + 1) = (j + d) + 1 by omega, plPre, h, List.append_assoc]
theorem pl_read (l : List Int) (long : Bool) (behind : List Int) (j : Nat) (hj : j < l.length) (h : okPl long (l.getD j 0) = true) :
    plB (plPre l long l.length ++ behind) long ((if long then 4 else 2) * j) = false ∧ plV (plPre l long l.length ++ behind) long ((if long then 4 else 2) * j) = l.getD j 0 ∧ plK (plPre l long l.length ++ behind) long ((if long then 4 else 2) * j) = (if long then 4 else 2) * (j + 1) := by
  obtain ⟨r, hr⟩ := plPre_split l long (j + 1) (l.length - (j + 1))
  rw [show j + 1 + (l.length - (j + 1)) = l.length by omega] at hr
  have hl := plPre_len l long j
  unfold okPl at h
  simp only [Bool.and_eq_true, Bool.or_eq_true, decide_eq_true_eq, beq_iff_eq] at h
  obtain ⟨⟨h0, h1⟩, h2⟩ := h
  cases long
  · have e := rd_inM (zs := plPre l false l.length ++ behind) (A := plPre l false j) (B := bytesN 2 (l.getD j 0 / 2)) (C := r ++ behind) (by rw [hr, plPre]; simp [List.append_assoc]) (2 * j) 2 (by rw [hl]; simp) (bytesN_length 2 _).symm
    have h2' : l.getD j 0 % 2 = 0 ∧ l.getD j 0 ≤ 131070 := by
      rcases h2 with h2 | h2
      · cases h2
      · exact h2
    obtain ⟨h3, h4⟩ := h2'
    rw [beN_bytes2 _ (by omega) (by omega)] at e
    refine ⟨e.1, ?_, ?_⟩
    · show 2 * rdV _ (2 * j) false 2 = _
      rw [e.2.1]; omega
    · show rdK _ (2 * j) false 2 = 2 * (j + 1)
      rw [e.2.2]; omega
  · have e := rd_inM (zs := plPre l true l.length ++ behind) (A := plPre l true j) (B := bytesN 4 (l.getD j 0)) (C := r ++ behind) (by rw [hr, plPre]; simp [List.append_assoc]) (4 * j) 4 (by rw [hl]; simp) (bytesN_length 4 _).symm
    rw [beN_bytes4 _ (by omega) (by omega)] at e
    refine ⟨e.1, e.2.1, ?_⟩
    show rdK _ (4 * j) false 4 = 4 * (j + 1)
    rw [e.2.2]; omega
theorem srt_le (l : List Int) (h : srt l = true) (i d : Nat) (hi : i + d < l.length) : l.getD i 0 ≤ l.getD (i + d) 0 := by
  induction d with
  | zero => exact Int.le_refl _
  | succ d ih => have a := ih (by omega); have b := srt_at l h (i + d) (by omega); rw [show i + (d + 1) = i + d + 1 by omega]; omega
theorem plGo_put (l : List Int) (long : Bool) (behind : List Int) (hok : l.all (okPl long) = true) (hs : srt l = true) :
    ∀ (m j : Nat) (lst : Int), j + m = l.length → (j = 0 → lst = 0) → (0 < j → lst = l.getD (j - 1) 0) → plGo (plPre l long l.length ++ behind) long (l.getD (l.length - 1) 0) m lst (l.take j) ((if long then 4 else 2) * j) = some l := by
  intro m
  induction m with
  | zero => intro j lst h1 h2 h3; rw [show j = l.length by omega, List.take_length]; rfl
  | succ m ih =>
    intro j lst h1 h2 h3
    have hj : j < l.length := by omega
    have hm : l.getD j 0 ∈ l := by rw [List.getD_eq_getElem?_getD, List.getElem?_eq_getElem hj]; exact List.getElem_mem _
    have hk := List.all_eq_true.1 hok _ hm
    obtain ⟨e1, e2, e3⟩ := pl_read l long behind j hj hk
    have hle : l.getD j 0 ≤ l.getD (l.length - 1) 0 := by
      have := srt_le l hs j (l.length - 1 - j) (by omega)
      rwa [show j + (l.length - 1 - j) = l.length - 1 by omega] at this
    have h0 : 0 ≤ l.getD j 0 := by
      unfold okPl at hk
      simp only [Bool.and_eq_true, decide_eq_true_eq] at hk
      exact hk.1.1
    have hlst : lst ≤ l.getD j 0 := by
      by_cases hz : j = 0
      · rw [h2 hz]; exact h0
      · rw [h3 (by omega)]
        have := srt_at l hs (j - 1) (by omega)
        rwa [show j - 1 + 1 = j by omega] at this
    rw [plGo, e1, e2, e3, if_neg (by rintro (h | h | h); cases h; omega; omega)]
    have ht : l.take j ++ [l.getD j 0] = l.take (j + 1) := by
      rw [List.take_add_one, List.getD_eq_getElem?_getD, List.getElem?_eq_getElem hj]; rfl
    rw [ht]
    exact ih (j + 1) _ (by omega) (fun h => by omega) (fun _ => by rw [Nat.add_sub_cancel])
theorem pl_put (l : List Int) (long : Bool) (behind : List Int) (hm : mayPl l long = true) : plLoad (plPre l long l.length ++ behind) (l.length - 1) long (l.getD (l.length - 1) 0) = some l := by
  unfold mayPl at hm
  simp only [Bool.and_eq_true, decide_eq_true_eq] at hm
  obtain ⟨⟨⟨k1, k2⟩, k3⟩, k4⟩ := hm
  have := plGo_put l long behind k4 k3 l.length 0 0 (by omega) (fun _ => rfl) (fun h => absurd h (by omega))
  unfold plLoad
  rw [show l.length - 1 + 1 = l.length by omega]
  simpa using this
theorem plPre_bytes (l : List Int) (long : Bool) (j : Nat) : ∀ c ∈ plPre l long j, 0 ≤ c ∧ c ≤ 255 := by
  have hb : ∀ (n : Nat) (x c : Int), c ∈ bytesN n x → 0 ≤ c ∧ c ≤ 255 := by
    intro n
    induction n with
    | zero => intro x c h; simp [bytesN] at h
    | succ n ih =>
      intro x c h
      rcases List.mem_cons.1 h with rfl | h
      · omega
      · exact ih x c h
  induction j with
  | zero => intro c h; simp [plPre] at h
  | succ j ih =>
    intro c h
    unfold plPre at h
    rcases List.mem_append.1 h with h | h
    · exact ih c h
    · cases long
      · exact hb 2 _ c h
      · exact hb 4 _ c h
end Go.Proofs.YtafkhnlmipddmaaGreat

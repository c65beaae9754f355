/- metric.LoadPlaces: places out of bytes. -/
import Derived.Test.YthmokldmdcjklaaMtA
import Derived.Test.YthmokldmdcjklaaMtD
import Derived.Lib.Hide
namespace Go.Proofs.Ythmokldmdcjklaa
open Go.RowKit
set_option linter.unusedVariables false
set_option linter.unusedSimpArgs false
/-- One place's number, from k on. -/
def plV (zs : List Int) (long : Bool) (k : Nat) : Int := if long then rdV zs k false 4 else 2 * rdV zs k false 2
def plB (zs : List Int) (long : Bool) (k : Nat) : Bool := if long then rdB zs k false 4 else rdB zs k false 2
def plK (zs : List Int) (long : Bool) (k : Nat) : Nat := if long then rdK zs k false 4 else rdK zs k false 2
/-- So many places: none is less than the one before it, none greater than the size. -/
def plGo (zs : List Int) (long : Bool) (size : Int) : Nat → Int → List Int → Nat → Option (List Int)
  | 0, _, l, _ => some l
  | m + 1, last, l, k => if plB zs long k = true ∨ plV zs long k < last ∨ size < plV zs long k then none else plGo zs long size m (plV zs long k) (l ++ [plV zs long k]) (plK zs long k)
def plLoad (zs : List Int) (n : Nat) (long : Bool) (size : Int) : Option (List Int) := plGo zs long size (n + 1) 0 [] 0
theorem plV_bounds (zs : List Int) (long : Bool) (k : Nat) (hb : ∀ c ∈ zs, 0 ≤ c ∧ c ≤ 255) : 0 ≤ plV zs long k ∧ plV zs long k ≤ 4294967295 := by
  unfold plV
  cases long
  · have := rdV_bounds zs k false 2 hb; simp; omega
  · have := rdV_bounds zs k false 4 hb; simp; omega
theorem plK_le (zs : List Int) (long : Bool) (k : Nat) (h : k ≤ zs.length) : plK zs long k ≤ zs.length := by
  unfold plK; cases long <;> exact rdK_le _ _ _ _ h
/-- Where a load of places stands in memory. -/
structure PSt (w wr : World) (b6 r b10 q : Nat) (v : Value) (zs : List Int) (long : Bool) (k : Nat) (bad : Bool) (A : List Int) (va : Value) : Prop where
  rd : Rdr wr r v (k : Nat) bad
  obj : wr.heap[q]? = some (.cells #[va] 98 (0, 0))
  own : wr.ownsRow (q + 1) 3 1 va A.length (A.map (Value.int .i64))
  ints : IsInts .u8 wr v zs
  kp : Kp [] w wr
  sz : q < wr.heap.size
  c6 : wr.cell? ⟨b6, 0, none⟩ = some (.bool long)
  c10 : wr.cell? ⟨b10, 0, none⟩ = some (.pointer (some ⟨r, 0, none⟩))
  ord : w.heap.size ≤ b6 ∧ b6 < r ∧ r < b10 ∧ b10 < q
  vb0 : ∀ b, blockOf v = some b → b < b6
theorem PSt.rkp {w wr w2 : World} {b6 r b10 q : Nat} {v : Value} {zs : List Int} {long : Bool} {k k2 : Nat} {bad bad2 : Bool} {A : List Int} {va : Value} (h : PSt w wr b6 r b10 q v zs long k bad A va) (hk : Kp [r] wr w2) (hr : Rdr w2 r v (k2 : Nat) bad2) : PSt w w2 b6 r b10 q v zs long k2 bad2 A va := by
  obtain ⟨o1, o2, o3, o4⟩ := h.ord
  exact ⟨hr, hk.heap h.obj (by simp; omega), hk.row h.own (fun s hs e => by simp at hs; subst hs; have := own_ge h.own _ e; omega), h.ints.kp hk (fun s hs hz => by simp at hs; subst hs; have := h.vb0 _ hz; omega), h.kp.trans' hk (fun t ht => .inr (by simp at ht; subst ht; omega)), Nat.lt_of_lt_of_le h.sz hk.size, hk.cell h.c6 (by simp; omega), hk.cell h.c10 (by simp; omega), h.ord, h.vb0⟩
theorem PSt.drew {w wr w2 : World} {b6 r b10 q : Nat} {v : Value} {zs : List Int} {long : Bool} {k : Nat} {bad : Bool} {A : List Int} {va : Value} (h : PSt w wr b6 r b10 q v zs long k bad A va) (hk : Kp [] wr w2) : PSt w w2 b6 r b10 q v zs long k bad A va :=
  h.rkp (hk.more (fun s hs => nomatch hs)) (h.rd.kp hk (by simp))
theorem PSt.facts {w wr : World} {b6 r b10 q : Nat} {v : Value} {zs : List Int} {long : Bool} {k : Nat} {bad : Bool} {A : List Int} {va : Value} (h : PSt w wr b6 r b10 q v zs long k bad A va) :
    wr.cell? ⟨q, 0, none⟩ = some va ∧ wr.frozen? ⟨q, 0, none⟩ = false := ⟨by rw [cell_of_row wr q 0 _ _ _ h.obj]; rfl, frozen_of_row wr q 0 _ _ h.obj⟩
theorem PSt.grew {w wr w4 : World} {b6 r b10 q : Nat} {v : Value} {zs : List Int} {long : Bool} {k : Nat} {bad : Bool} {A : List Int} {va : Value} {O : Obj} (h : PSt w wr b6 r b10 q v zs long k bad A va)
    (hgr : (wr.alloc O).drew.grownBy w4 va.ownBlock) : Kp va.ownBlock.toList wr w4 ∧ w4.heap[q]? = some (.cells #[va] 98 (0, 0)) ∧ q ∉ va.ownBlock.toList ∧ ∀ s ∈ va.ownBlock.toList, q + 1 ≤ s := by
  have hall : ∀ s ∈ va.ownBlock.toList, q + 1 ≤ s := by
    intro s hs; cases hv : va.ownBlock with
    | none => simp [hv] at hs
    | some b => simp [hv] at hs; subst hs; exact own_ge h.own _ hv
  have hk : Kp va.ownBlock.toList wr w4 := Kp.grown (((Kp.refl _ _).alloc O).drew) hgr (fun k hk => .inl (by rw [hk]; simp))
  have hq : q ∉ va.ownBlock.toList := fun hm => by have := hall _ hm; omega
  exact ⟨hk, hk.heap h.obj hq, hq, hall⟩
theorem PSt.at4 {w wr w4 : World} {b6 r b10 q : Nat} {v : Value} {zs : List Int} {long : Bool} {k : Nat} {bad : Bool} {A : List Int} {va : Value} {O : Obj} (h : PSt w wr b6 r b10 q v zs long k bad A va)
    (hgr : (wr.alloc O).grownBy w4 va.ownBlock) : w4.cell? ⟨q, 0, none⟩ = some va ∧ w4.frozen? ⟨q, 0, none⟩ = false := by
  obtain ⟨_, hb, _, _⟩ := h.grew ⟨hgr.os, hgr.tape, hgr.output, hgr.size, hgr.block⟩
  exact ⟨by rw [cell_of_row w4 q 0 _ _ _ hb]; rfl, frozen_of_row w4 q 0 _ _ hb⟩
theorem PSt.wrote {w wr w4 : World} {b6 r b10 q : Nat} {v : Value} {zs : List Int} {long : Bool} {k : Nat} {bad : Bool} {A : List Int} {va : Value} {x : Int} {O : Obj} {u : Value} (h : PSt w wr b6 r b10 q v zs long k bad A va)
    (hown : w4.ownsRow (q + 1) 3 1 u (A.length + 1) (A.map (Value.int .i64) ++ [.int .i64 x])) (hgr : (wr.alloc O).grownBy w4 va.ownBlock) :
    PSt w (w4.setCell ⟨q, 0, none⟩ u) b6 r b10 q v zs long k bad (A ++ [x]) u := by
  have hgr' : (wr.alloc O).drew.grownBy w4 va.ownBlock := ⟨hgr.os, hgr.tape, hgr.output, hgr.size, hgr.block⟩
  obtain ⟨hk4, hb, hq, hall⟩ := h.grew hgr'
  have hk5 : Kp [q] w4 (w4.setCell ⟨q, 0, none⟩ u) := (Kp.refl _ _).setCell (.inl (by simp)) _
  have hk45 : Kp (q :: va.ownBlock.toList) wr (w4.setCell ⟨q, 0, none⟩ u) := (hk4.more (fun s hs => .inl (List.mem_cons_of_mem _ hs))).trans (hk5.more (fun s hs => .inl (by simp at hs; simp [hs])))
  have hall2 : ∀ s ∈ q :: va.ownBlock.toList, q ≤ s := by
    intro s hs; rcases List.mem_cons.1 hs with rfl | hs
    · exact Nat.le_refl _
    · have := hall s hs; omega
  obtain ⟨o1, o2, o3, o4⟩ := h.ord
  refine ⟨h.rd.kp hk45 (fun hm => by have := hall2 _ hm; omega), heap_setCell_same w4 q 0 _ _ _ hb, ?_, h.ints.kp hk45 (fun s hs e => by have := hall2 s hs; have := h.vb0 _ e; omega), h.kp.trans' hk45 (fun t ht => .inr (by have := hall2 t ht; omega)), ?_, hk45.cell h.c6 (fun hm => by have := hall2 _ hm; simp at this; omega), hk45.cell h.c10 (fun hm => by have := hall2 _ hm; simp at this; omega), h.ord, h.vb0⟩
  · have := hk5.row hown (by intro s hs e; simp at hs; subst hs; have := own_ge hown _ e; omega)
    simpa using this
  · have := hk4.size; have := h.sz; simp [World.setCell]; omega
/-- The function that reads the next place. -/
theorem nextp_calls {w wr : World} {b6 r b10 q : Nat} {v : Value} {zs : List Int} {long : Bool} {k : Nat} {A : List Int} {va : Value} (h : PSt w wr b6 r b10 q v zs long k false A va) (hb : ∀ c ∈ zs, 0 ≤ c ∧ c ≤ 255) (hk : k ≤ zs.length) :
    Calls Try.prog 69 #[.pointer (some ⟨b6, 0, none⟩), .pointer (some ⟨b10, 0, none⟩)] wr fun e w' => e = .returned (.int .i64 (plV zs long k)) ∧ PSt w w' b6 r b10 q v zs long (plK zs long k) (plB zs long k) A va := by
  have c6 := h.c6
  have c10 := h.c10
  obtain ⟨o1, o2, o3, o4⟩ := h.ord
  have hne : blockOf v ≠ some r := fun e => by have := h.vb0 _ e; omega
  have H : Hid (PSt w wr b6 r b10 q v zs long k false A va) := h
  have HB : Hid _ := hb
  clear h hb
  cases long
  · have hbd := rdV_bounds zs k false 2 HB.out
    have hbd1 := hbd.1
    have hbd2 : rdV zs k false 2 < 65536 := by have := hbd.2; omega
    clear hbd
    have hV : Hid (plV zs false k = 2 * rdV zs k false 2) := rfl
    go_enter Try.func69, Try.ntmps69
    go_wp2_with fail
    refine (u16_calls r v zs k false _ H.out.rd H.out.ints HB.out hne hk).mono ?_
    rintro e w3 ⟨rfl, hr3, hk3⟩
    have hs3 := H.out.rkp hk3 hr3
    generalize rdV zs k false 2 = x at *
    go_wp2_with fail
    go_ret
    exact ⟨by rw [hV.out]; rfl, hs3⟩
  · have hV : Hid (plV zs true k = rdV zs k false 4) := rfl
    go_enter Try.func69, Try.ntmps69
    go_wp2_with fail
    refine (u32_calls r v zs k false _ H.out.rd H.out.ints HB.out hne hk).mono ?_
    rintro e w3 ⟨rfl, hr3, hk3⟩
    have hs3 := H.out.rkp hk3 hr3
    go_wp2_with fail
    go_ret
    exact ⟨by rw [hV.out]; rfl, hs3⟩
end Go.Proofs.Ythmokldmdcjklaa

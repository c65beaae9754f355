/- stack: Push, Pop, Len, All, Take, New. -/
import Derived.Test.YtfgpocpfapnkkaaGreatStA
import Derived.Test.YtfgpocpfapnkkaaGreatFixA
import Derived.BigQuiet
namespace Go.Proofs.YtfgpocpfapnkkaaGreat
open Go.RowKit
set_option linter.unusedVariables false
set_option linter.unusedSimpArgs false
theorem infoIntS : (Tryz.prog.info? 3).map (fun i => (i.zero, i.size, i.bytes)) = some (some (.int .i64 0), 1, 8) := by kernel_rfl
theorem StS.kp {S : List Nat} {w w' : World} {s base : Nat} {vl vd : Value} {l st dr : List Int} (h : StS w s base vl l st vd dr) (hk : Kp S w w') (hS : ∀ t ∈ S, t ≠ s ∧ vl.ownBlock ≠ some t ∧ blockOf vd ≠ some t) : StS w' s base vl l st vd dr :=
  ⟨hk.heap h.1 (fun hs => (hS s hs).1 rfl), h.2.1, h.2.2.1, h.2.2.2.1.kp hk (fun t ht => (hS t ht).2.1), h.2.2.2.2.1, h.2.2.2.2.2.1.kp hk (fun t ht => (hS t ht).2.2), fun b hb => by obtain ⟨x1, x2, x3, x4⟩ := h.2.2.2.2.2.2 b hb; exact ⟨x1, x2, x3, Nat.lt_of_lt_of_le x4 hk.size⟩⟩
theorem StS.kp0 {w w' : World} {s base : Nat} {vl vd : Value} {l st dr : List Int} (h : StS w s base vl l st vd dr) (hk : Kp [] w w') : StS w' s base vl l st vd dr := h.kp hk (fun t ht => nomatch ht)
theorem StS.lt {w : World} {s base : Nat} {vl vd : Value} {l st dr : List Int} (h : StS w s base vl l st vd dr) : s < w.heap.size := lt_of_block h.1
theorem StS.cell0 {w : World} {s base : Nat} {vl vd : Value} {l st dr : List Int} (h : StS w s base vl l st vd dr) : w.cell? ⟨s, 0, none⟩ = some vl := by rw [cell_of_row w s 0 _ _ _ h.1]; rfl
theorem StS.frozen {w : World} {s base : Nat} {vl vd : Value} {l st dr : List Int} (h : StS w s base vl l st vd dr) (j : Nat) : w.frozen? ⟨s, j, none⟩ = false := frozen_of_row w s j _ _ h.1
theorem StS.store {w : World} {s base : Nat} {vl vd : Value} {l st dr : List Int} (h : StS w s base vl l st vd dr) (i : Nat) (hi : i < 32) : w.cell? ⟨s, i + 1, none⟩ = some (.int .i64 (st.getD i 0)) := by
  have hl := h.2.1
  rw [cell_of_row w s (i + 1) _ _ _ h.1, ← Array.getElem?_toList]
  simp only [List.getElem?_cons_succ]
  rw [List.getElem?_append_left (by simp; omega), List.getElem?_map, List.getElem?_eq_getElem (by omega), List.getD_eq_getElem?_getD, List.getElem?_eq_getElem (by omega)]; rfl
theorem StS.draws {w : World} {s base : Nat} {vl vd : Value} {l st dr : List Int} (h : StS w s base vl l st vd dr) : w.cell? ⟨s, 33, none⟩ = some vd := by
  have hl := h.2.1
  rw [cell_of_row w s 33 _ _ _ h.1, ← Array.getElem?_toList]
  simp only [List.getElem?_cons_succ]
  rw [List.getElem?_append_right (by simp; omega)]; simp [hl]
/-- What a call on a Stack leaves of memory. -/
def StK (w wr : World) (s : Nat) (v v' : Value) : Prop := Kp (s :: v.ownBlock.toList) w wr ∧ ∀ k, v'.ownBlock = some k → v.ownBlock = some k ∨ w.heap.size ≤ k
theorem own_mem {v : Value} {t : Nat} (h : t ∈ v.ownBlock.toList) : v.ownBlock = some t := by cases hv : v.ownBlock <;> simp [hv] at h; subst h; rfl
/-- The numbers, replaced. -/
theorem StS.put {w : World} {s base : Nat} {vl0 vd v' : Value} {l' st dr : List Int} (hb : w.heap[s]? = some (.cells (vl0 :: (st.map (Value.int .i64) ++ [vd])).toArray 61 (0, 0))) (c2 : st.length = 32) (c3 : base ≤ s)
    (ho : OwnC w base 3 v' l') (n1 : v'.ownBlock ≠ some s) (hd : IsInts .i64 w vd dr) (hsep : ∀ b, blockOf vd = some b → b ≠ s ∧ v'.ownBlock ≠ some b ∧ base ≤ b ∧ b < w.heap.size) :
    StS (w.setCell ⟨s, 0, none⟩ v') s base v' l' st vd dr := by
  have hk : Kp [s] w (w.setCell ⟨s, 0, none⟩ v') := (Kp.refl _ _).setCell (.inl (by simp)) _
  refine ⟨?_, c2, c3, ho.kp hk (fun t ht => by simp at ht; subst ht; exact n1), n1, hd.kp hk (fun t ht => by simp at ht; subst ht; exact fun e => (hsep _ e).1 rfl), fun b hb => ?_⟩
  · rw [heap_setCell_same w s 0 _ _ v' hb]; rfl
  · obtain ⟨x1, x2, x3, x4⟩ := hsep b hb
    exact ⟨x1, x2, x3, Nat.lt_of_lt_of_le x4 hk.size⟩
/-- .. behind something that may have changed the numbers' own row. -/
theorem StS.put' {w w1 : World} {s base : Nat} {vl vd v' : Value} {l l' st dr : List Int} (h : StS w s base vl l st vd dr) (hk : Kp vl.ownBlock.toList w w1) (ho : OwnC w1 base 3 v' l') (hv : ∀ k, v'.ownBlock = some k → vl.ownBlock = some k ∨ w.heap.size ≤ k) :
    StS (w1.setCell ⟨s, 0, none⟩ v') s base v' l' st vd dr ∧ StK w (w1.setCell ⟨s, 0, none⟩ v') s vl v' := by
  have hs := h.lt
  obtain ⟨c1, c2, c3, c4, c5, c6, c7⟩ := h
  have hn : ∀ t ∈ vl.ownBlock.toList, vl.ownBlock = some t := fun t ht => own_mem ht
  refine ⟨StS.put (hk.heap c1 (fun ht => c5 (hn s ht))) c2 c3 ho (fun e => ?_) (c6.kp hk (fun t ht e => (c7 t e).2.1 (hn t ht))) (fun b hb => ?_), ?_, hv⟩
  · rcases hv s e with g | g
    · exact c5 g
    · omega
  · obtain ⟨x1, x2, x3, x4⟩ := c7 b hb
    refine ⟨x1, fun e => ?_, x3, Nat.lt_of_lt_of_le x4 hk.size⟩
    rcases hv b e with g | g
    · exact x2 g
    · omega
  · exact (hk.more (T := s :: vl.ownBlock.toList) (fun t ht => .inl (by simp [ht]))).setCell (.inl (by simp)) _
theorem box1 {w W : World} {t : TypeId} {v0 : Value} (hk : Kp [] (w.alloc (.cells #[v0] t)) W) : W.cell? ⟨w.heap.size, 0, none⟩ = some v0 :=
  hk.cell (cell_of_row _ w.heap.size 0 _ t (0, 0) (heap_alloc_new w _)) (by simp)
theorem StK.refl (w : World) (s : Nat) (v : Value) : StK w w s v v := ⟨Kp.refl _ _, fun k h => .inl h⟩
theorem StK.of_kp {w w' : World} (s : Nat) (v : Value) (h : Kp [] w w') : StK w w' s v v := ⟨h.more (fun t ht => nomatch ht), fun k h => .inl h⟩
theorem StK.trans {a b c : World} {s : Nat} {v v' v'' : Value} (h : StK a b s v v') (k : StK b c s v' v'') : StK a c s v v'' := by
  have hs := h.1.size
  refine ⟨h.1.trans' k.1 (fun t ht => ?_), fun x hx => ?_⟩
  · rcases List.mem_cons.1 ht with rfl | ht
    · exact .inl (by simp)
    · have e : v'.ownBlock = some t := own_mem ht
      rcases h.2 t e with g | g
      · exact .inl (by simp [g])
      · exact .inr g
  · rcases k.2 x hx with g | g
    · exact h.2 x g
    · exact .inr (by omega)
theorem StK.kp0 {a b : World} {s base : Nat} {v v' : Value} (h : StK a b s v v') (hs : base ≤ s) (hv : ∀ k, v.ownBlock = some k → base ≤ k) {w : World} (hw : w.heap.size ≤ base) (hk : Kp [] w a) : Kp [] w b :=
  hk.trans' h.1 (fun t ht => by
    rcases List.mem_cons.1 ht with rfl | ht
    · exact .inr (by omega)
    · have e : v.ownBlock = some t := own_mem ht
      have := hv t e; exact .inr (by omega))
set_option maxRecDepth 100000 in
set_option maxHeartbeats 2000000 in
theorem push_calls (s base : Nat) (vl vd : Value) (l st dr : List Int) (x : Int) (hx : mayB x = true) (w : World) (h : StS w s base vl l st vd dr) (hl : l.length < 48) :
    Calls Tryz.prog 39 #[.pointer (some ⟨s, 0, none⟩), .int .i64 x] w fun e w' => e = .returned (.int .i64 0) ∧ ∃ vl', StS w' s base vl' (l ++ [x]) st vd dr ∧ StK w w' s vl vl' := by
  have H : Hid (StS w s base vl l st vd dr) := h
  have HX : Hid _ := hx
  have c0 := h.cell0
  have f0 := h.frozen 0
  obtain ⟨p, c, rfl⟩ := h.2.2.2.1.form
  have hl8 : decide ((l.length : Int) = 48) = false := decide_eq_false (by omega)
  have hl9 : ((l.length : Int) == 48) = false := by simpa using hl8
  have hlt := h.lt
  clear h hx
  go_enter Tryz.func39, Tryz.ntmps39
  go_wp2_with fail
  refine (may_calls x w).mono ?_; rintro e w1 ⟨rfl, rfl⟩
  rw [HX.out]
  go_wp2_with (at_builtin; refine wpList_push rfl _ _ 24 rfl base 3 Tryz.underlying24 infoIntS (.slice p l.length c) l x rfl ?hown ⟨w.heap.size, 0, none⟩ 1 rfl ?hc (by omega) ?hb ?hk)
  case hown => exact (H.out.kp0 ((Kp.refl _ _).alloc _)).2.2.2.1
  case hc => exact (box1 (Kp.refl [] _))
  case hb => have := H.out.2.2.1; simp; omega
  case hk =>
  intro v' w' ho hk hv'
  obtain ⟨p', c', rfl⟩ := ho.form
  have hka : Kp (Value.slice p l.length c).ownBlock.toList w w' := hk.trans' (S := (Value.slice p l.length c).ownBlock.toList) (T := (Value.slice p l.length c).ownBlock.toList) (Kp.refl _ _) (fun t ht => .inl ht) |> fun h2 => (((Kp.refl _ w).alloc _).trans h2)
  obtain ⟨hs2, hk2⟩ := H.out.put' hka ho (fun k e => by rcases hv' k e with g | g; exact .inl g; exact .inr (by omega))
  rw [show (l ++ [x]).length = l.length + 1 by simp] at hs2 hk2
  have hfin := Lib.hid (And.intro hs2 hk2)
  have hblk := hka.heap H.out.1 (fun ht => H.out.2.2.2.2.1 (own_mem ht))
  have c1 : w'.cell? ⟨s, 0, none⟩ = some (.slice p l.length c) := by rw [cell_of_row w' s 0 _ _ _ hblk]; rfl
  have f1 : w'.frozen? ⟨s, 0, none⟩ = false := frozen_of_row w' s 0 _ _ hblk
  clear ho hk hv' hka hs2 hk2 hblk
  go_wp2_with fail
  go_ret
  exact ⟨rfl, _, hfin.out⟩
set_option maxRecDepth 100000 in
set_option maxHeartbeats 2000000 in
theorem push_no (s base : Nat) (vl vd : Value) (l st dr : List Int) (x : Int) (w : World) (h : StS w s base vl l st vd dr) (hl : l.length ≤ 48) (hno : mayB x = false ∨ l.length = 48) :
    Calls Tryz.prog 39 #[.pointer (some ⟨s, 0, none⟩), .int .i64 x] w fun e w' => e = .returned (.int .i64 (if mayB x = false then 10 else 170)) ∧ w = w' := by
  have c0 := h.cell0
  obtain ⟨p, c, rfl⟩ := h.2.2.2.1.form
  cases hx : mayB x
  · have HX : Hid (mayB x = false) := hx
    clear h hx hno
    go_enter Tryz.func39, Tryz.ntmps39
    go_wp2_with fail
    refine (may_calls x w).mono ?_; rintro e w1 ⟨rfl, rfl⟩
    rw [HX.out]
    go_wp2_with fail
    go_ret
    exact ⟨by simp, rfl⟩
  · have HX : Hid (mayB x = true) := hx
    have h48 : l.length = 48 := by rcases hno with g | g; rw [hx] at g; cases g; exact g
    clear h hx hno
    rw [h48] at c0
    go_enter Tryz.func39, Tryz.ntmps39
    go_wp2_with fail
    refine (may_calls x w).mono ?_; rintro e w1 ⟨rfl, rfl⟩
    rw [HX.out]
    go_wp2_with fail
    go_ret
    exact ⟨by simp, rfl⟩
theorem push_nil (x : Int) (w : World) : Calls Tryz.prog 39 #[.pointer none, .int .i64 x] w fun e w' => e = .returned (.int .i64 6) ∧ w = w' := by
  go_enter Tryz.func39, Tryz.ntmps39
  go_wp2_with fail
  go_ret
  exact ⟨rfl, rfl⟩
theorem pop_nil (w : World) : Calls Tryz.prog 52 #[.pointer none] w fun e w' => e = .returned (.tuple #[.int .i64 0, .int .i64 6]) ∧ w = w' := by
  go_enter Tryz.func52, Tryz.ntmps52
  go_wp2_with fail
  go_ret2
  exact ⟨rfl, rfl⟩
theorem stake_nil (w : World) : Calls Tryz.prog 66 #[.pointer none] w fun e w' => e = .returned (.slice none 0 0) ∧ w = w' := by
  go_enter Tryz.func66, Tryz.ntmps66
  go_wp2_with fail
  go_ret
  exact ⟨rfl, rfl⟩
theorem stake_calls (s base : Nat) (vl vd : Value) (l st dr : List Int) (w : World) (h : StS w s base vl l st vd dr) :
    Calls Tryz.prog 66 #[.pointer (some ⟨s, 0, none⟩)] w fun e w' => e = .returned vl ∧ StS w' s base (.slice none 0 0) [] st vd dr ∧ Kp [s] w w' ∧ IsInts .i64 w' vl l := by
  have c0 := h.cell0
  have f0 := h.frozen 0
  have hs2 := Lib.hid (StS.put (v' := .slice none 0 0) (l' := []) h.1 h.2.1 h.2.2.1 (.inl ⟨rfl, rfl⟩) (by simp [Value.ownBlock]) h.2.2.2.2.2.1 (fun b hb => by obtain ⟨x1, x2, x3, x4⟩ := h.2.2.2.2.2.2 b hb; exact ⟨x1, by simp [Value.ownBlock], x3, x4⟩))
  have hk : Kp [s] w (w.setCell ⟨s, 0, none⟩ (.slice none 0 0)) := (Kp.refl _ _).setCell (.inl (by simp)) _
  have hi := Lib.hid (h.2.2.2.1.ints.kp hk (fun t ht e => by simp at ht; subst ht; exact h.2.2.2.2.1 (blockOf_own e)))
  obtain ⟨p, c, rfl⟩ := h.2.2.2.1.form
  clear h
  go_enter Tryz.func66, Tryz.ntmps66
  go_wp2_with fail
  go_ret
  exact ⟨rfl, hs2.out, hk, hi.out⟩
end Go.Proofs.YtfgpocpfapnkkaaGreat

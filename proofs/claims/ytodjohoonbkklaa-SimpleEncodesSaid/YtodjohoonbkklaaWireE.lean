/- The contracts of the layer wire: the writer that has room. (Written by wip/wire/genwriter.py.) -/
import Derived.Test.YtodjohoonbkklaaWireD
import Derived.Deep.RegionHeld3
import Derived.Deep.RegionLaw
import Derived.Deep.AppendLies
import Derived.Lib.Hide
namespace Go.Proofs.Ytodjohoonbkklaa
open Go.RowKit
set_option linter.unusedVariables false
set_option linter.unusedSimpArgs false
/-- Block r is a writer that is not full; its bytes lie in a row of their own, made later. -/
def WSt (w : World) (r : Nat) (room : Int) (v : Value) (acc : List Int) : Prop :=
  w.heap[r]? = some (.cells #[v, .int .i64 room, .bool false] 143 (0, 0)) ∧ w.ownsRow (r + 1) 5 1 v acc.length (acc.map (Value.int .u8)) ∧ r < w.heap.size
theorem WSt.facts {w : World} {r : Nat} {room : Int} {v : Value} {acc : List Int} (h : WSt w r room v acc) :
    w.cell? ⟨r, 0, none⟩ = some v ∧ w.cell? ⟨r, 1, none⟩ = some (.int .i64 room) ∧ w.cell? ⟨r, 2, none⟩ = some (.bool false) ∧ w.frozen? ⟨r, 0, none⟩ = false ∧ w.frozen? ⟨r, 2, none⟩ = false :=
  ⟨by rw [cell_of_row w r 0 _ _ _ h.1]; rfl, by rw [cell_of_row w r 1 _ _ _ h.1]; rfl, by rw [cell_of_row w r 2 _ _ _ h.1]; rfl, frozen_of_row w r 0 _ _ h.1, frozen_of_row w r 2 _ _ h.1⟩
theorem WSt.kp {S : List Nat} {w w' : World} {r : Nat} {room : Int} {v : Value} {acc : List Int} (h : WSt w r room v acc) (hk : Kp S w w') (hr : r ∉ S) (hv : ∀ s ∈ S, v.ownBlock ≠ some s) : WSt w' r room v acc :=
  ⟨hk.heap h.1 hr, hk.row h.2.1 hv, Nat.lt_of_lt_of_le h.2.2 hk.size⟩
/-- What a write may have turned: the writer, its own row, what is new. -/
def WK (w wr : World) (r : Nat) (v v' : Value) : Prop := Kp (r :: v.ownBlock.toList) w wr ∧ ∀ k, v'.ownBlock = some k → v.ownBlock = some k ∨ w.heap.size ≤ k
theorem WK.refl (w : World) (r : Nat) (v : Value) : WK w w r v v := ⟨Kp.refl _ _, fun k h => .inl h⟩
theorem WK.trans {a b c : World} {r : Nat} {v v' v'' : Value} (h : WK a b r v v') (k : WK b c r v' v'') : WK a c r v v'' := by
  have hs := h.1.size
  refine ⟨h.1.trans' k.1 ?_, fun i hi => ?_⟩
  · intro t ht
    rcases List.mem_cons.1 ht with rfl | ht
    · exact .inl List.mem_cons_self
    · cases hv : v'.ownBlock with
      | none => simp [hv] at ht
      | some b =>
        simp [hv] at ht; subst ht
        rcases h.2 _ hv with e | e
        · exact .inl (by simp [e])
        · exact .inr e
  · rcases k.2 i hi with e | e
    · exact h.2 i e
    · exact .inr (Nat.le_trans hs e)
/-- A write keeps what was there before the writer. -/
theorem WK.kp0 {a w wr : World} {r : Nat} {room : Int} {v v' : Value} {acc : List Int} (h : WK w wr r v v') (hs : WSt w r room v acc) (ha : Kp [] a w) (hr : a.heap.size ≤ r) : Kp [] a wr := by
  refine ha.trans' h.1 ?_
  intro t ht
  rcases List.mem_cons.1 ht with rfl | ht
  · exact .inr hr
  · cases hv : v.ownBlock with
    | none => simp [hv] at ht
    | some b => simp [hv] at ht; subst ht; exact .inr (by have := own_ge hs.2.1 _ hv; omega)
theorem WSt.at4 {wr w4 : World} {r : Nat} {room : Int} {v : Value} {ac : List Int} {O : Obj} (h : WSt wr r room v ac) (hgr : (wr.alloc O).drew.grownBy w4 v.ownBlock) : w4.cell? ⟨r, 0, none⟩ = some v ∧ w4.frozen? ⟨r, 0, none⟩ = false := by
  have hnr : r ∉ v.ownBlock.toList := by
    intro hm; cases hv : v.ownBlock with
    | none => simp [hv] at hm
    | some b => simp [hv] at hm; have := own_ge h.2.1 _ hv; omega
  have hk4 : Kp v.ownBlock.toList wr w4 := Kp.grown (((Kp.refl _ _).alloc O).drew) hgr (fun k hk => .inl (by rw [hk]; simp))
  have hb := hk4.heap h.1 hnr
  exact ⟨by rw [cell_of_row w4 r 0 _ _ _ hb]; rfl, frozen_of_row w4 r 0 _ _ hb⟩
theorem WSt.wrote {wr w4 : World} {r : Nat} {room : Int} {v : Value} {ac : List Int} {x : Int} {O : Obj} {g4 c4 H : Nat} (h : WSt wr r room v ac)
    (hown : w4.ownsRow (r + 1) 5 1 (.slice (some ⟨g4, 0, none⟩) (ac.length + 1) c4) (ac.length + 1) (ac.map (Value.int .u8) ++ [.int .u8 x])) (hgr : (wr.alloc O).drew.grownBy w4 v.ownBlock) (hat : v.ownBlock = some g4 ∨ g4 = H) (hH : wr.heap.size ≤ H) :
    WSt (w4.setCell ⟨r, 0, none⟩ (.slice (some ⟨g4, 0, none⟩) (ac.length + 1) c4)) r room (.slice (some ⟨g4, 0, none⟩) (ac.length + 1) c4) (ac ++ [x]) ∧ WK wr (w4.setCell ⟨r, 0, none⟩ (.slice (some ⟨g4, 0, none⟩) (ac.length + 1) c4)) r v (.slice (some ⟨g4, 0, none⟩) (ac.length + 1) c4) := by
  obtain ⟨h1, h2, h3⟩ := h
  have hnr : r ∉ v.ownBlock.toList := by
    intro hm; cases hv : v.ownBlock with
    | none => simp [hv] at hm
    | some b => simp [hv] at hm; have := own_ge h2 _ hv; omega
  have hk4 : Kp v.ownBlock.toList wr w4 := Kp.grown (((Kp.refl _ _).alloc O).drew) hgr (fun k hk => .inl (by rw [hk]; simp))
  have hk5 : Kp [r] w4 (w4.setCell ⟨r, 0, none⟩ (.slice (some ⟨g4, 0, none⟩) (ac.length + 1) c4)) := (Kp.refl _ _).setCell (.inl (by simp)) _
  have hs4 := hk4.size
  refine ⟨⟨heap_setCell_same w4 r 0 _ _ _ (hk4.heap h1 hnr), ?_, by simp [World.setCell]; omega⟩, ?_, ?_⟩
  · have := hk5.row hown (by intro s hs e; simp at hs; subst hs; have := own_ge hown _ e; omega)
    simpa using this
  · exact (hk4.more (fun s hs => .inl (List.mem_cons_of_mem _ hs))).trans (hk5.more (fun s hs => .inl (by simp at hs; simp [hs])))
  · intro k hk
    simp [Value.ownBlock] at hk; subst hk
    rcases hat with e | e
    · exact .inl e
    · exact .inr (by omega)
theorem to_calls (n : Int) (h0 : 0 ≤ n) (w : World) :
    Calls Try.prog 61 #[.int .i64 n] w fun e w' => e = .returned (.pointer (some ⟨w.heap.size, 0, none⟩)) ∧ WSt w' w.heap.size n (.slice none 0 0) [] ∧ Kp [] w w' := by
  have hm : max n 0 = n := by omega
  go_enter Try.func61, Try.ntmps61
  go_wp2
  go_ret
  refine ⟨rfl, ⟨?_, World.ownsRow_nil _ _ _ _, by simp⟩, by (repeat (first | exact Kp.refl _ _ | assumption | refine Kp.drew ?_ | refine Kp.drewN ?_ _ | refine Kp.alloc ?_ _ | (refine Kp.setCell ?_ (by first | (left; simp; done) | (right; simp; try omega)) _) | (refine Kp.trans' ?_ (by assumption) (by simp; try omega))))⟩
  first | exact heap_alloc_new w _ | (simp only [hm]; exact heap_alloc_new w _)
theorem wfits_calls (r : Nat) (room : Int) (v : Value) (acc : List Int) (n : Nat) (w : World) (h : WSt w r room v acc) (hn : (acc.length : Int) + n ≤ room) (hn2 : n ≤ 1073741824) (hr : room ≤ 1073741824) :
    Calls Try.prog 117 #[.pointer (some ⟨r, 0, none⟩), .int .i64 n] w fun e w' => e = .returned (.bool true) ∧ WSt w' r room v acc ∧ Kp [r] w w' := by
  obtain ⟨c0, c1, c2, f0, f2⟩ := h.facts
  obtain ⟨p, c, rfl⟩ := slice_own h.2.1
  have hd : decide (room - (acc.length : Int) < n) = false := decide_eq_false (by omega)
  have hl0 : (0 : Int) ≤ acc.length := by omega
  have hX : decide (IntKind.i64.wrap (room - (acc.length : Int)) < n) = false := by rw [IntKind.wrap_i64]; exact decide_eq_false (by omega)
  have hkk : Kp [r] w (w.setCell ⟨r, 2, none⟩ (.bool false)) := (Kp.refl _ _).setCell (.inl (by simp)) _
  have HS : Hid (WSt (w.setCell ⟨r, 2, none⟩ (.bool false)) r room (.slice p acc.length c) acc) :=
    ⟨heap_setCell_same w r 2 _ _ _ h.1, hkk.row h.2.1 (by intro s hs e; simp at hs; subst hs; have := own_ge h.2.1 _ e; omega), by simpa [World.setCell] using h.2.2⟩
  have hS2 : (w.setCell ⟨r, 2, none⟩ (.bool false)).drew.cell? ⟨r, 0, none⟩ = some (.slice p acc.length c) ∧ (w.setCell ⟨r, 2, none⟩ (.bool false)).drew.cell? ⟨r, 1, none⟩ = some (.int .i64 room) ∧ (w.setCell ⟨r, 2, none⟩ (.bool false)).drew.cell? ⟨r, 2, none⟩ = some (.bool false) :=
    ⟨HS.out.facts.1, HS.out.facts.2.1, HS.out.facts.2.2.1⟩
  clear h
  go_enter Try.func117, Try.ntmps117
  go_wp2_with fail
  go_region_held3 (fun w' => w'.cell? ⟨r, 0, none⟩ = some (.slice p acc.length c) ∧ w'.cell? ⟨r, 1, none⟩ = some (.int .i64 room) ∧ w'.cell? ⟨r, 2, none⟩ = some (.bool false))
    (first | go_keep | (simp only [hX]; exact hS2)) (fail)
  try simp only [hX]
  go_wp2_with fail
  go_ret
  refine ⟨rfl, HS.out.kp (S := []) (by (repeat (first | exact Kp.refl _ _ | assumption | refine Kp.drew ?_ | refine Kp.drewN ?_ _ | refine Kp.alloc ?_ _ | (refine Kp.setCell ?_ (by first | (left; simp; done) | (right; simp; try omega)) _) | (refine Kp.trans' ?_ (by assumption) (by simp; try omega))))) (by simp) (by simp), by (repeat (first | exact Kp.refl _ _ | assumption | refine Kp.drew ?_ | refine Kp.drewN ?_ _ | refine Kp.alloc ?_ _ | (refine Kp.setCell ?_ (by first | (left; simp; done) | (right; simp; try omega)) _) | (refine Kp.trans' ?_ (by assumption) (by simp; try omega))))⟩

set_option maxRecDepth 100000 in
set_option maxHeartbeats 2000000 in
theorem wnum_1 (r : Nat) (room : Int) (v : Value) (acc : List Int) (x : Int) (g1 : -9223372036854775808 ≤ x) (g2 : x ≤ 9223372036854775807) (w : World) (h : WSt w r room v acc) (hn : (acc.length : Int) + 1 ≤ room) (hr : room ≤ 1073741824) :
    Calls Try.prog 116 #[.pointer (some ⟨r, 0, none⟩), .int .i64 1, .int .i64 x] w fun e w' => e = .returned (.pointer (some ⟨r, 0, none⟩)) ∧ ∃ v', WSt w' r room v' (acc ++ bytesN 1 x) ∧ WK w w' r v v' := by
  obtain ⟨i0, hi, hz0, hz1, hz2⟩ := info_parts infoByte
  go_enter Try.func116, Try.ntmps116
  go_wp2_with fail
  refine (wfits_calls r room v acc 1 w h hn (by decide) hr).mono ?_; rintro e w1 ⟨rfl, hs1, hk1⟩
  have hst : WSt w1 r room v acc ∧ WK w w1 r v v := ⟨hs1, hk1.more (fun s hs => .inl (by simp at hs; simp [hs])), fun k h => .inl h⟩
  have hal : acc.length ≤ 1073741824 := by omega
  clear hs1 hk1 h
  go_wp2_with fail
  go_loopw [7, 12] (fun _ i wr => ∃ (j : Nat) (v1 : Value), j ≤ 1 ∧ i = .int .i64 j ∧ WSt wr r room v1 (acc ++ (bytesN 1 x).take j) ∧ WK w wr r v v1) (fun _ i _ => 1 - (intOf i).toNat)
  case atStart => exact ⟨0, v, by omega, rfl, by simpa using hst.1, hst.2⟩
  case round =>
    obtain ⟨j, v1, hj, rfl, hs, hk⟩ := hrel
    clear hst
    have hj4 : j = 0 ∨ j = 1 := by omega
    rcases hj4 with rfl | rfl
    · have hnx : Hid (acc ++ (bytesN 1 x).take 0 ++ [x % 256] = acc ++ (bytesN 1 x).take 1) := by simp [Hid, bytesN]
      have hlen : Hid ((acc ++ (bytesN 1 x).take 0).length = acc.length + 0) := by rw [Hid, List.length_append, List.length_take, bytesN_length]; omega
      generalize acc ++ (bytesN 1 x).take 0 = ac at *
      obtain ⟨c0, c1, c2, f0, f2⟩ := hs.facts
      obtain ⟨p, c, rfl⟩ := slice_own hs.2.1
      have hwr : r < wr.heap.size := hs.2.2
      have HS : Hid (WSt wr r room (.slice p ac.length c) ac) := hs
      have HK : Hid (WK w wr r v (.slice p ac.length c)) := hk
      clear hs hk
      have hwx : IntKind.u8.wrap x = x % 256 := by rw [IntKind.wrap_u8]
      have hw0 : IntKind.i64.wrap 0 = 0 := by decide
      have hw1 : IntKind.i64.wrap 1 = 1 := by decide
      have hw2 : IntKind.i64.wrap 2 = 2 := by decide
      have hw3 : IntKind.i64.wrap 3 = 3 := by decide
      have hw8 : IntKind.i64.wrap 8 = 8 := by decide
      have hw16 : IntKind.i64.wrap 16 = 16 := by decide
      have hw24 : IntKind.i64.wrap 24 = 24 := by decide
      have hle : ac.length ≤ 1073741824 + 1 := by have := hlen.out; omega
      go_wp2_with fail
      go_region_law ((first
          | (refine step_append_lies _ (by rfl) _ _ 22 (by rfl) (r + 1) 5 i0 (.int .u8 0) 1 1 Try.underlying22 hi hz0 hz1 hz2 rfl (by decide) (.slice p ac.length c) ac.length (ac.map (Value.int .u8)) (by rfl) (Kp.row (S := []) (by (repeat (first | exact Kp.refl _ _ | assumption | refine Kp.drew ?_ | refine Kp.drewN ?_ _ | refine Kp.alloc ?_ _ | (refine Kp.setCell ?_ (by first | (left; simp; done) | (right; simp; try omega)) _) | (refine Kp.trans' ?_ (by assumption) (by simp; try omega))))) HS.out.2.1 (by simp)) ⟨wr.heap.size, 0, none⟩ 1 1 [.int .u8 (IntKind.u8.wrap x)] (by rfl) rfl (World.news_of_block (by exact heap_alloc_new wr _)) (by intro u hu; simp at hu; subst hu; rfl) (by decide) (by unfold maxLen; omega) (by omega) (by simp; omega) _ rfl ?_
             intro g4 c4 w4 hown hgr hat hlt
             obtain ⟨hc4, hf4⟩ := HS.out.at4 hgr)))
      all_goals
        obtain ⟨hw5, hk5⟩ := HS.out.wrote hown hgr hat (by simp)
        have HK5 : Hid (WK w _ r v _) := HK.out.trans hk5
        rw [hwx, hnx.out] at hw5
        clear hown hgr hat hlt hc4 hf4 c0 c1 c2 f0 f2 hk5
        go_wp2_with fail
        go_roundw
        case rel => first | exact ⟨1, _, by omega, rfl, hw5, HK5.out⟩ | ((repeat apply Exists.intro); exact ⟨⟨1, _, by omega, rfl, hw5, HK5.out⟩, rfl⟩)
        case measure => simp [intOf]
    · have HS : Hid (WSt wr r room v1 (acc ++ bytesN 1 x)) := hs
      have HK : Hid _ := hk
      clear hs hk
      go_wp2_with fail
      go_ret
      exact ⟨rfl, v1, HS.out, HK.out⟩
set_option maxRecDepth 100000 in
set_option maxHeartbeats 2000000 in
theorem wnum_2 (r : Nat) (room : Int) (v : Value) (acc : List Int) (x : Int) (g1 : -9223372036854775808 ≤ x) (g2 : x ≤ 9223372036854775807) (w : World) (h : WSt w r room v acc) (hn : (acc.length : Int) + 2 ≤ room) (hr : room ≤ 1073741824) :
    Calls Try.prog 116 #[.pointer (some ⟨r, 0, none⟩), .int .i64 2, .int .i64 x] w fun e w' => e = .returned (.pointer (some ⟨r, 0, none⟩)) ∧ ∃ v', WSt w' r room v' (acc ++ bytesN 2 x) ∧ WK w w' r v v' := by
  obtain ⟨i0, hi, hz0, hz1, hz2⟩ := info_parts infoByte
  go_enter Try.func116, Try.ntmps116
  go_wp2_with fail
  refine (wfits_calls r room v acc 2 w h hn (by decide) hr).mono ?_; rintro e w1 ⟨rfl, hs1, hk1⟩
  have hst : WSt w1 r room v acc ∧ WK w w1 r v v := ⟨hs1, hk1.more (fun s hs => .inl (by simp at hs; simp [hs])), fun k h => .inl h⟩
  have hal : acc.length ≤ 1073741824 := by omega
  clear hs1 hk1 h
  go_wp2_with fail
  go_loopw [7, 12] (fun _ i wr => ∃ (j : Nat) (v1 : Value), j ≤ 2 ∧ i = .int .i64 j ∧ WSt wr r room v1 (acc ++ (bytesN 2 x).take j) ∧ WK w wr r v v1) (fun _ i _ => 2 - (intOf i).toNat)
  case atStart => exact ⟨0, v, by omega, rfl, by simpa using hst.1, hst.2⟩
  case round =>
    obtain ⟨j, v1, hj, rfl, hs, hk⟩ := hrel
    clear hst
    have hj4 : j = 0 ∨ j = 1 ∨ j = 2 := by omega
    rcases hj4 with rfl | rfl | rfl
    · have hnx : Hid (acc ++ (bytesN 2 x).take 0 ++ [x / 256 % 256] = acc ++ (bytesN 2 x).take 1) := by simp [Hid, bytesN]
      have hlen : Hid ((acc ++ (bytesN 2 x).take 0).length = acc.length + 0) := by rw [Hid, List.length_append, List.length_take, bytesN_length]; omega
      generalize acc ++ (bytesN 2 x).take 0 = ac at *
      obtain ⟨c0, c1, c2, f0, f2⟩ := hs.facts
      obtain ⟨p, c, rfl⟩ := slice_own hs.2.1
      have hwr : r < wr.heap.size := hs.2.2
      have HS : Hid (WSt wr r room (.slice p ac.length c) ac) := hs
      have HK : Hid (WK w wr r v (.slice p ac.length c)) := hk
      clear hs hk
      have hwx : IntKind.u8.wrap (x / 256) = x / 256 % 256 := by rw [IntKind.wrap_u8]
      have hw0 : IntKind.i64.wrap 0 = 0 := by decide
      have hw1 : IntKind.i64.wrap 1 = 1 := by decide
      have hw2 : IntKind.i64.wrap 2 = 2 := by decide
      have hw3 : IntKind.i64.wrap 3 = 3 := by decide
      have hw8 : IntKind.i64.wrap 8 = 8 := by decide
      have hw16 : IntKind.i64.wrap 16 = 16 := by decide
      have hw24 : IntKind.i64.wrap 24 = 24 := by decide
      have hle : ac.length ≤ 1073741824 + 2 := by have := hlen.out; omega
      go_wp2_with fail
      go_region_law ((first
          | (refine step_append_lies _ (by rfl) _ _ 22 (by rfl) (r + 1) 5 i0 (.int .u8 0) 1 1 Try.underlying22 hi hz0 hz1 hz2 rfl (by decide) (.slice p ac.length c) ac.length (ac.map (Value.int .u8)) (by rfl) (Kp.row (S := []) (by (repeat (first | exact Kp.refl _ _ | assumption | refine Kp.drew ?_ | refine Kp.drewN ?_ _ | refine Kp.alloc ?_ _ | (refine Kp.setCell ?_ (by first | (left; simp; done) | (right; simp; try omega)) _) | (refine Kp.trans' ?_ (by assumption) (by simp; try omega))))) HS.out.2.1 (by simp)) ⟨wr.heap.size, 0, none⟩ 1 1 [.int .u8 (IntKind.u8.wrap (x / 256))] (by rfl) rfl (World.news_of_block (by exact heap_alloc_new wr _)) (by intro u hu; simp at hu; subst hu; rfl) (by decide) (by unfold maxLen; omega) (by omega) (by simp; omega) _ rfl ?_
             intro g4 c4 w4 hown hgr hat hlt
             obtain ⟨hc4, hf4⟩ := HS.out.at4 hgr)))
      all_goals
        obtain ⟨hw5, hk5⟩ := HS.out.wrote hown hgr hat (by simp)
        have HK5 : Hid (WK w _ r v _) := HK.out.trans hk5
        rw [hwx, hnx.out] at hw5
        clear hown hgr hat hlt hc4 hf4 c0 c1 c2 f0 f2 hk5
        go_wp2_with fail
        go_roundw
        case rel => first | exact ⟨1, _, by omega, rfl, hw5, HK5.out⟩ | ((repeat apply Exists.intro); exact ⟨⟨1, _, by omega, rfl, hw5, HK5.out⟩, rfl⟩)
        case measure => simp [intOf]
    · have hnx : Hid (acc ++ (bytesN 2 x).take 1 ++ [x % 256] = acc ++ (bytesN 2 x).take 2) := by simp [Hid, bytesN]
      have hlen : Hid ((acc ++ (bytesN 2 x).take 1).length = acc.length + 1) := by rw [Hid, List.length_append, List.length_take, bytesN_length]; omega
      generalize acc ++ (bytesN 2 x).take 1 = ac at *
      obtain ⟨c0, c1, c2, f0, f2⟩ := hs.facts
      obtain ⟨p, c, rfl⟩ := slice_own hs.2.1
      have hwr : r < wr.heap.size := hs.2.2
      have HS : Hid (WSt wr r room (.slice p ac.length c) ac) := hs
      have HK : Hid (WK w wr r v (.slice p ac.length c)) := hk
      clear hs hk
      have hwx : IntKind.u8.wrap x = x % 256 := by rw [IntKind.wrap_u8]
      have hw0 : IntKind.i64.wrap 0 = 0 := by decide
      have hw1 : IntKind.i64.wrap 1 = 1 := by decide
      have hw2 : IntKind.i64.wrap 2 = 2 := by decide
      have hw3 : IntKind.i64.wrap 3 = 3 := by decide
      have hw8 : IntKind.i64.wrap 8 = 8 := by decide
      have hw16 : IntKind.i64.wrap 16 = 16 := by decide
      have hw24 : IntKind.i64.wrap 24 = 24 := by decide
      have hle : ac.length ≤ 1073741824 + 2 := by have := hlen.out; omega
      go_wp2_with fail
      go_region_law ((first
          | (refine step_append_lies _ (by rfl) _ _ 22 (by rfl) (r + 1) 5 i0 (.int .u8 0) 1 1 Try.underlying22 hi hz0 hz1 hz2 rfl (by decide) (.slice p ac.length c) ac.length (ac.map (Value.int .u8)) (by rfl) (Kp.row (S := []) (by (repeat (first | exact Kp.refl _ _ | assumption | refine Kp.drew ?_ | refine Kp.drewN ?_ _ | refine Kp.alloc ?_ _ | (refine Kp.setCell ?_ (by first | (left; simp; done) | (right; simp; try omega)) _) | (refine Kp.trans' ?_ (by assumption) (by simp; try omega))))) HS.out.2.1 (by simp)) ⟨wr.heap.size, 0, none⟩ 1 1 [.int .u8 (IntKind.u8.wrap x)] (by rfl) rfl (World.news_of_block (by exact heap_alloc_new wr _)) (by intro u hu; simp at hu; subst hu; rfl) (by decide) (by unfold maxLen; omega) (by omega) (by simp; omega) _ rfl ?_
             intro g4 c4 w4 hown hgr hat hlt
             obtain ⟨hc4, hf4⟩ := HS.out.at4 hgr)))
      all_goals
        obtain ⟨hw5, hk5⟩ := HS.out.wrote hown hgr hat (by simp)
        have HK5 : Hid (WK w _ r v _) := HK.out.trans hk5
        rw [hwx, hnx.out] at hw5
        clear hown hgr hat hlt hc4 hf4 c0 c1 c2 f0 f2 hk5
        go_wp2_with fail
        go_roundw
        case rel => first | exact ⟨2, _, by omega, rfl, hw5, HK5.out⟩ | ((repeat apply Exists.intro); exact ⟨⟨2, _, by omega, rfl, hw5, HK5.out⟩, rfl⟩)
        case measure => simp [intOf]
    · have HS : Hid (WSt wr r room v1 (acc ++ bytesN 2 x)) := hs
      have HK : Hid _ := hk
      clear hs hk
      go_wp2_with fail
      go_ret
      exact ⟨rfl, v1, HS.out, HK.out⟩
set_option maxRecDepth 100000 in
set_option maxHeartbeats 2000000 in
theorem wnum_4 (r : Nat) (room : Int) (v : Value) (acc : List Int) (x : Int) (g1 : -9223372036854775808 ≤ x) (g2 : x ≤ 9223372036854775807) (w : World) (h : WSt w r room v acc) (hn : (acc.length : Int) + 4 ≤ room) (hr : room ≤ 1073741824) :
    Calls Try.prog 116 #[.pointer (some ⟨r, 0, none⟩), .int .i64 4, .int .i64 x] w fun e w' => e = .returned (.pointer (some ⟨r, 0, none⟩)) ∧ ∃ v', WSt w' r room v' (acc ++ bytesN 4 x) ∧ WK w w' r v v' := by
  obtain ⟨i0, hi, hz0, hz1, hz2⟩ := info_parts infoByte
  go_enter Try.func116, Try.ntmps116
  go_wp2_with fail
  refine (wfits_calls r room v acc 4 w h hn (by decide) hr).mono ?_; rintro e w1 ⟨rfl, hs1, hk1⟩
  have hst : WSt w1 r room v acc ∧ WK w w1 r v v := ⟨hs1, hk1.more (fun s hs => .inl (by simp at hs; simp [hs])), fun k h => .inl h⟩
  have hal : acc.length ≤ 1073741824 := by omega
  clear hs1 hk1 h
  go_wp2_with fail
  go_loopw [7, 12] (fun _ i wr => ∃ (j : Nat) (v1 : Value), j ≤ 4 ∧ i = .int .i64 j ∧ WSt wr r room v1 (acc ++ (bytesN 4 x).take j) ∧ WK w wr r v v1) (fun _ i _ => 4 - (intOf i).toNat)
  case atStart => exact ⟨0, v, by omega, rfl, by simpa using hst.1, hst.2⟩
  case round =>
    obtain ⟨j, v1, hj, rfl, hs, hk⟩ := hrel
    clear hst
    have hj4 : j = 0 ∨ j = 1 ∨ j = 2 ∨ j = 3 ∨ j = 4 := by omega
    rcases hj4 with rfl | rfl | rfl | rfl | rfl
    · have hnx : Hid (acc ++ (bytesN 4 x).take 0 ++ [x / 16777216 % 256] = acc ++ (bytesN 4 x).take 1) := by simp [Hid, bytesN]
      have hlen : Hid ((acc ++ (bytesN 4 x).take 0).length = acc.length + 0) := by rw [Hid, List.length_append, List.length_take, bytesN_length]; omega
      generalize acc ++ (bytesN 4 x).take 0 = ac at *
      obtain ⟨c0, c1, c2, f0, f2⟩ := hs.facts
      obtain ⟨p, c, rfl⟩ := slice_own hs.2.1
      have hwr : r < wr.heap.size := hs.2.2
      have HS : Hid (WSt wr r room (.slice p ac.length c) ac) := hs
      have HK : Hid (WK w wr r v (.slice p ac.length c)) := hk
      clear hs hk
      have hwx : IntKind.u8.wrap (x / 16777216) = x / 16777216 % 256 := by rw [IntKind.wrap_u8]
      have hw0 : IntKind.i64.wrap 0 = 0 := by decide
      have hw1 : IntKind.i64.wrap 1 = 1 := by decide
      have hw2 : IntKind.i64.wrap 2 = 2 := by decide
      have hw3 : IntKind.i64.wrap 3 = 3 := by decide
      have hw8 : IntKind.i64.wrap 8 = 8 := by decide
      have hw16 : IntKind.i64.wrap 16 = 16 := by decide
      have hw24 : IntKind.i64.wrap 24 = 24 := by decide
      have hle : ac.length ≤ 1073741824 + 4 := by have := hlen.out; omega
      go_wp2_with fail
      go_region_law ((first
          | (refine step_append_lies _ (by rfl) _ _ 22 (by rfl) (r + 1) 5 i0 (.int .u8 0) 1 1 Try.underlying22 hi hz0 hz1 hz2 rfl (by decide) (.slice p ac.length c) ac.length (ac.map (Value.int .u8)) (by rfl) (Kp.row (S := []) (by (repeat (first | exact Kp.refl _ _ | assumption | refine Kp.drew ?_ | refine Kp.drewN ?_ _ | refine Kp.alloc ?_ _ | (refine Kp.setCell ?_ (by first | (left; simp; done) | (right; simp; try omega)) _) | (refine Kp.trans' ?_ (by assumption) (by simp; try omega))))) HS.out.2.1 (by simp)) ⟨wr.heap.size, 0, none⟩ 1 1 [.int .u8 (IntKind.u8.wrap (x / 16777216))] (by rfl) rfl (World.news_of_block (by exact heap_alloc_new wr _)) (by intro u hu; simp at hu; subst hu; rfl) (by decide) (by unfold maxLen; omega) (by omega) (by simp; omega) _ rfl ?_
             intro g4 c4 w4 hown hgr hat hlt
             obtain ⟨hc4, hf4⟩ := HS.out.at4 hgr)))
      all_goals
        obtain ⟨hw5, hk5⟩ := HS.out.wrote hown hgr hat (by simp)
        have HK5 : Hid (WK w _ r v _) := HK.out.trans hk5
        rw [hwx, hnx.out] at hw5
        clear hown hgr hat hlt hc4 hf4 c0 c1 c2 f0 f2 hk5
        go_wp2_with fail
        go_roundw
        case rel => first | exact ⟨1, _, by omega, rfl, hw5, HK5.out⟩ | ((repeat apply Exists.intro); exact ⟨⟨1, _, by omega, rfl, hw5, HK5.out⟩, rfl⟩)
        case measure => simp [intOf]
    · have hnx : Hid (acc ++ (bytesN 4 x).take 1 ++ [x / 65536 % 256] = acc ++ (bytesN 4 x).take 2) := by simp [Hid, bytesN]
      have hlen : Hid ((acc ++ (bytesN 4 x).take 1).length = acc.length + 1) := by rw [Hid, List.length_append, List.length_take, bytesN_length]; omega
      generalize acc ++ (bytesN 4 x).take 1 = ac at *
      obtain ⟨c0, c1, c2, f0, f2⟩ := hs.facts
      obtain ⟨p, c, rfl⟩ := slice_own hs.2.1
      have hwr : r < wr.heap.size := hs.2.2
      have HS : Hid (WSt wr r room (.slice p ac.length c) ac) := hs
      have HK : Hid (WK w wr r v (.slice p ac.length c)) := hk
      clear hs hk
      have hwx : IntKind.u8.wrap (x / 65536) = x / 65536 % 256 := by rw [IntKind.wrap_u8]
      have hw0 : IntKind.i64.wrap 0 = 0 := by decide
      have hw1 : IntKind.i64.wrap 1 = 1 := by decide
      have hw2 : IntKind.i64.wrap 2 = 2 := by decide
      have hw3 : IntKind.i64.wrap 3 = 3 := by decide
      have hw8 : IntKind.i64.wrap 8 = 8 := by decide
      have hw16 : IntKind.i64.wrap 16 = 16 := by decide
      have hw24 : IntKind.i64.wrap 24 = 24 := by decide
      have hle : ac.length ≤ 1073741824 + 4 := by have := hlen.out; omega
      go_wp2_with fail
      go_region_law ((first
          | (refine step_append_lies _ (by rfl) _ _ 22 (by rfl) (r + 1) 5 i0 (.int .u8 0) 1 1 Try.underlying22 hi hz0 hz1 hz2 rfl (by decide) (.slice p ac.length c) ac.length (ac.map (Value.int .u8)) (by rfl) (Kp.row (S := []) (by (repeat (first | exact Kp.refl _ _ | assumption | refine Kp.drew ?_ | refine Kp.drewN ?_ _ | refine Kp.alloc ?_ _ | (refine Kp.setCell ?_ (by first | (left; simp; done) | (right; simp; try omega)) _) | (refine Kp.trans' ?_ (by assumption) (by simp; try omega))))) HS.out.2.1 (by simp)) ⟨wr.heap.size, 0, none⟩ 1 1 [.int .u8 (IntKind.u8.wrap (x / 65536))] (by rfl) rfl (World.news_of_block (by exact heap_alloc_new wr _)) (by intro u hu; simp at hu; subst hu; rfl) (by decide) (by unfold maxLen; omega) (by omega) (by simp; omega) _ rfl ?_
             intro g4 c4 w4 hown hgr hat hlt
             obtain ⟨hc4, hf4⟩ := HS.out.at4 hgr)))
      all_goals
        obtain ⟨hw5, hk5⟩ := HS.out.wrote hown hgr hat (by simp)
        have HK5 : Hid (WK w _ r v _) := HK.out.trans hk5
        rw [hwx, hnx.out] at hw5
        clear hown hgr hat hlt hc4 hf4 c0 c1 c2 f0 f2 hk5
        go_wp2_with fail
        go_roundw
        case rel => first | exact ⟨2, _, by omega, rfl, hw5, HK5.out⟩ | ((repeat apply Exists.intro); exact ⟨⟨2, _, by omega, rfl, hw5, HK5.out⟩, rfl⟩)
        case measure => simp [intOf]
    · have hnx : Hid (acc ++ (bytesN 4 x).take 2 ++ [x / 256 % 256] = acc ++ (bytesN 4 x).take 3) := by simp [Hid, bytesN]
      have hlen : Hid ((acc ++ (bytesN 4 x).take 2).length = acc.length + 2) := by rw [Hid, List.length_append, List.length_take, bytesN_length]; omega
      generalize acc ++ (bytesN 4 x).take 2 = ac at *
      obtain ⟨c0, c1, c2, f0, f2⟩ := hs.facts
      obtain ⟨p, c, rfl⟩ := slice_own hs.2.1
      have hwr : r < wr.heap.size := hs.2.2
      have HS : Hid (WSt wr r room (.slice p ac.length c) ac) := hs
      have HK : Hid (WK w wr r v (.slice p ac.length c)) := hk
      clear hs hk
      have hwx : IntKind.u8.wrap (x / 256) = x / 256 % 256 := by rw [IntKind.wrap_u8]
      have hw0 : IntKind.i64.wrap 0 = 0 := by decide
      have hw1 : IntKind.i64.wrap 1 = 1 := by decide
      have hw2 : IntKind.i64.wrap 2 = 2 := by decide
      have hw3 : IntKind.i64.wrap 3 = 3 := by decide
      have hw8 : IntKind.i64.wrap 8 = 8 := by decide
      have hw16 : IntKind.i64.wrap 16 = 16 := by decide
      have hw24 : IntKind.i64.wrap 24 = 24 := by decide
      have hle : ac.length ≤ 1073741824 + 4 := by have := hlen.out; omega
      go_wp2_with fail
      go_region_law ((first
          | (refine step_append_lies _ (by rfl) _ _ 22 (by rfl) (r + 1) 5 i0 (.int .u8 0) 1 1 Try.underlying22 hi hz0 hz1 hz2 rfl (by decide) (.slice p ac.length c) ac.length (ac.map (Value.int .u8)) (by rfl) (Kp.row (S := []) (by (repeat (first | exact Kp.refl _ _ | assumption | refine Kp.drew ?_ | refine Kp.drewN ?_ _ | refine Kp.alloc ?_ _ | (refine Kp.setCell ?_ (by first | (left; simp; done) | (right; simp; try omega)) _) | (refine Kp.trans' ?_ (by assumption) (by simp; try omega))))) HS.out.2.1 (by simp)) ⟨wr.heap.size, 0, none⟩ 1 1 [.int .u8 (IntKind.u8.wrap (x / 256))] (by rfl) rfl (World.news_of_block (by exact heap_alloc_new wr _)) (by intro u hu; simp at hu; subst hu; rfl) (by decide) (by unfold maxLen; omega) (by omega) (by simp; omega) _ rfl ?_
             intro g4 c4 w4 hown hgr hat hlt
             obtain ⟨hc4, hf4⟩ := HS.out.at4 hgr)))
      all_goals
        obtain ⟨hw5, hk5⟩ := HS.out.wrote hown hgr hat (by simp)
        have HK5 : Hid (WK w _ r v _) := HK.out.trans hk5
        rw [hwx, hnx.out] at hw5
        clear hown hgr hat hlt hc4 hf4 c0 c1 c2 f0 f2 hk5
        go_wp2_with fail
        go_roundw
        case rel => first | exact ⟨3, _, by omega, rfl, hw5, HK5.out⟩ | ((repeat apply Exists.intro); exact ⟨⟨3, _, by omega, rfl, hw5, HK5.out⟩, rfl⟩)
        case measure => simp [intOf]
    · have hnx : Hid (acc ++ (bytesN 4 x).take 3 ++ [x % 256] = acc ++ (bytesN 4 x).take 4) := by simp [Hid, bytesN]
      have hlen : Hid ((acc ++ (bytesN 4 x).take 3).length = acc.length + 3) := by rw [Hid, List.length_append, List.length_take, bytesN_length]; omega
      generalize acc ++ (bytesN 4 x).take 3 = ac at *
      obtain ⟨c0, c1, c2, f0, f2⟩ := hs.facts
      obtain ⟨p, c, rfl⟩ := slice_own hs.2.1
      have hwr : r < wr.heap.size := hs.2.2
      have HS : Hid (WSt wr r room (.slice p ac.length c) ac) := hs
      have HK : Hid (WK w wr r v (.slice p ac.length c)) := hk
      clear hs hk
      have hwx : IntKind.u8.wrap x = x % 256 := by rw [IntKind.wrap_u8]
      have hw0 : IntKind.i64.wrap 0 = 0 := by decide
      have hw1 : IntKind.i64.wrap 1 = 1 := by decide
      have hw2 : IntKind.i64.wrap 2 = 2 := by decide
      have hw3 : IntKind.i64.wrap 3 = 3 := by decide
      have hw8 : IntKind.i64.wrap 8 = 8 := by decide
      have hw16 : IntKind.i64.wrap 16 = 16 := by decide
      have hw24 : IntKind.i64.wrap 24 = 24 := by decide
      have hle : ac.length ≤ 1073741824 + 4 := by have := hlen.out; omega
      go_wp2_with fail
      go_region_law ((first
          | (refine step_append_lies _ (by rfl) _ _ 22 (by rfl) (r + 1) 5 i0 (.int .u8 0) 1 1 Try.underlying22 hi hz0 hz1 hz2 rfl (by decide) (.slice p ac.length c) ac.length (ac.map (Value.int .u8)) (by rfl) (Kp.row (S := []) (by (repeat (first | exact Kp.refl _ _ | assumption | refine Kp.drew ?_ | refine Kp.drewN ?_ _ | refine Kp.alloc ?_ _ | (refine Kp.setCell ?_ (by first | (left; simp; done) | (right; simp; try omega)) _) | (refine Kp.trans' ?_ (by assumption) (by simp; try omega))))) HS.out.2.1 (by simp)) ⟨wr.heap.size, 0, none⟩ 1 1 [.int .u8 (IntKind.u8.wrap x)] (by rfl) rfl (World.news_of_block (by exact heap_alloc_new wr _)) (by intro u hu; simp at hu; subst hu; rfl) (by decide) (by unfold maxLen; omega) (by omega) (by simp; omega) _ rfl ?_
             intro g4 c4 w4 hown hgr hat hlt
             obtain ⟨hc4, hf4⟩ := HS.out.at4 hgr)))
      all_goals
        obtain ⟨hw5, hk5⟩ := HS.out.wrote hown hgr hat (by simp)
        have HK5 : Hid (WK w _ r v _) := HK.out.trans hk5
        rw [hwx, hnx.out] at hw5
        clear hown hgr hat hlt hc4 hf4 c0 c1 c2 f0 f2 hk5
        go_wp2_with fail
        go_roundw
        case rel => first | exact ⟨4, _, by omega, rfl, hw5, HK5.out⟩ | ((repeat apply Exists.intro); exact ⟨⟨4, _, by omega, rfl, hw5, HK5.out⟩, rfl⟩)
        case measure => simp [intOf]
    · have HS : Hid (WSt wr r room v1 (acc ++ bytesN 4 x)) := hs
      have HK : Hid _ := hk
      clear hs hk
      go_wp2_with fail
      go_ret
      exact ⟨rfl, v1, HS.out, HK.out⟩
theorem wu8_calls (r : Nat) (room : Int) (v : Value) (acc : List Int) (x : Int) (g1 : -9223372036854775808 ≤ x) (g2 : x ≤ 9223372036854775807) (w : World) (h : WSt w r room v acc) (hn : (acc.length : Int) + 1 ≤ room) (hr : room ≤ 1073741824) :
    Calls Try.prog 119 #[.pointer (some ⟨r, 0, none⟩), .int .i64 x] w fun e w' => e = .returned (.pointer (some ⟨r, 0, none⟩)) ∧ ∃ v', WSt w' r room v' (acc ++ bytesN 1 x) ∧ WK w w' r v v' := by
  go_enter Try.func119, Try.ntmps119
  go_wp2_with fail
  refine (wnum_1 r room v acc x g1 g2 w h hn hr).mono ?_; rintro e w1 ⟨rfl, v', h1, h2⟩
  go_wp2_with fail
  go_ret
  exact ⟨rfl, v', h1, h2⟩
theorem wu16_calls (r : Nat) (room : Int) (v : Value) (acc : List Int) (x : Int) (g1 : -9223372036854775808 ≤ x) (g2 : x ≤ 9223372036854775807) (w : World) (h : WSt w r room v acc) (hn : (acc.length : Int) + 2 ≤ room) (hr : room ≤ 1073741824) :
    Calls Try.prog 105 #[.pointer (some ⟨r, 0, none⟩), .int .i64 x] w fun e w' => e = .returned (.pointer (some ⟨r, 0, none⟩)) ∧ ∃ v', WSt w' r room v' (acc ++ bytesN 2 x) ∧ WK w w' r v v' := by
  go_enter Try.func105, Try.ntmps105
  go_wp2_with fail
  refine (wnum_2 r room v acc x g1 g2 w h hn hr).mono ?_; rintro e w1 ⟨rfl, v', h1, h2⟩
  go_wp2_with fail
  go_ret
  exact ⟨rfl, v', h1, h2⟩
theorem wi16_calls (r : Nat) (room : Int) (v : Value) (acc : List Int) (x : Int) (g1 : -9223372036854775808 ≤ x) (g2 : x ≤ 9223372036854775807) (w : World) (h : WSt w r room v acc) (hn : (acc.length : Int) + 2 ≤ room) (hr : room ≤ 1073741824) :
    Calls Try.prog 62 #[.pointer (some ⟨r, 0, none⟩), .int .i64 x] w fun e w' => e = .returned (.pointer (some ⟨r, 0, none⟩)) ∧ ∃ v', WSt w' r room v' (acc ++ bytesN 2 x) ∧ WK w w' r v v' := by
  go_enter Try.func62, Try.ntmps62
  go_wp2_with fail
  refine (wnum_2 r room v acc x g1 g2 w h hn hr).mono ?_; rintro e w1 ⟨rfl, v', h1, h2⟩
  go_wp2_with fail
  go_ret
  exact ⟨rfl, v', h1, h2⟩
end Go.Proofs.Ytodjohoonbkklaa

/- wire: the writer that may be full: fits, Data, Pad, Len, Done. -/
import Derived.Test.YtafkhnlmipddmaaGreatGlW
namespace Go.Proofs.YtafkhnlmipddmaaGreat
open Go.RowKit
set_option linter.unusedVariables false
set_option linter.unusedSimpArgs false
/-- A writer with room for 2^20 bytes; full or not. -/
def WSg (w : World) (r : Nat) (v : Value) (acc : List Int) (f : Bool) : Prop :=
  w.heap[r]? = some (.cells #[v, .int .i64 1048576, .bool f] 112 (0, 0)) ∧ w.ownsRow (r + 1) 5 1 v acc.length (acc.map (Value.int .u8)) ∧ r < w.heap.size
theorem WSg.of {w : World} {r : Nat} {v : Value} {acc : List Int} (h : WSt w r 1048576 v acc) : WSg w r v acc false := h
theorem WSg.facts {w : World} {r : Nat} {v : Value} {acc : List Int} {f : Bool} (h : WSg w r v acc f) :
    w.cell? ⟨r, 0, none⟩ = some v ∧ w.cell? ⟨r, 1, none⟩ = some (.int .i64 1048576) ∧ w.cell? ⟨r, 2, none⟩ = some (.bool f) ∧ w.frozen? ⟨r, 0, none⟩ = false ∧ w.frozen? ⟨r, 2, none⟩ = false :=
  ⟨by rw [cell_of_row w r 0 _ _ _ h.1]; rfl, by rw [cell_of_row w r 1 _ _ _ h.1]; rfl, by rw [cell_of_row w r 2 _ _ _ h.1]; rfl, frozen_of_row w r 0 _ _ h.1, frozen_of_row w r 2 _ _ h.1⟩
theorem WSg.kp {S : List Nat} {w w' : World} {r : Nat} {v : Value} {acc : List Int} {f : Bool} (h : WSg w r v acc f) (hk : Kp S w w') (hr : r ∉ S) (hv : ∀ s ∈ S, v.ownBlock ≠ some s) : WSg w' r v acc f :=
  ⟨hk.heap h.1 hr, hk.row h.2.1 hv, Nat.lt_of_lt_of_le h.2.2 hk.size⟩
theorem WSg.kp0 {w w' : World} {r : Nat} {v : Value} {acc : List Int} {f : Bool} (h : WSg w r v acc f) (hk : Kp [] w w') : WSg w' r v acc f := h.kp hk (by simp) (by simp)
theorem WSg.setF {w : World} {r : Nat} {v : Value} {acc : List Int} {f : Bool} (h : WSg w r v acc f) (g : Bool) : WSg (w.setCell ⟨r, 2, none⟩ (.bool g)) r v acc g ∧ Kp [r] w (w.setCell ⟨r, 2, none⟩ (.bool g)) := by
  have hk : Kp [r] w (w.setCell ⟨r, 2, none⟩ (.bool g)) := (Kp.refl _ _).setCell (.inl (by simp)) _
  exact ⟨⟨heap_setCell_same w r 2 _ _ _ h.1, hk.row h.2.1 (by intro s hs e; simp at hs; subst hs; have := own_ge h.2.1 _ e; omega), Nat.lt_of_lt_of_le h.2.2 hk.size⟩, hk⟩
set_option maxRecDepth 100000 in
set_option maxHeartbeats 4000000 in
theorem wfits_no (r : Nat) (v : Value) (acc : List Int) (f : Bool) (n : Nat) (w : World) (h : WSg w r v acc f) (hn : f = true ∨ 1048576 < acc.length + n) (ha : acc.length ≤ 1048576) (hn2 : n ≤ 4611686018427387904) :
    Calls Tryz.prog 64 #[.pointer (some ⟨r, 0, none⟩), .int .i64 n] w fun e w' => e = .returned (.bool false) ∧ WSg w' r v acc true ∧ Kp [r] w w' := by
  obtain ⟨c0, c1, c2, f0, f2⟩ := h.facts
  obtain ⟨p, c, rfl⟩ := slice_own h.2.1
  have hrl := h.2.2
  have hl0 : (0 : Int) ≤ acc.length := by omega
  have HS := Lib.hid (h.setF true)
  have HG := Lib.hid h
  have hS2 : (w.setCell ⟨r, 2, none⟩ (.bool true)).drew.cell? ⟨r, 0, none⟩ = some (.slice p acc.length c) ∧ (w.setCell ⟨r, 2, none⟩ (.bool true)).drew.cell? ⟨r, 1, none⟩ = some (.int .i64 1048576) ∧ (w.setCell ⟨r, 2, none⟩ (.bool true)).drew.cell? ⟨r, 2, none⟩ = some (.bool true) :=
    ⟨HS.out.1.facts.1, HS.out.1.facts.2.1, HS.out.1.facts.2.2.1⟩
  cases f with
  | true =>
    clear h hn
    go_enter Tryz.func64, Tryz.ntmps64
    go_wp2_with fail
    have u0 := fun n : KW w => KW.cell c0 n
    have u1 := fun n : KW w => KW.cell c1 n
    have u2 := fun n : KW w => KW.cell c2 n
    refine wp_region_kqt 21 (by kernel_rfl) (by kernel_rfl) ?_
    simp only [List.take_succ_cons, List.take_zero, List.drop_succ_cons, List.drop_zero]
    repeat (go_big_quiet_step (fail))
    refine wpQuiet_nil ?_
    intro w1 hw'
    obtain ⟨⟨_, hkw1⟩, rfl⟩ := hw'
    try dsimp only
    clear u0 u1 u2 c0 c1 c2 hS2
    have HW1 := Lib.hid (HG.out.kp0 hkw1)
    have HKW := Lib.hid hkw1
    clear hkw1 HS f0 f2
    obtain ⟨c0, c1, c2, f0, f2⟩ := HW1.out.facts
    have HS1 := Lib.hid (HW1.out.setF true)
    obtain ⟨d0, d1, d2, _, _⟩ := HS1.out.1.facts
    go_wp2_with fail
    go_ret
    refine ⟨rfl, HS1.out.1, Kp.trans (HKW.out.more (fun s hs => nomatch hs)) HS1.out.2⟩
  | false =>
    have hx : 1048576 < acc.length + n := by rcases hn with e | e; cases e; exact e
    have hX : decide (IntKind.i64.wrap (1048576 - (acc.length : Int)) < n) = true := by rw [IntKind.wrap_i64]; exact decide_eq_true (by omega)
    have hX2 : decide (1048576 - (acc.length : Int) < n) = true := decide_eq_true (by omega)
    clear h hn
    go_enter Tryz.func64, Tryz.ntmps64
    go_wp2_with fail
    have u0 := fun n : KW w => KW.cell c0 n
    have u1 := fun n : KW w => KW.cell c1 n
    have u2 := fun n : KW w => KW.cell c2 n
    refine wp_region_kqt 21 (by kernel_rfl) (by kernel_rfl) ?_
    simp only [List.take_succ_cons, List.take_zero, List.drop_succ_cons, List.drop_zero]
    repeat (go_big_quiet_step (fail))
    refine wpQuiet_nil ?_
    intro w1 hw'
    obtain ⟨⟨_, hkw1⟩, rfl⟩ := hw'
    try dsimp only
    clear u0 u1 u2 c0 c1 c2 hS2
    have HW1 := Lib.hid (HG.out.kp0 hkw1)
    have HKW := Lib.hid hkw1
    clear hkw1 HS f0 f2
    obtain ⟨c0, c1, c2, f0, f2⟩ := HW1.out.facts
    have HS1 := Lib.hid (HW1.out.setF true)
    obtain ⟨d0, d1, d2, _, _⟩ := HS1.out.1.facts
    go_wp2_with fail
    go_ret
    refine ⟨rfl, HS1.out.1, Kp.trans (HKW.out.more (fun s hs => nomatch hs)) HS1.out.2⟩
set_option maxRecDepth 100000 in
set_option maxHeartbeats 4000000 in
theorem wdata_no (r : Nat) (v : Value) (acc : List Int) (f : Bool) (p : Option Addr) (n c : Nat) (w : World) (h : WSg w r v acc f) (hn : f = true ∨ 1048576 < acc.length + n) (ha : acc.length ≤ 1048576) (hn2 : n ≤ 4611686018427387904) :
    Calls Tryz.prog 38 #[.pointer (some ⟨r, 0, none⟩), .slice p n c] w fun e w' => e = .returned (.pointer (some ⟨r, 0, none⟩)) ∧ WSg w' r v acc true ∧ Kp [r] w w' := by
  have HF := Lib.hid (wfits_no r v acc f n w h hn ha hn2)
  clear h hn
  go_enter Tryz.func38, Tryz.ntmps38
  go_wp2_with fail
  refine HF.out.mono ?_; rintro e w1 ⟨rfl, h1, hk1⟩
  have HS := Lib.hid h1
  have HK := Lib.hid hk1
  clear h1 hk1
  go_wp2_with fail
  go_ret
  exact ⟨rfl, HS.out, HK.out⟩
theorem wlen_calls (r : Nat) (v : Value) (acc : List Int) (f : Bool) (w : World) (h : WSg w r v acc f) :
    Calls Tryz.prog 40 #[.pointer (some ⟨r, 0, none⟩)] w fun e w' => e = .returned (.int .i64 acc.length) ∧ Kp [] w w' := by
  obtain ⟨c0, c1, c2, f0, f2⟩ := h.facts
  obtain ⟨p, c, rfl⟩ := slice_own h.2.1
  have hrl := h.2.2
  clear h
  go_enter Tryz.func40, Tryz.ntmps40
  go_wp2_with fail
  go_ret
  exact ⟨rfl, by (repeat (first | exact Kp.refl _ _ | assumption | refine Kp.drew ?_ | refine Kp.drewN ?_ _ | refine Kp.alloc ?_ _ | (refine Kp.setCell ?_ (by first | (left; simp; done) | (right; simp; try omega)) _) | (refine Kp.trans' ?_ (by assumption) (by simp; try omega))))⟩
theorem wdone_full (r : Nat) (v : Value) (acc : List Int) (w : World) (h : WSg w r v acc true) :
    Calls Tryz.prog 41 #[.pointer (some ⟨r, 0, none⟩)] w fun e w' => e = .returned (.tuple #[.slice none 0 0, .int .i64 2]) ∧ Kp [] w w' := by
  obtain ⟨c0, c1, c2, f0, f2⟩ := h.facts
  have hrl := h.2.2
  clear h
  go_enter Tryz.func41, Tryz.ntmps41
  go_wp2_with fail
  go_ret2
  exact ⟨rfl, by (repeat (first | exact Kp.refl _ _ | assumption | refine Kp.drew ?_ | refine Kp.drewN ?_ _ | refine Kp.alloc ?_ _ | (refine Kp.setCell ?_ (by first | (left; simp; done) | (right; simp; try omega)) _) | (refine Kp.trans' ?_ (by assumption) (by simp; try omega))))⟩
theorem rem4 (n : Nat) (h : n ≤ 1048576) : IntKind.i64.wrap (Int.tmod (n : Int) 4) = ((n % 4 : Nat) : Int) ∧ Int.tmod (n : Int) 4 = ((n % 4 : Nat) : Int) ∧ IntKind.i64.wrap (4 - ((n % 4 : Nat) : Int)) = ((4 - n % 4 : Nat) : Int) ∧ 4 - ((n % 4 : Nat) : Int) = ((4 - n % 4 : Nat) : Int) := by
  have h1 : Int.tmod (n : Int) 4 = ((n % 4 : Nat) : Int) := by
    rw [Int.tmod_eq_emod_of_nonneg (by omega)]; omega
  refine ⟨by rw [h1, IntKind.wrap_i64]; omega, h1, by rw [IntKind.wrap_i64]; omega, by omega⟩
/-- How many zeros Pad writes. -/
def padN (n : Nat) : Nat := if n % 4 = 0 then 0 else 4 - n % 4
def padL (acc : List Int) : List Int := acc ++ List.replicate (padN acc.length) 0
set_option maxRecDepth 100000 in
set_option maxHeartbeats 4000000 in
theorem wpad_same (r : Nat) (v : Value) (acc : List Int) (f : Bool) (w : World) (h : WSg w r v acc f) (ha : acc.length ≤ 1048576) (h4 : acc.length % 4 = 0) :
    Calls Tryz.prog 39 #[.pointer (some ⟨r, 0, none⟩), .int .i64 4] w fun e w' => e = .returned (.pointer (some ⟨r, 0, none⟩)) ∧ Kp [] w w' := by
  obtain ⟨c0, c1, c2, f0, f2⟩ := h.facts
  obtain ⟨p, c, rfl⟩ := slice_own h.2.1
  have hrl := h.2.2
  obtain ⟨e1, e2, _, _⟩ := rem4 acc.length ha
  rw [h4] at e1 e2
  generalize acc.length = N at *
  clear h h4
  go_enter Tryz.func39, Tryz.ntmps39
  go_wp2_with fail
  go_ret
  exact ⟨rfl, by (repeat (first | exact Kp.refl _ _ | assumption | refine Kp.drew ?_ | refine Kp.drewN ?_ _ | refine Kp.alloc ?_ _ | (refine Kp.setCell ?_ (by first | (left; simp; done) | (right; simp; try omega)) _) | (refine Kp.trans' ?_ (by assumption) (by simp; try omega))))⟩
set_option maxRecDepth 100000 in
set_option maxHeartbeats 4000000 in
theorem wpad_no (r : Nat) (v : Value) (acc : List Int) (f : Bool) (w : World) (h : WSg w r v acc f) (ha : acc.length ≤ 1048576) (h4 : acc.length % 4 ≠ 0) (hn : f = true ∨ 1048576 < acc.length + (4 - acc.length % 4)) :
    Calls Tryz.prog 39 #[.pointer (some ⟨r, 0, none⟩), .int .i64 4] w fun e w' => e = .returned (.pointer (some ⟨r, 0, none⟩)) ∧ WSg w' r v acc true ∧ Kp [r] w w' := by
  have HF := Lib.hid (wfits_no r v acc f (4 - acc.length % 4) w h hn ha (by omega))
  obtain ⟨c0, c1, c2, f0, f2⟩ := h.facts
  obtain ⟨p, c, rfl⟩ := slice_own h.2.1
  have hrl := h.2.2
  obtain ⟨e1, e2, e3, e4⟩ := rem4 acc.length ha
  have hm0 : acc.length % 4 < 4 := Nat.mod_lt _ (by decide)
  generalize hm : acc.length % 4 = m at *
  have hb : ((m : Int) == 0) = false := by simpa using h4
  generalize acc.length = N at *
  generalize hk : 4 - m = K at *
  clear h hn hm
  go_enter Tryz.func39, Tryz.ntmps39
  go_wp2_with fail
  refine HF.out.mono ?_; rintro e w1 ⟨rfl, h1, hk1⟩
  have HS := Lib.hid h1
  have HK := Lib.hid hk1
  clear h1 hk1 c0 c1 c2 f0 f2
  go_wp2_with fail
  go_ret
  exact ⟨rfl, HS.out, HK.out⟩
set_option maxRecDepth 100000 in
set_option maxHeartbeats 4000000 in
theorem wpad_yes (r : Nat) (v : Value) (acc : List Int) (w : World) (h : WSg w r v acc false) (h4 : acc.length % 4 ≠ 0) (hn : acc.length + (4 - acc.length % 4) ≤ 1048576) :
    Calls Tryz.prog 39 #[.pointer (some ⟨r, 0, none⟩), .int .i64 4] w fun e w' => e = .returned (.pointer (some ⟨r, 0, none⟩)) ∧ ∃ v', WSg w' r v' (acc ++ List.replicate (4 - acc.length % 4) 0) false ∧ Kp (r :: v.ownBlock.toList) w w' := by
  obtain ⟨i0, hi, hz0, hz1, hz2⟩ := info_parts infoByte
  have hm0 : acc.length % 4 < 4 := Nat.mod_lt _ (by decide)
  have HF := Lib.hid (wfits_calls r 1048576 v acc (4 - acc.length % 4) w h (by omega) (by omega) (by omega))
  obtain ⟨c0, c1, c2, f0, f2⟩ := h.facts
  obtain ⟨p, c, rfl⟩ := slice_own h.2.1
  have hrl := h.2.2
  obtain ⟨e1, e2, e3, e4⟩ := rem4 acc.length (by omega)
  generalize hm : acc.length % 4 = m at *
  have hb : ((m : Int) == 0) = false := by simpa using h4
  have hK0 : 0 < 4 - m := by omega
  generalize hk : 4 - m = K at *
  generalize hN : acc.length = N at *
  have HN := Lib.hid hN
  clear h hm h4 hN hk
  go_enter Tryz.func39, Tryz.ntmps39
  go_wp2_with fail
  refine HF.out.mono ?_; rintro e w1 ⟨rfl, h1, hk1⟩
  have HS : Hid (WSg w1 r (.slice p N c) acc false) := h1
  have HK := Lib.hid hk1
  clear h1 hk1 c0 c1 c2 f0 f2 HF
  obtain ⟨c0, c1, c2, f0, f2⟩ := HS.out.facts
  have hr1 := HS.out.2.2
  go_wp2_with (at_builtin; refine wpList_appZ w1 rfl _ _ 25 3 rfl (r + 1) 5 i0 Tryz.underlying25 Tryz.underlying3 hi hz0 hz1 hz2 (.slice p N c) N (acc.map (Value.int .u8)) rfl ?hown K rfl hK0 ?hb1 ?hb2 ?hk)
  case hown => have := HS.out.2.1; rw [HN.out] at this; exact this
  case hb1 => omega
  case hb2 => omega
  case hk =>
  intro v4 w4 hown4 hgr4
  have hown1 : w1.ownsRow (r + 1) 5 1 (.slice p N c) N (acc.map (Value.int .u8)) := by have := HS.out.2.1; rw [HN.out] at this; exact this
  have hnr : r ∉ (Value.slice p N c).ownBlock.toList := fun hm => by
    have := own_ge hown1 r (by simpa using hm); omega
  have hk4 : Kp (Value.slice p N c).ownBlock.toList w1 w4 := Kp.grown (Kp.refl _ _) hgr4 (fun k hk => .inl (by rw [hk]; simp))
  have hb4 := hk4.heap HS.out.1 hnr
  have d0 : w4.cell? ⟨r, 0, none⟩ = some (.slice p N c) := by rw [cell_of_row w4 r 0 _ _ _ hb4]; rfl
  have g0 := frozen_of_row w4 r 0 _ _ hb4
  obtain ⟨p4, c4, rfl⟩ := slice_own hown4
  have hk5 : Kp [r] w4 (w4.setCell ⟨r, 0, none⟩ (.slice p4 (N + K) c4)) := (Kp.refl _ _).setCell (.inl (by simp)) _
  have HE : Hid (WSg (w4.setCell ⟨r, 0, none⟩ (.slice p4 (N + K) c4)) r (.slice p4 (N + K) c4) (acc ++ List.replicate K 0) false ∧ Kp (r :: (Value.slice p N c).ownBlock.toList) w (w4.setCell ⟨r, 0, none⟩ (.slice p4 (N + K) c4))) := by
    refine ⟨⟨heap_setCell_same w4 r 0 _ _ _ hb4, ?_, by have := hk4.size; have := hk5.size; omega⟩, ?_⟩
    · have hrow := hk5.row hown4 (fun s hs e => by simp at hs; subst hs; have := own_ge hown4 _ e; omega)
      rw [List.length_append, HN.out, List.length_replicate, List.map_append, List.map_replicate]
      exact hrow
    · exact (HK.out.more (fun s hs => .inl (by simp at hs; simp [hs]))).trans ((hk4.more (fun s hs => .inl (List.mem_cons_of_mem _ hs))).trans (hk5.more (fun s hs => .inl (by simp at hs; simp [hs]))))
  clear hown4 hgr4 hown1 hk4 hb4 hk5 HS HK c0 c1 c2 f0 f2
  go_wp2_with fail
  go_ret
  rw [show acc ++ List.replicate K 0 = acc ++ List.replicate K 0 from rfl]
  exact ⟨rfl, _, HE.out.1, HE.out.2⟩
end Go.Proofs.YtafkhnlmipddmaaGreat

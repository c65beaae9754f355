/- cff: an INDEX: how many bytes an offset has · wire: the writer that may be full (written by gencbb.py out of glyf's texts) · cff: an INDEX: an offset is written · cff: an INDEX: rows of bytes, and what is written · cff: an INDEX is written: index.Put. (Merged by wip/tools/mergetpl.py out of CbA, CbB, CbC, CbD, CbE.) -/
import Derived.Test.YtlhkaoccnpgkeaaGreatWmA
import Derived.Test.YtlhkaoccnpgkeaaGreatRowP
import Derived.Test.YtlhkaoccnpgkeaaGreatQuiet
import Derived.Test.YtlhkaoccnpgkeaaGreatPlan
import Derived.Laws.AppendOwn
import Derived.Deep.RegionHeld3
import Derived.Deep.DeepCutAuto
import Derived.BigQuiet
import Derived.Laws.AppendOwnNone
namespace Go.Proofs.YtlhkaoccnpgkeaaGreat
open Go.RowKit
set_option linter.unusedVariables false
/-- How many bytes an offset has. -/
def widN (x : Nat) : Nat := if x < 256 then 1 else if x < 65536 then 2 else if x < 16777216 then 3 else 4
theorem shr_nat (x k : Nat) : (x : Int) >>> k = ((x / 2 ^ k : Nat) : Int) := by
  rw [Int.shiftRight_eq_div_pow]
  push_cast
  rfl
theorem width_calls (x : Nat) (hx : x ≤ 4294967296) (w : World) :
    Calls Tryz.prog 70 #[.int .i64 (x : Nat)] w fun e w' => e = .returned (.int .i64 (widN x : Nat)) ∧ w = w' := by
  go_enter Tryz.func70, Tryz.ntmps70
  go_wp2
  go_loop [3] (fun i => ∃ n : Nat, 1 ≤ n ∧ n ≤ 4 ∧ i = .int .i64 (n : Nat) ∧ Hid (n = 1 ∨ 256 ^ (n - 1) ≤ x)) (fun i => 5 - (intOf i).toNat)
  case atStart => exact ⟨1, by omega, by omega, rfl, .inl rfl⟩
  case round =>
    obtain ⟨n, h1, h4, rfl, hn⟩ := hrel
    rcases (show n = 1 ∨ n = 2 ∨ n = 3 ∨ n = 4 by omega) with rfl | rfl | rfl | rfl
    · go_wp2
      rotate_left
      · have e : widN x = 1 := by
          have h9 := hn.out
          unfold widN
          simp only [Nat.reduceSub, Nat.reducePow] at h9
          (repeat' split) <;> omega
        go_ret
        exact ⟨by rw [e]; simp, rfl⟩
      · exact ⟨⟨2, by omega, by omega, rfl, .inr (by simp only [Nat.reduceSub, Nat.reducePow]; omega)⟩, by simp [intOf]⟩
    · go_wp2
      rotate_left
      · have e : widN x = 2 := by
          have h9 := hn.out
          unfold widN
          simp only [Nat.reduceSub, Nat.reducePow] at h9
          (repeat' split) <;> omega
        go_ret
        exact ⟨by rw [e]; simp, rfl⟩
      · exact ⟨⟨3, by omega, by omega, rfl, .inr (by simp only [Nat.reduceSub, Nat.reducePow]; omega)⟩, by simp [intOf]⟩
    · go_wp2
      rotate_left
      · have e : widN x = 3 := by
          have h9 := hn.out
          unfold widN
          simp only [Nat.reduceSub, Nat.reducePow] at h9
          (repeat' split) <;> omega
        go_ret
        exact ⟨by rw [e]; simp, rfl⟩
      · exact ⟨⟨4, by omega, by omega, rfl, .inr (by simp only [Nat.reduceSub, Nat.reducePow]; omega)⟩, by simp [intOf]⟩
    · go_wp2
      have e : widN x = 4 := by
        have h9 := hn.out
        unfold widN
        simp only [Nat.reduceSub, Nat.reducePow] at h9
        (repeat' split) <;> omega
      go_ret
      exact ⟨by rw [e]; simp, rfl⟩
end Go.Proofs.YtlhkaoccnpgkeaaGreat
namespace Go.Proofs.YtlhkaoccnpgkeaaGreat
open Go.RowKit
set_option linter.unusedVariables false
set_option linter.unusedSimpArgs false
/-- A writer with room for 2^20 bytes; full or not. -/
def WSg (w : World) (r : Nat) (v : Value) (acc : List Int) (f : Bool) : Prop :=
  w.heap[r]? = some (.cells #[v, .int .i64 1048576, .bool f] 162 (0, 0)) ∧ w.ownsRow (r + 1) 5 1 v acc.length (acc.map (Value.int .u8)) ∧ r < w.heap.size
theorem WSg.of {w : World} {r : Nat} {v : Value} {acc : List Int} (h : WSt w r 1048576 v acc) : WSg w r v acc false := h
theorem WSg.facts {w : World} {r : Nat} {v : Value} {acc : List Int} {f : Bool} (h : WSg w r v acc f) :
    w.cell? ⟨r, 0, none⟩ = some v ∧ w.cell? ⟨r, 1, none⟩ = some (.int .i64 1048576) ∧ w.cell? ⟨r, 2, none⟩ = some (.bool f) ∧ w.frozen? ⟨r, 0, none⟩ = false ∧ w.frozen? ⟨r, 2, none⟩ = false :=
  ⟨by rw [cell_of_row w r 0 _ _ _ h.1]; rfl, by rw [cell_of_row w r 1 _ _ _ h.1]; rfl, by rw [cell_of_row w r 2 _ _ _ h.1]; rfl, frozen_of_row w r 0 _ _ h.1, frozen_of_row w r 2 _ _ h.1⟩
theorem WSg.kp {S : List Nat} {w w' : World} {r : Nat} {v : Value} {acc : List Int} {f : Bool} (h : WSg w r v acc f) (hk : Kp S w w') (hr : r ∉ S) (hv : ∀ s ∈ S, v.ownBlock ≠ some s) : WSg w' r v acc f :=
  ⟨hk.heap h.1 hr, hk.row h.2.1 hv, Nat.lt_of_lt_of_le h.2.2 hk.size⟩
theorem WSg.kp0 {w w' : World} {r : Nat} {v : Value} {acc : List Int} {f : Bool} (h : WSg w r v acc f) (hk : Kp [] w w') : WSg w' r v acc f := h.kp hk (by simp) (by simp)
theorem WSg.setF {w : World} {r : Nat} {v : Value} {acc : List Int} {f : Bool} (h : WSg w r v acc f) (g : Bool) : WSg (w.setCell ⟨r, 2, none⟩ (.bool g)) r v acc g ∧ Kp [r] w (w.setCell ⟨r, 2, none⟩ (.bool g)) := by
  have hk : Kp [r] w (w.setCell ⟨r, 2, none⟩ (.bool g)) := (Kp.refl _ _).setCell (.inl (by simp)) _
  exact ⟨⟨heap_setCell_same w r 2 _ _ _ h.1, hk.row h.2.1 (by intro s hs e; simp at hs; subst hs; have := own_ge h.2.1 _ e; omega), Nat.lt_of_lt_of_le h.2.2 hk.size⟩, hk⟩
set_option maxRecDepth 100000 in
set_option maxHeartbeats 4000000 in
theorem wfits_no (r : Nat) (v : Value) (acc : List Int) (f : Bool) (n : Nat) (w : World) (h : WSg w r v acc f) (hn : f = true ∨ 1048576 < acc.length + n) (ha : acc.length ≤ 1048576) (hn2 : n ≤ 4611686018427387904) :
    Calls Tryz.prog 103 #[.pointer (some ⟨r, 0, none⟩), .int .i64 n] w fun e w' => e = .returned (.bool false) ∧ WSg w' r v acc true ∧ Kp [r] w w' := by
  obtain ⟨c0, c1, c2, f0, f2⟩ := h.facts
  obtain ⟨p, c, rfl⟩ := slice_own h.2.1
  have hrl := h.2.2
  have hl0 : (0 : Int) ≤ acc.length := by omega
  have HS := Lib.hid (h.setF true)
  have HG := Lib.hid h
  have hS2 : (w.setCell ⟨r, 2, none⟩ (.bool true)).drew.cell? ⟨r, 0, none⟩ = some (.slice p acc.length c) ∧ (w.setCell ⟨r, 2, none⟩ (.bool true)).drew.cell? ⟨r, 1, none⟩ = some (.int .i64 1048576) ∧ (w.setCell ⟨r, 2, none⟩ (.bool true)).drew.cell? ⟨r, 2, none⟩ = some (.bool true) :=
    ⟨HS.out.1.facts.1, HS.out.1.facts.2.1, HS.out.1.facts.2.2.1⟩
  cases f with
  | true =>
    clear h hn
    go_enter Tryz.func103, Tryz.ntmps103
    go_wp2_with fail
    have u0 := fun n : KW w => KW.cell c0 n
    have u1 := fun n : KW w => KW.cell c1 n
    have u2 := fun n : KW w => KW.cell c2 n
    refine wp_region_kqt 21 (by kernel_rfl) (by kernel_rfl) ?_
    simp only [List.take_succ_cons, List.take_zero, List.drop_succ_cons, List.drop_zero]
    repeat (go_big_quiet_step (fail))
    refine wpQuiet_nil ?_
    intro w1 hw'
    obtain ⟨⟨_, hkw1⟩, rfl⟩ := hw'
    try dsimp only
    clear u0 u1 u2 c0 c1 c2 hS2
    have HW1 := Lib.hid (HG.out.kp0 hkw1)
    have HKW := Lib.hid hkw1
    clear hkw1 HS f0 f2
    obtain ⟨c0, c1, c2, f0, f2⟩ := HW1.out.facts
    have HS1 := Lib.hid (HW1.out.setF true)
    obtain ⟨d0, d1, d2, _, _⟩ := HS1.out.1.facts
    go_wp2_with fail
    go_ret
    refine ⟨rfl, HS1.out.1, Kp.trans (HKW.out.more (fun s hs => nomatch hs)) HS1.out.2⟩
  | false =>
    have hx : 1048576 < acc.length + n := by rcases hn with e | e; cases e; exact e
    have hX : decide (IntKind.i64.wrap (1048576 - (acc.length : Int)) < n) = true := by rw [IntKind.wrap_i64]; exact decide_eq_true (by omega)
    have hX2 : decide (1048576 - (acc.length : Int) < n) = true := decide_eq_true (by omega)
    clear h hn
    go_enter Tryz.func103, Tryz.ntmps103
    go_wp2_with fail
    have u0 := fun n : KW w => KW.cell c0 n
    have u1 := fun n : KW w => KW.cell c1 n
    have u2 := fun n : KW w => KW.cell c2 n
    refine wp_region_kqt 21 (by kernel_rfl) (by kernel_rfl) ?_
    simp only [List.take_succ_cons, List.take_zero, List.drop_succ_cons, List.drop_zero]
    repeat (go_big_quiet_step (fail))
    refine wpQuiet_nil ?_
    intro w1 hw'
    obtain ⟨⟨_, hkw1⟩, rfl⟩ := hw'
    try dsimp only
    clear u0 u1 u2 c0 c1 c2 hS2
    have HW1 := Lib.hid (HG.out.kp0 hkw1)
    have HKW := Lib.hid hkw1
    clear hkw1 HS f0 f2
    obtain ⟨c0, c1, c2, f0, f2⟩ := HW1.out.facts
    have HS1 := Lib.hid (HW1.out.setF true)
    obtain ⟨d0, d1, d2, _, _⟩ := HS1.out.1.facts
    go_wp2_with fail
    go_ret
    refine ⟨rfl, HS1.out.1, Kp.trans (HKW.out.more (fun s hs => nomatch hs)) HS1.out.2⟩
set_option maxRecDepth 100000 in
set_option maxHeartbeats 4000000 in
theorem wdata_no (r : Nat) (v : Value) (acc : List Int) (f : Bool) (p : Option Addr) (n c : Nat) (w : World) (h : WSg w r v acc f) (hn : f = true ∨ 1048576 < acc.length + n) (ha : acc.length ≤ 1048576) (hn2 : n ≤ 4611686018427387904) :
    Calls Tryz.prog 72 #[.pointer (some ⟨r, 0, none⟩), .slice p n c] w fun e w' => e = .returned (.pointer (some ⟨r, 0, none⟩)) ∧ WSg w' r v acc true ∧ Kp [r] w w' := by
  have HF := Lib.hid (wfits_no r v acc f n w h hn ha hn2)
  clear h hn
  go_enter Tryz.func72, Tryz.ntmps72
  go_wp2_with fail
  refine HF.out.mono ?_; rintro e w1 ⟨rfl, h1, hk1⟩
  have HS := Lib.hid h1
  have HK := Lib.hid hk1
  clear h1 hk1
  go_wp2_with fail
  go_ret
  exact ⟨rfl, HS.out, HK.out⟩
theorem wdone_full (r : Nat) (v : Value) (acc : List Int) (w : World) (h : WSg w r v acc true) :
    Calls Tryz.prog 65 #[.pointer (some ⟨r, 0, none⟩)] w fun e w' => e = .returned (.tuple #[.slice none 0 0, .int .i64 2]) ∧ Kp [] w w' := by
  obtain ⟨c0, c1, c2, f0, f2⟩ := h.facts
  have hrl := h.2.2
  clear h
  go_enter Tryz.func65, Tryz.ntmps65
  go_wp2_with fail
  go_ret2
  exact ⟨rfl, by (repeat (first | exact Kp.refl _ _ | assumption | refine Kp.drew ?_ | refine Kp.drewN ?_ _ | refine Kp.alloc ?_ _ | (refine Kp.setCell ?_ (by first | (left; simp; done) | (right; simp; try omega)) _) | (refine Kp.trans' ?_ (by assumption) (by simp; try omega))))⟩
def DataSp (acc : List Int) (f : Bool) (l : List Int) (acc' : List Int) (f' : Bool) : Prop :=
  (f = false ∧ acc.length + l.length ≤ 1048576 ∧ acc' = acc ++ l ∧ f' = false) ∨ ((f = true ∨ 1048576 < acc.length + l.length) ∧ acc' = acc ∧ f' = true)
theorem wnum_no (r : Nat) (v : Value) (acc : List Int) (f : Bool) (n : Nat) (x : Int) (w : World) (h : WSg w r v acc f) (hn : f = true ∨ 1048576 < acc.length + n) (ha : acc.length ≤ 1048576) (hn2 : n ≤ 8) :
    Calls Tryz.prog 101 #[.pointer (some ⟨r, 0, none⟩), .int .i64 n, .int .i64 x] w fun e w' => e = .returned (.pointer (some ⟨r, 0, none⟩)) ∧ WSg w' r v acc true ∧ Kp [r] w w' := by
  have HF := Lib.hid (wfits_no r v acc f n w h hn ha (by omega))
  clear h hn
  go_enter Tryz.func101, Tryz.ntmps101
  go_wp2_with fail
  refine HF.out.mono ?_; rintro e w1 ⟨rfl, h1, hk1⟩
  have HS := Lib.hid h1
  have HK := Lib.hid hk1
  clear h1 hk1
  go_wp2_with fail
  go_ret
  exact ⟨rfl, HS.out, HK.out⟩
theorem wu8_any (r : Nat) (v : Value) (acc : List Int) (f : Bool) (x : Int) (g1 : -9223372036854775808 ≤ x) (g2 : x ≤ 9223372036854775807) (w : World) (h : WSg w r v acc f) (ha : acc.length ≤ 1048576) :
    Calls Tryz.prog 64 #[.pointer (some ⟨r, 0, none⟩), .int .i64 x] w fun e w' => e = .returned (.pointer (some ⟨r, 0, none⟩)) ∧ ∃ v' acc' f', WSg w' r v' acc' f' ∧ Kp (r :: v.ownBlock.toList) w w' ∧ (∀ k, v'.ownBlock = some k → v.ownBlock = some k ∨ w.heap.size ≤ k) ∧ DataSp acc f (bytesN 1 x) acc' f' := by
  have hbl : (bytesN 1 x).length = 1 := by simp [bytesN]
  by_cases hn : f = true ∨ 1048576 < acc.length + 1
  · have HF := Lib.hid (wnum_no r v acc f 1 x w h hn ha (by omega))
    have HN := Lib.hid hn
    clear h hn
    go_enter Tryz.func64, Tryz.ntmps64
    go_wp2_with fail
    refine HF.out.mono ?_; rintro e w1 ⟨rfl, h1, hk1⟩
    have HS := Lib.hid h1
    have HK := Lib.hid hk1
    clear h1 hk1
    go_wp2_with fail
    go_ret
    exact ⟨rfl, v, acc, true, HS.out, HK.out.more (fun s hs => .inl (by simp at hs; simp [hs])), fun k hk => .inl hk, .inr ⟨by rw [hbl]; exact HN.out, rfl, rfl⟩⟩
  · have hf : f = false := by cases f; rfl; exact absurd (.inl rfl) hn
    subst hf
    have hle : acc.length + 1 ≤ 1048576 := by omega
    exact (wu8_calls r 1048576 v acc x g1 g2 w h (by omega) (by omega)).mono fun e w' ⟨h1, v', h2, h3⟩ => ⟨h1, v', _, false, h2, h3.1, h3.2, .inl ⟨rfl, by rw [hbl]; exact hle, rfl, rfl⟩⟩
theorem wu16_any (r : Nat) (v : Value) (acc : List Int) (f : Bool) (x : Int) (g1 : -9223372036854775808 ≤ x) (g2 : x ≤ 9223372036854775807) (w : World) (h : WSg w r v acc f) (ha : acc.length ≤ 1048576) :
    Calls Tryz.prog 63 #[.pointer (some ⟨r, 0, none⟩), .int .i64 x] w fun e w' => e = .returned (.pointer (some ⟨r, 0, none⟩)) ∧ ∃ v' acc' f', WSg w' r v' acc' f' ∧ Kp (r :: v.ownBlock.toList) w w' ∧ (∀ k, v'.ownBlock = some k → v.ownBlock = some k ∨ w.heap.size ≤ k) ∧ DataSp acc f (bytesN 2 x) acc' f' := by
  have hbl : (bytesN 2 x).length = 2 := by simp [bytesN]
  by_cases hn : f = true ∨ 1048576 < acc.length + 2
  · have HF := Lib.hid (wnum_no r v acc f 2 x w h hn ha (by omega))
    have HN := Lib.hid hn
    clear h hn
    go_enter Tryz.func63, Tryz.ntmps63
    go_wp2_with fail
    refine HF.out.mono ?_; rintro e w1 ⟨rfl, h1, hk1⟩
    have HS := Lib.hid h1
    have HK := Lib.hid hk1
    clear h1 hk1
    go_wp2_with fail
    go_ret
    exact ⟨rfl, v, acc, true, HS.out, HK.out.more (fun s hs => .inl (by simp at hs; simp [hs])), fun k hk => .inl hk, .inr ⟨by rw [hbl]; exact HN.out, rfl, rfl⟩⟩
  · have hf : f = false := by cases f; rfl; exact absurd (.inl rfl) hn
    subst hf
    have hle : acc.length + 2 ≤ 1048576 := by omega
    exact (wu16_calls r 1048576 v acc x g1 g2 w h (by omega) (by omega)).mono fun e w' ⟨h1, v', h2, h3⟩ => ⟨h1, v', _, false, h2, h3.1, h3.2, .inl ⟨rfl, by rw [hbl]; exact hle, rfl, rfl⟩⟩
theorem wu32_any (r : Nat) (v : Value) (acc : List Int) (f : Bool) (x : Int) (g1 : -9223372036854775808 ≤ x) (g2 : x ≤ 9223372036854775807) (w : World) (h : WSg w r v acc f) (ha : acc.length ≤ 1048576) :
    Calls Tryz.prog 100 #[.pointer (some ⟨r, 0, none⟩), .int .i64 x] w fun e w' => e = .returned (.pointer (some ⟨r, 0, none⟩)) ∧ ∃ v' acc' f', WSg w' r v' acc' f' ∧ Kp (r :: v.ownBlock.toList) w w' ∧ (∀ k, v'.ownBlock = some k → v.ownBlock = some k ∨ w.heap.size ≤ k) ∧ DataSp acc f (bytesN 4 x) acc' f' := by
  have hbl : (bytesN 4 x).length = 4 := by simp [bytesN]
  by_cases hn : f = true ∨ 1048576 < acc.length + 4
  · have HF := Lib.hid (wnum_no r v acc f 4 x w h hn ha (by omega))
    have HN := Lib.hid hn
    clear h hn
    go_enter Tryz.func100, Tryz.ntmps100
    go_wp2_with fail
    refine HF.out.mono ?_; rintro e w1 ⟨rfl, h1, hk1⟩
    have HS := Lib.hid h1
    have HK := Lib.hid hk1
    clear h1 hk1
    go_wp2_with fail
    go_ret
    exact ⟨rfl, v, acc, true, HS.out, HK.out.more (fun s hs => .inl (by simp at hs; simp [hs])), fun k hk => .inl hk, .inr ⟨by rw [hbl]; exact HN.out, rfl, rfl⟩⟩
  · have hf : f = false := by cases f; rfl; exact absurd (.inl rfl) hn
    subst hf
    have hle : acc.length + 4 ≤ 1048576 := by omega
    exact (wu32_calls r 1048576 v acc x g1 g2 w h (by omega) (by omega)).mono fun e w' ⟨h1, v', h2, h3⟩ => ⟨h1, v', _, false, h2, h3.1, h3.2, .inl ⟨rfl, by rw [hbl]; exact hle, rfl, rfl⟩⟩
end Go.Proofs.YtlhkaoccnpgkeaaGreat
namespace Go.Proofs.YtlhkaoccnpgkeaaGreat
open Go.RowKit
set_option linter.unusedVariables false
set_option linter.unusedSimpArgs false
/-- Bytes that are put one after the other: all of them, or the writer is full. -/
def PutSp (acc : List Int) (f : Bool) (l : List Int) (acc' : List Int) (f' : Bool) : Prop :=
  (f = false ∧ acc.length + l.length ≤ 1048576 ∧ acc' = acc ++ l ∧ f' = false) ∨ ((f = true ∨ 1048576 < acc.length + l.length) ∧ acc'.length ≤ 1048576 ∧ f' = true)
theorem PutSp.refl {acc : List Int} {f : Bool} (h : acc.length ≤ 1048576) : PutSp acc f [] acc f := by
  cases f with
  | false => exact .inl ⟨rfl, by simpa using h, by simp, rfl⟩
  | true => exact .inr ⟨.inl rfl, h, rfl⟩
theorem PutSp.len {acc l acc' : List Int} {f f' : Bool} (h : PutSp acc f l acc' f') : acc'.length ≤ 1048576 := by
  rcases h with ⟨_, h1, rfl, _⟩ | ⟨_, h1, _⟩
  · simpa using h1
  · exact h1
theorem PutSp.trans {acc l a1 m a2 : List Int} {f f1 f2 : Bool} (h : PutSp acc f l a1 f1) (k : PutSp a1 f1 m a2 f2) : PutSp acc f (l ++ m) a2 f2 := by
  rcases h with ⟨rfl, h1, rfl, rfl⟩ | ⟨h0, h1, rfl⟩
  · rcases k with ⟨_, k1, rfl, rfl⟩ | ⟨k0, k1, rfl⟩
    · exact .inl ⟨rfl, by simp at k1 ⊢; omega, by simp, rfl⟩
    · refine .inr ⟨.inr ?_, k1, rfl⟩
      rcases k0 with k0 | k0
      · cases k0
      · simp at k0 ⊢; omega
  · rcases k with ⟨k0, _⟩ | ⟨k0, k1, rfl⟩
    · cases k0
    · refine .inr ⟨?_, k1, rfl⟩
      rcases h0 with h0 | h0
      · exact .inl h0
      · exact .inr (by simp; omega)
theorem PutSp.of {acc l acc' : List Int} {f f' : Bool} (ha : acc.length ≤ 1048576) (h : DataSp acc f l acc' f') : PutSp acc f l acc' f' := by
  rcases h with h | ⟨h1, rfl, h3⟩
  · exact .inl h
  · exact .inr ⟨h1, ha, h3⟩
set_option maxRecDepth 100000 in
set_option maxHeartbeats 4000000 in
theorem off_calls (x s ps pw r : Nat) (hx : x ≤ 4294967295) (h1 : 1 ≤ s) (h4 : s ≤ 4) (v : Value) (acc : List Int) (f : Bool) (w : World) (h : WSg w r v acc f) (ha : acc.length ≤ 1048576)
    (hps : w.cell? ⟨ps, 0, none⟩ = some (.int .i64 (s : Nat))) (hpw : w.cell? ⟨pw, 0, none⟩ = some (.pointer (some ⟨r, 0, none⟩))) (np : ps ≠ r) (nw : pw ≠ r) (ns : v.ownBlock ≠ some ps) (nv : v.ownBlock ≠ some pw) :
    Calls Tryz.prog 71 #[.int .i64 (x : Nat), .pointer (some ⟨ps, 0, none⟩), .pointer (some ⟨pw, 0, none⟩)] w fun e w' => e = .returned (.tuple #[]) ∧ ∃ v' acc' f', WSg w' r v' acc' f' ∧ Kp (r :: v.ownBlock.toList) w w' ∧ (∀ k, v'.ownBlock = some k → v.ownBlock = some k ∨ w.heap.size ≤ k) ∧ PutSp acc f (bytesN s (x : Nat)) acc' f' := by
  have hlp := World.block_lt_of_cell? w _ hps
  have hlw := World.block_lt_of_cell? w _ hpw
  have H0 : Hid (WSg w r v acc f) := h
  clear h
  have hkeep : ∀ (wr : World) (a : Nat) (u : Value), Kp (r :: v.ownBlock.toList) w wr → a ≠ r → v.ownBlock ≠ some a → w.cell? ⟨a, 0, none⟩ = some u → wr.cell? ⟨a, 0, none⟩ = some u := fun wr a u hk h1 h2 h3 => hk.cell h3 (by
    simp only [List.mem_cons, not_or]
    refine ⟨h1, fun hm => h2 ?_⟩
    cases hv : v.ownBlock with
    | none => rw [hv] at hm; simp at hm
    | some b => rw [hv] at hm; simp at hm; rw [hm])
  have HKE := Lib.hid hkeep
  clear hkeep
  go_enter Tryz.func71, Tryz.ntmps71
  go_wp2_with fail
  go_loopw [4, 6] (fun _ i wr => ∃ (j : Nat) (v1 : Value) (a1 : List Int) (f1 : Bool), j ≤ s ∧ i = .int .i64 (j : Nat) ∧ WSg wr r v1 a1 f1 ∧ Kp (r :: v.ownBlock.toList) w wr ∧ (∀ k, v1.ownBlock = some k → v.ownBlock = some k ∨ w.heap.size ≤ k) ∧ PutSp acc f ((bytesN s (x : Nat)).take j) a1 f1) (fun _ i _ => s - (intOf i).toNat)
  case atStart => exact ⟨0, v, acc, f, by omega, rfl, H0.out, Kp.refl _ _, fun k h => .inl h, by simpa using PutSp.refl ha⟩
  case round =>
    obtain ⟨j, v1, a1, f1, hj, rfl, hs, hk, ho, hp⟩ := hrel
    have c0 := HKE.out _ _ _ hk np ns hps
    have c1 := HKE.out _ _ _ hk nw nv hpw
    have HS := Lib.hid hs
    have HK := Lib.hid hk
    have HO := Lib.hid ho
    have HP := Lib.hid hp
    have hwr : w.heap.size ≤ wr.heap.size := hk.size
    clear hs hk ho hp
    by_cases hjs : j < s
    · have hcase : (s = 1 ∧ j = 0) ∨ (s = 2 ∧ j = 0) ∨ (s = 2 ∧ j = 1) ∨ (s = 3 ∧ j = 0) ∨ (s = 3 ∧ j = 1) ∨ (s = 3 ∧ j = 2) ∨ (s = 4 ∧ j = 0) ∨ (s = 4 ∧ j = 1) ∨ (s = 4 ∧ j = 2) ∨ (s = 4 ∧ j = 3) := by omega
      rcases hcase with ⟨rfl, rfl⟩ | ⟨rfl, rfl⟩ | ⟨rfl, rfl⟩ | ⟨rfl, rfl⟩ | ⟨rfl, rfl⟩ | ⟨rfl, rfl⟩ | ⟨rfl, rfl⟩ | ⟨rfl, rfl⟩ | ⟨rfl, rfl⟩ | ⟨rfl, rfl⟩
      all_goals
        go_wp2_with fail
        have u0 := fun n : KW wr => KW.cell c0 n
        have u1 := fun n : KW wr => KW.cell c1 n
        refine wp_region_kqt 8 (by kernel_rfl) (by kernel_rfl) ?_
        simp only [List.take_succ_cons, List.take_zero, List.drop_succ_cons, List.drop_zero]
        repeat (go_big_quiet_step (fail))
        refine wpQuiet_nil ?_
        intro w1 hw'
        obtain ⟨⟨_, hkw1⟩, rfl⟩ := hw'
        try dsimp only
        have HW1 := Lib.hid (HS.out.kp0 hkw1)
        have HK1 := Lib.hid (HK.out.trans0 hkw1)
        have hw1 : wr.heap.size ≤ w1.heap.size := hkw1.size
        clear u0 u1 c0 c1 hkw1
        go_wp2_with fail
        refine (wu8_any r v1 a1 f1 _ (by omega) (by omega) _ HW1.out HP.out.len).mono ?_
        rintro e w2 ⟨rfl, v2, a2, f2, g1, g2, g3, g4⟩
        have HS2 := Lib.hid g1
        have HK2 : Hid (Kp (r :: v.ownBlock.toList) w w2) := HK1.out.trans' g2 (fun t ht => by
          rcases List.mem_cons.1 ht with rfl | ht
          · exact .inl (by simp)
          · cases hv1 : v1.ownBlock with
            | none => rw [hv1] at ht; simp at ht
            | some b =>
              rw [hv1] at ht
              simp at ht
              subst ht
              rcases HO.out t hv1 with h9 | h9
              · exact .inl (by rw [h9]; simp)
              · exact .inr h9)
        have HO2 : Hid (∀ k, v2.ownBlock = some k → v.ownBlock = some k ∨ w.heap.size ≤ k) := fun k hk => by
          rcases g3 k hk with h9 | h9
          · exact HO.out k h9
          · exact .inr (by omega)
        have HP2 := Lib.hid (HP.out.trans (PutSp.of HP.out.len g4))
        clear g1 g2 g3 g4 HP HO HK1 HW1 HK HS
        go_wp2_with fail
        go_roundw
        case rel =>
          (repeat apply Exists.intro)
          first
            | exact ⟨⟨1, v2, a2, f2, by omega, rfl, HS2.out, HK2.out, HO2.out, by have h9 := HP2.out; simpa [bytesN] using h9⟩, rfl⟩
            | exact ⟨⟨2, v2, a2, f2, by omega, rfl, HS2.out, HK2.out, HO2.out, by have h9 := HP2.out; simpa [bytesN] using h9⟩, rfl⟩
            | exact ⟨⟨3, v2, a2, f2, by omega, rfl, HS2.out, HK2.out, HO2.out, by have h9 := HP2.out; simpa [bytesN] using h9⟩, rfl⟩
            | exact ⟨⟨4, v2, a2, f2, by omega, rfl, HS2.out, HK2.out, HO2.out, by have h9 := HP2.out; simpa [bytesN] using h9⟩, rfl⟩
        case measure => simp [intOf]
    · obtain rfl : j = s := by omega
      go_wp2_with fail
      refine ⟨rfl, .tuple #[], by simp [results, Tryz.f71], rfl, v1, a1, f1, HS.out, HK.out, HO.out, ?_⟩
      have h9 := HP.out
      rw [List.take_of_length_le (by rw [bytesN_length]; exact Nat.le_refl _)] at h9
      exact h9
end Go.Proofs.YtlhkaoccnpgkeaaGreat
namespace Go.Proofs.YtlhkaoccnpgkeaaGreat
open Go.RowKit
set_option linter.unusedVariables false
set_option linter.unusedSimpArgs false
theorem wp_gen {P : Program} {c : Code} {Q : Exit → Act → World → Prop} {a : Act} {w : World} (h : ∀ W, W = w → Code.wp P c Q a W) : Code.wp P c Q a w := h w rfl
theorem three_heap {w W : World} {A B C : Obj} (h : W = ((w.alloc A).alloc B).alloc C) : W.heap[w.heap.size]? = some A ∧ W.heap[w.heap.size + 1]? = some B ∧ W.heap[w.heap.size + 1 + 1]? = some C := by
  have h1 := heap_alloc_new w A
  have h2 := heap_alloc_new (w.alloc A) B
  have h3 := heap_alloc_new ((w.alloc A).alloc B) C
  have s1 : (w.alloc A).heap.size = w.heap.size + 1 := by simp
  have s2 : ((w.alloc A).alloc B).heap.size = w.heap.size + 1 + 1 := by simp
  rw [s1] at h2
  rw [s2] at h3
  subst h
  exact ⟨(((Kp.refl [] (w.alloc A)).alloc B).alloc C).heap h1 (by simp), ((Kp.refl [] ((w.alloc A).alloc B)).alloc C).heap h2 (by simp), h3⟩
theorem two_heap {w W : World} {A B : Obj} (h : W = (w.alloc A).alloc B) : W.heap[w.heap.size]? = some A ∧ W.heap[w.heap.size + 1]? = some B := by
  have h1 := heap_alloc_new w A
  have h2 := heap_alloc_new (w.alloc A) B
  have s1 : (w.alloc A).heap.size = w.heap.size + 1 := by simp
  rw [s1] at h2
  subst h
  exact ⟨((Kp.refl [] (w.alloc A)).alloc B).heap h1 (by simp), h2⟩
theorem ints_formB {w : World} {v : Value} {zs : List Int} (h : IsInts .u8 w v zs) : ∃ p c, v = .slice p zs.length c := by
  rcases h with ⟨⟨ad, rfl⟩, rfl⟩ | ⟨g, off, c, rfl, _⟩
  · exact ⟨_, 0, rfl⟩
  · exact ⟨_, c, rfl⟩
theorem wpList_append_nothing {P : Program} {w : World} {ops : Array Oper} {rest : List Oper} {o : Oper} {a : Act} {Q : Exit → Act → World → Prop} (hgd : o.guard = none) (s x : Operand) (t : TypeId)
    (ho : o.op = .call { callee := .builtin .append, args := #[s, x], argTypes := #[t, t] })
    (base : Nat) (e : TypeId) (i : TypeInfo) (size : Nat) (ht : P.underlying t = some (.slice e)) (hi : P.info? e = some i)
    (v : Value) (n : Nat) (xs : List Value) (hs : a.eval s = v) (hown : w.ownsRow base e size v n xs) (p : Option Addr) (c : Nat) (hx : a.eval x = .slice p 0 c)
    (h : wpList P ops Q rest (a.put o.dst v) w) : wpList P ops Q (o :: rest) a w := by
  refine wpList_plain hgd fun K hK => ?_
  have hrun : (Builtin.append_ #[t, t] o.type #[v, .slice p 0 c]).run P w = .ok v w := by
    rcases hown.2 with ⟨rfl, rfl⟩ | ⟨g, cap, cur, rfl, _, _, hnc, _⟩
    · cases p <;> simp [Builtin.append_, run_underlying ht, sizeOf, typeInfo, hi, Builtin.lenOf, Builtin.firstCells, loadCells, loadCellsFrom]
    · cases p <;> simp [Builtin.append_, run_underlying ht, sizeOf, typeInfo, hi, Builtin.lenOf, Builtin.firstCells, hnc, storeCells, loadCells, loadCellsFrom]
  unfold Oper.wp
  simp [execOp, ho, resolve, invoke, builtin, hs, hx, hrun, Result.andThen]
  exact hK _ _ h
set_option maxRecDepth 100000 in
set_option maxHeartbeats 4000000 in
theorem wdata0_calls (r : Nat) (room : Int) (v : Value) (acc : List Int) (p : Option Addr) (c : Nat) (w : World) (h : WSt w r room v acc) (hn : (acc.length : Int) ≤ room) (hr : room ≤ 1073741824) :
    Calls Tryz.prog 72 #[.pointer (some ⟨r, 0, none⟩), .slice p 0 c] w fun e w' => e = .returned (.pointer (some ⟨r, 0, none⟩)) ∧ WSt w' r room v acc ∧ Kp [r] w w' := by
  obtain ⟨i0, hi, hz0, hz1, hz2⟩ := info_parts infoByte
  go_enter Tryz.func72, Tryz.ntmps72
  go_wp2_with fail
  refine (wfits_calls r room v acc 0 w h (by omega) (by omega) hr).mono ?_; rintro e w1 ⟨rfl, hs1, hk1⟩
  have HS := Lib.hid hs1
  have HK := Lib.hid hk1
  obtain ⟨c0, c1, c2, f0, f2⟩ := hs1.facts
  obtain ⟨q, c5, rfl⟩ := slice_own hs1.2.1
  clear hs1 hk1 h
  go_wp2_with (at_builtin; go_loud (refine wpList_append_nothing rfl _ _ 29 rfl (r + 1) 5 i0 1 Tryz.underlying29 hi (.slice q acc.length c5) acc.length (acc.map (Value.int .u8)) rfl HS.out.2.1 p c rfl ?hk))
  go_ret
  have hk2 : Kp [r] w1 (w1.setCell ⟨r, 0, none⟩ (.slice q acc.length c5)) := (Kp.refl _ _).setCell (.inl (by simp)) _
  exact ⟨rfl, ⟨heap_setCell_same w1 r 0 _ _ _ HS.out.1, hk2.row HS.out.2.1 (fun t ht e => by simp at ht; subst ht; have := own_ge HS.out.2.1 _ e; omega), Nat.lt_of_lt_of_le HS.out.2.2 hk2.size⟩, HK.out.trans hk2⟩
/-- Data of whatever bytes. -/
theorem wdataA_calls (r : Nat) (room : Int) (v : Value) (acc : List Int) (b : Value) (zs : List Int) (w : World) (h : WSt w r room v acc) (hb : IsInts .u8 w b zs) (hbr : ∀ k, blockOf b = some k → k ≠ r) (hn : (acc.length : Int) + zs.length ≤ room) (hr : room ≤ 1073741824) :
    Calls Tryz.prog 72 #[.pointer (some ⟨r, 0, none⟩), b] w fun e w' => e = .returned (.pointer (some ⟨r, 0, none⟩)) ∧ ∃ v', WSt w' r room v' (acc ++ zs) ∧ WK w w' r v v' := by
  by_cases h0 : zs.length = 0
  · obtain rfl : zs = [] := List.length_eq_zero_iff.1 h0
    obtain ⟨p, c, rfl⟩ := ints_formB hb
    refine (wdata0_calls r room v acc p c w h (by simpa using hn) hr).mono ?_
    rintro e w' ⟨rfl, h1, h2⟩
    exact ⟨rfl, v, by rw [List.append_nil]; exact h1, h2.more (fun s hs => .inl (by simp at hs; simp [hs])), fun k hk => .inl hk⟩
  · exact wdata_calls r room v acc b zs w h hb hbr (by omega) hn hr
theorem wdata_any (r : Nat) (v : Value) (acc : List Int) (f : Bool) (b : Value) (zs : List Int) (w : World) (h : WSg w r v acc f) (ha : acc.length ≤ 1048576) (hb : IsInts .u8 w b zs) (hl : zs.length ≤ 4611686018427387904) (hbr : zs ≠ [] → ∀ k, blockOf b = some k → k ≠ r) :
    Calls Tryz.prog 72 #[.pointer (some ⟨r, 0, none⟩), b] w fun e w' => e = .returned (.pointer (some ⟨r, 0, none⟩)) ∧ ∃ v' acc' f', WSg w' r v' acc' f' ∧ Kp (r :: v.ownBlock.toList) w w' ∧ DataSp acc f zs acc' f' := by
  obtain ⟨p, c, rfl⟩ := ints_formB hb
  by_cases hn : f = true ∨ 1048576 < acc.length + zs.length
  · exact (wdata_no r v acc f p zs.length c w h hn ha hl).mono fun e w' ⟨h1, h2, h3⟩ => ⟨h1, v, acc, true, h2, h3.more (fun s hs => .inl (by simp at hs; simp [hs])), .inr ⟨hn, rfl, rfl⟩⟩
  · have hf : f = false := by cases f; rfl; exact absurd (.inl rfl) hn
    subst hf
    have hle : acc.length + zs.length ≤ 1048576 := by omega
    by_cases h0 : zs = []
    · subst h0
      exact (wdata0_calls r 1048576 v acc p c w h (by omega) (by omega)).mono fun e w' ⟨h1, h2, h3⟩ => ⟨h1, v, acc, false, h2, h3.more (fun s hs => .inl (by simp at hs; simp [hs])), .inl ⟨rfl, hle, by simp, rfl⟩⟩
    · exact (wdataA_calls r 1048576 v acc _ zs w h hb (hbr h0) (by omega) (by omega)).mono fun e w' ⟨h1, v', h2, h3⟩ => ⟨h1, v', acc ++ zs, false, h2, h3.1, .inl ⟨rfl, hle, rfl, rfl⟩⟩
theorem intsG_lt {k : IntKind} {w : World} {v : Value} {zs : List Int} (h : IsInts k w v zs) (h0 : zs ≠ []) : ∀ b, blockOf v = some b → b < w.heap.size := by
  intro b hb
  rcases h with ⟨_, e⟩ | ⟨g, off, c, rfl, h2, h3, h4⟩
  · exact absurd e h0
  · have hl : 0 < zs.length := by cases zs with | nil => exact absurd rfl h0 | cons a l => simp
    have hc := h4 0 hl
    have hg : g < w.heap.size := World.block_lt_of_cell? w _ hc
    obtain ⟨_, rfl⟩ := (blockOf_some _ _ _ _ _ _).1 hb
    exact hg
/-- Rows of bytes, as they are read. -/
def IsBs (w : World) (v : Value) (o : List (List Int)) : Prop :=
  ∃ vs : List Value, Reads 1 w v o.length vs ∧ ∀ i, i < o.length → IsInts .u8 w (vs.getD i (.slice none 0 0)) (o.getD i [])
theorem IsBs.kp0 {w w' : World} {v : Value} {o : List (List Int)} (h : IsBs w v o) (hk : Kp [] w w') : IsBs w' v o := by
  obtain ⟨vs, h1, h2⟩ := h
  exact ⟨vs, Reads.kp h1 hk (by simp), fun i hi => (h2 i hi).kp hk (by simp)⟩
theorem IsBs.nil (w : World) (a : Option Addr) : IsBs w (.slice a 0 0) [] := ⟨[], ⟨rfl, .inl ⟨⟨a, rfl⟩, rfl⟩⟩, fun i hi => by simp at hi⟩
theorem IsBs.form {w : World} {v : Value} {o : List (List Int)} (h : IsBs w v o) : ∃ p c, v = .slice p o.length c := by
  obtain ⟨vs, h1, _⟩ := h
  rcases h1.2 with ⟨⟨ad, rfl⟩, h0⟩ | ⟨g, off, c, rfl, _⟩
  · exact ⟨_, _, by rw [h0]⟩
  · exact ⟨_, _, rfl⟩
theorem IsBs.row {w : World} {v : Value} {o : List (List Int)} (h : IsBs w v o) {i : Nat} (hi : i < o.length) : ∃ g off c p cv, v = .slice (some ⟨g, off, none⟩) o.length c ∧ o.length ≤ c ∧ c ≤ maxLen ∧ w.cell? ⟨g, off + i, none⟩ = some (.slice p (o.getD i []).length cv) ∧ IsInts .u8 w (.slice p (o.getD i []).length cv) (o.getD i []) := by
  obtain ⟨vs, h1, h2⟩ := h
  have hp := h2 i hi
  obtain ⟨p, cv, hv⟩ := ints_formB hp
  rcases h1.2 with ⟨⟨ad, rfl⟩, h0⟩ | ⟨g, off, c, rfl, h3, h4, h5⟩
  · omega
  · refine ⟨g, off, c, p, cv, rfl, h3, h4, ?_, by rw [← hv]; exact hp⟩
    have hl : i < vs.length := by have := h1.1; omega
    have := h5 i _ (List.getElem?_eq_getElem hl)
    rw [this, ← hv, List.getD_eq_getElem?_getD, List.getElem?_eq_getElem hl]; rfl
def sumL (o : List (List Int)) (j : Nat) : Nat := ((o.take j).flatten).length
theorem flat_step (o : List (List Int)) {j : Nat} (h : j < o.length) : (o.take (j + 1)).flatten = (o.take j).flatten ++ o.getD j [] := by
  rw [List.take_succ_eq_append_getElem h, List.flatten_append, List.getD_eq_getElem?_getD, List.getElem?_eq_getElem h]; simp
theorem sumL_succ (o : List (List Int)) {j : Nat} (h : j < o.length) : sumL o (j + 1) = sumL o j + (o.getD j []).length := by
  unfold sumL; rw [flat_step o h, List.length_append]
theorem sumL_le (o : List (List Int)) : ∀ d j, sumL o j ≤ sumL o (j + d) := by
  intro d
  induction d with
  | zero => intro j; exact Nat.le_refl _
  | succ d ih =>
    intro j
    by_cases h : j + d < o.length
    · have := ih j
      rw [← Nat.add_assoc, sumL_succ o h]; omega
    · have e : sumL o (j + (d + 1)) = sumL o (j + d) := by
        unfold sumL; rw [List.take_of_length_le (by omega), List.take_of_length_le (by omega)]
      rw [e]; exact ih j
theorem sumL_all (o : List (List Int)) : sumL o o.length = o.flatten.length := by unfold sumL; rw [List.take_length]
theorem own_ne {W : World} {base1 base2 : Nat} {e1 e2 : TypeId} {s1 s2 n1 n2 : Nat} {v1 v2 : Value} {x1 x2 : List Value} (h1 : W.ownsRow base1 e1 s1 v1 n1 x1) (h2 : W.ownsRow base2 e2 s2 v2 n2 x2) (hne : e1 ≠ e2) : ∀ k, v1.ownBlock = some k → v2.ownBlock ≠ some k := by
  intro k hk hk2
  rcases h1.2 with ⟨rfl, _⟩ | ⟨g, cap, cur, rfl, _, hg, _⟩
  · simp [Value.ownBlock] at hk
  · rcases h2.2 with ⟨rfl, _⟩ | ⟨g', cap', cur', rfl, _, hg', _⟩
    · simp [Value.ownBlock] at hk2
    · simp [Value.ownBlock] at hk hk2
      subst hk
      subst hk2
      rw [hg] at hg'
      simp at hg'
      exact hne hg'.2
theorem own_box {W : World} {base : Nat} {e T : TypeId} {s n p : Nat} {v : Value} {xs : List Value} {c : Array Value} {z : Nat × Nat} (h1 : W.ownsRow base e s v n xs) (h2 : W.heap[p]? = some (.cells c T z)) (hne : T ≠ e) : v.ownBlock ≠ some p := by
  intro hk
  rcases h1.2 with ⟨rfl, _⟩ | ⟨g, cap, cur, rfl, _, hg, _⟩
  · simp [Value.ownBlock] at hk
  · simp [Value.ownBlock] at hk
    subst hk
    rw [h2] at hg
    simp at hg
    exact hne hg.2.1
/-- The first k offsets. -/
def offsP (s : Nat) (o : List (List Int)) (k : Nat) : List Int := (List.range k).flatMap fun j => bytesN s ((1 + sumL o j : Nat) : Int)
theorem offsP_succ (s : Nat) (o : List (List Int)) (k : Nat) : offsP s o (k + 1) = offsP s o k ++ bytesN s ((1 + sumL o k : Nat) : Int) := by
  unfold offsP; rw [List.range_succ, List.flatMap_append]; simp
theorem offsP_len (s : Nat) (o : List (List Int)) (k : Nat) : (offsP s o k).length = k * s := by
  induction k with
  | zero => simp [offsP]
  | succ k ih => rw [offsP_succ, List.length_append, ih, bytesN_length, Nat.succ_mul]
def szO (o : List (List Int)) : Nat := widN (1 + o.flatten.length)
/-- An INDEX's bytes. -/
def ixB (o : List (List Int)) : List Int := bytesN 2 (o.length : Nat) ++ bytesN 1 (szO o : Nat) ++ offsP (szO o) o (o.length + 1) ++ o.flatten
def putM (o : List (List Int)) : List Int × Int :=
  if 65535 < o.length then ([], 3) else if o = [] then ([0, 0], 0) else if 1048576 < 1 + o.flatten.length then ([], 3) else if 1048576 < (ixB o).length then ([], 3) else (ixB o, 0)
theorem widN_b (x : Nat) : 1 ≤ widN x ∧ widN x ≤ 4 := by unfold widN; (repeat' split) <;> omega
/-- What the writing of an INDEX has. -/
def IxSt (w wr : World) (p7 p8 r s : Nat) (acc : List Int) (f : Bool) : Prop :=
  ∃ v, WSg wr r v acc f ∧ acc.length ≤ 1048576 ∧ wr.heap[p7]? = some (.cells #[.int .i64 (s : Nat)] 3 (0, 0)) ∧ wr.heap[p8]? = some (.cells #[.pointer (some ⟨r, 0, none⟩)] 103 (0, 0)) ∧ p7 ≠ r ∧ p8 ≠ r ∧ w.heap.size ≤ p7 ∧ w.heap.size ≤ p8 ∧ w.heap.size ≤ r ∧ Kp [] w wr
theorem IxSt.kp0 {w wr w2 : World} {p7 p8 r s : Nat} {acc : List Int} {f : Bool} (h : IxSt w wr p7 p8 r s acc f) (hk : Kp [] wr w2) : IxSt w w2 p7 p8 r s acc f := by
  obtain ⟨v, h1, h2, h3, h4, h5, h6, h7, h8, h9, h10⟩ := h
  exact ⟨v, h1.kp0 hk, h2, hk.heap h3 (by simp), hk.heap h4 (by simp), h5, h6, h7, h8, h9, h10.trans hk⟩
theorem IxSt.step {w wr w2 : World} {p7 p8 r s : Nat} {v v2 : Value} {acc a2 : List Int} {f f2 : Bool} (h1 : WSg wr r v acc f) (h3 : wr.heap[p7]? = some (.cells #[.int .i64 (s : Nat)] 3 (0, 0))) (h4 : wr.heap[p8]? = some (.cells #[.pointer (some ⟨r, 0, none⟩)] 103 (0, 0))) (h5 : p7 ≠ r) (h6 : p8 ≠ r) (h7 : w.heap.size ≤ p7) (h8 : w.heap.size ≤ p8) (h9 : w.heap.size ≤ r) (h10 : Kp [] w wr)
    (g1 : WSg w2 r v2 a2 f2) (g2 : Kp (r :: v.ownBlock.toList) wr w2) (g3 : a2.length ≤ 1048576) : IxSt w w2 p7 p8 r s a2 f2 := by
  have q7 := own_box h1.2.1 h3 (by decide)
  have q8 := own_box h1.2.1 h4 (by decide)
  have hn : ∀ p, p ≠ r → v.ownBlock ≠ some p → p ∉ r :: v.ownBlock.toList := fun p hp hv hm => by
    rcases List.mem_cons.1 hm with e | e
    · exact hp e
    · exact hv (by simpa using e)
  exact ⟨v2, g1, g3, g2.heap h3 (hn _ h5 q7), g2.heap h4 (hn _ h6 q8), h5, h6, h7, h8, h9, h10.trans' g2 (fun t ht => .inr (by
    rcases List.mem_cons.1 ht with rfl | ht
    · exact h9
    · have := own_ge h1.2.1 t (by simpa using ht); omega))⟩
theorem IxSt.off {w wr : World} {p7 p8 r s : Nat} {acc : List Int} {f : Bool} (h : IxSt w wr p7 p8 r s acc f) (x : Nat) (hx : x ≤ 4294967295) (h1 : 1 ≤ s) (h4 : s ≤ 4) :
    Calls Tryz.prog 71 #[.int .i64 (x : Nat), .pointer (some ⟨p7, 0, none⟩), .pointer (some ⟨p8, 0, none⟩)] wr fun e w2 => e = .returned (.tuple #[]) ∧ ∃ a2 f2, IxSt w w2 p7 p8 r s a2 f2 ∧ PutSp acc f (bytesN s (x : Nat)) a2 f2 := by
  obtain ⟨v, i1, i2, i3, i4, i5, i6, i7, i8, i9, i10⟩ := h
  refine (off_calls x s p7 p8 r hx h1 h4 v acc f wr i1 i2 (by rw [cell_of_row wr p7 0 _ _ _ i3]; rfl) (by rw [cell_of_row wr p8 0 _ _ _ i4]; rfl) i5 i6 (own_box i1.2.1 i3 (by decide)) (own_box i1.2.1 i4 (by decide))).mono ?_
  rintro e w2 ⟨rfl, v2, a2, f2, g1, g2, g3, g4⟩
  exact ⟨rfl, a2, f2, IxSt.step i1 i3 i4 i5 i6 i7 i8 i9 i10 g1 g2 g4.len, g4⟩
theorem IxSt.data {w wr : World} {p7 p8 r s : Nat} {acc : List Int} {f : Bool} (h : IxSt w wr p7 p8 r s acc f) (b : Value) (zs : List Int) (hb : IsInts .u8 wr b zs) (hl : zs.length ≤ 4611686018427387904) (hbr : zs ≠ [] → ∀ k, blockOf b = some k → k < w.heap.size) :
    Calls Tryz.prog 72 #[.pointer (some ⟨r, 0, none⟩), b] wr fun e w2 => e = .returned (.pointer (some ⟨r, 0, none⟩)) ∧ ∃ a2 f2, IxSt w w2 p7 p8 r s a2 f2 ∧ PutSp acc f zs a2 f2 := by
  obtain ⟨v, i1, i2, i3, i4, i5, i6, i7, i8, i9, i10⟩ := h
  refine (wdata_any r v acc f b zs wr i1 i2 hb hl (fun h0 k hk => by have := hbr h0 k hk; omega)).mono ?_
  rintro e w2 ⟨rfl, v2, a2, f2, g1, g2, g4⟩
  have hp := PutSp.of i2 g4
  exact ⟨rfl, a2, f2, IxSt.step i1 i3 i4 i5 i6 i7 i8 i9 i10 g1 g2 hp.len, hp⟩
theorem IxSt.boxes {w wr : World} {p7 p8 r s : Nat} {acc : List Int} {f : Bool} (h : IxSt w wr p7 p8 r s acc f) : wr.cell? ⟨p8, 0, none⟩ = some (.pointer (some ⟨r, 0, none⟩)) := by
  obtain ⟨v, i1, i2, i3, i4, _⟩ := h
  rw [cell_of_row wr p8 0 _ _ _ i4]; rfl
end Go.Proofs.YtlhkaoccnpgkeaaGreat
namespace Go.Proofs.YtlhkaoccnpgkeaaGreat
open Go.RowKit
set_option linter.unusedVariables false
set_option linter.unusedSimpArgs false
theorem w64 (x : Int) (h1 : -9223372036854775808 ≤ x) (h2 : x ≤ 9223372036854775807) : wrap64 x = x := by unfold wrap64; omega
/-- Where a row ends, and the next begins. -/
def endO (o : List (List Int)) (j : Nat) : Nat := 1 + sumL o j
theorem endO_succ (o : List (List Int)) {j : Nat} (h : j < o.length) : endO o (j + 1) = endO o j + (o.getD j []).length := by unfold endO; rw [sumL_succ o h]; omega
theorem endO_le (o : List (List Int)) {j : Nat} (h : j ≤ o.length) : endO o j ≤ 1 + o.flatten.length := by
  have h5 := sumL_le o (o.length - j) j
  rw [Nat.add_sub_cancel' h, sumL_all] at h5
  unfold endO; omega
def hdX (o : List (List Int)) : List Int := bytesN 2 (o.length : Nat) ++ bytesN 1 (szO o : Nat)
theorem ixB_eq (o : List (List Int)) : ixB o = hdX o ++ offsP (szO o) o (o.length + 1) ++ o.flatten := rfl
/-- Behind the head. -/
def IxS2 (w wr : World) (p7 p8 r : Nat) (o : List (List Int)) (l : List Int) : Prop := ∃ acc f, IxSt w wr p7 p8 r (szO o) acc f ∧ PutSp [] false l acc f
theorem IxS2.kp0 {w wr w2 : World} {p7 p8 r : Nat} {o : List (List Int)} {l : List Int} (h : IxS2 w wr p7 p8 r o l) (hk : Kp [] wr w2) : IxS2 w w2 p7 p8 r o l := by
  obtain ⟨acc, f, h1, h2⟩ := h
  exact ⟨acc, f, h1.kp0 hk, h2⟩
theorem IxS2.off {w wr : World} {p7 p8 r : Nat} {o : List (List Int)} {l : List Int} (h : IxS2 w wr p7 p8 r o l) (x : Nat) (hx : x ≤ 4294967295) :
    Calls Tryz.prog 71 #[.int .i64 (x : Nat), .pointer (some ⟨p7, 0, none⟩), .pointer (some ⟨p8, 0, none⟩)] wr fun e w2 => e = .returned (.tuple #[]) ∧ IxS2 w w2 p7 p8 r o (l ++ bytesN (szO o) (x : Nat)) := by
  obtain ⟨acc, f, h1, h2⟩ := h
  refine (h1.off x hx (widN_b _).1 (widN_b _).2).mono ?_
  rintro e w2 ⟨rfl, a2, f2, g1, g2⟩
  exact ⟨rfl, a2, f2, g1, h2.trans g2⟩
theorem IxS2.data {w wr : World} {p7 p8 r : Nat} {o : List (List Int)} {l : List Int} (h : IxS2 w wr p7 p8 r o l) (b : Value) (zs : List Int) (hb : IsInts .u8 wr b zs) (hl : zs.length ≤ 4611686018427387904) (hbr : zs ≠ [] → ∀ k, blockOf b = some k → k < w.heap.size) :
    Calls Tryz.prog 72 #[.pointer (some ⟨r, 0, none⟩), b] wr fun e w2 => e = .returned (.pointer (some ⟨r, 0, none⟩)) ∧ IxS2 w w2 p7 p8 r o (l ++ zs) := by
  obtain ⟨acc, f, h1, h2⟩ := h
  refine (h1.data b zs hb hl hbr).mono ?_
  rintro e w2 ⟨rfl, a2, f2, g1, g2⟩
  exact ⟨rfl, a2, f2, g1, h2.trans g2⟩
theorem IxS2.box {w wr : World} {p7 p8 r : Nat} {o : List (List Int)} {l : List Int} (h : IxS2 w wr p7 p8 r o l) : wr.cell? ⟨p8, 0, none⟩ = some (.pointer (some ⟨r, 0, none⟩)) := by
  obtain ⟨acc, f, h1, _⟩ := h
  exact h1.boxes
theorem IxS2.kp {w wr : World} {p7 p8 r : Nat} {o : List (List Int)} {l : List Int} (h : IxS2 w wr p7 p8 r o l) : Kp [] w wr := by
  obtain ⟨acc, f, ⟨_, _, _, _, _, _, _, _, _, _, h⟩, _⟩ := h
  exact h
theorem IxS2.done {w wr : World} {p7 p8 r : Nat} {o : List (List Int)} {l : List Int} (h : IxS2 w wr p7 p8 r o l) :
    Calls Tryz.prog 65 #[.pointer (some ⟨r, 0, none⟩)] wr fun e w2 => ∃ v2 E, e = .returned (.tuple #[v2, .int .i64 E]) ∧ Kp [] wr w2 ∧ ((1048576 < l.length ∧ E = 2 ∧ v2 = .slice none 0 0) ∨ (l.length ≤ 1048576 ∧ E = 0 ∧ (∃ p c, v2 = .slice p l.length c) ∧ IsInts .u8 w2 v2 l ∧ ∀ b, blockOf v2 = some b → wr.heap.size ≤ b)) := by
  obtain ⟨acc, f, ⟨v, h1, h0, _⟩, h2⟩ := h
  rcases h2 with ⟨_, k1, rfl, rfl⟩ | ⟨k0, k1, rfl⟩
  · refine (wdone_calls r 1048576 v _ wr h1 (by simp at k1 ⊢; omega)).mono ?_
    rintro e w2 ⟨v2, rfl, g1, g2, g3⟩
    refine ⟨v2, 0, rfl, g2, .inr ⟨by simpa using k1, rfl, ?_, by simpa using g1, g3⟩⟩
    obtain ⟨p, c, e⟩ := ints_formB g1
    exact ⟨p, c, by simpa using e⟩
  · refine (wdone_full r v acc wr h1).mono ?_
    rintro e w2 ⟨rfl, g2⟩
    refine ⟨_, _, rfl, g2, .inl ⟨?_, rfl, rfl⟩⟩
    rcases k0 with k0 | k0
    · cases k0
    · simpa using k0
theorem ix_w (a g b : Nat) (h : b = a + g) (hb : b ≤ 1048576) : wrap64 ((a : Int) + (g : Int)) = (a : Int) + (g : Int) := w64 _ (by omega) (by omega)
theorem ix_c (a g b : Nat) (h : b = a + g) : ((b : Nat) : Int) = (a : Int) + (g : Int) := by omega
theorem ix_x (b : Nat) (h : b ≤ 1048576) : b ≤ 4294967295 := by omega
theorem ix_l (a g b : Nat) (h : b = a + g) (hb : b ≤ 1048576) : g ≤ 4611686018427387904 := by omega
theorem ix_e {a b : Nat} (h : a = 1 + b) (hb : a ≤ 1048576) : 1 + b ≤ 1048576 := by omega
theorem ix_blk {w wr : World} {o : List (List Int)} {N j g1 o1 c1 : Nat} {p1 : Option Addr} {cv : Nat} (h0 : IsBs w (.slice (some ⟨g1, o1, none⟩) N c1) o) (hbl : ∀ i, i < N → ∀ p c, IsInts .u8 w (.slice p (o.getD i []).length c) (o.getD i []) → o.getD i [] ≠ [] → ∀ k, blockOf (.slice p (o.getD i []).length c) = some k → k < w.heap.size) (hN : o.length = N) (hk : Kp [] w wr) (hj : j < o.length)
    (hc1 : wr.cell? ⟨g1, o1 + j, none⟩ = some (.slice p1 (o.getD j []).length cv)) (hi1 : IsInts .u8 wr (.slice p1 (o.getD j []).length cv) (o.getD j [])) (hne : o.getD j [] ≠ []) : ∀ k, blockOf (.slice p1 (o.getD j []).length cv) = some k → k < w.heap.size := by
  intro k hk2
  obtain ⟨g2, o2, c2, p2, cv2, e2, _, _, hc2, hi2⟩ := h0.row hj
  rw [hN] at e2
  cases e2
  have h9 := hk.cell hc2 (by simp)
  rw [hc1] at h9
  cases h9
  exact hbl j (by omega) _ _ hi2 hne k hk2
/-- A box for the writer, that is still empty. -/
def Bx (W : World) (p : Nat) : Prop := W.heap[p]? = some (.cells #[.pointer none] 103 (0, 0))
theorem Bx.facts {W : World} {p : Nat} (h : Bx W p) : W.cell? ⟨p, 0, none⟩ = some (.pointer none) ∧ W.frozen? ⟨p, 0, none⟩ = false := ⟨by rw [cell_of_row W p 0 _ _ _ h]; rfl, frozen_of_row W p 0 _ _ h⟩
theorem Bx.made (W : World) : Bx (W.alloc (.cells #[.pointer none] 103)) W.heap.size := heap_alloc_new W _
theorem Bx.kp0 {W W2 : World} {p : Nat} (h : Bx W p) (hk : Kp [] W W2) : Bx W2 p := hk.heap h (by simp)
theorem Bx.wk {w w2 : World} {p r : Nat} {room : Int} {v v2 : Value} {acc : List Int} (h : Bx w p) (hs : WSt w r room v acc) (hk : WK w w2 r v v2) (hp : p ≠ r) : Bx w2 p := hk.1.heap h (fun hm => by
  rcases List.mem_cons.1 hm with e | e
  · exact hp e
  · exact own_box hs.2.1 h (by decide) (by simpa using e))
theorem IxS2.set {w x3 : World} {p7 p8 r : Nat} {o : List (List Int)} {v3 : Value} (hs : WSt x3 r 1048576 v3 (hdX o)) (h7 : x3.heap[p7]? = some (.cells #[.int .i64 (szO o : Nat)] 3 (0, 0))) (h8 : Bx x3 p8) (n7 : p7 ≠ r) (n8 : p8 ≠ r) (n78 : p7 ≠ p8) (hk : Kp [] w x3) (g7 : w.heap.size ≤ p7) (g8 : w.heap.size ≤ p8) (gr : w.heap.size ≤ r) :
    IxS2 w (x3.setCell ⟨p8, 0, none⟩ (.pointer (some ⟨r, 0, none⟩))) p7 p8 r o (hdX o) := by
  have hk1 : Kp [p8] x3 (x3.setCell ⟨p8, 0, none⟩ (.pointer (some ⟨r, 0, none⟩))) := (Kp.refl _ _).setCell (.inl (by simp)) _
  have hg : WSg x3 r v3 (hdX o) false := hs
  have hl : (hdX o).length ≤ 1048576 := by unfold hdX; simp [bytesN_length]
  exact ⟨hdX o, false, ⟨v3, hg.kp hk1 (by simpa using Ne.symm n8) (fun s h => by simp at h; subst h; exact own_box hs.2.1 h8 (by decide)), hl, hk1.heap h7 (by simpa using n78), heap_setCell_same x3 p8 0 _ _ _ h8, n7, n8, g7, g8, gr, hk.setCell (.inr g8) _⟩, .inl ⟨rfl, by simpa using hl, by simp, rfl⟩⟩
theorem IxS2.made {w x3 : World} {p7 r : Nat} {o : List (List Int)} {v3 : Value} (hs : WSt x3 r 1048576 v3 (hdX o)) (h7 : x3.heap[p7]? = some (.cells #[.int .i64 (szO o : Nat)] 3 (0, 0))) (n7 : p7 ≠ r) (hk : Kp [] w x3) (g7 : w.heap.size ≤ p7) (gr : w.heap.size ≤ r) :
    IxS2 w (x3.alloc (.cells #[.pointer (some ⟨r, 0, none⟩)] 103)) p7 x3.heap.size r o (hdX o) := by
  have hk1 : Kp [] x3 (x3.alloc (.cells #[.pointer (some ⟨r, 0, none⟩)] 103)) := (Kp.refl _ _).alloc _
  have hg : WSg x3 r v3 (hdX o) false := hs
  have hl : (hdX o).length ≤ 1048576 := by unfold hdX; simp [bytesN_length]
  have hr := hs.2.2
  exact ⟨hdX o, false, ⟨v3, hg.kp0 hk1, hl, hk1.heap h7 (by simp), heap_alloc_new x3 _, n7, by omega, g7, hk.size, gr, hk.trans hk1⟩, .inl ⟨rfl, by simpa using hl, by simp, rfl⟩⟩
set_option maxRecDepth 100000 in
set_option maxHeartbeats 8000000 in
theorem put_calls (v : Value) (o : List (List Int)) (w : World) (hv : IsBs w v o) :
    Calls Tryz.prog 25 #[v] w fun e w' => ∃ v', e = .returned (.tuple #[v', .int .i64 (putM o).2]) ∧ IsInts .u8 w' v' (putM o).1 ∧ Kp [] w w' ∧ ∀ b, blockOf v' = some b → w.heap.size ≤ b := by
  have HV := Lib.hid (fun W (hk : Kp [] w W) => hv.kp0 hk)
  have hle : o.length ≤ 9223372036854775807 := by
    obtain ⟨vs, h1, _⟩ := hv
    rcases h1.2 with ⟨_, h0⟩ | ⟨g, off, c, _, h3, h4, _⟩
    · omega
    · unfold maxLen at h4; omega
  have HBL : Hid (∀ i, i < o.length → ∀ p c, IsInts .u8 w (.slice p (o.getD i []).length c) (o.getD i []) → o.getD i [] ≠ [] → ∀ k, blockOf (.slice p (o.getD i []).length c) = some k → k < w.heap.size) := fun i hi p c h hne => intsG_lt h hne
  have HR1 : Hid (65535 < o.length → putM o = ([], 3)) := fun h => by unfold putM; rw [if_pos h]
  have HR2 : Hid (o.length = 0 → putM o = ([0, 0], 0)) := fun h => by
    obtain rfl : o = [] := List.length_eq_zero_iff.1 h
    rfl
  have HR3 : Hid (1 ≤ o.length → 1048576 < 1 + o.flatten.length → putM o = ([], 3)) := fun h h2 => by
    unfold putM
    by_cases h9 : 65535 < o.length
    · rw [if_pos h9]
    · rw [if_neg h9, if_neg (by intro e; rw [e] at h; simp at h), if_pos h2]
  have HR4 : Hid (1 ≤ o.length → 1048576 < (ixB o).length → putM o = ([], 3)) := fun h h2 => by
    unfold putM
    by_cases h9 : 65535 < o.length
    · rw [if_pos h9]
    · rw [if_neg h9, if_neg (by intro e; rw [e] at h; simp at h)]
      by_cases h8 : 1048576 < 1 + o.flatten.length
      · rw [if_pos h8]
      · rw [if_neg h8, if_pos h2]
  have HR0 : Hid (1 ≤ o.length → o.length ≤ 65535 → 1 + o.flatten.length ≤ 1048576 → (ixB o).length ≤ 1048576 → putM o = (ixB o, 0)) := fun h h2 h3 h4 => by
    unfold putM; rw [if_neg (by omega), if_neg (by intro e; rw [e] at h; simp at h), if_neg (by omega), if_neg (by omega)]
  have HV0 := Lib.hid hv
  have HES : Hid (∀ j, j < o.length → endO o (j + 1) = endO o j + (o.getD j []).length) := fun j hj => endO_succ o hj
  have HEL : Hid (∀ j, j ≤ o.length → endO o j ≤ 1 + o.flatten.length) := fun j hj => endO_le o hj
  have HEA : Hid (endO o o.length = 1 + o.flatten.length) := by show _ = _; unfold endO; rw [sumL_all]
  have HFS : Hid (∀ j, j < o.length → (o.take (j + 1)).flatten = (o.take j).flatten ++ o.getD j []) := fun j hj => flat_step o hj
  have HTF : Hid (o.take o.length = o) := List.take_length
  have HOS : Hid (∀ k, offsP (szO o) o (k + 1) = offsP (szO o) o k ++ bytesN (szO o) (endO o k : Nat)) := fun k => offsP_succ _ o k
  have HHP : Hid (hdX o = bytesN 2 (o.length : Nat) ++ bytesN 1 (szO o : Nat)) := rfl
  have HIX : Hid (ixB o = hdX o ++ offsP (szO o) o (o.length + 1) ++ o.flatten) := ixB_eq o
  have HSZ : Hid (widN (endO o o.length) = szO o) := by show _ = _; unfold endO szO; rw [sumL_all]
  obtain ⟨pa, ca, rfl⟩ := hv.form
  obtain ⟨RES, hRES⟩ : ∃ R, putM o = R := ⟨_, rfl⟩
  rw [hRES] at HR1 HR2 HR3 HR4 HR0 ⊢
  obtain ⟨N, hN⟩ : ∃ N, o.length = N := ⟨_, rfl⟩
  have HN := Lib.hid hN
  rw [hN] at HV HBL HR1 HR2 HR3 HR4 HR0 HV0 HES HEL HEA HFS HTF HHP HIX HSZ hle ⊢
  clear hv hN hRES
  by_cases hbad : 65535 < N
  · have HX := Lib.hid (HR1.out hbad)
    have d2 : decide ((65535 : Int) < (N : Int)) = true := decide_eq_true (by omega)
    go_enter Tryz.func25, Tryz.ntmps25
    go_wp2_with fail
    go_ret2
    rw [HX.out]
    exact ⟨_, rfl, .inl ⟨⟨_, rfl⟩, rfl⟩, by (repeat (first | exact Kp.refl _ _ | assumption | refine Kp.drew ?_ | refine Kp.drewN ?_ _ | refine Kp.alloc ?_ _ | (refine Kp.setCell ?_ (by first | (left; simp; done) | (right; simp; try omega)) _) | (refine Kp.trans' ?_ (by assumption) (by simp; try omega)))), fun b hb => by simp [blockOf] at hb⟩
  by_cases h0 : N = 0
  · subst h0
    have HX := Lib.hid (HR2.out rfl)
    go_enter Tryz.func25, Tryz.ntmps25
    go_wp2_with fail
    go_ret2
    rw [HX.out]
    exact ⟨_, rfl, IsInts.owned (own_lit w _ w.heap.size 5 1 2 #[.int .u8 0, .int .u8 0] rfl (Nat.le_refl _) (by decide) rfl), by (repeat (first | exact Kp.refl _ _ | assumption | refine Kp.drew ?_ | refine Kp.drewN ?_ _ | refine Kp.alloc ?_ _ | (refine Kp.setCell ?_ (by first | (left; simp; done) | (right; simp; try omega)) _) | (refine Kp.trans' ?_ (by assumption) (by simp; try omega)))), fun b hb => by obtain ⟨_, rfl⟩ := (blockOf_some _ _ _ _ _ _).1 hb; exact Nat.le_refl _⟩
  have d2 : decide ((65535 : Int) < (N : Int)) = false := decide_eq_false (by omega)
  have d0 : ((N : Int) == 0) = false := by rw [beq_eq_false_iff_ne]; omega
  have hN6 : N ≤ 65535 := by omega
  have hN1 : 1 ≤ N := by omega
  have HR3' := Lib.hid (HR3.out hN1)
  have HR4' := Lib.hid (HR4.out hN1)
  have HR0' := Lib.hid (HR0.out hN1 hN6)
  clear HR1 HR2 HR3 HR4 HR0 hbad h0
  have HE0 : Hid (endO o 0 = 1) := rfl
  generalize endO o = EN at *
  go_enter Tryz.func25, Tryz.ntmps25
  go_wp2_with fail
  go_loop [4, 28] (fun e i => ∃ j : Nat, j ≤ N ∧ i = .int .i64 j ∧ e = .int .i64 (EN j : Nat) ∧ Hid (EN j ≤ 1048576)) (fun _ i => N - (intOf i).toNat)
  case atStart => exact ⟨0, by omega, rfl, by rw [HE0.out]; rfl, by show _ ≤ _; rw [HE0.out]; omega⟩
  case round =>
    obtain ⟨j, hj, rfl, rfl, HJ⟩ := hrel
    by_cases hlt : j < N
    · have hjo : j < o.length := by rw [HN.out]; exact hlt
      obtain ⟨g1, o1, c1, p1, cv, e1, _, _, hc1, hi1⟩ := HV0.out.row hjo
      rw [HN.out] at e1
      cases e1
      have HST := Lib.hid (HES.out j hlt)
      have HTO := Lib.hid (HEL.out (j + 1) (by omega))
      generalize o.getD j [] = G at *
      generalize hGl : G.length = GL at *
      have hEj := HJ.out
      clear hi1 hjo
      by_cases hx : 1048576 < EN j + GL
      · have HX := Lib.hid (HR3'.out (by have h1 := HST.out; have h2 := HTO.out; omega))
        have hX2 : decide (1048576 - (EN j : Int) < (GL : Int)) = true := decide_eq_true (by omega)
        have hw : wrap64 (1048576 - (EN j : Int)) = 1048576 - (EN j : Int) := w64 _ (by omega) (by omega)
        clear hx HST HTO hEj hGl
        go_wp2_with fail
        go_ret2
        rw [HX.out]
        exact ⟨_, rfl, .inl ⟨⟨_, rfl⟩, rfl⟩, by (repeat (first | exact Kp.refl _ _ | assumption | refine Kp.drew ?_ | refine Kp.drewN ?_ _ | refine Kp.alloc ?_ _ | (refine Kp.setCell ?_ (by first | (left; simp; done) | (right; simp; try omega)) _) | (refine Kp.trans' ?_ (by assumption) (by simp; try omega)))), fun b hb => by simp [blockOf] at hb⟩
      · have hX2 : decide (1048576 - (EN j : Int) < (GL : Int)) = false := decide_eq_false (by omega)
        have hw : wrap64 (1048576 - (EN j : Int)) = 1048576 - (EN j : Int) := w64 _ (by omega) (by omega)
        have hw2 : wrap64 ((EN j : Int) + (GL : Int)) = (EN j : Int) + (GL : Int) := w64 _ (by omega) (by omega)
        have HX2 := Lib.hid hx
        clear hx hEj hGl HTO
        go_wp2_with fail
        go_round
        case rel => exact ⟨j + 1, by omega, by go_num, int_eq' (by have := HST.out; omega), by show _ ≤ _; have := HST.out; have := HX2.out; omega⟩
        case measure => simp [intOf] <;> omega
    · obtain rfl : N = j := by omega
      have hEj := HJ.out
      have HEN := Lib.hid hEj
      have HW := Lib.hid (width_calls (EN N) (by omega) w)
      rw [HSZ.out] at HW
      generalize hs : szO o = s at *
      clear hEj hlt
      go_wp2_with fail
      refine HW.out.mono ?_; rintro e w1 ⟨rfl, rfl⟩
      have hs4 : s ≤ 4 := by rw [← hs]; exact (widN_b _).2
      clear HW
      go_upto_region 14 with fail
      go_cut [7, 8] (fun s7 s8 wx => ∃ p8 r, s7 = .pointer (some ⟨w.heap.size, 0, none⟩) ∧ s8 = .pointer (some ⟨p8, 0, none⟩) ∧ Hid (IxS2 w wx w.heap.size p8 r o (hdX o)))
      case first =>
        refine wp_gen ?_; intro W0 hW0
        have hk0 : Kp [] w W0 := by rw [hW0]; exact (Kp.refl _ _).alloc _
        have h7 : W0.heap[w.heap.size]? = some (.cells #[.int .i64 (s : Nat)] 3 (0, 0)) := by rw [hW0]; exact heap_alloc_new w _
        have hsz : w.heap.size < W0.heap.size := by rw [hW0]; simp
        have H7 : Hid (∀ w', Kp [] W0 w' → w'.heap[w.heap.size]? = some (.cells #[.int .i64 (s : Nat)] 3 (0, 0))) := fun w' hk => hk.heap h7 (by simp)
        have HKC : Hid (∀ w', Kp [] W0 w' → w'.cell? ⟨w.heap.size, 0, none⟩ = some (.int .i64 (s : Nat))) := fun w' hk => by rw [cell_of_row w' _ 0 _ _ _ (hk.heap h7 (by simp))]; rfl
        have HK0 := Lib.hid hk0
        have c7 := HKC.out W0 (Kp.refl _ _)
        clear hW0 hk0 h7
        go_region_held3 (fun w' => w'.cell? ⟨w.heap.size, 0, none⟩ = some (.int .i64 (s : Nat))) (first | go_keep | (refine HKC.out _ ?_; ((repeat (first | exact Kp.refl _ _ | assumption | refine Kp.drew ?_ | refine Kp.drewN ?_ _ | refine Kp.alloc ?_ _)); (first | done | fail))) | (refine HKC.out _ (Kp.setCell (by first | exact hA3 | exact hA3.alloc _) (.inr ?_) _); first | exact Nat.le_refl _ | exact hA1.size | exact hA2.size | exact hA3.size))
          (first
            | (go_at_call 64
               with_reducible refine (wu8_calls _ 1048576 v2 ([] ++ bytesN 2 (N : Nat)) _ (by omega) (by omega) _ (WSt.kp (S := []) (w := x2) hs2 (by (repeat (first | exact Kp.refl _ _ | assumption | refine Kp.drew ?_ | refine Kp.drewN ?_ _ | refine Kp.alloc ?_ _ | (refine Kp.setCell ?_ (by first | (left; simp; done) | (right; simp; try omega)) _) | (refine Kp.trans' ?_ (by assumption) (by simp; try omega))))) (by simp) (by simp)) (by simp [bytesN_length]) (by decide)).mono ?_
               rintro e x3 ⟨rfl, v3, hs3, hk3⟩
               have hA3 : Kp [] W0 x3 := hk3.kp0 (WSt.kp (S := []) (w := x2) hs2 (by (repeat (first | exact Kp.refl _ _ | assumption | refine Kp.drew ?_ | refine Kp.drewN ?_ _ | refine Kp.alloc ?_ _ | (refine Kp.setCell ?_ (by first | (left; simp; done) | (right; simp; try omega)) _) | (refine Kp.trans' ?_ (by assumption) (by simp; try omega))))) (by simp) (by simp)) (by (repeat (first | exact Kp.refl _ _ | assumption | refine Kp.drew ?_ | refine Kp.drewN ?_ _ | refine Kp.alloc ?_ _ | (refine Kp.setCell ?_ (by first | (left; simp; done) | (right; simp; try omega)) _) | (refine Kp.trans' ?_ (by assumption) (by simp; try omega))))) (by first | exact Nat.le_refl _ | exact Nat.le_succ _)
               try (have hy3 : Bx x3 W0.heap.size := Bx.wk hy2 hs2 hk3 (by omega); obtain ⟨y3, z3⟩ := hy3.facts)
               try (have hy3 : Bx x3 x1.heap.size := Bx.wk hy2 hs2 hk3 (by have := hs1.2.2; omega); obtain ⟨y3, z3⟩ := hy3.facts)
               try (have hy3 : Bx x3 x2.heap.size := Bx.wk (Bx.made x2) (WSt.kp (S := []) (w := x2) hs2 (by (repeat (first | exact Kp.refl _ _ | assumption | refine Kp.drew ?_ | refine Kp.drewN ?_ _ | refine Kp.alloc ?_ _ | (refine Kp.setCell ?_ (by first | (left; simp; done) | (right; simp; try omega)) _) | (refine Kp.trans' ?_ (by assumption) (by simp; try omega))))) (by simp) (by simp)) hk3 (by have := hs2.2.2; omega); obtain ⟨y3, z3⟩ := hy3.facts))
            | (go_at_call 63
               with_reducible refine (wu16_calls _ 1048576 _ [] _ (by omega) (by omega) _ (WSt.kp (S := []) (w := x1) hs1 (by (repeat (first | exact Kp.refl _ _ | assumption | refine Kp.drew ?_ | refine Kp.drewN ?_ _ | refine Kp.alloc ?_ _ | (refine Kp.setCell ?_ (by first | (left; simp; done) | (right; simp; try omega)) _) | (refine Kp.trans' ?_ (by assumption) (by simp; try omega))))) (by simp) (by simp)) (by simp) (by decide)).mono ?_
               rintro e x2 ⟨rfl, v2, hs2, hk2⟩
               have hA2 : Kp [] W0 x2 := hk2.kp0 (WSt.kp (S := []) (w := x1) hs1 (by (repeat (first | exact Kp.refl _ _ | assumption | refine Kp.drew ?_ | refine Kp.drewN ?_ _ | refine Kp.alloc ?_ _ | (refine Kp.setCell ?_ (by first | (left; simp; done) | (right; simp; try omega)) _) | (refine Kp.trans' ?_ (by assumption) (by simp; try omega))))) (by simp) (by simp)) (by (repeat (first | exact Kp.refl _ _ | assumption | refine Kp.drew ?_ | refine Kp.drewN ?_ _ | refine Kp.alloc ?_ _ | (refine Kp.setCell ?_ (by first | (left; simp; done) | (right; simp; try omega)) _) | (refine Kp.trans' ?_ (by assumption) (by simp; try omega))))) (by first | exact Nat.le_refl _ | exact Nat.le_succ _)
               try (have hy2 : Bx x2 W0.heap.size := Bx.wk hy1 hs1 hk2 (by omega); obtain ⟨y2, z2⟩ := hy2.facts)
               try (have hy2 : Bx x2 x1.heap.size := Bx.wk (Bx.made x1) (WSt.kp (S := []) (w := x1) hs1 (by (repeat (first | exact Kp.refl _ _ | assumption | refine Kp.drew ?_ | refine Kp.drewN ?_ _ | refine Kp.alloc ?_ _ | (refine Kp.setCell ?_ (by first | (left; simp; done) | (right; simp; try omega)) _) | (refine Kp.trans' ?_ (by assumption) (by simp; try omega))))) (by simp) (by simp)) hk2 (by have := hs1.2.2; omega); obtain ⟨y2, z2⟩ := hy2.facts))
            | (go_at_call 61
               refine (to_calls 1048576 (by decide) _).mono ?_
               rintro e x1 ⟨rfl, hs1, hk1⟩
               have hA1 : Kp [] W0 x1 := Kp.trans (by (repeat (first | exact Kp.refl _ _ | assumption | refine Kp.drew ?_ | refine Kp.drewN ?_ _ | refine Kp.alloc ?_ _ | (refine Kp.setCell ?_ (by first | (left; simp; done) | (right; simp; try omega)) _) | (refine Kp.trans' ?_ (by assumption) (by simp; try omega))))) hk1
               first
                 | (replace hs1 : WSt x1 W0.heap.size 1048576 (.slice none 0 0) [] := hs1)
                 | (replace hs1 : WSt x1 (W0.heap.size + 1) 1048576 (.slice none 0 0) [] := by simpa using hs1)
               try (have hy1 : Bx x1 W0.heap.size := Bx.kp0 (W := (W0.alloc (.cells #[.pointer none] 103)).drew) (Bx.made W0) hk1; obtain ⟨y1, z1⟩ := hy1.facts))
            | fail)
        all_goals
          go_wp2_with fail
          go_meet
          have e3 : [] ++ bytesN 2 (N : Nat) ++ bytesN 1 (s : Nat) = hdX o := by rw [HHP.out, List.nil_append]
          rw [e3] at hs3
          rw [← hs] at H7
          have b7 := H7.out x3 hA3
          have hA4 : Kp [] w x3 := HK0.out.trans hA3
          have g0 := hA1.size
          have g1 := hA2.size
          first
            | exact ⟨_, _, rfl, rfl, IxS2.made hs3 b7 (by omega) hA4 (Nat.le_refl _) (by omega)⟩
            | exact ⟨_, _, rfl, rfl, IxS2.set hs3 b7 hy3 (by omega) (by first | omega | (have := hs1.2.2; omega) | (have := hs2.2.2; omega)) (by omega) hA4 (Nat.le_refl _) (by omega) (by omega)⟩
      obtain ⟨p8, r, rfl, rfl, HS⟩ := hcut
      have HO := Lib.hid (HS.out.off 1 (by omega))
      rw [hs, show ((1 : Nat) : Int) = 1 from rfl] at HO
      go_wp2_with fail
      refine HO.out.mono ?_; rintro e w2 ⟨rfl, h2⟩
      have HS2 : Hid (IxS2 w w2 w.heap.size p8 r o (hdX o ++ offsP s o (0 + 1))) := by
        show IxS2 _ _ _ _ _ _ _
        rw [HOS.out 0, HE0.out]
        simpa [offsP] using h2
      clear h2 HO HS
      have HEB : Hid (∀ j, j ≤ N → EN j ≤ 1048576) := fun j hj => by have h1 := HEL.out j hj; have h2 := HEA.out; have h3 := HEN.out; omega
      go_wp2_with fail
      go_loopw [10, 56] (fun a i wr => ∃ j : Nat, j ≤ N ∧ i = .int .i64 j ∧ a = .int .i64 (EN j : Nat) ∧ Hid (IxS2 w wr w.heap.size p8 r o (hdX o ++ offsP s o (j + 1)))) (fun _ i _ => N - (intOf i).toNat)
      case atStart => exact ⟨0, by omega, rfl, by rw [HE0.out]; rfl, HS2⟩
      case round =>
        obtain ⟨j, hj, rfl, rfl, HJ⟩ := hrel
        by_cases hlt : j < N
        · have hjo : j < o.length := by rw [HN.out]; exact hlt
          obtain ⟨g1, o1, c1, p1, cv, e1, _, _, hc1, hi1⟩ := (HV.out _ HJ.out.kp).row hjo
          rw [HN.out] at e1
          cases e1
          have HST := Lib.hid (HES.out j hlt)
          have hE1 := HEB.out (j + 1) hlt
          generalize o.getD j [] = G at *
          generalize hGl : G.length = GL at *
          have hw2 : wrap64 ((EN j : Int) + (GL : Int)) = (EN j : Int) + (GL : Int) := ix_w _ _ _ HST.out hE1
          have he : ((EN (j + 1) : Nat) : Int) = (EN j : Int) + (GL : Int) := ix_c _ _ _ HST.out
          have HO := Lib.hid (HJ.out.off (EN (j + 1)) (ix_x _ hE1))
          have HEQ := Lib.hid he
          rw [hs, he] at HO
          clear hi1 hjo hE1 hGl he HJ
          go_wp2_with fail
          refine HO.out.mono ?_; rintro e w3 ⟨rfl, h3⟩
          have HS3 : Hid (IxS2 w w3 w.heap.size p8 r o (hdX o ++ offsP s o (j + 1 + 1))) := by
            show IxS2 _ _ _ _ _ _ _
            rw [HOS.out (j + 1), HEQ.out, ← List.append_assoc]
            exact h3
          clear h3 HO
          go_wp2_with fail
          go_roundw
          case rel => first | exact ⟨j + 1, hlt, int_eq' (by first | rfl | simp), int_eq' (by first | rfl | exact HEQ.out.symm), HS3⟩ | ((repeat apply Exists.intro); exact ⟨⟨j + 1, by omega, int_eq' (by omega), int_eq' (by have := HEQ.out; omega), HS3⟩, rfl⟩)
          case measure => simp [intOf] <;> omega
        · obtain rfl : N = j := by omega
          have HS3 := HJ
          clear HJ
          go_wp2_with fail
          have HT0 : Hid (hdX o ++ offsP s o (N + 1) ++ (o.take 0).flatten = hdX o ++ offsP s o (N + 1)) := by show _ = _; simp
          go_loopw [70] (fun i wr => ∃ j : Nat, j ≤ N ∧ i = .int .i64 j ∧ Hid (IxS2 w wr w.heap.size p8 r o (hdX o ++ offsP s o (N + 1) ++ (o.take j).flatten))) (fun i _ => N - (intOf i).toNat)
          case atStart => exact ⟨0, Nat.zero_le _, rfl, by rw [HT0.out]; exact HS3⟩
          case round =>
            obtain ⟨j, hj, rfl, HJ⟩ := hrel
            by_cases hlt : j < N
            · have hjo : j < o.length := by rw [HN.out]; exact hlt
              obtain ⟨g1, o1, c1, p1, cv, e1, _, _, hc1, hi1⟩ := (HV.out _ HJ.out.kp).row hjo
              rw [HN.out] at e1
              cases e1
              have c8 := HJ.out.box
              have hbr := ix_blk HV0.out HBL.out HN.out HJ.out.kp hjo hc1 hi1
              have HD := Lib.hid (HJ.out.data _ (o.getD j []) hi1 (ix_l _ _ _ (HES.out j hlt) (HEB.out (j + 1) hlt)) hbr)
              have HF := Lib.hid (HFS.out j hlt)
              generalize o.getD j [] = G at *
              generalize hGl : G.length = GL at *
              clear hi1 hjo hbr hGl HJ
              go_wp2_with fail
              refine HD.out.mono ?_; rintro e w3 ⟨rfl, h3⟩
              have HS4 : Hid (IxS2 w w3 w.heap.size p8 r o (hdX o ++ offsP s o (N + 1) ++ (o.take (j + 1)).flatten)) := by
                show IxS2 _ _ _ _ _ _ _
                rw [HF.out, ← List.append_assoc]
                exact h3
              clear h3 HD
              go_wp2_with fail
              go_roundw
              case rel => first | exact ⟨j + 1, hlt, int_eq' (by first | rfl | simp), HS4⟩ | ((repeat apply Exists.intro); exact ⟨⟨j + 1, hlt, int_eq' (by first | rfl | simp), HS4⟩, rfl⟩)
              case measure => simp [intOf] <;> omega
            · obtain rfl : N = j := by omega
              have c8 := HJ.out.box
              have hd := HJ.out.done
              rw [HTF.out, ← HIX.out] at hd
              have HKJ := Lib.hid HJ.out.kp
              have HDN := Lib.hid hd
              clear hd HJ
              go_wp2_with fail
              refine HDN.out.mono ?_; rintro e w3 ⟨v3, E, rfl, hk3, hc⟩
              have HKF : Hid (Kp [] w w3) := HKJ.out.trans hk3
              have HSZ3 : Hid (w.heap.size ≤ wr.heap.size) := HKJ.out.size
              clear hk3
              rcases hc with ⟨hc1, rfl, rfl⟩ | ⟨hc1, rfl, ⟨p3, c3, rfl⟩, hc2, hc3⟩
              · have HX := Lib.hid (HR4'.out hc1)
                clear hc1
                go_wp2_with fail
                go_ret2
                rw [HX.out]
                exact ⟨_, rfl, .inl ⟨⟨_, rfl⟩, rfl⟩, HKF.out, fun b hb => by simp [blockOf] at hb⟩
              · have HX := Lib.hid (HR0'.out (ix_e HEA.out HEN.out) hc1)
                have HI3 := Lib.hid hc2
                have HB3 : Hid (∀ b, blockOf (.slice p3 (ixB o).length c3) = some b → w.heap.size ≤ b) := fun b hb => Nat.le_trans HSZ3.out (hc3 b hb)
                generalize hXL : (ixB o).length = XL at *
                clear hc1 hc2 hc3
                go_wp2_with fail
                go_ret2
                rw [HX.out]
                exact ⟨_, rfl, HI3.out, HKF.out, HB3.out⟩
end Go.Proofs.YtlhkaoccnpgkeaaGreat

/- compose: the reference's reader in one word; args of the reference. (Written by wip/compose/gencpm.py.) -/
import Derived.Test.YtodjohoonbkklaaCpH
import Derived.Test.YtodjohoonbkklaaCpJ
import Derived.Test.YtodjohoonbkklaaWireC
namespace Go.Proofs.Ytodjohoonbkklaa
open Go.RowKit
set_option linter.unusedVariables false
set_option linter.unusedSimpArgs false
/-- A reader of the reference: its bytes zs, where it stands, whether it is bad. -/
def RrS (w : World) (r : Nat) (v : Value) (zs : List Int) (k : Nat) (bad : Bool) : Prop := Rrd w r v k bad ∧ IsInts .u8 w v zs ∧ (∀ c ∈ zs, 0 ≤ c ∧ c ≤ 255) ∧ blockOf v ≠ some r ∧ k ≤ zs.length
theorem RrS.kp {S : List Nat} {w w' : World} {r : Nat} {v : Value} {zs : List Int} {k : Nat} {bad : Bool} (h : RrS w r v zs k bad) (hk : Kp S w w') (hr : r ∉ S) (hv : ∀ s ∈ S, blockOf v ≠ some s) : RrS w' r v zs k bad :=
  ⟨h.1.kp hk hr, h.2.1.kp hk hv, h.2.2⟩
theorem RrS.kp0 {w w' : World} {r : Nat} {v : Value} {zs : List Int} {k : Nat} {bad : Bool} (h : RrS w r v zs k bad) (hk : Kp [] w w') : RrS w' r v zs k bad := h.kp hk (by simp) (by simp)
theorem RrS.lt {w : World} {r : Nat} {v : Value} {zs : List Int} {k : Nat} {bad : Bool} (h : RrS w r v zs k bad) : r < w.heap.size := lt_of_block h.1
theorem RrS.read {w w' : World} {r : Nat} {v : Value} {zs : List Int} {k m : Nat} {bad : Bool} (h : RrS w r v zs k bad) (h1 : Rrd w' r v (rdK zs k bad m : Nat) (rdB zs k bad m)) (hk : Kp [r] w w') : RrS w' r v zs (rdK zs k bad m) (rdB zs k bad m) :=
  ⟨h1, h.2.1.kp hk (fun t ht e => by simp at ht; subst ht; exact h.2.2.2.1 e), h.2.2.1, h.2.2.2.1, rdK_le zs k bad m h.2.2.2.2⟩
theorem ruS {w : World} {r : Nat} {v : Value} {zs : List Int} {s : Rs} (m : Nat) (h1 : 1 ≤ m) (h4 : m ≤ 4) (n : Int) (hn : n = m) (h : RrS w r v zs s.1 s.2) : Calls Try.prog 99 #[.pointer (some ⟨r, 0, none⟩), .int .i64 n] w fun e w' => e = .returned (.int .i64 (val zs m s)) ∧ RrS w' r v zs (stp zs m s).1 (stp zs m s).2 ∧ Kp [r] w w' :=
  (ru_calls r v zs s.1 m s.2 n hn w h.1 h.2.1 h.2.2.1 h.2.2.2.1 h1 h4 h.2.2.2.2).mono fun e w' ⟨he, h1, hk⟩ => ⟨he, h.read h1 hk, hk⟩
theorem ri16S {w : World} {r : Nat} {v : Value} {zs : List Int} {s : Rs} (h : RrS w r v zs s.1 s.2) : Calls Try.prog 56 #[.pointer (some ⟨r, 0, none⟩)] w fun e w' => e = .returned (.int .i64 (s16 (val zs 2 s))) ∧ RrS w' r v zs (stp zs 2 s).1 (stp zs 2 s).2 ∧ Kp [r] w w' :=
  (ri16_calls r v zs s.1 s.2 w h.1 h.2.1 h.2.2.1 h.2.2.2.1 h.2.2.2.2).mono fun e w' ⟨he, h1, hk⟩ => ⟨he, h.read h1 hk, hk⟩
set_option maxHeartbeats 1000000 in
theorem rtake_gen (r g off N c k m : Nat) (n : Int) (hn : n = m) (zs : List Int) (w : World) (h : Rrd w r (.slice (some ⟨g, off, none⟩) N c) k false) (h1 : 1 ≤ n) (h2 : n ≤ (N : Int) - k) (hN : N ≤ c) (hc : c ≤ maxLen)
    (hl : zs.length = m) (hz : ∀ i, i < m → w.cell? ⟨g, off + k + i, none⟩ = some (.int .u8 (zs.getD i 0))) (hm : m ≤ 1000) (hg : g ≠ r) :
    Calls Try.prog 57 #[.pointer (some ⟨r, 0, none⟩), .int .i64 n] w fun e w' => ∃ v, e = .returned v ∧ IsInts .u8 w' v zs ∧ Rrd w' r (.slice (some ⟨g, off, none⟩) N c) ((k + m : Nat) : Int) false ∧ Kp [r] w w' ∧ (∀ b, blockOf v = some b → w.heap.size ≤ b) := by
  subst hn
  obtain ⟨c0, c1, c2, f1, f2⟩ := h.facts
  unfold maxLen at hc
  have hlt : decide ((m : Int) < 0) = false := by simp
  have hz2 : Hid _ := hz
  clear hz
  go_enter Try.func57, Try.ntmps57
  go_wp2
  go_quiet (fail)
  go_wp2_with fail
  go_quiet (fail)
  go_wp2_with (at_builtin; go_loud (refine wpList_app rfl _ _ 22 rfl w.heap.size 5 (.int .u8 0) 1 1 Try.underlying22 infoByte rfl (by decide) (by decide) (.slice (some ⟨w.heap.size, 0, none⟩) 0 0) 0 [] rfl ?hown (.slice (some ⟨g, off + k, none⟩) (k + m - k) (c - k)) (k + m - k) (zs.map (Value.int .u8)) rfl ?hsrc (oneCell_ints _ _) ?hb1 ?hb2 ?hk))
  case hown => exact own_empty _ _ _ _ _ (by simp) (by simp)
  case hb1 => omega
  case hb2 => simp
  case hsrc =>
    rw [show k + m - k = m by omega]
    refine Reads.kp (w := w) (S := [r]) ?_ (by (repeat (first | exact Kp.refl _ _ | assumption | refine Kp.drew ?_ | refine Kp.drewN ?_ _ | refine Kp.alloc ?_ _ | (refine Kp.setCell ?_ (by first | (left; simp; done) | (right; simp; try omega)) _) | (refine Kp.trans' ?_ (by assumption) (by simp; try omega))))) (by intro s hs e; simp [Value.ownBlock] at hs e; omega)
    refine ⟨by simp [hl], .inr ⟨g, off + k, _, rfl, by omega, by unfold maxLen; omega, fun j u hu => ?_⟩⟩
    rw [List.getElem?_map] at hu
    by_cases hj : j < m
    · rw [hz2.out j hj, List.getD_eq_getElem?_getD]
      rw [List.getElem?_eq_getElem (by omega)] at hu ⊢
      simpa using hu
    · rw [List.getElem?_eq_none (by omega)] at hu; simp at hu
  case hk =>
    intro v' w2 hown hgr
    go_wp2_with fail
    go_ret
    have hk2 : Kp [r] w w2 := Kp.grown (by (repeat (first | exact Kp.refl _ _ | assumption | refine Kp.drew ?_ | refine Kp.drewN ?_ _ | refine Kp.alloc ?_ _ | (refine Kp.setCell ?_ (by first | (left; simp; done) | (right; simp; try omega)) _) | (refine Kp.trans' ?_ (by assumption) (by simp; try omega))))) hgr (by intro k hk; right; simp [Value.ownBlock] at hk; omega)
    have hk3 := Kp.grown (S := []) ((Kp.refl [] _).alloc _) hgr (by intro k hk; right; simp [Value.ownBlock] at hk; simp; omega)
    refine ⟨v', rfl, IsInts.owned (by rw [← hl] at hown; exact hown), ?_, hk2, fun b hb => (hown.lt b (blockOf_own hb)).1⟩
    have := (Rrd.setAt (k := k) (bad := false) (v := (.slice (some ⟨g, off, none⟩) N c)) (by exact h) (k + m)).kp hk3 (by simp)
    simpa using this

theorem rtakeS {w : World} {r : Nat} {v : Value} {zs : List Int} {s : Rs} (m : Nat) (hm : 1 ≤ m) (hm2 : m ≤ 1000) (n : Int) (hn : n = m) (h : RrS w r v zs s.1 s.2) :
    Calls Try.prog 57 #[.pointer (some ⟨r, 0, none⟩), .int .i64 n] w fun e w' => (∃ v', e = .returned v') ∧ RrS w' r v zs (stp zs m s).1 (stp zs m s).2 ∧ Kp [r] w w' := by
  obtain ⟨k, bad⟩ := s
  have H := Lib.hid h
  cases bad with
  | true =>
    have e1 : rdB zs k true m = true := rfl
    have e2 : rdK zs k true m = k := rfl
    exact (rtake_bad r v k n w h.1).mono fun e w' ⟨he, h1, hk⟩ => ⟨⟨_, he⟩, h.read (m := m) (by rw [e1, e2]; exact h1) hk, hk⟩
  | false =>
    by_cases hs : zs.length < k + m
    · have e1 : rdB zs k false m = true := by unfold rdB; rw [decide_eq_true hs]; rfl
      have e2 : rdK zs k false m = k := by unfold rdK; rw [e1]; rfl
      have hle := h.2.1.le
      obtain ⟨p, c, rfl⟩ : ∃ p c, v = .slice p zs.length c := by
        rcases h.2.1 with ⟨⟨pb, rfl⟩, rfl⟩ | ⟨g, off, c, rfl, _⟩
        · exact ⟨_, _, rfl⟩
        · exact ⟨_, _, rfl⟩
      exact (rtake_short r p zs.length c k n w h.1 (by omega) (by omega) hle h.2.2.2.2).mono fun e w' ⟨he, h1, hk⟩ => ⟨⟨_, he⟩, h.read (m := m) (by rw [e1, e2]; exact h1) hk, hk⟩
    · have e1 : rdB zs k false m = false := by unfold rdB; rw [decide_eq_false hs]; rfl
      have e2 : rdK zs k false m = k + m := by unfold rdK; rw [e1]; rfl
      rcases h.2.1 with ⟨⟨pb, rfl⟩, rfl⟩ | ⟨g, off, c, rfl, g1, g2, g3⟩
      · simp at hs; omega
      · exact (rtake_gen r g off zs.length c k m n hn ((zs.drop k).take m) w h.1 (by omega) (by omega) g1 g2 (by simp; omega) (fun i hi => by
          rw [Nat.add_assoc, g3 (k + i) (by omega)]
          simp only [List.getD_eq_getElem?_getD]
          rw [List.getElem?_take_of_lt hi, List.getElem?_drop]) hm2 (fun e => h.2.2.2.1 (by subst e; simp [blockOf]; omega))).mono fun e w' ⟨v', he, _, h1, hk, _⟩ => ⟨⟨_, he⟩, h.read (m := m) (by rw [e1, e2]; exact h1) hk, hk⟩
/-- Two bits, and each of them. -/
theorem and_shift (n m k : Nat) : n &&& (m <<< k) = ((n >>> k) &&& m) <<< k := by
  apply Nat.eq_of_testBit_eq
  intro j
  simp only [Nat.testBit_and, Nat.testBit_shiftLeft, Nat.testBit_shiftRight]
  by_cases h : k ≤ j
  · rw [Nat.add_sub_cancel' h]; simp [h]
  · simp [h]
theorem band_nat (f : Int) (h0 : 0 ≤ f) (h1 : f < 65536) (c : Nat) (hc : c < 65536) : bits .and .i64 f c = ((f.toNat &&& c : Nat) : Int) := by
  show IntKind.i64.wrap ((BitVec.ofInt 64 f &&& BitVec.ofInt 64 (c : Int)).toNat : Nat) = _
  have e1 : (BitVec.ofInt 64 f).toNat = f.toNat := by rw [BitVec.toNat_ofInt]; omega
  have e2 : (BitVec.ofInt 64 (c : Int)).toNat = c := by rw [BitVec.toNat_ofInt]; omega
  rw [BitVec.toNat_and, e1, e2, IntKind.wrap_i64]
  have : f.toNat &&& c ≤ c := Nat.and_le_right
  omega
theorem turn_bits (f : Int) (h0 : 0 ≤ f) (h1 : f < 65536) : turnB f = (decide (bits .and .i64 f 2048 ≠ 0) && decide (bits .and .i64 f 4096 = 0)) := by
  unfold turnB
  have a := band_nat f h0 h1 6144 (by decide)
  have b := band_nat f h0 h1 2048 (by decide)
  have c := band_nat f h0 h1 4096 (by decide)
  have a' := and_shift f.toNat 3 11
  have b' := and_shift f.toNat 1 11
  have c' := and_shift f.toNat 1 12
  rw [show 3 = 2 ^ 2 - 1 from rfl, Nat.and_two_pow_sub_one_eq_mod, Nat.shiftLeft_eq, Nat.shiftLeft_eq, Nat.shiftRight_eq_div_pow] at a'
  rw [show 1 = 2 ^ 1 - 1 from rfl, Nat.and_two_pow_sub_one_eq_mod, Nat.shiftLeft_eq, Nat.shiftLeft_eq, Nat.shiftRight_eq_div_pow] at b' c'
  rw [show (2 ^ 2 - 1) * 2 ^ 11 = 6144 from rfl] at a'
  rw [show (2 ^ 1 - 1) * 2 ^ 11 = 2048 from rfl] at b'
  rw [show (2 ^ 1 - 1) * 2 ^ 12 = 4096 from rfl] at c'
  rw [a'] at a; rw [b'] at b; rw [c'] at c
  rw [show ((6144 : Nat) : Int) = 6144 from rfl] at a; rw [show ((2048 : Nat) : Int) = 2048 from rfl] at b; rw [show ((4096 : Nat) : Int) = 4096 from rfl] at c
  rw [a, b, c]
  generalize f.toNat = n
  rw [Bool.eq_iff_iff]
  simp only [Bool.and_eq_true, decide_eq_true_eq]
  omega
/-- Eleven cells laid into a block, whatever lay there. -/
theorem put11v (R : Nat) (b0 b1 b2 b3 b4 b5 b6 b7 b8 b9 b10 : Value) {w : World} {a0 a1 a2 a3 a4 a5 a6 a7 a8 a9 a10 : Value} (h : w.heap[R]? = some (.cells #[a0, a1, a2, a3, a4, a5, a6, a7, a8, a9, a10] 36 (0, 0))) :
    (((((((((((w.setCell ⟨R, 0, none⟩ b0).setCell ⟨R, 1, none⟩ b1).setCell ⟨R, 2, none⟩ b2).setCell ⟨R, 3, none⟩ b3).setCell ⟨R, 4, none⟩ b4).setCell ⟨R, 5, none⟩ b5).setCell ⟨R, 6, none⟩ b6).setCell ⟨R, 7, none⟩ b7).setCell ⟨R, 8, none⟩ b8).setCell ⟨R, 9, none⟩ b9).setCell ⟨R, 10, none⟩ b10).heap[R]? = some (.cells #[b0, b1, b2, b3, b4, b5, b6, b7, b8, b9, b10] 36 (0, 0)) := by
  have e0 : (w.setCell ⟨R, 0, none⟩ b0).heap[R]? = some (.cells #[b0, a1, a2, a3, a4, a5, a6, a7, a8, a9, a10] 36 (0, 0)) := heap_setCell_same _ R 0 _ _ b0 h
  have e1 : ((w.setCell ⟨R, 0, none⟩ b0).setCell ⟨R, 1, none⟩ b1).heap[R]? = some (.cells #[b0, b1, a2, a3, a4, a5, a6, a7, a8, a9, a10] 36 (0, 0)) := heap_setCell_same _ R 1 _ _ b1 e0
  have e2 : (((w.setCell ⟨R, 0, none⟩ b0).setCell ⟨R, 1, none⟩ b1).setCell ⟨R, 2, none⟩ b2).heap[R]? = some (.cells #[b0, b1, b2, a3, a4, a5, a6, a7, a8, a9, a10] 36 (0, 0)) := heap_setCell_same _ R 2 _ _ b2 e1
  have e3 : ((((w.setCell ⟨R, 0, none⟩ b0).setCell ⟨R, 1, none⟩ b1).setCell ⟨R, 2, none⟩ b2).setCell ⟨R, 3, none⟩ b3).heap[R]? = some (.cells #[b0, b1, b2, b3, a4, a5, a6, a7, a8, a9, a10] 36 (0, 0)) := heap_setCell_same _ R 3 _ _ b3 e2
  have e4 : (((((w.setCell ⟨R, 0, none⟩ b0).setCell ⟨R, 1, none⟩ b1).setCell ⟨R, 2, none⟩ b2).setCell ⟨R, 3, none⟩ b3).setCell ⟨R, 4, none⟩ b4).heap[R]? = some (.cells #[b0, b1, b2, b3, b4, a5, a6, a7, a8, a9, a10] 36 (0, 0)) := heap_setCell_same _ R 4 _ _ b4 e3
  have e5 : ((((((w.setCell ⟨R, 0, none⟩ b0).setCell ⟨R, 1, none⟩ b1).setCell ⟨R, 2, none⟩ b2).setCell ⟨R, 3, none⟩ b3).setCell ⟨R, 4, none⟩ b4).setCell ⟨R, 5, none⟩ b5).heap[R]? = some (.cells #[b0, b1, b2, b3, b4, b5, a6, a7, a8, a9, a10] 36 (0, 0)) := heap_setCell_same _ R 5 _ _ b5 e4
  have e6 : (((((((w.setCell ⟨R, 0, none⟩ b0).setCell ⟨R, 1, none⟩ b1).setCell ⟨R, 2, none⟩ b2).setCell ⟨R, 3, none⟩ b3).setCell ⟨R, 4, none⟩ b4).setCell ⟨R, 5, none⟩ b5).setCell ⟨R, 6, none⟩ b6).heap[R]? = some (.cells #[b0, b1, b2, b3, b4, b5, b6, a7, a8, a9, a10] 36 (0, 0)) := heap_setCell_same _ R 6 _ _ b6 e5
  have e7 : ((((((((w.setCell ⟨R, 0, none⟩ b0).setCell ⟨R, 1, none⟩ b1).setCell ⟨R, 2, none⟩ b2).setCell ⟨R, 3, none⟩ b3).setCell ⟨R, 4, none⟩ b4).setCell ⟨R, 5, none⟩ b5).setCell ⟨R, 6, none⟩ b6).setCell ⟨R, 7, none⟩ b7).heap[R]? = some (.cells #[b0, b1, b2, b3, b4, b5, b6, b7, a8, a9, a10] 36 (0, 0)) := heap_setCell_same _ R 7 _ _ b7 e6
  have e8 : (((((((((w.setCell ⟨R, 0, none⟩ b0).setCell ⟨R, 1, none⟩ b1).setCell ⟨R, 2, none⟩ b2).setCell ⟨R, 3, none⟩ b3).setCell ⟨R, 4, none⟩ b4).setCell ⟨R, 5, none⟩ b5).setCell ⟨R, 6, none⟩ b6).setCell ⟨R, 7, none⟩ b7).setCell ⟨R, 8, none⟩ b8).heap[R]? = some (.cells #[b0, b1, b2, b3, b4, b5, b6, b7, b8, a9, a10] 36 (0, 0)) := heap_setCell_same _ R 8 _ _ b8 e7
  have e9 : ((((((((((w.setCell ⟨R, 0, none⟩ b0).setCell ⟨R, 1, none⟩ b1).setCell ⟨R, 2, none⟩ b2).setCell ⟨R, 3, none⟩ b3).setCell ⟨R, 4, none⟩ b4).setCell ⟨R, 5, none⟩ b5).setCell ⟨R, 6, none⟩ b6).setCell ⟨R, 7, none⟩ b7).setCell ⟨R, 8, none⟩ b8).setCell ⟨R, 9, none⟩ b9).heap[R]? = some (.cells #[b0, b1, b2, b3, b4, b5, b6, b7, b8, b9, a10] 36 (0, 0)) := heap_setCell_same _ R 9 _ _ b9 e8
  have e10 : (((((((((((w.setCell ⟨R, 0, none⟩ b0).setCell ⟨R, 1, none⟩ b1).setCell ⟨R, 2, none⟩ b2).setCell ⟨R, 3, none⟩ b3).setCell ⟨R, 4, none⟩ b4).setCell ⟨R, 5, none⟩ b5).setCell ⟨R, 6, none⟩ b6).setCell ⟨R, 7, none⟩ b7).setCell ⟨R, 8, none⟩ b8).setCell ⟨R, 9, none⟩ b9).setCell ⟨R, 10, none⟩ b10).heap[R]? = some (.cells #[b0, b1, b2, b3, b4, b5, b6, b7, b8, b9, b10] 36 (0, 0)) := heap_setCell_same _ R 10 _ _ b10 e9
  exact e10
theorem kput11v (R : Nat) (b0 b1 b2 b3 b4 b5 b6 b7 b8 b9 b10 : Value) (w : World) : Kp [R] w (((((((((((w.setCell ⟨R, 0, none⟩ b0).setCell ⟨R, 1, none⟩ b1).setCell ⟨R, 2, none⟩ b2).setCell ⟨R, 3, none⟩ b3).setCell ⟨R, 4, none⟩ b4).setCell ⟨R, 5, none⟩ b5).setCell ⟨R, 6, none⟩ b6).setCell ⟨R, 7, none⟩ b7).setCell ⟨R, 8, none⟩ b8).setCell ⟨R, 9, none⟩ b9).setCell ⟨R, 10, none⟩ b10) := by
  repeat (refine Kp.setCell ?_ (.inl (by simp)) _)
  exact Kp.refl _ _
/-- The part, its arguments read; nothing of the matrix yet. -/
def argsM (f g a b : Int) : Pt := if stepB f then ⟨g, 16384, 0, 0, 16384, false, a, b, turnB f, 0, 0⟩ else ⟨g, 16384, 0, 0, 16384, true, 0, 0, false, a, b⟩
set_option maxRecDepth 100000 in
set_option maxHeartbeats 8000000 in
theorem rargs_calls {w : World} {r : Nat} {v : Value} {zs : List Int} {t : Rs} (f g X : Int) (hX : bits .and .i64 f 3 = X) (hX4 : X = 0 ∨ X = 1 ∨ X = 2 ∨ X = 3) (f0 : 0 ≤ f) (f1 : f < 65536) (h : RrS w r v zs t.1 t.2) (hv : ∀ b, blockOf v = some b → b < w.heap.size) :
    Calls Try.prog 114 #[.pointer (some ⟨r, 0, none⟩), .int .i64 f, .agg #[.int .i64 g, .int .i64 16384, .int .i64 0, .int .i64 0, .int .i64 16384, .bool false, .int .i64 0, .int .i64 0, .bool false, .int .i64 0, .int .i64 0]] w fun e w' => e = .returned (ptV (argsM f g (argV X (val zs (argN X) t)) (argV X (val zs (argN X) (stp zs (argN X) t))))) ∧ RrS w' r v zs (stp zs (argN X) (stp zs (argN X) t)).1 (stp zs (argN X) (stp zs (argN X) t)).2 ∧ Kp [r] w w' := by
  have HT := Lib.hid (turn_bits f f0 f1)
  have H := Lib.hid h
  have hrl := h.lt
  have HRL := Lib.hid hrl
  have HV := Lib.hid hv
  clear h hv f0 f1
  rcases hX4 with rfl | rfl | rfl | rfl
  · have e0 : argN 0 = 1 := rfl
    rw [e0]
    rw [show argV 0 (val zs 1 t) = val zs 1 t from rfl, show argV 0 (val zs 1 (stp zs 1 t)) = val zs 1 (stp zs 1 t) from rfl]
    generalize hy1 : val zs 1 t = a at *
    generalize hy2 : val zs 1 (stp zs 1 t) = b at *
    have HY1 := Lib.hid hy1
    have HY2 := Lib.hid hy2
    clear hy1 hy2
    go_enter Try.func114, Try.ntmps114
    have hkA : Kp [r] w ((w.alloc (.cells #[.int .i64 g, .int .i64 16384, .int .i64 0, .int .i64 0, .int .i64 16384, .bool false, .int .i64 0, .int .i64 0, .bool false, .int .i64 0, .int .i64 0] 36)).alloc (.cells #[.int .i64 0, .int .i64 0, .int .i64 0, .int .i64 0, .int .i64 0, .bool false, .int .i64 0, .int .i64 0, .bool false, .int .i64 0, .int .i64 0] 36)) := ((Kp.refl _ _).alloc _).alloc _
    have hBx := heap_alloc_new w (.cells #[.int .i64 g, .int .i64 16384, .int .i64 0, .int .i64 0, .int .i64 16384, .bool false, .int .i64 0, .int .i64 0, .bool false, .int .i64 0, .int .i64 0] 36)
    have hBx := ((Kp.refl [] _).alloc (.cells #[.int .i64 0, .int .i64 0, .int .i64 0, .int .i64 0, .int .i64 0, .bool false, .int .i64 0, .int .i64 0, .bool false, .int .i64 0, .int .i64 0] 36)).heap hBx (by simp)
    have hRs := heap_alloc_new (w.alloc (.cells #[.int .i64 g, .int .i64 16384, .int .i64 0, .int .i64 0, .int .i64 16384, .bool false, .int .i64 0, .int .i64 0, .bool false, .int .i64 0, .int .i64 0] 36)) (.cells #[.int .i64 0, .int .i64 0, .int .i64 0, .int .i64 0, .int .i64 0, .bool false, .int .i64 0, .int .i64 0, .bool false, .int .i64 0, .int .i64 0] 36)
    rw [show (w.alloc (.cells #[.int .i64 g, .int .i64 16384, .int .i64 0, .int .i64 0, .int .i64 16384, .bool false, .int .i64 0, .int .i64 0, .bool false, .int .i64 0, .int .i64 0] 36)).heap.size = w.heap.size + 1 by simp] at hRs
    have H1 := Lib.hid (H.out.kp0 (((Kp.refl [] w).alloc (.cells #[.int .i64 g, .int .i64 16384, .int .i64 0, .int .i64 0, .int .i64 16384, .bool false, .int .i64 0, .int .i64 0, .bool false, .int .i64 0, .int .i64 0] 36)).alloc (.cells #[.int .i64 0, .int .i64 0, .int .i64 0, .int .i64 0, .int .i64 0, .bool false, .int .i64 0, .int .i64 0, .bool false, .int .i64 0, .int .i64 0] 36)))
    go_wp2_with fail
    generalize (w.alloc (.cells #[.int .i64 g, .int .i64 16384, .int .i64 0, .int .i64 0, .int .i64 16384, .bool false, .int .i64 0, .int .i64 0, .bool false, .int .i64 0, .int .i64 0] 36)).alloc (.cells #[.int .i64 0, .int .i64 0, .int .i64 0, .int .i64 0, .int .i64 0, .bool false, .int .i64 0, .int .i64 0, .bool false, .int .i64 0, .int .i64 0] 36) = w1 at *
    refine (ruS 1 (by decide) (by decide) 1 rfl H1.out).mono ?_; rintro e w2 ⟨rfl, h2, hk2⟩
    rw [HY1.out]
    have H2 := Lib.hid h2
    have HB2 := Lib.hid (hk2.heap hBx (by simp; omega))
    have HR2 := Lib.hid (hk2.heap hRs (by simp; omega))
    have hkw2 := hkA.trans hk2
    clear h2 hk2 hkA hBx hRs
    go_wp2_with fail
    refine (ruS 1 (by decide) (by decide) 1 rfl H2.out).mono ?_; rintro e w3 ⟨rfl, h3, hk3⟩
    rw [HY2.out]
    have H7 := Lib.hid h3
    have HB3 := Lib.hid (hk3.heap HB2.out (by simp; omega))
    have HR3 := Lib.hid (hk3.heap HR2.out (by simp; omega))
    have hkw3 := hkw2.trans hk3
    clear h3 hk3 hkw2
    have c0 : w3.cell? ⟨w.heap.size, 0, none⟩ = some (.int .i64 g) := by rw [cell_of_row w3 w.heap.size 0 _ _ _ HB3.out]; rfl
    have f0 := frozen_of_row w3 w.heap.size 0 _ _ HB3.out
    have z0 : w3.cell? ⟨w.heap.size + 1, 0, none⟩ = some (.int .i64 0) := by rw [cell_of_row w3 (w.heap.size + 1) 0 _ _ _ HR3.out]; rfl
    have y0 := frozen_of_row w3 (w.heap.size + 1) 0 _ _ HR3.out
    have c1 : w3.cell? ⟨w.heap.size, 1, none⟩ = some (.int .i64 16384) := by rw [cell_of_row w3 w.heap.size 1 _ _ _ HB3.out]; rfl
    have f1 := frozen_of_row w3 w.heap.size 1 _ _ HB3.out
    have z1 : w3.cell? ⟨w.heap.size + 1, 1, none⟩ = some (.int .i64 0) := by rw [cell_of_row w3 (w.heap.size + 1) 1 _ _ _ HR3.out]; rfl
    have y1 := frozen_of_row w3 (w.heap.size + 1) 1 _ _ HR3.out
    have c2 : w3.cell? ⟨w.heap.size, 2, none⟩ = some (.int .i64 0) := by rw [cell_of_row w3 w.heap.size 2 _ _ _ HB3.out]; rfl
    have f2 := frozen_of_row w3 w.heap.size 2 _ _ HB3.out
    have z2 : w3.cell? ⟨w.heap.size + 1, 2, none⟩ = some (.int .i64 0) := by rw [cell_of_row w3 (w.heap.size + 1) 2 _ _ _ HR3.out]; rfl
    have y2 := frozen_of_row w3 (w.heap.size + 1) 2 _ _ HR3.out
    have c3 : w3.cell? ⟨w.heap.size, 3, none⟩ = some (.int .i64 0) := by rw [cell_of_row w3 w.heap.size 3 _ _ _ HB3.out]; rfl
    have f3 := frozen_of_row w3 w.heap.size 3 _ _ HB3.out
    have z3 : w3.cell? ⟨w.heap.size + 1, 3, none⟩ = some (.int .i64 0) := by rw [cell_of_row w3 (w.heap.size + 1) 3 _ _ _ HR3.out]; rfl
    have y3 := frozen_of_row w3 (w.heap.size + 1) 3 _ _ HR3.out
    have c4 : w3.cell? ⟨w.heap.size, 4, none⟩ = some (.int .i64 16384) := by rw [cell_of_row w3 w.heap.size 4 _ _ _ HB3.out]; rfl
    have f4 := frozen_of_row w3 w.heap.size 4 _ _ HB3.out
    have z4 : w3.cell? ⟨w.heap.size + 1, 4, none⟩ = some (.int .i64 0) := by rw [cell_of_row w3 (w.heap.size + 1) 4 _ _ _ HR3.out]; rfl
    have y4 := frozen_of_row w3 (w.heap.size + 1) 4 _ _ HR3.out
    have c5 : w3.cell? ⟨w.heap.size, 5, none⟩ = some (.bool false) := by rw [cell_of_row w3 w.heap.size 5 _ _ _ HB3.out]; rfl
    have f5 := frozen_of_row w3 w.heap.size 5 _ _ HB3.out
    have z5 : w3.cell? ⟨w.heap.size + 1, 5, none⟩ = some (.bool false) := by rw [cell_of_row w3 (w.heap.size + 1) 5 _ _ _ HR3.out]; rfl
    have y5 := frozen_of_row w3 (w.heap.size + 1) 5 _ _ HR3.out
    have c6 : w3.cell? ⟨w.heap.size, 6, none⟩ = some (.int .i64 0) := by rw [cell_of_row w3 w.heap.size 6 _ _ _ HB3.out]; rfl
    have f6 := frozen_of_row w3 w.heap.size 6 _ _ HB3.out
    have z6 : w3.cell? ⟨w.heap.size + 1, 6, none⟩ = some (.int .i64 0) := by rw [cell_of_row w3 (w.heap.size + 1) 6 _ _ _ HR3.out]; rfl
    have y6 := frozen_of_row w3 (w.heap.size + 1) 6 _ _ HR3.out
    have c7 : w3.cell? ⟨w.heap.size, 7, none⟩ = some (.int .i64 0) := by rw [cell_of_row w3 w.heap.size 7 _ _ _ HB3.out]; rfl
    have f7 := frozen_of_row w3 w.heap.size 7 _ _ HB3.out
    have z7 : w3.cell? ⟨w.heap.size + 1, 7, none⟩ = some (.int .i64 0) := by rw [cell_of_row w3 (w.heap.size + 1) 7 _ _ _ HR3.out]; rfl
    have y7 := frozen_of_row w3 (w.heap.size + 1) 7 _ _ HR3.out
    have c8 : w3.cell? ⟨w.heap.size, 8, none⟩ = some (.bool false) := by rw [cell_of_row w3 w.heap.size 8 _ _ _ HB3.out]; rfl
    have f8 := frozen_of_row w3 w.heap.size 8 _ _ HB3.out
    have z8 : w3.cell? ⟨w.heap.size + 1, 8, none⟩ = some (.bool false) := by rw [cell_of_row w3 (w.heap.size + 1) 8 _ _ _ HR3.out]; rfl
    have y8 := frozen_of_row w3 (w.heap.size + 1) 8 _ _ HR3.out
    have c9 : w3.cell? ⟨w.heap.size, 9, none⟩ = some (.int .i64 0) := by rw [cell_of_row w3 w.heap.size 9 _ _ _ HB3.out]; rfl
    have f9 := frozen_of_row w3 w.heap.size 9 _ _ HB3.out
    have z9 : w3.cell? ⟨w.heap.size + 1, 9, none⟩ = some (.int .i64 0) := by rw [cell_of_row w3 (w.heap.size + 1) 9 _ _ _ HR3.out]; rfl
    have y9 := frozen_of_row w3 (w.heap.size + 1) 9 _ _ HR3.out
    have c10 : w3.cell? ⟨w.heap.size, 10, none⟩ = some (.int .i64 0) := by rw [cell_of_row w3 w.heap.size 10 _ _ _ HB3.out]; rfl
    have f10 := frozen_of_row w3 w.heap.size 10 _ _ HB3.out
    have z10 : w3.cell? ⟨w.heap.size + 1, 10, none⟩ = some (.int .i64 0) := by rw [cell_of_row w3 (w.heap.size + 1) 10 _ _ _ HR3.out]; rfl
    have y10 := frozen_of_row w3 (w.heap.size + 1) 10 _ _ HR3.out
    by_cases hS : bits .and .i64 f 2 = 0
    · have hs : (bits .and .i64 f 2 == 0) = true := by simpa using hS
      have HA : Hid (argsM f g a b = ⟨g, 16384, 0, 0, 16384, true, 0, 0, false, a, b⟩) := by show _ = _; unfold argsM; rw [if_neg (by unfold stepB; simpa using hS)]
      clear hS
      go_wp2_with fail
      clear c0 f0 z0 y0 c1 f1 z1 y1 c2 f2 z2 y2 c3 f3 z3 y3 c4 f4 z4 y4 c5 f5 z5 y5 c6 f6 z6 y6 c7 f7 z7 y7 c8 f8 z8 y8 c9 f9 z9 y9 c10 f10 z10 y10
      have hK3 : Kp [w.heap.size] w3 (((w3.setCell ⟨w.heap.size, 5, none⟩ (.bool true)).setCell ⟨w.heap.size, 9, none⟩ (.int .i64 a)).setCell ⟨w.heap.size, 10, none⟩ (.int .i64 b)) := by
        repeat (refine Kp.setCell ?_ (.inl (by simp)) _)
        exact Kp.refl _ _
      have hHF := put11v (w.heap.size + 1) (.int .i64 g) (.int .i64 16384) (.int .i64 0) (.int .i64 0) (.int .i64 16384) (.bool true) (.int .i64 0) (.int .i64 0) (.bool false) (.int .i64 a) (.int .i64 b) (hK3.heap HR3.out (by simp))
      have hKF := kput11v (w.heap.size + 1) (.int .i64 g) (.int .i64 16384) (.int .i64 0) (.int .i64 0) (.int .i64 16384) (.bool true) (.int .i64 0) (.int .i64 0) (.bool false) (.int .i64 a) (.int .i64 b) (((w3.setCell ⟨w.heap.size, 5, none⟩ (.bool true)).setCell ⟨w.heap.size, 9, none⟩ (.int .i64 a)).setCell ⟨w.heap.size, 10, none⟩ (.int .i64 b))
      have H8 := H7.out.kp hK3 (by simp; omega) (by simp; exact fun e => by have := HV.out _ e; omega)
      have hkw4 := hkw3.trans' hK3 (fun t ht => by simp at ht; subst ht; exact .inr (Nat.le_refl _))
      clear hK3
      generalize (((w3.setCell ⟨w.heap.size, 5, none⟩ (.bool true)).setCell ⟨w.heap.size, 9, none⟩ (.int .i64 a)).setCell ⟨w.heap.size, 10, none⟩ (.int .i64 b)) = w3' at *
      generalize (((((((((((w3'.setCell ⟨w.heap.size + 1, 0, none⟩ (.int .i64 g)).setCell ⟨w.heap.size + 1, 1, none⟩ (.int .i64 16384)).setCell ⟨w.heap.size + 1, 2, none⟩ (.int .i64 0)).setCell ⟨w.heap.size + 1, 3, none⟩ (.int .i64 0)).setCell ⟨w.heap.size + 1, 4, none⟩ (.int .i64 16384)).setCell ⟨w.heap.size + 1, 5, none⟩ (.bool true)).setCell ⟨w.heap.size + 1, 6, none⟩ (.int .i64 0)).setCell ⟨w.heap.size + 1, 7, none⟩ (.int .i64 0)).setCell ⟨w.heap.size + 1, 8, none⟩ (.bool false)).setCell ⟨w.heap.size + 1, 9, none⟩ (.int .i64 a)).setCell ⟨w.heap.size + 1, 10, none⟩ (.int .i64 b)) = W9 at *
      have d0 : W9.cell? ⟨w.heap.size + 1, 0, none⟩ = some (.int .i64 g) := by rw [cell_of_row W9 (w.heap.size + 1) 0 _ _ _ hHF]; rfl
      have d1 : W9.cell? ⟨w.heap.size + 1, 1, none⟩ = some (.int .i64 16384) := by rw [cell_of_row W9 (w.heap.size + 1) 1 _ _ _ hHF]; rfl
      have d2 : W9.cell? ⟨w.heap.size + 1, 2, none⟩ = some (.int .i64 0) := by rw [cell_of_row W9 (w.heap.size + 1) 2 _ _ _ hHF]; rfl
      have d3 : W9.cell? ⟨w.heap.size + 1, 3, none⟩ = some (.int .i64 0) := by rw [cell_of_row W9 (w.heap.size + 1) 3 _ _ _ hHF]; rfl
      have d4 : W9.cell? ⟨w.heap.size + 1, 4, none⟩ = some (.int .i64 16384) := by rw [cell_of_row W9 (w.heap.size + 1) 4 _ _ _ hHF]; rfl
      have d5 : W9.cell? ⟨w.heap.size + 1, 5, none⟩ = some (.bool true) := by rw [cell_of_row W9 (w.heap.size + 1) 5 _ _ _ hHF]; rfl
      have d6 : W9.cell? ⟨w.heap.size + 1, 6, none⟩ = some (.int .i64 0) := by rw [cell_of_row W9 (w.heap.size + 1) 6 _ _ _ hHF]; rfl
      have d7 : W9.cell? ⟨w.heap.size + 1, 7, none⟩ = some (.int .i64 0) := by rw [cell_of_row W9 (w.heap.size + 1) 7 _ _ _ hHF]; rfl
      have d8 : W9.cell? ⟨w.heap.size + 1, 8, none⟩ = some (.bool false) := by rw [cell_of_row W9 (w.heap.size + 1) 8 _ _ _ hHF]; rfl
      have d9 : W9.cell? ⟨w.heap.size + 1, 9, none⟩ = some (.int .i64 a) := by rw [cell_of_row W9 (w.heap.size + 1) 9 _ _ _ hHF]; rfl
      have d10 : W9.cell? ⟨w.heap.size + 1, 10, none⟩ = some (.int .i64 b) := by rw [cell_of_row W9 (w.heap.size + 1) 10 _ _ _ hHF]; rfl
      refine bodyPost_ret (v := .agg #[.int .i64 g, .int .i64 16384, .int .i64 0, .int .i64 0, .int .i64 16384, .bool true, .int .i64 0, .int .i64 0, .bool false, .int .i64 a, .int .i64 b]) (by simp [results, Try.results114, go_sem, d0, d1, d2, d3, d4, d5, d6, d7, d8, d9, d10]) rfl ⟨by rw [HA.out]; rfl, H8.kp hKF (by simp; omega) (by simp; exact fun e => by have := HV.out _ e; omega), hkw4.trans' hKF (fun t ht => by simp at ht; subst ht; exact .inr (by omega))⟩
    · have hs : (bits .and .i64 f 2 == 0) = false := by simpa using hS
      have HA : Hid (argsM f g a b = ⟨g, 16384, 0, 0, 16384, false, a, b, decide (bits .and .i64 f 2048 ≠ 0) && decide (bits .and .i64 f 4096 = 0), 0, 0⟩) := by show _ = _; unfold argsM; rw [if_pos (by unfold stepB; simpa using hS), HT.out]
      clear hS
      by_cases h1 : bits .and .i64 f 2048 = 0
      · have g1 : (bits .and .i64 f 2048 != 0) = false := by simpa using h1
        rw [decide_eq_false (fun e => e h1)] at HA
        clear h1
        go_wp2_with fail
        clear c0 f0 z0 y0 c1 f1 z1 y1 c2 f2 z2 y2 c3 f3 z3 y3 c4 f4 z4 y4 c5 f5 z5 y5 c6 f6 z6 y6 c7 f7 z7 y7 c8 f8 z8 y8 c9 f9 z9 y9 c10 f10 z10 y10
        have hK3 : Kp [w.heap.size] w3 (((w3.setCell ⟨w.heap.size, 6, none⟩ (.int .i64 a)).setCell ⟨w.heap.size, 7, none⟩ (.int .i64 b)).setCell ⟨w.heap.size, 8, none⟩ (.bool false)) := by
          repeat (refine Kp.setCell ?_ (.inl (by simp)) _)
          exact Kp.refl _ _
        have hHF := put11v (w.heap.size + 1) (.int .i64 g) (.int .i64 16384) (.int .i64 0) (.int .i64 0) (.int .i64 16384) (.bool false) (.int .i64 a) (.int .i64 b) (.bool false) (.int .i64 0) (.int .i64 0) (hK3.heap HR3.out (by simp))
        have hKF := kput11v (w.heap.size + 1) (.int .i64 g) (.int .i64 16384) (.int .i64 0) (.int .i64 0) (.int .i64 16384) (.bool false) (.int .i64 a) (.int .i64 b) (.bool false) (.int .i64 0) (.int .i64 0) (((w3.setCell ⟨w.heap.size, 6, none⟩ (.int .i64 a)).setCell ⟨w.heap.size, 7, none⟩ (.int .i64 b)).setCell ⟨w.heap.size, 8, none⟩ (.bool false))
        have H8 := H7.out.kp hK3 (by simp; omega) (by simp; exact fun e => by have := HV.out _ e; omega)
        have hkw4 := hkw3.trans' hK3 (fun t ht => by simp at ht; subst ht; exact .inr (Nat.le_refl _))
        clear hK3
        generalize (((w3.setCell ⟨w.heap.size, 6, none⟩ (.int .i64 a)).setCell ⟨w.heap.size, 7, none⟩ (.int .i64 b)).setCell ⟨w.heap.size, 8, none⟩ (.bool false)) = w3' at *
        generalize (((((((((((w3'.setCell ⟨w.heap.size + 1, 0, none⟩ (.int .i64 g)).setCell ⟨w.heap.size + 1, 1, none⟩ (.int .i64 16384)).setCell ⟨w.heap.size + 1, 2, none⟩ (.int .i64 0)).setCell ⟨w.heap.size + 1, 3, none⟩ (.int .i64 0)).setCell ⟨w.heap.size + 1, 4, none⟩ (.int .i64 16384)).setCell ⟨w.heap.size + 1, 5, none⟩ (.bool false)).setCell ⟨w.heap.size + 1, 6, none⟩ (.int .i64 a)).setCell ⟨w.heap.size + 1, 7, none⟩ (.int .i64 b)).setCell ⟨w.heap.size + 1, 8, none⟩ (.bool false)).setCell ⟨w.heap.size + 1, 9, none⟩ (.int .i64 0)).setCell ⟨w.heap.size + 1, 10, none⟩ (.int .i64 0)) = W9 at *
        have d0 : W9.cell? ⟨w.heap.size + 1, 0, none⟩ = some (.int .i64 g) := by rw [cell_of_row W9 (w.heap.size + 1) 0 _ _ _ hHF]; rfl
        have d1 : W9.cell? ⟨w.heap.size + 1, 1, none⟩ = some (.int .i64 16384) := by rw [cell_of_row W9 (w.heap.size + 1) 1 _ _ _ hHF]; rfl
        have d2 : W9.cell? ⟨w.heap.size + 1, 2, none⟩ = some (.int .i64 0) := by rw [cell_of_row W9 (w.heap.size + 1) 2 _ _ _ hHF]; rfl
        have d3 : W9.cell? ⟨w.heap.size + 1, 3, none⟩ = some (.int .i64 0) := by rw [cell_of_row W9 (w.heap.size + 1) 3 _ _ _ hHF]; rfl
        have d4 : W9.cell? ⟨w.heap.size + 1, 4, none⟩ = some (.int .i64 16384) := by rw [cell_of_row W9 (w.heap.size + 1) 4 _ _ _ hHF]; rfl
        have d5 : W9.cell? ⟨w.heap.size + 1, 5, none⟩ = some (.bool false) := by rw [cell_of_row W9 (w.heap.size + 1) 5 _ _ _ hHF]; rfl
        have d6 : W9.cell? ⟨w.heap.size + 1, 6, none⟩ = some (.int .i64 a) := by rw [cell_of_row W9 (w.heap.size + 1) 6 _ _ _ hHF]; rfl
        have d7 : W9.cell? ⟨w.heap.size + 1, 7, none⟩ = some (.int .i64 b) := by rw [cell_of_row W9 (w.heap.size + 1) 7 _ _ _ hHF]; rfl
        have d8 : W9.cell? ⟨w.heap.size + 1, 8, none⟩ = some (.bool false) := by rw [cell_of_row W9 (w.heap.size + 1) 8 _ _ _ hHF]; rfl
        have d9 : W9.cell? ⟨w.heap.size + 1, 9, none⟩ = some (.int .i64 0) := by rw [cell_of_row W9 (w.heap.size + 1) 9 _ _ _ hHF]; rfl
        have d10 : W9.cell? ⟨w.heap.size + 1, 10, none⟩ = some (.int .i64 0) := by rw [cell_of_row W9 (w.heap.size + 1) 10 _ _ _ hHF]; rfl
        refine bodyPost_ret (v := .agg #[.int .i64 g, .int .i64 16384, .int .i64 0, .int .i64 0, .int .i64 16384, .bool false, .int .i64 a, .int .i64 b, .bool false, .int .i64 0, .int .i64 0]) (by simp [results, Try.results114, go_sem, d0, d1, d2, d3, d4, d5, d6, d7, d8, d9, d10]) rfl ⟨by rw [HA.out]; rfl, H8.kp hKF (by simp; omega) (by simp; exact fun e => by have := HV.out _ e; omega), hkw4.trans' hKF (fun t ht => by simp at ht; subst ht; exact .inr (by omega))⟩
      · have g1 : (bits .and .i64 f 2048 != 0) = true := by simpa using h1
        rw [decide_eq_true h1] at HA
        clear h1
        by_cases h2 : bits .and .i64 f 4096 = 0
        · have g2 : (bits .and .i64 f 4096 == 0) = true := by simpa using h2
          rw [decide_eq_true h2] at HA
          clear h2
          go_wp2_with fail
          clear c0 f0 z0 y0 c1 f1 z1 y1 c2 f2 z2 y2 c3 f3 z3 y3 c4 f4 z4 y4 c5 f5 z5 y5 c6 f6 z6 y6 c7 f7 z7 y7 c8 f8 z8 y8 c9 f9 z9 y9 c10 f10 z10 y10
          have hK3 : Kp [w.heap.size] w3 (((w3.setCell ⟨w.heap.size, 6, none⟩ (.int .i64 a)).setCell ⟨w.heap.size, 7, none⟩ (.int .i64 b)).setCell ⟨w.heap.size, 8, none⟩ (.bool true)) := by
            repeat (refine Kp.setCell ?_ (.inl (by simp)) _)
            exact Kp.refl _ _
          have hHF := put11v (w.heap.size + 1) (.int .i64 g) (.int .i64 16384) (.int .i64 0) (.int .i64 0) (.int .i64 16384) (.bool false) (.int .i64 a) (.int .i64 b) (.bool true) (.int .i64 0) (.int .i64 0) (hK3.heap HR3.out (by simp))
          have hKF := kput11v (w.heap.size + 1) (.int .i64 g) (.int .i64 16384) (.int .i64 0) (.int .i64 0) (.int .i64 16384) (.bool false) (.int .i64 a) (.int .i64 b) (.bool true) (.int .i64 0) (.int .i64 0) (((w3.setCell ⟨w.heap.size, 6, none⟩ (.int .i64 a)).setCell ⟨w.heap.size, 7, none⟩ (.int .i64 b)).setCell ⟨w.heap.size, 8, none⟩ (.bool true))
          have H8 := H7.out.kp hK3 (by simp; omega) (by simp; exact fun e => by have := HV.out _ e; omega)
          have hkw4 := hkw3.trans' hK3 (fun t ht => by simp at ht; subst ht; exact .inr (Nat.le_refl _))
          clear hK3
          generalize (((w3.setCell ⟨w.heap.size, 6, none⟩ (.int .i64 a)).setCell ⟨w.heap.size, 7, none⟩ (.int .i64 b)).setCell ⟨w.heap.size, 8, none⟩ (.bool true)) = w3' at *
          generalize (((((((((((w3'.setCell ⟨w.heap.size + 1, 0, none⟩ (.int .i64 g)).setCell ⟨w.heap.size + 1, 1, none⟩ (.int .i64 16384)).setCell ⟨w.heap.size + 1, 2, none⟩ (.int .i64 0)).setCell ⟨w.heap.size + 1, 3, none⟩ (.int .i64 0)).setCell ⟨w.heap.size + 1, 4, none⟩ (.int .i64 16384)).setCell ⟨w.heap.size + 1, 5, none⟩ (.bool false)).setCell ⟨w.heap.size + 1, 6, none⟩ (.int .i64 a)).setCell ⟨w.heap.size + 1, 7, none⟩ (.int .i64 b)).setCell ⟨w.heap.size + 1, 8, none⟩ (.bool true)).setCell ⟨w.heap.size + 1, 9, none⟩ (.int .i64 0)).setCell ⟨w.heap.size + 1, 10, none⟩ (.int .i64 0)) = W9 at *
          have d0 : W9.cell? ⟨w.heap.size + 1, 0, none⟩ = some (.int .i64 g) := by rw [cell_of_row W9 (w.heap.size + 1) 0 _ _ _ hHF]; rfl
          have d1 : W9.cell? ⟨w.heap.size + 1, 1, none⟩ = some (.int .i64 16384) := by rw [cell_of_row W9 (w.heap.size + 1) 1 _ _ _ hHF]; rfl
          have d2 : W9.cell? ⟨w.heap.size + 1, 2, none⟩ = some (.int .i64 0) := by rw [cell_of_row W9 (w.heap.size + 1) 2 _ _ _ hHF]; rfl
          have d3 : W9.cell? ⟨w.heap.size + 1, 3, none⟩ = some (.int .i64 0) := by rw [cell_of_row W9 (w.heap.size + 1) 3 _ _ _ hHF]; rfl
          have d4 : W9.cell? ⟨w.heap.size + 1, 4, none⟩ = some (.int .i64 16384) := by rw [cell_of_row W9 (w.heap.size + 1) 4 _ _ _ hHF]; rfl
          have d5 : W9.cell? ⟨w.heap.size + 1, 5, none⟩ = some (.bool false) := by rw [cell_of_row W9 (w.heap.size + 1) 5 _ _ _ hHF]; rfl
          have d6 : W9.cell? ⟨w.heap.size + 1, 6, none⟩ = some (.int .i64 a) := by rw [cell_of_row W9 (w.heap.size + 1) 6 _ _ _ hHF]; rfl
          have d7 : W9.cell? ⟨w.heap.size + 1, 7, none⟩ = some (.int .i64 b) := by rw [cell_of_row W9 (w.heap.size + 1) 7 _ _ _ hHF]; rfl
          have d8 : W9.cell? ⟨w.heap.size + 1, 8, none⟩ = some (.bool true) := by rw [cell_of_row W9 (w.heap.size + 1) 8 _ _ _ hHF]; rfl
          have d9 : W9.cell? ⟨w.heap.size + 1, 9, none⟩ = some (.int .i64 0) := by rw [cell_of_row W9 (w.heap.size + 1) 9 _ _ _ hHF]; rfl
          have d10 : W9.cell? ⟨w.heap.size + 1, 10, none⟩ = some (.int .i64 0) := by rw [cell_of_row W9 (w.heap.size + 1) 10 _ _ _ hHF]; rfl
          refine bodyPost_ret (v := .agg #[.int .i64 g, .int .i64 16384, .int .i64 0, .int .i64 0, .int .i64 16384, .bool false, .int .i64 a, .int .i64 b, .bool true, .int .i64 0, .int .i64 0]) (by simp [results, Try.results114, go_sem, d0, d1, d2, d3, d4, d5, d6, d7, d8, d9, d10]) rfl ⟨by rw [HA.out]; rfl, H8.kp hKF (by simp; omega) (by simp; exact fun e => by have := HV.out _ e; omega), hkw4.trans' hKF (fun t ht => by simp at ht; subst ht; exact .inr (by omega))⟩
        · have g2 : (bits .and .i64 f 4096 == 0) = false := by simpa using h2
          rw [decide_eq_false h2] at HA
          clear h2
          go_wp2_with fail
          clear c0 f0 z0 y0 c1 f1 z1 y1 c2 f2 z2 y2 c3 f3 z3 y3 c4 f4 z4 y4 c5 f5 z5 y5 c6 f6 z6 y6 c7 f7 z7 y7 c8 f8 z8 y8 c9 f9 z9 y9 c10 f10 z10 y10
          have hK3 : Kp [w.heap.size] w3 (((w3.setCell ⟨w.heap.size, 6, none⟩ (.int .i64 a)).setCell ⟨w.heap.size, 7, none⟩ (.int .i64 b)).setCell ⟨w.heap.size, 8, none⟩ (.bool false)) := by
            repeat (refine Kp.setCell ?_ (.inl (by simp)) _)
            exact Kp.refl _ _
          have hHF := put11v (w.heap.size + 1) (.int .i64 g) (.int .i64 16384) (.int .i64 0) (.int .i64 0) (.int .i64 16384) (.bool false) (.int .i64 a) (.int .i64 b) (.bool false) (.int .i64 0) (.int .i64 0) (hK3.heap HR3.out (by simp))
          have hKF := kput11v (w.heap.size + 1) (.int .i64 g) (.int .i64 16384) (.int .i64 0) (.int .i64 0) (.int .i64 16384) (.bool false) (.int .i64 a) (.int .i64 b) (.bool false) (.int .i64 0) (.int .i64 0) (((w3.setCell ⟨w.heap.size, 6, none⟩ (.int .i64 a)).setCell ⟨w.heap.size, 7, none⟩ (.int .i64 b)).setCell ⟨w.heap.size, 8, none⟩ (.bool false))
          have H8 := H7.out.kp hK3 (by simp; omega) (by simp; exact fun e => by have := HV.out _ e; omega)
          have hkw4 := hkw3.trans' hK3 (fun t ht => by simp at ht; subst ht; exact .inr (Nat.le_refl _))
          clear hK3
          generalize (((w3.setCell ⟨w.heap.size, 6, none⟩ (.int .i64 a)).setCell ⟨w.heap.size, 7, none⟩ (.int .i64 b)).setCell ⟨w.heap.size, 8, none⟩ (.bool false)) = w3' at *
          generalize (((((((((((w3'.setCell ⟨w.heap.size + 1, 0, none⟩ (.int .i64 g)).setCell ⟨w.heap.size + 1, 1, none⟩ (.int .i64 16384)).setCell ⟨w.heap.size + 1, 2, none⟩ (.int .i64 0)).setCell ⟨w.heap.size + 1, 3, none⟩ (.int .i64 0)).setCell ⟨w.heap.size + 1, 4, none⟩ (.int .i64 16384)).setCell ⟨w.heap.size + 1, 5, none⟩ (.bool false)).setCell ⟨w.heap.size + 1, 6, none⟩ (.int .i64 a)).setCell ⟨w.heap.size + 1, 7, none⟩ (.int .i64 b)).setCell ⟨w.heap.size + 1, 8, none⟩ (.bool false)).setCell ⟨w.heap.size + 1, 9, none⟩ (.int .i64 0)).setCell ⟨w.heap.size + 1, 10, none⟩ (.int .i64 0)) = W9 at *
          have d0 : W9.cell? ⟨w.heap.size + 1, 0, none⟩ = some (.int .i64 g) := by rw [cell_of_row W9 (w.heap.size + 1) 0 _ _ _ hHF]; rfl
          have d1 : W9.cell? ⟨w.heap.size + 1, 1, none⟩ = some (.int .i64 16384) := by rw [cell_of_row W9 (w.heap.size + 1) 1 _ _ _ hHF]; rfl
          have d2 : W9.cell? ⟨w.heap.size + 1, 2, none⟩ = some (.int .i64 0) := by rw [cell_of_row W9 (w.heap.size + 1) 2 _ _ _ hHF]; rfl
          have d3 : W9.cell? ⟨w.heap.size + 1, 3, none⟩ = some (.int .i64 0) := by rw [cell_of_row W9 (w.heap.size + 1) 3 _ _ _ hHF]; rfl
          have d4 : W9.cell? ⟨w.heap.size + 1, 4, none⟩ = some (.int .i64 16384) := by rw [cell_of_row W9 (w.heap.size + 1) 4 _ _ _ hHF]; rfl
          have d5 : W9.cell? ⟨w.heap.size + 1, 5, none⟩ = some (.bool false) := by rw [cell_of_row W9 (w.heap.size + 1) 5 _ _ _ hHF]; rfl
          have d6 : W9.cell? ⟨w.heap.size + 1, 6, none⟩ = some (.int .i64 a) := by rw [cell_of_row W9 (w.heap.size + 1) 6 _ _ _ hHF]; rfl
          have d7 : W9.cell? ⟨w.heap.size + 1, 7, none⟩ = some (.int .i64 b) := by rw [cell_of_row W9 (w.heap.size + 1) 7 _ _ _ hHF]; rfl
          have d8 : W9.cell? ⟨w.heap.size + 1, 8, none⟩ = some (.bool false) := by rw [cell_of_row W9 (w.heap.size + 1) 8 _ _ _ hHF]; rfl
          have d9 : W9.cell? ⟨w.heap.size + 1, 9, none⟩ = some (.int .i64 0) := by rw [cell_of_row W9 (w.heap.size + 1) 9 _ _ _ hHF]; rfl
          have d10 : W9.cell? ⟨w.heap.size + 1, 10, none⟩ = some (.int .i64 0) := by rw [cell_of_row W9 (w.heap.size + 1) 10 _ _ _ hHF]; rfl
          refine bodyPost_ret (v := .agg #[.int .i64 g, .int .i64 16384, .int .i64 0, .int .i64 0, .int .i64 16384, .bool false, .int .i64 a, .int .i64 b, .bool false, .int .i64 0, .int .i64 0]) (by simp [results, Try.results114, go_sem, d0, d1, d2, d3, d4, d5, d6, d7, d8, d9, d10]) rfl ⟨by rw [HA.out]; rfl, H8.kp hKF (by simp; omega) (by simp; exact fun e => by have := HV.out _ e; omega), hkw4.trans' hKF (fun t ht => by simp at ht; subst ht; exact .inr (by omega))⟩
  · have e0 : argN 1 = 2 := rfl
    rw [e0]
    rw [show argV 1 (val zs 2 t) = val zs 2 t from rfl, show argV 1 (val zs 2 (stp zs 2 t)) = val zs 2 (stp zs 2 t) from rfl]
    generalize hy1 : val zs 2 t = a at *
    generalize hy2 : val zs 2 (stp zs 2 t) = b at *
    have HY1 := Lib.hid hy1
    have HY2 := Lib.hid hy2
    clear hy1 hy2
    go_enter Try.func114, Try.ntmps114
    have hkA : Kp [r] w ((w.alloc (.cells #[.int .i64 g, .int .i64 16384, .int .i64 0, .int .i64 0, .int .i64 16384, .bool false, .int .i64 0, .int .i64 0, .bool false, .int .i64 0, .int .i64 0] 36)).alloc (.cells #[.int .i64 0, .int .i64 0, .int .i64 0, .int .i64 0, .int .i64 0, .bool false, .int .i64 0, .int .i64 0, .bool false, .int .i64 0, .int .i64 0] 36)) := ((Kp.refl _ _).alloc _).alloc _
    have hBx := heap_alloc_new w (.cells #[.int .i64 g, .int .i64 16384, .int .i64 0, .int .i64 0, .int .i64 16384, .bool false, .int .i64 0, .int .i64 0, .bool false, .int .i64 0, .int .i64 0] 36)
    have hBx := ((Kp.refl [] _).alloc (.cells #[.int .i64 0, .int .i64 0, .int .i64 0, .int .i64 0, .int .i64 0, .bool false, .int .i64 0, .int .i64 0, .bool false, .int .i64 0, .int .i64 0] 36)).heap hBx (by simp)
    have hRs := heap_alloc_new (w.alloc (.cells #[.int .i64 g, .int .i64 16384, .int .i64 0, .int .i64 0, .int .i64 16384, .bool false, .int .i64 0, .int .i64 0, .bool false, .int .i64 0, .int .i64 0] 36)) (.cells #[.int .i64 0, .int .i64 0, .int .i64 0, .int .i64 0, .int .i64 0, .bool false, .int .i64 0, .int .i64 0, .bool false, .int .i64 0, .int .i64 0] 36)
    rw [show (w.alloc (.cells #[.int .i64 g, .int .i64 16384, .int .i64 0, .int .i64 0, .int .i64 16384, .bool false, .int .i64 0, .int .i64 0, .bool false, .int .i64 0, .int .i64 0] 36)).heap.size = w.heap.size + 1 by simp] at hRs
    have H1 := Lib.hid (H.out.kp0 (((Kp.refl [] w).alloc (.cells #[.int .i64 g, .int .i64 16384, .int .i64 0, .int .i64 0, .int .i64 16384, .bool false, .int .i64 0, .int .i64 0, .bool false, .int .i64 0, .int .i64 0] 36)).alloc (.cells #[.int .i64 0, .int .i64 0, .int .i64 0, .int .i64 0, .int .i64 0, .bool false, .int .i64 0, .int .i64 0, .bool false, .int .i64 0, .int .i64 0] 36)))
    go_wp2_with fail
    generalize (w.alloc (.cells #[.int .i64 g, .int .i64 16384, .int .i64 0, .int .i64 0, .int .i64 16384, .bool false, .int .i64 0, .int .i64 0, .bool false, .int .i64 0, .int .i64 0] 36)).alloc (.cells #[.int .i64 0, .int .i64 0, .int .i64 0, .int .i64 0, .int .i64 0, .bool false, .int .i64 0, .int .i64 0, .bool false, .int .i64 0, .int .i64 0] 36) = w1 at *
    refine (ruS 2 (by decide) (by decide) 2 rfl H1.out).mono ?_; rintro e w2 ⟨rfl, h2, hk2⟩
    rw [HY1.out]
    have H2 := Lib.hid h2
    have HB2 := Lib.hid (hk2.heap hBx (by simp; omega))
    have HR2 := Lib.hid (hk2.heap hRs (by simp; omega))
    have hkw2 := hkA.trans hk2
    clear h2 hk2 hkA hBx hRs
    go_wp2_with fail
    refine (ruS 2 (by decide) (by decide) 2 rfl H2.out).mono ?_; rintro e w3 ⟨rfl, h3, hk3⟩
    rw [HY2.out]
    have H7 := Lib.hid h3
    have HB3 := Lib.hid (hk3.heap HB2.out (by simp; omega))
    have HR3 := Lib.hid (hk3.heap HR2.out (by simp; omega))
    have hkw3 := hkw2.trans hk3
    clear h3 hk3 hkw2
    have c0 : w3.cell? ⟨w.heap.size, 0, none⟩ = some (.int .i64 g) := by rw [cell_of_row w3 w.heap.size 0 _ _ _ HB3.out]; rfl
    have f0 := frozen_of_row w3 w.heap.size 0 _ _ HB3.out
    have z0 : w3.cell? ⟨w.heap.size + 1, 0, none⟩ = some (.int .i64 0) := by rw [cell_of_row w3 (w.heap.size + 1) 0 _ _ _ HR3.out]; rfl
    have y0 := frozen_of_row w3 (w.heap.size + 1) 0 _ _ HR3.out
    have c1 : w3.cell? ⟨w.heap.size, 1, none⟩ = some (.int .i64 16384) := by rw [cell_of_row w3 w.heap.size 1 _ _ _ HB3.out]; rfl
    have f1 := frozen_of_row w3 w.heap.size 1 _ _ HB3.out
    have z1 : w3.cell? ⟨w.heap.size + 1, 1, none⟩ = some (.int .i64 0) := by rw [cell_of_row w3 (w.heap.size + 1) 1 _ _ _ HR3.out]; rfl
    have y1 := frozen_of_row w3 (w.heap.size + 1) 1 _ _ HR3.out
    have c2 : w3.cell? ⟨w.heap.size, 2, none⟩ = some (.int .i64 0) := by rw [cell_of_row w3 w.heap.size 2 _ _ _ HB3.out]; rfl
    have f2 := frozen_of_row w3 w.heap.size 2 _ _ HB3.out
    have z2 : w3.cell? ⟨w.heap.size + 1, 2, none⟩ = some (.int .i64 0) := by rw [cell_of_row w3 (w.heap.size + 1) 2 _ _ _ HR3.out]; rfl
    have y2 := frozen_of_row w3 (w.heap.size + 1) 2 _ _ HR3.out
    have c3 : w3.cell? ⟨w.heap.size, 3, none⟩ = some (.int .i64 0) := by rw [cell_of_row w3 w.heap.size 3 _ _ _ HB3.out]; rfl
    have f3 := frozen_of_row w3 w.heap.size 3 _ _ HB3.out
    have z3 : w3.cell? ⟨w.heap.size + 1, 3, none⟩ = some (.int .i64 0) := by rw [cell_of_row w3 (w.heap.size + 1) 3 _ _ _ HR3.out]; rfl
    have y3 := frozen_of_row w3 (w.heap.size + 1) 3 _ _ HR3.out
    have c4 : w3.cell? ⟨w.heap.size, 4, none⟩ = some (.int .i64 16384) := by rw [cell_of_row w3 w.heap.size 4 _ _ _ HB3.out]; rfl
    have f4 := frozen_of_row w3 w.heap.size 4 _ _ HB3.out
    have z4 : w3.cell? ⟨w.heap.size + 1, 4, none⟩ = some (.int .i64 0) := by rw [cell_of_row w3 (w.heap.size + 1) 4 _ _ _ HR3.out]; rfl
    have y4 := frozen_of_row w3 (w.heap.size + 1) 4 _ _ HR3.out
    have c5 : w3.cell? ⟨w.heap.size, 5, none⟩ = some (.bool false) := by rw [cell_of_row w3 w.heap.size 5 _ _ _ HB3.out]; rfl
    have f5 := frozen_of_row w3 w.heap.size 5 _ _ HB3.out
    have z5 : w3.cell? ⟨w.heap.size + 1, 5, none⟩ = some (.bool false) := by rw [cell_of_row w3 (w.heap.size + 1) 5 _ _ _ HR3.out]; rfl
    have y5 := frozen_of_row w3 (w.heap.size + 1) 5 _ _ HR3.out
    have c6 : w3.cell? ⟨w.heap.size, 6, none⟩ = some (.int .i64 0) := by rw [cell_of_row w3 w.heap.size 6 _ _ _ HB3.out]; rfl
    have f6 := frozen_of_row w3 w.heap.size 6 _ _ HB3.out
    have z6 : w3.cell? ⟨w.heap.size + 1, 6, none⟩ = some (.int .i64 0) := by rw [cell_of_row w3 (w.heap.size + 1) 6 _ _ _ HR3.out]; rfl
    have y6 := frozen_of_row w3 (w.heap.size + 1) 6 _ _ HR3.out
    have c7 : w3.cell? ⟨w.heap.size, 7, none⟩ = some (.int .i64 0) := by rw [cell_of_row w3 w.heap.size 7 _ _ _ HB3.out]; rfl
    have f7 := frozen_of_row w3 w.heap.size 7 _ _ HB3.out
    have z7 : w3.cell? ⟨w.heap.size + 1, 7, none⟩ = some (.int .i64 0) := by rw [cell_of_row w3 (w.heap.size + 1) 7 _ _ _ HR3.out]; rfl
    have y7 := frozen_of_row w3 (w.heap.size + 1) 7 _ _ HR3.out
    have c8 : w3.cell? ⟨w.heap.size, 8, none⟩ = some (.bool false) := by rw [cell_of_row w3 w.heap.size 8 _ _ _ HB3.out]; rfl
    have f8 := frozen_of_row w3 w.heap.size 8 _ _ HB3.out
    have z8 : w3.cell? ⟨w.heap.size + 1, 8, none⟩ = some (.bool false) := by rw [cell_of_row w3 (w.heap.size + 1) 8 _ _ _ HR3.out]; rfl
    have y8 := frozen_of_row w3 (w.heap.size + 1) 8 _ _ HR3.out
    have c9 : w3.cell? ⟨w.heap.size, 9, none⟩ = some (.int .i64 0) := by rw [cell_of_row w3 w.heap.size 9 _ _ _ HB3.out]; rfl
    have f9 := frozen_of_row w3 w.heap.size 9 _ _ HB3.out
    have z9 : w3.cell? ⟨w.heap.size + 1, 9, none⟩ = some (.int .i64 0) := by rw [cell_of_row w3 (w.heap.size + 1) 9 _ _ _ HR3.out]; rfl
    have y9 := frozen_of_row w3 (w.heap.size + 1) 9 _ _ HR3.out
    have c10 : w3.cell? ⟨w.heap.size, 10, none⟩ = some (.int .i64 0) := by rw [cell_of_row w3 w.heap.size 10 _ _ _ HB3.out]; rfl
    have f10 := frozen_of_row w3 w.heap.size 10 _ _ HB3.out
    have z10 : w3.cell? ⟨w.heap.size + 1, 10, none⟩ = some (.int .i64 0) := by rw [cell_of_row w3 (w.heap.size + 1) 10 _ _ _ HR3.out]; rfl
    have y10 := frozen_of_row w3 (w.heap.size + 1) 10 _ _ HR3.out
    by_cases hS : bits .and .i64 f 2 = 0
    · have hs : (bits .and .i64 f 2 == 0) = true := by simpa using hS
      have HA : Hid (argsM f g a b = ⟨g, 16384, 0, 0, 16384, true, 0, 0, false, a, b⟩) := by show _ = _; unfold argsM; rw [if_neg (by unfold stepB; simpa using hS)]
      clear hS
      go_wp2_with fail
      clear c0 f0 z0 y0 c1 f1 z1 y1 c2 f2 z2 y2 c3 f3 z3 y3 c4 f4 z4 y4 c5 f5 z5 y5 c6 f6 z6 y6 c7 f7 z7 y7 c8 f8 z8 y8 c9 f9 z9 y9 c10 f10 z10 y10
      have hK3 : Kp [w.heap.size] w3 (((w3.setCell ⟨w.heap.size, 5, none⟩ (.bool true)).setCell ⟨w.heap.size, 9, none⟩ (.int .i64 a)).setCell ⟨w.heap.size, 10, none⟩ (.int .i64 b)) := by
        repeat (refine Kp.setCell ?_ (.inl (by simp)) _)
        exact Kp.refl _ _
      have hHF := put11v (w.heap.size + 1) (.int .i64 g) (.int .i64 16384) (.int .i64 0) (.int .i64 0) (.int .i64 16384) (.bool true) (.int .i64 0) (.int .i64 0) (.bool false) (.int .i64 a) (.int .i64 b) (hK3.heap HR3.out (by simp))
      have hKF := kput11v (w.heap.size + 1) (.int .i64 g) (.int .i64 16384) (.int .i64 0) (.int .i64 0) (.int .i64 16384) (.bool true) (.int .i64 0) (.int .i64 0) (.bool false) (.int .i64 a) (.int .i64 b) (((w3.setCell ⟨w.heap.size, 5, none⟩ (.bool true)).setCell ⟨w.heap.size, 9, none⟩ (.int .i64 a)).setCell ⟨w.heap.size, 10, none⟩ (.int .i64 b))
      have H8 := H7.out.kp hK3 (by simp; omega) (by simp; exact fun e => by have := HV.out _ e; omega)
      have hkw4 := hkw3.trans' hK3 (fun t ht => by simp at ht; subst ht; exact .inr (Nat.le_refl _))
      clear hK3
      generalize (((w3.setCell ⟨w.heap.size, 5, none⟩ (.bool true)).setCell ⟨w.heap.size, 9, none⟩ (.int .i64 a)).setCell ⟨w.heap.size, 10, none⟩ (.int .i64 b)) = w3' at *
      generalize (((((((((((w3'.setCell ⟨w.heap.size + 1, 0, none⟩ (.int .i64 g)).setCell ⟨w.heap.size + 1, 1, none⟩ (.int .i64 16384)).setCell ⟨w.heap.size + 1, 2, none⟩ (.int .i64 0)).setCell ⟨w.heap.size + 1, 3, none⟩ (.int .i64 0)).setCell ⟨w.heap.size + 1, 4, none⟩ (.int .i64 16384)).setCell ⟨w.heap.size + 1, 5, none⟩ (.bool true)).setCell ⟨w.heap.size + 1, 6, none⟩ (.int .i64 0)).setCell ⟨w.heap.size + 1, 7, none⟩ (.int .i64 0)).setCell ⟨w.heap.size + 1, 8, none⟩ (.bool false)).setCell ⟨w.heap.size + 1, 9, none⟩ (.int .i64 a)).setCell ⟨w.heap.size + 1, 10, none⟩ (.int .i64 b)) = W9 at *
      have d0 : W9.cell? ⟨w.heap.size + 1, 0, none⟩ = some (.int .i64 g) := by rw [cell_of_row W9 (w.heap.size + 1) 0 _ _ _ hHF]; rfl
      have d1 : W9.cell? ⟨w.heap.size + 1, 1, none⟩ = some (.int .i64 16384) := by rw [cell_of_row W9 (w.heap.size + 1) 1 _ _ _ hHF]; rfl
      have d2 : W9.cell? ⟨w.heap.size + 1, 2, none⟩ = some (.int .i64 0) := by rw [cell_of_row W9 (w.heap.size + 1) 2 _ _ _ hHF]; rfl
      have d3 : W9.cell? ⟨w.heap.size + 1, 3, none⟩ = some (.int .i64 0) := by rw [cell_of_row W9 (w.heap.size + 1) 3 _ _ _ hHF]; rfl
      have d4 : W9.cell? ⟨w.heap.size + 1, 4, none⟩ = some (.int .i64 16384) := by rw [cell_of_row W9 (w.heap.size + 1) 4 _ _ _ hHF]; rfl
      have d5 : W9.cell? ⟨w.heap.size + 1, 5, none⟩ = some (.bool true) := by rw [cell_of_row W9 (w.heap.size + 1) 5 _ _ _ hHF]; rfl
      have d6 : W9.cell? ⟨w.heap.size + 1, 6, none⟩ = some (.int .i64 0) := by rw [cell_of_row W9 (w.heap.size + 1) 6 _ _ _ hHF]; rfl
      have d7 : W9.cell? ⟨w.heap.size + 1, 7, none⟩ = some (.int .i64 0) := by rw [cell_of_row W9 (w.heap.size + 1) 7 _ _ _ hHF]; rfl
      have d8 : W9.cell? ⟨w.heap.size + 1, 8, none⟩ = some (.bool false) := by rw [cell_of_row W9 (w.heap.size + 1) 8 _ _ _ hHF]; rfl
      have d9 : W9.cell? ⟨w.heap.size + 1, 9, none⟩ = some (.int .i64 a) := by rw [cell_of_row W9 (w.heap.size + 1) 9 _ _ _ hHF]; rfl
      have d10 : W9.cell? ⟨w.heap.size + 1, 10, none⟩ = some (.int .i64 b) := by rw [cell_of_row W9 (w.heap.size + 1) 10 _ _ _ hHF]; rfl
      refine bodyPost_ret (v := .agg #[.int .i64 g, .int .i64 16384, .int .i64 0, .int .i64 0, .int .i64 16384, .bool true, .int .i64 0, .int .i64 0, .bool false, .int .i64 a, .int .i64 b]) (by simp [results, Try.results114, go_sem, d0, d1, d2, d3, d4, d5, d6, d7, d8, d9, d10]) rfl ⟨by rw [HA.out]; rfl, H8.kp hKF (by simp; omega) (by simp; exact fun e => by have := HV.out _ e; omega), hkw4.trans' hKF (fun t ht => by simp at ht; subst ht; exact .inr (by omega))⟩
    · have hs : (bits .and .i64 f 2 == 0) = false := by simpa using hS
      have HA : Hid (argsM f g a b = ⟨g, 16384, 0, 0, 16384, false, a, b, decide (bits .and .i64 f 2048 ≠ 0) && decide (bits .and .i64 f 4096 = 0), 0, 0⟩) := by show _ = _; unfold argsM; rw [if_pos (by unfold stepB; simpa using hS), HT.out]
      clear hS
      by_cases h1 : bits .and .i64 f 2048 = 0
      · have g1 : (bits .and .i64 f 2048 != 0) = false := by simpa using h1
        rw [decide_eq_false (fun e => e h1)] at HA
        clear h1
        go_wp2_with fail
        clear c0 f0 z0 y0 c1 f1 z1 y1 c2 f2 z2 y2 c3 f3 z3 y3 c4 f4 z4 y4 c5 f5 z5 y5 c6 f6 z6 y6 c7 f7 z7 y7 c8 f8 z8 y8 c9 f9 z9 y9 c10 f10 z10 y10
        have hK3 : Kp [w.heap.size] w3 (((w3.setCell ⟨w.heap.size, 6, none⟩ (.int .i64 a)).setCell ⟨w.heap.size, 7, none⟩ (.int .i64 b)).setCell ⟨w.heap.size, 8, none⟩ (.bool false)) := by
          repeat (refine Kp.setCell ?_ (.inl (by simp)) _)
          exact Kp.refl _ _
        have hHF := put11v (w.heap.size + 1) (.int .i64 g) (.int .i64 16384) (.int .i64 0) (.int .i64 0) (.int .i64 16384) (.bool false) (.int .i64 a) (.int .i64 b) (.bool false) (.int .i64 0) (.int .i64 0) (hK3.heap HR3.out (by simp))
        have hKF := kput11v (w.heap.size + 1) (.int .i64 g) (.int .i64 16384) (.int .i64 0) (.int .i64 0) (.int .i64 16384) (.bool false) (.int .i64 a) (.int .i64 b) (.bool false) (.int .i64 0) (.int .i64 0) (((w3.setCell ⟨w.heap.size, 6, none⟩ (.int .i64 a)).setCell ⟨w.heap.size, 7, none⟩ (.int .i64 b)).setCell ⟨w.heap.size, 8, none⟩ (.bool false))
        have H8 := H7.out.kp hK3 (by simp; omega) (by simp; exact fun e => by have := HV.out _ e; omega)
        have hkw4 := hkw3.trans' hK3 (fun t ht => by simp at ht; subst ht; exact .inr (Nat.le_refl _))
        clear hK3
        generalize (((w3.setCell ⟨w.heap.size, 6, none⟩ (.int .i64 a)).setCell ⟨w.heap.size, 7, none⟩ (.int .i64 b)).setCell ⟨w.heap.size, 8, none⟩ (.bool false)) = w3' at *
        generalize (((((((((((w3'.setCell ⟨w.heap.size + 1, 0, none⟩ (.int .i64 g)).setCell ⟨w.heap.size + 1, 1, none⟩ (.int .i64 16384)).setCell ⟨w.heap.size + 1, 2, none⟩ (.int .i64 0)).setCell ⟨w.heap.size + 1, 3, none⟩ (.int .i64 0)).setCell ⟨w.heap.size + 1, 4, none⟩ (.int .i64 16384)).setCell ⟨w.heap.size + 1, 5, none⟩ (.bool false)).setCell ⟨w.heap.size + 1, 6, none⟩ (.int .i64 a)).setCell ⟨w.heap.size + 1, 7, none⟩ (.int .i64 b)).setCell ⟨w.heap.size + 1, 8, none⟩ (.bool false)).setCell ⟨w.heap.size + 1, 9, none⟩ (.int .i64 0)).setCell ⟨w.heap.size + 1, 10, none⟩ (.int .i64 0)) = W9 at *
        have d0 : W9.cell? ⟨w.heap.size + 1, 0, none⟩ = some (.int .i64 g) := by rw [cell_of_row W9 (w.heap.size + 1) 0 _ _ _ hHF]; rfl
        have d1 : W9.cell? ⟨w.heap.size + 1, 1, none⟩ = some (.int .i64 16384) := by rw [cell_of_row W9 (w.heap.size + 1) 1 _ _ _ hHF]; rfl
        have d2 : W9.cell? ⟨w.heap.size + 1, 2, none⟩ = some (.int .i64 0) := by rw [cell_of_row W9 (w.heap.size + 1) 2 _ _ _ hHF]; rfl
        have d3 : W9.cell? ⟨w.heap.size + 1, 3, none⟩ = some (.int .i64 0) := by rw [cell_of_row W9 (w.heap.size + 1) 3 _ _ _ hHF]; rfl
        have d4 : W9.cell? ⟨w.heap.size + 1, 4, none⟩ = some (.int .i64 16384) := by rw [cell_of_row W9 (w.heap.size + 1) 4 _ _ _ hHF]; rfl
        have d5 : W9.cell? ⟨w.heap.size + 1, 5, none⟩ = some (.bool false) := by rw [cell_of_row W9 (w.heap.size + 1) 5 _ _ _ hHF]; rfl
        have d6 : W9.cell? ⟨w.heap.size + 1, 6, none⟩ = some (.int .i64 a) := by rw [cell_of_row W9 (w.heap.size + 1) 6 _ _ _ hHF]; rfl
        have d7 : W9.cell? ⟨w.heap.size + 1, 7, none⟩ = some (.int .i64 b) := by rw [cell_of_row W9 (w.heap.size + 1) 7 _ _ _ hHF]; rfl
        have d8 : W9.cell? ⟨w.heap.size + 1, 8, none⟩ = some (.bool false) := by rw [cell_of_row W9 (w.heap.size + 1) 8 _ _ _ hHF]; rfl
        have d9 : W9.cell? ⟨w.heap.size + 1, 9, none⟩ = some (.int .i64 0) := by rw [cell_of_row W9 (w.heap.size + 1) 9 _ _ _ hHF]; rfl
        have d10 : W9.cell? ⟨w.heap.size + 1, 10, none⟩ = some (.int .i64 0) := by rw [cell_of_row W9 (w.heap.size + 1) 10 _ _ _ hHF]; rfl
        refine bodyPost_ret (v := .agg #[.int .i64 g, .int .i64 16384, .int .i64 0, .int .i64 0, .int .i64 16384, .bool false, .int .i64 a, .int .i64 b, .bool false, .int .i64 0, .int .i64 0]) (by simp [results, Try.results114, go_sem, d0, d1, d2, d3, d4, d5, d6, d7, d8, d9, d10]) rfl ⟨by rw [HA.out]; rfl, H8.kp hKF (by simp; omega) (by simp; exact fun e => by have := HV.out _ e; omega), hkw4.trans' hKF (fun t ht => by simp at ht; subst ht; exact .inr (by omega))⟩
      · have g1 : (bits .and .i64 f 2048 != 0) = true := by simpa using h1
        rw [decide_eq_true h1] at HA
        clear h1
        by_cases h2 : bits .and .i64 f 4096 = 0
        · have g2 : (bits .and .i64 f 4096 == 0) = true := by simpa using h2
          rw [decide_eq_true h2] at HA
          clear h2
          go_wp2_with fail
          clear c0 f0 z0 y0 c1 f1 z1 y1 c2 f2 z2 y2 c3 f3 z3 y3 c4 f4 z4 y4 c5 f5 z5 y5 c6 f6 z6 y6 c7 f7 z7 y7 c8 f8 z8 y8 c9 f9 z9 y9 c10 f10 z10 y10
          have hK3 : Kp [w.heap.size] w3 (((w3.setCell ⟨w.heap.size, 6, none⟩ (.int .i64 a)).setCell ⟨w.heap.size, 7, none⟩ (.int .i64 b)).setCell ⟨w.heap.size, 8, none⟩ (.bool true)) := by
            repeat (refine Kp.setCell ?_ (.inl (by simp)) _)
            exact Kp.refl _ _
          have hHF := put11v (w.heap.size + 1) (.int .i64 g) (.int .i64 16384) (.int .i64 0) (.int .i64 0) (.int .i64 16384) (.bool false) (.int .i64 a) (.int .i64 b) (.bool true) (.int .i64 0) (.int .i64 0) (hK3.heap HR3.out (by simp))
          have hKF := kput11v (w.heap.size + 1) (.int .i64 g) (.int .i64 16384) (.int .i64 0) (.int .i64 0) (.int .i64 16384) (.bool false) (.int .i64 a) (.int .i64 b) (.bool true) (.int .i64 0) (.int .i64 0) (((w3.setCell ⟨w.heap.size, 6, none⟩ (.int .i64 a)).setCell ⟨w.heap.size, 7, none⟩ (.int .i64 b)).setCell ⟨w.heap.size, 8, none⟩ (.bool true))
          have H8 := H7.out.kp hK3 (by simp; omega) (by simp; exact fun e => by have := HV.out _ e; omega)
          have hkw4 := hkw3.trans' hK3 (fun t ht => by simp at ht; subst ht; exact .inr (Nat.le_refl _))
          clear hK3
          generalize (((w3.setCell ⟨w.heap.size, 6, none⟩ (.int .i64 a)).setCell ⟨w.heap.size, 7, none⟩ (.int .i64 b)).setCell ⟨w.heap.size, 8, none⟩ (.bool true)) = w3' at *
          generalize (((((((((((w3'.setCell ⟨w.heap.size + 1, 0, none⟩ (.int .i64 g)).setCell ⟨w.heap.size + 1, 1, none⟩ (.int .i64 16384)).setCell ⟨w.heap.size + 1, 2, none⟩ (.int .i64 0)).setCell ⟨w.heap.size + 1, 3, none⟩ (.int .i64 0)).setCell ⟨w.heap.size + 1, 4, none⟩ (.int .i64 16384)).setCell ⟨w.heap.size + 1, 5, none⟩ (.bool false)).setCell ⟨w.heap.size + 1, 6, none⟩ (.int .i64 a)).setCell ⟨w.heap.size + 1, 7, none⟩ (.int .i64 b)).setCell ⟨w.heap.size + 1, 8, none⟩ (.bool true)).setCell ⟨w.heap.size + 1, 9, none⟩ (.int .i64 0)).setCell ⟨w.heap.size + 1, 10, none⟩ (.int .i64 0)) = W9 at *
          have d0 : W9.cell? ⟨w.heap.size + 1, 0, none⟩ = some (.int .i64 g) := by rw [cell_of_row W9 (w.heap.size + 1) 0 _ _ _ hHF]; rfl
          have d1 : W9.cell? ⟨w.heap.size + 1, 1, none⟩ = some (.int .i64 16384) := by rw [cell_of_row W9 (w.heap.size + 1) 1 _ _ _ hHF]; rfl
          have d2 : W9.cell? ⟨w.heap.size + 1, 2, none⟩ = some (.int .i64 0) := by rw [cell_of_row W9 (w.heap.size + 1) 2 _ _ _ hHF]; rfl
          have d3 : W9.cell? ⟨w.heap.size + 1, 3, none⟩ = some (.int .i64 0) := by rw [cell_of_row W9 (w.heap.size + 1) 3 _ _ _ hHF]; rfl
          have d4 : W9.cell? ⟨w.heap.size + 1, 4, none⟩ = some (.int .i64 16384) := by rw [cell_of_row W9 (w.heap.size + 1) 4 _ _ _ hHF]; rfl
          have d5 : W9.cell? ⟨w.heap.size + 1, 5, none⟩ = some (.bool false) := by rw [cell_of_row W9 (w.heap.size + 1) 5 _ _ _ hHF]; rfl
          have d6 : W9.cell? ⟨w.heap.size + 1, 6, none⟩ = some (.int .i64 a) := by rw [cell_of_row W9 (w.heap.size + 1) 6 _ _ _ hHF]; rfl
          have d7 : W9.cell? ⟨w.heap.size + 1, 7, none⟩ = some (.int .i64 b) := by rw [cell_of_row W9 (w.heap.size + 1) 7 _ _ _ hHF]; rfl
          have d8 : W9.cell? ⟨w.heap.size + 1, 8, none⟩ = some (.bool true) := by rw [cell_of_row W9 (w.heap.size + 1) 8 _ _ _ hHF]; rfl
          have d9 : W9.cell? ⟨w.heap.size + 1, 9, none⟩ = some (.int .i64 0) := by rw [cell_of_row W9 (w.heap.size + 1) 9 _ _ _ hHF]; rfl
          have d10 : W9.cell? ⟨w.heap.size + 1, 10, none⟩ = some (.int .i64 0) := by rw [cell_of_row W9 (w.heap.size + 1) 10 _ _ _ hHF]; rfl
          refine bodyPost_ret (v := .agg #[.int .i64 g, .int .i64 16384, .int .i64 0, .int .i64 0, .int .i64 16384, .bool false, .int .i64 a, .int .i64 b, .bool true, .int .i64 0, .int .i64 0]) (by simp [results, Try.results114, go_sem, d0, d1, d2, d3, d4, d5, d6, d7, d8, d9, d10]) rfl ⟨by rw [HA.out]; rfl, H8.kp hKF (by simp; omega) (by simp; exact fun e => by have := HV.out _ e; omega), hkw4.trans' hKF (fun t ht => by simp at ht; subst ht; exact .inr (by omega))⟩
        · have g2 : (bits .and .i64 f 4096 == 0) = false := by simpa using h2
          rw [decide_eq_false h2] at HA
          clear h2
          go_wp2_with fail
          clear c0 f0 z0 y0 c1 f1 z1 y1 c2 f2 z2 y2 c3 f3 z3 y3 c4 f4 z4 y4 c5 f5 z5 y5 c6 f6 z6 y6 c7 f7 z7 y7 c8 f8 z8 y8 c9 f9 z9 y9 c10 f10 z10 y10
          have hK3 : Kp [w.heap.size] w3 (((w3.setCell ⟨w.heap.size, 6, none⟩ (.int .i64 a)).setCell ⟨w.heap.size, 7, none⟩ (.int .i64 b)).setCell ⟨w.heap.size, 8, none⟩ (.bool false)) := by
            repeat (refine Kp.setCell ?_ (.inl (by simp)) _)
            exact Kp.refl _ _
          have hHF := put11v (w.heap.size + 1) (.int .i64 g) (.int .i64 16384) (.int .i64 0) (.int .i64 0) (.int .i64 16384) (.bool false) (.int .i64 a) (.int .i64 b) (.bool false) (.int .i64 0) (.int .i64 0) (hK3.heap HR3.out (by simp))
          have hKF := kput11v (w.heap.size + 1) (.int .i64 g) (.int .i64 16384) (.int .i64 0) (.int .i64 0) (.int .i64 16384) (.bool false) (.int .i64 a) (.int .i64 b) (.bool false) (.int .i64 0) (.int .i64 0) (((w3.setCell ⟨w.heap.size, 6, none⟩ (.int .i64 a)).setCell ⟨w.heap.size, 7, none⟩ (.int .i64 b)).setCell ⟨w.heap.size, 8, none⟩ (.bool false))
          have H8 := H7.out.kp hK3 (by simp; omega) (by simp; exact fun e => by have := HV.out _ e; omega)
          have hkw4 := hkw3.trans' hK3 (fun t ht => by simp at ht; subst ht; exact .inr (Nat.le_refl _))
          clear hK3
          generalize (((w3.setCell ⟨w.heap.size, 6, none⟩ (.int .i64 a)).setCell ⟨w.heap.size, 7, none⟩ (.int .i64 b)).setCell ⟨w.heap.size, 8, none⟩ (.bool false)) = w3' at *
          generalize (((((((((((w3'.setCell ⟨w.heap.size + 1, 0, none⟩ (.int .i64 g)).setCell ⟨w.heap.size + 1, 1, none⟩ (.int .i64 16384)).setCell ⟨w.heap.size + 1, 2, none⟩ (.int .i64 0)).setCell ⟨w.heap.size + 1, 3, none⟩ (.int .i64 0)).setCell ⟨w.heap.size + 1, 4, none⟩ (.int .i64 16384)).setCell ⟨w.heap.size + 1, 5, none⟩ (.bool false)).setCell ⟨w.heap.size + 1, 6, none⟩ (.int .i64 a)).setCell ⟨w.heap.size + 1, 7, none⟩ (.int .i64 b)).setCell ⟨w.heap.size + 1, 8, none⟩ (.bool false)).setCell ⟨w.heap.size + 1, 9, none⟩ (.int .i64 0)).setCell ⟨w.heap.size + 1, 10, none⟩ (.int .i64 0)) = W9 at *
          have d0 : W9.cell? ⟨w.heap.size + 1, 0, none⟩ = some (.int .i64 g) := by rw [cell_of_row W9 (w.heap.size + 1) 0 _ _ _ hHF]; rfl
          have d1 : W9.cell? ⟨w.heap.size + 1, 1, none⟩ = some (.int .i64 16384) := by rw [cell_of_row W9 (w.heap.size + 1) 1 _ _ _ hHF]; rfl
          have d2 : W9.cell? ⟨w.heap.size + 1, 2, none⟩ = some (.int .i64 0) := by rw [cell_of_row W9 (w.heap.size + 1) 2 _ _ _ hHF]; rfl
          have d3 : W9.cell? ⟨w.heap.size + 1, 3, none⟩ = some (.int .i64 0) := by rw [cell_of_row W9 (w.heap.size + 1) 3 _ _ _ hHF]; rfl
          have d4 : W9.cell? ⟨w.heap.size + 1, 4, none⟩ = some (.int .i64 16384) := by rw [cell_of_row W9 (w.heap.size + 1) 4 _ _ _ hHF]; rfl
          have d5 : W9.cell? ⟨w.heap.size + 1, 5, none⟩ = some (.bool false) := by rw [cell_of_row W9 (w.heap.size + 1) 5 _ _ _ hHF]; rfl
          have d6 : W9.cell? ⟨w.heap.size + 1, 6, none⟩ = some (.int .i64 a) := by rw [cell_of_row W9 (w.heap.size + 1) 6 _ _ _ hHF]; rfl
          have d7 : W9.cell? ⟨w.heap.size + 1, 7, none⟩ = some (.int .i64 b) := by rw [cell_of_row W9 (w.heap.size + 1) 7 _ _ _ hHF]; rfl
          have d8 : W9.cell? ⟨w.heap.size + 1, 8, none⟩ = some (.bool false) := by rw [cell_of_row W9 (w.heap.size + 1) 8 _ _ _ hHF]; rfl
          have d9 : W9.cell? ⟨w.heap.size + 1, 9, none⟩ = some (.int .i64 0) := by rw [cell_of_row W9 (w.heap.size + 1) 9 _ _ _ hHF]; rfl
          have d10 : W9.cell? ⟨w.heap.size + 1, 10, none⟩ = some (.int .i64 0) := by rw [cell_of_row W9 (w.heap.size + 1) 10 _ _ _ hHF]; rfl
          refine bodyPost_ret (v := .agg #[.int .i64 g, .int .i64 16384, .int .i64 0, .int .i64 0, .int .i64 16384, .bool false, .int .i64 a, .int .i64 b, .bool false, .int .i64 0, .int .i64 0]) (by simp [results, Try.results114, go_sem, d0, d1, d2, d3, d4, d5, d6, d7, d8, d9, d10]) rfl ⟨by rw [HA.out]; rfl, H8.kp hKF (by simp; omega) (by simp; exact fun e => by have := HV.out _ e; omega), hkw4.trans' hKF (fun t ht => by simp at ht; subst ht; exact .inr (by omega))⟩
  · have e0 : argN 2 = 1 := rfl
    rw [e0]
    rw [show argV 2 (val zs 1 t) = s8 (val zs 1 t) from rfl, show argV 2 (val zs 1 (stp zs 1 t)) = s8 (val zs 1 (stp zs 1 t)) from rfl]
    have q3 := rdV_bounds zs t.1 t.2 1 H.out.2.2.1
    have q4 := rdV_bounds zs (stp zs 1 t).1 (stp zs 1 t).2 1 H.out.2.2.1
    have e8 := wrap8_s8 _ q3.1 (by simpa using q3.2)
    have e9 := wrap8_s8 _ q4.1 (by simpa using q4.2)
    obtain ⟨q5, q6⟩ := s8_bounds _ q3.1 (by simpa using q3.2)
    obtain ⟨q7, q8⟩ := s8_bounds _ q4.1 (by simpa using q4.2)
    change IntKind.i8.wrap (val zs 1 t) = s8 (val zs 1 t) at e8
    change -128 ≤ s8 (val zs 1 t) at q5
    change s8 (val zs 1 t) ≤ 127 at q6
    change IntKind.i8.wrap (val zs 1 (stp zs 1 t)) = s8 (val zs 1 (stp zs 1 t)) at e9
    change -128 ≤ s8 (val zs 1 (stp zs 1 t)) at q7
    change s8 (val zs 1 (stp zs 1 t)) ≤ 127 at q8
    clear q3 q4
    generalize hy1 : val zs 1 t = y1 at *
    generalize hy2 : val zs 1 (stp zs 1 t) = y2 at *
    generalize s8 y1 = a at *
    generalize s8 y2 = b at *
    have HY1 := Lib.hid hy1
    have HY2 := Lib.hid hy2
    clear hy1 hy2
    go_enter Try.func114, Try.ntmps114
    have hkA : Kp [r] w ((w.alloc (.cells #[.int .i64 g, .int .i64 16384, .int .i64 0, .int .i64 0, .int .i64 16384, .bool false, .int .i64 0, .int .i64 0, .bool false, .int .i64 0, .int .i64 0] 36)).alloc (.cells #[.int .i64 0, .int .i64 0, .int .i64 0, .int .i64 0, .int .i64 0, .bool false, .int .i64 0, .int .i64 0, .bool false, .int .i64 0, .int .i64 0] 36)) := ((Kp.refl _ _).alloc _).alloc _
    have hBx := heap_alloc_new w (.cells #[.int .i64 g, .int .i64 16384, .int .i64 0, .int .i64 0, .int .i64 16384, .bool false, .int .i64 0, .int .i64 0, .bool false, .int .i64 0, .int .i64 0] 36)
    have hBx := ((Kp.refl [] _).alloc (.cells #[.int .i64 0, .int .i64 0, .int .i64 0, .int .i64 0, .int .i64 0, .bool false, .int .i64 0, .int .i64 0, .bool false, .int .i64 0, .int .i64 0] 36)).heap hBx (by simp)
    have hRs := heap_alloc_new (w.alloc (.cells #[.int .i64 g, .int .i64 16384, .int .i64 0, .int .i64 0, .int .i64 16384, .bool false, .int .i64 0, .int .i64 0, .bool false, .int .i64 0, .int .i64 0] 36)) (.cells #[.int .i64 0, .int .i64 0, .int .i64 0, .int .i64 0, .int .i64 0, .bool false, .int .i64 0, .int .i64 0, .bool false, .int .i64 0, .int .i64 0] 36)
    rw [show (w.alloc (.cells #[.int .i64 g, .int .i64 16384, .int .i64 0, .int .i64 0, .int .i64 16384, .bool false, .int .i64 0, .int .i64 0, .bool false, .int .i64 0, .int .i64 0] 36)).heap.size = w.heap.size + 1 by simp] at hRs
    have H1 := Lib.hid (H.out.kp0 (((Kp.refl [] w).alloc (.cells #[.int .i64 g, .int .i64 16384, .int .i64 0, .int .i64 0, .int .i64 16384, .bool false, .int .i64 0, .int .i64 0, .bool false, .int .i64 0, .int .i64 0] 36)).alloc (.cells #[.int .i64 0, .int .i64 0, .int .i64 0, .int .i64 0, .int .i64 0, .bool false, .int .i64 0, .int .i64 0, .bool false, .int .i64 0, .int .i64 0] 36)))
    go_wp2_with fail
    generalize (w.alloc (.cells #[.int .i64 g, .int .i64 16384, .int .i64 0, .int .i64 0, .int .i64 16384, .bool false, .int .i64 0, .int .i64 0, .bool false, .int .i64 0, .int .i64 0] 36)).alloc (.cells #[.int .i64 0, .int .i64 0, .int .i64 0, .int .i64 0, .int .i64 0, .bool false, .int .i64 0, .int .i64 0, .bool false, .int .i64 0, .int .i64 0] 36) = w1 at *
    refine (ruS 1 (by decide) (by decide) 1 rfl H1.out).mono ?_; rintro e w2 ⟨rfl, h2, hk2⟩
    rw [HY1.out]
    have H2 := Lib.hid h2
    have HB2 := Lib.hid (hk2.heap hBx (by simp; omega))
    have HR2 := Lib.hid (hk2.heap hRs (by simp; omega))
    have hkw2 := hkA.trans hk2
    clear h2 hk2 hkA hBx hRs
    go_wp2_with fail
    refine (ruS 1 (by decide) (by decide) 1 rfl H2.out).mono ?_; rintro e w3 ⟨rfl, h3, hk3⟩
    rw [HY2.out]
    have H7 := Lib.hid h3
    have HB3 := Lib.hid (hk3.heap HB2.out (by simp; omega))
    have HR3 := Lib.hid (hk3.heap HR2.out (by simp; omega))
    have hkw3 := hkw2.trans hk3
    clear h3 hk3 hkw2
    have c0 : w3.cell? ⟨w.heap.size, 0, none⟩ = some (.int .i64 g) := by rw [cell_of_row w3 w.heap.size 0 _ _ _ HB3.out]; rfl
    have f0 := frozen_of_row w3 w.heap.size 0 _ _ HB3.out
    have z0 : w3.cell? ⟨w.heap.size + 1, 0, none⟩ = some (.int .i64 0) := by rw [cell_of_row w3 (w.heap.size + 1) 0 _ _ _ HR3.out]; rfl
    have y0 := frozen_of_row w3 (w.heap.size + 1) 0 _ _ HR3.out
    have c1 : w3.cell? ⟨w.heap.size, 1, none⟩ = some (.int .i64 16384) := by rw [cell_of_row w3 w.heap.size 1 _ _ _ HB3.out]; rfl
    have f1 := frozen_of_row w3 w.heap.size 1 _ _ HB3.out
    have z1 : w3.cell? ⟨w.heap.size + 1, 1, none⟩ = some (.int .i64 0) := by rw [cell_of_row w3 (w.heap.size + 1) 1 _ _ _ HR3.out]; rfl
    have y1 := frozen_of_row w3 (w.heap.size + 1) 1 _ _ HR3.out
    have c2 : w3.cell? ⟨w.heap.size, 2, none⟩ = some (.int .i64 0) := by rw [cell_of_row w3 w.heap.size 2 _ _ _ HB3.out]; rfl
    have f2 := frozen_of_row w3 w.heap.size 2 _ _ HB3.out
    have z2 : w3.cell? ⟨w.heap.size + 1, 2, none⟩ = some (.int .i64 0) := by rw [cell_of_row w3 (w.heap.size + 1) 2 _ _ _ HR3.out]; rfl
    have y2 := frozen_of_row w3 (w.heap.size + 1) 2 _ _ HR3.out
    have c3 : w3.cell? ⟨w.heap.size, 3, none⟩ = some (.int .i64 0) := by rw [cell_of_row w3 w.heap.size 3 _ _ _ HB3.out]; rfl
    have f3 := frozen_of_row w3 w.heap.size 3 _ _ HB3.out
    have z3 : w3.cell? ⟨w.heap.size + 1, 3, none⟩ = some (.int .i64 0) := by rw [cell_of_row w3 (w.heap.size + 1) 3 _ _ _ HR3.out]; rfl
    have y3 := frozen_of_row w3 (w.heap.size + 1) 3 _ _ HR3.out
    have c4 : w3.cell? ⟨w.heap.size, 4, none⟩ = some (.int .i64 16384) := by rw [cell_of_row w3 w.heap.size 4 _ _ _ HB3.out]; rfl
    have f4 := frozen_of_row w3 w.heap.size 4 _ _ HB3.out
    have z4 : w3.cell? ⟨w.heap.size + 1, 4, none⟩ = some (.int .i64 0) := by rw [cell_of_row w3 (w.heap.size + 1) 4 _ _ _ HR3.out]; rfl
    have y4 := frozen_of_row w3 (w.heap.size + 1) 4 _ _ HR3.out
    have c5 : w3.cell? ⟨w.heap.size, 5, none⟩ = some (.bool false) := by rw [cell_of_row w3 w.heap.size 5 _ _ _ HB3.out]; rfl
    have f5 := frozen_of_row w3 w.heap.size 5 _ _ HB3.out
    have z5 : w3.cell? ⟨w.heap.size + 1, 5, none⟩ = some (.bool false) := by rw [cell_of_row w3 (w.heap.size + 1) 5 _ _ _ HR3.out]; rfl
    have y5 := frozen_of_row w3 (w.heap.size + 1) 5 _ _ HR3.out
    have c6 : w3.cell? ⟨w.heap.size, 6, none⟩ = some (.int .i64 0) := by rw [cell_of_row w3 w.heap.size 6 _ _ _ HB3.out]; rfl
    have f6 := frozen_of_row w3 w.heap.size 6 _ _ HB3.out
    have z6 : w3.cell? ⟨w.heap.size + 1, 6, none⟩ = some (.int .i64 0) := by rw [cell_of_row w3 (w.heap.size + 1) 6 _ _ _ HR3.out]; rfl
    have y6 := frozen_of_row w3 (w.heap.size + 1) 6 _ _ HR3.out
    have c7 : w3.cell? ⟨w.heap.size, 7, none⟩ = some (.int .i64 0) := by rw [cell_of_row w3 w.heap.size 7 _ _ _ HB3.out]; rfl
    have f7 := frozen_of_row w3 w.heap.size 7 _ _ HB3.out
    have z7 : w3.cell? ⟨w.heap.size + 1, 7, none⟩ = some (.int .i64 0) := by rw [cell_of_row w3 (w.heap.size + 1) 7 _ _ _ HR3.out]; rfl
    have y7 := frozen_of_row w3 (w.heap.size + 1) 7 _ _ HR3.out
    have c8 : w3.cell? ⟨w.heap.size, 8, none⟩ = some (.bool false) := by rw [cell_of_row w3 w.heap.size 8 _ _ _ HB3.out]; rfl
    have f8 := frozen_of_row w3 w.heap.size 8 _ _ HB3.out
    have z8 : w3.cell? ⟨w.heap.size + 1, 8, none⟩ = some (.bool false) := by rw [cell_of_row w3 (w.heap.size + 1) 8 _ _ _ HR3.out]; rfl
    have y8 := frozen_of_row w3 (w.heap.size + 1) 8 _ _ HR3.out
    have c9 : w3.cell? ⟨w.heap.size, 9, none⟩ = some (.int .i64 0) := by rw [cell_of_row w3 w.heap.size 9 _ _ _ HB3.out]; rfl
    have f9 := frozen_of_row w3 w.heap.size 9 _ _ HB3.out
    have z9 : w3.cell? ⟨w.heap.size + 1, 9, none⟩ = some (.int .i64 0) := by rw [cell_of_row w3 (w.heap.size + 1) 9 _ _ _ HR3.out]; rfl
    have y9 := frozen_of_row w3 (w.heap.size + 1) 9 _ _ HR3.out
    have c10 : w3.cell? ⟨w.heap.size, 10, none⟩ = some (.int .i64 0) := by rw [cell_of_row w3 w.heap.size 10 _ _ _ HB3.out]; rfl
    have f10 := frozen_of_row w3 w.heap.size 10 _ _ HB3.out
    have z10 : w3.cell? ⟨w.heap.size + 1, 10, none⟩ = some (.int .i64 0) := by rw [cell_of_row w3 (w.heap.size + 1) 10 _ _ _ HR3.out]; rfl
    have y10 := frozen_of_row w3 (w.heap.size + 1) 10 _ _ HR3.out
    by_cases hS : bits .and .i64 f 2 = 0
    · have hs : (bits .and .i64 f 2 == 0) = true := by simpa using hS
      have HA : Hid (argsM f g a b = ⟨g, 16384, 0, 0, 16384, true, 0, 0, false, a, b⟩) := by show _ = _; unfold argsM; rw [if_neg (by unfold stepB; simpa using hS)]
      clear hS
      go_wp2_with fail
      clear c0 f0 z0 y0 c1 f1 z1 y1 c2 f2 z2 y2 c3 f3 z3 y3 c4 f4 z4 y4 c5 f5 z5 y5 c6 f6 z6 y6 c7 f7 z7 y7 c8 f8 z8 y8 c9 f9 z9 y9 c10 f10 z10 y10
      have hK3 : Kp [w.heap.size] w3 (((w3.setCell ⟨w.heap.size, 5, none⟩ (.bool true)).setCell ⟨w.heap.size, 9, none⟩ (.int .i64 a)).setCell ⟨w.heap.size, 10, none⟩ (.int .i64 b)) := by
        repeat (refine Kp.setCell ?_ (.inl (by simp)) _)
        exact Kp.refl _ _
      have hHF := put11v (w.heap.size + 1) (.int .i64 g) (.int .i64 16384) (.int .i64 0) (.int .i64 0) (.int .i64 16384) (.bool true) (.int .i64 0) (.int .i64 0) (.bool false) (.int .i64 a) (.int .i64 b) (hK3.heap HR3.out (by simp))
      have hKF := kput11v (w.heap.size + 1) (.int .i64 g) (.int .i64 16384) (.int .i64 0) (.int .i64 0) (.int .i64 16384) (.bool true) (.int .i64 0) (.int .i64 0) (.bool false) (.int .i64 a) (.int .i64 b) (((w3.setCell ⟨w.heap.size, 5, none⟩ (.bool true)).setCell ⟨w.heap.size, 9, none⟩ (.int .i64 a)).setCell ⟨w.heap.size, 10, none⟩ (.int .i64 b))
      have H8 := H7.out.kp hK3 (by simp; omega) (by simp; exact fun e => by have := HV.out _ e; omega)
      have hkw4 := hkw3.trans' hK3 (fun t ht => by simp at ht; subst ht; exact .inr (Nat.le_refl _))
      clear hK3
      generalize (((w3.setCell ⟨w.heap.size, 5, none⟩ (.bool true)).setCell ⟨w.heap.size, 9, none⟩ (.int .i64 a)).setCell ⟨w.heap.size, 10, none⟩ (.int .i64 b)) = w3' at *
      generalize (((((((((((w3'.setCell ⟨w.heap.size + 1, 0, none⟩ (.int .i64 g)).setCell ⟨w.heap.size + 1, 1, none⟩ (.int .i64 16384)).setCell ⟨w.heap.size + 1, 2, none⟩ (.int .i64 0)).setCell ⟨w.heap.size + 1, 3, none⟩ (.int .i64 0)).setCell ⟨w.heap.size + 1, 4, none⟩ (.int .i64 16384)).setCell ⟨w.heap.size + 1, 5, none⟩ (.bool true)).setCell ⟨w.heap.size + 1, 6, none⟩ (.int .i64 0)).setCell ⟨w.heap.size + 1, 7, none⟩ (.int .i64 0)).setCell ⟨w.heap.size + 1, 8, none⟩ (.bool false)).setCell ⟨w.heap.size + 1, 9, none⟩ (.int .i64 a)).setCell ⟨w.heap.size + 1, 10, none⟩ (.int .i64 b)) = W9 at *
      have d0 : W9.cell? ⟨w.heap.size + 1, 0, none⟩ = some (.int .i64 g) := by rw [cell_of_row W9 (w.heap.size + 1) 0 _ _ _ hHF]; rfl
      have d1 : W9.cell? ⟨w.heap.size + 1, 1, none⟩ = some (.int .i64 16384) := by rw [cell_of_row W9 (w.heap.size + 1) 1 _ _ _ hHF]; rfl
      have d2 : W9.cell? ⟨w.heap.size + 1, 2, none⟩ = some (.int .i64 0) := by rw [cell_of_row W9 (w.heap.size + 1) 2 _ _ _ hHF]; rfl
      have d3 : W9.cell? ⟨w.heap.size + 1, 3, none⟩ = some (.int .i64 0) := by rw [cell_of_row W9 (w.heap.size + 1) 3 _ _ _ hHF]; rfl
      have d4 : W9.cell? ⟨w.heap.size + 1, 4, none⟩ = some (.int .i64 16384) := by rw [cell_of_row W9 (w.heap.size + 1) 4 _ _ _ hHF]; rfl
      have d5 : W9.cell? ⟨w.heap.size + 1, 5, none⟩ = some (.bool true) := by rw [cell_of_row W9 (w.heap.size + 1) 5 _ _ _ hHF]; rfl
      have d6 : W9.cell? ⟨w.heap.size + 1, 6, none⟩ = some (.int .i64 0) := by rw [cell_of_row W9 (w.heap.size + 1) 6 _ _ _ hHF]; rfl
      have d7 : W9.cell? ⟨w.heap.size + 1, 7, none⟩ = some (.int .i64 0) := by rw [cell_of_row W9 (w.heap.size + 1) 7 _ _ _ hHF]; rfl
      have d8 : W9.cell? ⟨w.heap.size + 1, 8, none⟩ = some (.bool false) := by rw [cell_of_row W9 (w.heap.size + 1) 8 _ _ _ hHF]; rfl
      have d9 : W9.cell? ⟨w.heap.size + 1, 9, none⟩ = some (.int .i64 a) := by rw [cell_of_row W9 (w.heap.size + 1) 9 _ _ _ hHF]; rfl
      have d10 : W9.cell? ⟨w.heap.size + 1, 10, none⟩ = some (.int .i64 b) := by rw [cell_of_row W9 (w.heap.size + 1) 10 _ _ _ hHF]; rfl
      refine bodyPost_ret (v := .agg #[.int .i64 g, .int .i64 16384, .int .i64 0, .int .i64 0, .int .i64 16384, .bool true, .int .i64 0, .int .i64 0, .bool false, .int .i64 a, .int .i64 b]) (by simp [results, Try.results114, go_sem, d0, d1, d2, d3, d4, d5, d6, d7, d8, d9, d10]) rfl ⟨by rw [HA.out]; rfl, H8.kp hKF (by simp; omega) (by simp; exact fun e => by have := HV.out _ e; omega), hkw4.trans' hKF (fun t ht => by simp at ht; subst ht; exact .inr (by omega))⟩
    · have hs : (bits .and .i64 f 2 == 0) = false := by simpa using hS
      have HA : Hid (argsM f g a b = ⟨g, 16384, 0, 0, 16384, false, a, b, decide (bits .and .i64 f 2048 ≠ 0) && decide (bits .and .i64 f 4096 = 0), 0, 0⟩) := by show _ = _; unfold argsM; rw [if_pos (by unfold stepB; simpa using hS), HT.out]
      clear hS
      by_cases h1 : bits .and .i64 f 2048 = 0
      · have g1 : (bits .and .i64 f 2048 != 0) = false := by simpa using h1
        rw [decide_eq_false (fun e => e h1)] at HA
        clear h1
        go_wp2_with fail
        clear c0 f0 z0 y0 c1 f1 z1 y1 c2 f2 z2 y2 c3 f3 z3 y3 c4 f4 z4 y4 c5 f5 z5 y5 c6 f6 z6 y6 c7 f7 z7 y7 c8 f8 z8 y8 c9 f9 z9 y9 c10 f10 z10 y10
        have hK3 : Kp [w.heap.size] w3 (((w3.setCell ⟨w.heap.size, 6, none⟩ (.int .i64 a)).setCell ⟨w.heap.size, 7, none⟩ (.int .i64 b)).setCell ⟨w.heap.size, 8, none⟩ (.bool false)) := by
          repeat (refine Kp.setCell ?_ (.inl (by simp)) _)
          exact Kp.refl _ _
        have hHF := put11v (w.heap.size + 1) (.int .i64 g) (.int .i64 16384) (.int .i64 0) (.int .i64 0) (.int .i64 16384) (.bool false) (.int .i64 a) (.int .i64 b) (.bool false) (.int .i64 0) (.int .i64 0) (hK3.heap HR3.out (by simp))
        have hKF := kput11v (w.heap.size + 1) (.int .i64 g) (.int .i64 16384) (.int .i64 0) (.int .i64 0) (.int .i64 16384) (.bool false) (.int .i64 a) (.int .i64 b) (.bool false) (.int .i64 0) (.int .i64 0) (((w3.setCell ⟨w.heap.size, 6, none⟩ (.int .i64 a)).setCell ⟨w.heap.size, 7, none⟩ (.int .i64 b)).setCell ⟨w.heap.size, 8, none⟩ (.bool false))
        have H8 := H7.out.kp hK3 (by simp; omega) (by simp; exact fun e => by have := HV.out _ e; omega)
        have hkw4 := hkw3.trans' hK3 (fun t ht => by simp at ht; subst ht; exact .inr (Nat.le_refl _))
        clear hK3
        generalize (((w3.setCell ⟨w.heap.size, 6, none⟩ (.int .i64 a)).setCell ⟨w.heap.size, 7, none⟩ (.int .i64 b)).setCell ⟨w.heap.size, 8, none⟩ (.bool false)) = w3' at *
        generalize (((((((((((w3'.setCell ⟨w.heap.size + 1, 0, none⟩ (.int .i64 g)).setCell ⟨w.heap.size + 1, 1, none⟩ (.int .i64 16384)).setCell ⟨w.heap.size + 1, 2, none⟩ (.int .i64 0)).setCell ⟨w.heap.size + 1, 3, none⟩ (.int .i64 0)).setCell ⟨w.heap.size + 1, 4, none⟩ (.int .i64 16384)).setCell ⟨w.heap.size + 1, 5, none⟩ (.bool false)).setCell ⟨w.heap.size + 1, 6, none⟩ (.int .i64 a)).setCell ⟨w.heap.size + 1, 7, none⟩ (.int .i64 b)).setCell ⟨w.heap.size + 1, 8, none⟩ (.bool false)).setCell ⟨w.heap.size + 1, 9, none⟩ (.int .i64 0)).setCell ⟨w.heap.size + 1, 10, none⟩ (.int .i64 0)) = W9 at *
        have d0 : W9.cell? ⟨w.heap.size + 1, 0, none⟩ = some (.int .i64 g) := by rw [cell_of_row W9 (w.heap.size + 1) 0 _ _ _ hHF]; rfl
        have d1 : W9.cell? ⟨w.heap.size + 1, 1, none⟩ = some (.int .i64 16384) := by rw [cell_of_row W9 (w.heap.size + 1) 1 _ _ _ hHF]; rfl
        have d2 : W9.cell? ⟨w.heap.size + 1, 2, none⟩ = some (.int .i64 0) := by rw [cell_of_row W9 (w.heap.size + 1) 2 _ _ _ hHF]; rfl
        have d3 : W9.cell? ⟨w.heap.size + 1, 3, none⟩ = some (.int .i64 0) := by rw [cell_of_row W9 (w.heap.size + 1) 3 _ _ _ hHF]; rfl
        have d4 : W9.cell? ⟨w.heap.size + 1, 4, none⟩ = some (.int .i64 16384) := by rw [cell_of_row W9 (w.heap.size + 1) 4 _ _ _ hHF]; rfl
        have d5 : W9.cell? ⟨w.heap.size + 1, 5, none⟩ = some (.bool false) := by rw [cell_of_row W9 (w.heap.size + 1) 5 _ _ _ hHF]; rfl
        have d6 : W9.cell? ⟨w.heap.size + 1, 6, none⟩ = some (.int .i64 a) := by rw [cell_of_row W9 (w.heap.size + 1) 6 _ _ _ hHF]; rfl
        have d7 : W9.cell? ⟨w.heap.size + 1, 7, none⟩ = some (.int .i64 b) := by rw [cell_of_row W9 (w.heap.size + 1) 7 _ _ _ hHF]; rfl
        have d8 : W9.cell? ⟨w.heap.size + 1, 8, none⟩ = some (.bool false) := by rw [cell_of_row W9 (w.heap.size + 1) 8 _ _ _ hHF]; rfl
        have d9 : W9.cell? ⟨w.heap.size + 1, 9, none⟩ = some (.int .i64 0) := by rw [cell_of_row W9 (w.heap.size + 1) 9 _ _ _ hHF]; rfl
        have d10 : W9.cell? ⟨w.heap.size + 1, 10, none⟩ = some (.int .i64 0) := by rw [cell_of_row W9 (w.heap.size + 1) 10 _ _ _ hHF]; rfl
        refine bodyPost_ret (v := .agg #[.int .i64 g, .int .i64 16384, .int .i64 0, .int .i64 0, .int .i64 16384, .bool false, .int .i64 a, .int .i64 b, .bool false, .int .i64 0, .int .i64 0]) (by simp [results, Try.results114, go_sem, d0, d1, d2, d3, d4, d5, d6, d7, d8, d9, d10]) rfl ⟨by rw [HA.out]; rfl, H8.kp hKF (by simp; omega) (by simp; exact fun e => by have := HV.out _ e; omega), hkw4.trans' hKF (fun t ht => by simp at ht; subst ht; exact .inr (by omega))⟩
      · have g1 : (bits .and .i64 f 2048 != 0) = true := by simpa using h1
        rw [decide_eq_true h1] at HA
        clear h1
        by_cases h2 : bits .and .i64 f 4096 = 0
        · have g2 : (bits .and .i64 f 4096 == 0) = true := by simpa using h2
          rw [decide_eq_true h2] at HA
          clear h2
          go_wp2_with fail
          clear c0 f0 z0 y0 c1 f1 z1 y1 c2 f2 z2 y2 c3 f3 z3 y3 c4 f4 z4 y4 c5 f5 z5 y5 c6 f6 z6 y6 c7 f7 z7 y7 c8 f8 z8 y8 c9 f9 z9 y9 c10 f10 z10 y10
          have hK3 : Kp [w.heap.size] w3 (((w3.setCell ⟨w.heap.size, 6, none⟩ (.int .i64 a)).setCell ⟨w.heap.size, 7, none⟩ (.int .i64 b)).setCell ⟨w.heap.size, 8, none⟩ (.bool true)) := by
            repeat (refine Kp.setCell ?_ (.inl (by simp)) _)
            exact Kp.refl _ _
          have hHF := put11v (w.heap.size + 1) (.int .i64 g) (.int .i64 16384) (.int .i64 0) (.int .i64 0) (.int .i64 16384) (.bool false) (.int .i64 a) (.int .i64 b) (.bool true) (.int .i64 0) (.int .i64 0) (hK3.heap HR3.out (by simp))
          have hKF := kput11v (w.heap.size + 1) (.int .i64 g) (.int .i64 16384) (.int .i64 0) (.int .i64 0) (.int .i64 16384) (.bool false) (.int .i64 a) (.int .i64 b) (.bool true) (.int .i64 0) (.int .i64 0) (((w3.setCell ⟨w.heap.size, 6, none⟩ (.int .i64 a)).setCell ⟨w.heap.size, 7, none⟩ (.int .i64 b)).setCell ⟨w.heap.size, 8, none⟩ (.bool true))
          have H8 := H7.out.kp hK3 (by simp; omega) (by simp; exact fun e => by have := HV.out _ e; omega)
          have hkw4 := hkw3.trans' hK3 (fun t ht => by simp at ht; subst ht; exact .inr (Nat.le_refl _))
          clear hK3
          generalize (((w3.setCell ⟨w.heap.size, 6, none⟩ (.int .i64 a)).setCell ⟨w.heap.size, 7, none⟩ (.int .i64 b)).setCell ⟨w.heap.size, 8, none⟩ (.bool true)) = w3' at *
          generalize (((((((((((w3'.setCell ⟨w.heap.size + 1, 0, none⟩ (.int .i64 g)).setCell ⟨w.heap.size + 1, 1, none⟩ (.int .i64 16384)).setCell ⟨w.heap.size + 1, 2, none⟩ (.int .i64 0)).setCell ⟨w.heap.size + 1, 3, none⟩ (.int .i64 0)).setCell ⟨w.heap.size + 1, 4, none⟩ (.int .i64 16384)).setCell ⟨w.heap.size + 1, 5, none⟩ (.bool false)).setCell ⟨w.heap.size + 1, 6, none⟩ (.int .i64 a)).setCell ⟨w.heap.size + 1, 7, none⟩ (.int .i64 b)).setCell ⟨w.heap.size + 1, 8, none⟩ (.bool true)).setCell ⟨w.heap.size + 1, 9, none⟩ (.int .i64 0)).setCell ⟨w.heap.size + 1, 10, none⟩ (.int .i64 0)) = W9 at *
          have d0 : W9.cell? ⟨w.heap.size + 1, 0, none⟩ = some (.int .i64 g) := by rw [cell_of_row W9 (w.heap.size + 1) 0 _ _ _ hHF]; rfl
          have d1 : W9.cell? ⟨w.heap.size + 1, 1, none⟩ = some (.int .i64 16384) := by rw [cell_of_row W9 (w.heap.size + 1) 1 _ _ _ hHF]; rfl
          have d2 : W9.cell? ⟨w.heap.size + 1, 2, none⟩ = some (.int .i64 0) := by rw [cell_of_row W9 (w.heap.size + 1) 2 _ _ _ hHF]; rfl
          have d3 : W9.cell? ⟨w.heap.size + 1, 3, none⟩ = some (.int .i64 0) := by rw [cell_of_row W9 (w.heap.size + 1) 3 _ _ _ hHF]; rfl
          have d4 : W9.cell? ⟨w.heap.size + 1, 4, none⟩ = some (.int .i64 16384) := by rw [cell_of_row W9 (w.heap.size + 1) 4 _ _ _ hHF]; rfl
          have d5 : W9.cell? ⟨w.heap.size + 1, 5, none⟩ = some (.bool false) := by rw [cell_of_row W9 (w.heap.size + 1) 5 _ _ _ hHF]; rfl
          have d6 : W9.cell? ⟨w.heap.size + 1, 6, none⟩ = some (.int .i64 a) := by rw [cell_of_row W9 (w.heap.size + 1) 6 _ _ _ hHF]; rfl
          have d7 : W9.cell? ⟨w.heap.size + 1, 7, none⟩ = some (.int .i64 b) := by rw [cell_of_row W9 (w.heap.size + 1) 7 _ _ _ hHF]; rfl
          have d8 : W9.cell? ⟨w.heap.size + 1, 8, none⟩ = some (.bool true) := by rw [cell_of_row W9 (w.heap.size + 1) 8 _ _ _ hHF]; rfl
          have d9 : W9.cell? ⟨w.heap.size + 1, 9, none⟩ = some (.int .i64 0) := by rw [cell_of_row W9 (w.heap.size + 1) 9 _ _ _ hHF]; rfl
          have d10 : W9.cell? ⟨w.heap.size + 1, 10, none⟩ = some (.int .i64 0) := by rw [cell_of_row W9 (w.heap.size + 1) 10 _ _ _ hHF]; rfl
          refine bodyPost_ret (v := .agg #[.int .i64 g, .int .i64 16384, .int .i64 0, .int .i64 0, .int .i64 16384, .bool false, .int .i64 a, .int .i64 b, .bool true, .int .i64 0, .int .i64 0]) (by simp [results, Try.results114, go_sem, d0, d1, d2, d3, d4, d5, d6, d7, d8, d9, d10]) rfl ⟨by rw [HA.out]; rfl, H8.kp hKF (by simp; omega) (by simp; exact fun e => by have := HV.out _ e; omega), hkw4.trans' hKF (fun t ht => by simp at ht; subst ht; exact .inr (by omega))⟩
        · have g2 : (bits .and .i64 f 4096 == 0) = false := by simpa using h2
          rw [decide_eq_false h2] at HA
          clear h2
          go_wp2_with fail
          clear c0 f0 z0 y0 c1 f1 z1 y1 c2 f2 z2 y2 c3 f3 z3 y3 c4 f4 z4 y4 c5 f5 z5 y5 c6 f6 z6 y6 c7 f7 z7 y7 c8 f8 z8 y8 c9 f9 z9 y9 c10 f10 z10 y10
          have hK3 : Kp [w.heap.size] w3 (((w3.setCell ⟨w.heap.size, 6, none⟩ (.int .i64 a)).setCell ⟨w.heap.size, 7, none⟩ (.int .i64 b)).setCell ⟨w.heap.size, 8, none⟩ (.bool false)) := by
            repeat (refine Kp.setCell ?_ (.inl (by simp)) _)
            exact Kp.refl _ _
          have hHF := put11v (w.heap.size + 1) (.int .i64 g) (.int .i64 16384) (.int .i64 0) (.int .i64 0) (.int .i64 16384) (.bool false) (.int .i64 a) (.int .i64 b) (.bool false) (.int .i64 0) (.int .i64 0) (hK3.heap HR3.out (by simp))
          have hKF := kput11v (w.heap.size + 1) (.int .i64 g) (.int .i64 16384) (.int .i64 0) (.int .i64 0) (.int .i64 16384) (.bool false) (.int .i64 a) (.int .i64 b) (.bool false) (.int .i64 0) (.int .i64 0) (((w3.setCell ⟨w.heap.size, 6, none⟩ (.int .i64 a)).setCell ⟨w.heap.size, 7, none⟩ (.int .i64 b)).setCell ⟨w.heap.size, 8, none⟩ (.bool false))
          have H8 := H7.out.kp hK3 (by simp; omega) (by simp; exact fun e => by have := HV.out _ e; omega)
          have hkw4 := hkw3.trans' hK3 (fun t ht => by simp at ht; subst ht; exact .inr (Nat.le_refl _))
          clear hK3
          generalize (((w3.setCell ⟨w.heap.size, 6, none⟩ (.int .i64 a)).setCell ⟨w.heap.size, 7, none⟩ (.int .i64 b)).setCell ⟨w.heap.size, 8, none⟩ (.bool false)) = w3' at *
          generalize (((((((((((w3'.setCell ⟨w.heap.size + 1, 0, none⟩ (.int .i64 g)).setCell ⟨w.heap.size + 1, 1, none⟩ (.int .i64 16384)).setCell ⟨w.heap.size + 1, 2, none⟩ (.int .i64 0)).setCell ⟨w.heap.size + 1, 3, none⟩ (.int .i64 0)).setCell ⟨w.heap.size + 1, 4, none⟩ (.int .i64 16384)).setCell ⟨w.heap.size + 1, 5, none⟩ (.bool false)).setCell ⟨w.heap.size + 1, 6, none⟩ (.int .i64 a)).setCell ⟨w.heap.size + 1, 7, none⟩ (.int .i64 b)).setCell ⟨w.heap.size + 1, 8, none⟩ (.bool false)).setCell ⟨w.heap.size + 1, 9, none⟩ (.int .i64 0)).setCell ⟨w.heap.size + 1, 10, none⟩ (.int .i64 0)) = W9 at *
          have d0 : W9.cell? ⟨w.heap.size + 1, 0, none⟩ = some (.int .i64 g) := by rw [cell_of_row W9 (w.heap.size + 1) 0 _ _ _ hHF]; rfl
          have d1 : W9.cell? ⟨w.heap.size + 1, 1, none⟩ = some (.int .i64 16384) := by rw [cell_of_row W9 (w.heap.size + 1) 1 _ _ _ hHF]; rfl
          have d2 : W9.cell? ⟨w.heap.size + 1, 2, none⟩ = some (.int .i64 0) := by rw [cell_of_row W9 (w.heap.size + 1) 2 _ _ _ hHF]; rfl
          have d3 : W9.cell? ⟨w.heap.size + 1, 3, none⟩ = some (.int .i64 0) := by rw [cell_of_row W9 (w.heap.size + 1) 3 _ _ _ hHF]; rfl
          have d4 : W9.cell? ⟨w.heap.size + 1, 4, none⟩ = some (.int .i64 16384) := by rw [cell_of_row W9 (w.heap.size + 1) 4 _ _ _ hHF]; rfl
          have d5 : W9.cell? ⟨w.heap.size + 1, 5, none⟩ = some (.bool false) := by rw [cell_of_row W9 (w.heap.size + 1) 5 _ _ _ hHF]; rfl
          have d6 : W9.cell? ⟨w.heap.size + 1, 6, none⟩ = some (.int .i64 a) := by rw [cell_of_row W9 (w.heap.size + 1) 6 _ _ _ hHF]; rfl
          have d7 : W9.cell? ⟨w.heap.size + 1, 7, none⟩ = some (.int .i64 b) := by rw [cell_of_row W9 (w.heap.size + 1) 7 _ _ _ hHF]; rfl
          have d8 : W9.cell? ⟨w.heap.size + 1, 8, none⟩ = some (.bool false) := by rw [cell_of_row W9 (w.heap.size + 1) 8 _ _ _ hHF]; rfl
          have d9 : W9.cell? ⟨w.heap.size + 1, 9, none⟩ = some (.int .i64 0) := by rw [cell_of_row W9 (w.heap.size + 1) 9 _ _ _ hHF]; rfl
          have d10 : W9.cell? ⟨w.heap.size + 1, 10, none⟩ = some (.int .i64 0) := by rw [cell_of_row W9 (w.heap.size + 1) 10 _ _ _ hHF]; rfl
          refine bodyPost_ret (v := .agg #[.int .i64 g, .int .i64 16384, .int .i64 0, .int .i64 0, .int .i64 16384, .bool false, .int .i64 a, .int .i64 b, .bool false, .int .i64 0, .int .i64 0]) (by simp [results, Try.results114, go_sem, d0, d1, d2, d3, d4, d5, d6, d7, d8, d9, d10]) rfl ⟨by rw [HA.out]; rfl, H8.kp hKF (by simp; omega) (by simp; exact fun e => by have := HV.out _ e; omega), hkw4.trans' hKF (fun t ht => by simp at ht; subst ht; exact .inr (by omega))⟩
  · have e0 : argN 3 = 2 := rfl
    rw [e0]
    rw [show argV 3 (val zs 2 t) = s16 (val zs 2 t) from rfl, show argV 3 (val zs 2 (stp zs 2 t)) = s16 (val zs 2 (stp zs 2 t)) from rfl]
    generalize hy1 : s16 (val zs 2 t) = a at *
    generalize hy2 : s16 (val zs 2 (stp zs 2 t)) = b at *
    have HY1 := Lib.hid hy1
    have HY2 := Lib.hid hy2
    clear hy1 hy2
    go_enter Try.func114, Try.ntmps114
    have hkA : Kp [r] w ((w.alloc (.cells #[.int .i64 g, .int .i64 16384, .int .i64 0, .int .i64 0, .int .i64 16384, .bool false, .int .i64 0, .int .i64 0, .bool false, .int .i64 0, .int .i64 0] 36)).alloc (.cells #[.int .i64 0, .int .i64 0, .int .i64 0, .int .i64 0, .int .i64 0, .bool false, .int .i64 0, .int .i64 0, .bool false, .int .i64 0, .int .i64 0] 36)) := ((Kp.refl _ _).alloc _).alloc _
    have hBx := heap_alloc_new w (.cells #[.int .i64 g, .int .i64 16384, .int .i64 0, .int .i64 0, .int .i64 16384, .bool false, .int .i64 0, .int .i64 0, .bool false, .int .i64 0, .int .i64 0] 36)
    have hBx := ((Kp.refl [] _).alloc (.cells #[.int .i64 0, .int .i64 0, .int .i64 0, .int .i64 0, .int .i64 0, .bool false, .int .i64 0, .int .i64 0, .bool false, .int .i64 0, .int .i64 0] 36)).heap hBx (by simp)
    have hRs := heap_alloc_new (w.alloc (.cells #[.int .i64 g, .int .i64 16384, .int .i64 0, .int .i64 0, .int .i64 16384, .bool false, .int .i64 0, .int .i64 0, .bool false, .int .i64 0, .int .i64 0] 36)) (.cells #[.int .i64 0, .int .i64 0, .int .i64 0, .int .i64 0, .int .i64 0, .bool false, .int .i64 0, .int .i64 0, .bool false, .int .i64 0, .int .i64 0] 36)
    rw [show (w.alloc (.cells #[.int .i64 g, .int .i64 16384, .int .i64 0, .int .i64 0, .int .i64 16384, .bool false, .int .i64 0, .int .i64 0, .bool false, .int .i64 0, .int .i64 0] 36)).heap.size = w.heap.size + 1 by simp] at hRs
    have H1 := Lib.hid (H.out.kp0 (((Kp.refl [] w).alloc (.cells #[.int .i64 g, .int .i64 16384, .int .i64 0, .int .i64 0, .int .i64 16384, .bool false, .int .i64 0, .int .i64 0, .bool false, .int .i64 0, .int .i64 0] 36)).alloc (.cells #[.int .i64 0, .int .i64 0, .int .i64 0, .int .i64 0, .int .i64 0, .bool false, .int .i64 0, .int .i64 0, .bool false, .int .i64 0, .int .i64 0] 36)))
    go_wp2_with fail
    generalize (w.alloc (.cells #[.int .i64 g, .int .i64 16384, .int .i64 0, .int .i64 0, .int .i64 16384, .bool false, .int .i64 0, .int .i64 0, .bool false, .int .i64 0, .int .i64 0] 36)).alloc (.cells #[.int .i64 0, .int .i64 0, .int .i64 0, .int .i64 0, .int .i64 0, .bool false, .int .i64 0, .int .i64 0, .bool false, .int .i64 0, .int .i64 0] 36) = w1 at *
    refine (ri16S H1.out).mono ?_; rintro e w2 ⟨rfl, h2, hk2⟩
    rw [HY1.out]
    have H2 := Lib.hid h2
    have HB2 := Lib.hid (hk2.heap hBx (by simp; omega))
    have HR2 := Lib.hid (hk2.heap hRs (by simp; omega))
    have hkw2 := hkA.trans hk2
    clear h2 hk2 hkA hBx hRs
    go_wp2_with fail
    refine (ri16S H2.out).mono ?_; rintro e w3 ⟨rfl, h3, hk3⟩
    rw [HY2.out]
    have H7 := Lib.hid h3
    have HB3 := Lib.hid (hk3.heap HB2.out (by simp; omega))
    have HR3 := Lib.hid (hk3.heap HR2.out (by simp; omega))
    have hkw3 := hkw2.trans hk3
    clear h3 hk3 hkw2
    have c0 : w3.cell? ⟨w.heap.size, 0, none⟩ = some (.int .i64 g) := by rw [cell_of_row w3 w.heap.size 0 _ _ _ HB3.out]; rfl
    have f0 := frozen_of_row w3 w.heap.size 0 _ _ HB3.out
    have z0 : w3.cell? ⟨w.heap.size + 1, 0, none⟩ = some (.int .i64 0) := by rw [cell_of_row w3 (w.heap.size + 1) 0 _ _ _ HR3.out]; rfl
    have y0 := frozen_of_row w3 (w.heap.size + 1) 0 _ _ HR3.out
    have c1 : w3.cell? ⟨w.heap.size, 1, none⟩ = some (.int .i64 16384) := by rw [cell_of_row w3 w.heap.size 1 _ _ _ HB3.out]; rfl
    have f1 := frozen_of_row w3 w.heap.size 1 _ _ HB3.out
    have z1 : w3.cell? ⟨w.heap.size + 1, 1, none⟩ = some (.int .i64 0) := by rw [cell_of_row w3 (w.heap.size + 1) 1 _ _ _ HR3.out]; rfl
    have y1 := frozen_of_row w3 (w.heap.size + 1) 1 _ _ HR3.out
    have c2 : w3.cell? ⟨w.heap.size, 2, none⟩ = some (.int .i64 0) := by rw [cell_of_row w3 w.heap.size 2 _ _ _ HB3.out]; rfl
    have f2 := frozen_of_row w3 w.heap.size 2 _ _ HB3.out
    have z2 : w3.cell? ⟨w.heap.size + 1, 2, none⟩ = some (.int .i64 0) := by rw [cell_of_row w3 (w.heap.size + 1) 2 _ _ _ HR3.out]; rfl
    have y2 := frozen_of_row w3 (w.heap.size + 1) 2 _ _ HR3.out
    have c3 : w3.cell? ⟨w.heap.size, 3, none⟩ = some (.int .i64 0) := by rw [cell_of_row w3 w.heap.size 3 _ _ _ HB3.out]; rfl
    have f3 := frozen_of_row w3 w.heap.size 3 _ _ HB3.out
    have z3 : w3.cell? ⟨w.heap.size + 1, 3, none⟩ = some (.int .i64 0) := by rw [cell_of_row w3 (w.heap.size + 1) 3 _ _ _ HR3.out]; rfl
    have y3 := frozen_of_row w3 (w.heap.size + 1) 3 _ _ HR3.out
    have c4 : w3.cell? ⟨w.heap.size, 4, none⟩ = some (.int .i64 16384) := by rw [cell_of_row w3 w.heap.size 4 _ _ _ HB3.out]; rfl
    have f4 := frozen_of_row w3 w.heap.size 4 _ _ HB3.out
    have z4 : w3.cell? ⟨w.heap.size + 1, 4, none⟩ = some (.int .i64 0) := by rw [cell_of_row w3 (w.heap.size + 1) 4 _ _ _ HR3.out]; rfl
    have y4 := frozen_of_row w3 (w.heap.size + 1) 4 _ _ HR3.out
    have c5 : w3.cell? ⟨w.heap.size, 5, none⟩ = some (.bool false) := by rw [cell_of_row w3 w.heap.size 5 _ _ _ HB3.out]; rfl
    have f5 := frozen_of_row w3 w.heap.size 5 _ _ HB3.out
    have z5 : w3.cell? ⟨w.heap.size + 1, 5, none⟩ = some (.bool false) := by rw [cell_of_row w3 (w.heap.size + 1) 5 _ _ _ HR3.out]; rfl
    have y5 := frozen_of_row w3 (w.heap.size + 1) 5 _ _ HR3.out
    have c6 : w3.cell? ⟨w.heap.size, 6, none⟩ = some (.int .i64 0) := by rw [cell_of_row w3 w.heap.size 6 _ _ _ HB3.out]; rfl
    have f6 := frozen_of_row w3 w.heap.size 6 _ _ HB3.out
    have z6 : w3.cell? ⟨w.heap.size + 1, 6, none⟩ = some (.int .i64 0) := by rw [cell_of_row w3 (w.heap.size + 1) 6 _ _ _ HR3.out]; rfl
    have y6 := frozen_of_row w3 (w.heap.size + 1) 6 _ _ HR3.out
    have c7 : w3.cell? ⟨w.heap.size, 7, none⟩ = some (.int .i64 0) := by rw [cell_of_row w3 w.heap.size 7 _ _ _ HB3.out]; rfl
    have f7 := frozen_of_row w3 w.heap.size 7 _ _ HB3.out
    have z7 : w3.cell? ⟨w.heap.size + 1, 7, none⟩ = some (.int .i64 0) := by rw [cell_of_row w3 (w.heap.size + 1) 7 _ _ _ HR3.out]; rfl
    have y7 := frozen_of_row w3 (w.heap.size + 1) 7 _ _ HR3.out
    have c8 : w3.cell? ⟨w.heap.size, 8, none⟩ = some (.bool false) := by rw [cell_of_row w3 w.heap.size 8 _ _ _ HB3.out]; rfl
    have f8 := frozen_of_row w3 w.heap.size 8 _ _ HB3.out
    have z8 : w3.cell? ⟨w.heap.size + 1, 8, none⟩ = some (.bool false) := by rw [cell_of_row w3 (w.heap.size + 1) 8 _ _ _ HR3.out]; rfl
    have y8 := frozen_of_row w3 (w.heap.size + 1) 8 _ _ HR3.out
    have c9 : w3.cell? ⟨w.heap.size, 9, none⟩ = some (.int .i64 0) := by rw [cell_of_row w3 w.heap.size 9 _ _ _ HB3.out]; rfl
    have f9 := frozen_of_row w3 w.heap.size 9 _ _ HB3.out
    have z9 : w3.cell? ⟨w.heap.size + 1, 9, none⟩ = some (.int .i64 0) := by rw [cell_of_row w3 (w.heap.size + 1) 9 _ _ _ HR3.out]; rfl
    have y9 := frozen_of_row w3 (w.heap.size + 1) 9 _ _ HR3.out
    have c10 : w3.cell? ⟨w.heap.size, 10, none⟩ = some (.int .i64 0) := by rw [cell_of_row w3 w.heap.size 10 _ _ _ HB3.out]; rfl
    have f10 := frozen_of_row w3 w.heap.size 10 _ _ HB3.out
    have z10 : w3.cell? ⟨w.heap.size + 1, 10, none⟩ = some (.int .i64 0) := by rw [cell_of_row w3 (w.heap.size + 1) 10 _ _ _ HR3.out]; rfl
    have y10 := frozen_of_row w3 (w.heap.size + 1) 10 _ _ HR3.out
    by_cases hS : bits .and .i64 f 2 = 0
    · have hs : (bits .and .i64 f 2 == 0) = true := by simpa using hS
      have HA : Hid (argsM f g a b = ⟨g, 16384, 0, 0, 16384, true, 0, 0, false, a, b⟩) := by show _ = _; unfold argsM; rw [if_neg (by unfold stepB; simpa using hS)]
      clear hS
      go_wp2_with fail
      clear c0 f0 z0 y0 c1 f1 z1 y1 c2 f2 z2 y2 c3 f3 z3 y3 c4 f4 z4 y4 c5 f5 z5 y5 c6 f6 z6 y6 c7 f7 z7 y7 c8 f8 z8 y8 c9 f9 z9 y9 c10 f10 z10 y10
      have hK3 : Kp [w.heap.size] w3 (((w3.setCell ⟨w.heap.size, 5, none⟩ (.bool true)).setCell ⟨w.heap.size, 9, none⟩ (.int .i64 a)).setCell ⟨w.heap.size, 10, none⟩ (.int .i64 b)) := by
        repeat (refine Kp.setCell ?_ (.inl (by simp)) _)
        exact Kp.refl _ _
      have hHF := put11v (w.heap.size + 1) (.int .i64 g) (.int .i64 16384) (.int .i64 0) (.int .i64 0) (.int .i64 16384) (.bool true) (.int .i64 0) (.int .i64 0) (.bool false) (.int .i64 a) (.int .i64 b) (hK3.heap HR3.out (by simp))
      have hKF := kput11v (w.heap.size + 1) (.int .i64 g) (.int .i64 16384) (.int .i64 0) (.int .i64 0) (.int .i64 16384) (.bool true) (.int .i64 0) (.int .i64 0) (.bool false) (.int .i64 a) (.int .i64 b) (((w3.setCell ⟨w.heap.size, 5, none⟩ (.bool true)).setCell ⟨w.heap.size, 9, none⟩ (.int .i64 a)).setCell ⟨w.heap.size, 10, none⟩ (.int .i64 b))
      have H8 := H7.out.kp hK3 (by simp; omega) (by simp; exact fun e => by have := HV.out _ e; omega)
      have hkw4 := hkw3.trans' hK3 (fun t ht => by simp at ht; subst ht; exact .inr (Nat.le_refl _))
      clear hK3
      generalize (((w3.setCell ⟨w.heap.size, 5, none⟩ (.bool true)).setCell ⟨w.heap.size, 9, none⟩ (.int .i64 a)).setCell ⟨w.heap.size, 10, none⟩ (.int .i64 b)) = w3' at *
      generalize (((((((((((w3'.setCell ⟨w.heap.size + 1, 0, none⟩ (.int .i64 g)).setCell ⟨w.heap.size + 1, 1, none⟩ (.int .i64 16384)).setCell ⟨w.heap.size + 1, 2, none⟩ (.int .i64 0)).setCell ⟨w.heap.size + 1, 3, none⟩ (.int .i64 0)).setCell ⟨w.heap.size + 1, 4, none⟩ (.int .i64 16384)).setCell ⟨w.heap.size + 1, 5, none⟩ (.bool true)).setCell ⟨w.heap.size + 1, 6, none⟩ (.int .i64 0)).setCell ⟨w.heap.size + 1, 7, none⟩ (.int .i64 0)).setCell ⟨w.heap.size + 1, 8, none⟩ (.bool false)).setCell ⟨w.heap.size + 1, 9, none⟩ (.int .i64 a)).setCell ⟨w.heap.size + 1, 10, none⟩ (.int .i64 b)) = W9 at *
      have d0 : W9.cell? ⟨w.heap.size + 1, 0, none⟩ = some (.int .i64 g) := by rw [cell_of_row W9 (w.heap.size + 1) 0 _ _ _ hHF]; rfl
      have d1 : W9.cell? ⟨w.heap.size + 1, 1, none⟩ = some (.int .i64 16384) := by rw [cell_of_row W9 (w.heap.size + 1) 1 _ _ _ hHF]; rfl
      have d2 : W9.cell? ⟨w.heap.size + 1, 2, none⟩ = some (.int .i64 0) := by rw [cell_of_row W9 (w.heap.size + 1) 2 _ _ _ hHF]; rfl
      have d3 : W9.cell? ⟨w.heap.size + 1, 3, none⟩ = some (.int .i64 0) := by rw [cell_of_row W9 (w.heap.size + 1) 3 _ _ _ hHF]; rfl
      have d4 : W9.cell? ⟨w.heap.size + 1, 4, none⟩ = some (.int .i64 16384) := by rw [cell_of_row W9 (w.heap.size + 1) 4 _ _ _ hHF]; rfl
      have d5 : W9.cell? ⟨w.heap.size + 1, 5, none⟩ = some (.bool true) := by rw [cell_of_row W9 (w.heap.size + 1) 5 _ _ _ hHF]; rfl
      have d6 : W9.cell? ⟨w.heap.size + 1, 6, none⟩ = some (.int .i64 0) := by rw [cell_of_row W9 (w.heap.size + 1) 6 _ _ _ hHF]; rfl
      have d7 : W9.cell? ⟨w.heap.size + 1, 7, none⟩ = some (.int .i64 0) := by rw [cell_of_row W9 (w.heap.size + 1) 7 _ _ _ hHF]; rfl
      have d8 : W9.cell? ⟨w.heap.size + 1, 8, none⟩ = some (.bool false) := by rw [cell_of_row W9 (w.heap.size + 1) 8 _ _ _ hHF]; rfl
      have d9 : W9.cell? ⟨w.heap.size + 1, 9, none⟩ = some (.int .i64 a) := by rw [cell_of_row W9 (w.heap.size + 1) 9 _ _ _ hHF]; rfl
      have d10 : W9.cell? ⟨w.heap.size + 1, 10, none⟩ = some (.int .i64 b) := by rw [cell_of_row W9 (w.heap.size + 1) 10 _ _ _ hHF]; rfl
      refine bodyPost_ret (v := .agg #[.int .i64 g, .int .i64 16384, .int .i64 0, .int .i64 0, .int .i64 16384, .bool true, .int .i64 0, .int .i64 0, .bool false, .int .i64 a, .int .i64 b]) (by simp [results, Try.results114, go_sem, d0, d1, d2, d3, d4, d5, d6, d7, d8, d9, d10]) rfl ⟨by rw [HA.out]; rfl, H8.kp hKF (by simp; omega) (by simp; exact fun e => by have := HV.out _ e; omega), hkw4.trans' hKF (fun t ht => by simp at ht; subst ht; exact .inr (by omega))⟩
    · have hs : (bits .and .i64 f 2 == 0) = false := by simpa using hS
      have HA : Hid (argsM f g a b = ⟨g, 16384, 0, 0, 16384, false, a, b, decide (bits .and .i64 f 2048 ≠ 0) && decide (bits .and .i64 f 4096 = 0), 0, 0⟩) := by show _ = _; unfold argsM; rw [if_pos (by unfold stepB; simpa using hS), HT.out]
      clear hS
      by_cases h1 : bits .and .i64 f 2048 = 0
      · have g1 : (bits .and .i64 f 2048 != 0) = false := by simpa using h1
        rw [decide_eq_false (fun e => e h1)] at HA
        clear h1
        go_wp2_with fail
        clear c0 f0 z0 y0 c1 f1 z1 y1 c2 f2 z2 y2 c3 f3 z3 y3 c4 f4 z4 y4 c5 f5 z5 y5 c6 f6 z6 y6 c7 f7 z7 y7 c8 f8 z8 y8 c9 f9 z9 y9 c10 f10 z10 y10
        have hK3 : Kp [w.heap.size] w3 (((w3.setCell ⟨w.heap.size, 6, none⟩ (.int .i64 a)).setCell ⟨w.heap.size, 7, none⟩ (.int .i64 b)).setCell ⟨w.heap.size, 8, none⟩ (.bool false)) := by
          repeat (refine Kp.setCell ?_ (.inl (by simp)) _)
          exact Kp.refl _ _
        have hHF := put11v (w.heap.size + 1) (.int .i64 g) (.int .i64 16384) (.int .i64 0) (.int .i64 0) (.int .i64 16384) (.bool false) (.int .i64 a) (.int .i64 b) (.bool false) (.int .i64 0) (.int .i64 0) (hK3.heap HR3.out (by simp))
        have hKF := kput11v (w.heap.size + 1) (.int .i64 g) (.int .i64 16384) (.int .i64 0) (.int .i64 0) (.int .i64 16384) (.bool false) (.int .i64 a) (.int .i64 b) (.bool false) (.int .i64 0) (.int .i64 0) (((w3.setCell ⟨w.heap.size, 6, none⟩ (.int .i64 a)).setCell ⟨w.heap.size, 7, none⟩ (.int .i64 b)).setCell ⟨w.heap.size, 8, none⟩ (.bool false))
        have H8 := H7.out.kp hK3 (by simp; omega) (by simp; exact fun e => by have := HV.out _ e; omega)
        have hkw4 := hkw3.trans' hK3 (fun t ht => by simp at ht; subst ht; exact .inr (Nat.le_refl _))
        clear hK3
        generalize (((w3.setCell ⟨w.heap.size, 6, none⟩ (.int .i64 a)).setCell ⟨w.heap.size, 7, none⟩ (.int .i64 b)).setCell ⟨w.heap.size, 8, none⟩ (.bool false)) = w3' at *
        generalize (((((((((((w3'.setCell ⟨w.heap.size + 1, 0, none⟩ (.int .i64 g)).setCell ⟨w.heap.size + 1, 1, none⟩ (.int .i64 16384)).setCell ⟨w.heap.size + 1, 2, none⟩ (.int .i64 0)).setCell ⟨w.heap.size + 1, 3, none⟩ (.int .i64 0)).setCell ⟨w.heap.size + 1, 4, none⟩ (.int .i64 16384)).setCell ⟨w.heap.size + 1, 5, none⟩ (.bool false)).setCell ⟨w.heap.size + 1, 6, none⟩ (.int .i64 a)).setCell ⟨w.heap.size + 1, 7, none⟩ (.int .i64 b)).setCell ⟨w.heap.size + 1, 8, none⟩ (.bool false)).setCell ⟨w.heap.size + 1, 9, none⟩ (.int .i64 0)).setCell ⟨w.heap.size + 1, 10, none⟩ (.int .i64 0)) = W9 at *
        have d0 : W9.cell? ⟨w.heap.size + 1, 0, none⟩ = some (.int .i64 g) := by rw [cell_of_row W9 (w.heap.size + 1) 0 _ _ _ hHF]; rfl
        have d1 : W9.cell? ⟨w.heap.size + 1, 1, none⟩ = some (.int .i64 16384) := by rw [cell_of_row W9 (w.heap.size + 1) 1 _ _ _ hHF]; rfl
        have d2 : W9.cell? ⟨w.heap.size + 1, 2, none⟩ = some (.int .i64 0) := by rw [cell_of_row W9 (w.heap.size + 1) 2 _ _ _ hHF]; rfl
        have d3 : W9.cell? ⟨w.heap.size + 1, 3, none⟩ = some (.int .i64 0) := by rw [cell_of_row W9 (w.heap.size + 1) 3 _ _ _ hHF]; rfl
        have d4 : W9.cell? ⟨w.heap.size + 1, 4, none⟩ = some (.int .i64 16384) := by rw [cell_of_row W9 (w.heap.size + 1) 4 _ _ _ hHF]; rfl
        have d5 : W9.cell? ⟨w.heap.size + 1, 5, none⟩ = some (.bool false) := by rw [cell_of_row W9 (w.heap.size + 1) 5 _ _ _ hHF]; rfl
        have d6 : W9.cell? ⟨w.heap.size + 1, 6, none⟩ = some (.int .i64 a) := by rw [cell_of_row W9 (w.heap.size + 1) 6 _ _ _ hHF]; rfl
        have d7 : W9.cell? ⟨w.heap.size + 1, 7, none⟩ = some (.int .i64 b) := by rw [cell_of_row W9 (w.heap.size + 1) 7 _ _ _ hHF]; rfl
        have d8 : W9.cell? ⟨w.heap.size + 1, 8, none⟩ = some (.bool false) := by rw [cell_of_row W9 (w.heap.size + 1) 8 _ _ _ hHF]; rfl
        have d9 : W9.cell? ⟨w.heap.size + 1, 9, none⟩ = some (.int .i64 0) := by rw [cell_of_row W9 (w.heap.size + 1) 9 _ _ _ hHF]; rfl
        have d10 : W9.cell? ⟨w.heap.size + 1, 10, none⟩ = some (.int .i64 0) := by rw [cell_of_row W9 (w.heap.size + 1) 10 _ _ _ hHF]; rfl
        refine bodyPost_ret (v := .agg #[.int .i64 g, .int .i64 16384, .int .i64 0, .int .i64 0, .int .i64 16384, .bool false, .int .i64 a, .int .i64 b, .bool false, .int .i64 0, .int .i64 0]) (by simp [results, Try.results114, go_sem, d0, d1, d2, d3, d4, d5, d6, d7, d8, d9, d10]) rfl ⟨by rw [HA.out]; rfl, H8.kp hKF (by simp; omega) (by simp; exact fun e => by have := HV.out _ e; omega), hkw4.trans' hKF (fun t ht => by simp at ht; subst ht; exact .inr (by omega))⟩
      · have g1 : (bits .and .i64 f 2048 != 0) = true := by simpa using h1
        rw [decide_eq_true h1] at HA
        clear h1
        by_cases h2 : bits .and .i64 f 4096 = 0
        · have g2 : (bits .and .i64 f 4096 == 0) = true := by simpa using h2
          rw [decide_eq_true h2] at HA
          clear h2
          go_wp2_with fail
          clear c0 f0 z0 y0 c1 f1 z1 y1 c2 f2 z2 y2 c3 f3 z3 y3 c4 f4 z4 y4 c5 f5 z5 y5 c6 f6 z6 y6 c7 f7 z7 y7 c8 f8 z8 y8 c9 f9 z9 y9 c10 f10 z10 y10
          have hK3 : Kp [w.heap.size] w3 (((w3.setCell ⟨w.heap.size, 6, none⟩ (.int .i64 a)).setCell ⟨w.heap.size, 7, none⟩ (.int .i64 b)).setCell ⟨w.heap.size, 8, none⟩ (.bool true)) := by
            repeat (refine Kp.setCell ?_ (.inl (by simp)) _)
            exact Kp.refl _ _
          have hHF := put11v (w.heap.size + 1) (.int .i64 g) (.int .i64 16384) (.int .i64 0) (.int .i64 0) (.int .i64 16384) (.bool false) (.int .i64 a) (.int .i64 b) (.bool true) (.int .i64 0) (.int .i64 0) (hK3.heap HR3.out (by simp))
          have hKF := kput11v (w.heap.size + 1) (.int .i64 g) (.int .i64 16384) (.int .i64 0) (.int .i64 0) (.int .i64 16384) (.bool false) (.int .i64 a) (.int .i64 b) (.bool true) (.int .i64 0) (.int .i64 0) (((w3.setCell ⟨w.heap.size, 6, none⟩ (.int .i64 a)).setCell ⟨w.heap.size, 7, none⟩ (.int .i64 b)).setCell ⟨w.heap.size, 8, none⟩ (.bool true))
          have H8 := H7.out.kp hK3 (by simp; omega) (by simp; exact fun e => by have := HV.out _ e; omega)
          have hkw4 := hkw3.trans' hK3 (fun t ht => by simp at ht; subst ht; exact .inr (Nat.le_refl _))
          clear hK3
          generalize (((w3.setCell ⟨w.heap.size, 6, none⟩ (.int .i64 a)).setCell ⟨w.heap.size, 7, none⟩ (.int .i64 b)).setCell ⟨w.heap.size, 8, none⟩ (.bool true)) = w3' at *
          generalize (((((((((((w3'.setCell ⟨w.heap.size + 1, 0, none⟩ (.int .i64 g)).setCell ⟨w.heap.size + 1, 1, none⟩ (.int .i64 16384)).setCell ⟨w.heap.size + 1, 2, none⟩ (.int .i64 0)).setCell ⟨w.heap.size + 1, 3, none⟩ (.int .i64 0)).setCell ⟨w.heap.size + 1, 4, none⟩ (.int .i64 16384)).setCell ⟨w.heap.size + 1, 5, none⟩ (.bool false)).setCell ⟨w.heap.size + 1, 6, none⟩ (.int .i64 a)).setCell ⟨w.heap.size + 1, 7, none⟩ (.int .i64 b)).setCell ⟨w.heap.size + 1, 8, none⟩ (.bool true)).setCell ⟨w.heap.size + 1, 9, none⟩ (.int .i64 0)).setCell ⟨w.heap.size + 1, 10, none⟩ (.int .i64 0)) = W9 at *
          have d0 : W9.cell? ⟨w.heap.size + 1, 0, none⟩ = some (.int .i64 g) := by rw [cell_of_row W9 (w.heap.size + 1) 0 _ _ _ hHF]; rfl
          have d1 : W9.cell? ⟨w.heap.size + 1, 1, none⟩ = some (.int .i64 16384) := by rw [cell_of_row W9 (w.heap.size + 1) 1 _ _ _ hHF]; rfl
          have d2 : W9.cell? ⟨w.heap.size + 1, 2, none⟩ = some (.int .i64 0) := by rw [cell_of_row W9 (w.heap.size + 1) 2 _ _ _ hHF]; rfl
          have d3 : W9.cell? ⟨w.heap.size + 1, 3, none⟩ = some (.int .i64 0) := by rw [cell_of_row W9 (w.heap.size + 1) 3 _ _ _ hHF]; rfl
          have d4 : W9.cell? ⟨w.heap.size + 1, 4, none⟩ = some (.int .i64 16384) := by rw [cell_of_row W9 (w.heap.size + 1) 4 _ _ _ hHF]; rfl
          have d5 : W9.cell? ⟨w.heap.size + 1, 5, none⟩ = some (.bool false) := by rw [cell_of_row W9 (w.heap.size + 1) 5 _ _ _ hHF]; rfl
          have d6 : W9.cell? ⟨w.heap.size + 1, 6, none⟩ = some (.int .i64 a) := by rw [cell_of_row W9 (w.heap.size + 1) 6 _ _ _ hHF]; rfl
          have d7 : W9.cell? ⟨w.heap.size + 1, 7, none⟩ = some (.int .i64 b) := by rw [cell_of_row W9 (w.heap.size + 1) 7 _ _ _ hHF]; rfl
          have d8 : W9.cell? ⟨w.heap.size + 1, 8, none⟩ = some (.bool true) := by rw [cell_of_row W9 (w.heap.size + 1) 8 _ _ _ hHF]; rfl
          have d9 : W9.cell? ⟨w.heap.size + 1, 9, none⟩ = some (.int .i64 0) := by rw [cell_of_row W9 (w.heap.size + 1) 9 _ _ _ hHF]; rfl
          have d10 : W9.cell? ⟨w.heap.size + 1, 10, none⟩ = some (.int .i64 0) := by rw [cell_of_row W9 (w.heap.size + 1) 10 _ _ _ hHF]; rfl
          refine bodyPost_ret (v := .agg #[.int .i64 g, .int .i64 16384, .int .i64 0, .int .i64 0, .int .i64 16384, .bool false, .int .i64 a, .int .i64 b, .bool true, .int .i64 0, .int .i64 0]) (by simp [results, Try.results114, go_sem, d0, d1, d2, d3, d4, d5, d6, d7, d8, d9, d10]) rfl ⟨by rw [HA.out]; rfl, H8.kp hKF (by simp; omega) (by simp; exact fun e => by have := HV.out _ e; omega), hkw4.trans' hKF (fun t ht => by simp at ht; subst ht; exact .inr (by omega))⟩
        · have g2 : (bits .and .i64 f 4096 == 0) = false := by simpa using h2
          rw [decide_eq_false h2] at HA
          clear h2
          go_wp2_with fail
          clear c0 f0 z0 y0 c1 f1 z1 y1 c2 f2 z2 y2 c3 f3 z3 y3 c4 f4 z4 y4 c5 f5 z5 y5 c6 f6 z6 y6 c7 f7 z7 y7 c8 f8 z8 y8 c9 f9 z9 y9 c10 f10 z10 y10
          have hK3 : Kp [w.heap.size] w3 (((w3.setCell ⟨w.heap.size, 6, none⟩ (.int .i64 a)).setCell ⟨w.heap.size, 7, none⟩ (.int .i64 b)).setCell ⟨w.heap.size, 8, none⟩ (.bool false)) := by
            repeat (refine Kp.setCell ?_ (.inl (by simp)) _)
            exact Kp.refl _ _
          have hHF := put11v (w.heap.size + 1) (.int .i64 g) (.int .i64 16384) (.int .i64 0) (.int .i64 0) (.int .i64 16384) (.bool false) (.int .i64 a) (.int .i64 b) (.bool false) (.int .i64 0) (.int .i64 0) (hK3.heap HR3.out (by simp))
          have hKF := kput11v (w.heap.size + 1) (.int .i64 g) (.int .i64 16384) (.int .i64 0) (.int .i64 0) (.int .i64 16384) (.bool false) (.int .i64 a) (.int .i64 b) (.bool false) (.int .i64 0) (.int .i64 0) (((w3.setCell ⟨w.heap.size, 6, none⟩ (.int .i64 a)).setCell ⟨w.heap.size, 7, none⟩ (.int .i64 b)).setCell ⟨w.heap.size, 8, none⟩ (.bool false))
          have H8 := H7.out.kp hK3 (by simp; omega) (by simp; exact fun e => by have := HV.out _ e; omega)
          have hkw4 := hkw3.trans' hK3 (fun t ht => by simp at ht; subst ht; exact .inr (Nat.le_refl _))
          clear hK3
          generalize (((w3.setCell ⟨w.heap.size, 6, none⟩ (.int .i64 a)).setCell ⟨w.heap.size, 7, none⟩ (.int .i64 b)).setCell ⟨w.heap.size, 8, none⟩ (.bool false)) = w3' at *
          generalize (((((((((((w3'.setCell ⟨w.heap.size + 1, 0, none⟩ (.int .i64 g)).setCell ⟨w.heap.size + 1, 1, none⟩ (.int .i64 16384)).setCell ⟨w.heap.size + 1, 2, none⟩ (.int .i64 0)).setCell ⟨w.heap.size + 1, 3, none⟩ (.int .i64 0)).setCell ⟨w.heap.size + 1, 4, none⟩ (.int .i64 16384)).setCell ⟨w.heap.size + 1, 5, none⟩ (.bool false)).setCell ⟨w.heap.size + 1, 6, none⟩ (.int .i64 a)).setCell ⟨w.heap.size + 1, 7, none⟩ (.int .i64 b)).setCell ⟨w.heap.size + 1, 8, none⟩ (.bool false)).setCell ⟨w.heap.size + 1, 9, none⟩ (.int .i64 0)).setCell ⟨w.heap.size + 1, 10, none⟩ (.int .i64 0)) = W9 at *
          have d0 : W9.cell? ⟨w.heap.size + 1, 0, none⟩ = some (.int .i64 g) := by rw [cell_of_row W9 (w.heap.size + 1) 0 _ _ _ hHF]; rfl
          have d1 : W9.cell? ⟨w.heap.size + 1, 1, none⟩ = some (.int .i64 16384) := by rw [cell_of_row W9 (w.heap.size + 1) 1 _ _ _ hHF]; rfl
          have d2 : W9.cell? ⟨w.heap.size + 1, 2, none⟩ = some (.int .i64 0) := by rw [cell_of_row W9 (w.heap.size + 1) 2 _ _ _ hHF]; rfl
          have d3 : W9.cell? ⟨w.heap.size + 1, 3, none⟩ = some (.int .i64 0) := by rw [cell_of_row W9 (w.heap.size + 1) 3 _ _ _ hHF]; rfl
          have d4 : W9.cell? ⟨w.heap.size + 1, 4, none⟩ = some (.int .i64 16384) := by rw [cell_of_row W9 (w.heap.size + 1) 4 _ _ _ hHF]; rfl
          have d5 : W9.cell? ⟨w.heap.size + 1, 5, none⟩ = some (.bool false) := by rw [cell_of_row W9 (w.heap.size + 1) 5 _ _ _ hHF]; rfl
          have d6 : W9.cell? ⟨w.heap.size + 1, 6, none⟩ = some (.int .i64 a) := by rw [cell_of_row W9 (w.heap.size + 1) 6 _ _ _ hHF]; rfl
          have d7 : W9.cell? ⟨w.heap.size + 1, 7, none⟩ = some (.int .i64 b) := by rw [cell_of_row W9 (w.heap.size + 1) 7 _ _ _ hHF]; rfl
          have d8 : W9.cell? ⟨w.heap.size + 1, 8, none⟩ = some (.bool false) := by rw [cell_of_row W9 (w.heap.size + 1) 8 _ _ _ hHF]; rfl
          have d9 : W9.cell? ⟨w.heap.size + 1, 9, none⟩ = some (.int .i64 0) := by rw [cell_of_row W9 (w.heap.size + 1) 9 _ _ _ hHF]; rfl
          have d10 : W9.cell? ⟨w.heap.size + 1, 10, none⟩ = some (.int .i64 0) := by rw [cell_of_row W9 (w.heap.size + 1) 10 _ _ _ hHF]; rfl
          refine bodyPost_ret (v := .agg #[.int .i64 g, .int .i64 16384, .int .i64 0, .int .i64 0, .int .i64 16384, .bool false, .int .i64 a, .int .i64 b, .bool false, .int .i64 0, .int .i64 0]) (by simp [results, Try.results114, go_sem, d0, d1, d2, d3, d4, d5, d6, d7, d8, d9, d10]) rfl ⟨by rw [HA.out]; rfl, H8.kp hKF (by simp; omega) (by simp; exact fun e => by have := HV.out _ e; omega), hkw4.trans' hKF (fun t ht => by simp at ht; subst ht; exact .inr (by omega))⟩
end Go.Proofs.Ytodjohoonbkklaa

/- The contracts of the reference of the layer wire: the reader. -/
import Derived.Test.YtodjohoonbkklaaWireB
import Derived.Test.YtodjohoonbkklaaApp
namespace Go.Proofs.Ytodjohoonbkklaa
open Go.RowKit
set_option linter.unusedVariables false
set_option linter.unusedSimpArgs false
theorem infoByte : (Try.prog.info? 5).map (fun i => (i.zero, i.size, i.bytes)) = some (some (.int .u8 0), 1, 1) := by kernel_rfl

/-- Block r is a reader of the reference over the bytes of v, at a place, bad or not. -/
def Rrd (w : World) (r : Nat) (v : Value) (at_ : Int) (bad : Bool) : Prop := w.heap[r]? = some (.cells #[v, .int .i64 at_, .bool bad] 79 (0, 0))
theorem Rrd.kp {S : List Nat} {w w' : World} {r : Nat} {v : Value} {k : Int} {bad : Bool} (h : Rrd w r v k bad) (hk : Kp S w w') (hr : r ∉ S) : Rrd w' r v k bad := hk.heap h hr
theorem Rrd.facts {w : World} {r : Nat} {v : Value} {k : Int} {bad : Bool} (h : Rrd w r v k bad) :
    w.cell? ⟨r, 0, none⟩ = some v ∧ w.cell? ⟨r, 1, none⟩ = some (.int .i64 k) ∧ w.cell? ⟨r, 2, none⟩ = some (.bool bad) ∧ w.frozen? ⟨r, 1, none⟩ = false ∧ w.frozen? ⟨r, 2, none⟩ = false :=
  ⟨by rw [cell_of_row w r 0 _ _ _ h]; rfl, by rw [cell_of_row w r 1 _ _ _ h]; rfl, by rw [cell_of_row w r 2 _ _ _ h]; rfl, frozen_of_row w r 1 _ _ h, frozen_of_row w r 2 _ _ h⟩
theorem Rrd.setAt {w : World} {r : Nat} {v : Value} {k : Int} {bad : Bool} (h : Rrd w r v k bad) (m : Int) : Rrd (w.setCell ⟨r, 1, none⟩ (.int .i64 m)) r v m bad := heap_setCell_same w r 1 _ _ _ h
theorem Rrd.setBad {w : World} {r : Nat} {v : Value} {k : Int} {bad : Bool} (h : Rrd w r v k bad) (m : Bool) : Rrd (w.setCell ⟨r, 2, none⟩ (.bool m)) r v k m := heap_setCell_same w r 2 _ _ _ h
theorem rtake_bad (r : Nat) (v : Value) (k n : Int) (w : World) (h : Rrd w r v k true) :
    Calls Try.prog 57 #[.pointer (some ⟨r, 0, none⟩), .int .i64 n] w fun e w' => e = .returned (.slice none 0 0) ∧ Rrd w' r v k true ∧ Kp [r] w w' := by
  obtain ⟨c0, c1, c2, f1, f2⟩ := h.facts
  go_enter Try.func57, Try.ntmps57
  go_wp2
  go_quiet (fail)
  go_wp2
  go_ret
  exact ⟨rfl, Rrd.setBad (by exact h) _, by (repeat (first | exact Kp.refl _ _ | assumption | refine Kp.drew ?_ | refine Kp.drewN ?_ _ | refine Kp.alloc ?_ _ | (refine Kp.setCell ?_ (by first | (left; simp; done) | (right; simp; try omega)) _) | (refine Kp.trans' ?_ (by assumption) (by simp; try omega))))⟩
theorem rtake_short (r : Nat) (a : Option Addr) (N c k : Nat) (n : Int) (w : World) (h : Rrd w r (.slice a N c) k false) (h1 : 0 ≤ n) (h2 : (N : Int) - k < n) (hN : N ≤ maxLen) (hk : k ≤ N) :
    Calls Try.prog 57 #[.pointer (some ⟨r, 0, none⟩), .int .i64 n] w fun e w' => e = .returned (.slice none 0 0) ∧ Rrd w' r (.slice a N c) k true ∧ Kp [r] w w' := by
  obtain ⟨c0, c1, c2, f1, f2⟩ := h.facts
  unfold maxLen at hN
  have hlt : decide (n < 0) = false := by simpa using h1
  go_enter Try.func57, Try.ntmps57
  go_wp2
  go_quiet (fail)
  go_wp2
  go_ret
  exact ⟨rfl, Rrd.setBad (by exact h) _, by (repeat (first | exact Kp.refl _ _ | assumption | refine Kp.drew ?_ | refine Kp.drewN ?_ _ | refine Kp.alloc ?_ _ | (refine Kp.setCell ?_ (by first | (left; simp; done) | (right; simp; try omega)) _) | (refine Kp.trans' ?_ (by assumption) (by simp; try omega))))⟩
theorem rtake_ok (r g off N c k m : Nat) (n : Int) (hn : n = m) (zs : List Int) (w : World) (h : Rrd w r (.slice (some ⟨g, off, none⟩) N c) k false) (h1 : 1 ≤ n) (h2 : n ≤ (N : Int) - k) (hN : N ≤ c) (hc : c ≤ maxLen)
    (hl : zs.length = m) (hz : ∀ i, i < m → w.cell? ⟨g, off + k + i, none⟩ = some (.int .u8 (zs.getD i 0))) (hm : m ≤ 4) (hg : g ≠ r) :
    Calls Try.prog 57 #[.pointer (some ⟨r, 0, none⟩), .int .i64 n] w fun e w' => ∃ v, e = .returned v ∧ IsInts .u8 w' v zs ∧ Rrd w' r (.slice (some ⟨g, off, none⟩) N c) ((k + m : Nat) : Int) false ∧ Kp [r] w w' ∧ (∀ b, blockOf v = some b → w.heap.size ≤ b) := by
  subst hn
  obtain ⟨c0, c1, c2, f1, f2⟩ := h.facts
  unfold maxLen at hc
  have hlt : decide ((m : Int) < 0) = false := by simp
  have hz2 : Hid _ := hz
  clear hz
  go_enter Try.func57, Try.ntmps57
  go_wp2
  go_quiet (fail)
  go_wp2_with fail
  go_quiet (fail)
  go_wp2_with (at_builtin; go_loud (refine wpList_app rfl _ _ 22 rfl w.heap.size 5 (.int .u8 0) 1 1 Try.underlying22 infoByte rfl (by decide) (by decide) (.slice (some ⟨w.heap.size, 0, none⟩) 0 0) 0 [] rfl ?hown (.slice (some ⟨g, off + k, none⟩) (k + m - k) (c - k)) (k + m - k) (zs.map (Value.int .u8)) rfl ?hsrc (oneCell_ints _ _) ?hb1 ?hb2 ?hk))
  case hown => exact own_empty _ _ _ _ _ (by simp) (by simp)
  case hb1 => omega
  case hb2 => simp
  case hsrc =>
    rw [show k + m - k = m by omega]
    refine Reads.kp (w := w) (S := [r]) ?_ (by (repeat (first | exact Kp.refl _ _ | assumption | refine Kp.drew ?_ | refine Kp.drewN ?_ _ | refine Kp.alloc ?_ _ | (refine Kp.setCell ?_ (by first | (left; simp; done) | (right; simp; try omega)) _) | (refine Kp.trans' ?_ (by assumption) (by simp; try omega))))) (by intro s hs e; simp [Value.ownBlock] at hs e; omega)
    refine ⟨by simp [hl], .inr ⟨g, off + k, _, rfl, by omega, by unfold maxLen; omega, fun j u hu => ?_⟩⟩
    rw [List.getElem?_map] at hu
    by_cases hj : j < m
    · rw [hz2.out j hj, List.getD_eq_getElem?_getD]
      rw [List.getElem?_eq_getElem (by omega)] at hu ⊢
      simpa using hu
    · rw [List.getElem?_eq_none (by omega)] at hu; simp at hu
  case hk =>
    intro v' w2 hown hgr
    go_wp2_with fail
    go_ret
    have hk2 : Kp [r] w w2 := Kp.grown (by (repeat (first | exact Kp.refl _ _ | assumption | refine Kp.drew ?_ | refine Kp.drewN ?_ _ | refine Kp.alloc ?_ _ | (refine Kp.setCell ?_ (by first | (left; simp; done) | (right; simp; try omega)) _) | (refine Kp.trans' ?_ (by assumption) (by simp; try omega))))) hgr (by intro k hk; right; simp [Value.ownBlock] at hk; omega)
    have hk3 := Kp.grown (S := []) ((Kp.refl [] _).alloc _) hgr (by intro k hk; right; simp [Value.ownBlock] at hk; simp; omega)
    refine ⟨v', rfl, IsInts.owned (by rw [← hl] at hown; exact hown), ?_, hk2, fun b hb => (hown.lt b (blockOf_own hb)).1⟩
    have := (Rrd.setAt (k := k) (bad := false) (v := (.slice (some ⟨g, off, none⟩) N c)) (by exact h) (k + m)).kp hk3 (by simp)
    simpa using this
theorem ru_zero (r : Nat) (n : Int) (w : World) (R : World → Prop)
    (ht : Calls Try.prog 57 #[.pointer (some ⟨r, 0, none⟩), .int .i64 n] w fun e w' => e = .returned (.slice none 0 0) ∧ R w') :
    Calls Try.prog 99 #[.pointer (some ⟨r, 0, none⟩), .int .i64 n] w fun e w' => e = .returned (.int .i64 0) ∧ R w' := by
  have H : Hid _ := ht
  clear ht
  go_enter Try.func99, Try.ntmps99
  go_wp2_with fail
  refine Calls.mono H.out ?_; rintro e w1 ⟨rfl, hr1⟩
  have hr2 : Hid (R w1) := hr1
  clear hr1
  go_wp2_with fail
  go_loop [5, 7] (fun x i => x = .int .i64 0 ∧ i = .int .i64 0) (fun _ i => 0)
  case atStart => exact ⟨rfl, rfl⟩
  case round =>
    obtain ⟨rfl, rfl⟩ := hrel
    go_wp2
    go_ret
    exact ⟨by simp, hr2⟩
theorem ru_ok (r : Nat) (v : Value) (zs : List Int) (k m : Nat) (n : Int) (hn : n = m) (w : World) (h : Rrd w r v k false) (hz : IsInts .u8 w v zs) (hb : ∀ c ∈ zs, 0 ≤ c ∧ c ≤ 255) (hr : blockOf v ≠ some r)
    (h1 : 1 ≤ m) (h4 : m ≤ 4) (h2 : k + m ≤ zs.length) :
    Calls Try.prog 99 #[.pointer (some ⟨r, 0, none⟩), .int .i64 n] w fun e w' => e = .returned (.int .i64 (beN (cutB zs k m))) ∧ Rrd w' r v ((k + m : Nat) : Int) false ∧ Kp [r] w w' := by
  have hl : (cutB zs k m).length = m := by simp [cutB]; omega
  rcases hz with ⟨⟨ad, rfl⟩, rfl⟩ | ⟨g, off, c, rfl, hN, hc, hcell⟩
  · simp at h2; omega
  · subst hn
    have hg : g ≠ r := fun e => hr ((blockOf_some _ _ _ _ _ _).2 ⟨by omega, e⟩)
    have hB : Hid _ := cutB_mem zs k m hb
    have hcl : Hid (∀ i, i < m → w.cell? ⟨g, off + k + i, none⟩ = some (.int .u8 ((cutB zs k m).getD i 0))) := fun i hi => by
      have := hcell (k + i) (by omega)
      rw [← Nat.add_assoc] at this
      rw [this]
      simp only [cutB, List.getD_eq_getElem?_getD, List.getElem?_take, if_pos hi, List.getElem?_drop]
    clear hb hr hcell
    generalize cutB zs k m = l at *
    go_enter Try.func99, Try.ntmps99
    go_wp2_with fail
    refine (rtake_ok r g off zs.length c k m m rfl l _ (by exact h) (by omega) (by omega) hN hc hl hcl.out h4 hg).mono ?_; rintro e w1 ⟨v, rfl, hz1, hr1, hk1, hv⟩
    have hfin : Hid (Rrd w1 r (.slice (some ⟨g, off, none⟩) zs.length c) ((k + m : Nat) : Int) false ∧ Kp [r] w w1) := ⟨hr1, hk1⟩
    clear hr1 hk1 hcl hv h
    rcases hz1 with ⟨⟨ad, rfl⟩, rfl⟩ | ⟨g1, off1, c1, rfl, hN1, hc1, hcell1⟩
    · simp at hl; omega
    · have hcell2 : Hid _ := hcell1
      clear hcell1
      subst hl
      go_wp2_with fail
      go_loop [5, 7] (fun x i => ∃ j : Nat, j ≤ l.length ∧ i = .int .i64 j ∧ x = .int .i64 (beN (l.take j))) (fun _ i => l.length - (intOf i).toNat)
      case atStart => exact ⟨0, by omega, rfl, by simp [beN]⟩
      case round =>
        obtain ⟨j, hj, rfl, rfl⟩ := hrel
        by_cases hlt : j < l.length
        · have hcl := hcell2.out j hlt
          have hs : l.take (j + 1) = l.take j ++ [l.getD j 0] := by
            rw [List.take_succ_eq_append_getElem hlt, List.getD_eq_getElem?_getD, List.getElem?_eq_getElem hlt]; rfl
          have hbn := beN_lt (l.take j) (fun c hc => hB.out c (List.mem_of_mem_take hc))
          have hll : (l.take j).length = j := by simp; omega
          rw [hll] at hbn
          have hp := pow256_le j (by omega)
          obtain ⟨z0, z1⟩ := getD_mem_bounds l j hB.out
          have hs2 : Hid (beN (l.take (j + 1)) = beN (l.take j) * 256 + l.getD j 0) := by unfold Hid; rw [hs, beN_snoc]
          obtain ⟨b0, b1⟩ := hbn
          have b2 : beN (l.take j) ≤ 16777216 := by omega
          clear hs hll hp b1
          generalize l.getD j 0 = z at *
          generalize beN (l.take j) = x at *
          go_wp2
          go_round
          case rel => exact ⟨j + 1, by omega, by go_num, by rw [hs2.out]⟩
          case measure => simp [intOf]; omega
        · obtain rfl : j = l.length := by omega
          go_wp2
          go_ret
          exact ⟨by simp, hfin.out⟩
theorem ru_calls (r : Nat) (v : Value) (zs : List Int) (k m : Nat) (bad : Bool) (n : Int) (hn : n = m) (w : World) (h : Rrd w r v k bad) (hz : IsInts .u8 w v zs) (hb : ∀ c ∈ zs, 0 ≤ c ∧ c ≤ 255) (hr : blockOf v ≠ some r)
    (h1 : 1 ≤ m) (h4 : m ≤ 4) (hk : k ≤ zs.length) :
    Calls Try.prog 99 #[.pointer (some ⟨r, 0, none⟩), .int .i64 n] w fun e w' => e = .returned (.int .i64 (rdV zs k bad m)) ∧ Rrd w' r v (rdK zs k bad m : Nat) (rdB zs k bad m) ∧ Kp [r] w w' := by
  cases bad
  · by_cases h2 : zs.length < k + m
    · have e1 : rdB zs k false m = true := by simp [rdB, h2]
      unfold rdV rdK; rw [e1]
      have hle := hz.le
      obtain ⟨a, c, rfl⟩ : ∃ a c, v = .slice a zs.length c := by
        rcases hz with ⟨⟨ad, rfl⟩, rfl⟩ | ⟨g, off, c, rfl, _⟩
        · exact ⟨_, 0, rfl⟩
        · exact ⟨_, c, rfl⟩
      exact ru_zero r n w _ (rtake_short r a zs.length c k n w h (by omega) (by omega) hle hk)
    · have e1 : rdB zs k false m = false := by simp [rdB]; omega
      unfold rdV rdK; rw [e1]
      exact ru_ok r v zs k m n hn w h hz hb hr h1 h4 (by omega)
  · have e1 : rdB zs k true m = true := by simp [rdB]
    unfold rdV rdK; rw [e1]
    exact ru_zero r n w _ (rtake_bad r v k n w h)
theorem ri16_calls (r : Nat) (v : Value) (zs : List Int) (k : Nat) (bad : Bool) (w : World) (h : Rrd w r v k bad) (hz : IsInts .u8 w v zs) (hb : ∀ c ∈ zs, 0 ≤ c ∧ c ≤ 255) (hr : blockOf v ≠ some r) (hk : k ≤ zs.length) :
    Calls Try.prog 56 #[.pointer (some ⟨r, 0, none⟩)] w fun e w' => e = .returned (.int .i64 (s16 (rdV zs k bad 2))) ∧ Rrd w' r v (rdK zs k bad 2 : Nat) (rdB zs k bad 2) ∧ Kp [r] w w' := by
  obtain ⟨q0, q1⟩ := rdV_bounds zs k bad 2 hb
  by_cases hlt : 32768 ≤ rdV zs k bad 2
  · have e4 : Hid (s16 (rdV zs k bad 2) = rdV zs k bad 2 - 65536) := if_pos hlt
    go_enter Try.func56, Try.ntmps56
    go_wp2_with fail
    refine (ru_calls r v zs k 2 bad 2 rfl w h hz hb hr (by omega) (by omega) hk).mono ?_; rintro e w1 ⟨rfl, hr1, hk1⟩
    go_wp2_with fail
    go_ret
    exact ⟨by rw [e4.out]; simp, hr1, hk1⟩
  · have e4 : Hid (s16 (rdV zs k bad 2) = rdV zs k bad 2) := if_neg hlt
    go_enter Try.func56, Try.ntmps56
    go_wp2_with fail
    refine (ru_calls r v zs k 2 bad 2 rfl w h hz hb hr (by omega) (by omega) hk).mono ?_; rintro e w1 ⟨rfl, hr1, hk1⟩
    go_wp2_with fail
    go_ret
    exact ⟨by rw [e4.out]; simp, hr1, hk1⟩
end Go.Proofs.Ytodjohoonbkklaa

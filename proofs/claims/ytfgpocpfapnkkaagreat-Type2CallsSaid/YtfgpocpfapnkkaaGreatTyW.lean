/- simple: readers in one word; Take of any number of bytes. (Written by wip/simple/gensia.py.) -/
import Derived.Test.YtfgpocpfapnkkaaGreatWmA
import Derived.Test.YtfgpocpfapnkkaaGreatBits
namespace Go.Proofs.YtfgpocpfapnkkaaGreat
open Go.RowKit
set_option linter.unusedVariables false
set_option linter.unusedSimpArgs false
abbrev Rs := Nat × Bool
def stp (zs : List Int) (m : Nat) (s : Rs) : Rs := (rdK zs s.1 s.2 m, rdB zs s.1 s.2 m)
def val (zs : List Int) (m : Nat) (s : Rs) : Int := rdV zs s.1 s.2 m
/-- A reader of the program: its bytes zs, where it stands, whether it is bad. -/
def RdS (w : World) (r : Nat) (v : Value) (zs : List Int) (k : Nat) (bad : Bool) : Prop := Rdr w r v k bad ∧ IsInts .u8 w v zs ∧ (∀ c ∈ zs, 0 ≤ c ∧ c ≤ 255) ∧ blockOf v ≠ some r ∧ k ≤ zs.length
theorem RdS.kp {S : List Nat} {w w' : World} {r : Nat} {v : Value} {zs : List Int} {k : Nat} {bad : Bool} (h : RdS w r v zs k bad) (hk : Kp S w w') (hr : r ∉ S) (hv : ∀ s ∈ S, blockOf v ≠ some s) : RdS w' r v zs k bad :=
  ⟨h.1.kp hk hr, h.2.1.kp hk hv, h.2.2⟩
theorem RdS.kp0 {w w' : World} {r : Nat} {v : Value} {zs : List Int} {k : Nat} {bad : Bool} (h : RdS w r v zs k bad) (hk : Kp [] w w') : RdS w' r v zs k bad := h.kp hk (by simp) (by simp)
theorem RdS.lt {w : World} {r : Nat} {v : Value} {zs : List Int} {k : Nat} {bad : Bool} (h : RdS w r v zs k bad) : r < w.heap.size := lt_of_block h.1
theorem RdS.read {w w' : World} {r : Nat} {v : Value} {zs : List Int} {k m : Nat} {bad : Bool} (h : RdS w r v zs k bad) (h1 : Rdr w' r v (rdK zs k bad m : Nat) (rdB zs k bad m)) (hk : Kp [r] w w') : RdS w' r v zs (rdK zs k bad m) (rdB zs k bad m) :=
  ⟨h1, h.2.1.kp hk (fun t ht e => by simp at ht; subst ht; exact h.2.2.2.1 e), h.2.2.1, h.2.2.2.1, rdK_le zs k bad m h.2.2.2.2⟩
section
variable {w : World} {r : Nat} {v : Value} {zs : List Int} {k : Nat} {bad : Bool}
theorem u8S (h : RdS w r v zs k bad) : Calls Tryz.prog 26 #[.pointer (some ⟨r, 0, none⟩)] w fun e w' => e = .returned (.int .i64 (rdV zs k bad 1)) ∧ RdS w' r v zs (rdK zs k bad 1) (rdB zs k bad 1) ∧ Kp [r] w w' :=
  (u8_calls r v zs k bad w h.1 h.2.1 h.2.2.1 h.2.2.2.1 h.2.2.2.2).mono fun e w' ⟨he, h1, hk⟩ => ⟨he, h.read h1 hk, hk⟩
theorem i16S (h : RdS w r v zs k bad) : Calls Tryz.prog 50 #[.pointer (some ⟨r, 0, none⟩)] w fun e w' => e = .returned (.int .i64 (s16 (rdV zs k bad 2))) ∧ RdS w' r v zs (rdK zs k bad 2) (rdB zs k bad 2) ∧ Kp [r] w w' :=
  (i16_calls r v zs k bad w h.1 h.2.1 h.2.2.1 h.2.2.2.1 h.2.2.2.2).mono fun e w' ⟨he, h1, hk⟩ => ⟨he, h.read h1 hk, hk⟩
theorem doneS (h : RdS w r v zs k bad) : Calls Tryz.prog 38 #[.pointer (some ⟨r, 0, none⟩)] w fun e w' => e = .returned (.int .i64 (bif bad then 30 else 0)) ∧ w = w' := done_calls r v k bad w h.1
end
set_option maxRecDepth 100000 in
theorem next_zero (r g off N c k : Nat) (w : World) (h : Rdr w r (.slice (some ⟨g, off, none⟩) N c) k false) (h2 : k ≤ N) (hN : N ≤ c) (hc : c ≤ maxLen) :
    Calls Tryz.prog 49 #[.pointer (some ⟨r, 0, none⟩), .int .i64 0] w fun e w' => (∃ a, e = .returned (.slice (some a) 0 (c - k)) ∧ (k < c → a = ⟨g, off + k, none⟩)) ∧ Rdr w' r (.slice (some ⟨g, off, none⟩) N c) (k : Int) false ∧ Kp [r] w w' := by
  obtain ⟨c0, c1, c2, f1, f2⟩ := h.facts
  unfold maxLen at hc
  by_cases hkc : k < c
  · go_enter Tryz.func49, Tryz.ntmps49
    go_wp2
    go_quiet ((go_at_call 35; exact Calls.quiet_of_same ((wrong_calls r (.slice (some ⟨g, off, none⟩) N c) k false _ (by exact h)).mono fun _ _ ⟨a, b⟩ => ⟨a, b.symm⟩)))
    go_wp2_with fail
    go_quiet (fail)
    go_wp2
    go_ret
    exact ⟨⟨⟨g, off + k, none⟩, by simp, fun _ => rfl⟩, Rdr.setAt (k := (k : Int)) (by exact h) _, by (repeat (first | exact Kp.refl _ _ | assumption | refine Kp.drew ?_ | refine Kp.drewN ?_ _ | refine Kp.alloc ?_ _ | (refine Kp.setCell ?_ (by first | (left; simp; done) | (right; simp; try omega)) _) | (refine Kp.trans' ?_ (by assumption) (by simp; try omega))))⟩
  · obtain rfl : k = c := by omega
    obtain rfl : N = k := by omega
    go_enter Tryz.func49, Tryz.ntmps49
    go_wp2
    go_quiet ((go_at_call 35; exact Calls.quiet_of_same ((wrong_calls r (.slice (some ⟨g, off, none⟩) N N) N false _ (by exact h)).mono fun _ _ ⟨a, b⟩ => ⟨a, b.symm⟩)))
    go_wp2_with fail
    go_quiet (fail)
    go_wp2
    go_ret
    exact ⟨⟨⟨g, off, none⟩, by simp, fun h => absurd h (by omega)⟩, Rdr.setAt (k := (N : Int)) (by exact h) _, by (repeat (first | exact Kp.refl _ _ | assumption | refine Kp.drew ?_ | refine Kp.drewN ?_ _ | refine Kp.alloc ?_ _ | (refine Kp.setCell ?_ (by first | (left; simp; done) | (right; simp; try omega)) _) | (refine Kp.trans' ?_ (by assumption) (by simp; try omega))))⟩
set_option maxRecDepth 100000 in
theorem takeS {w : World} {r : Nat} {v : Value} {zs : List Int} {k : Nat} {bad : Bool} (m : Nat) (hm2 : m ≤ 65535) (h : RdS w r v zs k bad) (h0 : bad = false → 0 < zs.length) :
    Calls Tryz.prog 43 #[.pointer (some ⟨r, 0, none⟩), .int .i64 m] w fun e w' => (∃ v', e = .returned v') ∧ RdS w' r v zs (rdK zs k bad m) (rdB zs k bad m) ∧ Kp [r] w w' := by
  have H := Lib.hid h
  cases bad with
  | true =>
    have e1 : rdB zs k true m = true := rfl
    have e2 : rdK zs k true m = k := rfl
    rw [e1, e2]
    clear h h0
    go_enter Tryz.func43, Tryz.ntmps43
    go_wp2_with fail
    refine (next_bad r v k m w H.out.1).mono ?_; rintro e w1 ⟨rfl, h1, hk1⟩
    go_wp2_with fail
    refine (clone_calls (.slice none 0 0) [] w1 (.inl ⟨⟨_, rfl⟩, rfl⟩) (by simp)).mono ?_; rintro e w2 ⟨v2, rfl, _, hk2, _⟩
    have hR := Lib.hid ((H.out.read (m := m) (by rw [e1, e2]; exact h1) hk1).kp0 hk2)
    rw [e1, e2] at hR
    go_wp2_with fail
    go_ret
    exact ⟨⟨_, rfl⟩, hR.out, hk1.trans0 hk2⟩
  | false =>
    by_cases hs : zs.length < k + m
    · have e1 : rdB zs k false m = true := by unfold rdB; rw [decide_eq_true hs]; rfl
      have e2 : rdK zs k false m = k := by unfold rdK; rw [e1]; rfl
      rw [e1, e2]
      obtain ⟨p, c, rfl⟩ : ∃ p c, v = .slice p zs.length c := by
        rcases h.2.1 with ⟨⟨pb, rfl⟩, rfl⟩ | ⟨g, off, c, rfl, _⟩
        · exact ⟨_, _, rfl⟩
        · exact ⟨_, _, rfl⟩
      have hle := h.2.1.le
      have hkz := h.2.2.2.2
      have HN := Lib.hid (next_short r p zs.length c k m w h.1 (by omega) (by omega) hle hkz)
      clear h h0 hle hkz
      go_enter Tryz.func43, Tryz.ntmps43
      go_wp2_with fail
      refine HN.out.mono ?_; rintro e w1 ⟨rfl, h1, hk1⟩
      go_wp2_with fail
      refine (clone_calls (.slice none 0 0) [] w1 (.inl ⟨⟨_, rfl⟩, rfl⟩) (by simp)).mono ?_; rintro e w2 ⟨v2, rfl, _, hk2, _⟩
      have hR := Lib.hid ((H.out.read (m := m) (by rw [e1, e2]; exact h1) hk1).kp0 hk2)
      rw [e1, e2] at hR
      go_wp2_with fail
      go_ret
      exact ⟨⟨_, rfl⟩, hR.out, hk1.trans0 hk2⟩
    · have e1 : rdB zs k false m = false := by unfold rdB; rw [decide_eq_false hs]; rfl
      have e2 : rdK zs k false m = k + m := by unfold rdK; rw [e1]; rfl
      rw [e1, e2]
      rcases h.2.1 with ⟨⟨pb, rfl⟩, rfl⟩ | ⟨g, off, c, rfl, g1, g2, g3⟩
      · have := h0 rfl; simp at this
      have CMX := Lib.hid g2
      by_cases hm : m = 0
      · subst hm
        have HN := Lib.hid (next_zero r g off zs.length c k w h.1 (by omega) g1 g2)
        clear h h0 g1 g2 g3
        go_enter Tryz.func43, Tryz.ntmps43
        go_wp2_with fail
        refine HN.out.mono ?_; rintro e w1 ⟨⟨a, rfl, ha⟩, h1, hk1⟩
        have HA := Lib.hid ha
        have HH1 := Lib.hid h1
        have HK1 := Lib.hid hk1
        clear ha h1 hk1
        have HI : Hid (IsInts .u8 w1 (.slice (some a) 0 (c - k)) []) := by
          by_cases hkc : k < c
          · rw [HA.out hkc]; exact .inr ⟨g, off + k, c - k, rfl, by simp, by have := CMX.out; omega, fun i hi => by simp at hi⟩
          · rw [show c - k = 0 by omega]; exact .inl ⟨⟨_, rfl⟩, rfl⟩
        go_wp2_with fail
        refine (clone_calls _ [] w1 HI.out (by simp)).mono ?_; rintro e w2 ⟨v2, rfl, _, hk2, _⟩
        have hR := Lib.hid ((H.out.read (m := 0) (by rw [e1, e2]; exact HH1.out) HK1.out).kp0 hk2)
        rw [e1, e2] at hR
        go_wp2_with fail
        go_ret
        exact ⟨⟨_, rfl⟩, hR.out, HK1.out.trans0 hk2⟩
      have HN := Lib.hid (next_ok r g off zs.length c k m m rfl w h.1 (by omega) (by omega) g1 g2)
      have HI : Hid (∀ W, Kp [r] w W → IsInts .u8 W (.slice (some ⟨g, off + k, none⟩) m (c - k)) ((zs.drop k).take m)) := fun W hW => by
        have hw := h.2.1.kp hW (fun t ht e => by simp at ht; subst ht; exact h.2.2.2.1 e)
        rcases hw with ⟨⟨pb, e⟩, h0⟩ | ⟨g', off', c', e, _, _, g4⟩
        · rw [h0] at hs; simp at hs; omega
        · cases e
          refine .inr ⟨g, off + k, c - k, by rw [show ((zs.drop k).take m).length = m by simp; omega], by simp; omega, by omega, fun i hi => ?_⟩
          have hi2 : i < m := by simp at hi; omega
          rw [Nat.add_assoc, g4 (k + i) (by omega)]
          simp only [List.getD_eq_getElem?_getD]
          rw [List.getElem?_take_of_lt hi2, List.getElem?_drop]
      clear h h0 g1 g2 g3
      go_enter Tryz.func43, Tryz.ntmps43
      go_wp2_with fail
      refine HN.out.mono ?_; rintro e w1 ⟨rfl, h1, hk1⟩
      go_wp2_with fail
      refine (clone_calls _ _ w1 (HI.out _ hk1) (by simp; omega)).mono ?_; rintro e w2 ⟨v2, rfl, _, hk2, _⟩
      have hR := Lib.hid ((H.out.read (m := m) (by rw [e1, e2]; exact h1) hk1).kp0 hk2)
      rw [e1, e2] at hR
      go_wp2_with fail
      go_ret
      exact ⟨⟨_, rfl⟩, hR.out, hk1.trans0 hk2⟩
end Go.Proofs.YtfgpocpfapnkkaaGreat

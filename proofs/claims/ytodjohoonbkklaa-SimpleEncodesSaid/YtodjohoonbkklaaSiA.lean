/- simple: readers in one word; Take of any number of bytes. (Written by wip/simple/gensia.py.) -/
import Derived.Test.YtodjohoonbkklaaWireB
import Derived.Test.YtodjohoonbkklaaWireC
import Derived.Test.YtodjohoonbkklaaWireF
import Derived.Test.YtodjohoonbkklaaBits
namespace Go.Proofs.Ytodjohoonbkklaa
open Go.RowKit
set_option linter.unusedVariables false
set_option linter.unusedSimpArgs false
abbrev Rs := Nat × Bool
def stp (zs : List Int) (m : Nat) (s : Rs) : Rs := (rdK zs s.1 s.2 m, rdB zs s.1 s.2 m)
def val (zs : List Int) (m : Nat) (s : Rs) : Int := rdV zs s.1 s.2 m
/-- A reader of the program: its bytes zs, where it stands, whether it is bad. -/
def RdS (w : World) (r : Nat) (v : Value) (zs : List Int) (k : Nat) (bad : Bool) : Prop := Rdr w r v k bad ∧ IsInts .u8 w v zs ∧ (∀ c ∈ zs, 0 ≤ c ∧ c ≤ 255) ∧ blockOf v ≠ some r ∧ k ≤ zs.length
theorem RdS.kp {S : List Nat} {w w' : World} {r : Nat} {v : Value} {zs : List Int} {k : Nat} {bad : Bool} (h : RdS w r v zs k bad) (hk : Kp S w w') (hr : r ∉ S) (hv : ∀ s ∈ S, blockOf v ≠ some s) : RdS w' r v zs k bad :=
  ⟨h.1.kp hk hr, h.2.1.kp hk hv, h.2.2⟩
theorem RdS.kp0 {w w' : World} {r : Nat} {v : Value} {zs : List Int} {k : Nat} {bad : Bool} (h : RdS w r v zs k bad) (hk : Kp [] w w') : RdS w' r v zs k bad := h.kp hk (by simp) (by simp)
theorem RdS.lt {w : World} {r : Nat} {v : Value} {zs : List Int} {k : Nat} {bad : Bool} (h : RdS w r v zs k bad) : r < w.heap.size := lt_of_block h.1
theorem RdS.read {w w' : World} {r : Nat} {v : Value} {zs : List Int} {k m : Nat} {bad : Bool} (h : RdS w r v zs k bad) (h1 : Rdr w' r v (rdK zs k bad m : Nat) (rdB zs k bad m)) (hk : Kp [r] w w') : RdS w' r v zs (rdK zs k bad m) (rdB zs k bad m) :=
  ⟨h1, h.2.1.kp hk (fun t ht e => by simp at ht; subst ht; exact h.2.2.2.1 e), h.2.2.1, h.2.2.2.1, rdK_le zs k bad m h.2.2.2.2⟩
section
variable {w : World} {r : Nat} {v : Value} {zs : List Int} {k : Nat} {bad : Bool}
theorem u8S (h : RdS w r v zs k bad) : Calls Try.prog 140 #[.pointer (some ⟨r, 0, none⟩)] w fun e w' => e = .returned (.int .i64 (rdV zs k bad 1)) ∧ RdS w' r v zs (rdK zs k bad 1) (rdB zs k bad 1) ∧ Kp [r] w w' :=
  (u8_calls r v zs k bad w h.1 h.2.1 h.2.2.1 h.2.2.2.1 h.2.2.2.2).mono fun e w' ⟨he, h1, hk⟩ => ⟨he, h.read h1 hk, hk⟩
theorem u16S (h : RdS w r v zs k bad) : Calls Try.prog 95 #[.pointer (some ⟨r, 0, none⟩)] w fun e w' => e = .returned (.int .i64 (rdV zs k bad 2)) ∧ RdS w' r v zs (rdK zs k bad 2) (rdB zs k bad 2) ∧ Kp [r] w w' :=
  (u16_calls r v zs k bad w h.1 h.2.1 h.2.2.1 h.2.2.2.1 h.2.2.2.2).mono fun e w' ⟨he, h1, hk⟩ => ⟨he, h.read h1 hk, hk⟩
theorem i16S (h : RdS w r v zs k bad) : Calls Try.prog 52 #[.pointer (some ⟨r, 0, none⟩)] w fun e w' => e = .returned (.int .i64 (s16 (rdV zs k bad 2))) ∧ RdS w' r v zs (rdK zs k bad 2) (rdB zs k bad 2) ∧ Kp [r] w w' :=
  (i16_calls r v zs k bad w h.1 h.2.1 h.2.2.1 h.2.2.2.1 h.2.2.2.2).mono fun e w' ⟨he, h1, hk⟩ => ⟨he, h.read h1 hk, hk⟩
theorem doneS (h : RdS w r v zs k bad) : Calls Try.prog 54 #[.pointer (some ⟨r, 0, none⟩)] w fun e w' => e = .returned (.int .i64 (bif bad then 30 else 0)) ∧ w = w' := done_calls r v k bad w h.1
end
set_option maxRecDepth 100000 in
theorem next_zero (r g off N c k : Nat) (w : World) (h : Rdr w r (.slice (some ⟨g, off, none⟩) N c) k false) (h2 : k ≤ N) (hN : N ≤ c) (hc : c ≤ maxLen) :
    Calls Try.prog 110 #[.pointer (some ⟨r, 0, none⟩), .int .i64 0] w fun e w' => (∃ a, e = .returned (.slice (some a) 0 (c - k)) ∧ (k < c → a = ⟨g, off + k, none⟩)) ∧ Rdr w' r (.slice (some ⟨g, off, none⟩) N c) (k : Int) false ∧ Kp [r] w w' := by
  obtain ⟨c0, c1, c2, f1, f2⟩ := h.facts
  unfold maxLen at hc
  by_cases hkc : k < c
  · go_enter Try.func110, Try.ntmps110
    go_wp2
    go_quiet ((go_at_call 111; exact Calls.quiet_of_same ((wrong_calls r (.slice (some ⟨g, off, none⟩) N c) k false _ (by exact h)).mono fun _ _ ⟨a, b⟩ => ⟨a, b.symm⟩)))
    go_wp2_with fail
    go_quiet (fail)
    go_wp2
    go_ret
    exact ⟨⟨⟨g, off + k, none⟩, by simp, fun _ => rfl⟩, Rdr.setAt (k := (k : Int)) (by exact h) _, by (repeat (first | exact Kp.refl _ _ | assumption | refine Kp.drew ?_ | refine Kp.drewN ?_ _ | refine Kp.alloc ?_ _ | (refine Kp.setCell ?_ (by first | (left; simp; done) | (right; simp; try omega)) _) | (refine Kp.trans' ?_ (by assumption) (by simp; try omega))))⟩
  · obtain rfl : k = c := by omega
    obtain rfl : N = k := by omega
    go_enter Try.func110, Try.ntmps110
    go_wp2
    go_quiet ((go_at_call 111; exact Calls.quiet_of_same ((wrong_calls r (.slice (some ⟨g, off, none⟩) N N) N false _ (by exact h)).mono fun _ _ ⟨a, b⟩ => ⟨a, b.symm⟩)))
    go_wp2_with fail
    go_quiet (fail)
    go_wp2
    go_ret
    exact ⟨⟨⟨g, off, none⟩, by simp, fun h => absurd h (by omega)⟩, Rdr.setAt (k := (N : Int)) (by exact h) _, by (repeat (first | exact Kp.refl _ _ | assumption | refine Kp.drew ?_ | refine Kp.drewN ?_ _ | refine Kp.alloc ?_ _ | (refine Kp.setCell ?_ (by first | (left; simp; done) | (right; simp; try omega)) _) | (refine Kp.trans' ?_ (by assumption) (by simp; try omega))))⟩
set_option maxRecDepth 100000 in
theorem takeS {w : World} {r : Nat} {v : Value} {zs : List Int} {k : Nat} {bad : Bool} (m : Nat) (hm2 : m ≤ 65535) (h : RdS w r v zs k bad) (h0 : bad = false → 0 < zs.length) :
    Calls Try.prog 53 #[.pointer (some ⟨r, 0, none⟩), .int .i64 m] w fun e w' => (∃ v', e = .returned v') ∧ RdS w' r v zs (rdK zs k bad m) (rdB zs k bad m) ∧ Kp [r] w w' := by
  have H := Lib.hid h
  cases bad with
  | true =>
    have e1 : rdB zs k true m = true := rfl
    have e2 : rdK zs k true m = k := rfl
    rw [e1, e2]
    clear h h0
    go_enter Try.func53, Try.ntmps53
    go_wp2_with fail
    refine (next_bad r v k m w H.out.1).mono ?_; rintro e w1 ⟨rfl, h1, hk1⟩
    go_wp2_with fail
    refine (clone_calls (.slice none 0 0) [] w1 (.inl ⟨⟨_, rfl⟩, rfl⟩) (by simp)).mono ?_; rintro e w2 ⟨v2, rfl, _, hk2, _⟩
    have hR := Lib.hid ((H.out.read (m := m) (by rw [e1, e2]; exact h1) hk1).kp0 hk2)
    rw [e1, e2] at hR
    go_wp2_with fail
    go_ret
    exact ⟨⟨_, rfl⟩, hR.out, hk1.trans0 hk2⟩
  | false =>
    by_cases hs : zs.length < k + m
    · have e1 : rdB zs k false m = true := by unfold rdB; rw [decide_eq_true hs]; rfl
      have e2 : rdK zs k false m = k := by unfold rdK; rw [e1]; rfl
      rw [e1, e2]
      obtain ⟨p, c, rfl⟩ : ∃ p c, v = .slice p zs.length c := by
        rcases h.2.1 with ⟨⟨pb, rfl⟩, rfl⟩ | ⟨g, off, c, rfl, _⟩
        · exact ⟨_, _, rfl⟩
        · exact ⟨_, _, rfl⟩
      have hle := h.2.1.le
      have hkz := h.2.2.2.2
      have HN := Lib.hid (next_short r p zs.length c k m w h.1 (by omega) (by omega) hle hkz)
      clear h h0 hle hkz
      go_enter Try.func53, Try.ntmps53
      go_wp2_with fail
      refine HN.out.mono ?_; rintro e w1 ⟨rfl, h1, hk1⟩
      go_wp2_with fail
      refine (clone_calls (.slice none 0 0) [] w1 (.inl ⟨⟨_, rfl⟩, rfl⟩) (by simp)).mono ?_; rintro e w2 ⟨v2, rfl, _, hk2, _⟩
      have hR := Lib.hid ((H.out.read (m := m) (by rw [e1, e2]; exact h1) hk1).kp0 hk2)
      rw [e1, e2] at hR
      go_wp2_with fail
      go_ret
      exact ⟨⟨_, rfl⟩, hR.out, hk1.trans0 hk2⟩
    · have e1 : rdB zs k false m = false := by unfold rdB; rw [decide_eq_false hs]; rfl
      have e2 : rdK zs k false m = k + m := by unfold rdK; rw [e1]; rfl
      rw [e1, e2]
      rcases h.2.1 with ⟨⟨pb, rfl⟩, rfl⟩ | ⟨g, off, c, rfl, g1, g2, g3⟩
      · have := h0 rfl; simp at this
      have CMX := Lib.hid g2
      by_cases hm : m = 0
      · subst hm
        have HN := Lib.hid (next_zero r g off zs.length c k w h.1 (by omega) g1 g2)
        clear h h0 g1 g2 g3
        go_enter Try.func53, Try.ntmps53
        go_wp2_with fail
        refine HN.out.mono ?_; rintro e w1 ⟨⟨a, rfl, ha⟩, h1, hk1⟩
        have HA := Lib.hid ha
        have HH1 := Lib.hid h1
        have HK1 := Lib.hid hk1
        clear ha h1 hk1
        have HI : Hid (IsInts .u8 w1 (.slice (some a) 0 (c - k)) []) := by
          by_cases hkc : k < c
          · rw [HA.out hkc]; exact .inr ⟨g, off + k, c - k, rfl, by simp, by have := CMX.out; omega, fun i hi => by simp at hi⟩
          · rw [show c - k = 0 by omega]; exact .inl ⟨⟨_, rfl⟩, rfl⟩
        go_wp2_with fail
        refine (clone_calls _ [] w1 HI.out (by simp)).mono ?_; rintro e w2 ⟨v2, rfl, _, hk2, _⟩
        have hR := Lib.hid ((H.out.read (m := 0) (by rw [e1, e2]; exact HH1.out) HK1.out).kp0 hk2)
        rw [e1, e2] at hR
        go_wp2_with fail
        go_ret
        exact ⟨⟨_, rfl⟩, hR.out, HK1.out.trans0 hk2⟩
      have HN := Lib.hid (next_ok r g off zs.length c k m m rfl w h.1 (by omega) (by omega) g1 g2)
      have HI : Hid (∀ W, Kp [r] w W → IsInts .u8 W (.slice (some ⟨g, off + k, none⟩) m (c - k)) ((zs.drop k).take m)) := fun W hW => by
        have hw := h.2.1.kp hW (fun t ht e => by simp at ht; subst ht; exact h.2.2.2.1 e)
        rcases hw with ⟨⟨pb, e⟩, h0⟩ | ⟨g', off', c', e, _, _, g4⟩
        · rw [h0] at hs; simp at hs; omega
        · cases e
          refine .inr ⟨g, off + k, c - k, by rw [show ((zs.drop k).take m).length = m by simp; omega], by simp; omega, by omega, fun i hi => ?_⟩
          have hi2 : i < m := by simp at hi; omega
          rw [Nat.add_assoc, g4 (k + i) (by omega)]
          simp only [List.getD_eq_getElem?_getD]
          rw [List.getElem?_take_of_lt hi2, List.getElem?_drop]
      clear h h0 g1 g2 g3
      go_enter Try.func53, Try.ntmps53
      go_wp2_with fail
      refine HN.out.mono ?_; rintro e w1 ⟨rfl, h1, hk1⟩
      go_wp2_with fail
      refine (clone_calls _ _ w1 (HI.out _ hk1) (by simp; omega)).mono ?_; rintro e w2 ⟨v2, rfl, _, hk2, _⟩
      have hR := Lib.hid ((H.out.read (m := m) (by rw [e1, e2]; exact h1) hk1).kp0 hk2)
      rw [e1, e2] at hR
      go_wp2_with fail
      go_ret
      exact ⟨⟨_, rfl⟩, hR.out, hk1.trans0 hk2⟩
/-- A reader of the reference: its bytes zs, where it stands, whether it is bad. -/
def RrS (w : World) (r : Nat) (v : Value) (zs : List Int) (k : Nat) (bad : Bool) : Prop := Rrd w r v k bad ∧ IsInts .u8 w v zs ∧ (∀ c ∈ zs, 0 ≤ c ∧ c ≤ 255) ∧ blockOf v ≠ some r ∧ k ≤ zs.length
theorem RrS.kp {S : List Nat} {w w' : World} {r : Nat} {v : Value} {zs : List Int} {k : Nat} {bad : Bool} (h : RrS w r v zs k bad) (hk : Kp S w w') (hr : r ∉ S) (hv : ∀ s ∈ S, blockOf v ≠ some s) : RrS w' r v zs k bad :=
  ⟨h.1.kp hk hr, h.2.1.kp hk hv, h.2.2⟩
theorem RrS.kp0 {w w' : World} {r : Nat} {v : Value} {zs : List Int} {k : Nat} {bad : Bool} (h : RrS w r v zs k bad) (hk : Kp [] w w') : RrS w' r v zs k bad := h.kp hk (by simp) (by simp)
theorem RrS.lt {w : World} {r : Nat} {v : Value} {zs : List Int} {k : Nat} {bad : Bool} (h : RrS w r v zs k bad) : r < w.heap.size := lt_of_block h.1
theorem RrS.read {w w' : World} {r : Nat} {v : Value} {zs : List Int} {k m : Nat} {bad : Bool} (h : RrS w r v zs k bad) (h1 : Rrd w' r v (rdK zs k bad m : Nat) (rdB zs k bad m)) (hk : Kp [r] w w') : RrS w' r v zs (rdK zs k bad m) (rdB zs k bad m) :=
  ⟨h1, h.2.1.kp hk (fun t ht e => by simp at ht; subst ht; exact h.2.2.2.1 e), h.2.2.1, h.2.2.2.1, rdK_le zs k bad m h.2.2.2.2⟩
theorem ruS {w : World} {r : Nat} {v : Value} {zs : List Int} {s : Rs} (m : Nat) (h1 : 1 ≤ m) (h4 : m ≤ 4) (n : Int) (hn : n = m) (h : RrS w r v zs s.1 s.2) : Calls Try.prog 99 #[.pointer (some ⟨r, 0, none⟩), .int .i64 n] w fun e w' => e = .returned (.int .i64 (val zs m s)) ∧ RrS w' r v zs (stp zs m s).1 (stp zs m s).2 ∧ Kp [r] w w' :=
  (ru_calls r v zs s.1 m s.2 n hn w h.1 h.2.1 h.2.2.1 h.2.2.2.1 h1 h4 h.2.2.2.2).mono fun e w' ⟨he, h1, hk⟩ => ⟨he, h.read h1 hk, hk⟩
theorem ri16S {w : World} {r : Nat} {v : Value} {zs : List Int} {s : Rs} (h : RrS w r v zs s.1 s.2) : Calls Try.prog 56 #[.pointer (some ⟨r, 0, none⟩)] w fun e w' => e = .returned (.int .i64 (s16 (val zs 2 s))) ∧ RrS w' r v zs (stp zs 2 s).1 (stp zs 2 s).2 ∧ Kp [r] w w' :=
  (ri16_calls r v zs s.1 s.2 w h.1 h.2.1 h.2.2.1 h.2.2.2.1 h.2.2.2.2).mono fun e w' ⟨he, h1, hk⟩ => ⟨he, h.read h1 hk, hk⟩
set_option maxHeartbeats 1000000 in
theorem rtake_zero (r g off N c k : Nat) (w : World) (h : Rrd w r (.slice (some ⟨g, off, none⟩) N c) k false) (h2 : k ≤ N) (hN : N ≤ c) (hc : c ≤ maxLen) :
    Calls Try.prog 57 #[.pointer (some ⟨r, 0, none⟩), .int .i64 0] w fun e w' => (∃ v, e = .returned v) ∧ Rrd w' r (.slice (some ⟨g, off, none⟩) N c) (k : Int) false ∧ Kp [r] w w' := by
  obtain ⟨c0, c1, c2, f1, f2⟩ := h.facts
  have CMX := Lib.hid hc
  unfold maxLen at hc
  by_cases hkc : k < c
  · go_enter Try.func57, Try.ntmps57
    go_wp2
    go_quiet (fail)
    go_wp2_with fail
    go_quiet (fail)
    go_wp2_with (at_builtin; go_loud (refine wpList_app rfl _ _ 22 rfl w.heap.size 5 (.int .u8 0) 1 1 Try.underlying22 infoByte rfl (by decide) (by decide) (.slice (some ⟨w.heap.size, 0, none⟩) 0 0) 0 [] rfl ?hown (.slice (some ⟨g, off + k, none⟩) 0 (c - k)) 0 [] rfl ?hsrc (fun u hu => by simp at hu) ?hb1 ?hb2 ?hk))
    case hown => exact own_empty _ _ _ _ _ (by simp) (by simp)
    case hb1 => omega
    case hb2 => simp
    case hsrc => exact ⟨by simp, .inr ⟨g, off + k, _, rfl, by omega, by have := CMX.out; omega, fun j u hu => by simp at hu⟩⟩
    case hk =>
      intro v' w2 hown hgr
      go_wp2_with fail
      go_ret
      have hk2 : Kp [r] w w2 := Kp.grown (by (repeat (first | exact Kp.refl _ _ | assumption | refine Kp.drew ?_ | refine Kp.drewN ?_ _ | refine Kp.alloc ?_ _ | (refine Kp.setCell ?_ (by first | (left; simp; done) | (right; simp; try omega)) _) | (refine Kp.trans' ?_ (by assumption) (by simp; try omega))))) hgr (by intro k hk; right; simp [Value.ownBlock] at hk; omega)
      have hk3 := Kp.grown (S := []) ((Kp.refl [] _).alloc _) hgr (by intro k hk; right; simp [Value.ownBlock] at hk; simp; omega)
      exact ⟨⟨_, rfl⟩, (Rrd.setAt (k := (k : Int)) (bad := false) (v := (.slice (some ⟨g, off, none⟩) N c)) (by exact h) (k : Int)).kp hk3 (by simp), hk2⟩
  · obtain rfl : k = c := by omega
    obtain rfl : N = k := by omega
    go_enter Try.func57, Try.ntmps57
    go_wp2
    go_quiet (fail)
    go_wp2_with fail
    go_quiet (fail)
    go_wp2_with (at_builtin; go_loud (refine wpList_app rfl _ _ 22 rfl w.heap.size 5 (.int .u8 0) 1 1 Try.underlying22 infoByte rfl (by decide) (by decide) (.slice (some ⟨w.heap.size, 0, none⟩) 0 0) 0 [] rfl ?hown (.slice (some ⟨g, off, none⟩) 0 0) 0 [] rfl ?hsrc (fun u hu => by simp at hu) ?hb1 ?hb2 ?hk))
    case hown => exact own_empty _ _ _ _ _ (by simp) (by simp)
    case hb1 => omega
    case hb2 => simp
    case hsrc => exact ⟨by simp, .inr ⟨g, off, _, rfl, by omega, by have := CMX.out; omega, fun j u hu => by simp at hu⟩⟩
    case hk =>
      intro v' w2 hown hgr
      go_wp2_with fail
      go_ret
      have hk2 : Kp [r] w w2 := Kp.grown (by (repeat (first | exact Kp.refl _ _ | assumption | refine Kp.drew ?_ | refine Kp.drewN ?_ _ | refine Kp.alloc ?_ _ | (refine Kp.setCell ?_ (by first | (left; simp; done) | (right; simp; try omega)) _) | (refine Kp.trans' ?_ (by assumption) (by simp; try omega))))) hgr (by intro k hk; right; simp [Value.ownBlock] at hk; omega)
      have hk3 := Kp.grown (S := []) ((Kp.refl [] _).alloc _) hgr (by intro k hk; right; simp [Value.ownBlock] at hk; simp; omega)
      exact ⟨⟨_, rfl⟩, (Rrd.setAt (k := (N : Int)) (bad := false) (v := (.slice (some ⟨g, off, none⟩) N N)) (by exact h) (N : Int)).kp hk3 (by simp), hk2⟩
set_option maxHeartbeats 1000000 in
theorem rtake_gen (r g off N c k m : Nat) (n : Int) (hn : n = m) (zs : List Int) (w : World) (h : Rrd w r (.slice (some ⟨g, off, none⟩) N c) k false) (h1 : 1 ≤ n) (h2 : n ≤ (N : Int) - k) (hN : N ≤ c) (hc : c ≤ maxLen)
    (hl : zs.length = m) (hz : ∀ i, i < m → w.cell? ⟨g, off + k + i, none⟩ = some (.int .u8 (zs.getD i 0))) (hm : m ≤ 65535) (hg : g ≠ r) :
    Calls Try.prog 57 #[.pointer (some ⟨r, 0, none⟩), .int .i64 n] w fun e w' => ∃ v, e = .returned v ∧ IsInts .u8 w' v zs ∧ Rrd w' r (.slice (some ⟨g, off, none⟩) N c) ((k + m : Nat) : Int) false ∧ Kp [r] w w' ∧ (∀ b, blockOf v = some b → w.heap.size ≤ b) := by
  subst hn
  obtain ⟨c0, c1, c2, f1, f2⟩ := h.facts
  unfold maxLen at hc
  have hlt : decide ((m : Int) < 0) = false := by simp
  have hz2 : Hid _ := hz
  clear hz
  go_enter Try.func57, Try.ntmps57
  go_wp2
  go_quiet (fail)
  go_wp2_with fail
  go_quiet (fail)
  go_wp2_with (at_builtin; go_loud (refine wpList_app rfl _ _ 22 rfl w.heap.size 5 (.int .u8 0) 1 1 Try.underlying22 infoByte rfl (by decide) (by decide) (.slice (some ⟨w.heap.size, 0, none⟩) 0 0) 0 [] rfl ?hown (.slice (some ⟨g, off + k, none⟩) (k + m - k) (c - k)) (k + m - k) (zs.map (Value.int .u8)) rfl ?hsrc (oneCell_ints _ _) ?hb1 ?hb2 ?hk))
  case hown => exact own_empty _ _ _ _ _ (by simp) (by simp)
  case hb1 => omega
  case hb2 => simp
  case hsrc =>
    rw [show k + m - k = m by omega]
    refine Reads.kp (w := w) (S := [r]) ?_ (by (repeat (first | exact Kp.refl _ _ | assumption | refine Kp.drew ?_ | refine Kp.drewN ?_ _ | refine Kp.alloc ?_ _ | (refine Kp.setCell ?_ (by first | (left; simp; done) | (right; simp; try omega)) _) | (refine Kp.trans' ?_ (by assumption) (by simp; try omega))))) (by intro s hs e; simp [Value.ownBlock] at hs e; omega)
    refine ⟨by simp [hl], .inr ⟨g, off + k, _, rfl, by omega, by unfold maxLen; omega, fun j u hu => ?_⟩⟩
    rw [List.getElem?_map] at hu
    by_cases hj : j < m
    · rw [hz2.out j hj, List.getD_eq_getElem?_getD]
      rw [List.getElem?_eq_getElem (by omega)] at hu ⊢
      simpa using hu
    · rw [List.getElem?_eq_none (by omega)] at hu; simp at hu
  case hk =>
    intro v' w2 hown hgr
    go_wp2_with fail
    go_ret
    have hk2 : Kp [r] w w2 := Kp.grown (by (repeat (first | exact Kp.refl _ _ | assumption | refine Kp.drew ?_ | refine Kp.drewN ?_ _ | refine Kp.alloc ?_ _ | (refine Kp.setCell ?_ (by first | (left; simp; done) | (right; simp; try omega)) _) | (refine Kp.trans' ?_ (by assumption) (by simp; try omega))))) hgr (by intro k hk; right; simp [Value.ownBlock] at hk; omega)
    have hk3 := Kp.grown (S := []) ((Kp.refl [] _).alloc _) hgr (by intro k hk; right; simp [Value.ownBlock] at hk; simp; omega)
    refine ⟨v', rfl, IsInts.owned (by rw [← hl] at hown; exact hown), ?_, hk2, fun b hb => (hown.lt b (blockOf_own hb)).1⟩
    have := (Rrd.setAt (k := k) (bad := false) (v := (.slice (some ⟨g, off, none⟩) N c)) (by exact h) (k + m)).kp hk3 (by simp)
    simpa using this

theorem rtakeS {w : World} {r : Nat} {v : Value} {zs : List Int} {s : Rs} (m : Nat) (hm2 : m ≤ 65535) (n : Int) (hn : n = m) (h : RrS w r v zs s.1 s.2) (h0 : s.2 = false → 0 < zs.length) :
    Calls Try.prog 57 #[.pointer (some ⟨r, 0, none⟩), .int .i64 n] w fun e w' => (∃ v', e = .returned v') ∧ RrS w' r v zs (stp zs m s).1 (stp zs m s).2 ∧ Kp [r] w w' := by
  obtain ⟨k, bad⟩ := s
  have H := Lib.hid h
  cases bad with
  | true =>
    have e1 : rdB zs k true m = true := rfl
    have e2 : rdK zs k true m = k := rfl
    exact (rtake_bad r v k n w h.1).mono fun e w' ⟨he, h1, hk⟩ => ⟨⟨_, he⟩, h.read (m := m) (by rw [e1, e2]; exact h1) hk, hk⟩
  | false =>
    by_cases hs : zs.length < k + m
    · have e1 : rdB zs k false m = true := by unfold rdB; rw [decide_eq_true hs]; rfl
      have e2 : rdK zs k false m = k := by unfold rdK; rw [e1]; rfl
      have hle := h.2.1.le
      obtain ⟨p, c, rfl⟩ : ∃ p c, v = .slice p zs.length c := by
        rcases h.2.1 with ⟨⟨pb, rfl⟩, rfl⟩ | ⟨g, off, c, rfl, _⟩
        · exact ⟨_, _, rfl⟩
        · exact ⟨_, _, rfl⟩
      exact (rtake_short r p zs.length c k n w h.1 (by omega) (by omega) hle h.2.2.2.2).mono fun e w' ⟨he, h1, hk⟩ => ⟨⟨_, he⟩, h.read (m := m) (by rw [e1, e2]; exact h1) hk, hk⟩
    · have e1 : rdB zs k false m = false := by unfold rdB; rw [decide_eq_false hs]; rfl
      have e2 : rdK zs k false m = k + m := by unfold rdK; rw [e1]; rfl
      rcases h.2.1 with ⟨⟨pb, rfl⟩, rfl⟩ | ⟨g, off, c, rfl, g1, g2, g3⟩
      · have := h0 rfl; simp at this
      by_cases hm : m = 0
      · subst hm; subst hn
        exact (rtake_zero r g off zs.length c k w h.1 (by omega) g1 g2).mono fun e w' ⟨he, h1, hk⟩ => ⟨he, h.read (m := 0) (by rw [e1, e2]; exact h1) hk, hk⟩
      · exact (rtake_gen r g off zs.length c k m n hn ((zs.drop k).take m) w h.1 (by omega) (by omega) g1 g2 (by simp; omega) (fun i hi => by
          rw [Nat.add_assoc, g3 (k + i) (by omega)]
          simp only [List.getD_eq_getElem?_getD]
          rw [List.getElem?_take_of_lt hi, List.getElem?_drop]) hm2 (fun e => h.2.2.2.1 (by subst e; simp [blockOf]; omega))).mono fun e w' ⟨v', he, _, h1, hk, _⟩ => ⟨⟨_, he⟩, h.read (m := m) (by rw [e1, e2]; exact h1) hk, hk⟩
end Go.Proofs.Ytodjohoonbkklaa

/- compose: a reader in one word (RdS); Take; number. -/
import Derived.Test.YtodjohoonbkklaaCpC
import Derived.Test.YtodjohoonbkklaaWireB
import Derived.Test.YtodjohoonbkklaaWireF
import Derived.Test.YtodjohoonbkklaaBits
namespace Go.Proofs.Ytodjohoonbkklaa
open Go.RowKit
set_option linter.unusedVariables false
set_option linter.unusedSimpArgs false
/-- A reader of the program: its bytes zs, where it stands, whether it is bad. -/
def RdS (w : World) (r : Nat) (v : Value) (zs : List Int) (k : Nat) (bad : Bool) : Prop := Rdr w r v k bad ∧ IsInts .u8 w v zs ∧ (∀ c ∈ zs, 0 ≤ c ∧ c ≤ 255) ∧ blockOf v ≠ some r ∧ k ≤ zs.length
theorem RdS.kp {S : List Nat} {w w' : World} {r : Nat} {v : Value} {zs : List Int} {k : Nat} {bad : Bool} (h : RdS w r v zs k bad) (hk : Kp S w w') (hr : r ∉ S) (hv : ∀ s ∈ S, blockOf v ≠ some s) : RdS w' r v zs k bad :=
  ⟨h.1.kp hk hr, h.2.1.kp hk hv, h.2.2⟩
theorem RdS.kp0 {w w' : World} {r : Nat} {v : Value} {zs : List Int} {k : Nat} {bad : Bool} (h : RdS w r v zs k bad) (hk : Kp [] w w') : RdS w' r v zs k bad := h.kp hk (by simp) (by simp)
theorem RdS.lt {w : World} {r : Nat} {v : Value} {zs : List Int} {k : Nat} {bad : Bool} (h : RdS w r v zs k bad) : r < w.heap.size := lt_of_block h.1
theorem RdS.read {w w' : World} {r : Nat} {v : Value} {zs : List Int} {k m : Nat} {bad : Bool} (h : RdS w r v zs k bad) (h1 : Rdr w' r v (rdK zs k bad m : Nat) (rdB zs k bad m)) (hk : Kp [r] w w') : RdS w' r v zs (rdK zs k bad m) (rdB zs k bad m) :=
  ⟨h1, h.2.1.kp hk (fun t ht e => by simp at ht; subst ht; exact h.2.2.2.1 e), h.2.2.1, h.2.2.2.1, rdK_le zs k bad m h.2.2.2.2⟩
section
variable {w : World} {r : Nat} {v : Value} {zs : List Int} {k : Nat} {bad : Bool}
theorem u8S (h : RdS w r v zs k bad) : Calls Try.prog 140 #[.pointer (some ⟨r, 0, none⟩)] w fun e w' => e = .returned (.int .i64 (rdV zs k bad 1)) ∧ RdS w' r v zs (rdK zs k bad 1) (rdB zs k bad 1) ∧ Kp [r] w w' :=
  (u8_calls r v zs k bad w h.1 h.2.1 h.2.2.1 h.2.2.2.1 h.2.2.2.2).mono fun e w' ⟨he, h1, hk⟩ => ⟨he, h.read h1 hk, hk⟩
theorem u16S (h : RdS w r v zs k bad) : Calls Try.prog 95 #[.pointer (some ⟨r, 0, none⟩)] w fun e w' => e = .returned (.int .i64 (rdV zs k bad 2)) ∧ RdS w' r v zs (rdK zs k bad 2) (rdB zs k bad 2) ∧ Kp [r] w w' :=
  (u16_calls r v zs k bad w h.1 h.2.1 h.2.2.1 h.2.2.2.1 h.2.2.2.2).mono fun e w' ⟨he, h1, hk⟩ => ⟨he, h.read h1 hk, hk⟩
theorem i16S (h : RdS w r v zs k bad) : Calls Try.prog 52 #[.pointer (some ⟨r, 0, none⟩)] w fun e w' => e = .returned (.int .i64 (s16 (rdV zs k bad 2))) ∧ RdS w' r v zs (rdK zs k bad 2) (rdB zs k bad 2) ∧ Kp [r] w w' :=
  (i16_calls r v zs k bad w h.1 h.2.1 h.2.2.1 h.2.2.2.1 h.2.2.2.2).mono fun e w' ⟨he, h1, hk⟩ => ⟨he, h.read h1 hk, hk⟩
theorem doneS (h : RdS w r v zs k bad) : Calls Try.prog 54 #[.pointer (some ⟨r, 0, none⟩)] w fun e w' => e = .returned (.int .i64 (bif bad then 30 else 0)) ∧ w = w' := done_calls r v k bad w h.1
end
def s8 (x : Int) : Int := if 128 ≤ x then x - 256 else x
theorem wrap8_s8 (x : Int) (h0 : 0 ≤ x) (h1 : x < 256) : IntKind.i8.wrap x = s8 x := by
  unfold s8; by_cases h : 128 ≤ x <;> simp [IntKind.wrap, IntKind.signed, IntKind.bits, h] <;> omega
set_option maxRecDepth 100000 in
theorem takeS {w : World} {r : Nat} {v : Value} {zs : List Int} {k : Nat} {bad : Bool} (m : Nat) (hm : 1 ≤ m) (hm2 : m ≤ 1000) (h : RdS w r v zs k bad) :
    Calls Try.prog 53 #[.pointer (some ⟨r, 0, none⟩), .int .i64 m] w fun e w' => (∃ v', e = .returned v') ∧ RdS w' r v zs (rdK zs k bad m) (rdB zs k bad m) ∧ Kp [r] w w' := by
  have H := Lib.hid h
  cases bad with
  | true =>
    have e1 : rdB zs k true m = true := rfl
    have e2 : rdK zs k true m = k := rfl
    rw [e1, e2]
    clear h
    go_enter Try.func53, Try.ntmps53
    go_wp2_with fail
    refine (next_bad r v k m w H.out.1).mono ?_; rintro e w1 ⟨rfl, h1, hk1⟩
    go_wp2_with fail
    refine (clone_calls (.slice none 0 0) [] w1 (.inl ⟨⟨_, rfl⟩, rfl⟩) (by simp)).mono ?_; rintro e w2 ⟨v2, rfl, _, hk2, _⟩
    have hR := Lib.hid ((H.out.read (m := m) (by rw [e1, e2]; exact h1) hk1).kp0 hk2)
    rw [e1, e2] at hR
    go_wp2_with fail
    go_ret
    exact ⟨⟨_, rfl⟩, hR.out, hk1.trans0 hk2⟩
  | false =>
    by_cases hs : zs.length < k + m
    · have e1 : rdB zs k false m = true := by unfold rdB; rw [decide_eq_true hs]; rfl
      have e2 : rdK zs k false m = k := by unfold rdK; rw [e1]; rfl
      rw [e1, e2]
      obtain ⟨p, c, rfl⟩ : ∃ p c, v = .slice p zs.length c := by
        rcases h.2.1 with ⟨⟨pb, rfl⟩, rfl⟩ | ⟨g, off, c, rfl, _⟩
        · exact ⟨_, _, rfl⟩
        · exact ⟨_, _, rfl⟩
      have hle := h.2.1.le
      have hkz := h.2.2.2.2
      have HN := Lib.hid (next_short r p zs.length c k m w h.1 (by omega) (by omega) hle hkz)
      clear h hle hkz
      go_enter Try.func53, Try.ntmps53
      go_wp2_with fail
      refine HN.out.mono ?_; rintro e w1 ⟨rfl, h1, hk1⟩
      go_wp2_with fail
      refine (clone_calls (.slice none 0 0) [] w1 (.inl ⟨⟨_, rfl⟩, rfl⟩) (by simp)).mono ?_; rintro e w2 ⟨v2, rfl, _, hk2, _⟩
      have hR := Lib.hid ((H.out.read (m := m) (by rw [e1, e2]; exact h1) hk1).kp0 hk2)
      rw [e1, e2] at hR
      go_wp2_with fail
      go_ret
      exact ⟨⟨_, rfl⟩, hR.out, hk1.trans0 hk2⟩
    · have e1 : rdB zs k false m = false := by unfold rdB; rw [decide_eq_false hs]; rfl
      have e2 : rdK zs k false m = k + m := by unfold rdK; rw [e1]; rfl
      rw [e1, e2]
      rcases h.2.1 with ⟨⟨pb, rfl⟩, rfl⟩ | ⟨g, off, c, rfl, g1, g2, g3⟩
      · simp at hs; omega
      have HN := Lib.hid (next_ok r g off zs.length c k m m rfl w h.1 (by omega) (by omega) g1 g2)
      have HI : Hid (∀ W, Kp [r] w W → IsInts .u8 W (.slice (some ⟨g, off + k, none⟩) m (c - k)) ((zs.drop k).take m)) := fun W hW => by
        have hw := h.2.1.kp hW (fun t ht e => by simp at ht; subst ht; exact h.2.2.2.1 e)
        rcases hw with ⟨⟨pb, e⟩, h0⟩ | ⟨g', off', c', e, _, _, g4⟩
        · rw [h0] at hs; simp at hs; omega
        · cases e
          refine .inr ⟨g, off + k, c - k, by rw [show ((zs.drop k).take m).length = m by simp; omega], by simp; omega, by omega, fun i hi => ?_⟩
          have hi2 : i < m := by simp at hi; omega
          rw [Nat.add_assoc, g4 (k + i) (by omega)]
          simp only [List.getD_eq_getElem?_getD]
          rw [List.getElem?_take_of_lt hi2, List.getElem?_drop]
      clear h g1 g2 g3
      go_enter Try.func53, Try.ntmps53
      go_wp2_with fail
      refine HN.out.mono ?_; rintro e w1 ⟨rfl, h1, hk1⟩
      go_wp2_with fail
      refine (clone_calls _ _ w1 (HI.out _ hk1) (by simp; omega)).mono ?_; rintro e w2 ⟨v2, rfl, _, hk2, _⟩
      have hR := Lib.hid ((H.out.read (m := m) (by rw [e1, e2]; exact h1) hk1).kp0 hk2)
      rw [e1, e2] at hR
      go_wp2_with fail
      go_ret
      exact ⟨⟨_, rfl⟩, hR.out, hk1.trans0 hk2⟩
/-- What 'number' hands out: a function of no arguments that reads one. -/
def argN (X : Int) : Nat := if X = 1 ∨ X = 3 then 2 else 1
def argV (X x : Int) : Int := if X = 3 then s16 x else if X = 2 then s8 x else x
theorem s8_bounds (x : Int) (h0 : 0 ≤ x) (h1 : x < 256) : -128 ≤ s8 x ∧ s8 x ≤ 127 := by unfold s8; split <;> omega
set_option maxRecDepth 100000 in
theorem num1_calls (B : Nat) {w : World} {r : Nat} {v : Value} {zs : List Int} {k : Nat} {bad : Bool} (h : RdS w r v zs k bad) (hB : w.cell? ⟨B, 0, none⟩ = some (.pointer (some ⟨r, 0, none⟩))) :
    Calls Try.prog 146 #[.pointer (some ⟨B, 0, none⟩)] w fun e w' => e = .returned (.int .i64 (s8 (rdV zs k bad 1))) ∧ RdS w' r v zs (rdK zs k bad 1) (rdB zs k bad 1) ∧ Kp [r] w w' := by
  obtain ⟨q0, q1⟩ := rdV_bounds zs k bad 1 h.2.2.1
  have H := Lib.hid h
  have e1 := wrap8_s8 _ q0 (by simpa using q1)
  obtain ⟨q2, q3⟩ := s8_bounds _ q0 (by simpa using q1)
  have E1 := Lib.hid e1
  clear h e1
  go_enter Try.func146, Try.ntmps146
  go_wp2_with fail
  refine (u8S H.out).mono ?_; rintro e w1 ⟨rfl, h1, hk1⟩
  have H1 := Lib.hid h1
  clear h1
  generalize hy : rdV zs k bad 1 = y at E1 q0 q1 q2 q3 ⊢
  have E4 : Hid (s8 y = s8 (rdV zs k bad 1)) := by rw [hy]; rfl
  clear hy
  have e1 := E1.out
  go_wp2_with fail
  go_ret
  exact ⟨by rw [← E4.out]; first | rfl | simp, H1.out, hk1⟩
end Go.Proofs.Ytodjohoonbkklaa

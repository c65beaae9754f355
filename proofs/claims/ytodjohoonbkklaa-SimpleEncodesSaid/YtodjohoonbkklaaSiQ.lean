/- simple: Kind, of the program and of the reference. -/
import Derived.Test.YtodjohoonbkklaaSiE
import Derived.BigQuiet
import Derived.Deep.DeepCutAuto
namespace Go.Proofs.Ytodjohoonbkklaa
open Go.RowKit
set_option linter.unusedVariables false
set_option linter.unusedSimpArgs false
/-- What sort of glyph bytes are. -/
def kindM (zs : List Int) : Int := if zs.length = 0 then 0 else if 1 < zs.length ∧ 128 ≤ zs.getD 0 0 then 2 else 1
theorem ints_two {w : World} {v : Value} {zs : List Int} (h : IsInts .u8 w v zs) (h1 : 1 < zs.length) : ∃ g off c, v = .slice (some ⟨g, off, none⟩) zs.length c ∧ w.cell? ⟨g, off, none⟩ = some (.int .u8 (zs.getD 0 0)) := by
  rcases h with ⟨⟨a, e⟩, rfl⟩ | ⟨g, off, c, e, h2, h3, h4⟩
  · simp at h1
  · have := h4 0 (by omega)
    rw [Nat.add_zero] at this
    exact ⟨g, off, c, e, this⟩
set_option maxRecDepth 100000 in
set_option maxHeartbeats 4000000 in
theorem kind_calls (v : Value) (zs : List Int) (w : World) (hv : IsInts .u8 w v zs) : Calls Try.prog 46 #[v] w fun e w' => e = .returned (.int .i64 (kindM zs)) ∧ Kp [] w w' := by
  by_cases h1 : 1 < zs.length
  · obtain ⟨g, off, c, rfl, hc⟩ := ints_two hv h1
    obtain ⟨z, hz⟩ : ∃ z, zs.getD 0 0 = z := ⟨_, rfl⟩
    rw [hz] at hc
    obtain ⟨L, hL⟩ : ∃ L, zs.length = L := ⟨_, rfl⟩
    rw [hL] at h1 ⊢
    have hl0 : ((L : Int) == 0) = false := by rw [beq_eq_false_iff_ne]; omega
    have hl1 : decide ((1 : Int) < (L : Int)) = true := decide_eq_true (by omega)
    have hl2 : decide (1 < L) = true := decide_eq_true h1
    by_cases hz1 : 128 ≤ z
    · have hd : decide (128 ≤ z) = true := decide_eq_true hz1
      have HK : Hid (kindM zs = 2) := by show _ = _; unfold kindM; rw [hz, hL, if_neg (by omega), if_pos ⟨h1, hz1⟩]
      clear hv hz hL
      go_enter Try.func46, Try.ntmps46
      go_wp2_with fail
      go_ret
      rw [HK.out]
      exact ⟨rfl, by (repeat (first | exact Kp.refl _ _ | assumption | refine Kp.drew ?_ | refine Kp.drewN ?_ _ | refine Kp.alloc ?_ _ | (refine Kp.setCell ?_ (by first | (left; simp; done) | (right; simp; try omega)) _) | (refine Kp.trans' ?_ (by assumption) (by simp; try omega))))⟩
    · have hd : decide (128 ≤ z) = false := decide_eq_false hz1
      have HK : Hid (kindM zs = 1) := by show _ = _; unfold kindM; rw [hz, hL, if_neg (by omega), if_neg (by omega)]
      clear hv hz hL
      go_enter Try.func46, Try.ntmps46
      go_wp2_with fail
      go_ret
      rw [HK.out]
      exact ⟨rfl, by (repeat (first | exact Kp.refl _ _ | assumption | refine Kp.drew ?_ | refine Kp.drewN ?_ _ | refine Kp.alloc ?_ _ | (refine Kp.setCell ?_ (by first | (left; simp; done) | (right; simp; try omega)) _) | (refine Kp.trans' ?_ (by assumption) (by simp; try omega))))⟩
  · obtain ⟨p, c, rfl⟩ := hv.form
    obtain ⟨L, hL⟩ : ∃ L, zs.length = L := ⟨_, rfl⟩
    rw [hL] at h1 ⊢
    by_cases h0 : L = 0
    · subst h0
      have HK : Hid (kindM zs = 0) := by show _ = _; unfold kindM; rw [if_pos hL]
      clear hv hL
      go_enter Try.func46, Try.ntmps46
      go_wp2_with fail
      go_ret
      rw [HK.out]
      exact ⟨rfl, by (repeat (first | exact Kp.refl _ _ | assumption | refine Kp.drew ?_ | refine Kp.drewN ?_ _ | refine Kp.alloc ?_ _ | (refine Kp.setCell ?_ (by first | (left; simp; done) | (right; simp; try omega)) _) | (refine Kp.trans' ?_ (by assumption) (by simp; try omega))))⟩
    · obtain rfl : L = 1 := by omega
      have HK : Hid (kindM zs = 1) := by show _ = _; unfold kindM; rw [hL, if_neg (by omega), if_neg (by omega)]
      clear hv hL
      go_enter Try.func46, Try.ntmps46
      go_wp2_with fail
      go_ret
      rw [HK.out]
      exact ⟨rfl, by (repeat (first | exact Kp.refl _ _ | assumption | refine Kp.drew ?_ | refine Kp.drewN ?_ _ | refine Kp.alloc ?_ _ | (refine Kp.setCell ?_ (by first | (left; simp; done) | (right; simp; try omega)) _) | (refine Kp.trans' ?_ (by assumption) (by simp; try omega))))⟩
set_option maxRecDepth 100000 in
set_option maxHeartbeats 4000000 in
theorem rkind_calls (v : Value) (zs : List Int) (w : World) (hv : IsInts .u8 w v zs) : Calls Try.prog 47 #[v] w fun e w' => e = .returned (.int .i64 (kindM zs)) ∧ Kp [] w w' := by
  by_cases h1 : 1 < zs.length
  · obtain ⟨g, off, c, rfl, hc⟩ := ints_two hv h1
    obtain ⟨z, hz⟩ : ∃ z, zs.getD 0 0 = z := ⟨_, rfl⟩
    rw [hz] at hc
    obtain ⟨L, hL⟩ : ∃ L, zs.length = L := ⟨_, rfl⟩
    rw [hL] at h1 ⊢
    have hl0 : ((L : Int) == 0) = false := by rw [beq_eq_false_iff_ne]; omega
    have hl1 : decide ((1 : Int) < (L : Int)) = true := decide_eq_true (by omega)
    have hl2 : decide (1 < L) = true := decide_eq_true h1
    by_cases hz1 : 128 ≤ z
    · have hd : decide (128 ≤ z) = true := decide_eq_true hz1
      have HK : Hid (kindM zs = 2) := by show _ = _; unfold kindM; rw [hz, hL, if_neg (by omega), if_pos ⟨h1, hz1⟩]
      clear hv hz hL
      go_enter Try.func47, Try.ntmps47
      go_wp2_with fail
      go_ret
      rw [HK.out]
      exact ⟨rfl, by (repeat (first | exact Kp.refl _ _ | assumption | refine Kp.drew ?_ | refine Kp.drewN ?_ _ | refine Kp.alloc ?_ _ | (refine Kp.setCell ?_ (by first | (left; simp; done) | (right; simp; try omega)) _) | (refine Kp.trans' ?_ (by assumption) (by simp; try omega))))⟩
    · have hd : decide (128 ≤ z) = false := decide_eq_false hz1
      have HK : Hid (kindM zs = 1) := by show _ = _; unfold kindM; rw [hz, hL, if_neg (by omega), if_neg (by omega)]
      clear hv hz hL
      go_enter Try.func47, Try.ntmps47
      go_wp2_with fail
      go_ret
      rw [HK.out]
      exact ⟨rfl, by (repeat (first | exact Kp.refl _ _ | assumption | refine Kp.drew ?_ | refine Kp.drewN ?_ _ | refine Kp.alloc ?_ _ | (refine Kp.setCell ?_ (by first | (left; simp; done) | (right; simp; try omega)) _) | (refine Kp.trans' ?_ (by assumption) (by simp; try omega))))⟩
  · obtain ⟨p, c, rfl⟩ := hv.form
    obtain ⟨L, hL⟩ : ∃ L, zs.length = L := ⟨_, rfl⟩
    rw [hL] at h1 ⊢
    by_cases h0 : L = 0
    · subst h0
      have HK : Hid (kindM zs = 0) := by show _ = _; unfold kindM; rw [if_pos hL]
      clear hv hL
      go_enter Try.func47, Try.ntmps47
      go_wp2_with fail
      go_ret
      rw [HK.out]
      exact ⟨rfl, by (repeat (first | exact Kp.refl _ _ | assumption | refine Kp.drew ?_ | refine Kp.drewN ?_ _ | refine Kp.alloc ?_ _ | (refine Kp.setCell ?_ (by first | (left; simp; done) | (right; simp; try omega)) _) | (refine Kp.trans' ?_ (by assumption) (by simp; try omega))))⟩
    · obtain rfl : L = 1 := by omega
      have HK : Hid (kindM zs = 1) := by show _ = _; unfold kindM; rw [hL, if_neg (by omega), if_neg (by omega)]
      clear hv hL
      go_enter Try.func47, Try.ntmps47
      go_wp2_with fail
      go_ret
      rw [HK.out]
      exact ⟨rfl, by (repeat (first | exact Kp.refl _ _ | assumption | refine Kp.drew ?_ | refine Kp.drewN ?_ _ | refine Kp.alloc ?_ _ | (refine Kp.setCell ?_ (by first | (left; simp; done) | (right; simp; try omega)) _) | (refine Kp.trans' ?_ (by assumption) (by simp; try omega))))⟩
end Go.Proofs.Ytodjohoonbkklaa

/- compose: bits (the flags and the numbers of a matrix). -/
import Derived.Test.YtodjohoonbkklaaCpC
import Derived.Deep.RegionHeld3
import Derived.Test.YtodjohoonbkklaaQuiet
import Derived.Test.YtodjohoonbkklaaApp
namespace Go.Proofs.Ytodjohoonbkklaa
open Go.RowKit
set_option linter.unusedVariables false
set_option linter.unusedSimpArgs false
def mflag (a b c d : Int) : Int := if a = 16384 ∧ b = 0 ∧ c = 0 ∧ d = 16384 then 0 else if b ≠ 0 ∨ c ≠ 0 then 128 else if a = d then 8 else 64
def mnums (a b c d : Int) : List Int := if a = 16384 ∧ b = 0 ∧ c = 0 ∧ d = 16384 then [] else if b ≠ 0 ∨ c ≠ 0 then [a, b, c, d] else if a = d then [a] else [a, d]
theorem IsInts.lit {w W : World} (k : IntKind) (e : TypeId) (zs : List Int) (hk : Kp [] (w.alloc (.cells (zs.map (Value.int k)).toArray e)) W) (g n : Nat) (hg : g = w.heap.size) (hn : n = zs.length) (hl : n ≤ maxLen) : IsInts k W (.slice (some ⟨g, 0, none⟩) n n) zs := by
  subst hg; subst hn
  refine .inr ⟨_, 0, _, rfl, Nat.le_refl _, hl, fun i hi => ?_⟩
  rw [cell_of_row _ w.heap.size _ _ _ _ (hk.heap (heap_alloc_new w _) (by simp))]
  simp [List.getD_eq_getElem?_getD, List.getElem?_eq_getElem hi]
/-- How the model compares a matrix with the one that lets a point be. -/
theorem one_cmp (a b c d : Int) : ∃ X : Bool, (X = true ↔ a = 16384 ∧ b = 0 ∧ c = 0 ∧ d = 16384) ∧ ∀ W : World, (if a = 16384 then if b = 0 then if c = 0 then if d = 16384 then Result.ok (Next.value (Value.bool true)) W else Result.ok (Next.value (Value.bool false)) W else Result.ok (Next.value (Value.bool false)) W else Result.ok (Next.value (Value.bool false)) W else Result.ok (Next.value (Value.bool false)) W) = Result.ok (Next.value (Value.bool X)) W := by
  refine ⟨decide (a = 16384 ∧ b = 0 ∧ c = 0 ∧ d = 16384), by simp, fun W => ?_⟩
  by_cases h1 : a = 16384 <;> by_cases h2 : b = 0 <;> by_cases h3 : c = 0 <;> by_cases h4 : d = 16384 <;> simp [h1, h2, h3, h4]
set_option maxRecDepth 100000 in
set_option maxHeartbeats 4000000 in
theorem bits_calls (a b c d : Int) (w : World) : Calls Try.prog 118 #[.agg #[.int .i64 a, .int .i64 b, .int .i64 c, .int .i64 d]] w fun e w' => ∃ v, e = .returned (.tuple #[.int .i64 (mflag a b c d), v]) ∧ IsInts .i64 w' v (mnums a b c d) ∧ Kp [] w w' ∧ ∀ k, blockOf v = some k → w.heap.size ≤ k ∧ k < w'.heap.size := by
  have k0 : (w.alloc (.cells #[.int .i64 a, .int .i64 b, .int .i64 c, .int .i64 d] 34)).cell? ⟨w.heap.size, 0, none⟩ = some (.int .i64 a) := by go_simp
  have k1 : (w.alloc (.cells #[.int .i64 a, .int .i64 b, .int .i64 c, .int .i64 d] 34)).cell? ⟨w.heap.size, 1, none⟩ = some (.int .i64 b) := by go_simp
  have k2 : (w.alloc (.cells #[.int .i64 a, .int .i64 b, .int .i64 c, .int .i64 d] 34)).cell? ⟨w.heap.size, 2, none⟩ = some (.int .i64 c) := by go_simp
  have k3 : (w.alloc (.cells #[.int .i64 a, .int .i64 b, .int .i64 c, .int .i64 d] 34)).cell? ⟨w.heap.size, 3, none⟩ = some (.int .i64 d) := by go_simp
  have hka : Kp [] w (w.alloc (.cells #[.int .i64 a, .int .i64 b, .int .i64 c, .int .i64 d] 34)) := by (repeat (first | exact Kp.refl _ _ | assumption | refine Kp.drew ?_ | refine Kp.drewN ?_ _ | refine Kp.alloc ?_ _ | (refine Kp.setCell ?_ (by first | (left; simp; done) | (right; simp; try omega)) _) | (refine Kp.trans' ?_ (by assumption) (by simp; try omega))))
  go_enter Try.func118, Try.ntmps118
  go_wp2_with fail
  generalize hw1 : w.alloc (.cells #[.int .i64 a, .int .i64 b, .int .i64 c, .int .i64 d] 34) = w1 at *
  clear hw1
  generalize hg : w.heap.size = g at *
  have q0 := fun n : KW w1 => KW.cell k0 n
  have q1 := fun n : KW w1 => KW.cell k1 n
  have q2 := fun n : KW w1 => KW.cell k2 n
  have q3 := fun n : KW w1 => KW.cell k3 n
  obtain ⟨X, hX, hcmp⟩ := one_cmp a b c d
  have HX := Lib.hid hX
  clear hX
  refine wp_region_kq (by kernel_rfl) (by kernel_rfl) ?_
  repeat (go_big_quiet_step ((go_at_call 74; exact Calls.kq (aone_calls _))))
  refine wpQuiet_nil ?_
  intro w2 hw'
  obtain ⟨⟨_, hkw2⟩, rfl⟩ := hw'
  have j0 := hkw2.cell k0 (by simp)
  have j1 := hkw2.cell k1 (by simp)
  have j2 := hkw2.cell k2 (by simp)
  have j3 := hkw2.cell k3 (by simp)
  have hk02 := hka.trans hkw2
  clear q0 q1 q2 q3 k0 k1 k2 k3 hka hkw2
  clear hcmp
  cases X
  · have hn : ¬ (a = 16384 ∧ b = 0 ∧ c = 0 ∧ d = 16384) := fun h => by have := HX.out.2 h; simp at this
    by_cases hbc : b ≠ 0 ∨ c ≠ 0
    · have hf : Hid (mflag a b c d = 128) := by show _ = _; unfold mflag; rw [if_neg hn, if_pos hbc]
      have hm : Hid (mnums a b c d = [a, b, c, d]) := by show _ = _; unfold mnums; rw [if_neg hn, if_pos hbc]
      clear HX hn
      by_cases hb : b = 0
      · have hc : c ≠ 0 := by rcases hbc with h | h; exact absurd hb h; exact h
        clear hbc
        subst hb
        go_wp2_with fail
        go_region_held3 (fun w' => w'.cell? ⟨g, 0, none⟩ = some (.int .i64 a) ∧ w'.cell? ⟨g, 1, none⟩ = some (.int .i64 0) ∧ w'.cell? ⟨g, 2, none⟩ = some (.int .i64 c) ∧ w'.cell? ⟨g, 3, none⟩ = some (.int .i64 d)) (first | go_keep | exact ⟨j0, j1, j2, j3⟩) (fail)
        all_goals
          go_wp2_with fail
          go_ret2
          rw [hf.out, hm.out]
          exact ⟨_, rfl, IsInts.lit .i64 3 _ (by (repeat (first | exact Kp.refl _ _ | assumption | refine Kp.drew ?_ | refine Kp.drewN ?_ _ | refine Kp.alloc ?_ _ | (refine Kp.setCell ?_ (by first | (left; simp; done) | (right; simp; try omega)) _) | (refine Kp.trans' ?_ (by assumption) (by simp; try omega))))) _ _ (by simp [World.size_drew, World.drewN]) rfl (by decide), by (repeat (first | exact Kp.refl _ _ | assumption | refine Kp.drew ?_ | refine Kp.drewN ?_ _ | refine Kp.alloc ?_ _ | (refine Kp.setCell ?_ (by first | (left; simp; done) | (right; simp; try omega)) _) | (refine Kp.trans' ?_ (by assumption) (by simp; try omega)))), fun k hk => by have h1 := hk02.size; simp [World.size_drew, World.drewN] at hk ⊢; omega⟩
      · clear hbc
        go_wp2_with fail
        go_region_held3 (fun w' => w'.cell? ⟨g, 0, none⟩ = some (.int .i64 a) ∧ w'.cell? ⟨g, 1, none⟩ = some (.int .i64 b) ∧ w'.cell? ⟨g, 2, none⟩ = some (.int .i64 c) ∧ w'.cell? ⟨g, 3, none⟩ = some (.int .i64 d)) (first | go_keep | exact ⟨j0, j1, j2, j3⟩) (fail)
        all_goals
          go_wp2_with fail
          go_ret2
          rw [hf.out, hm.out]
          exact ⟨_, rfl, IsInts.lit .i64 3 _ (by (repeat (first | exact Kp.refl _ _ | assumption | refine Kp.drew ?_ | refine Kp.drewN ?_ _ | refine Kp.alloc ?_ _ | (refine Kp.setCell ?_ (by first | (left; simp; done) | (right; simp; try omega)) _) | (refine Kp.trans' ?_ (by assumption) (by simp; try omega))))) _ _ (by simp [World.size_drew, World.drewN]) rfl (by decide), by (repeat (first | exact Kp.refl _ _ | assumption | refine Kp.drew ?_ | refine Kp.drewN ?_ _ | refine Kp.alloc ?_ _ | (refine Kp.setCell ?_ (by first | (left; simp; done) | (right; simp; try omega)) _) | (refine Kp.trans' ?_ (by assumption) (by simp; try omega)))), fun k hk => by have h1 := hk02.size; simp [World.size_drew, World.drewN] at hk ⊢; omega⟩
    · have hb : b = 0 := by omega
      have hc : c = 0 := by omega
      clear hbc
      subst hb; subst hc
      by_cases had : a = d
      · have hf : Hid (mflag a 0 0 d = 8) := by show _ = _; unfold mflag; rw [if_neg hn, if_neg (by simp), if_pos had]
        have hm : Hid (mnums a 0 0 d = [a]) := by show _ = _; unfold mnums; rw [if_neg hn, if_neg (by simp), if_pos had]
        subst had
        clear HX hn
        go_wp2_with fail
        go_region_held3 (fun w' => w'.cell? ⟨g, 0, none⟩ = some (.int .i64 a) ∧ w'.cell? ⟨g, 1, none⟩ = some (.int .i64 0) ∧ w'.cell? ⟨g, 2, none⟩ = some (.int .i64 0) ∧ w'.cell? ⟨g, 3, none⟩ = some (.int .i64 a)) (first | go_keep | exact ⟨j0, j1, j2, j3⟩) (fail)
        all_goals
          go_wp2_with fail
          go_ret2
          rw [hf.out, hm.out]
          exact ⟨_, rfl, IsInts.lit .i64 3 _ (by (repeat (first | exact Kp.refl _ _ | assumption | refine Kp.drew ?_ | refine Kp.drewN ?_ _ | refine Kp.alloc ?_ _ | (refine Kp.setCell ?_ (by first | (left; simp; done) | (right; simp; try omega)) _) | (refine Kp.trans' ?_ (by assumption) (by simp; try omega))))) _ _ (by simp [World.size_drew, World.drewN]) rfl (by decide), by (repeat (first | exact Kp.refl _ _ | assumption | refine Kp.drew ?_ | refine Kp.drewN ?_ _ | refine Kp.alloc ?_ _ | (refine Kp.setCell ?_ (by first | (left; simp; done) | (right; simp; try omega)) _) | (refine Kp.trans' ?_ (by assumption) (by simp; try omega)))), fun k hk => by have h1 := hk02.size; simp [World.size_drew, World.drewN] at hk ⊢; omega⟩
      · have hf : Hid (mflag a 0 0 d = 64) := by show _ = _; unfold mflag; rw [if_neg hn, if_neg (by simp), if_neg had]
        have hm : Hid (mnums a 0 0 d = [a, d]) := by show _ = _; unfold mnums; rw [if_neg hn, if_neg (by simp), if_neg had]
        clear HX hn
        go_wp2_with fail
        go_region_held3 (fun w' => w'.cell? ⟨g, 0, none⟩ = some (.int .i64 a) ∧ w'.cell? ⟨g, 1, none⟩ = some (.int .i64 0) ∧ w'.cell? ⟨g, 2, none⟩ = some (.int .i64 0) ∧ w'.cell? ⟨g, 3, none⟩ = some (.int .i64 d)) (first | go_keep | exact ⟨j0, j1, j2, j3⟩) (fail)
        all_goals
          go_wp2_with fail
          go_ret2
          rw [hf.out, hm.out]
          exact ⟨_, rfl, IsInts.lit .i64 3 _ (by (repeat (first | exact Kp.refl _ _ | assumption | refine Kp.drew ?_ | refine Kp.drewN ?_ _ | refine Kp.alloc ?_ _ | (refine Kp.setCell ?_ (by first | (left; simp; done) | (right; simp; try omega)) _) | (refine Kp.trans' ?_ (by assumption) (by simp; try omega))))) _ _ (by simp [World.size_drew, World.drewN]) rfl (by decide), by (repeat (first | exact Kp.refl _ _ | assumption | refine Kp.drew ?_ | refine Kp.drewN ?_ _ | refine Kp.alloc ?_ _ | (refine Kp.setCell ?_ (by first | (left; simp; done) | (right; simp; try omega)) _) | (refine Kp.trans' ?_ (by assumption) (by simp; try omega)))), fun k hk => by have h1 := hk02.size; simp [World.size_drew, World.drewN] at hk ⊢; omega⟩
  · obtain ⟨rfl, rfl, rfl, rfl⟩ := HX.out.1 rfl
    clear HX
    go_wp2_with fail
    go_ret2
    exact ⟨_, rfl, IsInts.nil _ _, by (repeat (first | exact Kp.refl _ _ | assumption | refine Kp.drew ?_ | refine Kp.drewN ?_ _ | refine Kp.alloc ?_ _ | (refine Kp.setCell ?_ (by first | (left; simp; done) | (right; simp; try omega)) _) | (refine Kp.trans' ?_ (by assumption) (by simp; try omega)))), by simp⟩
end Go.Proofs.Ytodjohoonbkklaa

/- The reference's Select: what bytes are as a selection. -/
import Derived.Test.YthmokldmdcjklaaChPlainT
import Derived.Test.YthmokldmdcjklaaChD
namespace Go.Proofs.Ythmokldmdcjklaa
open Go.RowKit
set_option linter.unusedVariables false
set_option linter.unusedSimpArgs false
theorem rdB_bad (zs : List Int) (k m : Nat) : rdB zs k true m = true := by simp [rdB]
set_option maxRecDepth 100000 in
set_option maxHeartbeats 1000000 in
theorem rsel_bad (v : Value) (zs : List Int) (n : Nat) (q : Int) (h1 : 1 ≤ n) (h2 : n ≤ 65535) (w : World) (hz : IsInts .u8 w v zs) (hb : ∀ c ∈ zs, 0 ≤ c ∧ c ≤ 255) (hv : ∀ b, blockOf v = some b → b < w.heap.size)
    (HB1 : Hid (rdB zs 0 false 1 = true)) :
    Calls Try.prog 22 #[v, .int .i64 n, .int .i64 q] w (RLoaded .i64 none w) := by
  have HB : Hid _ := hb
  have HV : Hid _ := hv
  have hne : blockOf v ≠ some w.heap.size := fun e => by have := HV.out _ e; omega
  have hr1 : Rrd (w.alloc (.cells #[v, .int .i64 0, .bool false] 81)) w.heap.size v (0 : Nat) false := heap_alloc_new w _
  have hk1 : Kp [] w (w.alloc (.cells #[v, .int .i64 0, .bool false] 81)) := by (repeat (first | exact Kp.refl _ _ | assumption | refine Kp.drew ?_ | refine Kp.drewN ?_ _ | refine Kp.alloc ?_ _ | (refine Kp.setCell ?_ (by first | (left; simp; done) | (right; simp; try omega)) _) | (refine Kp.trans' ?_ (by assumption) (by simp; try omega))))
  have hz1 := hz.kp hk1 (by simp)
  have hsz : w.heap.size < (w.alloc (.cells #[v, .int .i64 0, .bool false] 81)).heap.size := by simp
  obtain ⟨pa, ca, hva⟩ : ∃ p c, v = .slice p zs.length c := by
    rcases hz with ⟨⟨ad, rfl⟩, rfl⟩ | ⟨g, off, c, rfl, _⟩
    · exact ⟨_, 0, rfl⟩
    · exact ⟨_, c, rfl⟩
  clear hb hv hz
  subst hva
  go_enter Try.func22, Try.ntmps22
  go_wp2_with fail
  generalize hvv : Value.slice pa zs.length ca = v at *
  generalize w.alloc (.cells #[v, .int .i64 0, .bool false] 81) = w1 at *
  generalize hr : w.heap.size = r at *
  refine (ru_calls r v zs 0 1 false 1 rfl _ hr1 hz1 HB.out hne (by omega) (by omega) (by omega)).mono ?_; rintro e w2 ⟨rfl, hr2, hk2⟩
  have hz2 := hz1.kp hk2 (by intro s hs; simp at hs; subst hs; exact hne)
  have e0 : rdV zs 0 false 1 = 0 := by unfold rdV; rw [HB1.out]; rfl
  rw [HB1.out] at hr2
  rw [e0]
  have hkl := rdK_le zs 0 false 1 (Nat.zero_le _)
  generalize rdK zs 0 false 1 = k1 at *
  clear hvv e0
  go_wp2_with fail
  go_loopw [10, 11, 12] (fun v9 i _ wr => wr = w2 ∧ i = .int .i64 0 ∧ v9 = .slice none 0 0) (fun _ _ _ _ => 0)
  case atStart => exact ⟨rfl, rfl, rfl⟩
  case round =>
    obtain ⟨rfl, rfl, rfl⟩ := hrel
    have h0n : decide ((0 : Int) < n) = true := by simp; omega
    go_wp2_with fail
    refine (ru_calls r v zs k1 1 true 1 rfl _ hr2 hz2 HB.out hne (by omega) (by omega) hkl).mono ?_; rintro e w3 ⟨rfl, hr3, hk3⟩
    rw [rdB_bad] at hr3
    obtain ⟨c0, c1, c2, f1, f2⟩ := hr3.facts
    generalize rdV zs k1 true 1 = fv at *
    go_wp2_with fail
    go_ret2
    exact .inl ⟨rfl, _, rfl, by subst hr; (repeat (first | exact Kp.refl _ _ | assumption | refine Kp.drew ?_ | refine Kp.drewN ?_ _ | refine Kp.alloc ?_ _ | (refine Kp.setCell ?_ (by first | (left; simp; done) | (right; simp; try omega)) _) | (refine Kp.trans' ?_ (by assumption) (by simp; try omega))))⟩
end Go.Proofs.Ythmokldmdcjklaa

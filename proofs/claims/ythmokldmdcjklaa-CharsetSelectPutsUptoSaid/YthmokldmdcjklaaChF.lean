/- How far a run goes; the question that charset.Put asks of a number. -/
import Derived.Test.YthmokldmdcjklaaChE

namespace Go.Proofs.Ythmokldmdcjklaa
open Go.RowKit
set_option linter.unusedVariables false
/-- How far a run goes: from n on, at most so many, as long as p says yes ('fuel': how many there are behind n). -/
def runGo (p : Nat → Bool) (most : Int) : Nat → Nat → Nat
  | 0, n => n
  | f + 1, n => if (n : Int) ≤ most ∧ p n = true then runGo p most f (n + 1) else n
theorem runGo_le (p : Nat → Bool) (most : Int) : ∀ (f n : Nat), n ≤ runGo p most f n ∧ runGo p most f n ≤ n + f := by
  intro f
  induction f with
  | zero => intro n; exact ⟨Nat.le_refl _, Nat.le_refl _⟩
  | succ f ih =>
    intro n
    unfold runGo
    split
    · have := ih (n + 1); omega
    · omega
theorem run_calls (k : Nat) (hent : ∀ (args : Array Value) (w : World), (callFunc k args).run Try.prog w = .ok (.enter k args) w) (cap : Value) (p : Nat → Bool) (most : Int) (a : Option Addr) (N c : Nat) (hN : N ≤ 65535) (h1 : 1 ≤ N) (w : World)
    (hp : ∀ i, 1 ≤ i → i < N → ∀ wr, Kp [] w wr → Calls Try.prog k #[.int .i64 (i : Nat), cap] wr fun e w' => e = .returned (.bool (p i)) ∧ Kp [] wr w') :
    Calls Try.prog 52 #[.slice a N c, .int .i64 most, .func (.func k) #[] #[cap]] w fun e w' => e = .returned (.int .i64 (runGo p most (N - 1) 1 : Nat)) ∧ Kp [] w w' := by
  have HP := Lib.hid hp
  clear hp
  go_enter Try.func52, Try.ntmps52
  go_wp2_with fail
  go_loopw [7] (fun i wr => ∃ j : Nat, 1 ≤ j ∧ j ≤ N ∧ i = .int .i64 j ∧ Hid (runGo p most (N - j) j = runGo p most (N - 1) 1) ∧ Kp [] w wr) (fun i _ => N - (intOf i).toNat)
  case atStart => exact ⟨1, by omega, by omega, rfl, rfl, Kp.refl _ _⟩
  case round =>
    obtain ⟨j, hj1, hj, rfl, hf, hk⟩ := hrel
    by_cases hlt : j < N
    · have hlt' : decide (j < N) = true := by simpa using hlt
      have e1 : N - j = (N - (j + 1)) + 1 := by omega
      have hf2 := hf.out
      rw [e1] at hf2
      clear e1 hf
      by_cases hm : (j : Int) ≤ most
      · have hcl := Lib.hid (HP.out j hj1 hlt wr hk)
        cases he : p j
        · have hr : Hid (runGo p most (N - 1) 1 = j) := by rw [← hf2]; unfold runGo; rw [if_neg (by simp [he])]; rfl
          rw [he] at hcl
          clear he hf2
          go_wp2_with fail
          refine Calls.mono hcl.out ?_; rintro e w2 ⟨rfl, hk2⟩
          go_wp2_with fail
          go_ret
          exact ⟨by rw [hr.out]; simp, by (repeat (first | exact Kp.refl _ _ | assumption | refine Kp.drew ?_ | refine Kp.drewN ?_ _ | refine Kp.alloc ?_ _ | (refine Kp.setCell ?_ (by first | (left; simp; done) | (right; simp; try omega)) _) | (refine Kp.trans' ?_ (by assumption) (by simp; try omega))))⟩
        · have hr : Hid (runGo p most (N - (j + 1)) (j + 1) = runGo p most (N - 1) 1) := by rw [← hf2]; exact (if_pos ⟨hm, he⟩).symm
          rw [he] at hcl
          clear he hf2
          go_wp2_with fail
          refine Calls.mono hcl.out ?_; rintro e w2 ⟨rfl, hk2⟩
          go_wp2_with fail
          go_roundw
          case rel => exact ⟨j + 1, by omega, by omega, by go_num, hr, by (repeat (first | exact Kp.refl _ _ | assumption | refine Kp.drew ?_ | refine Kp.drewN ?_ _ | refine Kp.alloc ?_ _ | (refine Kp.setCell ?_ (by first | (left; simp; done) | (right; simp; try omega)) _) | (refine Kp.trans' ?_ (by assumption) (by simp; try omega))))⟩
          case measure => simp [intOf]; omega
      · have hr : Hid (runGo p most (N - 1) 1 = j) := by rw [← hf2]; unfold runGo; rw [if_neg (fun h => hm h.1)]; rfl
        clear hf2
        have hm' : decide ((j : Int) ≤ most) = false := by simpa using hm
        go_wp2_with fail
        go_ret
        exact ⟨by rw [hr.out]; simp, hk⟩
    · obtain rfl : j = N := by omega
      have hlt' : decide (j < j) = false := by simp
      have hr : Hid (runGo p most (j - 1) 1 = j) := by rw [← hf.out, Nat.sub_self]; rfl
      go_wp2
      go_ret
      exact ⟨by rw [hr.out]; simp, hk⟩
theorem put1_calls (b : Nat) (v : Value) (xs : List Int) (i : Nat) (hi : i < xs.length) (w : World) (h : w.cell? ⟨b, 0, none⟩ = some v) (hv : IsInts .i64 w v xs) (hb : ∀ x ∈ xs, 0 ≤ x ∧ x ≤ 65535) (hl : xs.length ≤ 65535) :
    Calls Try.prog 53 #[.int .i64 i, .pointer (some ⟨b, 0, none⟩)] w fun e w' => e = .returned (.bool (xs.getD i 0 == xs.getD 0 0 + i)) ∧ Kp [] w w' := by
  rcases hv with ⟨⟨ad, rfl⟩, rfl⟩ | ⟨g, off, c, rfl, h1, h2, h3⟩
  · simp at hi
  · have c1 := h3 i hi
    have c0 := h3 0 (by omega)
    rw [Nat.add_zero] at c0
    have b0 : 0 ≤ xs.getD 0 0 ∧ xs.getD 0 0 ≤ 65535 := by
      have : xs.getD 0 0 ∈ xs := by rw [List.getD_eq_getElem?_getD, List.getElem?_eq_getElem (by omega)]; exact List.getElem_mem _
      exact hb _ this
    have h0 : 0 < xs.length := by omega
    clear h3 hb
    generalize xs.getD i 0 = x at *
    generalize xs.getD 0 0 = y at *
    go_enter Try.func53, Try.ntmps53
    go_wp2
    go_quiet (fail)
    go_wp2
    go_ret
    exact ⟨by simp, by (repeat (first | exact Kp.refl _ _ | assumption | refine Kp.drew ?_ | refine Kp.drewN ?_ _ | refine Kp.alloc ?_ _ | (refine Kp.setCell ?_ (by first | (left; simp; done) | (right; simp; try omega)) _) | (refine Kp.trans' ?_ (by assumption) (by simp; try omega))))⟩
end Go.Proofs.Ythmokldmdcjklaa

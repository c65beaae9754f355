/- Charsets: two slices of the same integers; counts. -/
import Derived.Test.YthmokldmdcjklaaWireC
import Derived.Test.YthmokldmdcjklaaChPlain
namespace Go.Proofs.Ythmokldmdcjklaa
open Go.RowKit
set_option linter.unusedVariables false
theorem infoInt : (Try.prog.info? 3).map (fun i => (i.zero, i.size, i.bytes)) = some (some (.int .i64 0), 1, 8) := by kernel_rfl
/-- Two slices of the same integers. -/
theorem same_true (a b : Value) (xs : List Int) (w : World) (ha : IsInts .i64 w a xs) (hb : IsInts .i64 w b xs) :
    Calls Try.prog 17 #[a, b] w fun e w' => e = .returned (.bool true) ∧ Kp [] w w' := by
  have hle := ha.le
  unfold maxLen at hle
  obtain ⟨pa, ca, rfl, hca⟩ : ∃ p c, a = .slice p xs.length c ∧ (0 < xs.length → ∃ g off, p = some ⟨g, off, none⟩ ∧ ∀ i, i < xs.length → w.cell? ⟨g, off + i, none⟩ = some (.int .i64 (xs.getD i 0))) := by
    rcases ha with ⟨⟨ad, rfl⟩, rfl⟩ | ⟨g, off, c, rfl, _, _, h⟩
    · exact ⟨_, 0, rfl, fun h => absurd h (by simp)⟩
    · exact ⟨_, c, rfl, fun _ => ⟨g, off, rfl, h⟩⟩
  obtain ⟨pb, cb, rfl, hcb⟩ : ∃ p c, b = .slice p xs.length c ∧ (0 < xs.length → ∃ g off, p = some ⟨g, off, none⟩ ∧ ∀ i, i < xs.length → w.cell? ⟨g, off + i, none⟩ = some (.int .i64 (xs.getD i 0))) := by
    rcases hb with ⟨⟨ad, rfl⟩, rfl⟩ | ⟨g, off, c, rfl, _, _, h⟩
    · exact ⟨_, 0, rfl, fun h => absurd h (by simp)⟩
    · exact ⟨_, c, rfl, fun _ => ⟨g, off, rfl, h⟩⟩
  have Ha : Hid _ := hca
  have Hb : Hid _ := hcb
  clear hca hcb ha hb
  go_enter Try.func17, Try.ntmps17
  go_wp2
  go_loopw [5] (fun i wr => ∃ j : Nat, j ≤ xs.length ∧ i = .int .i64 j ∧ Kp [] w wr) (fun i _ => xs.length - (intOf i).toNat)
  case atStart => exact ⟨0, by omega, rfl, Kp.refl _ _⟩
  case round =>
    obtain ⟨j, hj, rfl, hk⟩ := hrel
    by_cases hlt : j < xs.length
    · obtain ⟨g1, o1, rfl, h1⟩ := Ha.out (by omega)
      obtain ⟨g2, o2, rfl, h2⟩ := Hb.out (by omega)
      have c1 := hk.cell (h1 j hlt) (by simp)
      have c2 := hk.cell (h2 j hlt) (by simp)
      clear h1 h2
      generalize xs.getD j 0 = z at *
      go_wp2
      go_quiet (fail)
      go_wp2
      go_roundw
      case rel => exact ⟨j + 1, by omega, by go_num, by (repeat (first | exact Kp.refl _ _ | assumption | refine Kp.drew ?_ | refine Kp.drewN ?_ _ | refine Kp.alloc ?_ _ | (refine Kp.setCell ?_ (by first | (left; simp; done) | (right; simp; try omega)) _) | (refine Kp.trans' ?_ (by assumption) (by simp; try omega))))⟩
      case measure => simp [intOf]; omega
    · go_wp2
      go_ret
      exact ⟨rfl, hk⟩
theorem count_yes (n : Int) (h1 : 1 ≤ n) (h2 : n ≤ 65535) (w : World) : Calls Try.prog 43 #[.int .i64 n] w fun e w' => e = .returned (.bool true) ∧ w = w' := by
  go_enter Try.func43, Try.ntmps43
  go_wp2
  go_ret
  exact ⟨by simp, rfl⟩
theorem count_no (n : Int) (h1 : n < 1 ∨ 65535 < n) (w : World) : Calls Try.prog 43 #[.int .i64 n] w fun e w' => e = .returned (.bool false) ∧ w = w' := by
  by_cases h : n < 1
  · have h2 : decide (1 ≤ n) = false := by simpa using h
    go_enter Try.func43, Try.ntmps43
    go_wp2
    go_ret
    exact ⟨by simp, rfl⟩
  · go_enter Try.func43, Try.ntmps43
    go_wp2
    go_ret
    exact ⟨by simp; omega, rfl⟩
end Go.Proofs.Ythmokldmdcjklaa

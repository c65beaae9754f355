/- stack: serifref15.SameInts. -/
import Derived.Test.YtlnmpffpieofeaaStG
namespace Go.Proofs.Ytlnmpffpieofeaa
open Go.RowKit
set_option linter.unusedVariables false
set_option linter.unusedSimpArgs false
theorem take_same {xs ys : List Int} {j : Nat} (h1 : j < xs.length) (h2 : j < ys.length) (h : xs.take j = ys.take j) (e : xs.getD j 0 = ys.getD j 0) : xs.take (j + 1) = ys.take (j + 1) := by
  rw [List.take_succ_eq_append_getElem h1, List.take_succ_eq_append_getElem h2, h]
  rw [List.getD_eq_getElem?_getD, List.getD_eq_getElem?_getD, List.getElem?_eq_getElem h1, List.getElem?_eq_getElem h2] at e
  simp at e; rw [e]
set_option maxRecDepth 100000 in
set_option maxHeartbeats 2000000 in
theorem same_calls (va vb : Value) (xs ys : List Int) (w : World) (ha : IsInts .i64 w va xs) (hb : IsInts .i64 w vb ys) :
    Calls Try.prog 16 #[va, vb] w fun e w' => e = .returned (.bool (decide (xs = ys))) ∧ Kp [] w w' := by
  by_cases hl : xs.length = ys.length
  · rcases ha with ⟨⟨pa, rfl⟩, rfl⟩ | ⟨ga, oa, ca, rfl, a1, a2, a3⟩
    · have : ys = [] := List.eq_nil_of_length_eq_zero (by simpa using hl.symm)
      subst this
      obtain ⟨pb, cb, rfl⟩ : ∃ p c, vb = .slice p 0 c := by
        rcases hb with ⟨⟨pb, rfl⟩, _⟩ | ⟨g, off, c, rfl, _⟩
        · exact ⟨_, _, rfl⟩
        · exact ⟨_, _, rfl⟩
      clear hb hl
      go_enter Try.func16, Try.ntmps16
      go_wp2_with fail
      go_loopw [5] (fun i wr => i = .int .i64 0 ∧ wr = w) (fun _ _ => 0)
      case atStart => exact ⟨rfl, rfl⟩
      case round =>
        obtain ⟨rfl, rfl⟩ := hrel
        go_wp2_with fail
        go_ret
        exact ⟨by simp, Kp.refl _ _⟩
    · rcases hb with ⟨⟨pb, rfl⟩, rfl⟩ | ⟨gb, ob, cb, rfl, b1, b2, b3⟩
      · have : xs = [] := List.eq_nil_of_length_eq_zero (by simpa using hl)
        subst this
        clear a3
        go_enter Try.func16, Try.ntmps16
        go_wp2_with fail
        go_loopw [5] (fun i wr => i = .int .i64 0 ∧ wr = w) (fun _ _ => 0)
        case atStart => exact ⟨rfl, rfl⟩
        case round =>
          obtain ⟨rfl, rfl⟩ := hrel
          go_wp2_with fail
          go_ret
          exact ⟨by simp, Kp.refl _ _⟩
      · obtain ⟨n, hx, hy⟩ : ∃ n, xs.length = n ∧ ys.length = n := ⟨xs.length, rfl, hl.symm⟩
        rw [hx] at a1 a3
        rw [hy] at b1 b3
        rw [hx, hy]
        have hn := Lib.hid (And.intro hx hy)
        clear hx hy
        have A3 := Lib.hid a3
        have B3 := Lib.hid b3
        clear a3 b3 hl
        go_enter Try.func16, Try.ntmps16
        go_wp2_with fail
        go_loopw [5] (fun i wr => ∃ j : Nat, j ≤ n ∧ i = .int .i64 j ∧ Hid (xs.take j = ys.take j) ∧ Kp [] w wr) (fun i _ => n - (intOf i).toNat)
        case atStart => exact ⟨0, by omega, rfl, rfl, Kp.refl _ _⟩
        case round =>
          obtain ⟨j, hj, rfl, he, hk⟩ := hrel
          by_cases hlt : j < n
          · have hw9 : IntKind.i64.wrap ((j : Int) + 1) = (j : Int) + 1 := by unfold maxLen at a2; rw [IntKind.wrap_i64]; omega
            have q0 := KW.cell (hk.cell (A3.out j hlt) (by simp))
            have q1 := KW.cell (hk.cell (B3.out j hlt) (by simp))
            by_cases hxy : xs.getD j 0 = ys.getD j 0
            · have hs : Hid (xs.take (j + 1) = ys.take (j + 1)) := take_same (by rw [hn.out.1]; exact hlt) (by rw [hn.out.2]; exact hlt) he.out hxy
              rw [← hxy] at q1
              clear hxy
              generalize xs.getD j 0 = x at *
              go_wp2_with fail
              refine wp_region_kq (by kernel_rfl) (by kernel_rfl) ?_
              repeat (go_big_quiet_step (fail))
              refine wpQuiet_nil ?_
              intro w1 hw'
              obtain ⟨⟨_, hkw1⟩, rfl⟩ := hw'
              clear q0 q1
              go_wp2_with fail
              go_round
              case rel => exact ⟨j + 1, by omega, by go_num, hs, hk.trans hkw1⟩
              case measure => simp [intOf]; omega
            · have hs : Hid (xs ≠ ys) := fun e => hxy (by rw [e])
              have hxy' : (xs.getD j 0 != ys.getD j 0) = true := bne_iff_ne.2 hxy
              clear he
              generalize xs.getD j 0 = x at *
              generalize ys.getD j 0 = y at *
              go_wp2_with fail
              refine wp_region_kq (by kernel_rfl) (by kernel_rfl) ?_
              repeat (go_big_quiet_step (fail))
              refine wpQuiet_nil ?_
              intro w1 hw'
              obtain ⟨⟨_, hkw1⟩, rfl⟩ := hw'
              clear q0 q1
              go_wp2_with fail
              go_ret
              exact ⟨by rw [decide_eq_false hs.out]; first | done | rfl | simp, hk.trans hkw1⟩
          · have hs : Hid (xs = ys) := by
              have := he.out
              rw [List.take_of_length_le (by rw [hn.out.1]; omega), List.take_of_length_le (by rw [hn.out.2]; omega)] at this
              exact this
            clear he
            go_wp2_with fail
            go_ret
            exact ⟨by rw [decide_eq_true hs.out]; first | done | rfl | simp, hk⟩
  · have hd : decide (xs = ys) = false := decide_eq_false (fun e => hl (by rw [e]))
    rw [hd]
    have hne : ((xs.length : Int) != (ys.length : Int)) = true := bne_iff_ne.2 (by omega)
    obtain ⟨pa, ca, rfl⟩ : ∃ p c, va = .slice p xs.length c := by
      rcases ha with ⟨⟨pb, rfl⟩, rfl⟩ | ⟨g, off, c, rfl, _⟩
      · exact ⟨_, _, rfl⟩
      · exact ⟨_, _, rfl⟩
    obtain ⟨pb, cb, rfl⟩ : ∃ p c, vb = .slice p ys.length c := by
      rcases hb with ⟨⟨pb, rfl⟩, rfl⟩ | ⟨g, off, c, rfl, _⟩
      · exact ⟨_, _, rfl⟩
      · exact ⟨_, _, rfl⟩
    clear ha hb hd
    go_enter Try.func16, Try.ntmps16
    go_wp2_with fail
    go_ret
    exact ⟨rfl, Kp.refl _ _⟩
end Go.Proofs.Ytlnmpffpieofeaa

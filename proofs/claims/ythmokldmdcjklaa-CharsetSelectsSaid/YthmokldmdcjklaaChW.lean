/- The walk of the statement CharsetSelects. (Written by wip/charset/genlawsel.py.) -/
import Derived.Test.YthmokldmdcjklaaChM
import Derived.Test.YthmokldmdcjklaaChV
namespace Go.Proofs.Ythmokldmdcjklaa
open Go.RowKit
set_option linter.unusedVariables false
set_option linter.unusedSimpArgs false
set_option maxRecDepth 100000 in
set_option maxHeartbeats 4000000 in
theorem law_CharsetSelects (v : Value) (zs : List Int) (n k : Int) (w : World) (hz : IsInts .u8 w v zs) (hb : ∀ c ∈ zs, 0 ≤ c ∧ c ≤ 255) (hv : ∀ b, blockOf v = some b → b < w.heap.size) (hl : zs.length ≤ 140737488351232) :
    Calls Try.prog 5 #[v, .int .i64 n, .int .i64 k] w fun e w' => e = .returned (.bool true) ∧ Kp [] w w' := by
  by_cases hbig : 5000 < n ∧ n ≤ 65535
  · obtain ⟨hb1, hb2⟩ := hbig
    go_enter Try.func5, Try.ntmps5
    go_wp2_with fail
    refine (lives16_calls _).mono ?_; rintro e w1 ⟨rfl, hk⟩
    go_wp2_with fail
    go_ret
    exact ⟨by simp, hk⟩
  · have HB := Lib.hid hb
    have HV := Lib.hid hv
    have HZ := Lib.hid hz
    obtain ⟨pa, ca, hva⟩ : ∃ p c, v = .slice p zs.length c := by
      rcases hz with ⟨⟨ad, rfl⟩, rfl⟩ | ⟨g, off, c, rfl, _⟩
      · exact ⟨_, 0, rfl⟩
      · exact ⟨_, c, rfl⟩
    have hcase : n ≤ 5000 ∨ (5000 < n ∧ 65535 < n) := by omega
    clear hb hv hz hbig
    subst hva
    rcases hcase with h5 | ⟨h5, h6⟩
    · have h5' : decide (5000 < n) = false := by simpa using h5
      go_enter Try.func5, Try.ntmps5
      go_wp2_with (at_builtin; refine wpList_app rfl _ _ 22 rfl w.heap.size 5 (.int .u8 0) 1 1 Try.underlying22 infoByte rfl (by decide) (by decide) (.slice (some ⟨w.heap.size, 0, none⟩) 0 0) 0 [] rfl ?hown (.slice pa zs.length ca) zs.length (zs.map (Value.int .u8)) rfl ?hsrc (oneCell_ints _ _) ?hb1 ?hb2 ?hk)
      case hown => exact own_empty _ _ _ _ _ rfl (by omega)
      case hsrc => exact (HZ.out.kp (S := []) ((Kp.refl _ _).alloc _) (by simp)).reads
      case hb1 => omega
      case hb2 => simp
      case hk =>
      intro v1 w1 hown hgr
      try simp only [Nat.zero_add, List.nil_append] at hown
      have hk1 : Kp [] w w1 := Kp.grown ((Kp.refl _ _).alloc _) hgr (by intro k hk; right; simp [Value.ownBlock] at hk; omega)
      have hi1 := Lib.hid (IsInts.owned hown)
      have hlt1 := Lib.hid (fun b (hb : blockOf v1 = some b) => (hown.lt b (blockOf_own hb)).2)
      clear hown hgr
      by_cases hn : n < 1
      · go_wp2_with fail
        refine (select_arg v1 n k (by omega) _).mono ?_; rintro e w' ⟨rfl, rfl⟩
        go_wp2_with fail
        refine (lives16_calls _).mono ?_; rintro e w3 ⟨rfl, hk3⟩
        go_wp2_with fail
        go_ret
        exact ⟨by simp, hk1.trans hk3⟩
      · have hn1 : decide (n < 1) = false := by simpa using hn
        have hn2 : decide (65535 < n) = false := by simp; omega
        by_cases hk0 : k < 1
        · go_wp2_with fail
          refine (select_arg v1 n k (by omega) _).mono ?_; rintro e w' ⟨rfl, rfl⟩
          go_wp2_with fail
          refine (lives16_calls _).mono ?_; rintro e w3 ⟨rfl, hk3⟩
          go_wp2_with fail
          go_ret
          exact ⟨by simp, hk1.trans hk3⟩
        · have hk0' : decide (k < 1) = false := by simpa using hk0
          by_cases hk9 : 256 < k
          · go_wp2_with fail
            refine (select_arg v1 n k (by omega) _).mono ?_; rintro e w' ⟨rfl, rfl⟩
            go_wp2_with fail
            refine (lives16_calls _).mono ?_; rintro e w3 ⟨rfl, hk3⟩
            go_wp2_with fail
            go_ret
            exact ⟨by simp, hk1.trans hk3⟩
          · have hk9' : decide (256 < k) = false := by simpa using hk9
            obtain ⟨m, rfl⟩ : ∃ m : Nat, n = m := ⟨n.toNat, by omega⟩
            have hm1 : 1 ≤ m := by omega
            have hm2 : m ≤ 65535 := by omega
            have hmn : decide ((m : Int) < 1) = false := by simp; omega
            go_wp2_with fail
            refine (select_calls v1 zs m k hm1 hm2 (by omega) (by omega) _ hi1.out HB.out hlt1.out).mono ?_
            rintro e w2 (⟨hR, rfl, hk2⟩ | ⟨l, v2, hR, rfl, hi2, hk2, hb2⟩)
            · have HR := Lib.hid hR
              clear hR
              go_wp2_with fail
              refine (lives16_calls _).mono ?_; rintro e w3 ⟨rfl, hk3⟩
              have hk03 : Kp [] w w3 := (hk1.trans hk2).trans hk3
              go_wp2_with fail
              refine (rselect_calls _ zs m k hm1 hm2 _ (HZ.out.kp hk03 (by simp)) HB.out (fun b hb => by have := HV.out b hb; have := hk03.size; omega)).mono ?_
              rintro e w4 (⟨_, v4, rfl, hk4⟩ | ⟨l4, v4, hR4, _⟩)
              rotate_left
              · rw [HR.out] at hR4; simp at hR4
              go_wp2_with fail
              go_ret
              exact ⟨by simp, hk03.trans hk4⟩
            · have HR := Lib.hid hR
              have HI2 := Lib.hid hi2
              clear hR hb2 hi2
              go_wp2_with fail
              refine (lives16_calls _).mono ?_; rintro e w3 ⟨rfl, hk3⟩
              have hk03 : Kp [] w w3 := (hk1.trans hk2).trans hk3
              go_wp2_with fail
              refine (rselect_calls _ zs m k hm1 hm2 _ (HZ.out.kp hk03 (by simp)) HB.out (fun b hb => by have := HV.out b hb; have := hk03.size; omega)).mono ?_
              rintro e w4 (⟨hR4, _⟩ | ⟨l4, v4, hR4, rfl, hi4, hk4, hb4⟩)
              · rw [HR.out] at hR4; simp at hR4
              rw [HR.out] at hR4
              obtain rfl := Option.some.inj hR4
              have hi24 := HI2.out.kp (hk3.trans hk4) (by simp)
              have HI4 := Lib.hid hi4
              clear hR4 hb4 hi4
              have hsame := Lib.hid (same_true v2 v4 l w4 hi24 HI4.out)
              have hk04 := hk03.trans hk4
              clear hi24
              go_wp2_with fail
              refine Calls.mono hsame.out ?_; rintro e w5 ⟨rfl, hk5⟩
              go_wp2_with fail
              go_ret
              exact ⟨by simp, hk04.trans hk5⟩
    · have h6' : decide (n ≤ 65535) = false := by simpa using h6
      go_enter Try.func5, Try.ntmps5
      go_wp2_with (at_builtin; refine wpList_app rfl _ _ 22 rfl w.heap.size 5 (.int .u8 0) 1 1 Try.underlying22 infoByte rfl (by decide) (by decide) (.slice (some ⟨w.heap.size, 0, none⟩) 0 0) 0 [] rfl ?hown (.slice pa zs.length ca) zs.length (zs.map (Value.int .u8)) rfl ?hsrc (oneCell_ints _ _) ?hb1 ?hb2 ?hk)
      case hown => exact own_empty _ _ _ _ _ rfl (by omega)
      case hsrc => exact (HZ.out.kp (S := []) ((Kp.refl _ _).alloc _) (by simp)).reads
      case hb1 => omega
      case hb2 => simp
      case hk =>
      intro v1 w1 hown hgr
      try simp only [Nat.zero_add, List.nil_append] at hown
      have hk1 : Kp [] w w1 := Kp.grown ((Kp.refl _ _).alloc _) hgr (by intro k hk; right; simp [Value.ownBlock] at hk; omega)
      have hi1 := Lib.hid (IsInts.owned hown)
      have hlt1 := Lib.hid (fun b (hb : blockOf v1 = some b) => (hown.lt b (blockOf_own hb)).2)
      clear hown hgr
      go_wp2_with fail
      refine (select_arg v1 n k (by omega) _).mono ?_; rintro e w' ⟨rfl, rfl⟩
      go_wp2_with fail
      refine (lives16_calls _).mono ?_; rintro e w3 ⟨rfl, hk3⟩
      go_wp2_with fail
      go_ret
      exact ⟨by simp, hk1.trans hk3⟩
end Go.Proofs.Ythmokldmdcjklaa

/- The walk of the statement MetricLoads. (Written by wip/metric/genlawmt.py.) -/
import Derived.Test.YthmokldmdcjklaaMtN
import Derived.Test.YthmokldmdcjklaaMtX
namespace Go.Proofs.Ythmokldmdcjklaa
open Go.RowKit
set_option linter.unusedVariables false
set_option linter.unusedSimpArgs false
set_option maxRecDepth 100000 in
set_option maxHeartbeats 4000000 in
theorem law_MetricLoads (v : Value) (zs : List Int) (n m glyph : Int) (w : World) (hz : IsInts .u8 w v zs) (hb : ∀ c ∈ zs, 0 ≤ c ∧ c ≤ 255) (hv : ∀ b, blockOf v = some b → b < w.heap.size) (hl : zs.length ≤ 140737488351232) :
    Calls Try.prog 8 #[v, .int .i64 n, .int .i64 m, .int .i64 glyph] w fun e w' => e = .returned (.bool true) ∧ Kp [] w w' := by
  by_cases hbig : 3000 < n ∧ n ≤ 65535
  · obtain ⟨hb1, hb2⟩ := hbig
    go_enter Try.func8, Try.ntmps8
    go_wp2_with fail
    refine (lives06_calls _).mono ?_; rintro e w1 ⟨rfl, hk⟩
    go_wp2_with fail
    go_ret
    exact ⟨by first | rfl | simp, hk⟩
  · have HB := Lib.hid hb
    have HV := Lib.hid hv
    have HZ := Lib.hid hz
    obtain ⟨pa, ca, hva⟩ : ∃ p c, v = .slice p zs.length c := by
      rcases hz with ⟨⟨ad, rfl⟩, rfl⟩ | ⟨g, off, c, rfl, _⟩
      · exact ⟨_, 0, rfl⟩
      · exact ⟨_, c, rfl⟩
    have hcase : n ≤ 3000 ∨ (3000 < n ∧ 65535 < n) := by omega
    clear hb hv hz hbig
    subst hva
    rcases hcase with h5 | ⟨h5, h6⟩
    · have h5' : decide (3000 < n) = false := by simpa using h5
      go_enter Try.func8, Try.ntmps8
      go_wp2_with (at_builtin; refine wpList_app rfl _ _ 22 rfl w.heap.size 5 (.int .u8 0) 1 1 Try.underlying22 infoByte rfl (by decide) (by decide) (.slice (some ⟨w.heap.size, 0, none⟩) 0 0) 0 [] rfl ?hown (.slice pa zs.length ca) zs.length (zs.map (Value.int .u8)) rfl ?hsrc (oneCell_ints _ _) ?hb1 ?hb2 ?hk)
      case hown => exact own_empty _ _ _ _ _ rfl (by omega)
      case hsrc => exact (HZ.out.kp (S := []) ((Kp.refl _ _).alloc _) (by simp)).reads
      case hb1 => first | omega | (simp; omega) | simp
      case hb2 => first | omega | (simp; omega) | simp
      case hk =>
      intro v1 w1 hown hgr
      try simp only [Nat.zero_add, List.nil_append] at hown
      have hk1 : Kp [] w w1 := Kp.grown ((Kp.refl _ _).alloc _) hgr (by intro k hk; right; simp [Value.ownBlock] at hk; omega)
      have hi1 := Lib.hid (IsInts.owned hown)
      have hlt1 := Lib.hid (fun b (hb : blockOf v1 = some b) => (hown.lt b (blockOf_own hb)).2)
      clear hown hgr
      by_cases hn : n < 1
      · go_wp2_with fail
        refine (metload_no v1 n m _ (by omega)).mono ?_; rintro e w2 ⟨rfl, hk2⟩
        go_wp2_with fail
        refine (lives06_calls _).mono ?_; rintro e w3 ⟨rfl, hk3⟩
        go_wp2_with fail
        go_ret
        exact ⟨by first | rfl | simp, (hk1.trans hk2).trans hk3⟩
      · have hn1 : decide (n < 1) = false := by simpa using hn
        have hn2 : decide (65535 < n) = false := by simp; omega
        by_cases hk0 : m < 1
        · go_wp2_with fail
          refine (metload_no v1 n m _ (by omega)).mono ?_; rintro e w2 ⟨rfl, hk2⟩
          go_wp2_with fail
          refine (lives06_calls _).mono ?_; rintro e w3 ⟨rfl, hk3⟩
          go_wp2_with fail
          go_ret
          exact ⟨by first | rfl | simp, (hk1.trans hk2).trans hk3⟩
        · have hk0' : decide (m < 1) = false := by simpa using hk0
          by_cases hk9 : n < m
          · go_wp2_with fail
            refine (metload_no v1 n m _ (by omega)).mono ?_; rintro e w2 ⟨rfl, hk2⟩
            go_wp2_with fail
            refine (lives06_calls _).mono ?_; rintro e w3 ⟨rfl, hk3⟩
            go_wp2_with fail
            go_ret
            exact ⟨by first | rfl | simp, (hk1.trans hk2).trans hk3⟩
          · have hk9' : decide (n < m) = false := by simpa using hk9
            obtain ⟨nn, rfl⟩ : ∃ k : Nat, n = k := ⟨n.toNat, by omega⟩
            obtain ⟨mm, rfl⟩ : ∃ k : Nat, m = k := ⟨m.toNat, by omega⟩
            have hm1 : 1 ≤ mm := by omega
            have hm2 : mm ≤ nn := by omega
            have hm3 : nn ≤ 65535 := by omega
            go_wp2_with fail
            refine (metload_calls v1 zs nn mm hm1 hm2 hm3 _ hi1.out HB.out hlt1.out).mono ?_
            rintro e w2 (⟨hR, rfl, hk2⟩ | ⟨hR, q, rfl, hp2, hk2⟩)
            · have HR := Lib.hid hR
              clear hR
              go_wp2_with fail
              refine (lives06_calls _).mono ?_; rintro e w3 ⟨rfl, hk3⟩
              have hk03 : Kp [] w w3 := (hk1.trans hk2).trans hk3
              go_wp2_with fail
              refine (rmetload_calls _ zs nn mm hm1 hm2 hm3 _ (HZ.out.kp hk03 (by simp)) HB.out (fun b hb => by have := HV.out b hb; have := hk03.size; omega)).mono ?_
              rintro e w4 (⟨_, v4, rfl, hk4⟩ | ⟨hR4, _⟩)
              rotate_left
              · exact absurd hR4 (by have := HR.out; omega)
              go_wp2_with fail
              go_ret
              exact ⟨by first | rfl | simp, hk03.trans hk4⟩
            · have HR := Lib.hid hR
              have HP2 := Lib.hid hp2
              clear hR hp2
              go_wp2_with fail
              refine (lives06_calls _).mono ?_; rintro e w3 ⟨rfl, hk3⟩
              have hk03 : Kp [] w w3 := (hk1.trans hk2).trans hk3
              go_wp2_with fail
              refine (rmetload_calls _ zs nn mm hm1 hm2 hm3 _ (HZ.out.kp hk03 (by simp)) HB.out (fun b hb => by have := HV.out b hb; have := hk03.size; omega)).mono ?_
              rintro e w4 (⟨hR4, _⟩ | ⟨_, v4, rfl, hi4, hk4⟩)
              · exact absurd hR4 (by have := HR.out; omega)
              have hst := Lib.hid (holds_calls q v4 (advsL zs mm nn) (bearsL zs mm nn) (metsL zs mm nn) glyph w4 (HP2.out.kp (hk3.trans hk4)) hi4 (by rw [bearsL_length, metsL_length]) (by rw [advsL_length]; omega) (by rw [advsL_length]; omega) (by rw [metsL_length]; omega) (metsL_pairs zs mm nn hm1 hm2))
              have hk04 := hk03.trans hk4
              clear hi4
              go_wp2_with fail
              refine Calls.mono hst.out ?_; rintro e w5 ⟨rfl, hk5⟩
              go_wp2_with fail
              go_ret
              exact ⟨by first | rfl | simp, hk04.trans hk5⟩
    · have h6' : decide (n ≤ 65535) = false := by simpa using h6
      go_enter Try.func8, Try.ntmps8
      go_wp2_with (at_builtin; refine wpList_app rfl _ _ 22 rfl w.heap.size 5 (.int .u8 0) 1 1 Try.underlying22 infoByte rfl (by decide) (by decide) (.slice (some ⟨w.heap.size, 0, none⟩) 0 0) 0 [] rfl ?hown (.slice pa zs.length ca) zs.length (zs.map (Value.int .u8)) rfl ?hsrc (oneCell_ints _ _) ?hb1 ?hb2 ?hk)
      case hown => exact own_empty _ _ _ _ _ rfl (by omega)
      case hsrc => exact (HZ.out.kp (S := []) ((Kp.refl _ _).alloc _) (by simp)).reads
      case hb1 => first | omega | (simp; omega) | simp
      case hb2 => first | omega | (simp; omega) | simp
      case hk =>
      intro v1 w1 hown hgr
      try simp only [Nat.zero_add, List.nil_append] at hown
      have hk1 : Kp [] w w1 := Kp.grown ((Kp.refl _ _).alloc _) hgr (by intro k hk; right; simp [Value.ownBlock] at hk; omega)
      have hi1 := Lib.hid (IsInts.owned hown)
      have hlt1 := Lib.hid (fun b (hb : blockOf v1 = some b) => (hown.lt b (blockOf_own hb)).2)
      clear hown hgr
      go_wp2_with fail
      refine (metload_no v1 n m _ (by omega)).mono ?_; rintro e w2 ⟨rfl, hk2⟩
      go_wp2_with fail
      refine (lives06_calls _).mono ?_; rintro e w3 ⟨rfl, hk3⟩
      go_wp2_with fail
      go_ret
      exact ⟨by first | rfl | simp, (hk1.trans hk2).trans hk3⟩
end Go.Proofs.Ythmokldmdcjklaa

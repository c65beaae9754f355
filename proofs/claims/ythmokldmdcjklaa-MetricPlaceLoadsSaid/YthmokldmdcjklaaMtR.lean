/- The walk of the statement MetricPlaceLoads. (Written by wip/metric/genlawpl.py.) -/
import Derived.Test.YthmokldmdcjklaaMtN
import Derived.Test.YthmokldmdcjklaaMtQ
namespace Go.Proofs.Ythmokldmdcjklaa
open Go.RowKit
set_option linter.unusedVariables false
set_option linter.unusedSimpArgs false
theorem plGo_len (zs : List Int) (long : Bool) (size : Int) : ∀ (m : Nat) (last : Int) (l : List Int) (k : Nat) (l' : List Int), plGo zs long size m last l k = some l' → l'.length = l.length + m := by
  intro m
  induction m with
  | zero => intro last l k l' h; unfold plGo at h; cases h; rfl
  | succ m ih =>
    intro last l k l' h
    unfold plGo at h
    split at h
    · cases h
    · have := ih _ _ _ _ h
      rw [this, List.length_append, List.length_singleton]; omega
theorem plLoad_len (zs : List Int) (n : Nat) (long : Bool) (size : Int) (l : List Int) (h : plLoad zs n long size = some l) : l.length = n + 1 := by
  have := plGo_len zs long size _ _ _ _ _ h
  simpa using this
set_option maxRecDepth 100000 in
set_option maxHeartbeats 4000000 in
theorem law_MetricPlaceLoads (v : Value) (zs : List Int) (n size : Int) (long : Bool) (w : World) (hz : IsInts .u8 w v zs) (hb : ∀ c ∈ zs, 0 ≤ c ∧ c ≤ 255) (hv : ∀ b, blockOf v = some b → b < w.heap.size) (hl : zs.length ≤ 140737488351232) :
    Calls Try.prog 10 #[v, .int .i64 n, .bool long, .int .i64 size] w fun e w' => e = .returned (.bool true) ∧ Kp [] w w' := by
  by_cases hbig : 3000 < n ∧ n ≤ 65535
  · obtain ⟨hb1, hb2⟩ := hbig
    go_enter Try.func10, Try.ntmps10
    go_wp2_with fail
    refine (lives06_calls _).mono ?_; rintro e w1 ⟨rfl, hk⟩
    go_wp2_with fail
    go_ret
    exact ⟨by first | rfl | simp, hk⟩
  · have HB := Lib.hid hb
    have HV := Lib.hid hv
    have HZ := Lib.hid hz
    obtain ⟨pa, ca, hva⟩ : ∃ p c, v = .slice p zs.length c := by
      rcases hz with ⟨⟨ad, rfl⟩, rfl⟩ | ⟨g, off, c, rfl, _⟩
      · exact ⟨_, 0, rfl⟩
      · exact ⟨_, c, rfl⟩
    have hcase : n ≤ 3000 ∨ (3000 < n ∧ 65535 < n) := by omega
    clear hb hv hz hbig
    subst hva
    rcases hcase with h5 | ⟨h5, h6⟩
    · have h5' : decide (3000 < n) = false := by simpa using h5
      go_enter Try.func10, Try.ntmps10
      go_wp2_with (at_builtin; refine wpList_app rfl _ _ 22 rfl w.heap.size 5 (.int .u8 0) 1 1 Try.underlying22 infoByte rfl (by decide) (by decide) (.slice (some ⟨w.heap.size, 0, none⟩) 0 0) 0 [] rfl ?hown (.slice pa zs.length ca) zs.length (zs.map (Value.int .u8)) rfl ?hsrc (oneCell_ints _ _) ?hb1 ?hb2 ?hk)
      case hown => exact own_empty _ _ _ _ _ rfl (by omega)
      case hsrc => exact (HZ.out.kp (S := []) ((Kp.refl _ _).alloc _) (by simp)).reads
      case hb1 => first | omega | (simp; omega) | simp
      case hb2 => first | omega | (simp; omega) | simp
      case hk =>
      intro v1 w1 hown hgr
      try simp only [Nat.zero_add, List.nil_append] at hown
      have hk1 : Kp [] w w1 := Kp.grown ((Kp.refl _ _).alloc _) hgr (by intro k hk; right; simp [Value.ownBlock] at hk; omega)
      have hi1 := Lib.hid (IsInts.owned hown)
      have hlt1 := Lib.hid (fun b (hb : blockOf v1 = some b) => (hown.lt b (blockOf_own hb)).2)
      clear hown hgr
      by_cases hn : n < 1
      · go_wp2_with fail
        refine (plload_no v1 n long size _ (by omega)).mono ?_; rintro e w2 ⟨rfl, hk2⟩
        go_wp2_with fail
        refine (lives06_calls _).mono ?_; rintro e w3 ⟨rfl, hk3⟩
        go_wp2_with fail
        go_ret
        exact ⟨by first | rfl | simp, (hk1.trans hk2).trans hk3⟩
      · have hn1 : decide (n < 1) = false := by simpa using hn
        have hn2 : decide (65535 < n) = false := by simp; omega
        by_cases hk0 : size < 0
        · go_wp2_with fail
          refine (plload_no v1 n long size _ (by omega)).mono ?_; rintro e w2 ⟨rfl, hk2⟩
          go_wp2_with fail
          refine (lives06_calls _).mono ?_; rintro e w3 ⟨rfl, hk3⟩
          go_wp2_with fail
          go_ret
          exact ⟨by first | rfl | simp, (hk1.trans hk2).trans hk3⟩
        · have hk0' : decide (size < 0) = false := by simpa using hk0
          by_cases hk9 : 1048576 < size
          · go_wp2_with fail
            refine (plload_no v1 n long size _ (by omega)).mono ?_; rintro e w2 ⟨rfl, hk2⟩
            go_wp2_with fail
            refine (lives06_calls _).mono ?_; rintro e w3 ⟨rfl, hk3⟩
            go_wp2_with fail
            go_ret
            exact ⟨by first | rfl | simp, (hk1.trans hk2).trans hk3⟩
          · have hk9' : decide (1048576 < size) = false := by simpa using hk9
            obtain ⟨m, rfl⟩ : ∃ m : Nat, n = m := ⟨n.toNat, by omega⟩
            have hm1 : 1 ≤ m := by omega
            have hm2 : m ≤ 65535 := by omega
            have hmn : decide ((m : Int) < 1) = false := by simp; omega
            go_wp2_with fail
            refine (plload_calls v1 zs m long size hm1 hm2 (by omega) (by omega) _ hi1.out HB.out hlt1.out).mono ?_
            rintro e w2 (⟨hR, rfl, hk2⟩ | ⟨l, q, hR, rfl, hp2, hk2⟩)
            · have HR := Lib.hid hR
              clear hR
              go_wp2_with fail
              refine (lives06_calls _).mono ?_; rintro e w3 ⟨rfl, hk3⟩
              have hk03 : Kp [] w w3 := (hk1.trans hk2).trans hk3
              go_wp2_with fail
              refine (rplload_calls _ zs m long size hm2 (by omega) (by omega) _ (HZ.out.kp hk03 (by simp)) HB.out (fun b hb => by have := HV.out b hb; have := hk03.size; omega)).mono ?_
              rintro e w4 (⟨_, v4, rfl, hk4⟩ | ⟨l4, v4, hR4, _⟩)
              rotate_left
              · rw [HR.out] at hR4; cases hR4
              go_wp2_with fail
              go_ret
              exact ⟨by first | rfl | simp, hk03.trans hk4⟩
            · have HR := Lib.hid hR
              have HP2 := Lib.hid hp2
              have hll := plLoad_len zs m long size l hR
              clear hR hp2
              go_wp2_with fail
              refine (lives06_calls _).mono ?_; rintro e w3 ⟨rfl, hk3⟩
              have hk03 : Kp [] w w3 := (hk1.trans hk2).trans hk3
              go_wp2_with fail
              refine (rplload_calls _ zs m long size hm2 (by omega) (by omega) _ (HZ.out.kp hk03 (by simp)) HB.out (fun b hb => by have := HV.out b hb; have := hk03.size; omega)).mono ?_
              rintro e w4 (⟨hR4, _⟩ | ⟨l4, v4, hR4, rfl, hi4, hk4⟩)
              · rw [HR.out] at hR4; cases hR4
              rw [HR.out] at hR4
              obtain rfl := Option.some.inj hR4
              have hst := Lib.hid (stands_calls q v4 l (-1) w4 (HP2.out.kp (hk3.trans hk4)) hi4 (by omega) (by omega))
              have hk04 := hk03.trans hk4
              clear hi4 hR4 hll
              go_wp2_with fail
              refine Calls.mono hst.out ?_; rintro e w5 ⟨rfl, hk5⟩
              go_wp2_with fail
              go_ret
              exact ⟨by first | rfl | simp, hk04.trans hk5⟩
    · have h6' : decide (n ≤ 65535) = false := by simpa using h6
      go_enter Try.func10, Try.ntmps10
      go_wp2_with (at_builtin; refine wpList_app rfl _ _ 22 rfl w.heap.size 5 (.int .u8 0) 1 1 Try.underlying22 infoByte rfl (by decide) (by decide) (.slice (some ⟨w.heap.size, 0, none⟩) 0 0) 0 [] rfl ?hown (.slice pa zs.length ca) zs.length (zs.map (Value.int .u8)) rfl ?hsrc (oneCell_ints _ _) ?hb1 ?hb2 ?hk)
      case hown => exact own_empty _ _ _ _ _ rfl (by omega)
      case hsrc => exact (HZ.out.kp (S := []) ((Kp.refl _ _).alloc _) (by simp)).reads
      case hb1 => first | omega | (simp; omega) | simp
      case hb2 => first | omega | (simp; omega) | simp
      case hk =>
      intro v1 w1 hown hgr
      try simp only [Nat.zero_add, List.nil_append] at hown
      have hk1 : Kp [] w w1 := Kp.grown ((Kp.refl _ _).alloc _) hgr (by intro k hk; right; simp [Value.ownBlock] at hk; omega)
      have hi1 := Lib.hid (IsInts.owned hown)
      have hlt1 := Lib.hid (fun b (hb : blockOf v1 = some b) => (hown.lt b (blockOf_own hb)).2)
      clear hown hgr
      go_wp2_with fail
      refine (plload_no v1 n long size _ (by omega)).mono ?_; rintro e w2 ⟨rfl, hk2⟩
      go_wp2_with fail
      refine (lives06_calls _).mono ?_; rintro e w3 ⟨rfl, hk3⟩
      go_wp2_with fail
      go_ret
      exact ⟨by first | rfl | simp, (hk1.trans hk2).trans hk3⟩
end Go.Proofs.Ythmokldmdcjklaa

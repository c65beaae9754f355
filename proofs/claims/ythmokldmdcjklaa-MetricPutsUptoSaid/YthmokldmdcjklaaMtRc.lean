/- The walk of the statement MetricPuts. -/
import Derived.Test.YthmokldmdcjklaaMtN
import Derived.Test.YthmokldmdcjklaaMtX
import Derived.Test.YthmokldmdcjklaaMtZ
import Derived.Test.YthmokldmdcjklaaMtRa
import Derived.Test.YthmokldmdcjklaaMtRb
import Derived.Test.YthmokldmdcjklaaStr
import Derived.Deep.RegionHeld
namespace Go.Proofs.Ythmokldmdcjklaa
open Go.RowKit
set_option linter.unusedVariables false
set_option linter.unusedSimpArgs false
theorem metload_some (v : Value) (zs : List Int) (n m : Nat) (h1 : 1 ≤ m) (h2 : m ≤ n) (h3 : n ≤ 65535) (w : World) (hz : IsInts .u8 w v zs) (hb : ∀ c ∈ zs, 0 ≤ c ∧ c ≤ 255) (hv : ∀ b, blockOf v = some b → b < w.heap.size) (hR : kM m n ≤ zs.length) :
    Calls Try.prog 29 #[v, .int .i64 n, .int .i64 m] w fun e w' => ∃ q, e = .returned (.tuple #[.pointer (some ⟨q, 0, none⟩), .int .i64 0]) ∧ IsMet w' q (advsL zs m n) (bearsL zs m n) ∧ Kp [] w w' := by
  refine (metload_calls v zs n m h1 h2 h3 w hz hb hv).mono ?_
  rintro e w7 (⟨h, _⟩ | ⟨_, q, he, hp, hk⟩)
  · omega
  · exact ⟨q, he, hp, hk⟩
set_option maxRecDepth 100000 in
set_option maxHeartbeats 4000000 in
theorem law_MetricPuts (v vb : Value) (l : List (Int × Int)) (zs : List Int) (m glyph : Int) (w : World) (hl : IsPairs w v l) (hv : ∀ b, blockOf v = some b → b < w.heap.size)
    (hz : IsInts .u8 w vb zs) (hb : ∀ c ∈ zs, 0 ≤ c ∧ c ≤ 255) (hvb : ∀ b, blockOf vb = some b → b < w.heap.size) (hlen : l.length + zs.length ≤ 1048576) :
    Calls Try.prog 7 #[v, .int .i64 m, vb, .int .i64 glyph] w fun e w' => e = .returned (.bool true) ∧ Kp [] w w' := by
  have HL : Hid (IsPairs w v l) := hl
  have HV := Lib.hid hv
  have HZ : Hid (IsInts .u8 w vb zs) := hz
  have HB := Lib.hid hb
  obtain ⟨pa, ca, hva⟩ := hl.form
  obtain ⟨pz, cz, hvz⟩ : ∃ p c, vb = .slice p zs.length c := by
    rcases hz with ⟨⟨ad, rfl⟩, rfl⟩ | ⟨g, off, c, rfl, _⟩
    · exact ⟨_, 0, rfl⟩
    · exact ⟨_, c, rfl⟩
  clear hl hv hz hb hvb
  subst hva hvz
  by_cases h3 : (3000 : Int) < l.length
  · go_enter Try.func7, Try.ntmps7
    go_wp2_with fail
    refine (lives06_calls _).mono ?_; rintro e w1 ⟨rfl, hk⟩
    go_wp2_with fail
    go_ret
    exact ⟨rfl, hk⟩
  · have h3' : decide ((3000 : Int) < l.length) = false := by simpa using h3
    have hl3 : l.length ≤ 3000 := by omega
    clear h3
    cases hm : mayMet l m
    · have HM : Hid _ := hm
      clear hm
      go_enter Try.func7, Try.ntmps7
      go_wp2_with fail
      refine (metput_no _ l m _ HM.out HL.out (by omega)).mono ?_; rintro e w2 ⟨rfl, hk2⟩
      go_wp2_with fail
      refine (lives06_calls _).mono ?_; rintro e w3 ⟨rfl, hk3⟩
      have hk03 : Kp [] w w3 := hk2.trans hk3
      go_wp2_with fail
      refine (rmayput_calls _ l m _ (HL.out.kp hk03 (by simp)) (by omega)).mono ?_; rintro e w4 ⟨rfl, hk4⟩
      rw [HM.out]
      go_wp2_with fail
      go_ret
      exact ⟨rfl, hk03.trans hk4⟩
    · have HM : Hid _ := hm
      have hm2 := hm
      clear hm
      unfold mayMet at hm2
      simp only [Bool.and_eq_true, decide_eq_true_eq] at hm2
      obtain ⟨⟨⟨⟨⟨k1, k2⟩, k3⟩, k4⟩, k5⟩, k6⟩ := hm2
      clear k5 k6
      obtain ⟨mm, rfl⟩ : ∃ k : Nat, m = k := ⟨m.toNat, by omega⟩
      have hm1 : 1 ≤ mm := by omega
      have hm2 : mm ≤ l.length := by omega
      have hRT := met_put l mm zs HM.out
      have hRT1 := hRT.1
      have HRT : Hid _ := hRT.2
      have hRl : (metPre l mm l.length).length ≤ 12000 := by rw [metPre_len]; omega
      have HRB : Hid (∀ c ∈ metPre l mm l.length, 0 ≤ c ∧ c ≤ 255) := metPre_bytes l mm l.length
      clear hRT k3 k4
      go_enter Try.func7, Try.ntmps7
      go_wp2_with fail
      refine (metput_calls _ l mm _ HM.out HL.out).mono ?_
      rintro e w2 ⟨v2, rfl, hi2, hk2, hb2⟩
      rw [Int.toNat_natCast] at hi2
      obtain ⟨R, hR⟩ : ∃ R, R = metPre l mm l.length := ⟨_, rfl⟩
      rw [← hR] at hi2 hRT1 HRT hRl HRB
      have HR : Hid _ := hR
      have HI2 : Hid (IsInts .u8 w2 v2 R) := hi2
      clear hR hi2 hb2
      obtain ⟨p2, c2, hv2⟩ : ∃ p c, v2 = .slice p R.length c := by
        rcases HI2.out with ⟨⟨ad, rfl⟩, h⟩ | ⟨g, off, c, rfl, _⟩
        · rw [h]; exact ⟨_, 0, rfl⟩
        · exact ⟨_, c, rfl⟩
      subst hv2
      go_wp2_with fail
      refine (lives06_calls _).mono ?_; rintro e w3 ⟨rfl, hk3⟩
      have hk03 : Kp [] w w3 := hk2.trans hk3
      go_wp2_with fail
      refine (rmayput_calls _ l mm _ (HL.out.kp hk03 (by simp)) (by omega)).mono ?_; rintro e w' ⟨rfl, hk4⟩
      rw [HM.out]
      have hk0' : Kp [] w w' := hk03.trans hk4
      have hi3 : Hid (IsInts .u8 w' (.slice p2 R.length c2) R) := HI2.out.kp (hk3.trans hk4) (by simp)
      clear HI2 hk03 hk2 hk3 hk4
      go_wp2_with (at_builtin; refine wpList_app rfl _ _ 22 rfl w'.heap.size 5 (.int .u8 0) 1 1 Try.underlying22 infoByte rfl (by decide) (by decide) (.slice (some ⟨w'.heap.size, 0, none⟩) 0 0) 0 [] rfl ?hown (.slice p2 R.length c2) R.length (R.map (Value.int .u8)) rfl ?hsrc (oneCell_ints _ _) ?hb1 ?hb2 ?hk)
      case hown => exact own_empty _ _ _ _ _ rfl (by omega)
      case hsrc => exact (hi3.out.kp (S := []) ((Kp.refl _ _).alloc _) (by simp)).reads
      case hb1 => first | (simp; omega) | simp | omega
      case hb2 => first | (simp; omega) | simp | omega
      case hk =>
      intro v4 w4 hown hgr
      try simp only [Nat.zero_add, List.nil_append] at hown
      have hk4 : Kp [] w' w4 := Kp.grown ((Kp.refl _ _).alloc _) hgr (by intro k hk; right; simp [Value.ownBlock] at hk; omega)
      have HO4 := Lib.hid hown
      obtain ⟨p4, c4, rfl⟩ := slice_own hown
      have hge4 := own_ge hown
      have hs4 : w'.heap.size ≤ w4.heap.size := hk4.size
      have hk04 : Kp [] w w4 := hk0'.trans hk4
      clear hown hgr
      go_wp2_with (at_builtin; refine wpList_app rfl _ _ 22 rfl w'.heap.size 5 (.int .u8 0) 1 1 Try.underlying22 infoByte rfl (by decide) (by decide) (.slice p4 R.length c4) R.length (R.map (Value.int .u8)) rfl ?hown (.slice pz zs.length cz) zs.length (zs.map (Value.int .u8)) rfl ?hsrc (oneCell_ints _ _) ?hb1 ?hb2 ?hk)
      case hown => exact HO4.out
      case hsrc => exact (HZ.out.kp hk04 (by simp)).reads
      case hb1 => omega
      case hb2 => omega
      case hk =>
      intro v5 w5 hown hgr
      rw [← List.map_append, ← List.length_append] at hown
      have hk5w : Kp [] w w5 := Kp.grown hk04 hgr (by intro k hk; right; have := hge4 k hk; have := hk0'.size; omega)
      have hk5' : Kp [] w' w5 := Kp.grown hk4 hgr (by intro k hk; right; exact hge4 k hk)
      have hi5 : Hid (IsInts .u8 w5 v5 (R ++ zs)) := IsInts.owned hown
      have hlt5 := Lib.hid (fun b (hb : blockOf v5 = some b) => (hown.lt b (blockOf_own hb)).2)
      clear hown hgr HO4 hge4 hs4
      have hi5b : Hid (IsInts .u8 w5 (.slice p2 R.length c2) R) := hi3.out.kp hk5' (by simp)
      clear hi3 hk5' hk04 hk4 hk0'
      go_wp2_with fail
      refine (metload_some v5 (R ++ zs) l.length mm hm1 hm2 (by omega) _ hi5.out (fun c hc => by rcases List.mem_append.1 hc with h | h; exact HRB.out c h; exact HB.out c h) hlt5.out hRT1).mono ?_
      rintro e w6 ⟨q, rfl, hp6, hk6⟩
      have HP6 : Hid (IsMet w6 q (advsL (R ++ zs) mm l.length) (bearsL (R ++ zs) mm l.length)) := hp6
      have HI6b : Hid (IsInts .u8 w6 (.slice p2 R.length c2) R) := hi5b.out.kp hk6 (by simp)
      have hk06 : Kp [] w w6 := hk5w.trans hk6
      have HL6 : Hid (IsPairs w6 (.slice pa l.length ca) l) := HL.out.kp hk06 (by simp)
      have HV6 : Hid (∀ b, blockOf (.slice pa l.length ca) = some b → b < w6.heap.size) := fun b hb => by have := HV.out b hb; have := hk06.size; omega
      have hA1 : (advsL (R ++ zs) mm l.length).length = mm := by rw [advsL_length]; omega
      have hB1 := bearsL_length (R ++ zs) mm l.length
      have HA1 : Hid _ := hA1
      have HB1 : Hid _ := hB1
      clear hp6 hi5b hk6 hk5w hi5 hlt5 hA1 hB1
      have hs6 : (Go.convert 22 9 (.slice p2 R.length c2)).run Try.prog w6.drew = .ok (.string (toStr R)) w6.drew := run_str _ _ _ (HI6b.out.kp (S := []) (by (repeat (first | exact Kp.refl _ _ | assumption | refine Kp.drew ?_ | refine Kp.drewN ?_ _ | refine Kp.alloc ?_ _ | (refine Kp.setCell ?_ (by first | (left; simp; done) | (right; simp; try omega)) _) | (refine Kp.trans' ?_ (by assumption) (by simp; try omega))))) (by simp))
      generalize advsL (R ++ zs) mm l.length = AL at *
      generalize bearsL (R ++ zs) mm l.length = BL at *
      generalize hvb2 : Value.slice p2 R.length c2 = vb2 at *
      generalize hva2 : Value.slice pa l.length ca = va2 at *
      have HVB2 : Hid _ := hvb2
      have HVA2 : Hid _ := hva2
      clear hvb2 hva2
      go_wp2_with fail
      go_region_held (fun w' => (Go.convert 22 9 vb2).run Try.prog w' = .ok (.string (toStr R)) w')
        (first
          | exact run_str _ _ _ (HI6b.out.kp (S := []) (by (repeat (first | exact Kp.refl _ _ | assumption | refine Kp.drew ?_ | refine Kp.drewN ?_ _ | refine Kp.alloc ?_ _ | (refine Kp.setCell ?_ (by first | (left; simp; done) | (right; simp; try omega)) _) | (refine Kp.trans' ?_ (by assumption) (by simp; try omega))))) (by simp)))
        ((first
          | (go_at_call 30
             refine (rmetput_calls va2 l mm _ HM.out (HL6.out.kp (S := []) (by (repeat (first | exact Kp.refl _ _ | assumption | refine Kp.drew ?_ | refine Kp.drewN ?_ _ | refine Kp.alloc ?_ _ | (refine Kp.setCell ?_ (by first | (left; simp; done) | (right; simp; try omega)) _) | (refine Kp.trans' ?_ (by assumption) (by simp; try omega))))) (by simp)) (fun b hb => by have := HV6.out b hb; have h9 : w6.heap.size = w6.drew.heap.size := rfl; omega)).mono ?_
             rintro e w7 ⟨v7, rfl, hi7, hk7, hb7⟩
             have hs7 := run_str _ _ _ hi7
             rw [← HR.out] at hs7)
          | (go_at_call 31
             refine Calls.mono (holds_calls q va2 AL BL l glyph _ (HP6.out.kp (by (repeat (first | exact Kp.refl _ _ | assumption | refine Kp.drew ?_ | refine Kp.drewN ?_ _ | refine Kp.alloc ?_ _ | (refine Kp.setCell ?_ (by first | (left; simp; done) | (right; simp; try omega)) _) | (refine Kp.trans' ?_ (by assumption) (by simp; try omega)))))) (HL6.out.kp (S := []) (by (repeat (first | exact Kp.refl _ _ | assumption | refine Kp.drew ?_ | refine Kp.drewN ?_ _ | refine Kp.alloc ?_ _ | (refine Kp.setCell ?_ (by first | (left; simp; done) | (right; simp; try omega)) _) | (refine Kp.trans' ?_ (by assumption) (by simp; try omega))))) (by simp)) (by rw [HB1.out]) (by rw [HA1.out]; omega) (by rw [HA1.out]; omega) (by omega) HRT.out) ?_
             rintro e w8 ⟨rfl, hk8⟩)))
      all_goals (go_wp2_with fail; go_ret; exact ⟨by simp, by (repeat (first | exact Kp.refl _ _ | assumption | refine Kp.drew ?_ | refine Kp.drewN ?_ _ | refine Kp.alloc ?_ _ | (refine Kp.setCell ?_ (by first | (left; simp; done) | (right; simp; try omega)) _) | (refine Kp.trans' ?_ (by assumption) (by simp; try omega))))⟩)
end Go.Proofs.Ythmokldmdcjklaa

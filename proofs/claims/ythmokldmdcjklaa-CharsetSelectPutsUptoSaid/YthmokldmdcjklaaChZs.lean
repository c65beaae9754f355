/- The walk of the statement CharsetSelectPuts. -/
import Derived.Test.YthmokldmdcjklaaChM
import Derived.Test.YthmokldmdcjklaaChRs
import Derived.Test.YthmokldmdcjklaaChK
import Derived.Deep.RegionHeld
namespace Go.Proofs.Ythmokldmdcjklaa
open Go.RowKit
set_option linter.unusedVariables false
set_option linter.unusedSimpArgs false
set_option maxRecDepth 100000 in
set_option maxHeartbeats 4000000 in
theorem law_CharsetSelectPuts (v vb : Value) (l zs : List Int) (q f : Int) (w : World) (hl : IsInts .i64 w v l) (hv : ∀ b, blockOf v = some b → b < w.heap.size)
    (hz : IsInts .u8 w vb zs) (hb : ∀ c ∈ zs, 0 ≤ c ∧ c ≤ 255) (hvb : ∀ b, blockOf vb = some b → b < w.heap.size) (hlen : l.length + zs.length ≤ 1048576) :
    Calls Try.prog 6 #[v, .int .i64 q, .int .i64 f, vb] w fun e w' => e = .returned (.bool true) ∧ Kp [] w w' := by
  have HL := Lib.hid hl
  have HV := Lib.hid hv
  have HZ := Lib.hid hz
  have HB := Lib.hid hb
  have HVB := Lib.hid hvb
  obtain ⟨pa, ca, hva⟩ : ∃ p c, v = .slice p l.length c := by
    rcases hl with ⟨⟨ad, rfl⟩, rfl⟩ | ⟨g, off, c, rfl, _⟩
    · exact ⟨_, 0, rfl⟩
    · exact ⟨_, c, rfl⟩
  obtain ⟨pz, cz, hvz⟩ : ∃ p c, vb = .slice p zs.length c := by
    rcases hz with ⟨⟨ad, rfl⟩, rfl⟩ | ⟨g, off, c, rfl, _⟩
    · exact ⟨_, 0, rfl⟩
    · exact ⟨_, c, rfl⟩
  clear hl hv hz hb hvb
  subst hva hvz
  by_cases h3 : (3000 : Int) < l.length
  · go_enter Try.func6, Try.ntmps6
    go_wp2_with fail
    refine (lives16_calls _).mono ?_; rintro e w1 ⟨rfl, hk⟩
    go_wp2_with fail
    go_ret
    exact ⟨rfl, hk⟩
  · have h3' : decide ((3000 : Int) < l.length) = false := by simpa using h3
    have hl3 : l.length ≤ 3000 := by omega
    clear h3
    go_enter Try.func6, Try.ntmps6
    go_wp2_with (at_builtin; refine wpList_app rfl _ _ 24 rfl w.heap.size 3 (.int .i64 0) 1 8 Try.underlying24 infoInt rfl (by decide) (by decide) (.slice (some ⟨w.heap.size, 0, none⟩) 0 0) 0 [] rfl ?hown (.slice pa l.length ca) l.length (l.map (Value.int .i64)) rfl ?hsrc (oneCell_ints _ _) ?hb1 ?hb2 ?hk)
    case hown => exact own_empty _ _ _ _ _ rfl (by omega)
    case hsrc => exact (HL.out.kp (S := []) ((Kp.refl _ _).alloc _) (by simp)).reads
    case hb1 => first | (simp; omega) | simp | omega
    case hb2 => first | (simp; omega) | simp | omega
    case hk =>
    intro v1 w1 hown hgr
    try simp only [Nat.zero_add, List.nil_append] at hown
    have hk1 : Kp [] w w1 := Kp.grown ((Kp.refl _ _).alloc _) hgr (by intro k hk; right; simp [Value.ownBlock] at hk; omega)
    have hi1 := Lib.hid (IsInts.owned hown)
    have hlt1 := Lib.hid (fun b (hb : blockOf v1 = some b) => (hown.lt b (blockOf_own hb)).2)
    clear hown hgr
    cases hm : maySel l q f
    · have HM : Hid _ := hm
      clear hm
      go_wp2_with fail
      refine (putsel_no v1 l q f _ HM.out hi1.out (by omega)).mono ?_; rintro e w2 ⟨rfl, hk2⟩
      go_wp2_with fail
      refine (lives16_calls _).mono ?_; rintro e w3 ⟨rfl, hk3⟩
      have hk03 : Kp [] w w3 := (hk1.trans hk2).trans hk3
      go_wp2_with fail
      refine (rmaysel_calls _ l q f _ (HL.out.kp hk03 (by simp))).mono ?_; rintro e w' ⟨rfl, rfl⟩
      rw [HM.out]
      go_wp2_with fail
      go_ret
      exact ⟨rfl, hk03⟩
    · have HM : Hid _ := hm
      clear hm
      have hmm := HM.out
      unfold maySel at hmm
      simp only [Bool.and_eq_true, Bool.or_eq_true, beq_iff_eq, decide_eq_true_eq] at hmm
      obtain ⟨⟨⟨⟨⟨m1, m2⟩, m3⟩, m4⟩, m5⟩, m6⟩ := hmm
      have M6 : Hid _ := m6
      clear m5 m6
      go_wp2_with fail
      refine (putsel_calls v1 l q f _ HM.out hi1.out hlt1.out).mono ?_
      rintro e w2 (⟨h, _⟩ | ⟨R, v2, hR, rfl, hi2, hk2, hb2⟩)
      · simp at h
      have HR : Hid (R = csPutSel l f) := (Option.some.inj hR).symm
      have HI2 := Lib.hid hi2
      have HRB : Hid (∀ c ∈ R, 0 ≤ c ∧ c ≤ 255) := by rw [Hid, HR.out]; exact csPutSel_bytes _ _ M6.out
      have hRl : R.length ≤ 5 + 3 * l.length := by rw [HR.out]; exact csPutSel_len _ _
      have HRT : Hid (csSel (R ++ zs) l.length q = some l) := by rw [Hid, HR.out]; exact sels_put l q f zs HM.out
      have hB2 := Lib.hid hb2
      clear hR hi2 hb2
      obtain ⟨p2, c2, hv2⟩ : ∃ p c, v2 = .slice p R.length c := by
        rcases HI2.out with ⟨⟨ad, rfl⟩, h⟩ | ⟨g, off, c, rfl, _⟩
        · rw [h]; exact ⟨_, 0, rfl⟩
        · exact ⟨_, c, rfl⟩
      subst hv2
      go_wp2_with fail
      refine (lives16_calls _).mono ?_; rintro e w3 ⟨rfl, hk3⟩
      have hk03 : Kp [] w w3 := (hk1.trans hk2).trans hk3
      go_wp2_with fail
      refine (rmaysel_calls _ l q f _ (HL.out.kp hk03 (by simp))).mono ?_; rintro e w' ⟨rfl, rfl⟩
      rw [HM.out]
      have hi3 : Hid (IsInts .u8 w' (.slice p2 R.length c2) R) := HI2.out.kp hk3 (by simp)
      clear HI2
      go_wp2_with (at_builtin; refine wpList_app rfl _ _ 22 rfl w'.heap.size 5 (.int .u8 0) 1 1 Try.underlying22 infoByte rfl (by decide) (by decide) (.slice (some ⟨w'.heap.size, 0, none⟩) 0 0) 0 [] rfl ?hown (.slice p2 R.length c2) R.length (R.map (Value.int .u8)) rfl ?hsrc (oneCell_ints _ _) ?hb1 ?hb2 ?hk)
      case hown => exact own_empty _ _ _ _ _ rfl (by omega)
      case hsrc => exact (hi3.out.kp (S := []) ((Kp.refl _ _).alloc _) (by simp)).reads
      case hb1 => first | (simp; omega) | simp | omega
      case hb2 => first | (simp; omega) | simp | omega
      case hk =>
      intro v4 w4 hown hgr
      try simp only [Nat.zero_add, List.nil_append] at hown
      have hk4 : Kp [] w' w4 := Kp.grown ((Kp.refl _ _).alloc _) hgr (by intro k hk; right; simp [Value.ownBlock] at hk; omega)
      have HO4 := Lib.hid hown
      obtain ⟨p4, c4, rfl⟩ := slice_own hown
      have hge4 := own_ge hown
      have hs4 : w'.heap.size ≤ w4.heap.size := hk4.size
      have hi4 : Hid (IsInts .u8 w4 (.slice p2 R.length c2) R) := hi3.out.kp hk4 (by simp)
      have hk04 : Kp [] w w4 := hk03.trans hk4
      clear hown hgr
      go_wp2_with (at_builtin; refine wpList_app rfl _ _ 22 rfl w'.heap.size 5 (.int .u8 0) 1 1 Try.underlying22 infoByte rfl (by decide) (by decide) (.slice p4 R.length c4) R.length (R.map (Value.int .u8)) rfl ?hown (.slice pz zs.length cz) zs.length (zs.map (Value.int .u8)) rfl ?hsrc (oneCell_ints _ _) ?hb1 ?hb2 ?hk)
      case hown => exact HO4.out
      case hsrc => exact (HZ.out.kp hk04 (by simp)).reads
      case hb1 => omega
      case hb2 => omega
      case hk =>
      intro v5 w5 hown hgr
      rw [← List.map_append, ← List.length_append] at hown
      have hk5w : Kp [] w w5 := Kp.grown hk04 hgr (by intro k hk; right; have := hge4 k hk; have := hk03.size; omega)
      have hk5' : Kp [] w' w5 := Kp.grown hk4 hgr (by intro k hk; right; exact hge4 k hk)
      have hi5 : Hid (IsInts .u8 w5 v5 (R ++ zs)) := IsInts.owned hown
      have hlt5 := Lib.hid (fun b (hb : blockOf v5 = some b) => (hown.lt b (blockOf_own hb)).2)
      clear hown hgr HO4 hge4 hs4
      have hi5b : Hid (IsInts .u8 w5 (.slice p2 R.length c2) R) := hi3.out.kp hk5' (by simp)
      clear hi3 hi4 hk5' hk04 hk4 hk3 hk2 hk1 hi1 hlt1 hk03
      have hmn : 1 ≤ l.length := m1
      go_wp2_with fail
      refine (select_calls v5 (R ++ zs) l.length q hmn (by omega) m3 m4 _ hi5.out (fun c hc => by rcases List.mem_append.1 hc with h | h; exact HRB.out c h; exact HB.out c h) hlt5.out).mono ?_
      rintro e w6 (⟨hn, rfl, hk6⟩ | ⟨m, v6, hR6, rfl, hi6, hk6, hb6⟩)
      · rw [HRT.out] at hn; simp at hn
      obtain rfl : l = m := Option.some.inj (HRT.out.symm.trans hR6)
      have HI6 := Lib.hid hi6
      have HI6b : Hid (IsInts .u8 w6 (.slice p2 R.length c2) R) := hi5b.out.kp hk6 (by simp)
      have hk06 : Kp [] w w6 := hk5w.trans hk6
      have HL6 : Hid (IsInts .i64 w6 (.slice pa l.length ca) l) := HL.out.kp hk06 (by simp)
      have HV6 : Hid (∀ b, blockOf (.slice pa l.length ca) = some b → b < w6.heap.size) := fun b hb => by have := HV.out b hb; have := hk06.size; omega
      clear hi6 hb6 hi5b hk6 hk5w hi5 hlt5 hR6
      have hs6 : (Go.convert 22 9 (.slice p2 R.length c2)).run Try.prog w6.drew = .ok (.string (toStr R)) w6.drew := run_str _ _ _ (HI6b.out.kp (S := []) (by (repeat (first | exact Kp.refl _ _ | assumption | refine Kp.drew ?_ | refine Kp.drewN ?_ _ | refine Kp.alloc ?_ _ | (refine Kp.setCell ?_ (by first | (left; simp; done) | (right; simp; try omega)) _) | (refine Kp.trans' ?_ (by assumption) (by simp; try omega))))) (by simp))
      generalize hvb2 : Value.slice p2 R.length c2 = vb2 at *
      generalize hva2 : Value.slice pa l.length ca = va2 at *
      have HVB2 : Hid _ := hvb2
      have HVA2 : Hid _ := hva2
      clear hvb2 hva2
      go_wp2_with fail
      go_region_held (fun w' => (Go.convert 22 9 vb2).run Try.prog w' = .ok (.string (toStr R)) w')
        (first
          | exact run_str _ _ _ (HI6b.out.kp (S := []) (by (repeat (first | exact Kp.refl _ _ | assumption | refine Kp.drew ?_ | refine Kp.drewN ?_ _ | refine Kp.alloc ?_ _ | (refine Kp.setCell ?_ (by first | (left; simp; done) | (right; simp; try omega)) _) | (refine Kp.trans' ?_ (by assumption) (by simp; try omega))))) (by simp)))
        ((first
          | (go_at_call 25
             refine (rputsel_calls va2 l q f _ HM.out (HL6.out.kp (S := []) (by (repeat (first | exact Kp.refl _ _ | assumption | refine Kp.drew ?_ | refine Kp.drewN ?_ _ | refine Kp.alloc ?_ _ | (refine Kp.setCell ?_ (by first | (left; simp; done) | (right; simp; try omega)) _) | (refine Kp.trans' ?_ (by assumption) (by simp; try omega))))) (by simp)) (fun b hb => by have := HV6.out b hb; have h9 : w6.heap.size = w6.drew.heap.size := rfl; omega)).mono ?_
             rintro e w7 ⟨v7, rfl, hi7, hk7, hb7⟩
             have hs7 := run_str _ _ _ hi7
             rw [← HR.out] at hs7)
          | (go_at_call 17
             refine Calls.mono (same_true v6 va2 l _ (HI6.out.kp (S := []) (by (repeat (first | exact Kp.refl _ _ | assumption | refine Kp.drew ?_ | refine Kp.drewN ?_ _ | refine Kp.alloc ?_ _ | (refine Kp.setCell ?_ (by first | (left; simp; done) | (right; simp; try omega)) _) | (refine Kp.trans' ?_ (by assumption) (by simp; try omega))))) (by simp)) (HL6.out.kp (S := []) (by (repeat (first | exact Kp.refl _ _ | assumption | refine Kp.drew ?_ | refine Kp.drewN ?_ _ | refine Kp.alloc ?_ _ | (refine Kp.setCell ?_ (by first | (left; simp; done) | (right; simp; try omega)) _) | (refine Kp.trans' ?_ (by assumption) (by simp; try omega))))) (by simp))) ?_
             rintro e w8 ⟨rfl, hk8⟩)))
      all_goals (go_wp2_with fail; go_ret; exact ⟨by simp, by (repeat (first | exact Kp.refl _ _ | assumption | refine Kp.drew ?_ | refine Kp.drewN ?_ _ | refine Kp.alloc ?_ _ | (refine Kp.setCell ?_ (by first | (left; simp; done) | (right; simp; try omega)) _) | (refine Kp.trans' ?_ (by assumption) (by simp; try omega))))⟩)
end Go.Proofs.Ythmokldmdcjklaa

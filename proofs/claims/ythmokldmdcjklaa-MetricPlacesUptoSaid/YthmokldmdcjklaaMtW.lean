/- The walk of the statement MetricPlaces. -/
import Derived.Test.YthmokldmdcjklaaMtN
import Derived.Test.YthmokldmdcjklaaMtP
import Derived.Test.YthmokldmdcjklaaMtS
import Derived.Test.YthmokldmdcjklaaMtT
import Derived.Test.YthmokldmdcjklaaMtU
import Derived.Test.YthmokldmdcjklaaMtV
import Derived.Test.YthmokldmdcjklaaStr
import Derived.Deep.RegionHeld
import Derived.Deep.RegionHeldLaw
namespace Go.Proofs.Ythmokldmdcjklaa
open Go.RowKit
set_option linter.unusedVariables false
set_option linter.unusedSimpArgs false
theorem plload_some (v : Value) (zs l : List Int) (nn : Nat) (n : Int) (hn : n = nn) (long : Bool) (size : Int) (h1 : 1 ≤ nn) (h3 : nn ≤ 65535) (s0 : 0 ≤ size) (s1 : size ≤ 1048576) (w : World) (hz : IsInts .u8 w v zs) (hb : ∀ c ∈ zs, 0 ≤ c ∧ c ≤ 255) (hv : ∀ b, blockOf v = some b → b < w.heap.size) (hR : plLoad zs nn long size = some l) :
    Calls Try.prog 35 #[v, .int .i64 n, .bool long, .int .i64 size] w fun e w' => ∃ q, e = .returned (.tuple #[.pointer (some ⟨q, 0, none⟩), .int .i64 0]) ∧ IsPl w' q l ∧ Kp [] w w' := by
  subst hn
  refine (plload_calls v zs nn long size h1 h3 s0 s1 w hz hb hv).mono ?_
  rintro e w7 (⟨h, _⟩ | ⟨m, q, h, he, hp, hk⟩)
  · rw [hR] at h; cases h
  · rw [hR] at h
    obtain rfl := Option.some.inj h
    exact ⟨q, he, hp, hk⟩
set_option maxRecDepth 100000 in
set_option maxHeartbeats 4000000 in
theorem law_MetricPlaces (v vb : Value) (l zs : List Int) (long : Bool) (glyph : Int) (w : World) (hl : IsInts .i64 w v l) (hv : ∀ b, blockOf v = some b → b < w.heap.size)
    (hz : IsInts .u8 w vb zs) (hb : ∀ c ∈ zs, 0 ≤ c ∧ c ≤ 255) (hvb : ∀ b, blockOf vb = some b → b < w.heap.size) (hlen : l.length + zs.length ≤ 1048576) :
    Calls Try.prog 9 #[v, .bool long, vb, .int .i64 glyph] w fun e w' => e = .returned (.bool true) ∧ Kp [] w w' := by
  have HL : Hid (IsInts .i64 w v l) := hl
  have HV := Lib.hid hv
  have HZ : Hid (IsInts .u8 w vb zs) := hz
  have HB := Lib.hid hb
  obtain ⟨pa, ca, hva⟩ : ∃ p c, v = .slice p l.length c := by
    rcases hl with ⟨⟨ad, rfl⟩, rfl⟩ | ⟨g, off, c, rfl, _⟩
    · exact ⟨_, 0, rfl⟩
    · exact ⟨_, c, rfl⟩
  obtain ⟨pz, cz, hvz⟩ : ∃ p c, vb = .slice p zs.length c := by
    rcases hz with ⟨⟨ad, rfl⟩, rfl⟩ | ⟨g, off, c, rfl, _⟩
    · exact ⟨_, 0, rfl⟩
    · exact ⟨_, c, rfl⟩
  clear hl hv hz hb hvb
  subst hva hvz
  by_cases h3 : (3000 : Int) < l.length
  · go_enter Try.func9, Try.ntmps9
    go_wp2_with fail
    refine (lives06_calls _).mono ?_; rintro e w1 ⟨rfl, hk⟩
    go_wp2_with fail
    go_ret
    exact ⟨rfl, hk⟩
  · have h3' : decide ((3000 : Int) < l.length) = false := by simpa using h3
    have hl3 : l.length ≤ 3000 := by omega
    clear h3
    cases hm : mayPl l long
    · have HM : Hid _ := hm
      clear hm
      go_enter Try.func9, Try.ntmps9
      go_wp2_with fail
      refine (putplaces_no _ l long _ HM.out HL.out (by omega)).mono ?_; rintro e w2 ⟨rfl, hk2⟩
      go_wp2_with fail
      refine (lives06_calls _).mono ?_; rintro e w3 ⟨rfl, hk3⟩
      have hk03 : Kp [] w w3 := hk2.trans hk3
      go_wp2_with fail
      refine (rmaypl_calls _ l long _ (HL.out.kp hk03 (by simp))).mono ?_; rintro e w4 ⟨rfl, hk4⟩
      rw [HM.out]
      go_wp2_with fail
      go_ret
      exact ⟨rfl, hk03.trans hk4⟩
    · have HM : Hid _ := hm
      have hm2 := hm
      clear hm
      unfold mayPl at hm2
      simp only [Bool.and_eq_true, decide_eq_true_eq] at hm2
      obtain ⟨⟨⟨k1, k2⟩, k3⟩, k4⟩ := hm2
      have hlast : 0 ≤ l.getD (l.length - 1) 0 ∧ l.getD (l.length - 1) 0 ≤ 1048576 := by
        have := List.all_eq_true.1 k4 (l.getD (l.length - 1) 0) (by rw [List.getD_eq_getElem?_getD, List.getElem?_eq_getElem (by omega)]; exact List.getElem_mem _)
        unfold okPl at this
        simp only [Bool.and_eq_true, decide_eq_true_eq] at this
        exact this.1
      clear k3 k4
      have hcl : ∃ g off, pa = some ⟨g, off, none⟩ ∧ g < w.heap.size ∧ w.cell? ⟨g, off + (l.length - 1), none⟩ = some (.int .i64 (l.getD (l.length - 1) 0)) := by
        rcases HL.out with ⟨⟨ad, e⟩, rfl⟩ | ⟨g, off, c, e, _, _, h3⟩
        · simp at k1
        · cases e; exact ⟨g, off, rfl, World.block_lt_of_cell? w _ (h3 (l.length - 1) (by omega)), h3 (l.length - 1) (by omega)⟩
      obtain ⟨g, off, rfl, hgw, hcl⟩ := hcl
      have hRT : Hid (plLoad (plPre l long l.length ++ zs) (l.length - 1) long (l.getD (l.length - 1) 0) = some l) := pl_put l long zs HM.out
      have hRl : (plPre l long l.length).length ≤ 12000 := by rw [plPre_len]; cases long <;> simp <;> omega
      have HRB : Hid (∀ c ∈ plPre l long l.length, 0 ≤ c ∧ c ≤ 255) := plPre_bytes l long l.length
      generalize l.getD (l.length - 1) 0 = last at *
      obtain ⟨t0, t1⟩ := hlast
      go_enter Try.func9, Try.ntmps9
      go_wp2_with fail
      refine (putplaces_calls _ l long _ HM.out HL.out).mono ?_
      rintro e w2 ⟨v2, rfl, hi2, hk2, hb2⟩
      obtain ⟨R, hR⟩ : ∃ R, R = plPre l long l.length := ⟨_, rfl⟩
      rw [← hR] at hi2 hRT hRl HRB
      have HR : Hid _ := hR
      have HI2 : Hid (IsInts .u8 w2 v2 R) := hi2
      clear hR hi2 hb2
      obtain ⟨p2, c2, hv2⟩ : ∃ p c, v2 = .slice p R.length c := by
        rcases HI2.out with ⟨⟨ad, rfl⟩, h⟩ | ⟨g, off, c, rfl, _⟩
        · rw [h]; exact ⟨_, 0, rfl⟩
        · exact ⟨_, c, rfl⟩
      subst hv2
      go_wp2_with fail
      refine (lives06_calls _).mono ?_; rintro e w3 ⟨rfl, hk3⟩
      have hk03 : Kp [] w w3 := hk2.trans hk3
      go_wp2_with fail
      refine (rmaypl_calls _ l long _ (HL.out.kp hk03 (by simp))).mono ?_; rintro e w4 ⟨rfl, hk4⟩
      rw [HM.out]
      have hk04 := hk03.trans hk4
      have hi4 : Hid (IsInts .u8 w4 (.slice p2 R.length c2) R) := HI2.out.kp (hk3.trans hk4) (by simp)
      have hcl4 := hk04.cell hcl (by simp)
      have hz4 : Hid (IsInts .u8 w4 (.slice pz zs.length cz) zs) := HZ.out.kp hk04 (by simp)
      have hg4 : g < w4.heap.size := World.block_lt_of_cell? w4 _ hcl4
      have hlI : (l.length : Int) - 1 < l.length := by omega
      have hlJ : (0 : Int) ≤ (l.length : Int) - 1 := by omega
      have hlT : ((l.length : Int) - 1).toNat = l.length - 1 := by omega
      have hlW : IntKind.i64.wrap ((l.length : Int) - 1) = (l.length : Int) - 1 := by rw [IntKind.wrap_i64]; omega
      clear HI2 hk2 hk3 hk4 hk03 hcl
      go_wp2_with fail
      go_region_held_law (fun w' => w'.cell? ⟨g, off + (l.length - 1), none⟩ = some (.int .i64 last))
        (first
          | go_keep
          | exact hk7.cell (by assumption) (by simp)
          | (rw [hgr.cell_far _ (by simp; omega) (by simp [Value.ownBlock]; omega)]; assumption)
          | (rw [hgr2.cell_far _ (by have := hk5s; simp at this ⊢; omega) hng2]; assumption))
        ((first
          | (refine step_appS (by rfl) _ _ 22 (by rfl) w4.heap.size 5 (.int .u8 0) 1 1 Try.underlying22 infoByte rfl (by decide) (by decide) (.slice (some ⟨w4.heap.size, 0, none⟩) 0 0) 0 [] (by rfl) (own_empty _ _ _ _ _ rfl (Nat.le_refl _)) (.slice p2 R.length c2) R.length (R.map (Value.int .u8)) (by rfl) (hi4.out.kp (S := []) (by (repeat (first | exact Kp.refl _ _ | assumption | refine Kp.drew ?_ | refine Kp.drewN ?_ _ | refine Kp.alloc ?_ _ | (refine Kp.setCell ?_ (by first | (left; simp; done) | (right; simp; try omega)) _) | (refine Kp.trans' ?_ (by assumption) (by simp; try omega))))) (by simp)).reads (oneCell_ints _ _) (by omega) (by simp) ?_
             intro v5 w5 hown hgr
             rw [Nat.zero_add, List.nil_append] at hown
             obtain ⟨p5, c5, rfl⟩ := slice_own hown
             have hng2 : some g ≠ (Value.slice p5 R.length c5).ownBlock := fun e => by have := own_ge hown g e.symm; omega
             have hk5s : w4.heap.size ≤ w5.heap.size := by have := hgr.size; simp at this; omega
             have hk45 : Kp [] w4 w5 := Kp.grown (by (repeat (first | exact Kp.refl _ _ | assumption | refine Kp.drew ?_ | refine Kp.drewN ?_ _ | refine Kp.alloc ?_ _ | (refine Kp.setCell ?_ (by first | (left; simp; done) | (right; simp; try omega)) _) | (refine Kp.trans' ?_ (by assumption) (by simp; try omega))))) hgr (fun k hk => .inr (by simp [Value.ownBlock] at hk; omega)))
          | (go_at_call 35
             refine (plload_some v6 (R ++ zs) l (l.length - 1) _ (by omega) long last (by omega) (by omega) t0 t1 _ (IsInts.owned (by rw [List.map_append]; exact hown2)) (fun c hc => by rcases List.mem_append.1 hc with h | h; exact HRB.out c h; exact HB.out c h) (fun b hb => (hown2.lt b (blockOf_own hb)).2) hRT.out).mono ?_
             rintro e w7 ⟨q, rfl, hp7, hk7⟩)
          | (refine step_appS (by rfl) _ _ 22 (by rfl) w4.heap.size 5 (.int .u8 0) 1 1 Try.underlying22 infoByte rfl (by decide) (by decide) (.slice p5 R.length c5) R.length (R.map (Value.int .u8)) (by rfl) hown (.slice pz zs.length cz) zs.length (zs.map (Value.int .u8)) (by rfl) (hz4.out.kp (S := []) hk45 (by simp)).reads (oneCell_ints _ _) (by omega) (by omega) ?_
             intro v6 w6 hown2 hgr2
             have hk46 : Kp [] w4 w6 := Kp.grown hk45 hgr2 (fun k hk => .inr (by have := own_ge hown k hk; omega)))))
      all_goals
        have hk47 := hk46.trans hk7
        have hk07 : Kp [] w w7 := hk04.trans hk47
        have HP7 : Hid (IsPl w7 q l) := hp7
        have HI7 : Hid (IsInts .u8 w7 (.slice p2 R.length c2) R) := hi4.out.kp hk47 (by simp)
        have HL7 : Hid (IsInts .i64 w7 (.slice (some ⟨g, off, none⟩) l.length ca) l) := HL.out.kp hk07 (by simp)
        have HV7 : Hid (∀ b, blockOf (.slice (some ⟨g, off, none⟩) l.length ca) = some b → b < w7.heap.size) := fun b hb => by have := HV.out b hb; have := hk07.size; omega
        clear hown hgr hown2 hgr2 hng2 hk45 hk46 hk47 hk04 hk7 hp7 hi4 hz4 hcl4 hk5s hlI hlJ hlT hlW hg4 hgw
        have hs7 : (Go.convert 22 9 (.slice p2 R.length c2)).run Try.prog w7.drew = .ok (.string (toStr R)) w7.drew := run_str _ _ _ (HI7.out.kp (S := []) (by (repeat (first | exact Kp.refl _ _ | assumption | refine Kp.drew ?_ | refine Kp.drewN ?_ _ | refine Kp.alloc ?_ _ | (refine Kp.setCell ?_ (by first | (left; simp; done) | (right; simp; try omega)) _) | (refine Kp.trans' ?_ (by assumption) (by simp; try omega))))) (by simp))
        generalize hvb2 : Value.slice p2 R.length c2 = vb2 at *
        generalize hva2 : Value.slice (some ⟨g, off, none⟩) l.length ca = va2 at *
        have HVB2 : Hid _ := hvb2
        have HVA2 : Hid _ := hva2
        clear hvb2 hva2
        go_wp2_with fail
        go_region_held (fun w' => (Go.convert 22 9 vb2).run Try.prog w' = .ok (.string (toStr R)) w')
          (first
            | exact run_str _ _ _ (HI7.out.kp (S := []) (by (repeat (first | exact Kp.refl _ _ | assumption | refine Kp.drew ?_ | refine Kp.drewN ?_ _ | refine Kp.alloc ?_ _ | (refine Kp.setCell ?_ (by first | (left; simp; done) | (right; simp; try omega)) _) | (refine Kp.trans' ?_ (by assumption) (by simp; try omega))))) (by simp)))
          ((first
            | (go_at_call 36
               refine (rputpl_calls va2 l long _ HM.out (HL7.out.kp (S := []) (by (repeat (first | exact Kp.refl _ _ | assumption | refine Kp.drew ?_ | refine Kp.drewN ?_ _ | refine Kp.alloc ?_ _ | (refine Kp.setCell ?_ (by first | (left; simp; done) | (right; simp; try omega)) _) | (refine Kp.trans' ?_ (by assumption) (by simp; try omega))))) (by simp)) (fun b hb => by have := HV7.out b hb; have h9 : w7.heap.size = w7.drew.heap.size := rfl; omega)).mono ?_
               rintro e w8 ⟨v8, rfl, hi8, hk8, hb8⟩
               have hs8 := run_str _ _ _ hi8
               rw [← HR.out] at hs8)
            | (go_at_call 37
               refine Calls.mono (stands_calls q va2 l glyph _ (HP7.out.kp (by (repeat (first | exact Kp.refl _ _ | assumption | refine Kp.drew ?_ | refine Kp.drewN ?_ _ | refine Kp.alloc ?_ _ | (refine Kp.setCell ?_ (by first | (left; simp; done) | (right; simp; try omega)) _) | (refine Kp.trans' ?_ (by assumption) (by simp; try omega)))))) (HL7.out.kp (S := []) (by (repeat (first | exact Kp.refl _ _ | assumption | refine Kp.drew ?_ | refine Kp.drewN ?_ _ | refine Kp.alloc ?_ _ | (refine Kp.setCell ?_ (by first | (left; simp; done) | (right; simp; try omega)) _) | (refine Kp.trans' ?_ (by assumption) (by simp; try omega))))) (by simp)) (by omega) (by omega)) ?_
               rintro e w9 ⟨rfl, hk9⟩)))
        all_goals (go_wp2_with fail; go_ret; exact ⟨by simp, by (repeat (first | exact Kp.refl _ _ | assumption | refine Kp.drew ?_ | refine Kp.drewN ?_ _ | refine Kp.alloc ?_ _ | (refine Kp.setCell ?_ (by first | (left; simp; done) | (right; simp; try omega)) _) | (refine Kp.trans' ?_ (by assumption) (by simp; try omega))))⟩)
end Go.Proofs.Ythmokldmdcjklaa

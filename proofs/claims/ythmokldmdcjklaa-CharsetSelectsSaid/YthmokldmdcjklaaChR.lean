/- The reference's Select: what bytes are as a selection; format 0, and what is none. (Written by wip/charset/gensel2.py.) -/
import Derived.Test.YthmokldmdcjklaaChO
namespace Go.Proofs.Ythmokldmdcjklaa
open Go.RowKit
set_option linter.unusedVariables false
set_option linter.unusedSimpArgs false
set_option maxRecDepth 100000 in
set_option maxHeartbeats 4000000 in
theorem rsel_other (v : Value) (zs : List Int) (n : Nat) (q : Int) (h1 : 1 ≤ n) (h2 : n ≤ 65535) (w : World) (hz : IsInts .u8 w v zs) (hb : ∀ c ∈ zs, 0 ≤ c ∧ c ≤ 255) (hv : ∀ b, blockOf v = some b → b < w.heap.size)
    (HB1 : Hid (rdB zs 0 false 1 = false)) (hf0 : (rdV zs 0 false 1 == 0) = false) (hf3 : (rdV zs 0 false 1 == 3) = false) :
    Calls Try.prog 22 #[v, .int .i64 n, .int .i64 q] w (RLoaded .i64 (none) w) := by
  have HB : Hid _ := hb
  have HV : Hid _ := hv
  have hne : blockOf v ≠ some w.heap.size := fun e => by have := HV.out _ e; omega
  have hr1 : Rrd (w.alloc (.cells #[v, .int .i64 0, .bool false] 81)) w.heap.size v (0 : Nat) false := heap_alloc_new w _
  have hk1 : Kp [] w (w.alloc (.cells #[v, .int .i64 0, .bool false] 81)) := by (repeat (first | exact Kp.refl _ _ | assumption | refine Kp.drew ?_ | refine Kp.drewN ?_ _ | refine Kp.alloc ?_ _ | (refine Kp.setCell ?_ (by first | (left; simp; done) | (right; simp; try omega)) _) | (refine Kp.trans' ?_ (by assumption) (by simp; try omega))))
  have hz1 := hz.kp hk1 (by simp)
  have hsz : w.heap.size < (w.alloc (.cells #[v, .int .i64 0, .bool false] 81)).heap.size := by simp
  obtain ⟨pa, ca, hva⟩ : ∃ p c, v = .slice p zs.length c := by
    rcases hz with ⟨⟨ad, rfl⟩, rfl⟩ | ⟨g, off, c, rfl, _⟩
    · exact ⟨_, 0, rfl⟩
    · exact ⟨_, c, rfl⟩
  clear hb hv hz
  subst hva
  go_enter Try.func22, Try.ntmps22
  go_wp2_with fail
  generalize hvv : Value.slice pa zs.length ca = v at *
  generalize w.alloc (.cells #[v, .int .i64 0, .bool false] 81) = w1 at *
  generalize hr : w.heap.size = r at *
  refine (ru_calls r v zs 0 1 false 1 rfl _ hr1 hz1 HB.out hne (by omega) (by omega) (by omega)).mono ?_; rintro e w2 ⟨rfl, hr2, hk2⟩
  have hz2 := hz1.kp hk2 (by intro s hs; simp at hs; subst hs; exact hne)
  have hs2 := hk2.size
  have hkw2 : Kp [r] w1 w2 := hk2
  rw [HB1.out] at hr2
  have hkl := rdK_le zs 0 false 1 (Nat.zero_le _)
  generalize rdV zs 0 false 1 = fv at *
  generalize rdK zs 0 false 1 = k1 at *
  clear hvv
  go_wp2_with fail
  refine (ru_calls r v zs k1 2 false 2 rfl _ hr2 hz2 HB.out hne (by omega) (by omega) hkl).mono ?_; rintro e w3 ⟨rfl, hr3, hk3⟩
  generalize rdV zs k1 false 2 = cv at *
  generalize rdB zs k1 false 2 = bb at *
  generalize rdK zs k1 false 2 = k2 at *
  obtain ⟨c0, c1, c2, f1, f2⟩ := hr3.facts
  cases bb
  · have hn3 : ¬ fv = 3 := by simpa using hf3
    go_wp2_with fail
    all_goals (try contradiction)
    go_ret2
    exact .inl ⟨rfl, _, rfl, by subst hr; (repeat (first | exact Kp.refl _ _ | assumption | refine Kp.drew ?_ | refine Kp.drewN ?_ _ | refine Kp.alloc ?_ _ | (refine Kp.setCell ?_ (by first | (left; simp; done) | (right; simp; try omega)) _) | (refine Kp.trans' ?_ (by assumption) (by simp; try omega))))⟩
  · go_wp2_with fail
    go_ret2
    exact .inl ⟨rfl, _, rfl, by subst hr; (repeat (first | exact Kp.refl _ _ | assumption | refine Kp.drew ?_ | refine Kp.drewN ?_ _ | refine Kp.alloc ?_ _ | (refine Kp.setCell ?_ (by first | (left; simp; done) | (right; simp; try omega)) _) | (refine Kp.trans' ?_ (by assumption) (by simp; try omega))))⟩
set_option maxRecDepth 100000 in
set_option maxHeartbeats 4000000 in
theorem rsel_0 (v : Value) (zs : List Int) (n : Nat) (q : Int) (h1 : 1 ≤ n) (h2 : n ≤ 65535) (w : World) (hz : IsInts .u8 w v zs) (hb : ∀ c ∈ zs, 0 ≤ c ∧ c ≤ 255) (hv : ∀ b, blockOf v = some b → b < w.heap.size)
    (HB1 : Hid (rdB zs 0 false 1 = false)) (HF : Hid (rdV zs 0 false 1 = 0)) :
    Calls Try.prog 22 #[v, .int .i64 n, .int .i64 q] w (RLoaded .i64 (oneGo zs q n [] (rdK zs 0 false 1)) w) := by
  have HB : Hid _ := hb
  have HV : Hid _ := hv
  have hne : blockOf v ≠ some w.heap.size := fun e => by have := HV.out _ e; omega
  have hr1 : Rrd (w.alloc (.cells #[v, .int .i64 0, .bool false] 81)) w.heap.size v (0 : Nat) false := heap_alloc_new w _
  have hk1 : Kp [] w (w.alloc (.cells #[v, .int .i64 0, .bool false] 81)) := by (repeat (first | exact Kp.refl _ _ | assumption | refine Kp.drew ?_ | refine Kp.drewN ?_ _ | refine Kp.alloc ?_ _ | (refine Kp.setCell ?_ (by first | (left; simp; done) | (right; simp; try omega)) _) | (refine Kp.trans' ?_ (by assumption) (by simp; try omega))))
  have hz1 := hz.kp hk1 (by simp)
  have hsz : w.heap.size < (w.alloc (.cells #[v, .int .i64 0, .bool false] 81)).heap.size := by simp
  obtain ⟨pa, ca, hva⟩ : ∃ p c, v = .slice p zs.length c := by
    rcases hz with ⟨⟨ad, rfl⟩, rfl⟩ | ⟨g, off, c, rfl, _⟩
    · exact ⟨_, 0, rfl⟩
    · exact ⟨_, c, rfl⟩
  clear hb hv hz
  subst hva
  go_enter Try.func22, Try.ntmps22
  go_wp2_with fail
  generalize hvv : Value.slice pa zs.length ca = v at *
  generalize w.alloc (.cells #[v, .int .i64 0, .bool false] 81) = w1 at *
  generalize hr : w.heap.size = r at *
  refine (ru_calls r v zs 0 1 false 1 rfl _ hr1 hz1 HB.out hne (by omega) (by omega) (by omega)).mono ?_; rintro e w2 ⟨rfl, hr2, hk2⟩
  have hz2 := hz1.kp hk2 (by intro s hs; simp at hs; subst hs; exact hne)
  have hs2 := hk2.size
  have hkw2 : Kp [r] w1 w2 := hk2
  rw [HB1.out] at hr2
  have hkl := rdK_le zs 0 false 1 (Nat.zero_le _)
  rw [HF.out]
  have hst : ChStR w w2 r v zs (rdK zs 0 false 1) [] (.slice none 0 0) :=
    ⟨World.ownsRow_nil _ _ _ _, hr2, hz2, by subst hr; (repeat (first | exact Kp.refl _ _ | assumption | refine Kp.drew ?_ | refine Kp.drewN ?_ _ | refine Kp.alloc ?_ _ | (refine Kp.setCell ?_ (by first | (left; simp; done) | (right; simp; try omega)) _) | (refine Kp.trans' ?_ (by assumption) (by simp; try omega)))), by omega, hr, fun b hb => by have := HV.out b hb; exact this⟩
  generalize rdK zs 0 false 1 = k1 at *
  clear hvv hr2 hz2 hz1 hk1 hk2 hkw2 hr1 hsz hs2
  go_wp2_with fail
  go_loopw [10, 11, 12] (fun v9 i _ wr => ∃ (j k : Nat) (l : List Int), j ≤ n ∧ i = .int .i64 j ∧ l.length = j ∧ ChStR w wr r v zs k l v9 ∧ k ≤ zs.length ∧ Hid (oneGo zs q (n - j) l k = oneGo zs q n [] k1)) (fun _ i _ _ => n - (intOf i).toNat)
  case atStart => exact ⟨0, k1, [], by omega, rfl, rfl, hst, hkl, rfl⟩
  case round =>
    obtain ⟨j, k, l, hj, rfl, hlj, hs, hk, HG⟩ := hrel
    have HJ : Hid _ := hlj
    clear hlj
    have HS : Hid _ := hs
    obtain ⟨hown, hrd, hzz, hkk, hbs, hwr, hvb⟩ := hs
    obtain ⟨p9, c9, rfl⟩ := slice_own hown
    clear hown
    by_cases hlt : j < n
    · have HG2 : Hid ((if rdB zs k false 1 = true ∨ q ≤ rdV zs k false 1 then none else oneGo zs q (n - (j + 1)) (l ++ [rdV zs k false 1]) (rdK zs k false 1)) = oneGo zs q n [] k1) := by
        unfold Hid; rw [← HG.out, show n - j = (n - (j + 1)) + 1 by omega]; rfl
      clear HG
      go_wp2_with fail
      refine (ru_calls r v zs k 1 false 1 rfl _ hrd hzz HB.out hne (by omega) (by omega) hk).mono ?_; rintro e wb ⟨rfl, hrb, hka⟩
      have hob := hka.row HS.out.1 (by intro s hs e; simp at hs; subst hs; have := own_ge HS.out.1 _ e; omega)
      have hzb := hzz.kp hka (by intro s hs; simp at hs; subst hs; exact hne)
      have hk2 := rdK_le zs k false 1 hk
      generalize rdK zs k false 1 = k2 at *
      generalize rdB zs k false 1 = b2 at *
      generalize rdV zs k false 1 = x at *
      obtain ⟨e0, e1, e2, e3, e4⟩ := hrb.facts
      clear e0 e1 e3 e4
      cases b2
      · by_cases g1 : q ≤ x
        · have hR : Hid (oneGo zs q n [] k1 = none) := by rw [Hid, ← HG2.out, if_pos (.inr g1)]
          go_wp2_with fail
          go_ret2
          exact .inl ⟨hR.out, _, rfl, by subst hwr; (repeat (first | exact Kp.refl _ _ | assumption | refine Kp.drew ?_ | refine Kp.drewN ?_ _ | refine Kp.alloc ?_ _ | (refine Kp.setCell ?_ (by first | (left; simp; done) | (right; simp; try omega)) _) | (refine Kp.trans' ?_ (by assumption) (by simp; try omega))))⟩
        · have HN : Hid (oneGo zs q (n - (j + 1)) (l ++ [x]) k2 = oneGo zs q n [] k1) := by rw [Hid, ← HG2.out, if_neg (by simp; omega)]
          have g1' : decide (q ≤ x) = false := by simpa using g1
          have hs0 : Hid (ChStR w wb r v zs k2 l (.slice p9 l.length c9)) := ⟨hob, hrb, hzb, by subst hwr; (repeat (first | exact Kp.refl _ _ | assumption | refine Kp.drew ?_ | refine Kp.drewN ?_ _ | refine Kp.alloc ?_ _ | (refine Kp.setCell ?_ (by first | (left; simp; done) | (right; simp; try omega)) _) | (refine Kp.trans' ?_ (by assumption) (by simp; try omega)))), by have := hka.size; omega, hwr, hvb⟩
          have hszb : r + 1 ≤ wb.heap.size := by have := hka.size; omega
          clear hob hrb hzb hzz hrd hkk hka hwr hvb HS HG2
          go_wp2_with (at_builtin; refine wpList_app rfl _ _ 24 rfl (r + 1) 3 (.int .i64 0) 1 8 Try.underlying24 infoInt rfl (by decide) (by decide) (.slice p9 l.length c9) l.length (l.map (Value.int .i64)) rfl ?hown (.slice (some ⟨wb.heap.size, 0, none⟩) 1 1) 1 [.int .i64 x] rfl ?hsrc ?hone ?hb1 ?hb2 ?hk)
          case hown => exact hs0.out.1.alloc _
          case hsrc => exact Reads.made _ _ 1 1 [.int .i64 x] _ rfl rfl (by decide)
          case hone => intro u hu; simp at hu; subst hu; rfl
          case hb1 => have := HJ.out; omega
          case hb2 => have := HJ.out; simp; omega
          case hk =>
            intro v' wj hown hgr
            have hs' : ChStR w wj r v zs k2 (l ++ [x]) v' := ChStR.app hs0.out hown hgr
            clear hown hgr
            go_wp2_with fail
            go_roundw
            case rel => first | exact ⟨j + 1, k2, l ++ [x], by omega, int_eq (by omega), by simp [HJ.out], hs', hk2, HN.out⟩ | (repeat apply Exists.intro; exact ⟨⟨j + 1, k2, l ++ [x], by omega, int_eq (by omega), by simp [HJ.out], hs', hk2, HN.out⟩, rfl⟩)
            case measure => simp [intOf]; omega
      · have hR : Hid (oneGo zs q n [] k1 = none) := by rw [Hid, ← HG2.out, if_pos (.inl rfl)]
        go_wp2_with fail
        go_ret2
        exact .inl ⟨hR.out, _, rfl, by subst hwr; (repeat (first | exact Kp.refl _ _ | assumption | refine Kp.drew ?_ | refine Kp.drewN ?_ _ | refine Kp.alloc ?_ _ | (refine Kp.setCell ?_ (by first | (left; simp; done) | (right; simp; try omega)) _) | (refine Kp.trans' ?_ (by assumption) (by simp; try omega))))⟩
    · have hR : Hid (oneGo zs q n [] k1 = some l) := by rw [Hid, ← HG.out, show n - j = 0 by omega]; rfl
      go_wp2_with fail
      go_ret2
      exact .inr ⟨l, _, hR.out, rfl, IsInts.owned HS.out.1, by subst hwr; exact hkk, fun b hb => by have := own_geb HS.out.1 b hb; omega⟩
end Go.Proofs.Ythmokldmdcjklaa

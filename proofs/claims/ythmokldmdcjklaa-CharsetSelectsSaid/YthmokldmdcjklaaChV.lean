/- The reference's Select: what bytes are as a selection, format 3. (Written by wip/charset/gensel3.py.) -/
import Derived.Test.YthmokldmdcjklaaChR
namespace Go.Proofs.Ythmokldmdcjklaa
open Go.RowKit
set_option linter.unusedVariables false
set_option linter.unusedSimpArgs false
set_option maxRecDepth 100000 in
set_option maxHeartbeats 4000000 in
theorem rsel_3 (v : Value) (zs : List Int) (n : Nat) (q : Int) (h1 : 1 ≤ n) (h2 : n ≤ 65535) (w : World) (hz : IsInts .u8 w v zs) (hb : ∀ c ∈ zs, 0 ≤ c ∧ c ≤ 255) (hv : ∀ b, blockOf v = some b → b < w.heap.size)
    (HB1 : Hid (rdB zs 0 false 1 = false)) (HF : Hid (rdV zs 0 false 1 = 3)) (R : Option (List Int)) (HRR : Hid (R = (partsOf zs n q (rdK zs 0 false 1)).map fun l => spreadL l n)) :
    Calls Try.prog 22 #[v, .int .i64 n, .int .i64 q] w (RLoaded .i64 (R) w) := by
  have HB : Hid _ := hb
  have HV : Hid _ := hv
  have hne : blockOf v ≠ some w.heap.size := fun e => by have := HV.out _ e; omega
  have hr1 : Rrd (w.alloc (.cells #[v, .int .i64 0, .bool false] 81)) w.heap.size v (0 : Nat) false := heap_alloc_new w _
  have hk1 : Kp [] w (w.alloc (.cells #[v, .int .i64 0, .bool false] 81)) := by (repeat (first | exact Kp.refl _ _ | assumption | refine Kp.drew ?_ | refine Kp.drewN ?_ _ | refine Kp.alloc ?_ _ | (refine Kp.setCell ?_ (by first | (left; simp; done) | (right; simp; try omega)) _) | (refine Kp.trans' ?_ (by assumption) (by simp; try omega))))
  have hz1 := hz.kp hk1 (by simp)
  have hsz : w.heap.size < (w.alloc (.cells #[v, .int .i64 0, .bool false] 81)).heap.size := by simp
  obtain ⟨pa, ca, hva⟩ : ∃ p c, v = .slice p zs.length c := by
    rcases hz with ⟨⟨ad, rfl⟩, rfl⟩ | ⟨g, off, c, rfl, _⟩
    · exact ⟨_, 0, rfl⟩
    · exact ⟨_, c, rfl⟩
  clear hb hv hz
  subst hva
  go_enter Try.func22, Try.ntmps22
  go_wp2_with fail
  generalize hvv : Value.slice pa zs.length ca = v at *
  generalize w.alloc (.cells #[v, .int .i64 0, .bool false] 81) = w1 at *
  generalize hr : w.heap.size = r at *
  refine (ru_calls r v zs 0 1 false 1 rfl _ hr1 hz1 HB.out hne (by omega) (by omega) (by omega)).mono ?_; rintro e w2 ⟨rfl, hr2, hk2⟩
  have hz2 := hz1.kp hk2 (by intro s hs; simp at hs; subst hs; exact hne)
  have hs2 := hk2.size
  have hkw2 : Kp [r] w1 w2 := hk2
  rw [HB1.out] at hr2
  have hkl := rdK_le zs 0 false 1 (Nat.zero_le _)
  rw [HF.out]
  generalize rdK zs 0 false 1 = k1 at *
  clear hvv
  go_wp2_with fail
  refine (ru_calls r v zs k1 2 false 2 rfl _ hr2 hz2 HB.out hne (by omega) (by omega) hkl).mono ?_; rintro e w3 ⟨rfl, hr3, hk3⟩
  have hz3 := hz2.kp hk3 (by intro s hs; simp at hs; subst hs; exact hne)
  have hs3 := hk3.size
  have hPOb : rdB zs k1 false 2 = true → partsOf zs n q k1 = none := fun h => if_pos h
  have hPO : rdB zs k1 false 2 = false → partsOf zs n q k1 = (partGo zs n q (rdV zs k1 false 2).toNat [] (rdK zs k1 false 2)).bind (partFin zs n) := fun h => if_neg (by rw [h]; simp)
  have hk0 := rdK_le zs k1 false 2 hkl
  obtain ⟨q0, q1'⟩ := rdV_bounds zs k1 false 2 HB.out
  have q1 : rdV zs k1 false 2 < 65536 := by omega
  clear q1'
  generalize rdV zs k1 false 2 = cv at *
  generalize rdB zs k1 false 2 = bb at *
  generalize rdK zs k1 false 2 = k0 at *
  obtain ⟨c0, c1, c2, f1, f2⟩ := hr3.facts
  clear c0 c1 f1 f2
  cases bb
  rotate_left
  · have HPO : Hid _ := hPOb rfl
    clear hPOb hPO
    go_wp2_with fail
    go_ret2
    exact .inl ⟨by rw [HRR.out, HPO.out]; rfl, _, rfl, by subst hr; (repeat (first | exact Kp.refl _ _ | assumption | refine Kp.drew ?_ | refine Kp.drewN ?_ _ | refine Kp.alloc ?_ _ | (refine Kp.setCell ?_ (by first | (left; simp; done) | (right; simp; try omega)) _) | (refine Kp.trans' ?_ (by assumption) (by simp; try omega))))⟩
  obtain ⟨cnt, rfl⟩ : ∃ cnt : Nat, cv = cnt := ⟨cv.toNat, by omega⟩
  have HPO : Hid (partsOf zs n q k1 = (partGo zs n q cnt [] k0).bind (partFin zs n)) := hPO rfl
  clear hPOb hPO
  by_cases hc0 : (cnt : Int) < 1
  · obtain rfl : cnt = 0 := by omega
    go_wp2_with fail
    go_ret2
    exact .inl ⟨by rw [HRR.out, HPO.out]; rfl, _, rfl, by subst hr; (repeat (first | exact Kp.refl _ _ | assumption | refine Kp.drew ?_ | refine Kp.drewN ?_ _ | refine Kp.alloc ?_ _ | (refine Kp.setCell ?_ (by first | (left; simp; done) | (right; simp; try omega)) _) | (refine Kp.trans' ?_ (by assumption) (by simp; try omega))))⟩
  have hst : ChStR w w3 r v zs k0 [] (.slice none 0 0) :=
    ⟨World.ownsRow_nil _ _ _ _, hr3, hz3, by subst hr; (repeat (first | exact Kp.refl _ _ | assumption | refine Kp.drew ?_ | refine Kp.drewN ?_ _ | refine Kp.alloc ?_ _ | (refine Kp.setCell ?_ (by first | (left; simp; done) | (right; simp; try omega)) _) | (refine Kp.trans' ?_ (by assumption) (by simp; try omega)))), by omega, hr, fun b hb => by have := HV.out b hb; exact this⟩
  have hcn : cnt ≤ 65535 := by omega
  have hc0' : decide ((cnt : Int) < 1) = false := by simpa using hc0
  have HC1 : Hid (1 ≤ cnt) := by unfold Hid; omega
  clear hr2 hz2 hz1 hk1 hk2 hkw2 hr1 hsz hs2 hk3 hs3 hr3 hz3 q0 q1 hc0
  go_wp2_with fail
  clear hc0' c2
  go_loopw [10, 14, 15, 16, 17] (fun o last i _ _ wr => ∃ (j k m : Nat) (ps : List (Int × Int)) (L : List Int) (lst : Int), j ≤ cnt ∧ i = .int .i64 j ∧ last = .int .i64 lst ∧ Hid (ps.length = j) ∧ ChStR w wr r v zs k L o ∧ k ≤ zs.length ∧ Hid (OutAt ps n q L m lst ∧ (ps ≠ [] → (m : Int) = fiP ps (ps.length - 1) + 1)) ∧ Hid (partGo zs n q (cnt - j) ps k = partGo zs n q cnt [] k0)) (fun _ _ i _ _ _ => cnt - (intOf i).toNat)
  case atStart => exact ⟨0, k0, 0, [], [], 0, by omega, rfl, rfl, rfl, hst, hk0, ⟨OutAt.start n q, fun h => absurd rfl h⟩, rfl⟩
  case round =>
    obtain ⟨j, k, m, ps, L, lst, hj, rfl, rfl, HJ, hs, hk, HOA, HG⟩ := hrel
    have HS : Hid _ := hs
    obtain ⟨hown, hrd, hzz, hkk, hbs, hwr, hvb⟩ := hs
    obtain ⟨p9, c9, rfl⟩ := slice_own hown
    have HLM : Hid (L.length = m ∧ m ≤ n) := ⟨HOA.out.1.len, HOA.out.1.le⟩
    clear hown
    by_cases hlt : j < cnt
    · have HG2 : Hid ((if pBad n q ps (pF zs k) (pX zs k) (pB zs k) then none else partGo zs n q (cnt - (j + 1)) (ps ++ [(pF zs k, pX zs k)]) (pK zs k)) = partGo zs n q cnt [] k0) := by
        unfold Hid; rw [← HG.out, show cnt - j = (cnt - (j + 1)) + 1 by omega]; rfl
      have hff := (rdV_bounds zs k false 2 HB.out).1
      have HBD : Hid _ := HOA.out.1.bad HOA.out.2 (pF zs k) (pX zs k) (pB zs k) hff
      rw [HJ.out] at HBD
      go_wp2_with fail
      refine (ru_calls r v zs k 2 false 2 rfl _ hrd hzz HB.out hne (by omega) (by omega) hk).mono ?_; rintro e wa ⟨rfl, hra, hka⟩
      have hza := hzz.kp hka (by intro s hs; simp at hs; subst hs; exact hne)
      have hkA := rdK_le zs k false 2 hk
      go_wp2_with fail
      refine (ru_calls r v zs (rdK zs k false 2) 1 (rdB zs k false 2) 1 rfl _ hra hza HB.out hne (by omega) (by omega) hkA).mono ?_; rintro e wb ⟨rfl, hrb, hkb⟩
      have hkab : Kp [r] wr wb := hka.trans hkb
      have hob := hkab.row HS.out.1 (by intro s hs e; simp at hs; subst hs; have := own_ge HS.out.1 _ e; omega)
      have hzb := hza.kp hkb (by intro s hs; simp at hs; subst hs; exact hne)
      have hk3 := rdK_le zs (rdK zs k false 2) (rdB zs k false 2) 1 hkA
      have hxx := (rdV_bounds zs (rdK zs k false 2) (rdB zs k false 2) 1 HB.out).1
      unfold pX pB pK at HG2
      unfold pX pB at HBD
      unfold pF at HG2 HBD
      generalize rdK zs (rdK zs k false 2) (rdB zs k false 2) 1 = k3 at *
      generalize rdV zs (rdK zs k false 2) (rdB zs k false 2) 1 = x at *
      generalize rdB zs (rdK zs k false 2) (rdB zs k false 2) 1 = b3 at *
      generalize rdV zs k false 2 = f at *
      obtain ⟨e0, e1, e2, e3, e4⟩ := hrb.facts
      clear e0 e1 e3 e4
      have hszb : r + 1 ≤ wb.heap.size := by have := hkab.size; omega
      cases b3
      rotate_left
      · have hR : Hid (partGo zs n q cnt [] k0 = none) := by rw [Hid, ← HG2.out, if_pos (HBD.out.2 (.inl rfl))]
        go_wp2_with fail
        go_ret2
        exact .inl ⟨by rw [HRR.out, HPO.out, hR.out]; rfl, _, rfl, by subst hwr; (repeat (first | exact Kp.refl _ _ | assumption | refine Kp.drew ?_ | refine Kp.drewN ?_ _ | refine Kp.alloc ?_ _ | (refine Kp.setCell ?_ (by first | (left; simp; done) | (right; simp; try omega)) _) | (refine Kp.trans' ?_ (by assumption) (by simp; try omega))))⟩
      by_cases g1 : q ≤ x
      · have hR : Hid (partGo zs n q cnt [] k0 = none) := by rw [Hid, ← HG2.out, if_pos (HBD.out.2 (.inr (.inl g1)))]
        go_wp2_with fail
        go_ret2
        exact .inl ⟨by rw [HRR.out, HPO.out, hR.out]; rfl, _, rfl, by subst hwr; (repeat (first | exact Kp.refl _ _ | assumption | refine Kp.drew ?_ | refine Kp.drewN ?_ _ | refine Kp.alloc ?_ _ | (refine Kp.setCell ?_ (by first | (left; simp; done) | (right; simp; try omega)) _) | (refine Kp.trans' ?_ (by assumption) (by simp; try omega))))⟩
      by_cases g2 : (n : Int) ≤ f
      · have hR : Hid (partGo zs n q cnt [] k0 = none) := by rw [Hid, ← HG2.out, if_pos (HBD.out.2 (.inr (.inr (.inl g2))))]
        go_wp2_with fail
        go_ret2
        exact .inl ⟨by rw [HRR.out, HPO.out, hR.out]; rfl, _, rfl, by subst hwr; (repeat (first | exact Kp.refl _ _ | assumption | refine Kp.drew ?_ | refine Kp.drewN ?_ _ | refine Kp.alloc ?_ _ | (refine Kp.setCell ?_ (by first | (left; simp; done) | (right; simp; try omega)) _) | (refine Kp.trans' ?_ (by assumption) (by simp; try omega))))⟩
      by_cases g3 : j = 0
      · subst g3
        by_cases g4 : f = 0
        · subst g4
          obtain rfl : ps = [] := List.eq_nil_of_length_eq_zero HJ.out
          obtain ⟨rfl, rfl⟩ : m = 0 ∧ lst = 0 := HOA.out.1.nil rfl
          have hnb : ¬ pBad n q [] 0 x false := by
            intro h
            have hl := HLM.out
            rcases HBD.out.1 h with h | h | h | h | h
            · cases h
            · exact g1 h
            · exact g2 h
            · exact h.2 rfl
            · exact absurd h.1 (by omega)
          have HNB : Hid _ := hnb
          have HG3 : Hid (partGo zs n q (cnt - (0 + 1)) ([] ++ [((0 : Int), x)]) k3 = partGo zs n q cnt [] k0) := by rw [Hid, ← HG2.out, if_neg hnb]
          have hs0 : Hid (ChStR w wb r v zs k3 L (.slice p9 L.length c9)) := ⟨hob, hrb, hzb, by subst hwr; (repeat (first | exact Kp.refl _ _ | assumption | refine Kp.drew ?_ | refine Kp.drewN ?_ _ | refine Kp.alloc ?_ _ | (refine Kp.setCell ?_ (by first | (left; simp; done) | (right; simp; try omega)) _) | (refine Kp.trans' ?_ (by assumption) (by simp; try omega)))), by have := hkb.size; have := hka.size; omega, hwr, hvb⟩
          clear hnb hob hrb hzb hzz hrd hkk hka hkb hwr hvb HS HG2 HBD HG
          go_wp2_with fail
          go_loopw [10] (fun v9 wi => ChStR w wi r v zs k3 L v9) (fun v9 _ => 0)
          case atStart => exact hs0.out
          case round =>
            have HS2 : Hid _ := hrel
            obtain ⟨p8, c8, rfl⟩ := slice_own hrel.1
            have hszi := hrel.2.2.2.2.1
            clear hrel
            have hfl : ¬ ((L.length : Int) < 0) := by omega
            go_wp2_with (at_builtin; refine wpList_app rfl _ _ 24 rfl (r + 1) 3 (.int .i64 0) 1 8 Try.underlying24 infoInt rfl (by decide) (by decide) (.slice p8 L.length c8) L.length (L.map (Value.int .i64)) rfl ?hown (.slice (some ⟨wr.heap.size, 0, none⟩) 1 1) 1 [.int .i64 x] rfl ?hsrc ?hone ?hb1 ?hb2 ?hk)
            case hown => exact HS2.out.1.alloc _
            case hsrc => exact Reads.made _ _ 1 1 [.int .i64 x] _ rfl rfl (by decide)
            case hone => first | (intro u hu; simp at hu; subst hu; rfl) | rfl
            case hb1 => have := HLM.out; omega
            case hb2 => have := HLM.out; simp; omega
            case hk =>
              intro v' wj hown hgr
              have hs' : ChStR w wj r v zs k3 (L ++ [x]) v' := ChStR.app HS2.out hown hgr
              have hoa' : OutAt ([] ++ [((0 : Int), x)]) n q (L ++ [x]) (0 + 1) x := HOA.out.1.next 0 x false HNB.out (by omega) (by omega) rfl
              have HOA3 : Hid (OutAt ([] ++ [((0 : Int), x)]) n q (L ++ [x]) (0 + 1) x ∧ (([] ++ [((0 : Int), x)]) ≠ [] → ((0 + 1 : Nat) : Int) = fiP ([] ++ [((0 : Int), x)]) (([] ++ [((0 : Int), x)]).length - 1) + 1)) := ⟨hoa', fun _ => rfl⟩
              have HJ3 : Hid (([] ++ [((0 : Int), x)]).length = 0 + 1) := rfl
              clear hown hgr hfl hoa'
              go_wp2_with fail
              go_roundw
              case rel => first | exact ⟨0 + 1, k3, 0 + 1, _, L ++ [x], x, by omega, int_eq (by omega), rfl, HJ3, hs', hk3, HOA3, HG3⟩ | ((repeat apply Exists.intro); exact ⟨⟨0 + 1, k3, 0 + 1, _, L ++ [x], x, by omega, int_eq (by omega), rfl, HJ3, hs', hk3, HOA3, HG3⟩, rfl⟩)
              case measure => simp [intOf]; omega
        · have g4' : (f == 0) = false := by simp; omega
          have hR : Hid (partGo zs n q cnt [] k0 = none) := by rw [Hid, ← HG2.out, if_pos (HBD.out.2 (.inr (.inr (.inr (.inl ⟨rfl, by omega⟩)))))]
          go_wp2_with fail
          go_ret2
          exact .inl ⟨by rw [HRR.out, HPO.out, hR.out]; rfl, _, rfl, by subst hwr; (repeat (first | exact Kp.refl _ _ | assumption | refine Kp.drew ?_ | refine Kp.drewN ?_ _ | refine Kp.alloc ?_ _ | (refine Kp.setCell ?_ (by first | (left; simp; done) | (right; simp; try omega)) _) | (refine Kp.trans' ?_ (by assumption) (by simp; try omega))))⟩
      · have g3' : ((j : Int) == 0) = false := by simp; omega
        have hLn : L.length ≤ n := by have := HLM.out; omega
        by_cases g5 : f ≤ L.length - 1
        · have hR : Hid (partGo zs n q cnt [] k0 = none) := by rw [Hid, ← HG2.out, if_pos (HBD.out.2 (.inr (.inr (.inr (.inr ⟨by omega, by have := HLM.out; omega⟩)))))]
          go_wp2_with fail
          go_ret2
          exact .inl ⟨by rw [HRR.out, HPO.out, hR.out]; rfl, _, rfl, by subst hwr; (repeat (first | exact Kp.refl _ _ | assumption | refine Kp.drew ?_ | refine Kp.drewN ?_ _ | refine Kp.alloc ?_ _ | (refine Kp.setCell ?_ (by first | (left; simp; done) | (right; simp; try omega)) _) | (refine Kp.trans' ?_ (by assumption) (by simp; try omega))))⟩
        · obtain ⟨fn, rfl⟩ : ∃ fn : Nat, f = fn := ⟨f.toNat, by omega⟩
          have hps : ps ≠ [] := fun e => by have := HJ.out; rw [e] at this; simp at this; omega
          have HPS : Hid _ := hps
          clear hps
          have hnb : ¬ pBad n q ps fn x false := by
            intro h
            have hl := HLM.out
            rcases HBD.out.1 h with h | h | h | h | h
            · cases h
            · exact g1 h
            · exact g2 h
            · omega
            · omega
          have HNB : Hid _ := hnb
          have HG3 : Hid (partGo zs n q (cnt - (j + 1)) (ps ++ [((fn : Int), x)]) k3 = partGo zs n q cnt [] k0) := by rw [Hid, ← HG2.out, if_neg hnb]
          have hs0 : Hid (ChStR w wb r v zs k3 L (.slice p9 L.length c9)) := ⟨hob, hrb, hzb, by subst hwr; (repeat (first | exact Kp.refl _ _ | assumption | refine Kp.drew ?_ | refine Kp.drewN ?_ _ | refine Kp.alloc ?_ _ | (refine Kp.setCell ?_ (by first | (left; simp; done) | (right; simp; try omega)) _) | (refine Kp.trans' ?_ (by assumption) (by simp; try omega)))), by have := hkb.size; have := hka.size; omega, hwr, hvb⟩
          clear hnb hob hrb hzb hzz hrd hkk hka hkb hwr hvb HS HG2 HBD HG
          have g2n : ¬ n ≤ fn := by omega
          go_wp2_with fail
          go_loopw [10] (fun v9 wi => ∃ (m2 : Nat) (L2 : List Int), OutAt ps n q L2 m2 lst ∧ m2 ≤ fn ∧ ChStR w wi r v zs k3 L2 v9) (fun v9 _ => fn - vlen v9)
          case atStart => exact ⟨m, L, HOA.out.1, by have := HLM.out; omega, hs0.out⟩
          case round =>
            obtain ⟨m2, L2, hoa2, hm2, hs2⟩ := hrel
            have HS2 : Hid _ := hs2
            have HOA2 : Hid _ := hoa2
            have HM2 : Hid (L2.length = m2 ∧ m2 ≤ n) := ⟨hoa2.len, hoa2.le⟩
            obtain ⟨p8, c8, rfl⟩ := slice_own hs2.1
            have hszi := hs2.2.2.2.2.1
            clear hs2 hoa2
            by_cases hfl : L2.length < fn
            · have HFL : Hid _ := hfl
              go_wp2_with (at_builtin; refine wpList_app rfl _ _ 24 rfl (r + 1) 3 (.int .i64 0) 1 8 Try.underlying24 infoInt rfl (by decide) (by decide) (.slice p8 L2.length c8) L2.length (L2.map (Value.int .i64)) rfl ?hown (.slice (some ⟨wr.heap.size, 0, none⟩) 1 1) 1 [.int .i64 lst] rfl ?hsrc ?hone ?hb1 ?hb2 ?hk)
              case hown => exact HS2.out.1.alloc _
              case hsrc => exact Reads.made _ _ 1 1 [.int .i64 lst] _ rfl rfl (by decide)
              case hone => first | (intro u hu; simp at hu; subst hu; rfl) | rfl
              case hb1 => have := HM2.out; omega
              case hb2 => have := HM2.out; simp; omega
              case hk =>
                intro v' wj hown hgr
                have hs' : ChStR w wj r v zs k3 (L2 ++ [lst]) v' := ChStR.app HS2.out hown hgr
                have hvl : Hid (vlen v' = L2.length + 1) := by have := vlen_own hs'.1; rw [Hid, this]; simp
                have hoa' : OutAt ps n q (L2 ++ [lst]) (m2 + 1) lst := HOA2.out.fill (by exact HPS.out) (by have := HM2.out; omega)
                clear hown hgr hfl
                go_wp2_with fail
                go_roundw
                case rel => first | exact ⟨m2 + 1, L2 ++ [lst], hoa', by have := HM2.out; have := HFL.out; omega, hs'⟩ | ((repeat apply Exists.intro); exact ⟨⟨m2 + 1, L2 ++ [lst], hoa', by have := HM2.out; have := HFL.out; omega, hs'⟩, rfl⟩)
                case measure => show fn - vlen v' < fn - L2.length; rw [hvl.out]; have := HFL.out; omega
            · have hm2f : (m2 : Int) = fn := by have := HM2.out; omega
              have HMF : Hid _ := hm2f
              clear hm2f
              go_wp2_with (at_builtin; refine wpList_app rfl _ _ 24 rfl (r + 1) 3 (.int .i64 0) 1 8 Try.underlying24 infoInt rfl (by decide) (by decide) (.slice p8 L2.length c8) L2.length (L2.map (Value.int .i64)) rfl ?hown (.slice (some ⟨wr.heap.size, 0, none⟩) 1 1) 1 [.int .i64 x] rfl ?hsrc ?hone ?hb1 ?hb2 ?hk)
              case hown => exact HS2.out.1.alloc _
              case hsrc => exact Reads.made _ _ 1 1 [.int .i64 x] _ rfl rfl (by decide)
              case hone => first | (intro u hu; simp at hu; subst hu; rfl) | rfl
              case hb1 => have := HM2.out; omega
              case hb2 => have := HM2.out; simp; omega
              case hk =>
                intro v' wj hown hgr
                have hs' : ChStR w wj r v zs k3 (L2 ++ [x]) v' := ChStR.app HS2.out hown hgr
                have hoa' : OutAt (ps ++ [((fn : Int), x)]) n q (L2 ++ [x]) (m2 + 1) x := HOA2.out.next fn x false HNB.out (by omega) (by omega) HMF.out
                have hlst : (m2 + 1 : Nat) = fiP (ps ++ [((fn : Int), x)]) ((ps ++ [((fn : Int), x)]).length - 1) + 1 := by
                  rw [List.length_append, List.length_singleton, Nat.add_sub_cancel, (fiP_new ps _).1]; have := HMF.out; simp only; omega
                have HOA3 : Hid (OutAt (ps ++ [((fn : Int), x)]) n q (L2 ++ [x]) (m2 + 1) x ∧ ((ps ++ [((fn : Int), x)]) ≠ [] → ((m2 + 1 : Nat) : Int) = fiP (ps ++ [((fn : Int), x)]) ((ps ++ [((fn : Int), x)]).length - 1) + 1)) := ⟨hoa', fun _ => hlst⟩
                have HJ3 : Hid ((ps ++ [((fn : Int), x)]).length = j + 1) := by unfold Hid; have := HJ.out; simp; omega
                clear hown hgr hfl hoa' hlst
                go_wp2_with fail
                go_roundw
                case rel => first | exact ⟨j + 1, k3, m2 + 1, _, L2 ++ [x], x, by omega, int_eq (by omega), rfl, HJ3, hs', hk3, HOA3, HG3⟩ | ((repeat apply Exists.intro); exact ⟨⟨j + 1, k3, m2 + 1, _, L2 ++ [x], x, by omega, int_eq (by omega), rfl, HJ3, hs', hk3, HOA3, HG3⟩, rfl⟩)
                case measure => simp [intOf]; omega
    · obtain rfl : j = cnt := by omega
      have hpg : partGo zs n q j [] k0 = some (ps, k) := by rw [← HG.out, Nat.sub_self]; rfl
      have HPG : Hid _ := hpg
      have HPS : Hid (ps ≠ []) := fun e => by have a := HJ.out; have b := HC1.out; rw [e] at a; simp at a; omega
      clear HG hpg
      go_wp2_with fail
      refine (ru_calls r v zs k 2 false 2 rfl _ hrd hzz HB.out hne (by omega) (by omega) hk).mono ?_; rintro e wa ⟨rfl, hra, hka⟩
      have hza := hzz.kp hka (by intro s hs; simp at hs; subst hs; exact hne)
      have hoa := hka.row HS.out.1 (by intro s hs e; simp at hs; subst hs; have := own_ge HS.out.1 _ e; omega)
      have hFIN : Hid (partFin zs n (ps, k) = if ps ≠ [] ∧ rdV zs k false 2 = n ∧ rdB zs k false 2 = false then some ps else none) := rfl
      have HPP : Hid (partsOf zs n q k1 = partFin zs n (ps, k)) := by rw [Hid, HPO.out, HPG.out]; rfl
      generalize rdK zs k false 2 = k3 at *
      generalize rdV zs k false 2 = y at *
      generalize rdB zs k false 2 = b3 at *
      obtain ⟨e0, e1, e2, e3, e4⟩ := hra.facts
      clear e0 e1 e3 e4
      have hsza : r + 1 ≤ wa.heap.size := by have := hka.size; omega
      by_cases hy : y = n
      · subst hy
        cases b3
        · have HFI : Hid (partsOf zs n q k1 = some ps) := by rw [Hid, HPP.out, hFIN.out, if_pos ⟨HPS.out, rfl, rfl⟩]
          have hs0 : Hid (ChStR w wa r v zs k3 L (.slice p9 L.length c9)) := ⟨hoa, hra, hza, by subst hwr; (repeat (first | exact Kp.refl _ _ | assumption | refine Kp.drew ?_ | refine Kp.drewN ?_ _ | refine Kp.alloc ?_ _ | (refine Kp.setCell ?_ (by first | (left; simp; done) | (right; simp; try omega)) _) | (refine Kp.trans' ?_ (by assumption) (by simp; try omega)))), by omega, hwr, hvb⟩
          clear hoa hra hza hzz hrd hkk hka hvb HS hFIN HPP HPO HPG
          go_wp2_with fail
          go_loopw [10] (fun v9 wi => ∃ (m2 : Nat) (L2 : List Int), OutAt ps n q L2 m2 lst ∧ ChStR w wi r v zs k3 L2 v9) (fun v9 _ => n - vlen v9)
          case atStart => exact ⟨m, L, HOA.out.1, hs0.out⟩
          case round =>
            obtain ⟨m2, L2, hoa2, hs2⟩ := hrel
            have HS2 : Hid _ := hs2
            have HOA2 : Hid _ := hoa2
            have HM2 : Hid (L2.length = m2 ∧ m2 ≤ n) := ⟨hoa2.len, hoa2.le⟩
            obtain ⟨p8, c8, rfl⟩ := slice_own hs2.1
            have hszi := hs2.2.2.2.2.1
            have hkw := hs2.2.2.2.1
            clear hs2 hoa2
            by_cases hfl : L2.length < n
            · have HFL : Hid _ := hfl
              go_wp2_with (at_builtin; refine wpList_app rfl _ _ 24 rfl (r + 1) 3 (.int .i64 0) 1 8 Try.underlying24 infoInt rfl (by decide) (by decide) (.slice p8 L2.length c8) L2.length (L2.map (Value.int .i64)) rfl ?hown (.slice (some ⟨wr.heap.size, 0, none⟩) 1 1) 1 [.int .i64 lst] rfl ?hsrc ?hone ?hb1 ?hb2 ?hk)
              case hown => exact HS2.out.1.alloc _
              case hsrc => exact Reads.made _ _ 1 1 [.int .i64 lst] _ rfl rfl (by decide)
              case hone => first | (intro u hu; simp at hu; subst hu; rfl) | rfl
              case hb1 => have := HM2.out; omega
              case hb2 => have := HM2.out; simp; omega
              case hk =>
                intro v' wj hown hgr
                have hs' : ChStR w wj r v zs k3 (L2 ++ [lst]) v' := ChStR.app HS2.out hown hgr
                have hvl : Hid (vlen v' = L2.length + 1) := by have := vlen_own hs'.1; rw [Hid, this]; simp
                have hoa' : OutAt ps n q (L2 ++ [lst]) (m2 + 1) lst := HOA2.out.fill HPS.out (by have := HM2.out; omega)
                clear hown hgr hfl
                go_wp2_with fail
                go_roundw
                case rel => first | exact ⟨m2 + 1, L2 ++ [lst], hoa', hs'⟩ | ((repeat apply Exists.intro); exact ⟨⟨m2 + 1, L2 ++ [lst], hoa', hs'⟩, rfl⟩)
                case measure => show n - vlen v' < n - L2.length; rw [hvl.out]; have := HFL.out; omega
            · have HX : Hid (L2 = spreadL ps n) := by
                have := HM2.out
                have hm : m2 = n := by omega
                unfold Hid; rw [HOA2.out.out, hm]
              go_wp2_with fail
              go_ret2
              exact .inr ⟨L2, _, by rw [HRR.out, HFI.out, HX.out]; rfl, rfl, IsInts.owned HS2.out.1, by subst hwr; exact hkw, fun b hb => by have := own_geb HS2.out.1 b hb; omega⟩
        · have hR : Hid (partsOf zs n q k1 = none) := by rw [Hid, HPP.out, hFIN.out, if_neg (by simp)]
          go_wp2_with fail
          go_ret2
          exact .inl ⟨by rw [HRR.out, hR.out]; rfl, _, rfl, by subst hwr; (repeat (first | exact Kp.refl _ _ | assumption | refine Kp.drew ?_ | refine Kp.drewN ?_ _ | refine Kp.alloc ?_ _ | (refine Kp.setCell ?_ (by first | (left; simp; done) | (right; simp; try omega)) _) | (refine Kp.trans' ?_ (by assumption) (by simp; try omega))))⟩
      · have hR : Hid (partsOf zs n q k1 = none) := by rw [Hid, HPP.out, hFIN.out, if_neg (fun h => hy h.2.1)]
        go_wp2_with fail
        go_ret2
        exact .inl ⟨by rw [HRR.out, hR.out]; rfl, _, rfl, by subst hwr; (repeat (first | exact Kp.refl _ _ | assumption | refine Kp.drew ?_ | refine Kp.drewN ?_ _ | refine Kp.alloc ?_ _ | (refine Kp.setCell ?_ (by first | (left; simp; done) | (right; simp; try omega)) _) | (refine Kp.trans' ?_ (by assumption) (by simp; try omega))))⟩
theorem rselect_calls (v : Value) (zs : List Int) (n : Nat) (q : Int) (h1 : 1 ≤ n) (h2 : n ≤ 65535) (w : World) (hz : IsInts .u8 w v zs) (hb : ∀ c ∈ zs, 0 ≤ c ∧ c ≤ 255) (hv : ∀ b, blockOf v = some b → b < w.heap.size) :
    Calls Try.prog 22 #[v, .int .i64 n, .int .i64 q] w (RLoaded .i64 (csSel zs n q) w) := by
  cases hb1 : rdB zs 0 false 1
  · by_cases h0 : rdV zs 0 false 1 = 0
    · rw [show csSel zs n q = oneGo zs q n [] (rdK zs 0 false 1) by unfold csSel; rw [if_neg (by simp [hb1]), if_pos h0]]
      exact rsel_0 v zs n q h1 h2 w hz hb hv hb1 h0
    · by_cases h3 : rdV zs 0 false 1 = 3
      · rw [show csSel zs n q = (partsOf zs n q (rdK zs 0 false 1)).map (fun l => spreadL l n) by unfold csSel; rw [if_neg (by simp [hb1]), if_neg h0, if_pos h3]]
        exact rsel_3 v zs n q h1 h2 w hz hb hv hb1 h3 _ rfl
      · rw [show csSel zs n q = none by unfold csSel; rw [if_neg (by simp [hb1]), if_neg h0, if_neg h3]]
        exact rsel_other v zs n q h1 h2 w hz hb hv hb1 (beq_eq_false_iff_ne.2 h0) (beq_eq_false_iff_ne.2 h3)
  · rw [show csSel zs n q = none by unfold csSel; rw [if_pos hb1]]
    exact rsel_bad v zs n q h1 h2 w hz hb hv hb1
end Go.Proofs.Ythmokldmdcjklaa

/- glyf: the walk's outline, level by level. -/
import Derived.Test.YtafkhnlmipddmaaGreatGlE
import Derived.BigQuiet
import Derived.Deep.DeepCutAuto
namespace Go.Proofs.YtafkhnlmipddmaaGreat
open Go.RowKit
set_option linter.unusedVariables false
set_option linter.unusedSimpArgs false
def LvC (n0 T B : Nat) (zs A : List Int) (d : Int) : Option (Int → Nat → GRes) → Prop
  | none => d = 6
  | some e => (0 ≤ d ∧ d ≤ 5) ∧ EvC n0 T B zs A (d + 1) e ∧ (∀ g v, v ≤ 1024 → okE (e g v)) ∧ (∀ g, g + 1 < A.length → kindM (gB zs A g) = 2 → ∀ p ∈ (Cp.decM (gB zs A g)).1, -4294967296 ≤ p.g ∧ p.g ≤ 4294967296)
def glyIn (b : List Int) (ev : Option (Int → Nat → GRes)) (v : Nat) : GRes :=
  if kindM b ≠ 2 then (decS b, v) else match ev with
    | none => (([], 130), v)
    | some e => if (Cp.decM b).2 ≠ 0 then (([], (Cp.decM b).2), v) else partsG e (Cp.decM b).1 [] v
theorem glyG_in (zs A : List Int) (ev : Option (Int → Nat → GRes)) (n v : Nat) (h : n + 1 < A.length) : glyG zs A ev (n : Int) v = glyIn (gB zs A n) ev v := by
  unfold glyG
  rw [if_neg (by simp; omega)]
  simp only [Int.toNat_natCast]
  rfl
theorem partsG_step {ev : Int → Nat → GRes} {ps : List Cp.Pt} {j : Nat} (hj : j < ps.length) (all : List (List Pn)) (v : Nat) : partsG ev (ps.drop j) all v = if (partG ev (ps.getD j Cp.pt0) all v).1.2 ≠ 0 then (([], (partG ev (ps.getD j Cp.pt0) all v).1.2), (partG ev (ps.getD j Cp.pt0) all v).2) else partsG ev (ps.drop (j + 1)) (partG ev (ps.getD j Cp.pt0) all v).1.1 (partG ev (ps.getD j Cp.pt0) all v).2 := by
  rw [List.drop_eq_getElem_cons hj, List.getD_eq_getElem?_getD, List.getElem?_eq_getElem hj]; rfl
set_option maxRecDepth 100000 in
set_option maxHeartbeats 8000000 in
theorem level_calls (n0 T B : Nat) (zs A : List Int) (ok : okTb zs A) (hG : okG zs A) (hn : n0 ≤ B) (d : Int) (ev : Option (Int → Nat → GRes)) (hL : LvC n0 T B zs A d ev) : EvC n0 T B zs A d (glyG zs A ev) := by
  intro g v W ht hw hv hg
  have HT := Lib.hid ht
  have HW := Lib.hid hw
  obtain ⟨w0, w1, f1, hBl⟩ := hw.cells
  by_cases hgr : 0 ≤ g ∧ g + 1 < A.length
  · obtain ⟨n, rfl⟩ : ∃ n : Nat, g = n := ⟨g.toNat, by omega⟩
    have hn1 : n + 1 < A.length := by omega
    have HB := Lib.hid (tbytes_in W n0 T zs A ht ok n hn1)
    have hbb := gB_bytes ok n
    have HPl : Hid (kindM (gB zs A n) = 2 → ∀ p ∈ (Cp.decM (gB zs A n)).1, plainP p) := (hG n hn1).2
    have hL2 := hL
    have e0 := glyG_in zs A ev n v hn1
    rw [e0]
    have HGN : Hid (∀ e, ev = some e → kindM (gB zs A n) = 2 → ∀ p ∈ (Cp.decM (gB zs A n)).1, -4294967296 ≤ p.g ∧ p.g ≤ 4294967296) := fun e he hk => by subst he; exact hL.2.2.2 n hn1 hk
    have hkb : kindM (gB zs A n) = 0 ∨ kindM (gB zs A n) = 1 ∨ kindM (gB zs A n) = 2 := by
      unfold kindM; split
      · exact .inl rfl
      · split
        · exact .inr (.inr rfl)
        · exact .inr (.inl rfl)
    unfold glyIn
    generalize gB zs A n = b at *
    have HBB := Lib.hid hbb
    obtain ⟨K, hK⟩ : ∃ K, kindM b = K := ⟨_, rfl⟩
    have HK := Lib.hid (fun v2 W (h : IsInts .u8 W v2 b) => kind_calls v2 b W h)
    rw [hK] at HK hkb HPl HGN ⊢
    clear hK e0 ht hw hbb hn1 hgr
    by_cases hk2 : K = 2
    · subst hk2
      clear hkb
      have HPL := Lib.hid (HPl.out rfl)
      have HGL := Lib.hid (fun e he => HGN.out e he rfl)
      rw [if_neg (by simp)]
      cases ev with
      | none =>
        obtain rfl : d = 6 := hL2
        go_enter Tryz.func34, Tryz.ntmps34
        go_wp2_with fail
        refine HB.out.mono ?_; rintro e w2 ⟨v2, rfl, hi2, hb2, hk2⟩
        have hf2 : ∃ p c, v2 = .slice p b.length c := by
          rcases hi2 with ⟨⟨ad, rfl⟩, e⟩ | ⟨g, off, c, rfl, _⟩
          · exact ⟨_, 0, by rw [e]; rfl⟩
          · exact ⟨_, c, rfl⟩
        obtain ⟨p2, c2, rfl⟩ := hf2
        have HI := Lib.hid hi2
        have HW2 : Hid (WkAt w2 B T v) := HW.out.kp0 hk2
        have HK2 := Lib.hid hk2
        clear hi2 hb2 hk2 HB
        go_wp2_with fail
        refine (HK.out _ _ HI.out).mono ?_; rintro e w3 ⟨rfl, hk3⟩
        have HW3 : Hid (WkAt w3 B T v) := HW2.out.kp0 hk3
        have HK3 : Hid (Kp [] W w3) := HK2.out.trans hk3
        clear hk3
        go_wp2_with fail
        go_ret2
        exact ⟨_, rfl, IsOut.nil _ _, HW3.out, HK3.out.more (fun s hs => nomatch hs)⟩
      | some ev =>
        obtain ⟨hd, hE, hO, _⟩ := hL2
        have HEV := Lib.hid hE
        have HOK := Lib.hid hO
        have d6 : (d == 6) = false := by simp; omega
        have HDE := Lib.hid (fun v2 W (h1 : IsInts .u8 W v2 b) (h2 : ∀ b, blockOf v2 = some b → b < W.heap.size) => Cp.decode_calls h1 HBB.out h2)
        have HGE := Lib.hid (HGL.out ev rfl)
        have HR1 : Hid ((Cp.decM b).2 ≠ 0 → (if (Cp.decM b).2 ≠ 0 then (([], (Cp.decM b).2), v) else partsG ev (Cp.decM b).1 [] v) = (([], (Cp.decM b).2), v)) := fun h => if_pos h
        have HR0 : Hid ((Cp.decM b).2 = 0 → (if (Cp.decM b).2 ≠ 0 then (([], (Cp.decM b).2), v) else partsG ev (Cp.decM b).1 [] v) = partsG ev (Cp.decM b).1 [] v) := fun h => if_neg (by omega)
        dsimp only
        obtain ⟨RES, hRES⟩ : ∃ R, (if (Cp.decM b).2 ≠ 0 then (([], (Cp.decM b).2), v) else partsG ev (Cp.decM b).1 [] v) = R := ⟨_, rfl⟩
        rw [hRES] at HR1 HR0 ⊢
        obtain ⟨⟨ps, pe⟩, hps⟩ : ∃ r, Cp.decM b = r := ⟨_, rfl⟩
        rw [hps] at HDE HR1 HR0 HPL HGE
        dsimp only at HDE HR1 HR0 HPL HGE
        clear hL hps hRES HGL HGN HPl hE hO
        go_enter Tryz.func34, Tryz.ntmps34
        go_wp2_with fail
        refine HB.out.mono ?_; rintro e w2 ⟨v2, rfl, hi2, hb2, hk2⟩
        have hf2 : ∃ p c, v2 = .slice p b.length c := by
          rcases hi2 with ⟨⟨ad, rfl⟩, e⟩ | ⟨g, off, c, rfl, _⟩
          · exact ⟨_, 0, by rw [e]; rfl⟩
          · exact ⟨_, c, rfl⟩
        obtain ⟨p2, c2, rfl⟩ := hf2
        have HI := Lib.hid hi2
        have HB2 : Hid (∀ b', blockOf (.slice p2 b.length c2) = some b' → b' < w2.heap.size) := fun b' hb' => by have := hb2 b' hb'; have := hk2.size; omega
        have HW2 : Hid (WkAt w2 B T v) := HW.out.kp0 hk2
        have HT2 : Hid (TbAt w2 n0 T zs A) := HT.out.kp0 hk2
        have HK2 := Lib.hid hk2
        clear hi2 hb2 hk2 HB HT HW
        go_wp2_with fail
        refine (HK.out _ _ HI.out).mono ?_; rintro e w3 ⟨rfl, hk3⟩
        replace HI := Lib.hid (HI.out.kp hk3 (by simp))
        have HB3 : Hid (∀ b', blockOf (.slice p2 b.length c2) = some b' → b' < w3.heap.size) := fun b' hb' => by have := HB2.out b' hb'; have := hk3.size; omega
        have HW3 : Hid (WkAt w3 B T v) := HW2.out.kp0 hk3
        have HT3 : Hid (TbAt w3 n0 T zs A) := HT2.out.kp0 hk3
        have HK3 : Hid (Kp [] W w3) := HK2.out.trans hk3
        clear hk3 HW2 HT2 HK2 HB2 HK
        go_wp2_with fail
        refine (HDE.out _ _ HI.out HB3.out).mono ?_; rintro e w4 ⟨v4, rfl, hp4, hk4⟩
        obtain ⟨p4, c4, rfl⟩ := hp4.form
        have HP4 := Lib.hid hp4
        have HW4 : Hid (WkAt w4 B T v) := HW3.out.kp0 hk4
        have HT4 : Hid (TbAt w4 n0 T zs A) := HT3.out.kp0 hk4
        have HK4 : Hid (Kp [] W w4) := HK3.out.trans hk4
        have HPL4 : Hid (ps.length ≤ maxLen) := hp4.le
        obtain ⟨NP, hNP⟩ : ∃ N, ps.length = N := ⟨_, rfl⟩
        have HNP := Lib.hid hNP
        rw [hNP] at HP4 HPL4 ⊢
        clear hp4 hk4 HW3 HT3 HK3 HB3 HI HDE hNP
        by_cases hpe : pe = 0
        · subst hpe
          have HRX := Lib.hid (HR0.out rfl)
          clear HR1 HR0
          have hmax := HPL4.out
          unfold maxLen at hmax
          go_wp2_with fail
          go_loopw [9, 11, 13, 48] (fun e u _ i wr => ∃ (j : Nat) (l : Value) (all : List (List Pn)) (x : Nat), j ≤ NP ∧ i = .int .i64 j ∧ l = u ∧ e = .int .i64 0 ∧ Hid (RES = partsG ev (ps.drop j) all x ∧ checkO all = 0 ∧ x ≤ 1024 ∧ IsOut wr l all ∧ WkAt wr B T x ∧ TbAt wr n0 T zs A ∧ Cp.IsPts wr (.slice p4 NP c4) ps ∧ Kp [B] W wr)) (fun _ _ _ i _ => NP - (intOf i).toNat)
          case atStart => exact ⟨0, _, [], v, by omega, rfl, rfl, rfl, HRX.out, check_nil, hv, IsOut.nil _ _, HW4.out, HT4.out, HP4.out, HK4.out.more (fun s hs => nomatch hs)⟩
          case round =>
            obtain ⟨j, l, all, x, hj, rfl, rfl, rfl, HJ⟩ := hrel
            by_cases hlt : j < NP
            · have hjp : j < ps.length := by rw [HNP.out]; exact hlt
              have HST := Lib.hid (partsG_step (ev := ev) hjp all x)
              have hpm : ps.getD j Cp.pt0 ∈ ps := by rw [List.getD_eq_getElem?_getD, List.getElem?_eq_getElem hjp]; exact List.getElem_mem _
              have hpl := HPL.out _ hpm
              have hgl := HGE.out _ hpm
              have HPC := Lib.hid (fun W2 (h1 : IsOut W2 l all) (h2 : TbAt W2 n0 T zs A) (h3 : WkAt W2 B T x) => part_calls n0 T B zs A d hd ev HEV.out HOK.out hn l all (ps.getD j Cp.pt0) x W2 h1 HJ.out.2.1 hpl hgl h2 h3 HJ.out.2.2.1)
              have HRJ := Lib.hid HJ.out.1
              rw [HST.out] at HRJ
              have HPO := Lib.hid (partG_ok HOK.out (ps.getD j Cp.pt0) all x HJ.out.2.2.1)
              obtain ⟨g1, o1, cc, e1, hcell⟩ : ∃ g off c, (Value.slice p4 NP c4) = .slice (some ⟨g, off, none⟩) NP c ∧ ∀ t u, (Cp.ptCells (ps.getD j Cp.pt0))[t]? = some u → wr.cell? ⟨g, off + j * 11 + t, none⟩ = some u := by
                rcases HJ.out.2.2.2.2.2.2.1.cases with ⟨ad, e, h⟩ | ⟨g, off, c, e, _, _, h⟩
                · rw [h] at hjp; simp at hjp
                · rw [HNP.out] at e
                  exact ⟨g, off, c, e, h j hjp⟩
              cases e1
              obtain ⟨⟨⟨qo, qe⟩, qx⟩, hq⟩ : ∃ r, partG ev (ps.getD j Cp.pt0) all x = r := ⟨_, rfl⟩
              rw [hq] at HPC HRJ HPO
              dsimp only at HPC HRJ
              obtain ⟨⟨pg, pxx, pxy, pyx, pyy, pm, pdx, pdy, pt, ppa, pch⟩, hp⟩ : ∃ p, ps.getD j Cp.pt0 = p := ⟨_, rfl⟩
              rw [hp] at hcell HPC
              have x0 : wr.cell? ⟨g1, o1 + j * 11, none⟩ = some (.int .i64 pg) := hcell 0 _ rfl
              have x1 : wr.cell? ⟨g1, o1 + j * 11 + 1, none⟩ = some (.int .i64 pxx) := hcell 1 _ rfl
              have x2 : wr.cell? ⟨g1, o1 + j * 11 + 2, none⟩ = some (.int .i64 pxy) := hcell 2 _ rfl
              have x3 : wr.cell? ⟨g1, o1 + j * 11 + 3, none⟩ = some (.int .i64 pyx) := hcell 3 _ rfl
              have x4 : wr.cell? ⟨g1, o1 + j * 11 + 4, none⟩ = some (.int .i64 pyy) := hcell 4 _ rfl
              have x5 : wr.cell? ⟨g1, o1 + j * 11 + 5, none⟩ = some (.bool pm) := hcell 5 _ rfl
              have x6 : wr.cell? ⟨g1, o1 + j * 11 + 6, none⟩ = some (.int .i64 pdx) := hcell 6 _ rfl
              have x7 : wr.cell? ⟨g1, o1 + j * 11 + 7, none⟩ = some (.int .i64 pdy) := hcell 7 _ rfl
              have x8 : wr.cell? ⟨g1, o1 + j * 11 + 8, none⟩ = some (.bool pt) := hcell 8 _ rfl
              have x9 : wr.cell? ⟨g1, o1 + j * 11 + 9, none⟩ = some (.int .i64 ppa) := hcell 9 _ rfl
              have x10 : wr.cell? ⟨g1, o1 + j * 11 + 10, none⟩ = some (.int .i64 pch) := hcell 10 _ rfl
              obtain ⟨pl, cl, hlf⟩ := HJ.out.2.2.2.1.form
              subst hlf
              have HJ2 := Lib.hid HJ.out.2
              generalize all.length = NA at *
              clear hcell hq hp hpl hgl hpm HJ HST hjp
              go_wp2_with fail
              clear x0 x1 x2 x3 x4 x5 x6 x7 x8 x9 x10
              have hka : Kp [] wr (wr.alloc (.cells #[.int .i64 pg, .int .i64 pxx, .int .i64 pxy, .int .i64 pyx, .int .i64 pyy, .bool pm, .int .i64 pdx, .int .i64 pdy, .bool pt, .int .i64 ppa, .int .i64 pch] 34)) := (Kp.refl _ _).alloc _
              refine (HPC.out _ (HJ2.out.2.2.1.kp0 hka) (HJ2.out.2.2.2.2.1.kp0 hka) (HJ2.out.2.2.2.1.kp0 hka)).mono ?_; rintro e w6 ⟨v6, rfl, ho6, hw6, hk6⟩
              have HP6 : Hid (Cp.IsPts w6 (.slice (some ⟨g1, o1, none⟩) NP c4) ps) := IsPts.kpB (HJ2.out.2.2.2.2.2.1.kp hka (by simp)) (HJ2.out.2.2.2.1.kp0 hka) hk6
              have HT6 : Hid (TbAt w6 n0 T zs A) := (HJ2.out.2.2.2.2.1.kp0 hka).kp hk6 (by intro s hs; simp at hs; omega)
              have HW6 := Lib.hid hw6
              have HO6 := Lib.hid ho6
              have HK6 : Hid (Kp [B] W w6) := HJ2.out.2.2.2.2.2.2.trans (Kp.trans (hka.more (fun s hs => nomatch hs)) hk6)
              obtain ⟨p6, c6, rfl⟩ := ho6.form
              generalize qo.length = NQ at *
              clear hka ho6 hw6 hk6 HPC HJ2
              by_cases hqe : qe = 0
              · subst hqe
                rw [if_neg (by simp)] at HRJ
                have HPX : Hid (checkO qo = 0 ∧ qx ≤ 1024) := HPO.out
                go_wp2_with fail
                go_roundw
                case rel => first | exact ⟨j + 1, _, qo, qx, by omega, int_eq' (by omega), rfl, rfl, HRJ.out, HPX.out.1, HPX.out.2, HO6.out, HW6.out, HT6.out, HP6.out, HK6.out⟩ | ((repeat apply Exists.intro); exact ⟨⟨j + 1, _, qo, qx, by omega, int_eq' (by omega), rfl, rfl, HRJ.out, HPX.out.1, HPX.out.2, HO6.out, HW6.out, HT6.out, HP6.out, HK6.out⟩, rfl⟩)
                case measure => simp [intOf] <;> omega
              · have hb : (qe != 0) = true := by simpa using hqe
                rw [if_pos hqe] at HRJ
                go_wp2_with fail
                go_ret2
                rw [HRJ.out]
                exact ⟨_, rfl, IsOut.nil _ _, HW6.out, HK6.out⟩
            · obtain rfl : j = NP := by omega
              have HRJ := Lib.hid HJ.out.1
              rw [List.drop_eq_nil_of_le (by rw [HNP.out]; exact Nat.le_refl _)] at HRJ
              have HRK : Hid (RES = ((all, 0), x)) := HRJ.out
              have HJ2 := Lib.hid HJ.out.2
              clear HJ HRJ
              go_wp2_with fail
              go_ret2
              rw [HRK.out]
              exact ⟨_, rfl, HJ2.out.2.2.1, HJ2.out.2.2.2.1, HJ2.out.2.2.2.2.2.2⟩
        · have hb : (pe != 0) = true := by simpa using hpe
          have HRX := Lib.hid (HR1.out hpe)
          clear HR1 HR0
          go_wp2_with fail
          go_ret2
          rw [HRX.out]
          exact ⟨_, rfl, IsOut.nil _ _, HW4.out, HK4.out.more (fun s hs => nomatch hs)⟩
    · have hkk : (K != 2) = true := by simpa using hk2
      have HDE := Lib.hid (fun v2 W (h1 : IsInts .u8 W v2 b) (h2 : ∀ b, blockOf v2 = some b → b < W.heap.size) => decode_calls h1 HBB.out h2)
      rw [if_pos hk2]
      dsimp only
      obtain ⟨⟨so, se⟩, hso⟩ : ∃ r, decS b = r := ⟨_, rfl⟩
      rw [hso] at HDE ⊢
      dsimp only at HDE ⊢
      clear hL hL2 hkb HPl HGN hso hk2
      go_enter Tryz.func34, Tryz.ntmps34
      go_wp2_with fail
      refine HB.out.mono ?_; rintro e w2 ⟨v2, rfl, hi2, hb2, hk2⟩
      have hf2 : ∃ p c, v2 = .slice p b.length c := by
        rcases hi2 with ⟨⟨ad, rfl⟩, e⟩ | ⟨g, off, c, rfl, _⟩
        · exact ⟨_, 0, by rw [e]; rfl⟩
        · exact ⟨_, c, rfl⟩
      obtain ⟨p2, c2, rfl⟩ := hf2
      have HI := Lib.hid hi2
      have HB2 : Hid (∀ b', blockOf (.slice p2 b.length c2) = some b' → b' < w2.heap.size) := fun b' hb' => by have := hb2 b' hb'; have := hk2.size; omega
      have HW2 : Hid (WkAt w2 B T v) := HW.out.kp0 hk2
      have HK2 := Lib.hid hk2
      clear hi2 hb2 hk2 HB
      go_wp2_with fail
      refine (HK.out _ _ HI.out).mono ?_; rintro e w3 ⟨rfl, hk3⟩
      replace HI := Lib.hid (HI.out.kp hk3 (by simp))
      have HB3 : Hid (∀ b', blockOf (.slice p2 b.length c2) = some b' → b' < w3.heap.size) := fun b' hb' => by have := HB2.out b' hb'; have := hk3.size; omega
      have HW3 : Hid (WkAt w3 B T v) := HW2.out.kp0 hk3
      have HK3 : Hid (Kp [] W w3) := HK2.out.trans hk3
      clear hk3 HW2 HK2 HB2
      go_wp2_with fail
      refine (HDE.out _ _ HI.out HB3.out).mono ?_; rintro e w4 ⟨v4, rfl, ho4, hk4⟩
      obtain ⟨p4, c4, rfl⟩ := ho4.form
      have HO4 := Lib.hid ho4
      have HW4 : Hid (WkAt w4 B T v) := HW3.out.kp0 hk4
      have HK4 : Hid (Kp [] W w4) := HK3.out.trans hk4
      generalize so.length = NS at *
      clear ho4 hk4 HW3 HK3
      go_wp2_with fail
      go_ret2
      exact ⟨_, rfl, HO4.out, HW4.out, HK4.out.more (fun s hs => nomatch hs)⟩
  · have HB := Lib.hid (tbytes_out W n0 T zs A ht ok g (by omega))
    have e0 : glyG zs A ev g v = (([], 62), v) := by unfold glyG; rw [if_pos (by simpa using hgr)]
    rw [e0]
    clear ht hw hL hgr e0
    go_enter Tryz.func34, Tryz.ntmps34
    go_wp2_with fail
    refine HB.out.mono ?_; rintro e w2 ⟨rfl, hk2⟩
    have HW2 : Hid (WkAt w2 B T v) := HW.out.kp0 hk2
    have HK2 := Lib.hid hk2
    clear hk2
    go_wp2_with fail
    go_ret2
    exact ⟨_, rfl, IsOut.nil _ _, HW2.out, HK2.out.more (fun s hs => nomatch hs)⟩
/-- The whole walk: six levels and no more. -/
theorem eval_calls (n0 T B : Nat) (zs A : List Int) (ok : okTb zs A) (hG : okG zs A) (hn : n0 ≤ B) (hgl : ∀ g, g + 1 < A.length → kindM (gB zs A g) = 2 → ∀ p ∈ (Cp.decM (gB zs A g)).1, -4294967296 ≤ p.g ∧ p.g ≤ 4294967296) : ∀ f : Nat, f ≤ 6 → EvC n0 T B zs A (6 - (f : Int)) (evalG zs A f) := by
  intro f
  induction f with
  | zero => intro _; exact level_calls n0 T B zs A ok hG hn _ none (by show (6 : Int) - ((0 : Nat) : Int) = 6; rfl)
  | succ f ih =>
    intro hf
    refine level_calls n0 T B zs A ok hG hn _ (some (evalG zs A f)) ⟨by omega, ?_, evalG_ok hG f, hgl⟩
    have := ih (by omega)
    rwa [show (6 : Int) - ((f + 1 : Nat) : Int) + 1 = 6 - (f : Int) by omega]
end Go.Proofs.YtafkhnlmipddmaaGreat

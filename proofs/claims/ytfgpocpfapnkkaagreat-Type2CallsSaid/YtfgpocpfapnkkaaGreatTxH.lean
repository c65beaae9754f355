/- type2: Run · type2: the law's own programs (plain). (Merged by wip/tools/mergetpl.py out of TyX, TyY.) -/
import Derived.Test.YtfgpocpfapnkkaaGreatTxG
import Derived.Deep.RegionHeld3
namespace Go.Proofs.YtfgpocpfapnkkaaGreat
open Go.RowKit
set_option linter.unusedVariables false
set_option linter.unusedSimpArgs false
set_option maxRecDepth 100000 in
set_option maxHeartbeats 4000000 in
theorem snewT (v : Value) (dr : List Int) (w : World) (h : IsInts .i64 w v dr) (hl : dr.length ≤ 1000000000) :
    Calls Tryz.prog 17 #[v] w fun e w' => ∃ s vd, e = .returned (.pointer (some ⟨s, 0, none⟩)) ∧ StS w' s w.heap.size (.slice none 0 0) [] zeros32 vd dr ∧ TagI w' vd ∧ Kp [] w w' := by
  have H : Hid (IsInts .i64 w v dr) := h
  obtain ⟨pa, ca, hva⟩ : ∃ p c, v = .slice p dr.length c := by
    rcases h with ⟨⟨ad, rfl⟩, rfl⟩ | ⟨g, off, c, rfl, _⟩
    · exact ⟨_, 0, rfl⟩
    · exact ⟨_, c, rfl⟩
  subst hva
  clear h
  go_enter Tryz.func17, Tryz.ntmps17
  go_wp2_with fail
  refine (clonei_calls _ dr w H.out hl).mono ?_; rintro e w1 ⟨v1, rfl, ho, hk, hb⟩
  obtain ⟨p', c', rfl⟩ := ho.form
  have hfin : Hid (∀ cs : Array Value, cs = (.slice none 0 0 :: (zeros32.map (Value.int .i64) ++ [.slice p' dr.length c'])).toArray → StS (w1.alloc (.cells cs 61)) w1.heap.size w.heap.size (.slice none 0 0) [] zeros32 (.slice p' dr.length c') dr ∧ TagI (w1.alloc (.cells cs 61)) (.slice p' dr.length c')) := fun cs hc => by
    subst hc
    refine ⟨⟨heap_alloc_new w1 _, rfl, hk.size, .inl ⟨rfl, rfl⟩, by simp [Value.ownBlock], ho.ints.kp (S := []) ((Kp.refl _ _).alloc _) (by simp), fun b hb2 => ?_⟩, fun b hb2 => ?_⟩
    · have h1 := ho.lt b (blockOf_own hb2)
      exact ⟨by omega, by simp [Value.ownBlock], h1.1, by simp; omega⟩
    · obtain ⟨_, cur, z, g⟩ := ownC_tag ho b (blockOf_own hb2)
      exact ⟨cur, z, (Kp.refl [] w1 |>.alloc _).heap g (by simp)⟩
  clear ho hb
  go_wp2_with fail
  go_ret
  exact ⟨_, _, rfl, (hfin.out _ rfl).1, (hfin.out _ rfl).2, hk.alloc _⟩
theorem code_top (W0 : World) (c : Lc) (P : Pg) (G L : List (List Int)) (hG : IsSub W0 P.gv G) (hL : IsSub W0 P.lv L) (v : Value) (zs : List Int) (st : Ms) (w : World) (h : Mst W0 c P st w) (ok : OkS st) (hv : BytesC W0 v zs) :
    Calls Tryz.prog 18 #[.pointer (some ⟨c.m, 0, none⟩), v, .int .i64 0] w (ResP W0 c P (codeM P.nom G L 10 true zs st) w) := code_all W0 c P G L hG hL 10 0 rfl v zs st w h ok hv
theorem mst_start {W0 w2 wf : World} {s B pn m : Nat} {P : Pg} {vd : Value} {draws : List Int} (hS : StS w2 s B (.slice none 0 0) [] zeros32 vd draws) (hB : W0.heap.size ≤ B) (ht : TagI w2 vd) (hk : Kp [] w2 wf) (hkw : Kp [] W0 wf)
    (hp : PenC wf pn (.slice none 0 0) ⟨0, 0, [], 0, 0⟩) (hpn : W0.heap.size ≤ pn) (hm : MachC wf m s pn P (ms0 draws P.dflt)) (hmm : W0.heap.size ≤ m) : Mst W0 ⟨m, s, pn, W0.heap.size⟩ P (ms0 draws P.dflt) wf :=
  ⟨B, _, vd, hB, hS.kp0 hk, trivial, ht.kp hk (by simp), ⟨_, [], hp, hpn, ⟨World.ownsRow_nil _ _ _ _, (fun i hi => absurd hi (Nat.not_lt_zero _)), (fun i j _ hj => absurd hj (Nat.not_lt_zero _))⟩⟩, hm, hmm, hkw, Nat.le_refl _, hkw.size⟩
theorem okS_start (draws : List Int) (dflt : Int) : OkS (ms0 draws dflt) :=
  ⟨⟨Nat.zero_le _, (fun x hx => absurd hx (List.not_mem_nil)), rfl, (by decide : ∀ x ∈ zeros32, mayB x = true)⟩, ⟨(by decide : (0 : Int) ≤ 0), (by decide : (0 : Int) ≤ 4097), fun _ => (by decide : (0 : Int) ≤ 4096), (by decide : (([] : List (List Pn)).length : Int) ≤ 0), fun c hc => absurd hc (List.not_mem_nil)⟩, Nat.zero_le _, Nat.zero_le _⟩
theorem long_len (l : List (List Pn)) : (longO l).length ≤ l.length := List.length_filter_le _ _
theorem long_mem {l : List (List Pn)} {c : List Pn} (h : c ∈ longO l) : c ∈ l ∧ 1 < c.length := by
  unfold longO at h; rw [List.mem_filter] at h; exact ⟨h.1, by simpa using h.2⟩
theorem cnt_small (o : List (List Pn)) (B : Nat) (h : ∀ c ∈ o, c.length ≤ B) : ∀ j, j ≤ o.length → cntTo o j ≤ j * B := by
  intro j
  induction j with
  | zero => intro _; simp [cntTo]
  | succ j ih =>
    intro hj
    have a := ih (by omega)
    have b : (o.getD j []).length ≤ B := by
      rw [List.getD_eq_getElem?_getD, List.getElem?_eq_getElem (by omega)]
      exact h _ (List.getElem_mem _)
    rw [cntTo, Nat.add_mul]; omega
theorem okP_long {q : Pe} (ok : okP q) : smallO (longO q.l) ∧ cnt (longO q.l) ≤ 4611686018427387904 ∧ q.l.length ≤ 100000 := by
  obtain ⟨h1, h2, h3, h4, h5⟩ := ok
  have hl := long_len q.l
  have hc : ∀ c ∈ longO q.l, c.length ≤ 4097 := fun c hc => by have := h5 c (long_mem hc).1; omega
  refine ⟨fun j hj => ?_, ?_, by omega⟩
  · rw [List.getD_eq_getElem?_getD, List.getElem?_eq_getElem hj]
    have := hc _ (List.getElem_mem hj)
    show (longO q.l)[j].length ≤ _
    omega
  · have := cnt_small _ 4097 hc _ (Nat.le_refl _)
    unfold cnt
    have h6 : (longO q.l).length * 4097 ≤ 4097 * 4097 := Nat.mul_le_mul_right _ (by omega)
    omega
/-- What Run leaves. -/
def RunP (R : (List (List Pn) × Int × Nat) × Int) (w : World) (e : Ending) (w' : World) : Prop :=
  ∃ v, e = .returned (.tuple #[.agg #[v, .int .i64 R.1.2.1, .int .i64 (R.1.2.2 : Nat)], .int .i64 R.2]) ∧ IsOut w' v R.1.1 ∧ Kp [] w w'
set_option maxRecDepth 100000 in
set_option maxHeartbeats 8000000 in
theorem run_calls (P : Pg) (code : List Int) (G L : List (List Int)) (draws : List Int) (w : World) (hc : BytesC w P.cv code) (hG : IsSub w P.gv G) (hL : IsSub w P.lv L) (hd : IsInts .i64 w P.dv draws) (hdl : draws.length ≤ 1000000000) :
    Calls Tryz.prog 10 #[.agg #[P.cv, P.gv, P.lv, .int .i64 P.dflt, .int .i64 P.nom, P.dv]] w (RunP (runM code G L P.dflt P.nom draws) w) := by
  have HNEW := Lib.hid (fun W (hk : Kp [] w W) => snewT P.dv draws W (hd.kp hk (by simp)) hdl)
  have HCODE := Lib.hid (fun (c : Lc) st W h ok => code_top w c P G L hG hL P.cv code st W h ok hc)
  have HRM : Hid (runM code G L P.dflt P.nom draws = if mayB P.dflt = false ∨ mayB P.nom = false then (([], 0, 0), 10) else match codeM P.nom G L 10 true code (ms0 draws P.dflt) with | .error e => (([], 0, 0), e) | .ok st => if checkO (longO st.pen.l) ≠ 0 then (([], 0, 0), checkO (longO st.pen.l)) else ((longO st.pen.l, st.width, st.steps), 0)) := rfl
  have HOKC := Lib.hid (fun st st' h e => okF_code P.nom G L 10 true code st st' h e)
  have HNZ := Lib.hid (fun st e h => nzF_code P.nom G L 10 true code st e h)
  have HM1 := Lib.hid (fun W => may_calls P.dflt W)
  have HM2 := Lib.hid (fun W => may_calls P.nom W)
  obtain ⟨R, hR⟩ : ∃ R, runM code G L P.dflt P.nom draws = R := ⟨_, rfl⟩
  rw [hR] at HRM ⊢
  clear hc hG hL hd hR
  go_enter Tryz.func10, Tryz.ntmps10
  go_upto_region 1 with fail
  refine wp_genT ?_; intro W1 hW1
  have hb0 : W1.heap[w.heap.size]? = some (.cells #[P.cv, P.gv, P.lv, .int .i64 P.dflt, .int .i64 P.nom, P.dv] 26 (0, 0)) := by rw [hW1]; exact (Below.heap_alloc _ _ _ (by simp)).trans (heap_alloc_new w _)
  have hb1 : W1.heap[w.heap.size + 1]? = some (.cells #[.slice none 0 0, .int .i64 0, .int .i64 0] 31 (0, 0)) := by
    rw [hW1]
    have h9 := heap_alloc_new (w.alloc (.cells #[P.cv, P.gv, P.lv, .int .i64 P.dflt, .int .i64 P.nom, P.dv] 26)) (.cells #[.slice none 0 0, .int .i64 0, .int .i64 0] 31)
    rw [show (w.alloc (.cells #[P.cv, P.gv, P.lv, .int .i64 P.dflt, .int .i64 P.nom, P.dv] 26)).heap.size = w.heap.size + 1 by simp] at h9
    exact h9
  have hk1 : Kp [] w W1 := by rw [hW1]; (repeat (first | exact Kp.refl _ _ | assumption | refine Kp.drew ?_ | refine Kp.drewN ?_ _ | refine Kp.alloc ?_ _ | (refine Kp.setCell ?_ (by first | (left; simp; done) | (right; simp; try omega)) _) | (refine Kp.trans' ?_ (by assumption) (by simp; try omega))))
  have hsz : w.heap.size + 2 ≤ W1.heap.size := by rw [hW1]; simp
  clear hW1
  have HB0 := Lib.hid hb0
  have HB1 := Lib.hid hb1
  have HK1 := Lib.hid hk1
  have HSZ : Hid (w.heap.size + 1 + 1 ≤ W1.heap.size) := hsz
  obtain ⟨X0, hX0⟩ : ∃ X, w.heap.size = X := ⟨_, rfl⟩
  have HX0 := Lib.hid hX0
  rw [hX0] at HB0 HB1 HSZ ⊢
  have cf : ∀ W, Kp [] W1 W → ∀ j u, j < 6 → (#[P.cv, P.gv, P.lv, .int .i64 P.dflt, .int .i64 P.nom, P.dv] : Array Value)[j]? = some u → W.cell? ⟨X0, j, none⟩ = some u := fun W hk j u hj hu => by rw [cell_of_row W X0 j _ _ _ (hk.heap HB0.out (by simp))]; exact hu
  have HCF := Lib.hid cf
  have c3 := cf W1 (Kp.refl _ _) 3 _ (by decide) rfl
  have c4 := cf W1 (Kp.refl _ _) 4 _ (by decide) rfl
  clear cf hb0 hb1 hk1 hsz hX0
  by_cases hm1 : mayB P.dflt = true
  · rw [hm1] at HM1
    by_cases hm2 : mayB P.nom = true
    · rw [hm2] at HM2
      rw [if_neg (by rw [hm1, hm2]; simp)] at HRM
      clear hm1 hm2
      go_wp2_with fail
      refine (HM1.out _).mono ?_; rintro e w2 ⟨rfl, rfl⟩
      go_wp2_with fail
      refine (HM2.out _).mono ?_; rintro e w2 ⟨rfl, rfl⟩
      go_wp2_with fail
      have HKC : Hid (∀ w', Kp [] W1 w' → (w'.cell? ⟨X0, 0, none⟩ = some P.cv ∧ w'.cell? ⟨X0, 1, none⟩ = some P.gv ∧ w'.cell? ⟨X0, 2, none⟩ = some P.lv ∧ w'.cell? ⟨X0, 3, none⟩ = some (.int .i64 P.dflt) ∧ w'.cell? ⟨X0, 4, none⟩ = some (.int .i64 P.nom) ∧ w'.cell? ⟨X0, 5, none⟩ = some P.dv)) := fun w' hk => ⟨HCF.out w' hk 0 _ (by decide) rfl, HCF.out w' hk 1 _ (by decide) rfl, HCF.out w' hk 2 _ (by decide) rfl, HCF.out w' hk 3 _ (by decide) rfl, HCF.out w' hk 4 _ (by decide) rfl, HCF.out w' hk 5 _ (by decide) rfl⟩
      clear c3 c4
      obtain ⟨e0, e1, e2, e3, e4, e5⟩ := HKC.out W1 (Kp.refl _ _)
      go_region_held3 (fun w' => w'.cell? ⟨X0, 0, none⟩ = some P.cv ∧ w'.cell? ⟨X0, 1, none⟩ = some P.gv ∧ w'.cell? ⟨X0, 2, none⟩ = some P.lv ∧ w'.cell? ⟨X0, 3, none⟩ = some (.int .i64 P.dflt) ∧ w'.cell? ⟨X0, 4, none⟩ = some (.int .i64 P.nom) ∧ w'.cell? ⟨X0, 5, none⟩ = some P.dv) (first | go_keep | (refine HKC.out _ ?_; ((repeat (first | exact Kp.refl _ _ | assumption | refine Kp.drew ?_ | refine Kp.drewN ?_ _ | refine Kp.alloc ?_ _)); done)))
        (first
          | (go_at_call 17
             refine (HNEW.out _ (HK1.out.trans (by ((repeat (first | exact Kp.refl _ _ | assumption | refine Kp.drew ?_ | refine Kp.drewN ?_ _ | refine Kp.alloc ?_ _)); done)))).mono ?_
             rintro e wn ⟨sN, vdN, rfl, hsN, htN, hkN⟩
             have hA : Kp [] W1 wn := Kp.trans (by ((repeat (first | exact Kp.refl _ _ | assumption | refine Kp.drew ?_ | refine Kp.drewN ?_ _ | refine Kp.alloc ?_ _)); done)) hkN
             try (have hy : PenC wn W1.heap.size (.slice none 0 0) ⟨0, 0, [], 0, 0⟩ := hkN.heap (heap_alloc_new W1 _) (List.not_mem_nil))))
      · go_upto_region 4 with fail
        refine wp_genT ?_; intro Wf hWf
        obtain ⟨pn, hpn⟩ : ∃ pn, wn.heap.size = pn := ⟨_, rfl⟩
        obtain ⟨M, hM⟩ : ∃ M, pn + 1 = M := ⟨_, rfl⟩
        have hP0 : PenC (wn.alloc (.cells #[.int .i64 0, .int .i64 0, .slice none 0 0, .int .i64 0, .int .i64 0] 51)) pn (.slice none 0 0) ⟨0, 0, [], 0, 0⟩ := by rw [← hpn]; exact heap_alloc_new wn _
        have hsz1 : (wn.alloc (.cells #[.int .i64 0, .int .i64 0, .slice none 0 0, .int .i64 0, .int .i64 0] 51)).heap.size = M := by rw [← hM, ← hpn]; simp
        rw [hpn] at hWf ⊢
        rw [hM]
        have hkn : Kp [] wn Wf := by rw [hWf]; exact ((Kp.refl _ _).alloc _).alloc _
        have hkf : Kp [] W1 Wf := hA.trans hkn
        have hk4 : Kp [] w Wf := HK1.out.trans hkf
        have hPf : PenC Wf pn (.slice none 0 0) ⟨0, 0, [], 0, 0⟩ := by rw [hWf]; exact hP0.kp0 ((Kp.refl _ _).alloc _)
        have hMf : MachC Wf M sN pn P (ms0 draws P.dflt) := by rw [hWf, ← hsz1]; exact heap_alloc_new _ _
        have hM4 : Mst w ⟨M, sN, pn, w.heap.size⟩ P (ms0 draws P.dflt) Wf := mst_start hsN (by first | exact HK1.out.size | (have := HK1.out.size; simp; omega)) htN hkn hk4 hPf (by have := HK1.out.size; have := hA.size; omega) hMf (by have := HK1.out.size; have := hA.size; omega)
        clear hWf hP0 hsz1 hkn hPf hMf hsN htN hkN hA hpn hM e0 e1 e2 e3 e4 e5
        have HM4 := Lib.hid hM4
        have HK4 := Lib.hid hk4
        have hd0 := HCF.out Wf hkf 0 _ (by decide) rfl
        have hb1f := hkf.heap HB1.out (by simp)
        have HB1F := Lib.hid hb1f
        have HCD := Lib.hid (HCODE.out ⟨M, sN, pn, w.heap.size⟩ _ Wf HM4.out (okS_start draws P.dflt))
        clear hb1f hM4 hk4 hkf
        obtain ⟨Q, hQ⟩ : ∃ Q, codeM P.nom G L 10 true code (ms0 draws P.dflt) = Q := ⟨_, rfl⟩
        have HQ := Lib.hid hQ
        rw [hQ] at HCD HRM
        clear hQ
        go_wp2_with fail
        refine HCD.out.mono ?_; rintro e w5 ⟨rfl, hm5, hk5⟩
        have hb5 := hk5.heap HB1F.out (by simp) (.inr (by decide))
        have HB5 := Lib.hid hb5
        have b0 := cell_of_row w5 (X0 + 1) 0 _ _ _ hb5
        have b1 := cell_of_row w5 (X0 + 1) 1 _ _ _ hb5
        have b2 := cell_of_row w5 (X0 + 1) 2 _ _ _ hb5
        replace b0 : w5.cell? ⟨X0 + 1, 0, none⟩ = some (.slice none 0 0) := b0
        replace b1 : w5.cell? ⟨X0 + 1, 1, none⟩ = some (.int .i64 0) := b1
        replace b2 : w5.cell? ⟨X0 + 1, 2, none⟩ = some (.int .i64 0) := b2
        have g0 := frozen_of_row w5 (X0 + 1) 0 _ _ hb5
        have g1 := frozen_of_row w5 (X0 + 1) 1 _ _ hb5
        have g2 := frozen_of_row w5 (X0 + 1) 2 _ _ hb5
        have HK5 : Hid (Kp [] w w5) := hk5.kp HK4.out (Nat.le_refl _) (by simp)
        have HX1 : Hid (w.heap.size ≤ X0 + 1) := by show _ ≤ _; rw [HX0.out]; omega
        clear hb5 hk5 hd0
        cases Q with
        | error e1 =>
          have HE1 := Lib.hid (HNZ.out _ _ HQ.out)
          have hb : (e1 != 0) = true := by have := HE1.out; simpa using this
          simp only [errOf]
          go_wp2_with fail
          refine bodyPost_ret (v := .tuple #[.agg #[.slice none 0 0, .int .i64 0, .int .i64 0], .int .i64 e1]) (by simp [results, Tryz.results10, go_sem, *]) rfl ?_
          rw [HRM.out]
          exact ⟨_, rfl, IsOut.nil _ _, ((HK5.out.setCell (.inr HX1.out) _).setCell (.inr HX1.out) _).setCell (.inr HX1.out) _⟩
        | ok st =>
          have HOKF := Lib.hid (HOKC.out _ _ (okS_start draws P.dflt) HQ.out)
          have hm6 := hm5 st rfl
          have HM6 := Lib.hid hm6
          obtain ⟨hsm, hcn, hl5⟩ := okP_long HOKF.out.2.1
          have HPO := Lib.hid (poutline_calls pn w.heap.size st.pen w5 hm6.pen.1 hl5)
          have HCK := Lib.hid (fun v W (h : IsOut W v (longO st.pen.l)) => check_calls v _ W h hsm hcn)
          obtain ⟨_, c7, _⟩ := hm6.mach.facts
          replace c7 : w5.cell? ⟨M, 7, none⟩ = some (.pointer (some ⟨pn, 0, none⟩)) := c7
          have HWW : Hid ((∀ E, (if checkO (longO st.pen.l) ≠ 0 then ((([], 0, 0), checkO (longO st.pen.l)) : (List (List Pn) × Int × Nat) × Int) else ((longO st.pen.l, st.width, st.steps), 0)) = E → R = E)) := fun E h => by rw [HRM.out]; exact h
          simp only [errOf]
          clear hm5 hm6 hsm hcn hl5 HRM
          go_wp2_with fail
          refine HPO.out.mono ?_; rintro e w7 ⟨v7, rfl, ho7, hk7⟩
          obtain ⟨p7, cc7, rfl⟩ := ho7.out.form
          generalize hOO : longO st.pen.l = OO at *
          have HO7 := Lib.hid ho7
          have HK7 : Hid (Kp [] w w7) := HK5.out.trans hk7
          have hb7 := hk7.heap HB5.out (by simp)
          have HM7 := Lib.hid (HM6.out.kp0 hk7)
          have HB7 := Lib.hid hb7
          clear ho7 hk7 hb7 b0 b1 b2 g0 g1 g2 c7
          go_wp2_with fail
          refine (HCK.out _ w7 HO7.out.out).mono ?_; rintro e w8 ⟨rfl, hk8⟩
          have HO8 := Lib.hid (HO7.out.kp0 hk8)
          have HK8 : Hid (Kp [] w w8) := HK7.out.trans hk8
          have HM8 := Lib.hid (HM7.out.kp0 hk8)
          have hb8 := hk8.heap HB7.out (by simp)
          have b0 := cell_of_row w8 (X0 + 1) 0 _ _ _ hb8
          have b1 := cell_of_row w8 (X0 + 1) 1 _ _ _ hb8
          have b2 := cell_of_row w8 (X0 + 1) 2 _ _ _ hb8
          replace b0 : w8.cell? ⟨X0 + 1, 0, none⟩ = some (.slice none 0 0) := b0
          replace b1 : w8.cell? ⟨X0 + 1, 1, none⟩ = some (.int .i64 0) := b1
          replace b2 : w8.cell? ⟨X0 + 1, 2, none⟩ = some (.int .i64 0) := b2
          have g0 := frozen_of_row w8 (X0 + 1) 0 _ _ hb8
          have g1 := frozen_of_row w8 (X0 + 1) 1 _ _ hb8
          have g2 := frozen_of_row w8 (X0 + 1) 2 _ _ hb8
          have HB8 := Lib.hid hb8
          clear hk8 hb8
          by_cases hck : checkO OO = 0
          · have HRR := Lib.hid (HWW.out _ (if_neg (by rw [hck]; simp)))
            rw [hck]
            obtain ⟨_, _, c8, _, c10, _⟩ := HM8.out.mach.facts
            replace c8 : w8.cell? ⟨M, 8, none⟩ = some (.int .i64 (st.steps : Nat)) := c8
            replace c10 : w8.cell? ⟨M, 10, none⟩ = some (.int .i64 st.width) := c10
            clear b0 b1 b2 g0 g1 g2
            go_wp2_with fail
            have q8 := KW.cell c8
            have q10 := KW.cell c10
            clear c8 c10
            refine wp_region_kqt 10 (by kernel_rfl) (by kernel_rfl) ?_
            simp only [List.take_succ_cons, List.take_zero, List.drop_succ_cons, List.drop_zero]
            repeat (go_big_quiet_step (fail))
            refine wpQuiet_nil ?_
            intro w9 hw'
            obtain ⟨⟨_, hkw9⟩, rfl⟩ := hw'
            try dsimp only
            clear q8 q10
            have hb9 := hkw9.heap HB8.out (by simp)
            have b0 := cell_of_row w9 (X0 + 1) 0 _ _ _ hb9
            have b1 := cell_of_row w9 (X0 + 1) 1 _ _ _ hb9
            have b2 := cell_of_row w9 (X0 + 1) 2 _ _ _ hb9
            replace b0 : w9.cell? ⟨X0 + 1, 0, none⟩ = some (.slice none 0 0) := b0
            replace b1 : w9.cell? ⟨X0 + 1, 1, none⟩ = some (.int .i64 0) := b1
            replace b2 : w9.cell? ⟨X0 + 1, 2, none⟩ = some (.int .i64 0) := b2
            have g0 := frozen_of_row w9 (X0 + 1) 0 _ _ hb9
            have g1 := frozen_of_row w9 (X0 + 1) 1 _ _ hb9
            have g2 := frozen_of_row w9 (X0 + 1) 2 _ _ hb9
            have hk9 : Kp [X0 + 1] w9 (((w9.setCell ⟨X0 + 1, 0, none⟩ (.slice p7 OO.length cc7)).setCell ⟨X0 + 1, 1, none⟩ (.int .i64 st.width)).setCell ⟨X0 + 1, 2, none⟩ (.int .i64 (st.steps : Nat))) := ((((Kp.refl _ _).setCell (.inl (by simp)) _).setCell (.inl (by simp)) _).setCell (.inl (by simp)) _)
            have HOF : Hid (OutT (((w9.setCell ⟨X0 + 1, 0, none⟩ (.slice p7 OO.length cc7)).setCell ⟨X0 + 1, 1, none⟩ (.int .i64 st.width)).setCell ⟨X0 + 1, 2, none⟩ (.int .i64 (st.steps : Nat))) (.slice p7 OO.length cc7) OO) := (HO8.out.kp0 hkw9).far hk9 hb9 (by decide) (by decide)
            have HKF : Hid (Kp [] w (((w9.setCell ⟨X0 + 1, 0, none⟩ (.slice p7 OO.length cc7)).setCell ⟨X0 + 1, 1, none⟩ (.int .i64 st.width)).setCell ⟨X0 + 1, 2, none⟩ (.int .i64 (st.steps : Nat)))) := (((HK8.out.trans hkw9).setCell (.inr HX1.out) _).setCell (.inr HX1.out) _).setCell (.inr HX1.out) _
            clear hk9 hb9 hkw9
            go_wp2_with fail
            refine bodyPost_ret (v := .tuple #[.agg #[.slice p7 OO.length cc7, .int .i64 st.width, .int .i64 (st.steps : Nat)], .int .i64 0]) (by simp [results, Tryz.results10, go_sem, *]) rfl ?_
            rw [HRR.out]
            exact ⟨_, rfl, HOF.out.out, HKF.out⟩
          · have HRR := Lib.hid (HWW.out _ (if_pos hck))
            have hb : (checkO OO != 0) = true := by simpa using hck
            go_wp2_with fail
            refine bodyPost_ret (v := .tuple #[.agg #[.slice none 0 0, .int .i64 0, .int .i64 0], .int .i64 (checkO OO)]) (by simp [results, Tryz.results10, go_sem, *]) rfl ?_
            rw [HRR.out]
            exact ⟨_, rfl, IsOut.nil _ _, ((HK8.out.setCell (.inr HX1.out) _).setCell (.inr HX1.out) _).setCell (.inr HX1.out) _⟩
      · go_upto_region 4 with fail
        refine wp_genT ?_; intro Wf hWf
        obtain ⟨pn, hpn⟩ : ∃ pn, W1.heap.size = pn := ⟨_, rfl⟩
        obtain ⟨M, hM⟩ : ∃ M, wn.heap.size = M := ⟨_, rfl⟩
        rw [hpn] at hy
        have hMf : MachC Wf M sN pn P (ms0 draws P.dflt) := by rw [hWf, ← hM, ← hpn]; exact heap_alloc_new _ _
        rw [hpn] at hWf ⊢
        rw [hM]
        have hkn : Kp [] wn Wf := by rw [hWf]; exact (Kp.refl _ _).alloc _
        have hkf : Kp [] W1 Wf := hA.trans hkn
        have hk4 : Kp [] w Wf := HK1.out.trans hkf
        have hPf : PenC Wf pn (.slice none 0 0) ⟨0, 0, [], 0, 0⟩ := hy.kp0 hkn
        have hM4 : Mst w ⟨M, sN, pn, w.heap.size⟩ P (ms0 draws P.dflt) Wf := mst_start hsN (by first | exact HK1.out.size | (have := HK1.out.size; simp; omega)) htN hkn hk4 hPf (by have := HK1.out.size; omega) hMf (by have := HK1.out.size; have := hA.size; omega)
        clear hWf hkn hPf hMf hsN htN hkN hA hpn hM hy e0 e1 e2 e3 e4 e5
        have HM4 := Lib.hid hM4
        have HK4 := Lib.hid hk4
        have hd0 := HCF.out Wf hkf 0 _ (by decide) rfl
        have hb1f := hkf.heap HB1.out (by simp)
        have HB1F := Lib.hid hb1f
        have HCD := Lib.hid (HCODE.out ⟨M, sN, pn, w.heap.size⟩ _ Wf HM4.out (okS_start draws P.dflt))
        clear hb1f hM4 hk4 hkf
        obtain ⟨Q, hQ⟩ : ∃ Q, codeM P.nom G L 10 true code (ms0 draws P.dflt) = Q := ⟨_, rfl⟩
        have HQ := Lib.hid hQ
        rw [hQ] at HCD HRM
        clear hQ
        go_wp2_with fail
        refine HCD.out.mono ?_; rintro e w5 ⟨rfl, hm5, hk5⟩
        have hb5 := hk5.heap HB1F.out (by simp) (.inr (by decide))
        have HB5 := Lib.hid hb5
        have b0 := cell_of_row w5 (X0 + 1) 0 _ _ _ hb5
        have b1 := cell_of_row w5 (X0 + 1) 1 _ _ _ hb5
        have b2 := cell_of_row w5 (X0 + 1) 2 _ _ _ hb5
        replace b0 : w5.cell? ⟨X0 + 1, 0, none⟩ = some (.slice none 0 0) := b0
        replace b1 : w5.cell? ⟨X0 + 1, 1, none⟩ = some (.int .i64 0) := b1
        replace b2 : w5.cell? ⟨X0 + 1, 2, none⟩ = some (.int .i64 0) := b2
        have g0 := frozen_of_row w5 (X0 + 1) 0 _ _ hb5
        have g1 := frozen_of_row w5 (X0 + 1) 1 _ _ hb5
        have g2 := frozen_of_row w5 (X0 + 1) 2 _ _ hb5
        have HK5 : Hid (Kp [] w w5) := hk5.kp HK4.out (Nat.le_refl _) (by simp)
        have HX1 : Hid (w.heap.size ≤ X0 + 1) := by show _ ≤ _; rw [HX0.out]; omega
        clear hb5 hk5 hd0
        cases Q with
        | error e1 =>
          have HE1 := Lib.hid (HNZ.out _ _ HQ.out)
          have hb : (e1 != 0) = true := by have := HE1.out; simpa using this
          simp only [errOf]
          go_wp2_with fail
          refine bodyPost_ret (v := .tuple #[.agg #[.slice none 0 0, .int .i64 0, .int .i64 0], .int .i64 e1]) (by simp [results, Tryz.results10, go_sem, *]) rfl ?_
          rw [HRM.out]
          exact ⟨_, rfl, IsOut.nil _ _, ((HK5.out.setCell (.inr HX1.out) _).setCell (.inr HX1.out) _).setCell (.inr HX1.out) _⟩
        | ok st =>
          have HOKF := Lib.hid (HOKC.out _ _ (okS_start draws P.dflt) HQ.out)
          have hm6 := hm5 st rfl
          have HM6 := Lib.hid hm6
          obtain ⟨hsm, hcn, hl5⟩ := okP_long HOKF.out.2.1
          have HPO := Lib.hid (poutline_calls pn w.heap.size st.pen w5 hm6.pen.1 hl5)
          have HCK := Lib.hid (fun v W (h : IsOut W v (longO st.pen.l)) => check_calls v _ W h hsm hcn)
          obtain ⟨_, c7, _⟩ := hm6.mach.facts
          replace c7 : w5.cell? ⟨M, 7, none⟩ = some (.pointer (some ⟨pn, 0, none⟩)) := c7
          have HWW : Hid ((∀ E, (if checkO (longO st.pen.l) ≠ 0 then ((([], 0, 0), checkO (longO st.pen.l)) : (List (List Pn) × Int × Nat) × Int) else ((longO st.pen.l, st.width, st.steps), 0)) = E → R = E)) := fun E h => by rw [HRM.out]; exact h
          simp only [errOf]
          clear hm5 hm6 hsm hcn hl5 HRM
          go_wp2_with fail
          refine HPO.out.mono ?_; rintro e w7 ⟨v7, rfl, ho7, hk7⟩
          obtain ⟨p7, cc7, rfl⟩ := ho7.out.form
          generalize hOO : longO st.pen.l = OO at *
          have HO7 := Lib.hid ho7
          have HK7 : Hid (Kp [] w w7) := HK5.out.trans hk7
          have hb7 := hk7.heap HB5.out (by simp)
          have HM7 := Lib.hid (HM6.out.kp0 hk7)
          have HB7 := Lib.hid hb7
          clear ho7 hk7 hb7 b0 b1 b2 g0 g1 g2 c7
          go_wp2_with fail
          refine (HCK.out _ w7 HO7.out.out).mono ?_; rintro e w8 ⟨rfl, hk8⟩
          have HO8 := Lib.hid (HO7.out.kp0 hk8)
          have HK8 : Hid (Kp [] w w8) := HK7.out.trans hk8
          have HM8 := Lib.hid (HM7.out.kp0 hk8)
          have hb8 := hk8.heap HB7.out (by simp)
          have b0 := cell_of_row w8 (X0 + 1) 0 _ _ _ hb8
          have b1 := cell_of_row w8 (X0 + 1) 1 _ _ _ hb8
          have b2 := cell_of_row w8 (X0 + 1) 2 _ _ _ hb8
          replace b0 : w8.cell? ⟨X0 + 1, 0, none⟩ = some (.slice none 0 0) := b0
          replace b1 : w8.cell? ⟨X0 + 1, 1, none⟩ = some (.int .i64 0) := b1
          replace b2 : w8.cell? ⟨X0 + 1, 2, none⟩ = some (.int .i64 0) := b2
          have g0 := frozen_of_row w8 (X0 + 1) 0 _ _ hb8
          have g1 := frozen_of_row w8 (X0 + 1) 1 _ _ hb8
          have g2 := frozen_of_row w8 (X0 + 1) 2 _ _ hb8
          have HB8 := Lib.hid hb8
          clear hk8 hb8
          by_cases hck : checkO OO = 0
          · have HRR := Lib.hid (HWW.out _ (if_neg (by rw [hck]; simp)))
            rw [hck]
            obtain ⟨_, _, c8, _, c10, _⟩ := HM8.out.mach.facts
            replace c8 : w8.cell? ⟨M, 8, none⟩ = some (.int .i64 (st.steps : Nat)) := c8
            replace c10 : w8.cell? ⟨M, 10, none⟩ = some (.int .i64 st.width) := c10
            clear b0 b1 b2 g0 g1 g2
            go_wp2_with fail
            have q8 := KW.cell c8
            have q10 := KW.cell c10
            clear c8 c10
            refine wp_region_kqt 10 (by kernel_rfl) (by kernel_rfl) ?_
            simp only [List.take_succ_cons, List.take_zero, List.drop_succ_cons, List.drop_zero]
            repeat (go_big_quiet_step (fail))
            refine wpQuiet_nil ?_
            intro w9 hw'
            obtain ⟨⟨_, hkw9⟩, rfl⟩ := hw'
            try dsimp only
            clear q8 q10
            have hb9 := hkw9.heap HB8.out (by simp)
            have b0 := cell_of_row w9 (X0 + 1) 0 _ _ _ hb9
            have b1 := cell_of_row w9 (X0 + 1) 1 _ _ _ hb9
            have b2 := cell_of_row w9 (X0 + 1) 2 _ _ _ hb9
            replace b0 : w9.cell? ⟨X0 + 1, 0, none⟩ = some (.slice none 0 0) := b0
            replace b1 : w9.cell? ⟨X0 + 1, 1, none⟩ = some (.int .i64 0) := b1
            replace b2 : w9.cell? ⟨X0 + 1, 2, none⟩ = some (.int .i64 0) := b2
            have g0 := frozen_of_row w9 (X0 + 1) 0 _ _ hb9
            have g1 := frozen_of_row w9 (X0 + 1) 1 _ _ hb9
            have g2 := frozen_of_row w9 (X0 + 1) 2 _ _ hb9
            have hk9 : Kp [X0 + 1] w9 (((w9.setCell ⟨X0 + 1, 0, none⟩ (.slice p7 OO.length cc7)).setCell ⟨X0 + 1, 1, none⟩ (.int .i64 st.width)).setCell ⟨X0 + 1, 2, none⟩ (.int .i64 (st.steps : Nat))) := ((((Kp.refl _ _).setCell (.inl (by simp)) _).setCell (.inl (by simp)) _).setCell (.inl (by simp)) _)
            have HOF : Hid (OutT (((w9.setCell ⟨X0 + 1, 0, none⟩ (.slice p7 OO.length cc7)).setCell ⟨X0 + 1, 1, none⟩ (.int .i64 st.width)).setCell ⟨X0 + 1, 2, none⟩ (.int .i64 (st.steps : Nat))) (.slice p7 OO.length cc7) OO) := (HO8.out.kp0 hkw9).far hk9 hb9 (by decide) (by decide)
            have HKF : Hid (Kp [] w (((w9.setCell ⟨X0 + 1, 0, none⟩ (.slice p7 OO.length cc7)).setCell ⟨X0 + 1, 1, none⟩ (.int .i64 st.width)).setCell ⟨X0 + 1, 2, none⟩ (.int .i64 (st.steps : Nat)))) := (((HK8.out.trans hkw9).setCell (.inr HX1.out) _).setCell (.inr HX1.out) _).setCell (.inr HX1.out) _
            clear hk9 hb9 hkw9
            go_wp2_with fail
            refine bodyPost_ret (v := .tuple #[.agg #[.slice p7 OO.length cc7, .int .i64 st.width, .int .i64 (st.steps : Nat)], .int .i64 0]) (by simp [results, Tryz.results10, go_sem, *]) rfl ?_
            rw [HRR.out]
            exact ⟨_, rfl, HOF.out.out, HKF.out⟩
          · have HRR := Lib.hid (HWW.out _ (if_pos hck))
            have hb : (checkO OO != 0) = true := by simpa using hck
            go_wp2_with fail
            refine bodyPost_ret (v := .tuple #[.agg #[.slice none 0 0, .int .i64 0, .int .i64 0], .int .i64 (checkO OO)]) (by simp [results, Tryz.results10, go_sem, *]) rfl ?_
            rw [HRR.out]
            exact ⟨_, rfl, IsOut.nil _ _, ((HK8.out.setCell (.inr HX1.out) _).setCell (.inr HX1.out) _).setCell (.inr HX1.out) _⟩
    · have hm2' : mayB P.nom = false := by simpa using hm2
      rw [if_pos (.inr hm2')] at HRM
      rw [hm2'] at HM2
      clear hm1 hm2 hm2'
      have b0 := cell_of_row W1 (X0 + 1) 0 _ _ _ HB1.out
      have b1 := cell_of_row W1 (X0 + 1) 1 _ _ _ HB1.out
      have b2 := cell_of_row W1 (X0 + 1) 2 _ _ _ HB1.out
      replace b0 : W1.cell? ⟨X0 + 1, 0, none⟩ = some (.slice none 0 0) := b0
      replace b1 : W1.cell? ⟨X0 + 1, 1, none⟩ = some (.int .i64 0) := b1
      replace b2 : W1.cell? ⟨X0 + 1, 2, none⟩ = some (.int .i64 0) := b2
      have g0 := frozen_of_row W1 (X0 + 1) 0 _ _ HB1.out
      have g1 := frozen_of_row W1 (X0 + 1) 1 _ _ HB1.out
      have g2 := frozen_of_row W1 (X0 + 1) 2 _ _ HB1.out
      have HX1 : Hid (w.heap.size ≤ X0 + 1) := by show _ ≤ _; rw [HX0.out]; omega
      go_wp2_with fail
      refine (HM1.out _).mono ?_; rintro e w2 ⟨rfl, rfl⟩
      go_wp2_with fail
      refine (HM2.out _).mono ?_; rintro e w2 ⟨rfl, rfl⟩
      go_wp2_with fail
      refine bodyPost_ret (v := .tuple #[.agg #[.slice none 0 0, .int .i64 0, .int .i64 0], .int .i64 10]) (by simp [results, Tryz.results10, go_sem, *]) rfl ?_
      rw [HRM.out]
      exact ⟨_, rfl, IsOut.nil _ _, ((HK1.out.setCell (.inr HX1.out) _).setCell (.inr HX1.out) _).setCell (.inr HX1.out) _⟩
  · have hm1' : mayB P.dflt = false := by simpa using hm1
    rw [if_pos (.inl hm1')] at HRM
    rw [hm1'] at HM1
    clear hm1 hm1'
    have b0 := cell_of_row W1 (X0 + 1) 0 _ _ _ HB1.out
    have b1 := cell_of_row W1 (X0 + 1) 1 _ _ _ HB1.out
    have b2 := cell_of_row W1 (X0 + 1) 2 _ _ _ HB1.out
    replace b0 : W1.cell? ⟨X0 + 1, 0, none⟩ = some (.slice none 0 0) := b0
    replace b1 : W1.cell? ⟨X0 + 1, 1, none⟩ = some (.int .i64 0) := b1
    replace b2 : W1.cell? ⟨X0 + 1, 2, none⟩ = some (.int .i64 0) := b2
    have g0 := frozen_of_row W1 (X0 + 1) 0 _ _ HB1.out
    have g1 := frozen_of_row W1 (X0 + 1) 1 _ _ HB1.out
    have g2 := frozen_of_row W1 (X0 + 1) 2 _ _ HB1.out
    have HX1 : Hid (w.heap.size ≤ X0 + 1) := by show _ ≤ _; rw [HX0.out]; omega
    go_wp2_with fail
    refine (HM1.out _).mono ?_; rintro e w2 ⟨rfl, rfl⟩
    go_wp2_with fail
    refine bodyPost_ret (v := .tuple #[.agg #[.slice none 0 0, .int .i64 0, .int .i64 0], .int .i64 10]) (by simp [results, Tryz.results10, go_sem, *]) rfl ?_
    rw [HRM.out]
    exact ⟨_, rfl, IsOut.nil _ _, ((HK1.out.setCell (.inr HX1.out) _).setCell (.inr HX1.out) _).setCell (.inr HX1.out) _⟩
end Go.Proofs.YtfgpocpfapnkkaaGreat
namespace Go.Proofs.YtfgpocpfapnkkaaGreat
open Go.RowKit
set_option linter.unusedVariables false
theorem lv_a : runM [139, 139, 21, 239, 6, 14] [] [] 5 0 [] = (([[⟨0, 0, 1⟩, ⟨6553600, 0, 1⟩]], 5, 6), 0) := by kernel_rfl
theorem lv_b : runM [139] [] [] 0 0 [] = (([], 0, 0), 180) := by kernel_rfl
theorem lv_c : runM [139, 139, 139, 139, 14] [] [] 0 0 [] = (([], 0, 0), 183) := by kernel_rfl
/-- Bytes that have just been laid into a block. -/
theorem bytes_made (w : World) (zs : List Int) (n : Nat) (cs : Array Value) (hn : n = zs.length) (hm : n ≤ maxLen) (hcs : cs = (zs.map (Value.int .u8)).toArray) (hb : ∀ c ∈ zs, 0 ≤ c ∧ c ≤ 255) : BytesC (w.alloc (.cells cs 5)) (.slice (some ⟨w.heap.size, 0, none⟩) n n) zs := by
  subst hcs; subst hn
  refine ⟨IsInts.owned (e := 5) (base := 0) (n := zs.length) ⟨by simp, .inr ⟨w.heap.size, zs.length, _, rfl, Nat.zero_le _, heap_alloc_new w _, Nat.le_refl _, hm, by simp, by simp only [Nat.mul_one]; exact List.take_of_length_le (by simp)⟩⟩, hb, fun b hbb => ?_⟩
  obtain ⟨_, rfl⟩ := (blockOf_some _ _ _ _ _ _).1 hbb
  simp
theorem sub_nil (w : World) : IsSub w (.slice none 0 0) [] := ⟨[], ⟨rfl, .inl ⟨⟨_, rfl⟩, rfl⟩⟩, fun i hi => by simp at hi⟩
/-- Run of a literal program. -/
theorem run_lit (zs : List Int) (n : Nat) (cs : Array Value) (dflt : Int) (hn : n = zs.length) (hm : n ≤ maxLen) (hcs : cs = (zs.map (Value.int .u8)).toArray) (hb : ∀ c ∈ zs, 0 ≤ c ∧ c ≤ 255) (w : World) :
    Calls Tryz.prog 10 #[.agg #[.slice (some ⟨w.heap.size, 0, none⟩) n n, .slice none 0 0, .slice none 0 0, .int .i64 dflt, .int .i64 0, .slice none 0 0]] (w.alloc (.cells cs 5)) (RunP (runM zs [] [] dflt 0 []) (w.alloc (.cells cs 5))) :=
  run_calls ⟨.slice (some ⟨w.heap.size, 0, none⟩) n n, .slice none 0 0, .slice none 0 0, dflt, 0, .slice none 0 0⟩ zs [] [] [] _ (bytes_made w zs n cs hn hm hcs hb) (sub_nil _) (sub_nil _) (IsInts.nil _ _) (by decide)
set_option maxRecDepth 100000 in
set_option maxHeartbeats 8000000 in
theorem lives18_calls (w : World) : Calls Tryz.prog 9 #[] w fun e w' => e = .returned (.bool true) ∧ Kp [] w w' := by
  have HR1 := Lib.hid (fun W => run_lit [139, 139, 21, 239, 6, 14] 6 _ 5 rfl (by decide) rfl (by decide) W)
  have HR2 := Lib.hid (fun W => run_lit [139] 1 _ 0 rfl (by decide) rfl (by decide) W)
  have HR3 := Lib.hid (fun W => run_lit [139, 139, 139, 139, 14] 5 _ 0 rfl (by decide) rfl (by decide) W)
  rw [lv_a] at HR1
  rw [lv_b] at HR2
  rw [lv_c] at HR3
  go_enter Tryz.func9, Tryz.ntmps9
  go_wp2_with fail
  refine (HR1.out w).mono ?_; rintro e w1 ⟨v1, rfl, ho1, hk1⟩
  obtain ⟨q1, d1, rfl⟩ := ho1.form
  have HO1 := Lib.hid ho1
  have HK1 : Hid (Kp [] w w1) := ((Kp.refl _ _).alloc _).trans hk1
  clear ho1 hk1 HR1
  dsimp only
  go_upto_region 2 with fail
  refine wp_genT ?_; intro W1 hW1
  have hb1 : W1.heap[w1.heap.size]? = some (.cells #[.slice q1 1 d1, .int .i64 5, .int .i64 6] 31 (0, 0)) := by rw [hW1]; exact heap_alloc_new w1 _
  have hka : Kp [] w1 W1 := by rw [hW1]; exact (Kp.refl _ _).alloc _
  have HB1 := Lib.hid hb1
  have HO2 := Lib.hid (HO1.out.kp0 hka)
  have HK2 : Hid (Kp [] w W1) := HK1.out.trans hka
  generalize w1.heap.size = X at *
  clear hW1 hb1 hka HO1 HK1
  go_wp2_with fail
  refine (HR2.out W1).mono ?_; rintro e w2 ⟨v2, rfl, ho2, hk2⟩
  have hkb := ((Kp.refl [] W1).alloc (.cells #[.int .u8 139] 5)).trans hk2
  have HK3 : Hid (Kp [] W1 w2) := hkb
  obtain ⟨q2, d2, rfl⟩ := ho2.form
  clear ho2 hk2 hkb HR2
  dsimp only
  go_upto_region 3 with fail
  refine wp_genT ?_; intro W2 hW2
  have HK4 : Hid (Kp [] W1 W2) := by show Kp [] _ _; rw [hW2]; exact HK3.out.alloc _
  clear hW2 HK3
  go_wp2_with fail
  refine (HR3.out W2).mono ?_; rintro e w3 ⟨v3, rfl, ho3, hk3⟩
  have HK5 : Hid (Kp [] W1 w3) := HK4.out.trans (((Kp.refl _ _).alloc _).trans hk3)
  obtain ⟨q3, d3, rfl⟩ := ho3.form
  clear ho3 hk3 HR3 HK4
  dsimp only
  go_upto_region 4 with fail
  refine wp_genT ?_; intro W3 hW3
  have hk6 : Kp [] W1 W3 := by rw [hW3]; exact HK5.out.alloc _
  have hb3 := hk6.heap HB1.out (by simp)
  have ho3 := HO2.out.kp0 hk6
  have HK6 : Hid (Kp [] w W3) := HK2.out.trans hk6
  obtain ⟨g1, f1, c1, p1, cv, e1, _, _, hc1, hi1⟩ := ho3.row (i := 0) (by decide)
  obtain ⟨g2, f2, c2', e2, _, _, hx0, hx1, hx2⟩ := hi1.row (i := 1) (by decide)
  obtain ⟨e4, _⟩ : p1 = some ⟨g2, f2, none⟩ ∧ _ := by simpa using e2
  subst e4
  obtain ⟨e5, e6⟩ : q1 = some ⟨g1, f1, none⟩ ∧ d1 = c1 := by simpa using e1
  subst e5 e6
  have b0 : W3.cell? ⟨X, 0, none⟩ = some (.slice (some ⟨g1, f1, none⟩) 1 d1) := cell_of_row W3 X 0 _ _ _ hb3
  have b1 : W3.cell? ⟨X, 1, none⟩ = some (.int .i64 5) := cell_of_row W3 X 1 _ _ _ hb3
  have b2 : W3.cell? ⟨X, 2, none⟩ = some (.int .i64 6) := cell_of_row W3 X 2 _ _ _ hb3
  replace hc1 : W3.cell? ⟨g1, f1, none⟩ = some (.slice (some ⟨g2, f2, none⟩) 2 cv) := hc1
  replace hx0 : W3.cell? ⟨g2, f2 + 3, none⟩ = some (.int .i64 6553600) := hx0
  replace hx1 : W3.cell? ⟨g2, f2 + 3 + 1, none⟩ = some (.int .i64 0) := hx1
  replace hx2 : W3.cell? ⟨g2, f2 + 3 + 2, none⟩ = some (.int .i64 1) := hx2
  clear hW3 hk6 hb3 ho3 HK5 HO2 HB1 HK2 hi1 e2 e1
  go_wp2_with fail
  refine (bias_calls 3 _).mono ?_; rintro e w4 ⟨rfl, rfl⟩
  rw [show biasM 3 = 107 from rfl]
  go_wp2_with fail
  refine (bias_calls 1240 _).mono ?_; rintro e w4 ⟨rfl, rfl⟩
  rw [show biasM 1240 = 1131 from rfl]
  go_wp2_with fail
  go_ret
  exact ⟨by simp, HK6.out⟩
set_option maxRecDepth 100000 in
theorem law_Type2Biases (n : Int) (w : World) : Calls Tryz.prog 7 #[.int .i64 n] w fun e w' => e = .returned (.bool true) ∧ Kp [] w w' := by
  go_enter Tryz.func7, Tryz.ntmps7
  go_wp2_with fail
  refine (lives18_calls w).mono ?_; rintro e w1 ⟨rfl, hk1⟩
  go_wp2_with fail
  refine (bias_calls n _).mono ?_; rintro e w2 ⟨rfl, rfl⟩
  go_wp2_with fail
  refine (rbias_calls n _).mono ?_; rintro e w2 ⟨rfl, rfl⟩
  go_wp2_with fail
  go_ret
  exact ⟨by simp, hk1⟩
end Go.Proofs.YtfgpocpfapnkkaaGreat

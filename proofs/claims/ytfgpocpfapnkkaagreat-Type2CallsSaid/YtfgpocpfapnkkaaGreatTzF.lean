/- type2: the law Type2Calls. -/
import Derived.Test.YtfgpocpfapnkkaaGreatTzD
import Derived.Test.YtfgpocpfapnkkaaGreatTzE
import Derived.Test.YtfgpocpfapnkkaaGreatMtV
import Derived.Deep.RegionHeld3
namespace Go.Proofs.YtfgpocpfapnkkaaGreat
open Go.RowKit
set_option linter.unusedVariables false
set_option linter.unusedSimpArgs false
theorem not_large18b {code dr : List Int} {G L : List (List Int)} (h : largeT code G L dr = false) : code.length ≤ 50000 ∧ dr.length ≤ 50000 ∧ G.length ≤ 2500 ∧ L.length ≤ 2500 := by
  unfold largeT at h
  simp only [Bool.or_eq_false_iff, decide_eq_false_iff_not] at h
  omega
/-- A row of subroutines of the call's own, with one more behind it. -/
theorem sub_snoc {w w' : World} {base : Nat} {e : TypeId} {cv v : Value} {G : List (List Int)} {code : List Int} {vs : List Value} {n : Nat} (hn : G.length = n) (hl : vs.length = n) (he : ∀ i, i < n → BytesC w (vs.getD i nilV) (G.getD i [])) (hc : BytesC w cv code) (hk : Kp [] w w')
    (hown : w'.ownsRow base e 1 v (n + 1) (vs ++ [cv])) : IsSub w' v (G ++ [code]) := by
  subst hn
  have hb : ∀ {x : Value} {l : List Int}, BytesC w x l → BytesC w' x l := fun h => ⟨h.1.kp hk (by simp), h.2.1, fun b e => Nat.lt_of_lt_of_le (h.2.2 b e) hk.size⟩
  refine ⟨vs ++ [cv], by rw [List.length_append]; exact Reads.owned hown, fun i hi => ?_⟩
  rw [List.length_append] at hi
  by_cases h : i < G.length
  · rw [List.getD_eq_getElem?_getD, List.getElem?_append_left (by omega), ← List.getD_eq_getElem?_getD, List.getD_eq_getElem?_getD (l := G ++ [code]), List.getElem?_append_left h, ← List.getD_eq_getElem?_getD]
    exact hb (he i h)
  · have h2 : i = G.length := by simp at hi; omega
    subst h2
    rw [List.getD_eq_getElem?_getD, List.getElem?_append_right (by omega), hl, List.getD_eq_getElem?_getD (l := G ++ [code]), List.getElem?_append_right (by omega)]
    simpa using hb hc
theorem BytesC.kp0 {w w' : World} {v : Value} {zs : List Int} (h : BytesC w v zs) (hk : Kp [] w w') : BytesC w' v zs := ⟨h.1.kp hk (by simp), h.2.1, fun b e => Nat.lt_of_lt_of_le (h.2.2 b e) hk.size⟩

theorem infoBy : (Tryz.prog.info? 22).map (fun i => (i.zero, i.size, i.bytes)) = some (some (.slice none 0 0), 1, 24) := by kernel_rfl
theorem reads_oneT {w : World} {g : Nat} {v : Value} (h : w.cell? ⟨g, 0, none⟩ = some v) : Reads 1 w (.slice (some ⟨g, 0, none⟩) 1 1) 1 [v] := by
  refine ⟨rfl, .inr ⟨g, 0, 1, rfl, Nat.le_refl _, by decide, fun j u hu => ?_⟩⟩
  cases j with
  | zero => simp at hu; subst hu; exact h
  | succ j => simp at hu
theorem litB (W : World) (e : TypeId) (v : Value) : (((W.alloc (.cells #[v] e)).alloc (.cells #[] e)).drew).cell? ⟨W.heap.size, 0, none⟩ = some v :=
  ((((Kp.refl [] (W.alloc (.cells #[v] e))).alloc (.cells #[] e)).drew)).cell (cell_of_row _ _ 0 _ _ (0, 0) (heap_alloc_new W (.cells #[v] e))) (by simp)
theorem litD (W : World) (e : TypeId) (v : Value) : (((W.alloc (.cells #[] e)).alloc (.cells #[v] e)).drew).cell? ⟨W.heap.size + 1, 0, none⟩ = some v := by
  have h9 := cell_of_row _ _ 0 _ _ (0, 0) (heap_alloc_new (W.alloc (.cells #[] e)) (.cells #[v] e))
  have h8 : (W.alloc (.cells #[] e)).heap.size = W.heap.size + 1 := by simp
  rw [h8] at h9
  exact h9
theorem own_emptyD (W : World) (e : TypeId) (size : Nat) (o : Obj) : ((W.alloc (.cells #[] e)).alloc o).drew.ownsRow W.heap.size e size (.slice (some ⟨W.heap.size, 0, none⟩) 0 0) 0 [] := (((Kp.refl [] _).alloc o).drew).row (own_empty _ _ _ _ _ rfl (Nat.le_refl _)) (by simp)
theorem own_emptyC (W : World) (e : TypeId) (size : Nat) (o : Obj) : ((W.alloc o).alloc (.cells #[] e)).drew.ownsRow W.heap.size e size (.slice (some ⟨W.heap.size + 1, 0, none⟩) 0 0) 0 [] := ((Kp.refl [] _).drew).row (own_empty _ _ _ _ _ (by simp) (by omega)) (by simp)
theorem own_emptyA (W : World) (e : TypeId) (size : Nat) : ((W.alloc (.cells #[] e)).drew).ownsRow W.heap.size e size (.slice (some ⟨W.heap.size, 0, none⟩) 0 0) 0 [] := ((Kp.refl [] _).drew).row (own_empty _ _ _ _ _ rfl (Nat.le_refl _)) (by simp)

set_option maxRecDepth 100000 in
set_option maxHeartbeats 8000000 in
theorem law_Type2Calls_true (pc : Option Addr) (cc : Nat) (code : List Int) (pG : Option Addr) (cG : Nat) (pL : Option Addr) (cL : Nat) (G L : List (List Int)) (d nm : Int) (pd : Option Addr) (cd : Nat) (dr : List Int) (w : World) (hB : BytesC w (.slice pc code.length cc) code) (hG : IsSub w (.slice pG G.length cG) G) (hL : IsSub w (.slice pL L.length cL) L) (hI : IsInts .i64 w (.slice pd dr.length cd) dr)
    (hc : code.length ≤ 140737488355328) (hd : dr.length ≤ 140737488355328) (hbG : ∀ j, j < G.length → (G.getD j []).length ≤ 140737488355328) (hbL : ∀ j, j < L.length → (L.getD j []).length ≤ 140737488355328) (hnG : G.length ≤ 140737488355328) (hnL : L.length ≤ 140737488355328)
    (hlg : largeT code G L dr = false) (h1G : G.length ≤ 1000) (h1L : L.length ≤ 1000) :
    Calls Tryz.prog 4 #[.agg #[.slice pc code.length cc, .slice pG G.length cG, .slice pL L.length cL, .int .i64 d, .int .i64 nm, .slice pd dr.length cd], .bool true] w fun e w' => e = .returned (.bool true) ∧ Kp [] w w' := by
  obtain ⟨hcl, hdl, _, _⟩ := not_large18b hlg
  have HLA := Lib.hid (fun W (hk : Kp [] w W) => large18_calls pc cc code _ _ G L d nm pd cd dr W (hG.kp0 hk) (hL.kp0 hk) hc hd hbG hbL hnG hnL)
  rw [hlg] at HLA
  have HRUN := Lib.hid (fun W (hk : Kp [] w W) => run_calls ⟨.slice pc code.length cc, .slice pG G.length cG, .slice pL L.length cL, d, nm, .slice pd dr.length cd⟩ code G L dr W (hB.kp0 hk) (hG.kp0 hk) (hL.kp0 hk) (hI.kp hk (by simp)) (by omega))
  dsimp only at HRUN
  obtain ⟨⟨⟨O, Wd, S⟩, E⟩, hR⟩ : ∃ R, runM code G L d nm dr = R := ⟨_, rfl⟩
  rw [hR] at HRUN
  obtain ⟨N, hN⟩ : ∃ N, G.length = N := ⟨_, rfl⟩
  have HB := Lib.hid hB
  have HG := Lib.hid hG
  have HL := Lib.hid hL
  have HI := Lib.hid hI
  have HCL := Lib.hid hcl
  have HDL := Lib.hid hdl
  have HCD := Lib.hid (run_called true code G L d nm dr O Wd S)
  rw [hR] at HCD
  clear hB hG hL hI hR hbG hbL hlg hc hd hcl hdl
  obtain ⟨vs, hrd, hvs⟩ := HG.out
  have HVS := Lib.hid hvs
  have HRD := Lib.hid hrd
  have hvl : vs.length = G.length := by have := hrd.1; omega
  have HVL := Lib.hid hvl
  have HN := Lib.hid hN
  have hN1 : N ≤ 1000 := by omega
  have HONE : Hid (∀ u ∈ vs, u.oneCell' = true) := fun u hu => by
    obtain ⟨i, hi, rfl⟩ := List.mem_iff_getElem.1 hu
    have h1 := (HVS.out i (by omega)).1
    rw [List.getD_eq_getElem?_getD, List.getElem?_eq_getElem (by omega)] at h1
    rcases h1 with ⟨⟨a, h2⟩, _⟩ | ⟨g, off, c, h2, _⟩
    · have h3 : vs[i] = _ := h2
      rw [h3]; rfl
    · have h3 : vs[i] = _ := h2
      rw [h3]; rfl
  generalize hC : code.length = C at *
  generalize hD : dr.length = D at *
  generalize hNG : G.length = NG at *
  generalize hNL : L.length = NL at *
  have HC := Lib.hid hC
  have HNR := Lib.hid hNG
  have HD := Lib.hid hD
  clear hrd hvs hvl hC hD hN hNG hNL
  have x1 : (1000 < (NG : Int)) = False := by simp; omega
  go_enter Tryz.func4, Tryz.ntmps4
  go_upto_region 1 with fail
  refine wp_genT ?_; intro W1 hW1
  have hb0 : W1.heap[w.heap.size]? = some (.cells #[.slice pc C cc, .slice pG NG cG, .slice pL NL cL, .int .i64 d, .int .i64 nm, .slice pd D cd] 26 (0, 0)) := by rw [hW1]; exact heap_alloc_new w _
  have HK1 : Hid (Kp [] w W1) := by show Kp [] _ _; rw [hW1]; exact (Kp.refl _ _).alloc _
  have HB0 := Lib.hid hb0
  generalize w.heap.size = X at *
  have kf : ∀ W, Kp [] W1 W → W.cell? ⟨X, 0, none⟩ = some (.slice pc C cc) ∧ W.cell? ⟨X, 1, none⟩ = some (.slice pG NG cG) ∧ W.cell? ⟨X, 2, none⟩ = some (.slice pL NL cL) ∧ W.cell? ⟨X, 3, none⟩ = some (.int .i64 d) ∧ W.cell? ⟨X, 4, none⟩ = some (.int .i64 nm) ∧ W.cell? ⟨X, 5, none⟩ = some (.slice pd D cd) := fun W hk =>
    have hb := hk.heap HB0.out (by simp)
    ⟨cell_of_row W X 0 _ _ _ hb, cell_of_row W X 1 _ _ _ hb, cell_of_row W X 2 _ _ _ hb, cell_of_row W X 3 _ _ _ hb, cell_of_row W X 4 _ _ _ hb, cell_of_row W X 5 _ _ _ hb⟩
  have HKF := Lib.hid kf
  obtain ⟨k0, k1, k2, k3, k4, k5⟩ := kf W1 (Kp.refl _ _)
  clear hW1 hb0 kf
  go_wp2_with fail
  refine (HLA.out W1 HK1.out).mono ?_; rintro e w2 ⟨rfl, hk2⟩
  obtain ⟨m0, m1, m2, m3, m4, m5⟩ := HKF.out w2 hk2
  have HK2 : Hid (Kp [] w w2) := HK1.out.trans hk2
  have HK12 := Lib.hid hk2
  clear k0 k1 k2 k3 k4 k5 hk2 HLA
  go_wp2_with fail
  refine (HRUN.out w2 HK2.out).mono ?_; rintro e w3 ⟨v3, rfl, ho3, hk3⟩
  obtain ⟨p3, c3, rfl⟩ := ho3.form
  have HO3 := Lib.hid ho3
  have HK3 : Hid (Kp [] W1 w3) := HK12.out.trans hk3
  clear ho3 hk3 HRUN m0 m1 m2 m3 m4 m5
  dsimp only
  generalize hOL : O.length = OL at *
  have HOL := Lib.hid hOL
  clear hOL
  go_upto_region 4 with fail
  refine wp_genT ?_; intro W4 hW4
  have hb4 : W4.heap[w3.heap.size]? = some (.cells #[.slice p3 OL c3, .int .i64 Wd, .int .i64 (S : Nat)] 31 (0, 0)) := by rw [hW4]; exact heap_alloc_new w3 _
  have hk4 : Kp [] w3 W4 := by rw [hW4]; exact (Kp.refl _ _).alloc _
  have HO4 := Lib.hid (HO3.out.kp0 hk4)
  have HK4 : Hid (Kp [] W1 W4) := HK3.out.trans hk4
  have HB4 := Lib.hid hb4
  generalize w3.heap.size = Y at *
  obtain ⟨k0, k1, k2, k3, k4, k5⟩ := HKF.out W4 HK4.out
  clear hW4 hb4 hk4 HK3 HO3
  go_upto_region 5 with fail
  refine wp_genT ?_; intro W5 hW5
  have hb5 : W5.heap[W4.heap.size]? = some (.cells #[.slice pc C cc, .slice pG NG cG, .slice pL NL cL, .int .i64 d, .int .i64 nm, .slice pd D cd] 26 (0, 0)) := by rw [hW5]; exact heap_alloc_new W4 _
  have hk5 : Kp [] W4 W5 := by rw [hW5]; exact (Kp.refl _ _).alloc _
  have hsz5 : W5.heap.size = W4.heap.size + 1 := by rw [hW5]; simp
  have HK45 := Lib.hid hk5
  have HZ4 : Hid (W4.heap.size ≤ W4.heap.size) := Nat.le_refl _
  have HK5 : Hid (Kp [] W1 W5) := HK4.out.trans hk5
  have HKW5 : Hid (Kp [] w W5) := HK1.out.trans HK5.out
  have HB5 := Lib.hid hb5
  have HKZ : Hid (W1.heap.size ≤ W4.heap.size) := HK4.out.size
  obtain ⟨Z, hZ⟩ : ∃ Z, W4.heap.size = Z := ⟨_, rfl⟩
  rw [hZ] at HB5 HKZ hsz5 hb5 ⊢
  replace HZ4 : Hid (W4.heap.size ≤ Z) := by show _ ≤ _; omega
  clear hW5 hb5 hk5 hZ k0 k1 k2 k3 k4 k5
  obtain ⟨k0, k1, k2, k3, k4, k5⟩ := HKF.out W5 HK5.out
  go_upto_region 9 with fail
  have hZ5 : Z < W5.heap.size := by omega
  have HS9 : Hid (∀ w', Kp [] W5 w' → (w'.cell? ⟨X, 1, none⟩ = some (.slice pG NG cG) ∧ w'.cell? ⟨X, 0, none⟩ = some (.slice pc C cc))) := fun w' hk => by
    obtain ⟨k0, k1, k2, k3, k4, k5⟩ := HKF.out w' (HK5.out.trans hk)
    exact ⟨k1, k0⟩
  have HZ1 : Hid (W1.heap.size ≤ Z) := by show _ ≤ _; have := HKZ.out; omega
  have HS9z : Hid (∀ w' u, Kp [] W5 w' → ((w'.setCell ⟨Z, 1, none⟩ u).cell? ⟨X, 1, none⟩ = some (.slice pG NG cG) ∧ (w'.setCell ⟨Z, 1, none⟩ u).cell? ⟨X, 0, none⟩ = some (.slice pc C cc))) := fun w' u hk => by
    obtain ⟨k0, k1, k2, k3, k4, k5⟩ := HKF.out _ ((HK5.out.trans hk).setCell (p := ⟨Z, 1, none⟩) (.inr HZ1.out) u)
    exact ⟨k1, k0⟩
  have HSZ5 := Lib.hid hsz5
  clear hsz5
  clear k1 k2 k3 k4 k5 k0
  obtain ⟨e1, e0⟩ := HS9.out W5 (Kp.refl _ _)
  go_region_held3 (fun w' => w'.cell? ⟨X, 1, none⟩ = some (.slice pG NG cG) ∧ w'.cell? ⟨X, 0, none⟩ = some (.slice pc C cc)) (first | go_keep | (refine HS9.out _ ?_; ((repeat (first | exact Kp.refl _ _ | assumption | refine Kp.drew ?_ | refine Kp.drewN ?_ _ | refine Kp.alloc ?_ _)); done)) | exact HS9z.out _ _ hA7)
    ((first
      | (refine step_appS (w := (W5.alloc (.cells #[] 22)).drew) (by rfl) (.tmp 41) (.tmp 43) 23 (by rfl) W5.heap.size 22 (.slice none 0 0) 1 24 Tryz.underlying23 infoBy rfl (by decide) (by decide) (.slice (some ⟨W5.heap.size, 0, none⟩) 0 0) 0 [] (by rfl) (own_emptyA W5 _ _) (.slice pG NG cG) NG vs (by rfl) (HRD.out.kp (S := []) (HKW5.out.trans (by ((repeat (first | exact Kp.refl _ _ | assumption | refine Kp.drew ?_ | refine Kp.drewN ?_ _ | refine Kp.alloc ?_ _)); done))) (by simp)) HONE.out (by omega) (by simp; try omega) ?_
         intro v6 w6 hown6 hgr6
         rw [Nat.zero_add, List.nil_append] at hown6
         obtain ⟨p6, c6, rfl⟩ := slice_own hown6
         have hA6 : Kp [] W5 w6 := Kp.grown (by ((repeat (first | exact Kp.refl _ _ | assumption | refine Kp.drew ?_ | refine Kp.drewN ?_ _ | refine Kp.alloc ?_ _)); done)) hgr6 (fun k hk => .inr (by simp [Value.ownBlock] at hk; omega))
         skip)
      | (refine step_appS (w := w6.alloc (.cells #[.slice pc C cc] 22)) (by rfl) (.tmp 44) (.tmp 47) 23 (by rfl) W5.heap.size 22 (.slice none 0 0) 1 24 Tryz.underlying23 infoBy rfl (by decide) (by decide) (.slice p6 NG c6) NG vs (by rfl) (hown6.alloc _) (.slice (some ⟨w6.heap.size, 0, none⟩) 1 1) 1 [.slice pc C cc] (by rfl) (Reads.made _ _ 1 1 [.slice pc C cc] _ rfl rfl (by decide)) (by intro u hu; simp at hu; subst hu; rfl) (by omega) (by have := hA6.size; simp; omega) ?_
         intro v7 w7 hown7 hgr7
         have hA7 : Kp [] W5 w7 := Kp.grown (hA6.alloc _) hgr7 (fun k hk => .inr (own_ge hown6 k hk))
         obtain ⟨p7, c7, rfl⟩ := slice_own hown7
         have q1 := cell_of_row w7 Z 1 _ _ _ (hA7.heap HB5.out (by simp))
         replace q1 : w7.cell? ⟨Z, 1, none⟩ = some (.slice pG NG cG) := q1
         have q2 := frozen_of_row w7 Z 1 _ _ (hA7.heap HB5.out (by simp)))
      | (refine step_appS (w := ((W5.alloc (.cells #[.slice pc C cc] 22)).alloc (.cells #[] 22)).drew) (by rfl) (.tmp 41) (.tmp 43) 23 (by rfl) W5.heap.size 22 (.slice none 0 0) 1 24 Tryz.underlying23 infoBy rfl (by decide) (by decide) (.slice (some ⟨W5.heap.size + 1, 0, none⟩) 0 0) 0 [] (by rfl) (own_emptyC W5 _ _ _) (.slice pG NG cG) NG vs (by rfl) (HRD.out.kp (S := []) (HKW5.out.trans (by ((repeat (first | exact Kp.refl _ _ | assumption | refine Kp.drew ?_ | refine Kp.drewN ?_ _ | refine Kp.alloc ?_ _)); done))) (by simp)) HONE.out (by omega) (by simp; try omega) ?_
         intro v6 w6 hown6 hgr6
         rw [Nat.zero_add, List.nil_append] at hown6
         obtain ⟨p6, c6, rfl⟩ := slice_own hown6
         have hA6 : Kp [] W5 w6 := Kp.grown (by ((repeat (first | exact Kp.refl _ _ | assumption | refine Kp.drew ?_ | refine Kp.drewN ?_ _ | refine Kp.alloc ?_ _)); done)) hgr6 (fun k hk => .inr (by simp [Value.ownBlock] at hk; omega))
         have hB6 := (Kp.grown (S := [W5.heap.size + 1]) (Kp.refl _ _) hgr6 (fun k hk => .inl (by simp [Value.ownBlock] at hk; simp [hk]))).cell (a := ⟨W5.heap.size, 0, none⟩) (v := .slice pc C cc) (litB W5 _ _) (by simp))
      | (refine step_appS (w := w6) (by rfl) (.tmp 44) (.tmp 47) 23 (by rfl) W5.heap.size 22 (.slice none 0 0) 1 24 Tryz.underlying23 infoBy rfl (by decide) (by decide) (.slice p6 NG c6) NG vs (by rfl) hown6 (.slice (some ⟨W5.heap.size, 0, none⟩) 1 1) 1 [.slice pc C cc] (by rfl) (reads_oneT hB6) (by intro u hu; simp at hu; subst hu; rfl) (by omega) hA6.size ?_
         intro v7 w7 hown7 hgr7
         have hA7 : Kp [] W5 w7 := Kp.grown hA6 hgr7 (fun k hk => .inr (own_ge hown6 k hk))
         obtain ⟨p7, c7, rfl⟩ := slice_own hown7
         have q1 := cell_of_row w7 Z 1 _ _ _ (hA7.heap HB5.out (by simp))
         replace q1 : w7.cell? ⟨Z, 1, none⟩ = some (.slice pG NG cG) := q1
         have q2 := frozen_of_row w7 Z 1 _ _ (hA7.heap HB5.out (by simp)))
      | (refine step_appS (w := ((W5.alloc (.cells #[] 22)).alloc (.cells #[.slice pc C cc] 22)).drew) (by rfl) (.tmp 41) (.tmp 43) 23 (by rfl) W5.heap.size 22 (.slice none 0 0) 1 24 Tryz.underlying23 infoBy rfl (by decide) (by decide) (.slice (some ⟨W5.heap.size, 0, none⟩) 0 0) 0 [] (by rfl) (own_emptyD W5 _ _ _) (.slice pG NG cG) NG vs (by rfl) (HRD.out.kp (S := []) (HKW5.out.trans (by ((repeat (first | exact Kp.refl _ _ | assumption | refine Kp.drew ?_ | refine Kp.drewN ?_ _ | refine Kp.alloc ?_ _)); done))) (by simp)) HONE.out (by omega) (by simp; try omega) ?_
         intro v6 w6 hown6 hgr6
         rw [Nat.zero_add, List.nil_append] at hown6
         obtain ⟨p6, c6, rfl⟩ := slice_own hown6
         have hA6 : Kp [] W5 w6 := Kp.grown (by ((repeat (first | exact Kp.refl _ _ | assumption | refine Kp.drew ?_ | refine Kp.drewN ?_ _ | refine Kp.alloc ?_ _)); done)) hgr6 (fun k hk => .inr (by simp [Value.ownBlock] at hk; omega))
         have hB6 := (Kp.grown (S := [W5.heap.size]) (Kp.refl _ _) hgr6 (fun k hk => .inl (by simp [Value.ownBlock] at hk; simp [hk]))).cell (a := ⟨W5.heap.size + 1, 0, none⟩) (v := .slice pc C cc) (litD W5 _ _) (by simp))
      | (refine step_appS (w := w6) (by rfl) (.tmp 44) (.tmp 47) 23 (by rfl) W5.heap.size 22 (.slice none 0 0) 1 24 Tryz.underlying23 infoBy rfl (by decide) (by decide) (.slice p6 NG c6) NG vs (by rfl) hown6 (.slice (some ⟨W5.heap.size + 1, 0, none⟩) 1 1) 1 [.slice pc C cc] (by rfl) (reads_oneT hB6) (by intro u hu; simp at hu; subst hu; rfl) (by omega) hA6.size ?_
         intro v7 w7 hown7 hgr7
         have hA7 : Kp [] W5 w7 := Kp.grown hA6 hgr7 (fun k hk => .inr (own_ge hown6 k hk))
         obtain ⟨p7, c7, rfl⟩ := slice_own hown7
         have q1 := cell_of_row w7 Z 1 _ _ _ (hA7.heap HB5.out (by simp))
         replace q1 : w7.cell? ⟨Z, 1, none⟩ = some (.slice pG NG cG) := q1
         have q2 := frozen_of_row w7 Z 1 _ _ (hA7.heap HB5.out (by simp)))
      | fail))
  all_goals
    go_upto_region 11 with fail
    refine wp_genT ?_; intro W9 hW9
    have hK49 : Kp [] W4 W9 := by rw [hW9]; exact (HK45.out.trans hA7).setCell (.inr HZ4.out) _
    have HK9 : Hid (Kp [] w W9) := HK1.out.trans (HK4.out.trans hK49)
    have HB9 : Hid (W9.heap[Z]? = some (.cells #[.slice pc C cc, .slice p7 (NG + 1) c7, .slice pL NL cL, .int .i64 d, .int .i64 nm, .slice pd D cd] 26 (0, 0))) := by show _ = _; rw [hW9]; exact heap_setCell_same w7 Z 1 _ _ _ (hA7.heap HB5.out (by simp))
    have HY9 : Hid (W9.heap[Y]? = some (.cells #[.slice p3 OL c3, .int .i64 Wd, .int .i64 (S : Nat)] 31 (0, 0))) := hK49.heap HB4.out (by simp)
    have HO9 : Hid (IsOut W9 (.slice p3 OL c3) O) := HO4.out.kp0 hK49
    have hw7 : W9.ownsRow W5.heap.size 22 1 (.slice p7 (NG + 1) c7) (NG + 1) (vs ++ [.slice pc C cc]) := by
      have h1 : Kp [Z] w7 W9 := by rw [hW9]; exact (Kp.refl _ _).setCell (.inl (by simp)) _
      refine h1.row hown7 (fun s hs e => ?_)
      simp only [List.mem_singleton] at hs
      subst hs
      have h2 := own_ge hown7 s e
      have h3 := HSZ5.out
      omega
    have HSUB : Hid (IsSub W9 (.slice p7 (NG + 1) c7) (G ++ [code])) := sub_snoc HNR.out HVL.out HVS.out HB.out HK9.out hw7
    have HK49 := Lib.hid hK49
    have HW7 := Lib.hid hw7
    have HNL1 : Hid (NG ≤ 1000) := h1G
    have HYC : Hid (∀ W, Kp [] W9 W → W.cell? ⟨Y, 0, none⟩ = some (.slice p3 OL c3) ∧ W.cell? ⟨Y, 1, none⟩ = some (.int .i64 Wd) ∧ W.cell? ⟨Y, 2, none⟩ = some (.int .i64 (S : Nat))) := fun W hk =>
      have hb := hk.heap HY9.out (by simp)
      ⟨cell_of_row W Y 0 _ _ _ hb, cell_of_row W Y 1 _ _ _ hb, cell_of_row W Y 2 _ _ _ hb⟩
    obtain ⟨y0, y1, y2⟩ := HYC.out W9 (Kp.refl _ _)
    have hb1 : biasM (NG : Int) = 107 := by unfold biasM; exact if_pos (by omega)
    have hb2 : biasM ((NG : Int) + 1) = 107 := by unfold biasM; exact if_pos (by omega)
    have hwn : IntKind.i64.wrap ((NG : Int) + 1) = (NG : Int) + 1 := by rw [IntKind.wrap_i64]; omega
    clear hW9 hK49 hw7 hown7 hgr7 hA7 hA6 hown6 hgr6 q1 q2 e0 e1 hZ5
    go_wp2_with fail
    refine (rbias_calls _ _).mono ?_; rintro e wb ⟨rfl, rfl⟩
    rw [hb1]
    go_wp2_with fail
    refine (rbias_calls _ _).mono ?_; rintro e wb ⟨rfl, rfl⟩
    rw [hb2]
    by_cases hE : E = 0
    · subst hE
      by_cases hS : S ≤ 19998
      · have hs1 : decide (19998 < (S : Int)) = false := by simp; omega
        go_wp2_with fail
        refine (rbias_calls _ _).mono ?_; rintro e wb ⟨rfl, rfl⟩
        rw [hb2]
        have hwx : IntKind.i64.wrap ((NG : Int) - 107) = (NG : Int) - 107 := by rw [IntKind.wrap_i64]; omega
        have z0 : W9.cell? ⟨Z, 0, none⟩ = some (.slice pc C cc) := cell_of_row W9 Z 0 _ _ _ HB9.out
        have z1 : ∀ o, (W9.alloc o).cell? ⟨Z, 0, none⟩ = some (.slice pc C cc) := fun o => ((Kp.refl [] W9).alloc o).cell z0 (by simp)
        have z2 : ∀ o, (W9.alloc o).frozen? ⟨Z, 0, none⟩ = false := fun o => frozen_of_row _ Z 0 _ _ (((Kp.refl [] W9).alloc o).heap HB9.out (by simp))
        go_upto_region 15 with fail
        refine wp_genT ?_; intro W15 hW15
        have hKz : Kp [Z] (W9.alloc (.cells #[.int .u8 28, .int .u8 (((NG : Int) - 107) / 256 % 256), .int .u8 (((NG : Int) - 107) % 256), .int .u8 29] 5)) W15 := by rw [hW15]; exact (Kp.refl _ _).setCell (.inl (by simp)) _
        have hK15 : Kp [] W4 W15 := by rw [hW15]; exact (HK49.out.alloc _).setCell (.inr HZ4.out) _
        have HKW : Hid (Kp [] w W15) := HK1.out.trans (HK4.out.trans hK15)
        have hZ9 : Z < W9.heap.size := lt_of_block HB9.out
        have hb15 : W15.heap[Z]? = some (.cells #[.slice (some ⟨W9.heap.size, 0, none⟩) 4 4, .slice p7 (NG + 1) c7, .slice pL NL cL, .int .i64 d, .int .i64 nm, .slice pd D cd] 26 (0, 0)) := by rw [hW15]; exact heap_setCell_same _ Z 0 _ _ _ (((Kp.refl [] W9).alloc _).heap HB9.out (by simp))
        have HBC : Hid (BytesC W15 (.slice (some ⟨W9.heap.size, 0, none⟩) 4 4) (callZ ((NG : Int) - 107) 29)) := by
          obtain ⟨b1, b2, b3⟩ := bytes_made W9 (callZ ((NG : Int) - 107) 29) 4 #[.int .u8 28, .int .u8 (((NG : Int) - 107) / 256 % 256), .int .u8 (((NG : Int) - 107) % 256), .int .u8 29] rfl (by decide) rfl (by
            intro c hc
            unfold callZ at hc
            simp only [List.mem_cons, List.not_mem_nil, or_false] at hc
            omega)
          refine ⟨b1.kp hKz (fun s hs e => ?_), b2, fun b e => Nat.lt_of_lt_of_le (b3 b e) hKz.size⟩
          simp only [List.mem_singleton] at hs
          subst hs
          obtain ⟨_, e2⟩ := (blockOf_some _ _ _ _ _ _).1 e
          omega
        have HSUB15 : Hid (IsSub W15 (.slice p7 (NG + 1) c7) (G ++ [code])) := by
          refine sub_snoc HNR.out HVL.out HVS.out HB.out HKW.out (base := W5.heap.size) (e := 22) ?_
          refine hKz.row ((((Kp.refl [] W9).alloc _)).row HW7.out (by simp)) (fun s hs e => ?_)
          simp only [List.mem_singleton] at hs
          subst hs
          have h2 := own_ge HW7.out s e
          have h3 := HSZ5.out
          omega
        have HOTH : Hid (IsSub W15 (.slice pL NL cL) L) := HL.out.kp0 HKW.out
        have HDR : Hid (IsInts .i64 W15 (.slice pd D cd) dr) := HI.out.kp HKW.out (by simp)
        obtain ⟨t0, t1, t2, t3, t4, t5⟩ : W15.cell? ⟨Z, 0, none⟩ = some (.slice (some ⟨W9.heap.size, 0, none⟩) 4 4) ∧ W15.cell? ⟨Z, 1, none⟩ = some (.slice p7 (NG + 1) c7) ∧ W15.cell? ⟨Z, 2, none⟩ = some (.slice pL NL cL) ∧ W15.cell? ⟨Z, 3, none⟩ = some (.int .i64 d) ∧ W15.cell? ⟨Z, 4, none⟩ = some (.int .i64 nm) ∧ W15.cell? ⟨Z, 5, none⟩ = some (.slice pd D cd) :=
          ⟨cell_of_row W15 Z 0 _ _ _ hb15, cell_of_row W15 Z 1 _ _ _ hb15, cell_of_row W15 Z 2 _ _ _ hb15, cell_of_row W15 Z 3 _ _ _ hb15, cell_of_row W15 Z 4 _ _ _ hb15, cell_of_row W15 Z 5 _ _ _ hb15⟩
        have hz9 : Kp [] W4 W15 := hK15
        have HY15 : Hid (W15.heap[Y]? = some (.cells #[.slice p3 OL c3, .int .i64 Wd, .int .i64 (S : Nat)] 31 (0, 0))) := hK15.heap HB4.out (by simp)
        have HO15 : Hid (IsOut W15 (.slice p3 OL c3) O) := HO4.out.kp0 hK15
        have HRUN2 := Lib.hid (run_calls ⟨.slice (some ⟨W9.heap.size, 0, none⟩) 4 4, (.slice p7 (NG + 1) c7), (.slice pL NL cL), d, nm, .slice pd D cd⟩ (callZ ((NG : Int) - 107) 29) (G ++ [code]) L dr W15 HBC.out HSUB15.out HOTH.out HDR.out (by have := HD.out; have := HDL.out; omega))
        dsimp only at HRUN2
        have HOUT := Lib.hid (HCD.out (by first | trivial | rfl) hS NG (by simp) HNL1.out)
        simp only [if_true, Bool.false_eq_true, if_false] at HOUT
        generalize W9.heap.size = g9 at *
        clear hKz hK15 hz9 hb15 hW15 z0 z1 z2 hwx hwn hb1 hb2 y0 y1 y2 hZ9
        have hso : Hid ((S : Nat) + 2 ≤ 20000) := by show _ ≤ _; omega
        rcases HOUT.out with hr | hr
        · rw [hr] at HRUN2
          have hws : IntKind.i64.wrap ((S : Int) + 2) = (S : Int) + 2 := by rw [IntKind.wrap_i64]; omega
          clear hr HOUT hs1
          go_wp2_with fail
          refine HRUN2.out.mono ?_; rintro e w16 ⟨v16, rfl, ho16, hk16⟩
          obtain ⟨p16, c16, hv16⟩ := ho16.form
          rw [show O.length = OL from HOL.out] at hv16
          subst hv16
          have HO16 := Lib.hid ho16
          have HY16 := Lib.hid (hk16.heap HY15.out (by simp))
          have HO3b := Lib.hid (HO15.out.kp0 hk16)
          have HK16 : Hid (Kp [] w w16) := HKW.out.trans hk16
          clear ho16 hk16 t0 t1 t2 t3 t4 t5 HRUN2
          dsimp only
          go_upto_region 16 with fail
          refine wp_genT ?_; intro W17 hW17
          have hb17 : W17.heap[w16.heap.size]? = some (.cells #[.slice p16 OL c16, .int .i64 Wd, .int .i64 ((S : Int) + 2)] 31 (0, 0)) := by rw [hW17]; exact heap_alloc_new w16 _
          have hk17 : Kp [] w16 W17 := by rw [hW17]; exact (Kp.refl _ _).alloc _
          have HB17 := Lib.hid hb17
          have HK17 : Hid (Kp [] w W17) := HK16.out.trans hk17
          have HY17 := Lib.hid (hk17.heap HY16.out (by simp))
          have HOA := Lib.hid (HO3b.out.kp0 hk17)
          have HOB := Lib.hid (HO16.out.kp0 hk17)
          generalize w16.heap.size = V at *
          clear hW17 hb17 hk17
          go_wp2_with fail
          refine (lives18_calls _).mono ?_; rintro e w18 ⟨rfl, hk18⟩
          have hby := hk18.heap HY17.out (by simp)
          have hbv := hk18.heap HB17.out (by simp)
          have y0 : w18.cell? ⟨Y, 0, none⟩ = some (.slice p3 OL c3) := cell_of_row w18 Y 0 _ _ _ hby
          have v0 : w18.cell? ⟨V, 0, none⟩ = some (.slice p16 OL c16) := cell_of_row w18 V 0 _ _ _ hbv
          have HY18 := Lib.hid hby
          have HV18 := Lib.hid hbv
          have HSM := Lib.hid (rsame_calls _ _ O O w18 (HOB.out.kp0 hk18) (HOA.out.kp0 hk18))
          have HK18 : Hid (Kp [] w w18) := HK17.out.trans hk18
          clear hk18 hby hbv
          go_wp2_with fail
          refine HSM.out.mono ?_; rintro e w19 ⟨rfl, hk19⟩
          have hby := hk19.heap HY18.out (by simp)
          have hbv := hk19.heap HV18.out (by simp)
          have y1 : w19.cell? ⟨Y, 1, none⟩ = some (.int .i64 Wd) := cell_of_row w19 Y 1 _ _ _ hby
          have v1 : w19.cell? ⟨V, 1, none⟩ = some (.int .i64 Wd) := cell_of_row w19 V 1 _ _ _ hbv
          have y2 : w19.cell? ⟨Y, 2, none⟩ = some (.int .i64 (S : Int)) := cell_of_row w19 Y 2 _ _ _ hby
          have v2 : w19.cell? ⟨V, 2, none⟩ = some (.int .i64 ((S : Int) + 2)) := cell_of_row w19 V 2 _ _ _ hbv
          have HK19 : Hid (Kp [] w w19) := HK18.out.trans hk19
          clear hk19 hby hbv y0 v0
          rw [show decide True = true from rfl]
          go_wp2_with fail
          go_ret
          exact ⟨by simp, HK19.out⟩
        · rw [hr] at HRUN2
          clear hr HOUT hs1
          go_wp2_with fail
          refine HRUN2.out.mono ?_; rintro e w16 ⟨v16, rfl, ho16, hk16⟩
          obtain ⟨p16, c16, rfl⟩ := ho16.form
          have HK16 : Hid (Kp [] w w16) := HKW.out.trans hk16
          clear ho16 hk16 t0 t1 t2 t3 t4 t5 HRUN2
          dsimp only
          go_upto_region 16 with fail
          refine wp_genT ?_; intro W17 hW17
          have HK17 : Hid (Kp [] w W17) := by show Kp _ _ _; rw [hW17]; exact HK16.out.alloc _
          clear hW17
          go_wp2_with fail
          refine (lives18_calls _).mono ?_; rintro e w18 ⟨rfl, hk18⟩
          go_wp2_with fail
          go_ret
          exact ⟨by simp, HK17.out.trans hk18⟩
      · have hs1 : decide (19998 < (S : Int)) = true := by simp; omega
        go_wp2_with fail
        refine (lives18_calls _).mono ?_; rintro e w10 ⟨rfl, hk10⟩
        go_wp2_with fail
        go_ret
        exact ⟨rfl, HK9.out.trans hk10⟩
    · have hE2 : (E != 0) = true := by simpa using hE
      go_wp2_with fail
      refine (lives18_calls _).mono ?_; rintro e w10 ⟨rfl, hk10⟩
      go_wp2_with fail
      go_ret
      exact ⟨rfl, HK9.out.trans hk10⟩

set_option maxRecDepth 100000 in
set_option maxHeartbeats 8000000 in
theorem law_Type2Calls_false (pc : Option Addr) (cc : Nat) (code : List Int) (pG : Option Addr) (cG : Nat) (pL : Option Addr) (cL : Nat) (G L : List (List Int)) (d nm : Int) (pd : Option Addr) (cd : Nat) (dr : List Int) (w : World) (hB : BytesC w (.slice pc code.length cc) code) (hG : IsSub w (.slice pG G.length cG) G) (hL : IsSub w (.slice pL L.length cL) L) (hI : IsInts .i64 w (.slice pd dr.length cd) dr)
    (hc : code.length ≤ 140737488355328) (hd : dr.length ≤ 140737488355328) (hbG : ∀ j, j < G.length → (G.getD j []).length ≤ 140737488355328) (hbL : ∀ j, j < L.length → (L.getD j []).length ≤ 140737488355328) (hnG : G.length ≤ 140737488355328) (hnL : L.length ≤ 140737488355328)
    (hlg : largeT code G L dr = false) (h1G : G.length ≤ 1000) (h1L : L.length ≤ 1000) :
    Calls Tryz.prog 4 #[.agg #[.slice pc code.length cc, .slice pG G.length cG, .slice pL L.length cL, .int .i64 d, .int .i64 nm, .slice pd dr.length cd], .bool false] w fun e w' => e = .returned (.bool true) ∧ Kp [] w w' := by
  obtain ⟨hcl, hdl, _, _⟩ := not_large18b hlg
  have HLA := Lib.hid (fun W (hk : Kp [] w W) => large18_calls pc cc code _ _ G L d nm pd cd dr W (hG.kp0 hk) (hL.kp0 hk) hc hd hbG hbL hnG hnL)
  rw [hlg] at HLA
  have HRUN := Lib.hid (fun W (hk : Kp [] w W) => run_calls ⟨.slice pc code.length cc, .slice pG G.length cG, .slice pL L.length cL, d, nm, .slice pd dr.length cd⟩ code G L dr W (hB.kp0 hk) (hG.kp0 hk) (hL.kp0 hk) (hI.kp hk (by simp)) (by omega))
  dsimp only at HRUN
  obtain ⟨⟨⟨O, Wd, S⟩, E⟩, hR⟩ : ∃ R, runM code G L d nm dr = R := ⟨_, rfl⟩
  rw [hR] at HRUN
  obtain ⟨N, hN⟩ : ∃ N, L.length = N := ⟨_, rfl⟩
  have HB := Lib.hid hB
  have HG := Lib.hid hG
  have HL := Lib.hid hL
  have HI := Lib.hid hI
  have HCL := Lib.hid hcl
  have HDL := Lib.hid hdl
  have HCD := Lib.hid (run_called false code G L d nm dr O Wd S)
  rw [hR] at HCD
  clear hB hG hL hI hR hbG hbL hlg hc hd hcl hdl
  obtain ⟨vs, hrd, hvs⟩ := HL.out
  have HVS := Lib.hid hvs
  have HRD := Lib.hid hrd
  have hvl : vs.length = L.length := by have := hrd.1; omega
  have HVL := Lib.hid hvl
  have HN := Lib.hid hN
  have hN1 : N ≤ 1000 := by omega
  have HONE : Hid (∀ u ∈ vs, u.oneCell' = true) := fun u hu => by
    obtain ⟨i, hi, rfl⟩ := List.mem_iff_getElem.1 hu
    have h1 := (HVS.out i (by omega)).1
    rw [List.getD_eq_getElem?_getD, List.getElem?_eq_getElem (by omega)] at h1
    rcases h1 with ⟨⟨a, h2⟩, _⟩ | ⟨g, off, c, h2, _⟩
    · have h3 : vs[i] = _ := h2
      rw [h3]; rfl
    · have h3 : vs[i] = _ := h2
      rw [h3]; rfl
  generalize hC : code.length = C at *
  generalize hD : dr.length = D at *
  generalize hNG : G.length = NG at *
  generalize hNL : L.length = NL at *
  have HC := Lib.hid hC
  have HNR := Lib.hid hNL
  have HD := Lib.hid hD
  clear hrd hvs hvl hC hD hN hNG hNL
  have x1 : (1000 < (NG : Int)) = False := by simp; omega
  go_enter Tryz.func4, Tryz.ntmps4
  go_upto_region 1 with fail
  refine wp_genT ?_; intro W1 hW1
  have hb0 : W1.heap[w.heap.size]? = some (.cells #[.slice pc C cc, .slice pG NG cG, .slice pL NL cL, .int .i64 d, .int .i64 nm, .slice pd D cd] 26 (0, 0)) := by rw [hW1]; exact heap_alloc_new w _
  have HK1 : Hid (Kp [] w W1) := by show Kp [] _ _; rw [hW1]; exact (Kp.refl _ _).alloc _
  have HB0 := Lib.hid hb0
  generalize w.heap.size = X at *
  have kf : ∀ W, Kp [] W1 W → W.cell? ⟨X, 0, none⟩ = some (.slice pc C cc) ∧ W.cell? ⟨X, 1, none⟩ = some (.slice pG NG cG) ∧ W.cell? ⟨X, 2, none⟩ = some (.slice pL NL cL) ∧ W.cell? ⟨X, 3, none⟩ = some (.int .i64 d) ∧ W.cell? ⟨X, 4, none⟩ = some (.int .i64 nm) ∧ W.cell? ⟨X, 5, none⟩ = some (.slice pd D cd) := fun W hk =>
    have hb := hk.heap HB0.out (by simp)
    ⟨cell_of_row W X 0 _ _ _ hb, cell_of_row W X 1 _ _ _ hb, cell_of_row W X 2 _ _ _ hb, cell_of_row W X 3 _ _ _ hb, cell_of_row W X 4 _ _ _ hb, cell_of_row W X 5 _ _ _ hb⟩
  have HKF := Lib.hid kf
  obtain ⟨k0, k1, k2, k3, k4, k5⟩ := kf W1 (Kp.refl _ _)
  clear hW1 hb0 kf
  go_wp2_with fail
  refine (HLA.out W1 HK1.out).mono ?_; rintro e w2 ⟨rfl, hk2⟩
  obtain ⟨m0, m1, m2, m3, m4, m5⟩ := HKF.out w2 hk2
  have HK2 : Hid (Kp [] w w2) := HK1.out.trans hk2
  have HK12 := Lib.hid hk2
  clear k0 k1 k2 k3 k4 k5 hk2 HLA
  go_wp2_with fail
  refine (HRUN.out w2 HK2.out).mono ?_; rintro e w3 ⟨v3, rfl, ho3, hk3⟩
  obtain ⟨p3, c3, rfl⟩ := ho3.form
  have HO3 := Lib.hid ho3
  have HK3 : Hid (Kp [] W1 w3) := HK12.out.trans hk3
  clear ho3 hk3 HRUN m0 m1 m2 m3 m4 m5
  dsimp only
  generalize hOL : O.length = OL at *
  have HOL := Lib.hid hOL
  clear hOL
  go_upto_region 4 with fail
  refine wp_genT ?_; intro W4 hW4
  have hb4 : W4.heap[w3.heap.size]? = some (.cells #[.slice p3 OL c3, .int .i64 Wd, .int .i64 (S : Nat)] 31 (0, 0)) := by rw [hW4]; exact heap_alloc_new w3 _
  have hk4 : Kp [] w3 W4 := by rw [hW4]; exact (Kp.refl _ _).alloc _
  have HO4 := Lib.hid (HO3.out.kp0 hk4)
  have HK4 : Hid (Kp [] W1 W4) := HK3.out.trans hk4
  have HB4 := Lib.hid hb4
  generalize w3.heap.size = Y at *
  obtain ⟨k0, k1, k2, k3, k4, k5⟩ := HKF.out W4 HK4.out
  clear hW4 hb4 hk4 HK3 HO3
  go_upto_region 5 with fail
  refine wp_genT ?_; intro W5 hW5
  have hb5 : W5.heap[W4.heap.size]? = some (.cells #[.slice pc C cc, .slice pG NG cG, .slice pL NL cL, .int .i64 d, .int .i64 nm, .slice pd D cd] 26 (0, 0)) := by rw [hW5]; exact heap_alloc_new W4 _
  have hk5 : Kp [] W4 W5 := by rw [hW5]; exact (Kp.refl _ _).alloc _
  have hsz5 : W5.heap.size = W4.heap.size + 1 := by rw [hW5]; simp
  have HK45 := Lib.hid hk5
  have HZ4 : Hid (W4.heap.size ≤ W4.heap.size) := Nat.le_refl _
  have HK5 : Hid (Kp [] W1 W5) := HK4.out.trans hk5
  have HKW5 : Hid (Kp [] w W5) := HK1.out.trans HK5.out
  have HB5 := Lib.hid hb5
  have HKZ : Hid (W1.heap.size ≤ W4.heap.size) := HK4.out.size
  obtain ⟨Z, hZ⟩ : ∃ Z, W4.heap.size = Z := ⟨_, rfl⟩
  rw [hZ] at HB5 HKZ hsz5 hb5 ⊢
  replace HZ4 : Hid (W4.heap.size ≤ Z) := by show _ ≤ _; omega
  clear hW5 hb5 hk5 hZ k0 k1 k2 k3 k4 k5
  obtain ⟨k0, k1, k2, k3, k4, k5⟩ := HKF.out W5 HK5.out
  go_upto_region 10 with fail
  have hZ5 : Z < W5.heap.size := by omega
  have HS9 : Hid (∀ w', Kp [] W5 w' → (w'.cell? ⟨X, 2, none⟩ = some (.slice pL NL cL) ∧ w'.cell? ⟨X, 0, none⟩ = some (.slice pc C cc))) := fun w' hk => by
    obtain ⟨k0, k1, k2, k3, k4, k5⟩ := HKF.out w' (HK5.out.trans hk)
    exact ⟨k2, k0⟩
  have HZ1 : Hid (W1.heap.size ≤ Z) := by show _ ≤ _; have := HKZ.out; omega
  have HS9z : Hid (∀ w' u, Kp [] W5 w' → ((w'.setCell ⟨Z, 2, none⟩ u).cell? ⟨X, 2, none⟩ = some (.slice pL NL cL) ∧ (w'.setCell ⟨Z, 2, none⟩ u).cell? ⟨X, 0, none⟩ = some (.slice pc C cc))) := fun w' u hk => by
    obtain ⟨k0, k1, k2, k3, k4, k5⟩ := HKF.out _ ((HK5.out.trans hk).setCell (p := ⟨Z, 2, none⟩) (.inr HZ1.out) u)
    exact ⟨k2, k0⟩
  have HSZ5 := Lib.hid hsz5
  clear hsz5
  clear k1 k2 k3 k4 k5 k0
  obtain ⟨e1, e0⟩ := HS9.out W5 (Kp.refl _ _)
  go_region_held3 (fun w' => w'.cell? ⟨X, 2, none⟩ = some (.slice pL NL cL) ∧ w'.cell? ⟨X, 0, none⟩ = some (.slice pc C cc)) (first | go_keep | (refine HS9.out _ ?_; ((repeat (first | exact Kp.refl _ _ | assumption | refine Kp.drew ?_ | refine Kp.drewN ?_ _ | refine Kp.alloc ?_ _)); done)) | exact HS9z.out _ _ hA7)
    ((first
      | (refine step_appS (w := (W5.alloc (.cells #[] 22)).drew) (by rfl) (.tmp 50) (.tmp 52) 23 (by rfl) W5.heap.size 22 (.slice none 0 0) 1 24 Tryz.underlying23 infoBy rfl (by decide) (by decide) (.slice (some ⟨W5.heap.size, 0, none⟩) 0 0) 0 [] (by rfl) (own_emptyA W5 _ _) (.slice pL NL cL) NL vs (by rfl) (HRD.out.kp (S := []) (HKW5.out.trans (by ((repeat (first | exact Kp.refl _ _ | assumption | refine Kp.drew ?_ | refine Kp.drewN ?_ _ | refine Kp.alloc ?_ _)); done))) (by simp)) HONE.out (by omega) (by simp; try omega) ?_
         intro v6 w6 hown6 hgr6
         rw [Nat.zero_add, List.nil_append] at hown6
         obtain ⟨p6, c6, rfl⟩ := slice_own hown6
         have hA6 : Kp [] W5 w6 := Kp.grown (by ((repeat (first | exact Kp.refl _ _ | assumption | refine Kp.drew ?_ | refine Kp.drewN ?_ _ | refine Kp.alloc ?_ _)); done)) hgr6 (fun k hk => .inr (by simp [Value.ownBlock] at hk; omega))
         skip)
      | (refine step_appS (w := w6.alloc (.cells #[.slice pc C cc] 22)) (by rfl) (.tmp 53) (.tmp 56) 23 (by rfl) W5.heap.size 22 (.slice none 0 0) 1 24 Tryz.underlying23 infoBy rfl (by decide) (by decide) (.slice p6 NL c6) NL vs (by rfl) (hown6.alloc _) (.slice (some ⟨w6.heap.size, 0, none⟩) 1 1) 1 [.slice pc C cc] (by rfl) (Reads.made _ _ 1 1 [.slice pc C cc] _ rfl rfl (by decide)) (by intro u hu; simp at hu; subst hu; rfl) (by omega) (by have := hA6.size; simp; omega) ?_
         intro v7 w7 hown7 hgr7
         have hA7 : Kp [] W5 w7 := Kp.grown (hA6.alloc _) hgr7 (fun k hk => .inr (own_ge hown6 k hk))
         obtain ⟨p7, c7, rfl⟩ := slice_own hown7
         have q1 := cell_of_row w7 Z 2 _ _ _ (hA7.heap HB5.out (by simp))
         replace q1 : w7.cell? ⟨Z, 2, none⟩ = some (.slice pL NL cL) := q1
         have q2 := frozen_of_row w7 Z 2 _ _ (hA7.heap HB5.out (by simp)))
      | (refine step_appS (w := ((W5.alloc (.cells #[.slice pc C cc] 22)).alloc (.cells #[] 22)).drew) (by rfl) (.tmp 50) (.tmp 52) 23 (by rfl) W5.heap.size 22 (.slice none 0 0) 1 24 Tryz.underlying23 infoBy rfl (by decide) (by decide) (.slice (some ⟨W5.heap.size + 1, 0, none⟩) 0 0) 0 [] (by rfl) (own_emptyC W5 _ _ _) (.slice pL NL cL) NL vs (by rfl) (HRD.out.kp (S := []) (HKW5.out.trans (by ((repeat (first | exact Kp.refl _ _ | assumption | refine Kp.drew ?_ | refine Kp.drewN ?_ _ | refine Kp.alloc ?_ _)); done))) (by simp)) HONE.out (by omega) (by simp; try omega) ?_
         intro v6 w6 hown6 hgr6
         rw [Nat.zero_add, List.nil_append] at hown6
         obtain ⟨p6, c6, rfl⟩ := slice_own hown6
         have hA6 : Kp [] W5 w6 := Kp.grown (by ((repeat (first | exact Kp.refl _ _ | assumption | refine Kp.drew ?_ | refine Kp.drewN ?_ _ | refine Kp.alloc ?_ _)); done)) hgr6 (fun k hk => .inr (by simp [Value.ownBlock] at hk; omega))
         have hB6 := (Kp.grown (S := [W5.heap.size + 1]) (Kp.refl _ _) hgr6 (fun k hk => .inl (by simp [Value.ownBlock] at hk; simp [hk]))).cell (a := ⟨W5.heap.size, 0, none⟩) (v := .slice pc C cc) (litB W5 _ _) (by simp))
      | (refine step_appS (w := w6) (by rfl) (.tmp 53) (.tmp 56) 23 (by rfl) W5.heap.size 22 (.slice none 0 0) 1 24 Tryz.underlying23 infoBy rfl (by decide) (by decide) (.slice p6 NL c6) NL vs (by rfl) hown6 (.slice (some ⟨W5.heap.size, 0, none⟩) 1 1) 1 [.slice pc C cc] (by rfl) (reads_oneT hB6) (by intro u hu; simp at hu; subst hu; rfl) (by omega) hA6.size ?_
         intro v7 w7 hown7 hgr7
         have hA7 : Kp [] W5 w7 := Kp.grown hA6 hgr7 (fun k hk => .inr (own_ge hown6 k hk))
         obtain ⟨p7, c7, rfl⟩ := slice_own hown7
         have q1 := cell_of_row w7 Z 2 _ _ _ (hA7.heap HB5.out (by simp))
         replace q1 : w7.cell? ⟨Z, 2, none⟩ = some (.slice pL NL cL) := q1
         have q2 := frozen_of_row w7 Z 2 _ _ (hA7.heap HB5.out (by simp)))
      | (refine step_appS (w := ((W5.alloc (.cells #[] 22)).alloc (.cells #[.slice pc C cc] 22)).drew) (by rfl) (.tmp 50) (.tmp 52) 23 (by rfl) W5.heap.size 22 (.slice none 0 0) 1 24 Tryz.underlying23 infoBy rfl (by decide) (by decide) (.slice (some ⟨W5.heap.size, 0, none⟩) 0 0) 0 [] (by rfl) (own_emptyD W5 _ _ _) (.slice pL NL cL) NL vs (by rfl) (HRD.out.kp (S := []) (HKW5.out.trans (by ((repeat (first | exact Kp.refl _ _ | assumption | refine Kp.drew ?_ | refine Kp.drewN ?_ _ | refine Kp.alloc ?_ _)); done))) (by simp)) HONE.out (by omega) (by simp; try omega) ?_
         intro v6 w6 hown6 hgr6
         rw [Nat.zero_add, List.nil_append] at hown6
         obtain ⟨p6, c6, rfl⟩ := slice_own hown6
         have hA6 : Kp [] W5 w6 := Kp.grown (by ((repeat (first | exact Kp.refl _ _ | assumption | refine Kp.drew ?_ | refine Kp.drewN ?_ _ | refine Kp.alloc ?_ _)); done)) hgr6 (fun k hk => .inr (by simp [Value.ownBlock] at hk; omega))
         have hB6 := (Kp.grown (S := [W5.heap.size]) (Kp.refl _ _) hgr6 (fun k hk => .inl (by simp [Value.ownBlock] at hk; simp [hk]))).cell (a := ⟨W5.heap.size + 1, 0, none⟩) (v := .slice pc C cc) (litD W5 _ _) (by simp))
      | (refine step_appS (w := w6) (by rfl) (.tmp 53) (.tmp 56) 23 (by rfl) W5.heap.size 22 (.slice none 0 0) 1 24 Tryz.underlying23 infoBy rfl (by decide) (by decide) (.slice p6 NL c6) NL vs (by rfl) hown6 (.slice (some ⟨W5.heap.size + 1, 0, none⟩) 1 1) 1 [.slice pc C cc] (by rfl) (reads_oneT hB6) (by intro u hu; simp at hu; subst hu; rfl) (by omega) hA6.size ?_
         intro v7 w7 hown7 hgr7
         have hA7 : Kp [] W5 w7 := Kp.grown hA6 hgr7 (fun k hk => .inr (own_ge hown6 k hk))
         obtain ⟨p7, c7, rfl⟩ := slice_own hown7
         have q1 := cell_of_row w7 Z 2 _ _ _ (hA7.heap HB5.out (by simp))
         replace q1 : w7.cell? ⟨Z, 2, none⟩ = some (.slice pL NL cL) := q1
         have q2 := frozen_of_row w7 Z 2 _ _ (hA7.heap HB5.out (by simp)))
      | fail))
  all_goals
    go_upto_region 11 with fail
    refine wp_genT ?_; intro W9 hW9
    have hK49 : Kp [] W4 W9 := by rw [hW9]; exact (HK45.out.trans hA7).setCell (.inr HZ4.out) _
    have HK9 : Hid (Kp [] w W9) := HK1.out.trans (HK4.out.trans hK49)
    have HB9 : Hid (W9.heap[Z]? = some (.cells #[.slice pc C cc, .slice pG NG cG, .slice p7 (NL + 1) c7, .int .i64 d, .int .i64 nm, .slice pd D cd] 26 (0, 0))) := by show _ = _; rw [hW9]; exact heap_setCell_same w7 Z 2 _ _ _ (hA7.heap HB5.out (by simp))
    have HY9 : Hid (W9.heap[Y]? = some (.cells #[.slice p3 OL c3, .int .i64 Wd, .int .i64 (S : Nat)] 31 (0, 0))) := hK49.heap HB4.out (by simp)
    have HO9 : Hid (IsOut W9 (.slice p3 OL c3) O) := HO4.out.kp0 hK49
    have hw7 : W9.ownsRow W5.heap.size 22 1 (.slice p7 (NL + 1) c7) (NL + 1) (vs ++ [.slice pc C cc]) := by
      have h1 : Kp [Z] w7 W9 := by rw [hW9]; exact (Kp.refl _ _).setCell (.inl (by simp)) _
      refine h1.row hown7 (fun s hs e => ?_)
      simp only [List.mem_singleton] at hs
      subst hs
      have h2 := own_ge hown7 s e
      have h3 := HSZ5.out
      omega
    have HSUB : Hid (IsSub W9 (.slice p7 (NL + 1) c7) (L ++ [code])) := sub_snoc HNR.out HVL.out HVS.out HB.out HK9.out hw7
    have HK49 := Lib.hid hK49
    have HW7 := Lib.hid hw7
    have HNL1 : Hid (NL ≤ 1000) := h1L
    have HYC : Hid (∀ W, Kp [] W9 W → W.cell? ⟨Y, 0, none⟩ = some (.slice p3 OL c3) ∧ W.cell? ⟨Y, 1, none⟩ = some (.int .i64 Wd) ∧ W.cell? ⟨Y, 2, none⟩ = some (.int .i64 (S : Nat))) := fun W hk =>
      have hb := hk.heap HY9.out (by simp)
      ⟨cell_of_row W Y 0 _ _ _ hb, cell_of_row W Y 1 _ _ _ hb, cell_of_row W Y 2 _ _ _ hb⟩
    obtain ⟨y0, y1, y2⟩ := HYC.out W9 (Kp.refl _ _)
    have hb1 : biasM (NL : Int) = 107 := by unfold biasM; exact if_pos (by omega)
    have hb2 : biasM ((NL : Int) + 1) = 107 := by unfold biasM; exact if_pos (by omega)
    have hwn : IntKind.i64.wrap ((NL : Int) + 1) = (NL : Int) + 1 := by rw [IntKind.wrap_i64]; omega
    clear hW9 hK49 hw7 hown7 hgr7 hA7 hA6 hown6 hgr6 q1 q2 e0 e1 hZ5
    go_wp2_with fail
    refine (rbias_calls _ _).mono ?_; rintro e wb ⟨rfl, rfl⟩
    rw [hb1]
    go_wp2_with fail
    refine (rbias_calls _ _).mono ?_; rintro e wb ⟨rfl, rfl⟩
    rw [hb2]
    by_cases hE : E = 0
    · subst hE
      by_cases hS : S ≤ 19998
      · have hs1 : decide (19998 < (S : Int)) = false := by simp; omega
        go_wp2_with fail
        refine (rbias_calls _ _).mono ?_; rintro e wb ⟨rfl, rfl⟩
        rw [hb2]
        have hwx : IntKind.i64.wrap ((NL : Int) - 107) = (NL : Int) - 107 := by rw [IntKind.wrap_i64]; omega
        have z0 : W9.cell? ⟨Z, 0, none⟩ = some (.slice pc C cc) := cell_of_row W9 Z 0 _ _ _ HB9.out
        have z1 : ∀ o, (W9.alloc o).cell? ⟨Z, 0, none⟩ = some (.slice pc C cc) := fun o => ((Kp.refl [] W9).alloc o).cell z0 (by simp)
        have z2 : ∀ o, (W9.alloc o).frozen? ⟨Z, 0, none⟩ = false := fun o => frozen_of_row _ Z 0 _ _ (((Kp.refl [] W9).alloc o).heap HB9.out (by simp))
        go_upto_region 15 with fail
        refine wp_genT ?_; intro W15 hW15
        have hKz : Kp [Z] (W9.alloc (.cells #[.int .u8 28, .int .u8 (((NL : Int) - 107) / 256 % 256), .int .u8 (((NL : Int) - 107) % 256), .int .u8 10] 5)) W15 := by rw [hW15]; exact (Kp.refl _ _).setCell (.inl (by simp)) _
        have hK15 : Kp [] W4 W15 := by rw [hW15]; exact (HK49.out.alloc _).setCell (.inr HZ4.out) _
        have HKW : Hid (Kp [] w W15) := HK1.out.trans (HK4.out.trans hK15)
        have hZ9 : Z < W9.heap.size := lt_of_block HB9.out
        have hb15 : W15.heap[Z]? = some (.cells #[.slice (some ⟨W9.heap.size, 0, none⟩) 4 4, .slice pG NG cG, .slice p7 (NL + 1) c7, .int .i64 d, .int .i64 nm, .slice pd D cd] 26 (0, 0)) := by rw [hW15]; exact heap_setCell_same _ Z 0 _ _ _ (((Kp.refl [] W9).alloc _).heap HB9.out (by simp))
        have HBC : Hid (BytesC W15 (.slice (some ⟨W9.heap.size, 0, none⟩) 4 4) (callZ ((NL : Int) - 107) 10)) := by
          obtain ⟨b1, b2, b3⟩ := bytes_made W9 (callZ ((NL : Int) - 107) 10) 4 #[.int .u8 28, .int .u8 (((NL : Int) - 107) / 256 % 256), .int .u8 (((NL : Int) - 107) % 256), .int .u8 10] rfl (by decide) rfl (by
            intro c hc
            unfold callZ at hc
            simp only [List.mem_cons, List.not_mem_nil, or_false] at hc
            omega)
          refine ⟨b1.kp hKz (fun s hs e => ?_), b2, fun b e => Nat.lt_of_lt_of_le (b3 b e) hKz.size⟩
          simp only [List.mem_singleton] at hs
          subst hs
          obtain ⟨_, e2⟩ := (blockOf_some _ _ _ _ _ _).1 e
          omega
        have HSUB15 : Hid (IsSub W15 (.slice p7 (NL + 1) c7) (L ++ [code])) := by
          refine sub_snoc HNR.out HVL.out HVS.out HB.out HKW.out (base := W5.heap.size) (e := 22) ?_
          refine hKz.row ((((Kp.refl [] W9).alloc _)).row HW7.out (by simp)) (fun s hs e => ?_)
          simp only [List.mem_singleton] at hs
          subst hs
          have h2 := own_ge HW7.out s e
          have h3 := HSZ5.out
          omega
        have HOTH : Hid (IsSub W15 (.slice pG NG cG) G) := HG.out.kp0 HKW.out
        have HDR : Hid (IsInts .i64 W15 (.slice pd D cd) dr) := HI.out.kp HKW.out (by simp)
        obtain ⟨t0, t1, t2, t3, t4, t5⟩ : W15.cell? ⟨Z, 0, none⟩ = some (.slice (some ⟨W9.heap.size, 0, none⟩) 4 4) ∧ W15.cell? ⟨Z, 1, none⟩ = some (.slice pG NG cG) ∧ W15.cell? ⟨Z, 2, none⟩ = some (.slice p7 (NL + 1) c7) ∧ W15.cell? ⟨Z, 3, none⟩ = some (.int .i64 d) ∧ W15.cell? ⟨Z, 4, none⟩ = some (.int .i64 nm) ∧ W15.cell? ⟨Z, 5, none⟩ = some (.slice pd D cd) :=
          ⟨cell_of_row W15 Z 0 _ _ _ hb15, cell_of_row W15 Z 1 _ _ _ hb15, cell_of_row W15 Z 2 _ _ _ hb15, cell_of_row W15 Z 3 _ _ _ hb15, cell_of_row W15 Z 4 _ _ _ hb15, cell_of_row W15 Z 5 _ _ _ hb15⟩
        have hz9 : Kp [] W4 W15 := hK15
        have HY15 : Hid (W15.heap[Y]? = some (.cells #[.slice p3 OL c3, .int .i64 Wd, .int .i64 (S : Nat)] 31 (0, 0))) := hK15.heap HB4.out (by simp)
        have HO15 : Hid (IsOut W15 (.slice p3 OL c3) O) := HO4.out.kp0 hK15
        have HRUN2 := Lib.hid (run_calls ⟨.slice (some ⟨W9.heap.size, 0, none⟩) 4 4, (.slice pG NG cG), (.slice p7 (NL + 1) c7), d, nm, .slice pd D cd⟩ (callZ ((NL : Int) - 107) 10) G (L ++ [code]) dr W15 HBC.out HOTH.out HSUB15.out HDR.out (by have := HD.out; have := HDL.out; omega))
        dsimp only at HRUN2
        have HOUT := Lib.hid (HCD.out (by first | trivial | rfl) hS NL (by simp) HNL1.out)
        simp only [if_true, Bool.false_eq_true, if_false] at HOUT
        generalize W9.heap.size = g9 at *
        clear hKz hK15 hz9 hb15 hW15 z0 z1 z2 hwx hwn hb1 hb2 y0 y1 y2 hZ9
        have hso : Hid ((S : Nat) + 2 ≤ 20000) := by show _ ≤ _; omega
        rcases HOUT.out with hr | hr
        · rw [hr] at HRUN2
          have hws : IntKind.i64.wrap ((S : Int) + 2) = (S : Int) + 2 := by rw [IntKind.wrap_i64]; omega
          clear hr HOUT hs1
          go_wp2_with fail
          refine HRUN2.out.mono ?_; rintro e w16 ⟨v16, rfl, ho16, hk16⟩
          obtain ⟨p16, c16, hv16⟩ := ho16.form
          rw [show O.length = OL from HOL.out] at hv16
          subst hv16
          have HO16 := Lib.hid ho16
          have HY16 := Lib.hid (hk16.heap HY15.out (by simp))
          have HO3b := Lib.hid (HO15.out.kp0 hk16)
          have HK16 : Hid (Kp [] w w16) := HKW.out.trans hk16
          clear ho16 hk16 t0 t1 t2 t3 t4 t5 HRUN2
          dsimp only
          go_upto_region 16 with fail
          refine wp_genT ?_; intro W17 hW17
          have hb17 : W17.heap[w16.heap.size]? = some (.cells #[.slice p16 OL c16, .int .i64 Wd, .int .i64 ((S : Int) + 2)] 31 (0, 0)) := by rw [hW17]; exact heap_alloc_new w16 _
          have hk17 : Kp [] w16 W17 := by rw [hW17]; exact (Kp.refl _ _).alloc _
          have HB17 := Lib.hid hb17
          have HK17 : Hid (Kp [] w W17) := HK16.out.trans hk17
          have HY17 := Lib.hid (hk17.heap HY16.out (by simp))
          have HOA := Lib.hid (HO3b.out.kp0 hk17)
          have HOB := Lib.hid (HO16.out.kp0 hk17)
          generalize w16.heap.size = V at *
          clear hW17 hb17 hk17
          go_wp2_with fail
          refine (lives18_calls _).mono ?_; rintro e w18 ⟨rfl, hk18⟩
          have hby := hk18.heap HY17.out (by simp)
          have hbv := hk18.heap HB17.out (by simp)
          have y0 : w18.cell? ⟨Y, 0, none⟩ = some (.slice p3 OL c3) := cell_of_row w18 Y 0 _ _ _ hby
          have v0 : w18.cell? ⟨V, 0, none⟩ = some (.slice p16 OL c16) := cell_of_row w18 V 0 _ _ _ hbv
          have HY18 := Lib.hid hby
          have HV18 := Lib.hid hbv
          have HSM := Lib.hid (rsame_calls _ _ O O w18 (HOB.out.kp0 hk18) (HOA.out.kp0 hk18))
          have HK18 : Hid (Kp [] w w18) := HK17.out.trans hk18
          clear hk18 hby hbv
          go_wp2_with fail
          refine HSM.out.mono ?_; rintro e w19 ⟨rfl, hk19⟩
          have hby := hk19.heap HY18.out (by simp)
          have hbv := hk19.heap HV18.out (by simp)
          have y1 : w19.cell? ⟨Y, 1, none⟩ = some (.int .i64 Wd) := cell_of_row w19 Y 1 _ _ _ hby
          have v1 : w19.cell? ⟨V, 1, none⟩ = some (.int .i64 Wd) := cell_of_row w19 V 1 _ _ _ hbv
          have y2 : w19.cell? ⟨Y, 2, none⟩ = some (.int .i64 (S : Int)) := cell_of_row w19 Y 2 _ _ _ hby
          have v2 : w19.cell? ⟨V, 2, none⟩ = some (.int .i64 ((S : Int) + 2)) := cell_of_row w19 V 2 _ _ _ hbv
          have HK19 : Hid (Kp [] w w19) := HK18.out.trans hk19
          clear hk19 hby hbv y0 v0
          rw [show decide True = true from rfl]
          go_wp2_with fail
          go_ret
          exact ⟨by simp, HK19.out⟩
        · rw [hr] at HRUN2
          clear hr HOUT hs1
          go_wp2_with fail
          refine HRUN2.out.mono ?_; rintro e w16 ⟨v16, rfl, ho16, hk16⟩
          obtain ⟨p16, c16, rfl⟩ := ho16.form
          have HK16 : Hid (Kp [] w w16) := HKW.out.trans hk16
          clear ho16 hk16 t0 t1 t2 t3 t4 t5 HRUN2
          dsimp only
          go_upto_region 16 with fail
          refine wp_genT ?_; intro W17 hW17
          have HK17 : Hid (Kp [] w W17) := by show Kp _ _ _; rw [hW17]; exact HK16.out.alloc _
          clear hW17
          go_wp2_with fail
          refine (lives18_calls _).mono ?_; rintro e w18 ⟨rfl, hk18⟩
          go_wp2_with fail
          go_ret
          exact ⟨by simp, HK17.out.trans hk18⟩
      · have hs1 : decide (19998 < (S : Int)) = true := by simp; omega
        go_wp2_with fail
        refine (lives18_calls _).mono ?_; rintro e w10 ⟨rfl, hk10⟩
        go_wp2_with fail
        go_ret
        exact ⟨rfl, HK9.out.trans hk10⟩
    · have hE2 : (E != 0) = true := by simpa using hE
      go_wp2_with fail
      refine (lives18_calls _).mono ?_; rintro e w10 ⟨rfl, hk10⟩
      go_wp2_with fail
      go_ret
      exact ⟨rfl, HK9.out.trans hk10⟩

set_option maxRecDepth 100000 in
set_option maxHeartbeats 8000000 in
theorem law_Type2Calls_early (pc : Option Addr) (cc : Nat) (code : List Int) (pG : Option Addr) (cG : Nat) (pL : Option Addr) (cL : Nat) (G L : List (List Int)) (d nm : Int) (pd : Option Addr) (cd : Nat) (dr : List Int) (g : Bool) (w : World) (hG : IsSub w (.slice pG G.length cG) G) (hL : IsSub w (.slice pL L.length cL) L)
    (hc : code.length ≤ 140737488355328) (hd : dr.length ≤ 140737488355328) (hbG : ∀ j, j < G.length → (G.getD j []).length ≤ 140737488355328) (hbL : ∀ j, j < L.length → (L.getD j []).length ≤ 140737488355328) (hnG : G.length ≤ 140737488355328) (hnL : L.length ≤ 140737488355328)
    (hlg : largeT code G L dr = true ∨ (largeT code G L dr = false ∧ 1000 < G.length) ∨ (largeT code G L dr = false ∧ G.length ≤ 1000 ∧ 1000 < L.length)) :
    Calls Tryz.prog 4 #[.agg #[.slice pc code.length cc, .slice pG G.length cG, .slice pL L.length cL, .int .i64 d, .int .i64 nm, .slice pd dr.length cd], .bool g] w fun e w' => e = .returned (.bool true) ∧ Kp [] w w' := by
  have HLA := Lib.hid (fun W (hk : Kp [] w W) => large18_calls pc cc code _ _ G L d nm pd cd dr W (hG.kp0 hk) (hL.kp0 hk) hc hd hbG hbL hnG hnL)
  generalize code.length = C at *
  generalize dr.length = D at *
  generalize G.length = NG at *
  generalize L.length = NL at *
  generalize largeT code G L dr = LT at *
  clear hG hL hbG hbL hc hd hnG hnL
  go_enter Tryz.func4, Tryz.ntmps4
  go_upto_region 1 with fail
  refine wp_genT ?_; intro W1 hW1
  have hb0 : W1.heap[w.heap.size]? = some (.cells #[.slice pc C cc, .slice pG NG cG, .slice pL NL cL, .int .i64 d, .int .i64 nm, .slice pd D cd] 26 (0, 0)) := by rw [hW1]; exact heap_alloc_new w _
  have HK1 : Hid (Kp [] w W1) := by show Kp [] _ _; rw [hW1]; exact (Kp.refl _ _).alloc _
  have HB0 := Lib.hid hb0
  generalize w.heap.size = X at *
  have kf : ∀ W, Kp [] W1 W → W.cell? ⟨X, 0, none⟩ = some (.slice pc C cc) ∧ W.cell? ⟨X, 1, none⟩ = some (.slice pG NG cG) ∧ W.cell? ⟨X, 2, none⟩ = some (.slice pL NL cL) ∧ W.cell? ⟨X, 3, none⟩ = some (.int .i64 d) ∧ W.cell? ⟨X, 4, none⟩ = some (.int .i64 nm) ∧ W.cell? ⟨X, 5, none⟩ = some (.slice pd D cd) := fun W hk =>
    have hb := hk.heap HB0.out (by simp)
    ⟨cell_of_row W X 0 _ _ _ hb, cell_of_row W X 1 _ _ _ hb, cell_of_row W X 2 _ _ _ hb, cell_of_row W X 3 _ _ _ hb, cell_of_row W X 4 _ _ _ hb, cell_of_row W X 5 _ _ _ hb⟩
  have HKF := Lib.hid kf
  obtain ⟨k0, k1, k2, k3, k4, k5⟩ := kf W1 (Kp.refl _ _)
  clear hW1 hb0 kf
  rcases hlg with rfl | ⟨rfl, h1⟩ | ⟨rfl, h1, h2⟩
  all_goals
    go_wp2_with fail
    refine (HLA.out W1 HK1.out).mono ?_; rintro e w2 ⟨rfl, hk2⟩
    obtain ⟨m0, m1, m2, m3, m4, m5⟩ := HKF.out w2 hk2
    have HK2 : Hid (Kp [] w w2) := HK1.out.trans hk2
    clear k0 k1 k2 k3 k4 k5 hk2 HLA
    go_wp2_with fail
    refine (lives18_calls w2).mono ?_; rintro e w3 ⟨rfl, hk3⟩
    go_wp2_with fail
    go_ret
    exact ⟨rfl, HK2.out.trans hk3⟩
theorem law_Type2Calls (pc : Option Addr) (cc : Nat) (code : List Int) (gv lv : Value) (G L : List (List Int)) (d nm : Int) (pd : Option Addr) (cd : Nat) (dr : List Int) (g : Bool) (w : World) (hB : BytesC w (.slice pc code.length cc) code) (hG : IsSub w gv G) (hL : IsSub w lv L) (hI : IsInts .i64 w (.slice pd dr.length cd) dr)
    (hc : code.length ≤ 140737488355328) (hd : dr.length ≤ 140737488355328) (hbG : ∀ j, j < G.length → (G.getD j []).length ≤ 140737488355328) (hbL : ∀ j, j < L.length → (L.getD j []).length ≤ 140737488355328) (hnG : G.length ≤ 140737488355328) (hnL : L.length ≤ 140737488355328) :
    Calls Tryz.prog 4 #[.agg #[.slice pc code.length cc, gv, lv, .int .i64 d, .int .i64 nm, .slice pd dr.length cd], .bool g] w fun e w' => e = .returned (.bool true) ∧ Kp [] w w' := by
  obtain ⟨pG, cG, rfl⟩ := hG.form
  obtain ⟨pL, cL, rfl⟩ := hL.form
  cases hlg : largeT code G L dr with
  | true => exact law_Type2Calls_early pc cc code pG cG pL cL G L d nm pd cd dr g w hG hL hc hd hbG hbL hnG hnL (.inl hlg)
  | false =>
    by_cases h1 : 1000 < G.length
    · exact law_Type2Calls_early pc cc code pG cG pL cL G L d nm pd cd dr g w hG hL hc hd hbG hbL hnG hnL (.inr (.inl ⟨hlg, h1⟩))
    · by_cases h2 : 1000 < L.length
      · exact law_Type2Calls_early pc cc code pG cG pL cL G L d nm pd cd dr g w hG hL hc hd hbG hbL hnG hnL (.inr (.inr ⟨hlg, by omega, h2⟩))
      · cases g with
        | true => exact law_Type2Calls_true pc cc code pG cG pL cL G L d nm pd cd dr w hB hG hL hI hc hd hbG hbL hnG hnL hlg (by omega) (by omega)
        | false => exact law_Type2Calls_false pc cc code pG cG pL cL G L d nm pd cd dr w hB hG hL hI hc hd hbG hbL hnG hnL hlg (by omega) (by omega)
end Go.Proofs.YtfgpocpfapnkkaaGreat

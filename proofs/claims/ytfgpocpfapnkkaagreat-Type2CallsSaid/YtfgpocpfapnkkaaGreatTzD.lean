/- type2: the law Type2Draws. -/
import Derived.Test.YtfgpocpfapnkkaaGreatTzC
namespace Go.Proofs.YtfgpocpfapnkkaaGreat
open Go.RowKit
set_option linter.unusedVariables false
set_option linter.unusedSimpArgs false
theorem not_large18 {code dr : List Int} {G L : List (List Int)} (h : largeT code G L dr = false) : dr.length ≤ 50000 := by
  unfold largeT at h
  simp only [Bool.or_eq_false_iff, decide_eq_false_iff_not] at h
  omega
theorem check_tiny {o : List (List Pn)} (h : checkO o = 0) : tinyO o ∧ cnt o ≤ 4611686018427387904 := by
  unfold checkO at h
  split at h
  · omega
  · rename_i h1
    refine ⟨fun j hj => ?_, by omega⟩
    have h2 := cntTo_le o (j := j + 1) (by omega)
    rw [cntTo] at h2
    omega
set_option maxRecDepth 100000 in
set_option maxHeartbeats 8000000 in
theorem law_Type2Draws (pc : Option Addr) (cc : Nat) (code : List Int) (gv lv : Value) (G L : List (List Int)) (d nm : Int) (pd : Option Addr) (cd : Nat) (dr : List Int) (w : World) (hB : BytesC w (.slice pc code.length cc) code) (hG : IsSub w gv G) (hL : IsSub w lv L) (hI : IsInts .i64 w (.slice pd dr.length cd) dr)
    (hc : code.length ≤ 140737488355328) (hd : dr.length ≤ 140737488355328) (hbG : ∀ j, j < G.length → (G.getD j []).length ≤ 140737488355328) (hbL : ∀ j, j < L.length → (L.getD j []).length ≤ 140737488355328) (hnG : G.length ≤ 140737488355328) (hnL : L.length ≤ 140737488355328) :
    Calls Tryz.prog 3 #[.agg #[.slice pc code.length cc, gv, lv, .int .i64 d, .int .i64 nm, .slice pd dr.length cd]] w fun e w' => e = .returned (.bool true) ∧ Kp [] w w' := by
  have HLA := Lib.hid (fun W (hk : Kp [] w W) => large18_calls pc cc code gv lv G L d nm pd cd dr W (hG.kp0 hk) (hL.kp0 hk) hc hd hbG hbL hnG hnL)
  have HRUN := Lib.hid (fun W (hk : Kp [] w W) (hs : dr.length ≤ 1000000000) => run_calls ⟨.slice pc code.length cc, gv, lv, d, nm, .slice pd dr.length cd⟩ code G L dr W ⟨hB.1.kp hk (by simp), hB.2.1, fun b e => Nat.lt_of_lt_of_le (hB.2.2 b e) hk.size⟩ (hG.kp0 hk) (hL.kp0 hk) (hI.kp hk (by simp)) hs)
  obtain ⟨pG, cG, rfl⟩ := hG.form
  obtain ⟨pL, cL, rfl⟩ := hL.form
  dsimp only at HRUN
  obtain ⟨⟨⟨O, Wd, S⟩, E⟩, hR⟩ : ∃ R, runM code G L d nm dr = R := ⟨_, rfl⟩
  have HRD := Lib.hid (run_draws code G L d nm dr O Wd S E hR)
  rw [hR] at HRUN
  have HNL : Hid (largeT code G L dr = false → dr.length ≤ 1000000000) := fun h => by have := not_large18 h; omega
  cases hlg : largeT code G L dr with
  | true =>
    rw [hlg] at HLA
    generalize code.length = C at *
    generalize dr.length = D at *
    generalize G.length = NG at *
    generalize L.length = NL at *
    clear hB hG hL hI hR HRD HRUN hbG hbL HNL hlg
    go_enter Tryz.func3, Tryz.ntmps3
    go_upto_region 1 with fail
    refine wp_genT ?_; intro W1 hW1
    have hb0 : W1.heap[w.heap.size]? = some (.cells #[.slice pc C cc, .slice pG NG cG, .slice pL NL cL, .int .i64 d, .int .i64 nm, .slice pd D cd] 26 (0, 0)) := by rw [hW1]; exact heap_alloc_new w _
    have HK1 : Hid (Kp [] w W1) := by show Kp [] _ _; rw [hW1]; exact (Kp.refl _ _).alloc _
    generalize w.heap.size = X at *
    have k0 : W1.cell? ⟨X, 0, none⟩ = some (.slice pc C cc) := cell_of_row W1 X 0 _ _ _ hb0
    have k1 : W1.cell? ⟨X, 1, none⟩ = some (.slice pG NG cG) := cell_of_row W1 X 1 _ _ _ hb0
    have k2 : W1.cell? ⟨X, 2, none⟩ = some (.slice pL NL cL) := cell_of_row W1 X 2 _ _ _ hb0
    have k3 : W1.cell? ⟨X, 3, none⟩ = some (.int .i64 d) := cell_of_row W1 X 3 _ _ _ hb0
    have k4 : W1.cell? ⟨X, 4, none⟩ = some (.int .i64 nm) := cell_of_row W1 X 4 _ _ _ hb0
    have k5 : W1.cell? ⟨X, 5, none⟩ = some (.slice pd D cd) := cell_of_row W1 X 5 _ _ _ hb0
    clear hW1 hb0
    go_wp2_with fail
    refine (HLA.out W1 HK1.out).mono ?_; rintro e w2 ⟨rfl, hk2⟩
    go_wp2_with fail
    refine (lives18_calls w2).mono ?_; rintro e w3 ⟨rfl, hk3⟩
    go_wp2_with fail
    go_ret
    exact ⟨rfl, HK1.out.trans (hk2.trans hk3)⟩
  | false =>
    rw [hlg] at HLA
    have hds := HNL.out hlg
    generalize code.length = C at *
    generalize dr.length = D at *
    generalize G.length = NG at *
    generalize L.length = NL at *
    clear hB hG hL hI hR hbG hbL HNL hlg
    go_enter Tryz.func3, Tryz.ntmps3
    go_upto_region 1 with fail
    refine wp_genT ?_; intro W1 hW1
    have hb0 : W1.heap[w.heap.size]? = some (.cells #[.slice pc C cc, .slice pG NG cG, .slice pL NL cL, .int .i64 d, .int .i64 nm, .slice pd D cd] 26 (0, 0)) := by rw [hW1]; exact heap_alloc_new w _
    have HK1 : Hid (Kp [] w W1) := by show Kp [] _ _; rw [hW1]; exact (Kp.refl _ _).alloc _
    have HB0 := Lib.hid hb0
    generalize w.heap.size = X at *
    have kf : ∀ W, Kp [] W1 W → W.cell? ⟨X, 0, none⟩ = some (.slice pc C cc) ∧ W.cell? ⟨X, 1, none⟩ = some (.slice pG NG cG) ∧ W.cell? ⟨X, 2, none⟩ = some (.slice pL NL cL) ∧ W.cell? ⟨X, 3, none⟩ = some (.int .i64 d) ∧ W.cell? ⟨X, 4, none⟩ = some (.int .i64 nm) ∧ W.cell? ⟨X, 5, none⟩ = some (.slice pd D cd) := fun W hk =>
      have hb := hk.heap HB0.out (by simp)
      ⟨cell_of_row W X 0 _ _ _ hb, cell_of_row W X 1 _ _ _ hb, cell_of_row W X 2 _ _ _ hb, cell_of_row W X 3 _ _ _ hb, cell_of_row W X 4 _ _ _ hb, cell_of_row W X 5 _ _ _ hb⟩
    have HKF := Lib.hid kf
    obtain ⟨k0, k1, k2, k3, k4, k5⟩ := kf W1 (Kp.refl _ _)
    clear hW1 hb0 kf
    go_wp2_with fail
    refine (HLA.out W1 HK1.out).mono ?_; rintro e w2 ⟨rfl, hk2⟩
    obtain ⟨m0, m1, m2, m3, m4, m5⟩ := HKF.out w2 hk2
    have HK2 : Hid (Kp [] w w2) := HK1.out.trans hk2
    clear k0 k1 k2 k3 k4 k5 hk2 HLA
    go_wp2_with fail
    refine (HRUN.out w2 HK2.out hds).mono ?_; rintro e w3 ⟨v3, rfl, ho3, hk3⟩
    obtain ⟨p3, c3, rfl⟩ := ho3.form
    have HO3 := Lib.hid ho3
    have HK3 : Hid (Kp [] w w3) := HK2.out.trans hk3
    clear ho3 hk3 HRUN m0 m1 m2 m3 m4 m5 HKF
    dsimp only
    go_upto_region 4 with fail
    refine wp_genT ?_; intro W4 hW4
    have hb4 : W4.heap[w3.heap.size]? = some (.cells #[.slice p3 O.length c3, .int .i64 Wd, .int .i64 (S : Nat)] 31 (0, 0)) := by rw [hW4]; exact heap_alloc_new w3 _
    have hk4 : Kp [] w3 W4 := by rw [hW4]; exact (Kp.refl _ _).alloc _
    have HO4 := Lib.hid (HO3.out.kp0 hk4)
    have HK4 : Hid (Kp [] w W4) := HK3.out.trans hk4
    have HB4 := Lib.hid hb4
    generalize w3.heap.size = Y at *
    clear hW4 hb4 hk4
    rcases HRD.out with ⟨hE, rfl, rfl, rfl⟩ | ⟨rfl, hck, hs1, hs2, hall⟩
    · have hb : (E != 0) = true := by simpa using hE
      clear HRD hE
      go_wp2_with fail
      refine (lives18_calls W4).mono ?_; rintro e w5 ⟨rfl, hk5⟩
      have HK5 := Lib.hid hk5
      clear hk5
      go_wp2_with fail
      refine (lives18_calls w5).mono ?_; rintro e w6 ⟨rfl, hk6⟩
      have HK6 : Hid (Kp [] W4 w6) := HK5.out.trans hk6
      have b0 : w6.cell? ⟨Y, 0, none⟩ = some (.slice p3 0 c3) := cell_of_row w6 Y 0 _ _ _ (HK6.out.heap HB4.out (by simp))
      have b1 : w6.cell? ⟨Y, 1, none⟩ = some (.int .i64 0) := cell_of_row w6 Y 1 _ _ _ (HK6.out.heap HB4.out (by simp))
      have b2 : w6.cell? ⟨Y, 2, none⟩ = some (.int .i64 0) := cell_of_row w6 Y 2 _ _ _ (HK6.out.heap HB4.out (by simp))
      clear hk6
      go_wp2_with fail
      refine (dsame_calls (.slice p3 0 c3) (.slice none 0 0) [] [] 0 0 0 0 w6 (HO4.out.kp0 HK6.out) (IsOut.nil _ _)).mono ?_; rintro e w8 ⟨rfl, hk8⟩
      go_wp2_with fail
      go_ret
      exact ⟨by simp, HK4.out.trans (HK6.out.trans hk8)⟩
    · obtain ⟨N, hN⟩ : ∃ N, O.length = N := ⟨_, rfl⟩
      have HN := Lib.hid hN
      rw [hN] at HO4 HB4 ⊢
      have HALL := Lib.hid hall
      have HTI := Lib.hid (check_tiny hck)
      have HCK := Lib.hid (fun va W (h : IsOut W va O) => rcheck_calls va O W h HTI.out.1 HTI.out.2)
      rw [hck] at HCK
      have hNle := HO4.out.le
      rw [hN] at hNle
      unfold maxLen at hNle
      clear HRD hN hall hck
      go_wp2_with fail
      refine (lives18_calls W4).mono ?_; rintro e w5 ⟨rfl, hk5⟩
      have HK5 : Hid (Kp [] w w5) := HK4.out.trans hk5
      have HO5 := Lib.hid (HO4.out.kp0 hk5)
      have hb5 := hk5.heap HB4.out (by simp)
      have HB5 := Lib.hid hb5
      have b0 : w5.cell? ⟨Y, 0, none⟩ = some (.slice p3 N c3) := cell_of_row w5 Y 0 _ _ _ hb5
      clear hk5 hb5 HO4 HB4 HK4
      go_wp2_with fail
      go_loopw [5] (fun iv wr => ∃ i : Nat, i ≤ N ∧ iv = .int .i64 i ∧ wr = w5) (fun iv _ => N - (intOf iv).toNat)
      case atStart => exact ⟨0, by omega, rfl, rfl⟩
      case round =>
        obtain ⟨i, hi, rfl, rfl⟩ := hrel
        by_cases hlt : i < N
        · obtain ⟨g1, o1, c1, p1, cv, e1, _, _, h1, hp⟩ := HO5.out.row (i := i) (by rw [HN.out]; exact hlt)
          rw [HN.out] at e1
          obtain ⟨rfl, rfl⟩ : p3 = some ⟨g1, o1, none⟩ ∧ c3 = c1 := by simpa using e1
          obtain ⟨C, hC⟩ : ∃ C, O.getD i [] = C := ⟨_, rfl⟩
          rw [hC] at h1 hp
          have hmem : C ∈ O := by rw [← hC, List.getD_eq_getElem?_getD, List.getElem?_eq_getElem (by rw [HN.out]; exact hlt)]; exact List.getElem_mem _
          obtain ⟨a1, a2, a3⟩ := HALL.out C hmem
          obtain ⟨g2, f2, c2, e2, _, _, _, _, hk0⟩ := hp.row (i := 0) (by omega)
          obtain ⟨rfl, rfl⟩ : p1 = some ⟨g2, f2, none⟩ ∧ cv = c2 := by simpa using e2
          rw [a2] at hk0
          have hk0' : wr.cell? ⟨g2, f2 + 2, none⟩ = some (.int .i64 1) := by simpa using hk0
          have HKC : Hid (∀ k, k < C.length → ∃ x, wr.cell? ⟨g2, f2 + k * 3 + 2, none⟩ = some (.int .i64 x) ∧ (x == 2) = false) := fun k hk => by
            obtain ⟨g9, f9, c9, e9, _, _, _, _, hkk⟩ := hp.row (i := k) hk
            obtain ⟨⟨rfl, rfl⟩, -⟩ : (g2 = g9 ∧ f2 = f9) ∧ cv = c9 := by simpa using e9
            exact ⟨_, hkk, by rw [beq_eq_false_iff_ne]; exact a3 _ (by rw [List.getD_eq_getElem?_getD, List.getElem?_eq_getElem hk]; exact List.getElem_mem _)⟩
          obtain ⟨m, hm⟩ : ∃ m, C.length = m := ⟨_, rfl⟩
          have hm9 := hp.le
          rw [hm] at h1 HKC a1 hm9
          unfold maxLen at hm9
          clear e1 e2 hp hk0 hC hmem a2 a3 hm
          go_wp2_with fail
          go_loopw [6] (fun kv wq => ∃ k : Nat, k ≤ m ∧ kv = .int .i64 k ∧ wq = wr) (fun kv _ => m - (intOf kv).toNat)
          case atStart => exact ⟨0, by omega, rfl, rfl⟩
          case round =>
            obtain ⟨k, hk, rfl, rfl⟩ := hrel
            by_cases hltk : k < m
            · obtain ⟨x, hx1, hx2⟩ := HKC.out k hltk
              go_wp2_with fail
              go_roundw
              case rel => first | exact ⟨k + 1, by omega, int_eq' (by omega), by first | rfl | trivial⟩ | ((repeat apply Exists.intro); exact ⟨⟨k + 1, by omega, int_eq' (by omega), by first | rfl | trivial⟩, rfl⟩)
              case measure => simp [intOf]; omega
            · obtain rfl : k = m := by omega
              go_wp2_with fail
              go_roundw
              case rel => first | exact ⟨i + 1, by omega, int_eq' (by omega), by first | rfl | trivial⟩ | ((repeat apply Exists.intro); exact ⟨⟨i + 1, by omega, int_eq' (by omega), by first | rfl | trivial⟩, rfl⟩)
              case measure => simp [intOf]; omega
        · obtain rfl : i = N := by omega
          go_wp2_with fail
          refine (HCK.out _ _ HO5.out).mono ?_; rintro e w6 ⟨rfl, hk6⟩
          have b2 : w6.cell? ⟨Y, 2, none⟩ = some (.int .i64 (S : Nat)) := cell_of_row w6 Y 2 _ _ _ (hk6.heap HB5.out (by simp))
          have e1 : decide ((1 : Int) ≤ (S : Int)) = true := decide_eq_true (by omega)
          have e2 : decide ((S : Int) ≤ 20000) = true := decide_eq_true (by omega)
          have HK6 : Hid (Kp [] w w6) := HK5.out.trans hk6
          clear hk6
          go_wp2_with fail
          go_ret
          exact ⟨by simp, HK6.out⟩
end Go.Proofs.YtfgpocpfapnkkaaGreat

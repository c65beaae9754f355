/- glyf: the reference's Build. -/
import Derived.Test.YtafkhnlmipddmaaGreatGlY
import Derived.BigQuiet
import Derived.Deep.DeepCutAuto
namespace Go.Proofs.YtafkhnlmipddmaaGreat
open Go.RowKit
set_option linter.unusedVariables false
set_option linter.unusedSimpArgs false
theorem bldO_row (o : List (List Int)) {j : Nat} (h : j < o.length) : (bldO o j).length + (o.getD j []).length ≤ (bldO o o.length).length := by
  obtain ⟨d, hd⟩ : ∃ d, o.length = (j + 1) + d := ⟨o.length - (j + 1), by omega⟩
  have h1 := bldO_mono o d (j + 1)
  rw [← hd] at h1
  refine Nat.le_trans ?_ h1
  show _ ≤ (padL (bldO o j ++ o.getD j [])).length
  unfold padL
  rw [List.length_append, List.length_append]; omega
theorem pad_more (n t : Nat) (h : t ≤ padN n) : (t < padN n ↔ (n + t) % 4 ≠ 0) := by
  unfold padN at *
  split at h <;> split <;> omega
theorem rem4w (n : Nat) (h : n ≤ 4194304) : IntKind.i64.wrap (Int.tmod (n : Int) 4) = ((n % 4 : Nat) : Int) ∧ Int.tmod (n : Int) 4 = ((n % 4 : Nat) : Int) := by
  have h1 : Int.tmod (n : Int) 4 = ((n % 4 : Nat) : Int) := by
    rw [Int.tmod_eq_emod_of_nonneg (by omega)]; omega
  rw [h1, IntKind.wrap_i64]
  omega
set_option maxRecDepth 100000 in
set_option maxHeartbeats 8000000 in
theorem rbuild_calls (v : Value) (o : List (List Int)) (w : World) (hv : IsBs w v o) (hN : 1 ≤ o.length ∧ o.length ≤ 65535) :
    Calls Tryz.prog 19 #[v] w fun e w' => ∃ v1 v2, e = .returned (.tuple #[v1, v2, .bool (decide ((bldO o o.length).length ≤ 1048576))]) ∧ ((bldO o o.length).length ≤ 1048576 → IsInts .u8 w' v1 (bldO o o.length) ∧ IsInts .i64 w' v2 (offsB o o.length)) ∧ Kp [] w w' := by
  have HV := Lib.hid (fun W (hk : Kp [] w W) => hv.kp0 hk)
  obtain ⟨pa, ca, rfl⟩ := hv.form
  have HBG : Hid (∀ j, j < o.length → (bldO o j).length + (o.getD j []).length ≤ (bldO o o.length).length) := fun j hj => bldO_row o hj
  have HMN : Hid (∀ j, j ≤ o.length → (bldO o j).length ≤ (bldO o o.length).length) := fun j hj => by
    obtain ⟨d, hd⟩ : ∃ d, o.length = j + d := ⟨o.length - j, by omega⟩
    have h1 := bldO_mono o d j
    rwa [← hd] at h1
  have HS : Hid (∀ j, bldO o (j + 1) = padL (bldO o j ++ o.getD j []) ∧ offsB o (j + 1) = offsB o j ++ [((bldO o (j + 1)).length : Int)] ∧ (offsB o j).length = j + 1) := fun j => ⟨rfl, offsB_succ o j, offsB_len o j⟩
  obtain ⟨N, hNE⟩ : ∃ N, o.length = N := ⟨_, rfl⟩
  have HN := Lib.hid hNE
  rw [hNE] at HV HBG HMN hN ⊢
  obtain ⟨LL, hLL⟩ : ∃ L, (bldO o N).length = L := ⟨_, rfl⟩
  have HLL := Lib.hid hLL
  rw [hLL] at HBG HMN ⊢
  clear hv hNE hLL
  go_enter Tryz.func19, Tryz.ntmps19
  go_wp2_with fail
  refine wp_gen ?_; intro W0 hW0
  have hk0 : Kp [] w W0 := by rw [hW0]; (repeat (first | exact Kp.refl _ _ | assumption | refine Kp.drew ?_ | refine Kp.drewN ?_ _ | refine Kp.alloc ?_ _ | (refine Kp.setCell ?_ (by first | (left; simp; done) | (right; simp; try omega)) _) | (refine Kp.trans' ?_ (by assumption) (by simp; try omega))))
  have HO0 : Hid (W0.ownsRow w.heap.size 3 1 (.slice (some ⟨w.heap.size, 0, none⟩) 1 1) 1 ((offsB o 0).map (Value.int .i64))) := by
    show World.ownsRow _ _ _ _ _ _ _
    rw [hW0]
    exact own_lit w _ _ 3 1 1 #[.int .i64 0] rfl (Nat.le_refl _) (by decide) rfl
  have HK0 := Lib.hid hk0
  clear hW0 hk0
  go_loopw [5, 6, 7] (fun b f i wr => ∃ (j : Nat) (vb vf : Value), j ≤ N ∧ i = .int .i64 j ∧ vb = b ∧ vf = f ∧ (bldO o j).length ≤ 1048576 ∧ Hid (wr.ownsRow w.heap.size 5 1 vb (bldO o j).length ((bldO o j).map (Value.int .u8)) ∧ wr.ownsRow w.heap.size 3 1 vf (j + 1) ((offsB o j).map (Value.int .i64)) ∧ Kp [] w wr)) (fun _ _ i _ => N - (intOf i).toNat)
  case atStart => exact ⟨0, _, _, by omega, rfl, rfl, rfl, Nat.zero_le _, World.ownsRow_nil _ _ _ _, HO0.out, HK0.out⟩
  case round =>
    obtain ⟨j, vb, vf, hj, rfl, rfl, rfl, hbj, HJ⟩ := hrel
    by_cases hlt : j < N
    · have hjo : j < o.length := by rw [HN.out]; exact hlt
      obtain ⟨g1, o1, c1, p1, cv, e1, _, _, hc1, hi1⟩ := (HV.out _ HJ.out.2.2).row hjo
      rw [HN.out] at e1
      cases e1
      have hbg := HBG.out j hlt
      have HI := Lib.hid hi1
      have HRB := Lib.hid HJ.out.1
      have HRF := Lib.hid HJ.out.2.1
      obtain ⟨pb, qb, rfl⟩ := slice_own HRB.out
      obtain ⟨pf, qf, rfl⟩ := slice_own HRF.out
      have HKJ := Lib.hid HJ.out.2.2
      have hsz : w.heap.size ≤ wr.heap.size := HKJ.out.size
      have HSJ := Lib.hid (HS.out j)
      generalize bldO o j = F at *
      generalize o.getD j [] = G at *
      generalize offsB o j = O at *
      obtain ⟨GL, hGL⟩ : ∃ L, G.length = L := ⟨_, rfl⟩
      obtain ⟨FL, hFL⟩ : ∃ L, F.length = L := ⟨_, rfl⟩
      have HGL := Lib.hid hGL
      have HFL := Lib.hid hFL
      rw [hGL] at hc1 HI hbg
      rw [hFL] at hbg hbj HRB ⊢
      clear hi1 HJ hjo hGL hFL
      by_cases hbig : 1048576 < GL
      · have d1 : decide ((1048576 : Int) < (GL : Int)) = true := decide_eq_true (by omega)
        have hno : ¬ LL ≤ 1048576 := by omega
        go_wp2_with fail
        go_ret3
        refine ⟨_, _, by rw [decide_eq_false hno]; rfl, fun h => absurd h hno, HKJ.out⟩
      · have d1 : decide ((1048576 : Int) < (GL : Int)) = false := decide_eq_false (by omega)
        go_wp2_with (at_builtin; refine wpList_appM rfl _ _ 25 5 .u8 1 Tryz.underlying25 infoByte (by decide) rfl w.heap.size (.slice pb FL qb) F FL HFL.out rfl HRB.out (.slice p1 GL cv) G rfl HI.out ?hl1 hsz ?hk1)
        case hl1 => rw [HGL.out]; omega
        case hk1 =>
        intro v4 w4 hown4 hk4 hbl4
        rw [HGL.out, ← List.map_append] at hown4
        obtain ⟨p4, q4, rfl⟩ := slice_own hown4
        have HR4 := Lib.hid hown4
        have HF4 : Hid (w4.ownsRow w.heap.size 3 1 (.slice pf (j + 1) qf) (j + 1) (O.map (Value.int .i64))) := hk4.row HRF.out (fun s hs e => own_ne HRB.out HRF.out (by decide) s (by simpa using hs) e)
        have HK4 : Hid (Kp [] w w4) := HKJ.out.trans' hk4 (fun t ht => .inr (own_ge HRB.out t (by simpa using ht)))
        have HXL : Hid ((F ++ G).length = FL + GL) := by show _ = _; rw [List.length_append, HFL.out, HGL.out]
        clear hown4 hk4 hbl4 HRB HRF HKJ hsz hc1 HI
        obtain ⟨X, hX⟩ : ∃ X, F ++ G = X := ⟨_, rfl⟩
        obtain ⟨XL, hXL⟩ : ∃ L, FL + GL = L := ⟨_, rfl⟩
        rw [hX] at HR4 HXL HSJ
        rw [hXL] at HR4 HXL hbg ⊢
        have hx2 : XL ≤ 2097152 := by omega
        clear hX hXL
        go_wp2_with fail
        refine wp_gen ?_; intro WA hWA
        rw [← hWA] at HR4 HF4 HK4
        clear hWA
        have hpl : padN XL ≤ 3 := by unfold padN; split <;> omega
        go_loopw [5] (fun b wq => ∃ (t : Nat) (vb2 : Value), t ≤ padN XL ∧ vb2 = b ∧ vlen vb2 = XL + t ∧ Hid (wq.ownsRow w.heap.size 5 1 vb2 (XL + t) ((X ++ List.replicate t 0).map (Value.int .u8)) ∧ wq.ownsRow w.heap.size 3 1 (.slice pf (j + 1) qf) (j + 1) (O.map (Value.int .i64)) ∧ Kp [] w wq)) (fun b _ => XL + 4 - vlen b)
        case atStart => exact ⟨0, _, Nat.zero_le _, rfl, rfl, by simpa using HR4.out, HF4.out, HK4.out⟩
        case round =>
          obtain ⟨t, vb2, ht, rfl, hvl, HT⟩ := hrel
          obtain ⟨p5, q5, rfl⟩ := slice_own HT.out.1
          have hpm := pad_more XL t ht
          obtain ⟨Y, hY⟩ : ∃ Y, XL + t = Y := ⟨_, rfl⟩
          have HYL : Hid ((X ++ List.replicate t 0).length = Y) := by show _ = _; rw [List.length_append, List.length_replicate, HXL.out, hY]
          rw [hY] at HT hvl hpm ⊢
          obtain ⟨hr1, hr2⟩ := rem4w Y (by omega)
          have hszq : w.heap.size ≤ wr.heap.size := HT.out.2.2.size
          by_cases hl2 : t < padN XL
          · have h4 := hpm.1 hl2
            have hbne : (((Y % 4 : Nat) : Int) != 0) = true := by simp; omega
            generalize Y % 4 = RR at *
            go_wp2_with (at_builtin; refine wpList_appM rfl _ _ 25 5 .u8 1 Tryz.underlying25 infoByte (by decide) rfl w.heap.size (.slice p5 Y q5) (X ++ List.replicate t 0) Y HYL.out rfl ?hown (.slice (some ⟨wr.heap.size, 0, none⟩) 1 1) [0] rfl ?hsrc ?hl3 ?hb3 ?hk3)
            case hown => exact Kp.row (S := []) (by (repeat (first | exact Kp.refl _ _ | assumption | refine Kp.drew ?_ | refine Kp.drewN ?_ _ | refine Kp.alloc ?_ _ | (refine Kp.setCell ?_ (by first | (left; simp; done) | (right; simp; try omega)) _) | (refine Kp.trans' ?_ (by assumption) (by simp; try omega))))) HT.out.1 (by simp)
            case hsrc => exact .inr ⟨wr.heap.size, 0, 1, rfl, by simp, by decide, fun i hi => by
              obtain rfl : i = 0 := by simpa using hi
              rw [cell_of_row _ wr.heap.size 0 _ _ (0, 0) (heap_alloc_new wr _)]; rfl⟩
            case hl3 => simp; omega
            case hb3 => simp; omega
            case hk3 =>
            intro v6 w6 hown6 hk6 hbl6
            have hka : Kp [] wr (wr.alloc (.cells #[.int .u8 0] 5)) := (Kp.refl _ _).alloc _
            have hra := hka.row HT.out.1 (by simp)
            have hfa := hka.row HT.out.2.1 (by simp)
            have HST : Hid (w6.ownsRow w.heap.size 5 1 v6 (XL + (t + 1)) ((X ++ List.replicate (t + 1) 0).map (Value.int .u8)) ∧ w6.ownsRow w.heap.size 3 1 (.slice pf (j + 1) qf) (j + 1) (O.map (Value.int .i64)) ∧ Kp [] w w6) := by
              refine ⟨?_, ?_, ?_⟩
              · rw [← Nat.add_assoc, hY, List.replicate_succ', ← List.append_assoc]
                simpa using hown6
              · exact hk6.row hfa (fun s hs e => own_ne hra hfa (by decide) s (by simpa using hs) e)
              · exact (HT.out.2.2.trans hka).trans' hk6 (fun t ht => .inr (own_ge hra t (by simpa using ht)))
            obtain ⟨p6, q6, rfl⟩ := slice_own HST.out.1
            clear hown6 hk6 hbl6 hka hra hfa HT
            go_wp2_with fail
            go_roundw
            case rel => first | exact ⟨t + 1, _, by omega, rfl, rfl, HST.out⟩ | ((repeat apply Exists.intro); exact ⟨⟨t + 1, _, by omega, rfl, rfl, HST.out⟩, rfl⟩)
            case measure => simp [vlen] <;> omega
          · obtain rfl : t = padN XL := by omega
            have h4 : Y % 4 = 0 := by
              have h5 : ¬ (Y % 4 ≠ 0) := fun h => hl2 (hpm.2 h)
              omega
            have hb1 : bldO o (j + 1) = X ++ List.replicate (padN XL) 0 := by rw [HSJ.out.1]; unfold padL; rw [HXL.out]
            have HB1 := Lib.hid hb1
            have hbl : Y ≤ LL := by have h5 := HMN.out (j + 1) (by omega); rw [hb1, HYL.out] at h5; exact h5
            have hr0 : IntKind.i64.wrap (Int.tmod (Y : Int) 4) = 0 := by rw [hr1, h4]; rfl
            have hr00 : Int.tmod (Y : Int) 4 = 0 := by rw [hr2, h4]; rfl
            clear hr1 hr2 hpm
            have HRX := Lib.hid HT.out.1
            rw [← hb1] at HRX
            have HFX := Lib.hid HT.out.2.1
            have HKX := Lib.hid HT.out.2.2
            have HLB : Hid ((bldO o (j + 1)).length = Y) := by show _ = _; rw [hb1, HYL.out]
            have HSO := Lib.hid HSJ.out.2
            clear HT hb1
            by_cases hov : 1048576 < Y
            · have d2 : decide ((1048576 : Int) < (Y : Int)) = true := decide_eq_true (by omega)
              have hno : ¬ LL ≤ 1048576 := by omega
              go_wp2_with fail
              go_ret3
              exact ⟨_, _, by rw [decide_eq_false hno]; rfl, fun h => absurd h hno, HKX.out⟩
            · have d2 : decide ((1048576 : Int) < (Y : Int)) = false := decide_eq_false (by omega)
              go_wp2_with (at_builtin; refine wpList_appM rfl _ _ 51 3 .i64 8 Tryz.underlying51 infoIntM (by decide) rfl w.heap.size (.slice pf (j + 1) qf) O (j + 1) HSO.out.2 rfl ?hown (.slice (some ⟨wr.heap.size, 0, none⟩) 1 1) [(Y : Int)] rfl ?hsrc ?hl4 ?hb4 ?hk4)
              case hown => exact Kp.row (S := []) (by (repeat (first | exact Kp.refl _ _ | assumption | refine Kp.drew ?_ | refine Kp.drewN ?_ _ | refine Kp.alloc ?_ _ | (refine Kp.setCell ?_ (by first | (left; simp; done) | (right; simp; try omega)) _) | (refine Kp.trans' ?_ (by assumption) (by simp; try omega))))) HFX.out (by simp)
              case hsrc => exact .inr ⟨wr.heap.size, 0, 1, rfl, by simp, by decide, fun i hi => by
                obtain rfl : i = 0 := by simpa using hi
                rw [cell_of_row _ wr.heap.size 0 _ _ (0, 0) (heap_alloc_new wr _)]; rfl⟩
              case hl4 => simp; omega
              case hb4 => simp; omega
              case hk4 =>
              intro v6 w6 hown6 hk6 hbl6
              have hka : Kp [] wr (wr.alloc (.cells #[.int .i64 (Y : Int)] 3)) := (Kp.refl _ _).alloc _
              have hra := hka.row HRX.out (by simp)
              have hfa := hka.row HFX.out (by simp)
              have HST : Hid (w6.ownsRow w.heap.size 5 1 (.slice p5 Y q5) (bldO o (j + 1)).length ((bldO o (j + 1)).map (Value.int .u8)) ∧ w6.ownsRow w.heap.size 3 1 v6 (j + 1 + 1) ((offsB o (j + 1)).map (Value.int .i64)) ∧ Kp [] w w6) := by
                refine ⟨?_, ?_, ?_⟩
                · rw [HLB.out]
                  exact hk6.row hra (fun s hs e => own_ne hfa hra (by decide) s (by simpa using hs) e)
                · rw [HSO.out.1, HLB.out]
                  simpa using hown6
                · exact (HKX.out.trans hka).trans' hk6 (fun t ht => .inr (own_ge hfa t (by simpa using ht)))
              obtain ⟨p6, q6, rfl⟩ := slice_own HST.out.2.1
              have hyl : (bldO o (j + 1)).length ≤ 1048576 := by rw [HLB.out]; omega
              clear hown6 hk6 hbl6 hka hra hfa HRX HFX HKX
              go_wp2_with fail
              go_roundw
              case rel => first | exact ⟨j + 1, _, _, by omega, int_eq' (by omega), rfl, rfl, hyl, HST.out⟩ | ((repeat apply Exists.intro); exact ⟨⟨j + 1, _, _, by omega, int_eq' (by omega), rfl, rfl, hyl, HST.out⟩, rfl⟩)
              case measure => simp [intOf] <;> omega
    · obtain rfl : j = N := by omega
      have HRB := Lib.hid HJ.out.1
      have HRF := Lib.hid HJ.out.2.1
      have HKJ := Lib.hid HJ.out.2.2
      rw [HLL.out] at hbj
      obtain ⟨pb, qb, rfl⟩ := slice_own HRB.out
      obtain ⟨pf, qf, rfl⟩ := slice_own HRF.out
      generalize (bldO o j).length = L2 at *
      clear HJ
      go_wp2_with fail
      go_ret3
      exact ⟨_, _, by rw [decide_eq_true hbj]; rfl, fun _ => ⟨IsInts.owned HRB.out, IsInts.owned HRF.out⟩, HKJ.out⟩
end Go.Proofs.YtafkhnlmipddmaaGreat

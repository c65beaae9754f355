/- glyf: the law GlyfDeep. -/
import Derived.Test.YtafkhnlmipddmaaGreatGlL
import Derived.Test.YtafkhnlmipddmaaGreatGlO
import Derived.Test.YtafkhnlmipddmaaGreatGlP
import Derived.BigQuiet
import Derived.Deep.DeepCutAuto
namespace Go.Proofs.YtafkhnlmipddmaaGreat
open Go.RowKit
set_option linter.unusedVariables false
set_option linter.unusedSimpArgs false
/-- One plain part, written by the reference. -/
theorem rpart1_calls (g dx : Int) (hg : 0 ≤ g ∧ g ≤ 65535) (hx : -32768 ≤ dx ∧ dx < 32768) (w : World) :
    Calls Tryz.prog 10 #[.slice (some ⟨w.heap.size, 0, none⟩) 1 1] (w.alloc (.cells #[.int .i64 g, .int .i64 16384, .int .i64 0, .int .i64 0, .int .i64 16384, .bool false, .int .i64 dx, .int .i64 0, .bool false, .int .i64 0, .int .i64 0] 34)) fun e w' => ∃ p n c, e = .returned (.tuple #[.slice p n c, .int .i64 0]) ∧ IsInts .u8 w' (.slice p n c) (cm1 g dx) ∧ Kp [] w w' :=
  (rpart_calls [pl1 g dx 0] (okL_one hg hx (by decide)) _ _ (Reads.made w _ 11 1 _ 34 rfl (by rfl) (by decide))).mono fun e w' ⟨p, c, h1, h2, h3⟩ => ⟨p, _, c, h1, h2, ((Kp.refl _ _).alloc _).trans h3⟩
/-- A literal row of one glyph's bytes. -/
theorem wbLit {w : World} {p : Option Addr} {n c : Nat} {b : List Int} (h : IsInts .u8 w (.slice p n c) b) : WBs (w.alloc (.cells #[.slice p n c] 25)) w.heap.size (.slice (some ⟨w.heap.size, 0, none⟩) 1 1) [b] :=
  ⟨[.slice p n c], ⟨w.heap.size, 1, #[.slice p n c], rfl, Nat.le_refl _, heap_alloc_new w _, Nat.le_refl _, by decide, rfl, rfl, fun x hx => ⟨p, n, c, by simpa using hx⟩⟩, rfl, fun i hi => by
    obtain rfl : i = 0 := by simpa using hi
    exact h.kp (S := []) ((Kp.refl _ _).alloc _) (by simp)⟩
theorem sqM_cells {w : World} {p5 : Option Addr} {c5 i : Nat} (h : IsOut w (.slice p5 1 c5) (sqM i)) : ∃ g1 f1 g2 f2 cv, p5 = some ⟨g1, f1, none⟩ ∧ w.cell? ⟨g1, f1, none⟩ = some (.slice (some ⟨g2, f2, none⟩) 3 cv) ∧ w.cell? ⟨g2, f2, none⟩ = some (.int .i64 ((i : Int) * 65536)) := by
  obtain ⟨g1, f1, c1, p1, cv, e1, _, _, hc1, hi1⟩ := h.row (i := 0) (by simp [sqM])
  obtain ⟨g2, f2, c2', e2, _, _, hx, _, _⟩ := hi1.row (i := 0) (by simp [sqM])
  obtain ⟨e3, _, _⟩ : p5 = some ⟨g1, f1, none⟩ ∧ _ ∧ _ := by simpa using e1
  obtain ⟨e4, _⟩ : p1 = some ⟨g2, f2, none⟩ ∧ _ := by simpa using e2
  subst e3 e4
  exact ⟨g1, f1, g2, f2, cv, rfl, hc1, hx⟩
set_option maxRecDepth 100000 in
set_option maxHeartbeats 8000000 in
theorem law_GlyfDeep (n : Int) (ring : Bool) (w : World) :
    Calls Tryz.prog 4 #[.int .i64 n, .bool ring] w fun e w' => e = .returned (.bool true) ∧ Kp [] w w' := by
  by_cases hin : 1 ≤ n ∧ n ≤ 20
  · obtain ⟨N, rfl⟩ : ∃ N : Nat, n = N := ⟨n.toNat, by omega⟩
    have hN1 : 1 ≤ N := by omega
    have hN2 : N ≤ 20 := by omega
    have d1 : decide ((N : Int) < 1) = false := decide_eq_false (by omega)
    have d2 : decide ((20 : Int) < (N : Int)) = false := decide_eq_false (by omega)
    clear hin
    have HSQ := Lib.hid square_calls
    have hsl := sq_len
    have HD0 : Hid (dpO 0 = [sqB]) := rfl
    have HDS := Lib.hid dpO_succ
    obtain ⟨i0, hi0, hz0, hz1, hz2⟩ := info_parts infoSl
    go_enter Tryz.func4, Tryz.ntmps4
    go_wp2_with fail
    refine (HSQ.out _).mono ?_; rintro e w1 ⟨v1, rfl, hi1, hk1⟩
    obtain ⟨p1, c1, rfl⟩ := ints_formB hi1
    rw [hsl] at hi1 ⊢
    have HW1 := Lib.hid (wbLit hi1)
    have HK1 : Hid (Kp [] w (w1.alloc (.cells #[.slice p1 19 c1] 25))) := hk1.trans ((Kp.refl _ _).alloc _)
    have hs1 : w.heap.size ≤ w1.heap.size := hk1.size
    clear hi1 hk1
    go_wp2_with fail
    refine wp_gen ?_; intro W0 hW0
    rw [← hW0] at HW1 HK1
    have hb1 : w1.heap.size ≤ W0.heap.size := by rw [hW0]; simp
    generalize w1.heap.size = B at *
    clear hW0
    go_loopw [5, 6, 7, 8] (fun l i _ _ wr => ∃ (j : Nat) (vl : Value), j ≤ N ∧ i = .int .i64 j ∧ vl = l ∧ Hid (WBs wr B vl (dpO j) ∧ Kp [] w wr ∧ B ≤ wr.heap.size)) (fun _ i _ _ _ => N - (intOf i).toNat)
    case atStart => exact ⟨0, _, by omega, rfl, rfl, by rw [HD0.out]; exact HW1.out, HK1.out, hb1⟩
    case round =>
      obtain ⟨j, vl, hj, rfl, rfl, HJ⟩ := hrel
      by_cases hlt : j < N
      · obtain ⟨vs, hr, hvl, hvi⟩ := HJ.out.1
        have hrr := hr
        obtain ⟨gl, cl, cur, rfl, hbg, hgl, hrest⟩ := hrr
        rw [dp_len] at hvl
        rw [hvl]
        have HR := Lib.hid hr
        rw [hvl] at HR
        have HVI := Lib.hid hvi
        have HKJ := Lib.hid HJ.out.2.1
        have hsz := HJ.out.2.2
        have hgl2 : gl < wr.heap.size := lt_of_block hgl
        clear hrest
        clear hr hvi HJ hgl cur
        go_wp2_with fail
        refine (Cp.rone_calls _).mono ?_; rintro e w2 ⟨rfl, hk2⟩
        have HK2 := Lib.hid hk2
        clear hk2
        go_wp2_with fail
        refine (rpart1_calls j 1 (by omega) (by omega) w2).mono ?_; rintro e w3 ⟨p3, n3, c3, rfl, hi3, hk3⟩
        have HI3 := Lib.hid hi3
        have hk23 := HK2.out.trans hk3
        have HR3 := Lib.hid (HR.out.kp0 hk23)
        have HVI3 : Hid (∀ i, i < (dpO j).length → IsInts .u8 w3 (vs.getD i (.slice none 0 0)) ((dpO j).getD i [])) := fun i hi => (HVI.out i hi).kp hk23 (by simp)
        have HK3 : Hid (Kp [] w w3) := HKJ.out.trans hk23
        have hsz3 : B ≤ w3.heap.size := Nat.le_trans hsz hk23.size
        have hBw : w.heap.size ≤ B := hs1
        clear hi3 hk3 hk23 HK2 HR HVI HKJ
        go_wp2_with (at_builtin; refine wpList_appV _ rfl _ _ 38 rfl B i0 Tryz.underlying38 hi0 hz0 hz1 hz2 _ vs rfl ?hr ⟨w3.heap.size, 0, none⟩ p3 n3 c3 rfl ?hA ?hb ?hbase ?hk)
        case hr => exact HR3.out.kp0 ((Kp.refl _ _).alloc _)
        case hA => rw [cell_of_row _ w3.heap.size 0 _ _ (0, 0) (heap_alloc_new w3 _)]; rfl
        case hb => omega
        case hbase => simp; omega
        case hk =>
        intro v6 w6 hr6 hk6
        have hka : Kp [] w3 (w3.alloc (.cells #[.slice p3 n3 c3] 25)) := (Kp.refl _ _).alloc _
        have hP := WBs.push (HR3.out.kp0 hka) (by rw [hvl, dp_len]) (fun i hi => (HVI3.out i hi).kp hka (by simp)) (HI3.out.kp hka (by simp)) hr6 hk6
        rw [← HDS.out] at hP
        have HP := Lib.hid hP
        have HK6 : Hid (Kp [] w w6) := (HK3.out.trans hka).trans' hk6 (fun t ht => by
          simp [Value.ownBlock] at ht
          subst ht
          exact .inr (by omega))
        have hsz6 : B ≤ w6.heap.size := Nat.le_trans hsz3 (Nat.le_trans hka.size hk6.size)
        clear hr6 hk6 hP hka HR3 HVI3 HI3 HK3
        go_wp2_with fail
        go_roundw
        case rel => first | exact ⟨j + 1, _, by omega, int_eq' (by omega), rfl, HP.out, HK6.out, hsz6⟩ | ((repeat apply Exists.intro); exact ⟨⟨j + 1, _, by omega, int_eq' (by omega), rfl, HP.out, HK6.out, hsz6⟩, rfl⟩)
        case measure => simp [intOf] <;> omega
      · obtain rfl : j = N := by omega
        obtain ⟨gl, cl, rfl, hbg, hgl⟩ := HJ.out.1.form
        have HW := Lib.hid HJ.out.1
        have HKJ := Lib.hid HJ.out.2.1
        rw [dp_len] at HW ⊢
        have hsz := HJ.out.2.2
        have hBw : w.heap.size ≤ B := hs1
        clear HJ HW1 HK1 HSQ HDS HD0
        cases ring
        · have HI : Hid (IsBs wr (.slice (some ⟨gl, 0, none⟩) (j + 1) cl) (dpO j)) := HW.out.is
          have ok := dp_ok hN2
          have HT := Lib.hid (gtable_calls _ _ _ HI.out ok.1)
          clear HW
          go_wp2_with fail
          refine HT.out.mono ?_; rintro e w2 ⟨T, rfl, ht2, hk2⟩
          have HT2 : Hid (TbO w2 w2.heap.size T (dpO j)) := ht2
          have HK2 : Hid (Kp [] w w2) := HKJ.out.trans hk2
          clear ht2 hk2 HT HI HKJ
          go_wp2_with fail
          refine (lives13_calls _).mono ?_; rintro e w3 ⟨rfl, hk3⟩
          have HT3 : Hid (TbO w3 w2.heap.size T (dpO j)) := HT2.out.kp0 hk3
          have HK3 : Hid (Kp [] w w3) := HK2.out.trans hk3
          have hz3 : w2.heap.size ≤ w3.heap.size := hk3.size
          clear hk3 HT2 HK2
          have he := dp_eval hN2 6 j 0 (Nat.le_refl _) (Nat.le_refl _) (by omega)
          go_wp2_with fail
          by_cases h6 : j ≤ 6
          · rw [if_pos h6] at he
            refine (outlineO_calls _ T (dpO j) ok j (by omega) w3 HT3.out hz3 _ _ _ he).mono ?_; rintro e w4 ⟨v4, rfl, ho4, hk4⟩
            obtain ⟨p4, c4, rfl⟩ := ho4.form
            rw [show (sqM j).length = 1 from rfl] at ho4 ⊢
            obtain ⟨g1, f1, g2, f2, cv, rfl, hc1, hx1⟩ := sqM_cells ho4
            have d6 : decide ((6 : Int) < (j : Int)) = false := decide_eq_false (by omega)
            have d7 : IntKind.i64.wrap ((j : Int) * 65536) = (j : Int) * 65536 := by rw [IntKind.wrap_i64]; omega
            have HK4 : Hid (Kp [] w w4) := HK3.out.trans hk4
            clear ho4 hk4 HT3 HK3 he
            go_wp2_with fail
            go_ret
            exact ⟨by simp, HK4.out⟩
          · rw [if_neg h6] at he
            refine (outlineO_calls _ T (dpO j) ok j (by omega) w3 HT3.out hz3 _ _ _ he).mono ?_; rintro e w4 ⟨v4, rfl, ho4, hk4⟩
            obtain ⟨p4, c4, rfl⟩ := ho4.form
            have d6 : decide ((6 : Int) < (j : Int)) = true := decide_eq_true (by omega)
            have HK4 : Hid (Kp [] w w4) := HK3.out.trans hk4
            clear ho4 hk4 HT3 HK3 he
            go_wp2_with fail
            go_ret
            exact ⟨by simp, HK4.out⟩
        · have hdo : dpO j = sqB :: (List.range j).map dpR := rfl
          have hrg : rgO j = cm1 j 0 :: (List.range j).map dpR := rfl
          have hrl : ((List.range j).map dpR).length = j := by simp
          rw [hdo] at HW
          generalize (List.range j).map dpR = O at *
          have HRG := Lib.hid hrg
          clear hrg hdo
          go_wp2_with fail
          refine (Cp.rone_calls _).mono ?_; rintro e w1 ⟨rfl, hk1⟩
          have HK1 := Lib.hid hk1
          clear hk1
          go_wp2_with fail
          refine (rpart1_calls j 0 (by omega) (by omega) w1).mono ?_; rintro e w2 ⟨p2, n2, c2, rfl, hi2, hk2⟩
          have hk12 := HK1.out.trans hk2
          have hw2 := HW.out.kp0 hk12
          rw [← hrl] at hw2
          obtain ⟨hset, ⟨x, hx⟩, hfr, hks⟩ := hw2.set0 hi2
          rw [hrl] at hset
          have HI : Hid (IsBs (w2.setCell ⟨gl, 0, none⟩ (.slice p2 n2 c2)) (.slice (some ⟨gl, 0, none⟩) (j + 1) cl) (rgO j)) := by rw [HRG.out]; exact hset.is
          have HKX : Hid (Kp [] w (w2.setCell ⟨gl, 0, none⟩ (.slice p2 n2 c2))) := (HKJ.out.trans hk12).trans' hks (fun t ht => by simp at ht; subst ht; exact .inr (by omega))
          clear hset hks hw2 hk12 hk2 hi2 HK1 HW HKJ
          have ok := rg_ok hN2
          have HT := Lib.hid (gtable_calls _ _ _ HI.out ok.1)
          have he := rg_eval hN2 6 j 0 (Nat.le_refl _) (by omega)
          go_wp2_with fail
          refine HT.out.mono ?_; rintro e w3 ⟨T, rfl, ht3, hk3⟩
          have HT3 : Hid (TbO w3 w3.heap.size T (rgO j)) := ht3
          have HK3 : Hid (Kp [] w w3) := HKX.out.trans hk3
          clear ht3 hk3 HT HI HKX
          go_wp2_with fail
          refine (lives13_calls _).mono ?_; rintro e w4 ⟨rfl, hk4⟩
          have HT4 : Hid (TbO w4 w3.heap.size T (rgO j)) := HT3.out.kp0 hk4
          have HK4 : Hid (Kp [] w w4) := HK3.out.trans hk4
          have hz4 : w3.heap.size ≤ w4.heap.size := hk4.size
          clear hk4 HT3 HK3
          go_wp2_with fail
          refine (outlineO_calls _ T (rgO j) ok j (by omega) w4 HT4.out hz4 _ _ _ he).mono ?_; rintro e w5 ⟨v5, rfl, ho5, hk5⟩
          obtain ⟨p5, c5, rfl⟩ := ho5.form
          have HK5 : Hid (Kp [] w w5) := HK4.out.trans hk5
          clear ho5 hk5 HT4 HK4 he
          go_wp2_with fail
          go_ret
          exact ⟨by simp, HK5.out⟩
  · by_cases h1 : n < 1
    · have d1 : decide (n < 1) = true := decide_eq_true h1
      go_enter Tryz.func4, Tryz.ntmps4
      go_wp2_with fail
      refine (lives13_calls _).mono ?_; rintro e w1 ⟨rfl, hk⟩
      go_wp2_with fail
      go_ret
      exact ⟨rfl, hk⟩
    · have d1 : decide (n < 1) = false := decide_eq_false h1
      have d2 : decide (20 < n) = true := decide_eq_true (by omega)
      go_enter Tryz.func4, Tryz.ntmps4
      go_wp2_with fail
      refine (lives13_calls _).mono ?_; rintro e w1 ⟨rfl, hk⟩
      go_wp2_with fail
      go_ret
      exact ⟨rfl, hk⟩
end Go.Proofs.YtafkhnlmipddmaaGreat

/- glyf: the law GlyfVisits. -/
import Derived.Test.YtafkhnlmipddmaaGreatGlQ
import Derived.BigQuiet
import Derived.Deep.DeepCutAuto
namespace Go.Proofs.YtafkhnlmipddmaaGreat
open Go.RowKit
set_option linter.unusedVariables false
set_option linter.unusedSimpArgs false
theorem parts_manyV (e : Int → Nat → GRes) (g : Int) (k : Nat) (he : ∀ v, v ≤ 1024 → ∃ V, e g v = if v + k ≤ 1024 then (([], 0), v + k) else (([], 120), V)) : ∀ n v, v ≤ 1024 → ∃ V, partsG e (repP n g) [] v = if v + n * (k + 1) ≤ 1024 then (([], 0), v + n * (k + 1)) else (([], 120), V) := by
  intro n
  induction n with
  | zero => intro v hv; exact ⟨0, by rw [Nat.zero_mul, Nat.add_zero, if_pos hv]; rfl⟩
  | succ n ih =>
    intro v hv
    have hs : repP (n + 1) g = pl1 g 0 0 :: repP n g := rfl
    rw [hs]
    unfold partsG
    by_cases h0 : 1024 ≤ v
    · have hp : partG e (pl1 g 0 0) [] v = (([], 120), v) := by unfold partG; rw [if_pos h0]
      rw [hp]
      dsimp only
      exact ⟨v, by rw [if_pos (by decide), if_neg (by rw [Nat.succ_mul]; omega)]⟩
    · obtain ⟨V, hee⟩ := he (v + 1) (by omega)
      by_cases h1 : v + 1 + k ≤ 1024
      · rw [if_pos h1] at hee
        have hp : partG e (pl1 g 0 0) [] v = (([], 0), v + 1 + k) := by
          unfold partG
          rw [if_neg h0, show (pl1 g 0 0).g = g from rfl, hee]
          dsimp only
          rw [if_neg (by simp), show (pl1 g 0 0).dx = 0 from rfl, show (pl1 g 0 0).dy = 0 from rfl, apply_none]
          dsimp only
          rw [if_neg (by simp), join_none]
        rw [hp]
        dsimp only
        rw [if_neg (by simp)]
        obtain ⟨V, hV⟩ := ih (v + 1 + k) h1
        refine ⟨V, ?_⟩
        rw [hV, show v + 1 + k + n * (k + 1) = v + (n + 1) * (k + 1) by rw [Nat.succ_mul]; omega]
      · rw [if_neg h1] at hee
        have hp : partG e (pl1 g 0 0) [] v = (([], 120), V) := by
          unfold partG
          rw [if_neg h0, show (pl1 g 0 0).g = g from rfl, hee]
          dsimp only
          rw [if_pos (by decide)]
        rw [hp]
        dsimp only
        exact ⟨V, by rw [if_pos (by decide), if_neg (by rw [Nat.succ_mul]; omega)]⟩
theorem glyIn_nil (ev : Option (Int → Nat → GRes)) (v : Nat) : glyIn [] ev v = (([], 0), v) := rfl
theorem vs_eval {n k : Nat} (hn : 1 ≤ n ∧ n ≤ 64) (hk : 1 ≤ k ∧ k ≤ 64) : ∃ V, evalO (vsO n k) 6 0 0 = if n * (k + 1) ≤ 1024 then (([], 0), n * (k + 1)) else (([], 120), V) := by
  have h2 : ∀ v, evalO (vsO n k) 4 2 v = (([], 0), v) := fun v => evalO_s (vsO n k) 3 2 v (show 2 < 3 by decide)
  have h1 : ∀ v, v ≤ 1024 → ∃ V, evalO (vsO n k) 5 1 v = if v + k ≤ 1024 then (([], 0), v + k) else (([], 120), V) := by
    intro v hv
    obtain ⟨V, hV⟩ := parts_manyV (evalO (vsO n k) 4) 2 0 (fun v hv => ⟨0, by rw [h2, Nat.add_zero, if_pos hv]⟩) k v hv
    refine ⟨V, ?_⟩
    rw [Nat.zero_add, Nat.mul_one] at hV
    have e1 := evalO_s (vsO n k) 4 1 v (show 1 < 3 by decide)
    have e2 := glyIn_cm (okL_rep hk (g := 2) (by decide)) (some (evalO (vsO n k) 4)) v
    exact (e1.trans e2).trans hV
  obtain ⟨V, hV⟩ := parts_manyV (evalO (vsO n k) 5) 1 k h1 n 0 (by decide)
  refine ⟨V, ?_⟩
  rw [Nat.zero_add] at hV
  have e1 := evalO_s (vsO n k) 5 0 0 (show 0 < 3 by decide)
  have e2 := glyIn_cm (okL_rep hn (g := 1) (by decide)) (some (evalO (vsO n k) 5)) 0
  exact (e1.trans e2).trans hV
theorem vs_ok {n k : Nat} (hn : 1 ≤ n ∧ n ≤ 64) (hk : 1 ≤ k ∧ k ≤ 64) : okBs (vsO n k) := by
  have a := okL_rep hn (g := 1) (by decide)
  have b := okL_rep hk (g := 2) (by decide)
  refine okBs_of ⟨show 1 ≤ 3 by decide, show 3 ≤ 1000 by decide⟩ (fun i hi => ?_) (cmB_len a).2
  have : i = 0 ∨ i = 1 ∨ i = 2 := by simp [vsO] at hi; omega
  rcases this with rfl | rfl | rfl
  · exact ⟨by have := (cmB_len a).1; show (cmB (repP n 1)).length ≤ _; omega, cmB_bytes _, cmB_ok a⟩
  · exact ⟨by have := (cmB_len b).1; show (cmB (repP k 2)).length ≤ _; omega, cmB_bytes _, cmB_ok b⟩
  · exact ⟨show ([] : List Int).length ≤ 1040 by decide, fun c hc => by simp [vsO] at hc, ⟨fun _ => (show checkO (decS []).1 = 0 by decide), fun h => (by cases h)⟩⟩
theorem repP_succ (j : Nat) (g : Int) : repP (j + 1) g = repP j g ++ [pl1 g 0 0] := by
  unfold repP
  rw [List.replicate_succ']
theorem bsLit3 {w W : World} {v1 v2 : Value} {b1 b2 : List Int} (hk : Kp [] (w.alloc (.cells #[v1, v2, .slice none 0 0] 25)) W) (h1 : IsInts .u8 W v1 b1) (h2 : IsInts .u8 W v2 b2) : IsBs W (.slice (some ⟨w.heap.size, 0, none⟩) 3 3) [b1, b2, []] :=
  ⟨[v1, v2, .slice none 0 0], Reads.kp (Reads.made w w.heap.size 1 3 [v1, v2, .slice none 0 0] 25 rfl rfl (by decide)) hk (by simp), fun i hi => by
    have : i = 0 ∨ i = 1 ∨ i = 2 := by simp at hi; omega
    rcases this with rfl | rfl | rfl
    · exact h1
    · exact h2
    · exact IsInts.nil _ _⟩
set_option maxRecDepth 100000 in
set_option maxHeartbeats 8000000 in
theorem law_GlyfVisits (n k : Int) (w : World) :
    Calls Tryz.prog 5 #[.int .i64 n, .int .i64 k] w fun e w' => e = .returned (.bool true) ∧ Kp [] w w' := by
  by_cases hin : (1 ≤ n ∧ n ≤ 64) ∧ 1 ≤ k ∧ k ≤ 64
  · obtain ⟨N, rfl⟩ : ∃ N : Nat, n = N := ⟨n.toNat, by omega⟩
    obtain ⟨K, rfl⟩ : ∃ K : Nat, k = K := ⟨k.toNat, by omega⟩
    have hN : 1 ≤ N ∧ N ≤ 64 := by omega
    have hK : 1 ≤ K ∧ K ≤ 64 := by omega
    have d1 : decide ((N : Int) < 1) = false := decide_eq_false (by omega)
    have d2 : decide ((64 : Int) < (N : Int)) = false := decide_eq_false (by omega)
    have d3 : decide ((K : Int) < 1) = false := decide_eq_false (by omega)
    have d4 : decide ((64 : Int) < (K : Int)) = false := decide_eq_false (by omega)
    have hone : ∀ g : Int, ∀ u ∈ ([.int .i64 g, .int .i64 16384, .int .i64 0, .int .i64 0, .int .i64 16384, .bool false, .int .i64 0, .int .i64 0, .bool false, .int .i64 0, .int .i64 0] : List Value), u.oneCell' = true := fun g u hu => by
      simp only [List.mem_cons, List.not_mem_nil, or_false] at hu
      rcases hu with rfl | rfl | rfl | rfl | rfl | rfl | rfl | rfl | rfl | rfl | rfl <;> rfl
    have HONE := Lib.hid hone
    clear hin hone
    go_enter Tryz.func5, Tryz.ntmps5
    go_wp2_with fail
    go_loopw [5, 7] (fun a i wr => ∃ j : Nat, j ≤ N ∧ i = .int .i64 j ∧ Hid (wr.ownsRow w.heap.size 34 11 a j (Cp.ptsCells (repP j 1)) ∧ Kp [] w wr)) (fun _ i _ => N - (intOf i).toNat)
    case atStart => exact ⟨0, by omega, rfl, World.ownsRow_nil _ _ _ _, Kp.refl _ _⟩
    case round =>
      obtain ⟨j, hj, rfl, HJ⟩ := hrel
      by_cases hlt : j < N
      · obtain ⟨pl, cl, hle⟩ := slice_own HJ.out.1
        subst hle
        go_wp2_with fail
        refine (Cp.rone_calls _).mono ?_; rintro e w2 ⟨rfl, hk2⟩
        have HO2 : Hid (w2.ownsRow w.heap.size 34 11 (.slice pl j cl) j (Cp.ptsCells (repP j 1))) := hk2.row HJ.out.1 (by simp)
        have HK2 : Hid (Kp [] w w2) := HJ.out.2.trans hk2
        have hsz := HK2.out.size
        clear hk2 HJ
        go_wp2_with (at_builtin; refine wpList_app rfl _ _ 35 rfl w.heap.size 34 (.agg #[.int .i64 0, .int .i64 0, .int .i64 0, .int .i64 0, .int .i64 0, .bool false, .int .i64 0, .int .i64 0, .bool false, .int .i64 0, .int .i64 0]) 11 88 Tryz.underlying35 Cp.infoPt rfl (by decide) (by decide) (.slice pl j cl) j (Cp.ptsCells (repP j 1)) rfl ?hown _ 1 [.int .i64 1, .int .i64 16384, .int .i64 0, .int .i64 0, .int .i64 16384, .bool false, .int .i64 0, .int .i64 0, .bool false, .int .i64 0, .int .i64 0] rfl ?hsrc ?hone ?hb1 ?hb2 ?hk)
        case hown => exact Kp.row (S := []) (by (repeat (first | exact Kp.refl _ _ | assumption | refine Kp.drew ?_ | refine Kp.drewN ?_ _ | refine Kp.alloc ?_ _ | (refine Kp.setCell ?_ (by first | (left; simp; done) | (right; simp; try omega)) _) | (refine Kp.trans' ?_ (by assumption) (by simp; try omega))))) HO2.out (by simp)
        case hsrc => exact Reads.made _ _ 11 1 _ _ (by simp) rfl (by decide)
        case hone => exact HONE.out 1
        case hb1 => omega
        case hb2 => simp; omega
        case hk =>
        intro u w6 hown hgr
        have HK6 : Hid (Kp [] w w6) := Kp.grown (HK2.out.alloc _) hgr (fun k hk => .inr (own_ge HO2.out k hk))
        have HO6 : Hid (w6.ownsRow w.heap.size 34 11 u (j + 1) (Cp.ptsCells (repP (j + 1) 1))) := by
          show World.ownsRow _ _ _ _ _ _ _
          rw [repP_succ, Cp.ptsCells_snoc]
          exact hown
        clear hown hgr HO2 HK2
        go_wp2_with fail
        go_roundw
        case rel => first | exact ⟨j + 1, by omega, int_eq' (by omega), HO6.out, HK6.out⟩ | ((repeat apply Exists.intro); exact ⟨⟨j + 1, by omega, int_eq' (by omega), HO6.out, HK6.out⟩, rfl⟩)
        case measure => simp [intOf] <;> omega
      · obtain rfl : j = N := by omega
        obtain ⟨pa, ca, hle⟩ := slice_own HJ.out.1
        subst hle
        have HPA : Hid (Cp.IsPts wr (.slice pa j ca) (repP j 1)) := Cp.IsPts.owned (by simp [repP]) HJ.out.1
        have HKA : Hid (Kp [] w wr) := HJ.out.2
        clear HJ
        go_wp2_with fail
        refine wp_gen ?_; intro WA hWA
        rw [← hWA] at HPA HKA
        clear hWA
        have hsA : w.heap.size ≤ WA.heap.size := HKA.out.size
        go_loopw [6, 8] (fun a i wq => ∃ q : Nat, q ≤ K ∧ i = .int .i64 q ∧ Hid (wq.ownsRow WA.heap.size 34 11 a q (Cp.ptsCells (repP q 2)) ∧ Kp [] WA wq)) (fun _ i _ => K - (intOf i).toNat)
        case atStart => exact ⟨0, by omega, rfl, World.ownsRow_nil _ _ _ _, Kp.refl _ _⟩
        case round =>
          obtain ⟨q, hq, rfl, HQ⟩ := hrel
          by_cases hlq : q < K
          · obtain ⟨pl, cl, hle⟩ := slice_own HQ.out.1
            subst hle
            go_wp2_with fail
            refine (Cp.rone_calls _).mono ?_; rintro e w2 ⟨rfl, hk2⟩
            have HO2 : Hid (w2.ownsRow WA.heap.size 34 11 (.slice pl q cl) q (Cp.ptsCells (repP q 2))) := hk2.row HQ.out.1 (by simp)
            have HK2 : Hid (Kp [] WA w2) := HQ.out.2.trans hk2
            have hsz := HK2.out.size
            clear hk2 HQ
            go_wp2_with (at_builtin; refine wpList_app rfl _ _ 35 rfl WA.heap.size 34 (.agg #[.int .i64 0, .int .i64 0, .int .i64 0, .int .i64 0, .int .i64 0, .bool false, .int .i64 0, .int .i64 0, .bool false, .int .i64 0, .int .i64 0]) 11 88 Tryz.underlying35 Cp.infoPt rfl (by decide) (by decide) (.slice pl q cl) q (Cp.ptsCells (repP q 2)) rfl ?hown _ 1 [.int .i64 2, .int .i64 16384, .int .i64 0, .int .i64 0, .int .i64 16384, .bool false, .int .i64 0, .int .i64 0, .bool false, .int .i64 0, .int .i64 0] rfl ?hsrc ?hone ?hb1 ?hb2 ?hk)
            case hown => exact Kp.row (S := []) (by (repeat (first | exact Kp.refl _ _ | assumption | refine Kp.drew ?_ | refine Kp.drewN ?_ _ | refine Kp.alloc ?_ _ | (refine Kp.setCell ?_ (by first | (left; simp; done) | (right; simp; try omega)) _) | (refine Kp.trans' ?_ (by assumption) (by simp; try omega))))) HO2.out (by simp)
            case hsrc => exact Reads.made _ _ 11 1 _ _ (by simp) rfl (by decide)
            case hone => exact HONE.out 2
            case hb1 => omega
            case hb2 => simp; omega
            case hk =>
            intro u w6 hown hgr
            have HK6 : Hid (Kp [] WA w6) := Kp.grown (HK2.out.alloc _) hgr (fun k hk => .inr (own_ge HO2.out k hk))
            have HO6 : Hid (w6.ownsRow WA.heap.size 34 11 u (q + 1) (Cp.ptsCells (repP (q + 1) 2))) := by
              show World.ownsRow _ _ _ _ _ _ _
              rw [repP_succ, Cp.ptsCells_snoc]
              exact hown
            clear hown hgr HO2 HK2
            go_wp2_with fail
            go_roundw
            case rel => first | exact ⟨q + 1, by omega, int_eq' (by omega), HO6.out, HK6.out⟩ | ((repeat apply Exists.intro); exact ⟨⟨q + 1, by omega, int_eq' (by omega), HO6.out, HK6.out⟩, rfl⟩)
            case measure => simp [intOf] <;> omega
          · obtain rfl : q = K := by omega
            obtain ⟨pb, cb, hle⟩ := slice_own HQ.out.1
            subst hle
            have HPB : Hid (Cp.IsPts wr (.slice pb q cb) (repP q 2)) := Cp.IsPts.owned (by simp [repP]) HQ.out.1
            have HPA1 : Hid (Cp.IsPts wr (.slice pa j ca) (repP j 1)) := HPA.out.kp HQ.out.2 (by simp)
            have HKB : Hid (Kp [] w wr) := HKA.out.trans HQ.out.2
            have ok := vs_ok hN hK
            obtain ⟨V, hV⟩ := vs_eval hN hK
            have HEA := Lib.hid (fun v W (h : Cp.IsPts W v (repP j 1)) => rpart_calls (repP j 1) (okL_rep hN (by decide)) v W h)
            have HEB := Lib.hid (fun v W (h : Cp.IsPts W v (repP q 2)) => rpart_calls (repP q 2) (okL_rep hK (by decide)) v W h)
            have HVS : Hid (vsO j q = [cmB (repP j 1), cmB (repP q 2), []]) := rfl
            obtain ⟨M, hM⟩ : ∃ M, j * q = M := ⟨_, rfl⟩
            have hMb : M ≤ 4096 := by have := Nat.mul_le_mul hN.2 hK.2; omega
            have hME : (j : Int) * (q : Int) = (M : Int) := by rw [← hM]; push_cast; rfl
            have hMW : IntKind.i64.wrap (M : Int) = (M : Int) := by rw [IntKind.wrap_i64]; omega
            rw [show j * (q + 1) = j + M by rw [Nat.mul_succ, hM]; omega] at hV
            clear HQ HPA HKA hM HONE
            go_wp2_with fail
            refine (HEA.out _ _ HPA1.out).mono ?_; rintro e w2 ⟨p2, c2, rfl, hi2, hk2⟩
            have HI2 := Lib.hid hi2
            have HPB2 : Hid (Cp.IsPts w2 (.slice pb q cb) (repP q 2)) := HPB.out.kp hk2 (by simp)
            have HK2 : Hid (Kp [] w w2) := HKB.out.trans hk2
            clear hi2 hk2 HPB HKB HPA1 HEA
            go_wp2_with fail
            refine (HEB.out _ _ HPB2.out).mono ?_; rintro e w3 ⟨p3, c3, rfl, hi3, hk3⟩
            have HI3 := Lib.hid hi3
            have HI2b := Lib.hid (HI2.out.kp hk3 (by simp))
            have HK3 : Hid (Kp [] w w3) := HK2.out.trans hk3
            clear hi3 hk3 HPB2 HK2 HEB HI2
            generalize (cmB (repP j 1)).length = L1 at *
            generalize (cmB (repP q 2)).length = L2 at *
            go_wp2_with fail
            have hka : Kp [] w3 (w3.alloc (.cells #[.slice p2 L1 c2, .slice p3 L2 c3, .slice none 0 0] 25)) := (Kp.refl _ _).alloc _
            have HT := Lib.hid (gtable_calls _ (vsO j q) _ (by rw [HVS.out]; exact bsLit3 (Kp.refl _ _) (HI2b.out.kp hka (by simp)) (HI3.out.kp hka (by simp))) ok.1)
            refine HT.out.mono ?_; rintro e w4 ⟨T, rfl, ht4, hk4⟩
            have HT4 : Hid (TbO w4 w4.heap.size T (vsO j q)) := ht4
            have HK4 : Hid (Kp [] w w4) := HK3.out.trans (hka.trans hk4)
            clear ht4 hk4 hka HT HI2b HI3 HK3
            go_wp2_with fail
            refine (lives13_calls _).mono ?_; rintro e w5 ⟨rfl, hk5⟩
            have HT5 : Hid (TbO w5 w4.heap.size T (vsO j q)) := HT4.out.kp0 hk5
            have HK5 : Hid (Kp [] w w5) := HK4.out.trans hk5
            have hz5 : w4.heap.size ≤ w5.heap.size := hk5.size
            clear hk5 HT4 HK4
            go_wp2_with fail
            by_cases h6 : j + M ≤ 1024
            · rw [if_pos h6] at hV
              refine (visitsO_calls _ T (vsO j q) ok 0 (by decide) w5 HT5.out hz5 _ _ _ hV).mono ?_; rintro e w6 ⟨rfl, hk6⟩
              have HK6 : Hid (Kp [] w w6) := HK5.out.trans hk6
              have d6 : decide ((1024 : Int) < (j : Int) + (M : Int)) = false := decide_eq_false (by omega)
              rw [if_pos rfl]
              clear hk6 HT5 HK5 hV HVS
              go_wp2_with fail
              go_ret
              exact ⟨by simp, HK6.out⟩
            · rw [if_neg h6] at hV
              refine (visitsO_calls _ T (vsO j q) ok 0 (by decide) w5 HT5.out hz5 _ _ _ hV).mono ?_; rintro e w6 ⟨rfl, hk6⟩
              have HK6 : Hid (Kp [] w w6) := HK5.out.trans hk6
              have d6 : decide ((1024 : Int) < (j : Int) + (M : Int)) = true := decide_eq_true (by omega)
              rw [if_neg (by decide)]
              clear hk6 HT5 HK5 hV HVS
              go_wp2_with fail
              go_ret
              exact ⟨by simp, HK6.out⟩
  · have hc : n < 1 ∨ (¬ n < 1 ∧ 64 < n) ∨ (¬ n < 1 ∧ ¬ 64 < n ∧ k < 1) ∨ (¬ n < 1 ∧ ¬ 64 < n ∧ ¬ k < 1 ∧ 64 < k) := by omega
    rcases hc with h1 | ⟨h1, h2⟩ | ⟨h1, h2, h3⟩ | ⟨h1, h2, h3, h4⟩
    · have d1 : decide (n < 1) = true := decide_eq_true h1
      go_enter Tryz.func5, Tryz.ntmps5
      go_wp2_with fail
      refine (lives13_calls _).mono ?_; rintro e w1 ⟨rfl, hk⟩
      go_wp2_with fail
      go_ret
      exact ⟨rfl, hk⟩
    · have d1 : decide (n < 1) = false := decide_eq_false h1
      have d2 : decide (64 < n) = true := decide_eq_true h2
      go_enter Tryz.func5, Tryz.ntmps5
      go_wp2_with fail
      refine (lives13_calls _).mono ?_; rintro e w1 ⟨rfl, hk⟩
      go_wp2_with fail
      go_ret
      exact ⟨rfl, hk⟩
    · have d1 : decide (n < 1) = false := decide_eq_false h1
      have d2 : decide (64 < n) = false := decide_eq_false h2
      have d3 : decide (k < 1) = true := decide_eq_true h3
      go_enter Tryz.func5, Tryz.ntmps5
      go_wp2_with fail
      refine (lives13_calls _).mono ?_; rintro e w1 ⟨rfl, hk⟩
      go_wp2_with fail
      go_ret
      exact ⟨rfl, hk⟩
    · have d1 : decide (n < 1) = false := decide_eq_false h1
      have d2 : decide (64 < n) = false := decide_eq_false h2
      have d3 : decide (k < 1) = false := decide_eq_false h3
      have d4 : decide (64 < k) = true := decide_eq_true h4
      go_enter Tryz.func5, Tryz.ntmps5
      go_wp2_with fail
      refine (lives13_calls _).mono ?_; rintro e w1 ⟨rfl, hk⟩
      go_wp2_with fail
      go_ret
      exact ⟨rfl, hk⟩
end Go.Proofs.YtafkhnlmipddmaaGreat

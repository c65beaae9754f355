/- compose: put. (Written by wip/compose/gencpq.py.) · compose: put. (Written by wip/compose/gencpq.py.) · compose: put. (Written by wip/compose/gencpq.py.) · compose: put of the reference. (Written by wip/compose/gencpr.py.) · compose: put, and the reference's put, of any part that may be. (Written by wip/compose/gencps.py.) · compose: Encode (the check of all parts); what Encode gives, in plain Lean · compose: Encode · compose: Encode of the reference · compose: what was encoded is decoded, in plain Lean. (Merged by wip/tools/mergetpl.py out of CpQm, CpQt, CpQu, CpRu, CpS, CpT, CpU, CpV, CpBa.) -/
import Derived.Test.YtafkhnlmipddmaaGreatCmC
import Derived.Test.YtafkhnlmipddmaaGreatCmA
import Derived.Test.YtafkhnlmipddmaaGreatWmA
import Derived.Test.YtafkhnlmipddmaaGreatPair
import Derived.BigQuiet
import Derived.Deep.QuietTactic
import Derived.Deep.RegionHeld3
import Derived.Deep.DeepCutAuto
import Derived.Deep.CutBlock
import Derived.Test.YtafkhnlmipddmaaGreatCmB
namespace Go.Proofs.YtafkhnlmipddmaaGreat.Cp
open Go.RowKit
set_option linter.unusedVariables false
set_option linter.unusedSimpArgs false
end Go.Proofs.YtafkhnlmipddmaaGreat.Cp
namespace Go.Proofs.YtafkhnlmipddmaaGreat.Cp
open Go.RowKit
set_option linter.unusedVariables false
set_option linter.unusedSimpArgs false
end Go.Proofs.YtafkhnlmipddmaaGreat.Cp
namespace Go.Proofs.YtafkhnlmipddmaaGreat.Cp
open Go.RowKit
set_option linter.unusedVariables false
set_option linter.unusedSimpArgs false
end Go.Proofs.YtafkhnlmipddmaaGreat.Cp
namespace Go.Proofs.YtafkhnlmipddmaaGreat.Cp
open Go.RowKit
set_option linter.unusedVariables false
set_option linter.unusedSimpArgs false
set_option maxRecDepth 100000 in
set_option maxHeartbeats 4000000 in
theorem rput_ugy (r : Nat) (room : Int) (acc : List Int) (g xx xy yx yy dx dy : Int) (w : World) (h : RWt w r room acc) (hfit : fitsM xx xy yx yy = true) (hg : 0 ≤ g ∧ g < 65536) (hA : -32768 ≤ dx ∧ dx < 65536) (hB : -32768 ≤ dy ∧ dy < 65536) (hY : bothB dx dy (-128) 127 = true) (hn : (acc.length : Int) + 16 ≤ room) (hr : room ≤ 1073741824) :
    Calls Tryz.prog 30 #[.pointer (some ⟨r, 0, none⟩), ptV (⟨g, xx, xy, yx, yy, false, dx, dy, false, 0, 0⟩ : Pt), .bool true] w fun e w' => e = .returned (.tuple #[]) ∧ RWt w' r room (acc ++ putM (⟨g, xx, xy, yx, yy, false, dx, dy, false, 0, 0⟩ : Pt) true) ∧ Kp [r] w w' := by
  have HQ : Hid (putM (⟨g, xx, xy, yx, yy, false, dx, dy, false, 0, 0⟩ : Pt) true = bytesN 2 (mflag xx xy yx yy + 4098 + 32) ++ bytesN 2 g ++ bytesN 1 dx ++ bytesN 1 dy ++ (mnums xx xy yx yy).flatMap (bytesN 2)) := by
    show _ = _; rw [show mflag xx xy yx yy + 4098 + 32 = mflag xx xy yx yy + 4098 + 32 + 0 by omega]; simp only [putM, flagsM, lenN, tinyB, tflag, numA, numB, hY]; rfl
  have HN := Lib.hid (mnums_in xx xy yx yy hfit)
  have hNL := mnums_len xx xy yx yy
  have HF := Lib.hid (or_sumR _ (mflag_cases xx xy yx yy) 4098 (by simp))
  have HFC := Lib.hid (mflag_cases xx xy yx yy)
  rw [show ptV (⟨g, xx, xy, yx, yy, false, dx, dy, false, 0, 0⟩ : Pt) = .agg #[.int .i64 g, .int .i64 xx, .int .i64 xy, .int .i64 yx, .int .i64 yy, .bool false, .int .i64 dx, .int .i64 dy, .bool false, .int .i64 0, .int .i64 0] from rfl]
  obtain ⟨hg0, hg1⟩ := hg
  obtain ⟨hA0, hA1⟩ := hA
  obtain ⟨hB0, hB1⟩ := hB
  have HW := Lib.hid h
  have hrw : r < w.heap.size := h.lt
  have HY := Lib.hid hY
  have hblk := heap_alloc_new w (.cells #[.int .i64 g, .int .i64 xx, .int .i64 xy, .int .i64 yx, .int .i64 yy, .bool false, .int .i64 dx, .int .i64 dy, .bool false, .int .i64 0, .int .i64 0] 34)
  have hk02 : Kp [] w (w.alloc (.cells #[.int .i64 g, .int .i64 xx, .int .i64 xy, .int .i64 yx, .int .i64 yy, .bool false, .int .i64 dx, .int .i64 dy, .bool false, .int .i64 0, .int .i64 0] 34)) := (Kp.refl _ _).alloc _
  clear hY hfit h
  go_enter Tryz.func30, Tryz.ntmps30
  go_wp2_with fail
  have c00 := hblk
  generalize hw1 : w.alloc (.cells #[.int .i64 g, .int .i64 xx, .int .i64 xy, .int .i64 yx, .int .i64 yy, .bool false, .int .i64 dx, .int .i64 dy, .bool false, .int .i64 0, .int .i64 0] 34) = w1 at *
  have hsz : w.heap.size < w1.heap.size := by rw [← hw1]; simp
  clear hw1 c00
  generalize hBv : w.heap.size = B at *
  have HBv := Lib.hid hBv
  have HBL := Lib.hid hblk
  have HK := Lib.hid hk02
  clear hBv hblk hk02
  have c0 := cell_of_row _ B 0 _ _ _ HBL.out
  have c1 := cell_of_row _ B 1 _ _ _ HBL.out
  have c2 := cell_of_row _ B 2 _ _ _ HBL.out
  have c3 := cell_of_row _ B 3 _ _ _ HBL.out
  have c4 := cell_of_row _ B 4 _ _ _ HBL.out
  have c5 := cell_of_row _ B 5 _ _ _ HBL.out
  have c6 := cell_of_row _ B 6 _ _ _ HBL.out
  have c7 := cell_of_row _ B 7 _ _ _ HBL.out
  have c8 := cell_of_row _ B 8 _ _ _ HBL.out
  have c9 := cell_of_row _ B 9 _ _ _ HBL.out
  have c10 := cell_of_row _ B 10 _ _ _ HBL.out
  simp only [List.getElem?_toArray, List.getElem?_cons_succ, List.getElem?_cons_zero] at c0 c1 c2 c3 c4 c5 c6 c7 c8 c9 c10
  have hy : -128 ≤ dx ∧ dx < 128 ∧ -128 ≤ dy ∧ dy < 128 := by
    have h := HY.out; unfold bothB at h
    simp only [Bool.and_eq_true, decide_eq_true_eq, Bool.and_eq_false_iff, decide_eq_false_iff_not] at h
    omega
  obtain ⟨s1, s2, s3, s4, s5⟩ := or_start
  go_quiet (fail)
  have hq : Kp [] w1 (w1.drewN nq) := (Kp.refl _ _).drewN _
  replace HBL := Lib.hid (hq.heap HBL.out (by simp))
  replace HK := Lib.hid ((HK.out : Kp [] w w1).trans hq)
  replace hsz : B < (w1.drewN nq).heap.size := hsz
  clear hq c0 c1 c2 c3 c4 c5 c6 c7 c8 c9 c10
  generalize w1.drewN nq = w9 at *
  have c0 := cell_of_row _ B 0 _ _ _ HBL.out
  have c1 := cell_of_row _ B 1 _ _ _ HBL.out
  have c2 := cell_of_row _ B 2 _ _ _ HBL.out
  have c3 := cell_of_row _ B 3 _ _ _ HBL.out
  have c4 := cell_of_row _ B 4 _ _ _ HBL.out
  have c5 := cell_of_row _ B 5 _ _ _ HBL.out
  have c6 := cell_of_row _ B 6 _ _ _ HBL.out
  have c7 := cell_of_row _ B 7 _ _ _ HBL.out
  have c8 := cell_of_row _ B 8 _ _ _ HBL.out
  have c9 := cell_of_row _ B 9 _ _ _ HBL.out
  have c10 := cell_of_row _ B 10 _ _ _ HBL.out
  simp only [List.getElem?_toArray, List.getElem?_cons_succ, List.getElem?_cons_zero] at c0 c1 c2 c3 c4 c5 c6 c7 c8 c9 c10
  go_wp2_with fail
  go_quiet (fail)
  have hq : Kp [] w9 (w9.drewN nq) := (Kp.refl _ _).drewN _
  replace HBL := Lib.hid (hq.heap HBL.out (by simp))
  replace HK := Lib.hid ((HK.out : Kp [] w w9).trans hq)
  replace hsz : B < (w9.drewN nq).heap.size := hsz
  clear hq c0 c1 c2 c3 c4 c5 c6 c7 c8 c9 c10
  generalize w9.drewN nq = w2 at *
  have c0 := cell_of_row _ B 0 _ _ _ HBL.out
  have c1 := cell_of_row _ B 1 _ _ _ HBL.out
  have c2 := cell_of_row _ B 2 _ _ _ HBL.out
  have c3 := cell_of_row _ B 3 _ _ _ HBL.out
  have c4 := cell_of_row _ B 4 _ _ _ HBL.out
  have c5 := cell_of_row _ B 5 _ _ _ HBL.out
  have c6 := cell_of_row _ B 6 _ _ _ HBL.out
  have c7 := cell_of_row _ B 7 _ _ _ HBL.out
  have c8 := cell_of_row _ B 8 _ _ _ HBL.out
  have c9 := cell_of_row _ B 9 _ _ _ HBL.out
  have c10 := cell_of_row _ B 10 _ _ _ HBL.out
  simp only [List.getElem?_toArray, List.getElem?_cons_succ, List.getElem?_cons_zero] at c0 c1 c2 c3 c4 c5 c6 c7 c8 c9 c10

  go_upto_region 5 with fail
  go_cut [9] (fun s9 wx => s9 = .bool true ∧ w2 = wx)
  case first =>
    go_wp2_with fail
    all_goals
      go_meet
      first | exact ⟨rfl, rfl⟩ | exact ⟨congrArg Value.bool (decide_eq_true (by omega)), rfl⟩ | exact ⟨congrArg Value.bool (decide_eq_false (by omega)), rfl⟩
  obtain ⟨rfl, rfl⟩ := hcut
  clear hy
  go_upto_block 0 with fail
  obtain ⟨E, hE⟩ : ∃ E, mflag xx xy yx yy + 4098 = E := ⟨_, rfl⟩
  have HE : Hid (mflag xx xy yx yy + 4098 = E) := hE
  have hE0 : 0 ≤ E := by have := HFC.out; omega
  have hE1 : E ≤ 10000 := by have := HFC.out; omega
  have h32 : bits .or .i64 E 32 = E + 32 := by rw [← hE]; exact HF.out.2
  clear hE
  go_cut [6, 10] (fun s6 s10 wx => s6 = .int .i64 E ∧ ∃ p c, s10 = .slice p (mnums xx xy yx yy).length c ∧ SwSt w2 wx B s10 (mnums xx xy yx yy))
  case first =>
    clear h32
    have HK3 := Lib.hid hsz
    obtain ⟨X, hX, hcmp⟩ := one_cmp xx xy yx yy
    have HX := Lib.hid hX
    clear hX
    have q0 := fun n : KW w2 => KW.cell c1 n
    have q1 := fun n : KW w2 => KW.cell c2 n
    have q2 := fun n : KW w2 => KW.cell c3 n
    have q3 := fun n : KW w2 => KW.cell c4 n
    go_wp2_with fail
    refine wp_region_kq (by kernel_rfl) (by kernel_rfl) ?_
    repeat (go_big_quiet_step ((go_at_call 11; exact Calls.kq (rone_calls _))))
    refine wpQuiet_nil ?_
    intro w3 hw'
    obtain ⟨⟨_, hkw3⟩, rfl⟩ := hw'
    have j1 := hkw3.cell c1 (by simp)
    have j2 := hkw3.cell c2 (by simp)
    have j3 := hkw3.cell c3 (by simp)
    have j4 := hkw3.cell c4 (by simp)
    clear hcmp q0 q1 q2 q3 c0 c1 c2 c3 c4 c5 c6 c7 c8 c9 c10
    cases X
    · have hn' : ¬ (xx = 16384 ∧ xy = 0 ∧ yx = 0 ∧ yy = 16384) := fun h => by have := HX.out.2 h; simp at this
      by_cases hbc : xy ≠ 0 ∨ yx ≠ 0
      · have hf : mflag xx xy yx yy = 128 := by unfold mflag; rw [if_neg hn', if_pos hbc]
        have hm : mnums xx xy yx yy = [xx, xy, yx, yy] := by unfold mnums; rw [if_neg hn', if_pos hbc]
        have HF2 := Lib.hid hf
        have HM2 := Lib.hid hm
        have hor : bits .or .i64 4098 128 = E := by have h := HF.out.1; have h2 := HE.out; rw [hf] at h h2; rw [h (by decide)]; exact h2
        clear HX hn' hf hm
        by_cases hb : xy = 0
        · have hc : yx ≠ 0 := by rcases hbc with h | h; exact absurd hb h; exact h
          clear hbc
          subst hb
          go_wp2_with fail
          go_region_held3 (fun w' => w'.cell? ⟨B, 1, none⟩ = some (.int .i64 xx) ∧ w'.cell? ⟨B, 2, none⟩ = some (.int .i64 0) ∧ w'.cell? ⟨B, 3, none⟩ = some (.int .i64 yx) ∧ w'.cell? ⟨B, 4, none⟩ = some (.int .i64 yy)) (first | go_keep | exact ⟨j1, j2, j3, j4⟩) (fail)
          all_goals
            go_wp2_with fail
            go_meet
            refine ⟨rfl, ?_⟩
            rw [HM2.out]
            exact ⟨_, _, rfl, IsInts.lit .i64 3 _ (by (repeat (first | exact Kp.refl _ _ | assumption | refine Kp.drew ?_ | refine Kp.drewN ?_ _ | refine Kp.alloc ?_ _ | (refine Kp.setCell ?_ (by first | (left; simp; done) | (right; simp; try omega)) _) | (refine Kp.trans' ?_ (by assumption) (by simp; try omega))))) _ _ (by simp [World.size_drew, World.drewN]) rfl (by decide), fun k hk => by (have h1 := hkw3.size; simp [World.size_drew, World.drewN] at hk ⊢; omega), by (repeat (first | exact Kp.refl _ _ | assumption | refine Kp.drew ?_ | refine Kp.drewN ?_ _ | refine Kp.alloc ?_ _ | (refine Kp.setCell ?_ (by first | (left; simp; done) | (right; simp; try omega)) _) | (refine Kp.trans' ?_ (by assumption) (by simp; try omega))))⟩
        · clear hbc
          go_wp2_with fail
          go_region_held3 (fun w' => w'.cell? ⟨B, 1, none⟩ = some (.int .i64 xx) ∧ w'.cell? ⟨B, 2, none⟩ = some (.int .i64 xy) ∧ w'.cell? ⟨B, 3, none⟩ = some (.int .i64 yx) ∧ w'.cell? ⟨B, 4, none⟩ = some (.int .i64 yy)) (first | go_keep | exact ⟨j1, j2, j3, j4⟩) (fail)
          all_goals
            go_wp2_with fail
            go_meet
            refine ⟨rfl, ?_⟩
            rw [HM2.out]
            exact ⟨_, _, rfl, IsInts.lit .i64 3 _ (by (repeat (first | exact Kp.refl _ _ | assumption | refine Kp.drew ?_ | refine Kp.drewN ?_ _ | refine Kp.alloc ?_ _ | (refine Kp.setCell ?_ (by first | (left; simp; done) | (right; simp; try omega)) _) | (refine Kp.trans' ?_ (by assumption) (by simp; try omega))))) _ _ (by simp [World.size_drew, World.drewN]) rfl (by decide), fun k hk => by (have h1 := hkw3.size; simp [World.size_drew, World.drewN] at hk ⊢; omega), by (repeat (first | exact Kp.refl _ _ | assumption | refine Kp.drew ?_ | refine Kp.drewN ?_ _ | refine Kp.alloc ?_ _ | (refine Kp.setCell ?_ (by first | (left; simp; done) | (right; simp; try omega)) _) | (refine Kp.trans' ?_ (by assumption) (by simp; try omega))))⟩
      · have hb : xy = 0 := by omega
        have hc : yx = 0 := by omega
        clear hbc
        subst hb; subst hc
        by_cases had : xx = yy
        · have hf : mflag xx 0 0 yy = 8 := by unfold mflag; rw [if_neg hn', if_neg (by simp), if_pos had]
          have hm : mnums xx 0 0 yy = [xx] := by unfold mnums; rw [if_neg hn', if_neg (by simp), if_pos had]
          have hor : bits .or .i64 4098 8 = E := by have h := HF.out.1; have h2 := HE.out; rw [hf] at h h2; rw [h (by decide)]; exact h2
          subst had
          have HM2 := Lib.hid hm
          clear HX hn' hf hm
          go_wp2_with fail
          go_region_held3 (fun w' => w'.cell? ⟨B, 1, none⟩ = some (.int .i64 xx) ∧ w'.cell? ⟨B, 2, none⟩ = some (.int .i64 0) ∧ w'.cell? ⟨B, 3, none⟩ = some (.int .i64 0) ∧ w'.cell? ⟨B, 4, none⟩ = some (.int .i64 xx)) (first | go_keep | exact ⟨j1, j2, j3, j4⟩) (fail)
          all_goals
            go_wp2_with fail
            go_meet
            refine ⟨rfl, ?_⟩
            rw [HM2.out]
            exact ⟨_, _, rfl, IsInts.lit .i64 3 _ (by (repeat (first | exact Kp.refl _ _ | assumption | refine Kp.drew ?_ | refine Kp.drewN ?_ _ | refine Kp.alloc ?_ _ | (refine Kp.setCell ?_ (by first | (left; simp; done) | (right; simp; try omega)) _) | (refine Kp.trans' ?_ (by assumption) (by simp; try omega))))) _ _ (by simp [World.size_drew, World.drewN]) rfl (by decide), fun k hk => by (have h1 := hkw3.size; simp [World.size_drew, World.drewN] at hk ⊢; omega), by (repeat (first | exact Kp.refl _ _ | assumption | refine Kp.drew ?_ | refine Kp.drewN ?_ _ | refine Kp.alloc ?_ _ | (refine Kp.setCell ?_ (by first | (left; simp; done) | (right; simp; try omega)) _) | (refine Kp.trans' ?_ (by assumption) (by simp; try omega))))⟩
        · have hf : mflag xx 0 0 yy = 64 := by unfold mflag; rw [if_neg hn', if_neg (by simp), if_neg had]
          have hm : mnums xx 0 0 yy = [xx, yy] := by unfold mnums; rw [if_neg hn', if_neg (by simp), if_neg had]
          have hor : bits .or .i64 4098 64 = E := by have h := HF.out.1; have h2 := HE.out; rw [hf] at h h2; rw [h (by decide)]; exact h2
          have HM2 := Lib.hid hm
          clear HX hn' hf hm
          go_wp2_with fail
          go_region_held3 (fun w' => w'.cell? ⟨B, 1, none⟩ = some (.int .i64 xx) ∧ w'.cell? ⟨B, 2, none⟩ = some (.int .i64 0) ∧ w'.cell? ⟨B, 3, none⟩ = some (.int .i64 0) ∧ w'.cell? ⟨B, 4, none⟩ = some (.int .i64 yy)) (first | go_keep | exact ⟨j1, j2, j3, j4⟩) (fail)
          all_goals
            go_wp2_with fail
            go_meet
            refine ⟨rfl, ?_⟩
            rw [HM2.out]
            exact ⟨_, _, rfl, IsInts.lit .i64 3 _ (by (repeat (first | exact Kp.refl _ _ | assumption | refine Kp.drew ?_ | refine Kp.drewN ?_ _ | refine Kp.alloc ?_ _ | (refine Kp.setCell ?_ (by first | (left; simp; done) | (right; simp; try omega)) _) | (refine Kp.trans' ?_ (by assumption) (by simp; try omega))))) _ _ (by simp [World.size_drew, World.drewN]) rfl (by decide), fun k hk => by (have h1 := hkw3.size; simp [World.size_drew, World.drewN] at hk ⊢; omega), by (repeat (first | exact Kp.refl _ _ | assumption | refine Kp.drew ?_ | refine Kp.drewN ?_ _ | refine Kp.alloc ?_ _ | (refine Kp.setCell ?_ (by first | (left; simp; done) | (right; simp; try omega)) _) | (refine Kp.trans' ?_ (by assumption) (by simp; try omega))))⟩
    · obtain ⟨rfl, rfl, rfl, rfl⟩ := HX.out.1 rfl
      clear HX
      go_wp2_with fail
      go_meet
      have hE2 : E = 4098 := HE.out.symm
      subst hE2
      exact ⟨rfl, _, _, rfl, IsInts.nil _ _, by simp, by (repeat (first | exact Kp.refl _ _ | assumption | refine Kp.drew ?_ | refine Kp.drewN ?_ _ | refine Kp.alloc ?_ _ | (refine Kp.setCell ?_ (by first | (left; simp; done) | (right; simp; try omega)) _) | (refine Kp.trans' ?_ (by assumption) (by simp; try omega))))⟩
  obtain ⟨rfl, np, nc, rfl, hI, hge, hkc⟩ := hcut
  have H3 : Hid (RWt wc r room acc) := HW.out.kp0 (HK.out.trans hkc)
  replace HBL := Lib.hid (hkc.heap HBL.out (by simp))
  replace HK := Lib.hid (HK.out.trans hkc)
  replace hsz : B < wc.heap.size := by have := hkc.size; omega
  rw [HE.out] at HQ
  clear HE HFC HF HY hkc
  generalize mnums xx xy yx yy = nums at *
  obtain ⟨N, hN⟩ : ∃ N, nums.length = N := ⟨_, rfl⟩
  have HNL := Lib.hid hN
  rw [hN] at hNL hI hge ⊢
  have HI := Lib.hid hI
  have HGE := Lib.hid hge
  clear hI hge hN c0 c1 c2 c3 c4 c5 c6 c7 c8 c9 c10 s1 s2 s3 s4 s5
  have hBr : B ∉ [r] := by simp; omega
  go_wp2_with fail
  refine (rwu2_calls r room acc (E + 32) (by omega) (by omega) _ H3.out (by omega) (by omega)).mono ?_; rintro e w5 ⟨rfl, h5, hk5⟩
  have H5 := Lib.hid h5
  have HK5 : Hid (Kp [r] wc w5) := hk5
  have c0 := cell_of_row _ B 0 _ _ _ (hk5.heap HBL.out hBr)
  simp only [List.getElem?_toArray, List.getElem?_cons_zero] at c0
  clear h5 hk5 h32
  go_wp2_with fail
  refine (rwu2_calls r room (acc ++ bytesN 2 (E + 32)) g (by omega) (by omega) _ H5.out (by simp [bytesN_length]; omega) (by omega)).mono ?_; rintro e w6 ⟨rfl, h6, hk6⟩
  have H6 := Lib.hid h6
  have HK6 : Hid (Kp [r] wc w6) := HK5.out.trans hk6
  clear h6 hk6 c0
  go_wp2_with fail
  refine (rwu1_calls r room (acc ++ bytesN 2 (E + 32) ++ bytesN 2 g) dx (by omega) (by omega) _ H6.out (by simp [bytesN_length]; omega) (by omega)).mono ?_; rintro e w7 ⟨rfl, h7, hk7⟩
  have H7 := Lib.hid h7
  have HK7 : Hid (Kp [r] wc w7) := HK6.out.trans hk7
  clear h7 hk7
  go_wp2_with fail
  refine (rwu1_calls r room (acc ++ bytesN 2 (E + 32) ++ bytesN 2 g ++ bytesN 1 dx) dy (by omega) (by omega) _ H7.out (by simp [bytesN_length]; omega) (by omega)).mono ?_; rintro e w8 ⟨rfl, h8, hk8⟩
  have H8 := Lib.hid h8
  have HK8 : Hid (Kp [r] wc w8) := HK7.out.trans hk8
  clear h8 hk8 HK5 HK6 HK7 H5 H6 H7 H3
  obtain ⟨D, hD⟩ : ∃ D, acc ++ bytesN 2 (E + 32) ++ bytesN 2 g ++ bytesN 1 dx ++ bytesN 1 dy = D := ⟨_, rfl⟩
  have HQ2 : Hid (acc ++ putM (⟨g, xx, xy, yx, yy, false, dx, dy, false, 0, 0⟩ : Pt) true = D ++ nums.flatMap (bytesN 2)) := by
    show _ = _; rw [HQ.out, ← hD]; simp only [List.append_assoc]
  have hDl : D.length ≤ acc.length + 8 := by rw [← hD]; simp [bytesN_length]
  rw [hD] at H8
  clear hD HQ
  go_wp2_with fail
  go_loopw [12] (fun i wr => ∃ j : Nat, j ≤ N ∧ i = .int .i64 j ∧ Hid (RWt wr r room (D ++ (nums.take j).flatMap (bytesN 2)) ∧ Kp [r] wc wr)) (fun i _ => N - (intOf i).toNat)
  case atStart => exact ⟨0, by omega, rfl, by simpa using H8.out, HK8.out⟩
  case round =>
    obtain ⟨j, hj, rfl, HJ⟩ := hrel
    clear H8 HK8
    by_cases hlt : j < N
    · have hI := HI.out.kp HJ.out.2 (fun t ht e => by have h1 := HGE.out t e; simp at ht; omega)
      have hC : ∃ q off, np = some ⟨q, off, none⟩ ∧ wr.cell? ⟨q, off + j, none⟩ = some (.int .i64 (nums.getD j 0)) := by
        rcases hI with ⟨⟨a, e⟩, e0⟩ | ⟨q, off, c, e, _, _, h3⟩
        · have := HNL.out; rw [e0] at this; simp at this; omega
        · cases e; exact ⟨q, off, rfl, h3 j (by rw [HNL.out]; exact hlt)⟩
      obtain ⟨q, off, rfl, hc⟩ := hC
      have hx := HN.out (nums.getD j 0) (by rw [List.getD_eq_getElem?_getD, List.getElem?_eq_getElem (by rw [HNL.out]; exact hlt)]; exact List.getElem_mem _)
      have hsn : Hid (D ++ (nums.take (j + 1)).flatMap (bytesN 2) = D ++ (nums.take j).flatMap (bytesN 2) ++ bytesN 2 (nums.getD j 0)) := by
        show _ = _; rw [flat_snoc nums j (by rw [HNL.out]; exact hlt), List.append_assoc]
      have hln : (D ++ (nums.take j).flatMap (bytesN 2)).length ≤ acc.length + 14 := by
        rw [List.length_append, flat2_len, List.length_take]; omega
      generalize nums.getD j 0 = x at *
      generalize D ++ (nums.take j).flatMap (bytesN 2) = ac at *
      obtain ⟨hx0, hx1⟩ := hx
      clear hI
      go_wp2_with fail
      refine (rwu2_calls r room ac x (by omega) (by omega) _ HJ.out.1 (by omega) (by omega)).mono ?_; rintro e w9 ⟨rfl, h9, hk9⟩
      have HS9 : Hid (RWt w9 r room (D ++ (nums.take (j + 1)).flatMap (bytesN 2)) ∧ Kp [r] wc w9) := ⟨by rw [hsn.out]; exact h9, HJ.out.2.trans hk9⟩
      clear h9 hk9 hc
      go_wp2_with fail
      go_roundw
      case rel => first | exact ⟨j + 1, by omega, int_eq' (by omega), HS9⟩ | ((repeat apply Exists.intro); exact ⟨⟨j + 1, by omega, int_eq' (by omega), HS9⟩, rfl⟩)
      case measure => simp [intOf]; omega
    · obtain rfl : j = N := by omega
      go_wp2_with fail
      go_end0
      refine ⟨rfl, ?_, (HK.out.more (by simp)).trans HJ.out.2⟩
      rw [HQ2.out]
      have := HJ.out.1
      rwa [List.take_of_length_le (by rw [HNL.out]; exact Nat.le_refl _)] at this
set_option maxRecDepth 100000 in
set_option maxHeartbeats 4000000 in
theorem rput_ugw (r : Nat) (room : Int) (acc : List Int) (g xx xy yx yy dx dy : Int) (w : World) (h : RWt w r room acc) (hfit : fitsM xx xy yx yy = true) (hg : 0 ≤ g ∧ g < 65536) (hA : -32768 ≤ dx ∧ dx < 65536) (hB : -32768 ≤ dy ∧ dy < 65536) (hY : bothB dx dy (-128) 127 = false) (hn : (acc.length : Int) + 16 ≤ room) (hr : room ≤ 1073741824) :
    Calls Tryz.prog 30 #[.pointer (some ⟨r, 0, none⟩), ptV (⟨g, xx, xy, yx, yy, false, dx, dy, false, 0, 0⟩ : Pt), .bool true] w fun e w' => e = .returned (.tuple #[]) ∧ RWt w' r room (acc ++ putM (⟨g, xx, xy, yx, yy, false, dx, dy, false, 0, 0⟩ : Pt) true) ∧ Kp [r] w w' := by
  have HQ : Hid (putM (⟨g, xx, xy, yx, yy, false, dx, dy, false, 0, 0⟩ : Pt) true = bytesN 2 (mflag xx xy yx yy + 4099 + 32) ++ bytesN 2 g ++ bytesN 2 dx ++ bytesN 2 dy ++ (mnums xx xy yx yy).flatMap (bytesN 2)) := by
    show _ = _; rw [show mflag xx xy yx yy + 4099 + 32 = mflag xx xy yx yy + 4098 + 32 + 1 by omega]; simp only [putM, flagsM, lenN, tinyB, tflag, numA, numB, hY]; rfl
  have HN := Lib.hid (mnums_in xx xy yx yy hfit)
  have hNL := mnums_len xx xy yx yy
  have HF := Lib.hid (or_sumR _ (mflag_cases xx xy yx yy) 4099 (by simp))
  have HFC := Lib.hid (mflag_cases xx xy yx yy)
  rw [show ptV (⟨g, xx, xy, yx, yy, false, dx, dy, false, 0, 0⟩ : Pt) = .agg #[.int .i64 g, .int .i64 xx, .int .i64 xy, .int .i64 yx, .int .i64 yy, .bool false, .int .i64 dx, .int .i64 dy, .bool false, .int .i64 0, .int .i64 0] from rfl]
  obtain ⟨hg0, hg1⟩ := hg
  obtain ⟨hA0, hA1⟩ := hA
  obtain ⟨hB0, hB1⟩ := hB
  have HW := Lib.hid h
  have hrw : r < w.heap.size := h.lt
  have HY := Lib.hid hY
  have hblk := heap_alloc_new w (.cells #[.int .i64 g, .int .i64 xx, .int .i64 xy, .int .i64 yx, .int .i64 yy, .bool false, .int .i64 dx, .int .i64 dy, .bool false, .int .i64 0, .int .i64 0] 34)
  have hk02 : Kp [] w (w.alloc (.cells #[.int .i64 g, .int .i64 xx, .int .i64 xy, .int .i64 yx, .int .i64 yy, .bool false, .int .i64 dx, .int .i64 dy, .bool false, .int .i64 0, .int .i64 0] 34)) := (Kp.refl _ _).alloc _
  clear hY hfit h
  go_enter Tryz.func30, Tryz.ntmps30
  go_wp2_with fail
  have c00 := hblk
  generalize hw1 : w.alloc (.cells #[.int .i64 g, .int .i64 xx, .int .i64 xy, .int .i64 yx, .int .i64 yy, .bool false, .int .i64 dx, .int .i64 dy, .bool false, .int .i64 0, .int .i64 0] 34) = w1 at *
  have hsz : w.heap.size < w1.heap.size := by rw [← hw1]; simp
  clear hw1 c00
  generalize hBv : w.heap.size = B at *
  have HBv := Lib.hid hBv
  have HBL := Lib.hid hblk
  have HK := Lib.hid hk02
  clear hBv hblk hk02
  have c0 := cell_of_row _ B 0 _ _ _ HBL.out
  have c1 := cell_of_row _ B 1 _ _ _ HBL.out
  have c2 := cell_of_row _ B 2 _ _ _ HBL.out
  have c3 := cell_of_row _ B 3 _ _ _ HBL.out
  have c4 := cell_of_row _ B 4 _ _ _ HBL.out
  have c5 := cell_of_row _ B 5 _ _ _ HBL.out
  have c6 := cell_of_row _ B 6 _ _ _ HBL.out
  have c7 := cell_of_row _ B 7 _ _ _ HBL.out
  have c8 := cell_of_row _ B 8 _ _ _ HBL.out
  have c9 := cell_of_row _ B 9 _ _ _ HBL.out
  have c10 := cell_of_row _ B 10 _ _ _ HBL.out
  simp only [List.getElem?_toArray, List.getElem?_cons_succ, List.getElem?_cons_zero] at c0 c1 c2 c3 c4 c5 c6 c7 c8 c9 c10
  have hy : dx < -128 ∨ 128 ≤ dx ∨ dy < -128 ∨ 128 ≤ dy := by
    have h := HY.out; unfold bothB at h
    simp only [Bool.and_eq_true, decide_eq_true_eq, Bool.and_eq_false_iff, decide_eq_false_iff_not] at h
    omega
  obtain ⟨s1, s2, s3, s4, s5⟩ := or_start
  go_quiet (fail)
  have hq : Kp [] w1 (w1.drewN nq) := (Kp.refl _ _).drewN _
  replace HBL := Lib.hid (hq.heap HBL.out (by simp))
  replace HK := Lib.hid ((HK.out : Kp [] w w1).trans hq)
  replace hsz : B < (w1.drewN nq).heap.size := hsz
  clear hq c0 c1 c2 c3 c4 c5 c6 c7 c8 c9 c10
  generalize w1.drewN nq = w9 at *
  have c0 := cell_of_row _ B 0 _ _ _ HBL.out
  have c1 := cell_of_row _ B 1 _ _ _ HBL.out
  have c2 := cell_of_row _ B 2 _ _ _ HBL.out
  have c3 := cell_of_row _ B 3 _ _ _ HBL.out
  have c4 := cell_of_row _ B 4 _ _ _ HBL.out
  have c5 := cell_of_row _ B 5 _ _ _ HBL.out
  have c6 := cell_of_row _ B 6 _ _ _ HBL.out
  have c7 := cell_of_row _ B 7 _ _ _ HBL.out
  have c8 := cell_of_row _ B 8 _ _ _ HBL.out
  have c9 := cell_of_row _ B 9 _ _ _ HBL.out
  have c10 := cell_of_row _ B 10 _ _ _ HBL.out
  simp only [List.getElem?_toArray, List.getElem?_cons_succ, List.getElem?_cons_zero] at c0 c1 c2 c3 c4 c5 c6 c7 c8 c9 c10
  go_wp2_with fail
  go_quiet (fail)
  have hq : Kp [] w9 (w9.drewN nq) := (Kp.refl _ _).drewN _
  replace HBL := Lib.hid (hq.heap HBL.out (by simp))
  replace HK := Lib.hid ((HK.out : Kp [] w w9).trans hq)
  replace hsz : B < (w9.drewN nq).heap.size := hsz
  clear hq c0 c1 c2 c3 c4 c5 c6 c7 c8 c9 c10
  generalize w9.drewN nq = w2 at *
  have c0 := cell_of_row _ B 0 _ _ _ HBL.out
  have c1 := cell_of_row _ B 1 _ _ _ HBL.out
  have c2 := cell_of_row _ B 2 _ _ _ HBL.out
  have c3 := cell_of_row _ B 3 _ _ _ HBL.out
  have c4 := cell_of_row _ B 4 _ _ _ HBL.out
  have c5 := cell_of_row _ B 5 _ _ _ HBL.out
  have c6 := cell_of_row _ B 6 _ _ _ HBL.out
  have c7 := cell_of_row _ B 7 _ _ _ HBL.out
  have c8 := cell_of_row _ B 8 _ _ _ HBL.out
  have c9 := cell_of_row _ B 9 _ _ _ HBL.out
  have c10 := cell_of_row _ B 10 _ _ _ HBL.out
  simp only [List.getElem?_toArray, List.getElem?_cons_succ, List.getElem?_cons_zero] at c0 c1 c2 c3 c4 c5 c6 c7 c8 c9 c10

  go_upto_region 5 with fail
  go_cut [9] (fun s9 wx => s9 = .bool false ∧ w2 = wx)
  case first =>
    go_wp2_with fail
    all_goals
      go_meet
      first | exact ⟨rfl, rfl⟩ | exact ⟨congrArg Value.bool (decide_eq_true (by omega)), rfl⟩ | exact ⟨congrArg Value.bool (decide_eq_false (by omega)), rfl⟩
  obtain ⟨rfl, rfl⟩ := hcut
  clear hy
  go_upto_block 0 with fail
  obtain ⟨E, hE⟩ : ∃ E, mflag xx xy yx yy + 4099 = E := ⟨_, rfl⟩
  have HE : Hid (mflag xx xy yx yy + 4099 = E) := hE
  have hE0 : 0 ≤ E := by have := HFC.out; omega
  have hE1 : E ≤ 10000 := by have := HFC.out; omega
  have h32 : bits .or .i64 E 32 = E + 32 := by rw [← hE]; exact HF.out.2
  clear hE
  go_cut [6, 10] (fun s6 s10 wx => s6 = .int .i64 E ∧ ∃ p c, s10 = .slice p (mnums xx xy yx yy).length c ∧ SwSt w2 wx B s10 (mnums xx xy yx yy))
  case first =>
    clear h32
    have HK3 := Lib.hid hsz
    obtain ⟨X, hX, hcmp⟩ := one_cmp xx xy yx yy
    have HX := Lib.hid hX
    clear hX
    have q0 := fun n : KW w2 => KW.cell c1 n
    have q1 := fun n : KW w2 => KW.cell c2 n
    have q2 := fun n : KW w2 => KW.cell c3 n
    have q3 := fun n : KW w2 => KW.cell c4 n
    go_wp2_with fail
    refine wp_region_kq (by kernel_rfl) (by kernel_rfl) ?_
    repeat (go_big_quiet_step ((go_at_call 11; exact Calls.kq (rone_calls _))))
    refine wpQuiet_nil ?_
    intro w3 hw'
    obtain ⟨⟨_, hkw3⟩, rfl⟩ := hw'
    have j1 := hkw3.cell c1 (by simp)
    have j2 := hkw3.cell c2 (by simp)
    have j3 := hkw3.cell c3 (by simp)
    have j4 := hkw3.cell c4 (by simp)
    clear hcmp q0 q1 q2 q3 c0 c1 c2 c3 c4 c5 c6 c7 c8 c9 c10
    cases X
    · have hn' : ¬ (xx = 16384 ∧ xy = 0 ∧ yx = 0 ∧ yy = 16384) := fun h => by have := HX.out.2 h; simp at this
      by_cases hbc : xy ≠ 0 ∨ yx ≠ 0
      · have hf : mflag xx xy yx yy = 128 := by unfold mflag; rw [if_neg hn', if_pos hbc]
        have hm : mnums xx xy yx yy = [xx, xy, yx, yy] := by unfold mnums; rw [if_neg hn', if_pos hbc]
        have HF2 := Lib.hid hf
        have HM2 := Lib.hid hm
        have hor : bits .or .i64 4099 128 = E := by have h := HF.out.1; have h2 := HE.out; rw [hf] at h h2; rw [h (by decide)]; exact h2
        clear HX hn' hf hm
        by_cases hb : xy = 0
        · have hc : yx ≠ 0 := by rcases hbc with h | h; exact absurd hb h; exact h
          clear hbc
          subst hb
          go_wp2_with fail
          go_region_held3 (fun w' => w'.cell? ⟨B, 1, none⟩ = some (.int .i64 xx) ∧ w'.cell? ⟨B, 2, none⟩ = some (.int .i64 0) ∧ w'.cell? ⟨B, 3, none⟩ = some (.int .i64 yx) ∧ w'.cell? ⟨B, 4, none⟩ = some (.int .i64 yy)) (first | go_keep | exact ⟨j1, j2, j3, j4⟩) (fail)
          all_goals
            go_wp2_with fail
            go_meet
            refine ⟨rfl, ?_⟩
            rw [HM2.out]
            exact ⟨_, _, rfl, IsInts.lit .i64 3 _ (by (repeat (first | exact Kp.refl _ _ | assumption | refine Kp.drew ?_ | refine Kp.drewN ?_ _ | refine Kp.alloc ?_ _ | (refine Kp.setCell ?_ (by first | (left; simp; done) | (right; simp; try omega)) _) | (refine Kp.trans' ?_ (by assumption) (by simp; try omega))))) _ _ (by simp [World.size_drew, World.drewN]) rfl (by decide), fun k hk => by (have h1 := hkw3.size; simp [World.size_drew, World.drewN] at hk ⊢; omega), by (repeat (first | exact Kp.refl _ _ | assumption | refine Kp.drew ?_ | refine Kp.drewN ?_ _ | refine Kp.alloc ?_ _ | (refine Kp.setCell ?_ (by first | (left; simp; done) | (right; simp; try omega)) _) | (refine Kp.trans' ?_ (by assumption) (by simp; try omega))))⟩
        · clear hbc
          go_wp2_with fail
          go_region_held3 (fun w' => w'.cell? ⟨B, 1, none⟩ = some (.int .i64 xx) ∧ w'.cell? ⟨B, 2, none⟩ = some (.int .i64 xy) ∧ w'.cell? ⟨B, 3, none⟩ = some (.int .i64 yx) ∧ w'.cell? ⟨B, 4, none⟩ = some (.int .i64 yy)) (first | go_keep | exact ⟨j1, j2, j3, j4⟩) (fail)
          all_goals
            go_wp2_with fail
            go_meet
            refine ⟨rfl, ?_⟩
            rw [HM2.out]
            exact ⟨_, _, rfl, IsInts.lit .i64 3 _ (by (repeat (first | exact Kp.refl _ _ | assumption | refine Kp.drew ?_ | refine Kp.drewN ?_ _ | refine Kp.alloc ?_ _ | (refine Kp.setCell ?_ (by first | (left; simp; done) | (right; simp; try omega)) _) | (refine Kp.trans' ?_ (by assumption) (by simp; try omega))))) _ _ (by simp [World.size_drew, World.drewN]) rfl (by decide), fun k hk => by (have h1 := hkw3.size; simp [World.size_drew, World.drewN] at hk ⊢; omega), by (repeat (first | exact Kp.refl _ _ | assumption | refine Kp.drew ?_ | refine Kp.drewN ?_ _ | refine Kp.alloc ?_ _ | (refine Kp.setCell ?_ (by first | (left; simp; done) | (right; simp; try omega)) _) | (refine Kp.trans' ?_ (by assumption) (by simp; try omega))))⟩
      · have hb : xy = 0 := by omega
        have hc : yx = 0 := by omega
        clear hbc
        subst hb; subst hc
        by_cases had : xx = yy
        · have hf : mflag xx 0 0 yy = 8 := by unfold mflag; rw [if_neg hn', if_neg (by simp), if_pos had]
          have hm : mnums xx 0 0 yy = [xx] := by unfold mnums; rw [if_neg hn', if_neg (by simp), if_pos had]
          have hor : bits .or .i64 4099 8 = E := by have h := HF.out.1; have h2 := HE.out; rw [hf] at h h2; rw [h (by decide)]; exact h2
          subst had
          have HM2 := Lib.hid hm
          clear HX hn' hf hm
          go_wp2_with fail
          go_region_held3 (fun w' => w'.cell? ⟨B, 1, none⟩ = some (.int .i64 xx) ∧ w'.cell? ⟨B, 2, none⟩ = some (.int .i64 0) ∧ w'.cell? ⟨B, 3, none⟩ = some (.int .i64 0) ∧ w'.cell? ⟨B, 4, none⟩ = some (.int .i64 xx)) (first | go_keep | exact ⟨j1, j2, j3, j4⟩) (fail)
          all_goals
            go_wp2_with fail
            go_meet
            refine ⟨rfl, ?_⟩
            rw [HM2.out]
            exact ⟨_, _, rfl, IsInts.lit .i64 3 _ (by (repeat (first | exact Kp.refl _ _ | assumption | refine Kp.drew ?_ | refine Kp.drewN ?_ _ | refine Kp.alloc ?_ _ | (refine Kp.setCell ?_ (by first | (left; simp; done) | (right; simp; try omega)) _) | (refine Kp.trans' ?_ (by assumption) (by simp; try omega))))) _ _ (by simp [World.size_drew, World.drewN]) rfl (by decide), fun k hk => by (have h1 := hkw3.size; simp [World.size_drew, World.drewN] at hk ⊢; omega), by (repeat (first | exact Kp.refl _ _ | assumption | refine Kp.drew ?_ | refine Kp.drewN ?_ _ | refine Kp.alloc ?_ _ | (refine Kp.setCell ?_ (by first | (left; simp; done) | (right; simp; try omega)) _) | (refine Kp.trans' ?_ (by assumption) (by simp; try omega))))⟩
        · have hf : mflag xx 0 0 yy = 64 := by unfold mflag; rw [if_neg hn', if_neg (by simp), if_neg had]
          have hm : mnums xx 0 0 yy = [xx, yy] := by unfold mnums; rw [if_neg hn', if_neg (by simp), if_neg had]
          have hor : bits .or .i64 4099 64 = E := by have h := HF.out.1; have h2 := HE.out; rw [hf] at h h2; rw [h (by decide)]; exact h2
          have HM2 := Lib.hid hm
          clear HX hn' hf hm
          go_wp2_with fail
          go_region_held3 (fun w' => w'.cell? ⟨B, 1, none⟩ = some (.int .i64 xx) ∧ w'.cell? ⟨B, 2, none⟩ = some (.int .i64 0) ∧ w'.cell? ⟨B, 3, none⟩ = some (.int .i64 0) ∧ w'.cell? ⟨B, 4, none⟩ = some (.int .i64 yy)) (first | go_keep | exact ⟨j1, j2, j3, j4⟩) (fail)
          all_goals
            go_wp2_with fail
            go_meet
            refine ⟨rfl, ?_⟩
            rw [HM2.out]
            exact ⟨_, _, rfl, IsInts.lit .i64 3 _ (by (repeat (first | exact Kp.refl _ _ | assumption | refine Kp.drew ?_ | refine Kp.drewN ?_ _ | refine Kp.alloc ?_ _ | (refine Kp.setCell ?_ (by first | (left; simp; done) | (right; simp; try omega)) _) | (refine Kp.trans' ?_ (by assumption) (by simp; try omega))))) _ _ (by simp [World.size_drew, World.drewN]) rfl (by decide), fun k hk => by (have h1 := hkw3.size; simp [World.size_drew, World.drewN] at hk ⊢; omega), by (repeat (first | exact Kp.refl _ _ | assumption | refine Kp.drew ?_ | refine Kp.drewN ?_ _ | refine Kp.alloc ?_ _ | (refine Kp.setCell ?_ (by first | (left; simp; done) | (right; simp; try omega)) _) | (refine Kp.trans' ?_ (by assumption) (by simp; try omega))))⟩
    · obtain ⟨rfl, rfl, rfl, rfl⟩ := HX.out.1 rfl
      clear HX
      go_wp2_with fail
      go_meet
      have hE2 : E = 4099 := HE.out.symm
      subst hE2
      exact ⟨rfl, _, _, rfl, IsInts.nil _ _, by simp, by (repeat (first | exact Kp.refl _ _ | assumption | refine Kp.drew ?_ | refine Kp.drewN ?_ _ | refine Kp.alloc ?_ _ | (refine Kp.setCell ?_ (by first | (left; simp; done) | (right; simp; try omega)) _) | (refine Kp.trans' ?_ (by assumption) (by simp; try omega))))⟩
  obtain ⟨rfl, np, nc, rfl, hI, hge, hkc⟩ := hcut
  have H3 : Hid (RWt wc r room acc) := HW.out.kp0 (HK.out.trans hkc)
  replace HBL := Lib.hid (hkc.heap HBL.out (by simp))
  replace HK := Lib.hid (HK.out.trans hkc)
  replace hsz : B < wc.heap.size := by have := hkc.size; omega
  rw [HE.out] at HQ
  clear HE HFC HF HY hkc
  generalize mnums xx xy yx yy = nums at *
  obtain ⟨N, hN⟩ : ∃ N, nums.length = N := ⟨_, rfl⟩
  have HNL := Lib.hid hN
  rw [hN] at hNL hI hge ⊢
  have HI := Lib.hid hI
  have HGE := Lib.hid hge
  clear hI hge hN c0 c1 c2 c3 c4 c5 c6 c7 c8 c9 c10 s1 s2 s3 s4 s5
  have hBr : B ∉ [r] := by simp; omega
  go_wp2_with fail
  refine (rwu2_calls r room acc (E + 32) (by omega) (by omega) _ H3.out (by omega) (by omega)).mono ?_; rintro e w5 ⟨rfl, h5, hk5⟩
  have H5 := Lib.hid h5
  have HK5 : Hid (Kp [r] wc w5) := hk5
  have c0 := cell_of_row _ B 0 _ _ _ (hk5.heap HBL.out hBr)
  simp only [List.getElem?_toArray, List.getElem?_cons_zero] at c0
  clear h5 hk5 h32
  go_wp2_with fail
  refine (rwu2_calls r room (acc ++ bytesN 2 (E + 32)) g (by omega) (by omega) _ H5.out (by simp [bytesN_length]; omega) (by omega)).mono ?_; rintro e w6 ⟨rfl, h6, hk6⟩
  have H6 := Lib.hid h6
  have HK6 : Hid (Kp [r] wc w6) := HK5.out.trans hk6
  clear h6 hk6 c0
  go_wp2_with fail
  refine (rwu2_calls r room (acc ++ bytesN 2 (E + 32) ++ bytesN 2 g) dx (by omega) (by omega) _ H6.out (by simp [bytesN_length]; omega) (by omega)).mono ?_; rintro e w7 ⟨rfl, h7, hk7⟩
  have H7 := Lib.hid h7
  have HK7 : Hid (Kp [r] wc w7) := HK6.out.trans hk7
  clear h7 hk7
  go_wp2_with fail
  refine (rwu2_calls r room (acc ++ bytesN 2 (E + 32) ++ bytesN 2 g ++ bytesN 2 dx) dy (by omega) (by omega) _ H7.out (by simp [bytesN_length]; omega) (by omega)).mono ?_; rintro e w8 ⟨rfl, h8, hk8⟩
  have H8 := Lib.hid h8
  have HK8 : Hid (Kp [r] wc w8) := HK7.out.trans hk8
  clear h8 hk8 HK5 HK6 HK7 H5 H6 H7 H3
  obtain ⟨D, hD⟩ : ∃ D, acc ++ bytesN 2 (E + 32) ++ bytesN 2 g ++ bytesN 2 dx ++ bytesN 2 dy = D := ⟨_, rfl⟩
  have HQ2 : Hid (acc ++ putM (⟨g, xx, xy, yx, yy, false, dx, dy, false, 0, 0⟩ : Pt) true = D ++ nums.flatMap (bytesN 2)) := by
    show _ = _; rw [HQ.out, ← hD]; simp only [List.append_assoc]
  have hDl : D.length ≤ acc.length + 8 := by rw [← hD]; simp [bytesN_length]
  rw [hD] at H8
  clear hD HQ
  go_wp2_with fail
  go_loopw [12] (fun i wr => ∃ j : Nat, j ≤ N ∧ i = .int .i64 j ∧ Hid (RWt wr r room (D ++ (nums.take j).flatMap (bytesN 2)) ∧ Kp [r] wc wr)) (fun i _ => N - (intOf i).toNat)
  case atStart => exact ⟨0, by omega, rfl, by simpa using H8.out, HK8.out⟩
  case round =>
    obtain ⟨j, hj, rfl, HJ⟩ := hrel
    clear H8 HK8
    by_cases hlt : j < N
    · have hI := HI.out.kp HJ.out.2 (fun t ht e => by have h1 := HGE.out t e; simp at ht; omega)
      have hC : ∃ q off, np = some ⟨q, off, none⟩ ∧ wr.cell? ⟨q, off + j, none⟩ = some (.int .i64 (nums.getD j 0)) := by
        rcases hI with ⟨⟨a, e⟩, e0⟩ | ⟨q, off, c, e, _, _, h3⟩
        · have := HNL.out; rw [e0] at this; simp at this; omega
        · cases e; exact ⟨q, off, rfl, h3 j (by rw [HNL.out]; exact hlt)⟩
      obtain ⟨q, off, rfl, hc⟩ := hC
      have hx := HN.out (nums.getD j 0) (by rw [List.getD_eq_getElem?_getD, List.getElem?_eq_getElem (by rw [HNL.out]; exact hlt)]; exact List.getElem_mem _)
      have hsn : Hid (D ++ (nums.take (j + 1)).flatMap (bytesN 2) = D ++ (nums.take j).flatMap (bytesN 2) ++ bytesN 2 (nums.getD j 0)) := by
        show _ = _; rw [flat_snoc nums j (by rw [HNL.out]; exact hlt), List.append_assoc]
      have hln : (D ++ (nums.take j).flatMap (bytesN 2)).length ≤ acc.length + 14 := by
        rw [List.length_append, flat2_len, List.length_take]; omega
      generalize nums.getD j 0 = x at *
      generalize D ++ (nums.take j).flatMap (bytesN 2) = ac at *
      obtain ⟨hx0, hx1⟩ := hx
      clear hI
      go_wp2_with fail
      refine (rwu2_calls r room ac x (by omega) (by omega) _ HJ.out.1 (by omega) (by omega)).mono ?_; rintro e w9 ⟨rfl, h9, hk9⟩
      have HS9 : Hid (RWt w9 r room (D ++ (nums.take (j + 1)).flatMap (bytesN 2)) ∧ Kp [r] wc w9) := ⟨by rw [hsn.out]; exact h9, HJ.out.2.trans hk9⟩
      clear h9 hk9 hc
      go_wp2_with fail
      go_roundw
      case rel => first | exact ⟨j + 1, by omega, int_eq' (by omega), HS9⟩ | ((repeat apply Exists.intro); exact ⟨⟨j + 1, by omega, int_eq' (by omega), HS9⟩, rfl⟩)
      case measure => simp [intOf]; omega
    · obtain rfl : j = N := by omega
      go_wp2_with fail
      go_end0
      refine ⟨rfl, ?_, (HK.out.more (by simp)).trans HJ.out.2⟩
      rw [HQ2.out]
      have := HJ.out.1
      rwa [List.take_of_length_le (by rw [HNL.out]; exact Nat.le_refl _)] at this
set_option maxRecDepth 100000 in
set_option maxHeartbeats 4000000 in
theorem rput_uny (r : Nat) (room : Int) (acc : List Int) (g xx xy yx yy dx dy : Int) (w : World) (h : RWt w r room acc) (hfit : fitsM xx xy yx yy = true) (hg : 0 ≤ g ∧ g < 65536) (hA : -32768 ≤ dx ∧ dx < 65536) (hB : -32768 ≤ dy ∧ dy < 65536) (hY : bothB dx dy (-128) 127 = true) (hn : (acc.length : Int) + 16 ≤ room) (hr : room ≤ 1073741824) :
    Calls Tryz.prog 30 #[.pointer (some ⟨r, 0, none⟩), ptV (⟨g, xx, xy, yx, yy, false, dx, dy, false, 0, 0⟩ : Pt), .bool false] w fun e w' => e = .returned (.tuple #[]) ∧ RWt w' r room (acc ++ putM (⟨g, xx, xy, yx, yy, false, dx, dy, false, 0, 0⟩ : Pt) false) ∧ Kp [r] w w' := by
  have HQ : Hid (putM (⟨g, xx, xy, yx, yy, false, dx, dy, false, 0, 0⟩ : Pt) false = bytesN 2 (mflag xx xy yx yy + 4098) ++ bytesN 2 g ++ bytesN 1 dx ++ bytesN 1 dy ++ (mnums xx xy yx yy).flatMap (bytesN 2)) := by
    show _ = _; rw [show mflag xx xy yx yy + 4098 = mflag xx xy yx yy + 4098 + 0 + 0 by omega]; simp only [putM, flagsM, lenN, tinyB, tflag, numA, numB, hY]; rfl
  have HN := Lib.hid (mnums_in xx xy yx yy hfit)
  have hNL := mnums_len xx xy yx yy
  have HF := Lib.hid (or_sumR _ (mflag_cases xx xy yx yy) 4098 (by simp))
  have HFC := Lib.hid (mflag_cases xx xy yx yy)
  rw [show ptV (⟨g, xx, xy, yx, yy, false, dx, dy, false, 0, 0⟩ : Pt) = .agg #[.int .i64 g, .int .i64 xx, .int .i64 xy, .int .i64 yx, .int .i64 yy, .bool false, .int .i64 dx, .int .i64 dy, .bool false, .int .i64 0, .int .i64 0] from rfl]
  obtain ⟨hg0, hg1⟩ := hg
  obtain ⟨hA0, hA1⟩ := hA
  obtain ⟨hB0, hB1⟩ := hB
  have HW := Lib.hid h
  have hrw : r < w.heap.size := h.lt
  have HY := Lib.hid hY
  have hblk := heap_alloc_new w (.cells #[.int .i64 g, .int .i64 xx, .int .i64 xy, .int .i64 yx, .int .i64 yy, .bool false, .int .i64 dx, .int .i64 dy, .bool false, .int .i64 0, .int .i64 0] 34)
  have hk02 : Kp [] w (w.alloc (.cells #[.int .i64 g, .int .i64 xx, .int .i64 xy, .int .i64 yx, .int .i64 yy, .bool false, .int .i64 dx, .int .i64 dy, .bool false, .int .i64 0, .int .i64 0] 34)) := (Kp.refl _ _).alloc _
  clear hY hfit h
  go_enter Tryz.func30, Tryz.ntmps30
  go_wp2_with fail
  have c00 := hblk
  generalize hw1 : w.alloc (.cells #[.int .i64 g, .int .i64 xx, .int .i64 xy, .int .i64 yx, .int .i64 yy, .bool false, .int .i64 dx, .int .i64 dy, .bool false, .int .i64 0, .int .i64 0] 34) = w1 at *
  have hsz : w.heap.size < w1.heap.size := by rw [← hw1]; simp
  clear hw1 c00
  generalize hBv : w.heap.size = B at *
  have HBv := Lib.hid hBv
  have HBL := Lib.hid hblk
  have HK := Lib.hid hk02
  clear hBv hblk hk02
  have c0 := cell_of_row _ B 0 _ _ _ HBL.out
  have c1 := cell_of_row _ B 1 _ _ _ HBL.out
  have c2 := cell_of_row _ B 2 _ _ _ HBL.out
  have c3 := cell_of_row _ B 3 _ _ _ HBL.out
  have c4 := cell_of_row _ B 4 _ _ _ HBL.out
  have c5 := cell_of_row _ B 5 _ _ _ HBL.out
  have c6 := cell_of_row _ B 6 _ _ _ HBL.out
  have c7 := cell_of_row _ B 7 _ _ _ HBL.out
  have c8 := cell_of_row _ B 8 _ _ _ HBL.out
  have c9 := cell_of_row _ B 9 _ _ _ HBL.out
  have c10 := cell_of_row _ B 10 _ _ _ HBL.out
  simp only [List.getElem?_toArray, List.getElem?_cons_succ, List.getElem?_cons_zero] at c0 c1 c2 c3 c4 c5 c6 c7 c8 c9 c10
  have hy : -128 ≤ dx ∧ dx < 128 ∧ -128 ≤ dy ∧ dy < 128 := by
    have h := HY.out; unfold bothB at h
    simp only [Bool.and_eq_true, decide_eq_true_eq, Bool.and_eq_false_iff, decide_eq_false_iff_not] at h
    omega
  obtain ⟨s1, s2, s3, s4, s5⟩ := or_start
  go_quiet (fail)
  have hq : Kp [] w1 (w1.drewN nq) := (Kp.refl _ _).drewN _
  replace HBL := Lib.hid (hq.heap HBL.out (by simp))
  replace HK := Lib.hid ((HK.out : Kp [] w w1).trans hq)
  replace hsz : B < (w1.drewN nq).heap.size := hsz
  clear hq c0 c1 c2 c3 c4 c5 c6 c7 c8 c9 c10
  generalize w1.drewN nq = w9 at *
  have c0 := cell_of_row _ B 0 _ _ _ HBL.out
  have c1 := cell_of_row _ B 1 _ _ _ HBL.out
  have c2 := cell_of_row _ B 2 _ _ _ HBL.out
  have c3 := cell_of_row _ B 3 _ _ _ HBL.out
  have c4 := cell_of_row _ B 4 _ _ _ HBL.out
  have c5 := cell_of_row _ B 5 _ _ _ HBL.out
  have c6 := cell_of_row _ B 6 _ _ _ HBL.out
  have c7 := cell_of_row _ B 7 _ _ _ HBL.out
  have c8 := cell_of_row _ B 8 _ _ _ HBL.out
  have c9 := cell_of_row _ B 9 _ _ _ HBL.out
  have c10 := cell_of_row _ B 10 _ _ _ HBL.out
  simp only [List.getElem?_toArray, List.getElem?_cons_succ, List.getElem?_cons_zero] at c0 c1 c2 c3 c4 c5 c6 c7 c8 c9 c10
  go_wp2_with fail
  go_quiet (fail)
  have hq : Kp [] w9 (w9.drewN nq) := (Kp.refl _ _).drewN _
  replace HBL := Lib.hid (hq.heap HBL.out (by simp))
  replace HK := Lib.hid ((HK.out : Kp [] w w9).trans hq)
  replace hsz : B < (w9.drewN nq).heap.size := hsz
  clear hq c0 c1 c2 c3 c4 c5 c6 c7 c8 c9 c10
  generalize w9.drewN nq = w2 at *
  have c0 := cell_of_row _ B 0 _ _ _ HBL.out
  have c1 := cell_of_row _ B 1 _ _ _ HBL.out
  have c2 := cell_of_row _ B 2 _ _ _ HBL.out
  have c3 := cell_of_row _ B 3 _ _ _ HBL.out
  have c4 := cell_of_row _ B 4 _ _ _ HBL.out
  have c5 := cell_of_row _ B 5 _ _ _ HBL.out
  have c6 := cell_of_row _ B 6 _ _ _ HBL.out
  have c7 := cell_of_row _ B 7 _ _ _ HBL.out
  have c8 := cell_of_row _ B 8 _ _ _ HBL.out
  have c9 := cell_of_row _ B 9 _ _ _ HBL.out
  have c10 := cell_of_row _ B 10 _ _ _ HBL.out
  simp only [List.getElem?_toArray, List.getElem?_cons_succ, List.getElem?_cons_zero] at c0 c1 c2 c3 c4 c5 c6 c7 c8 c9 c10

  go_upto_region 5 with fail
  go_cut [9] (fun s9 wx => s9 = .bool true ∧ w2 = wx)
  case first =>
    go_wp2_with fail
    all_goals
      go_meet
      first | exact ⟨rfl, rfl⟩ | exact ⟨congrArg Value.bool (decide_eq_true (by omega)), rfl⟩ | exact ⟨congrArg Value.bool (decide_eq_false (by omega)), rfl⟩
  obtain ⟨rfl, rfl⟩ := hcut
  clear hy
  go_upto_block 0 with fail
  obtain ⟨E, hE⟩ : ∃ E, mflag xx xy yx yy + 4098 = E := ⟨_, rfl⟩
  have HE : Hid (mflag xx xy yx yy + 4098 = E) := hE
  have hE0 : 0 ≤ E := by have := HFC.out; omega
  have hE1 : E ≤ 10000 := by have := HFC.out; omega
  have h32 : bits .or .i64 E 32 = E + 32 := by rw [← hE]; exact HF.out.2
  clear hE
  go_cut [6, 10] (fun s6 s10 wx => s6 = .int .i64 E ∧ ∃ p c, s10 = .slice p (mnums xx xy yx yy).length c ∧ SwSt w2 wx B s10 (mnums xx xy yx yy))
  case first =>
    clear h32
    have HK3 := Lib.hid hsz
    obtain ⟨X, hX, hcmp⟩ := one_cmp xx xy yx yy
    have HX := Lib.hid hX
    clear hX
    have q0 := fun n : KW w2 => KW.cell c1 n
    have q1 := fun n : KW w2 => KW.cell c2 n
    have q2 := fun n : KW w2 => KW.cell c3 n
    have q3 := fun n : KW w2 => KW.cell c4 n
    go_wp2_with fail
    refine wp_region_kq (by kernel_rfl) (by kernel_rfl) ?_
    repeat (go_big_quiet_step ((go_at_call 11; exact Calls.kq (rone_calls _))))
    refine wpQuiet_nil ?_
    intro w3 hw'
    obtain ⟨⟨_, hkw3⟩, rfl⟩ := hw'
    have j1 := hkw3.cell c1 (by simp)
    have j2 := hkw3.cell c2 (by simp)
    have j3 := hkw3.cell c3 (by simp)
    have j4 := hkw3.cell c4 (by simp)
    clear hcmp q0 q1 q2 q3 c0 c1 c2 c3 c4 c5 c6 c7 c8 c9 c10
    cases X
    · have hn' : ¬ (xx = 16384 ∧ xy = 0 ∧ yx = 0 ∧ yy = 16384) := fun h => by have := HX.out.2 h; simp at this
      by_cases hbc : xy ≠ 0 ∨ yx ≠ 0
      · have hf : mflag xx xy yx yy = 128 := by unfold mflag; rw [if_neg hn', if_pos hbc]
        have hm : mnums xx xy yx yy = [xx, xy, yx, yy] := by unfold mnums; rw [if_neg hn', if_pos hbc]
        have HF2 := Lib.hid hf
        have HM2 := Lib.hid hm
        have hor : bits .or .i64 4098 128 = E := by have h := HF.out.1; have h2 := HE.out; rw [hf] at h h2; rw [h (by decide)]; exact h2
        clear HX hn' hf hm
        by_cases hb : xy = 0
        · have hc : yx ≠ 0 := by rcases hbc with h | h; exact absurd hb h; exact h
          clear hbc
          subst hb
          go_wp2_with fail
          go_region_held3 (fun w' => w'.cell? ⟨B, 1, none⟩ = some (.int .i64 xx) ∧ w'.cell? ⟨B, 2, none⟩ = some (.int .i64 0) ∧ w'.cell? ⟨B, 3, none⟩ = some (.int .i64 yx) ∧ w'.cell? ⟨B, 4, none⟩ = some (.int .i64 yy)) (first | go_keep | exact ⟨j1, j2, j3, j4⟩) (fail)
          all_goals
            go_wp2_with fail
            go_meet
            refine ⟨rfl, ?_⟩
            rw [HM2.out]
            exact ⟨_, _, rfl, IsInts.lit .i64 3 _ (by (repeat (first | exact Kp.refl _ _ | assumption | refine Kp.drew ?_ | refine Kp.drewN ?_ _ | refine Kp.alloc ?_ _ | (refine Kp.setCell ?_ (by first | (left; simp; done) | (right; simp; try omega)) _) | (refine Kp.trans' ?_ (by assumption) (by simp; try omega))))) _ _ (by simp [World.size_drew, World.drewN]) rfl (by decide), fun k hk => by (have h1 := hkw3.size; simp [World.size_drew, World.drewN] at hk ⊢; omega), by (repeat (first | exact Kp.refl _ _ | assumption | refine Kp.drew ?_ | refine Kp.drewN ?_ _ | refine Kp.alloc ?_ _ | (refine Kp.setCell ?_ (by first | (left; simp; done) | (right; simp; try omega)) _) | (refine Kp.trans' ?_ (by assumption) (by simp; try omega))))⟩
        · clear hbc
          go_wp2_with fail
          go_region_held3 (fun w' => w'.cell? ⟨B, 1, none⟩ = some (.int .i64 xx) ∧ w'.cell? ⟨B, 2, none⟩ = some (.int .i64 xy) ∧ w'.cell? ⟨B, 3, none⟩ = some (.int .i64 yx) ∧ w'.cell? ⟨B, 4, none⟩ = some (.int .i64 yy)) (first | go_keep | exact ⟨j1, j2, j3, j4⟩) (fail)
          all_goals
            go_wp2_with fail
            go_meet
            refine ⟨rfl, ?_⟩
            rw [HM2.out]
            exact ⟨_, _, rfl, IsInts.lit .i64 3 _ (by (repeat (first | exact Kp.refl _ _ | assumption | refine Kp.drew ?_ | refine Kp.drewN ?_ _ | refine Kp.alloc ?_ _ | (refine Kp.setCell ?_ (by first | (left; simp; done) | (right; simp; try omega)) _) | (refine Kp.trans' ?_ (by assumption) (by simp; try omega))))) _ _ (by simp [World.size_drew, World.drewN]) rfl (by decide), fun k hk => by (have h1 := hkw3.size; simp [World.size_drew, World.drewN] at hk ⊢; omega), by (repeat (first | exact Kp.refl _ _ | assumption | refine Kp.drew ?_ | refine Kp.drewN ?_ _ | refine Kp.alloc ?_ _ | (refine Kp.setCell ?_ (by first | (left; simp; done) | (right; simp; try omega)) _) | (refine Kp.trans' ?_ (by assumption) (by simp; try omega))))⟩
      · have hb : xy = 0 := by omega
        have hc : yx = 0 := by omega
        clear hbc
        subst hb; subst hc
        by_cases had : xx = yy
        · have hf : mflag xx 0 0 yy = 8 := by unfold mflag; rw [if_neg hn', if_neg (by simp), if_pos had]
          have hm : mnums xx 0 0 yy = [xx] := by unfold mnums; rw [if_neg hn', if_neg (by simp), if_pos had]
          have hor : bits .or .i64 4098 8 = E := by have h := HF.out.1; have h2 := HE.out; rw [hf] at h h2; rw [h (by decide)]; exact h2
          subst had
          have HM2 := Lib.hid hm
          clear HX hn' hf hm
          go_wp2_with fail
          go_region_held3 (fun w' => w'.cell? ⟨B, 1, none⟩ = some (.int .i64 xx) ∧ w'.cell? ⟨B, 2, none⟩ = some (.int .i64 0) ∧ w'.cell? ⟨B, 3, none⟩ = some (.int .i64 0) ∧ w'.cell? ⟨B, 4, none⟩ = some (.int .i64 xx)) (first | go_keep | exact ⟨j1, j2, j3, j4⟩) (fail)
          all_goals
            go_wp2_with fail
            go_meet
            refine ⟨rfl, ?_⟩
            rw [HM2.out]
            exact ⟨_, _, rfl, IsInts.lit .i64 3 _ (by (repeat (first | exact Kp.refl _ _ | assumption | refine Kp.drew ?_ | refine Kp.drewN ?_ _ | refine Kp.alloc ?_ _ | (refine Kp.setCell ?_ (by first | (left; simp; done) | (right; simp; try omega)) _) | (refine Kp.trans' ?_ (by assumption) (by simp; try omega))))) _ _ (by simp [World.size_drew, World.drewN]) rfl (by decide), fun k hk => by (have h1 := hkw3.size; simp [World.size_drew, World.drewN] at hk ⊢; omega), by (repeat (first | exact Kp.refl _ _ | assumption | refine Kp.drew ?_ | refine Kp.drewN ?_ _ | refine Kp.alloc ?_ _ | (refine Kp.setCell ?_ (by first | (left; simp; done) | (right; simp; try omega)) _) | (refine Kp.trans' ?_ (by assumption) (by simp; try omega))))⟩
        · have hf : mflag xx 0 0 yy = 64 := by unfold mflag; rw [if_neg hn', if_neg (by simp), if_neg had]
          have hm : mnums xx 0 0 yy = [xx, yy] := by unfold mnums; rw [if_neg hn', if_neg (by simp), if_neg had]
          have hor : bits .or .i64 4098 64 = E := by have h := HF.out.1; have h2 := HE.out; rw [hf] at h h2; rw [h (by decide)]; exact h2
          have HM2 := Lib.hid hm
          clear HX hn' hf hm
          go_wp2_with fail
          go_region_held3 (fun w' => w'.cell? ⟨B, 1, none⟩ = some (.int .i64 xx) ∧ w'.cell? ⟨B, 2, none⟩ = some (.int .i64 0) ∧ w'.cell? ⟨B, 3, none⟩ = some (.int .i64 0) ∧ w'.cell? ⟨B, 4, none⟩ = some (.int .i64 yy)) (first | go_keep | exact ⟨j1, j2, j3, j4⟩) (fail)
          all_goals
            go_wp2_with fail
            go_meet
            refine ⟨rfl, ?_⟩
            rw [HM2.out]
            exact ⟨_, _, rfl, IsInts.lit .i64 3 _ (by (repeat (first | exact Kp.refl _ _ | assumption | refine Kp.drew ?_ | refine Kp.drewN ?_ _ | refine Kp.alloc ?_ _ | (refine Kp.setCell ?_ (by first | (left; simp; done) | (right; simp; try omega)) _) | (refine Kp.trans' ?_ (by assumption) (by simp; try omega))))) _ _ (by simp [World.size_drew, World.drewN]) rfl (by decide), fun k hk => by (have h1 := hkw3.size; simp [World.size_drew, World.drewN] at hk ⊢; omega), by (repeat (first | exact Kp.refl _ _ | assumption | refine Kp.drew ?_ | refine Kp.drewN ?_ _ | refine Kp.alloc ?_ _ | (refine Kp.setCell ?_ (by first | (left; simp; done) | (right; simp; try omega)) _) | (refine Kp.trans' ?_ (by assumption) (by simp; try omega))))⟩
    · obtain ⟨rfl, rfl, rfl, rfl⟩ := HX.out.1 rfl
      clear HX
      go_wp2_with fail
      go_meet
      have hE2 : E = 4098 := HE.out.symm
      subst hE2
      exact ⟨rfl, _, _, rfl, IsInts.nil _ _, by simp, by (repeat (first | exact Kp.refl _ _ | assumption | refine Kp.drew ?_ | refine Kp.drewN ?_ _ | refine Kp.alloc ?_ _ | (refine Kp.setCell ?_ (by first | (left; simp; done) | (right; simp; try omega)) _) | (refine Kp.trans' ?_ (by assumption) (by simp; try omega))))⟩
  obtain ⟨rfl, np, nc, rfl, hI, hge, hkc⟩ := hcut
  have H3 : Hid (RWt wc r room acc) := HW.out.kp0 (HK.out.trans hkc)
  replace HBL := Lib.hid (hkc.heap HBL.out (by simp))
  replace HK := Lib.hid (HK.out.trans hkc)
  replace hsz : B < wc.heap.size := by have := hkc.size; omega
  rw [HE.out] at HQ
  clear HE HFC HF HY hkc
  generalize mnums xx xy yx yy = nums at *
  obtain ⟨N, hN⟩ : ∃ N, nums.length = N := ⟨_, rfl⟩
  have HNL := Lib.hid hN
  rw [hN] at hNL hI hge ⊢
  have HI := Lib.hid hI
  have HGE := Lib.hid hge
  clear hI hge hN c0 c1 c2 c3 c4 c5 c6 c7 c8 c9 c10 s1 s2 s3 s4 s5
  have hBr : B ∉ [r] := by simp; omega
  go_wp2_with fail
  refine (rwu2_calls r room acc (E) (by omega) (by omega) _ H3.out (by omega) (by omega)).mono ?_; rintro e w5 ⟨rfl, h5, hk5⟩
  have H5 := Lib.hid h5
  have HK5 : Hid (Kp [r] wc w5) := hk5
  have c0 := cell_of_row _ B 0 _ _ _ (hk5.heap HBL.out hBr)
  simp only [List.getElem?_toArray, List.getElem?_cons_zero] at c0
  clear h5 hk5 h32
  go_wp2_with fail
  refine (rwu2_calls r room (acc ++ bytesN 2 (E)) g (by omega) (by omega) _ H5.out (by simp [bytesN_length]; omega) (by omega)).mono ?_; rintro e w6 ⟨rfl, h6, hk6⟩
  have H6 := Lib.hid h6
  have HK6 : Hid (Kp [r] wc w6) := HK5.out.trans hk6
  clear h6 hk6 c0
  go_wp2_with fail
  refine (rwu1_calls r room (acc ++ bytesN 2 (E) ++ bytesN 2 g) dx (by omega) (by omega) _ H6.out (by simp [bytesN_length]; omega) (by omega)).mono ?_; rintro e w7 ⟨rfl, h7, hk7⟩
  have H7 := Lib.hid h7
  have HK7 : Hid (Kp [r] wc w7) := HK6.out.trans hk7
  clear h7 hk7
  go_wp2_with fail
  refine (rwu1_calls r room (acc ++ bytesN 2 (E) ++ bytesN 2 g ++ bytesN 1 dx) dy (by omega) (by omega) _ H7.out (by simp [bytesN_length]; omega) (by omega)).mono ?_; rintro e w8 ⟨rfl, h8, hk8⟩
  have H8 := Lib.hid h8
  have HK8 : Hid (Kp [r] wc w8) := HK7.out.trans hk8
  clear h8 hk8 HK5 HK6 HK7 H5 H6 H7 H3
  obtain ⟨D, hD⟩ : ∃ D, acc ++ bytesN 2 (E) ++ bytesN 2 g ++ bytesN 1 dx ++ bytesN 1 dy = D := ⟨_, rfl⟩
  have HQ2 : Hid (acc ++ putM (⟨g, xx, xy, yx, yy, false, dx, dy, false, 0, 0⟩ : Pt) false = D ++ nums.flatMap (bytesN 2)) := by
    show _ = _; rw [HQ.out, ← hD]; simp only [List.append_assoc]
  have hDl : D.length ≤ acc.length + 8 := by rw [← hD]; simp [bytesN_length]
  rw [hD] at H8
  clear hD HQ
  go_wp2_with fail
  go_loopw [12] (fun i wr => ∃ j : Nat, j ≤ N ∧ i = .int .i64 j ∧ Hid (RWt wr r room (D ++ (nums.take j).flatMap (bytesN 2)) ∧ Kp [r] wc wr)) (fun i _ => N - (intOf i).toNat)
  case atStart => exact ⟨0, by omega, rfl, by simpa using H8.out, HK8.out⟩
  case round =>
    obtain ⟨j, hj, rfl, HJ⟩ := hrel
    clear H8 HK8
    by_cases hlt : j < N
    · have hI := HI.out.kp HJ.out.2 (fun t ht e => by have h1 := HGE.out t e; simp at ht; omega)
      have hC : ∃ q off, np = some ⟨q, off, none⟩ ∧ wr.cell? ⟨q, off + j, none⟩ = some (.int .i64 (nums.getD j 0)) := by
        rcases hI with ⟨⟨a, e⟩, e0⟩ | ⟨q, off, c, e, _, _, h3⟩
        · have := HNL.out; rw [e0] at this; simp at this; omega
        · cases e; exact ⟨q, off, rfl, h3 j (by rw [HNL.out]; exact hlt)⟩
      obtain ⟨q, off, rfl, hc⟩ := hC
      have hx := HN.out (nums.getD j 0) (by rw [List.getD_eq_getElem?_getD, List.getElem?_eq_getElem (by rw [HNL.out]; exact hlt)]; exact List.getElem_mem _)
      have hsn : Hid (D ++ (nums.take (j + 1)).flatMap (bytesN 2) = D ++ (nums.take j).flatMap (bytesN 2) ++ bytesN 2 (nums.getD j 0)) := by
        show _ = _; rw [flat_snoc nums j (by rw [HNL.out]; exact hlt), List.append_assoc]
      have hln : (D ++ (nums.take j).flatMap (bytesN 2)).length ≤ acc.length + 14 := by
        rw [List.length_append, flat2_len, List.length_take]; omega
      generalize nums.getD j 0 = x at *
      generalize D ++ (nums.take j).flatMap (bytesN 2) = ac at *
      obtain ⟨hx0, hx1⟩ := hx
      clear hI
      go_wp2_with fail
      refine (rwu2_calls r room ac x (by omega) (by omega) _ HJ.out.1 (by omega) (by omega)).mono ?_; rintro e w9 ⟨rfl, h9, hk9⟩
      have HS9 : Hid (RWt w9 r room (D ++ (nums.take (j + 1)).flatMap (bytesN 2)) ∧ Kp [r] wc w9) := ⟨by rw [hsn.out]; exact h9, HJ.out.2.trans hk9⟩
      clear h9 hk9 hc
      go_wp2_with fail
      go_roundw
      case rel => first | exact ⟨j + 1, by omega, int_eq' (by omega), HS9⟩ | ((repeat apply Exists.intro); exact ⟨⟨j + 1, by omega, int_eq' (by omega), HS9⟩, rfl⟩)
      case measure => simp [intOf]; omega
    · obtain rfl : j = N := by omega
      go_wp2_with fail
      go_end0
      refine ⟨rfl, ?_, (HK.out.more (by simp)).trans HJ.out.2⟩
      rw [HQ2.out]
      have := HJ.out.1
      rwa [List.take_of_length_le (by rw [HNL.out]; exact Nat.le_refl _)] at this
set_option maxRecDepth 100000 in
set_option maxHeartbeats 4000000 in
theorem rput_unw (r : Nat) (room : Int) (acc : List Int) (g xx xy yx yy dx dy : Int) (w : World) (h : RWt w r room acc) (hfit : fitsM xx xy yx yy = true) (hg : 0 ≤ g ∧ g < 65536) (hA : -32768 ≤ dx ∧ dx < 65536) (hB : -32768 ≤ dy ∧ dy < 65536) (hY : bothB dx dy (-128) 127 = false) (hn : (acc.length : Int) + 16 ≤ room) (hr : room ≤ 1073741824) :
    Calls Tryz.prog 30 #[.pointer (some ⟨r, 0, none⟩), ptV (⟨g, xx, xy, yx, yy, false, dx, dy, false, 0, 0⟩ : Pt), .bool false] w fun e w' => e = .returned (.tuple #[]) ∧ RWt w' r room (acc ++ putM (⟨g, xx, xy, yx, yy, false, dx, dy, false, 0, 0⟩ : Pt) false) ∧ Kp [r] w w' := by
  have HQ : Hid (putM (⟨g, xx, xy, yx, yy, false, dx, dy, false, 0, 0⟩ : Pt) false = bytesN 2 (mflag xx xy yx yy + 4099) ++ bytesN 2 g ++ bytesN 2 dx ++ bytesN 2 dy ++ (mnums xx xy yx yy).flatMap (bytesN 2)) := by
    show _ = _; rw [show mflag xx xy yx yy + 4099 = mflag xx xy yx yy + 4098 + 0 + 1 by omega]; simp only [putM, flagsM, lenN, tinyB, tflag, numA, numB, hY]; rfl
  have HN := Lib.hid (mnums_in xx xy yx yy hfit)
  have hNL := mnums_len xx xy yx yy
  have HF := Lib.hid (or_sumR _ (mflag_cases xx xy yx yy) 4099 (by simp))
  have HFC := Lib.hid (mflag_cases xx xy yx yy)
  rw [show ptV (⟨g, xx, xy, yx, yy, false, dx, dy, false, 0, 0⟩ : Pt) = .agg #[.int .i64 g, .int .i64 xx, .int .i64 xy, .int .i64 yx, .int .i64 yy, .bool false, .int .i64 dx, .int .i64 dy, .bool false, .int .i64 0, .int .i64 0] from rfl]
  obtain ⟨hg0, hg1⟩ := hg
  obtain ⟨hA0, hA1⟩ := hA
  obtain ⟨hB0, hB1⟩ := hB
  have HW := Lib.hid h
  have hrw : r < w.heap.size := h.lt
  have HY := Lib.hid hY
  have hblk := heap_alloc_new w (.cells #[.int .i64 g, .int .i64 xx, .int .i64 xy, .int .i64 yx, .int .i64 yy, .bool false, .int .i64 dx, .int .i64 dy, .bool false, .int .i64 0, .int .i64 0] 34)
  have hk02 : Kp [] w (w.alloc (.cells #[.int .i64 g, .int .i64 xx, .int .i64 xy, .int .i64 yx, .int .i64 yy, .bool false, .int .i64 dx, .int .i64 dy, .bool false, .int .i64 0, .int .i64 0] 34)) := (Kp.refl _ _).alloc _
  clear hY hfit h
  go_enter Tryz.func30, Tryz.ntmps30
  go_wp2_with fail
  have c00 := hblk
  generalize hw1 : w.alloc (.cells #[.int .i64 g, .int .i64 xx, .int .i64 xy, .int .i64 yx, .int .i64 yy, .bool false, .int .i64 dx, .int .i64 dy, .bool false, .int .i64 0, .int .i64 0] 34) = w1 at *
  have hsz : w.heap.size < w1.heap.size := by rw [← hw1]; simp
  clear hw1 c00
  generalize hBv : w.heap.size = B at *
  have HBv := Lib.hid hBv
  have HBL := Lib.hid hblk
  have HK := Lib.hid hk02
  clear hBv hblk hk02
  have c0 := cell_of_row _ B 0 _ _ _ HBL.out
  have c1 := cell_of_row _ B 1 _ _ _ HBL.out
  have c2 := cell_of_row _ B 2 _ _ _ HBL.out
  have c3 := cell_of_row _ B 3 _ _ _ HBL.out
  have c4 := cell_of_row _ B 4 _ _ _ HBL.out
  have c5 := cell_of_row _ B 5 _ _ _ HBL.out
  have c6 := cell_of_row _ B 6 _ _ _ HBL.out
  have c7 := cell_of_row _ B 7 _ _ _ HBL.out
  have c8 := cell_of_row _ B 8 _ _ _ HBL.out
  have c9 := cell_of_row _ B 9 _ _ _ HBL.out
  have c10 := cell_of_row _ B 10 _ _ _ HBL.out
  simp only [List.getElem?_toArray, List.getElem?_cons_succ, List.getElem?_cons_zero] at c0 c1 c2 c3 c4 c5 c6 c7 c8 c9 c10
  have hy : dx < -128 ∨ 128 ≤ dx ∨ dy < -128 ∨ 128 ≤ dy := by
    have h := HY.out; unfold bothB at h
    simp only [Bool.and_eq_true, decide_eq_true_eq, Bool.and_eq_false_iff, decide_eq_false_iff_not] at h
    omega
  obtain ⟨s1, s2, s3, s4, s5⟩ := or_start
  go_quiet (fail)
  have hq : Kp [] w1 (w1.drewN nq) := (Kp.refl _ _).drewN _
  replace HBL := Lib.hid (hq.heap HBL.out (by simp))
  replace HK := Lib.hid ((HK.out : Kp [] w w1).trans hq)
  replace hsz : B < (w1.drewN nq).heap.size := hsz
  clear hq c0 c1 c2 c3 c4 c5 c6 c7 c8 c9 c10
  generalize w1.drewN nq = w9 at *
  have c0 := cell_of_row _ B 0 _ _ _ HBL.out
  have c1 := cell_of_row _ B 1 _ _ _ HBL.out
  have c2 := cell_of_row _ B 2 _ _ _ HBL.out
  have c3 := cell_of_row _ B 3 _ _ _ HBL.out
  have c4 := cell_of_row _ B 4 _ _ _ HBL.out
  have c5 := cell_of_row _ B 5 _ _ _ HBL.out
  have c6 := cell_of_row _ B 6 _ _ _ HBL.out
  have c7 := cell_of_row _ B 7 _ _ _ HBL.out
  have c8 := cell_of_row _ B 8 _ _ _ HBL.out
  have c9 := cell_of_row _ B 9 _ _ _ HBL.out
  have c10 := cell_of_row _ B 10 _ _ _ HBL.out
  simp only [List.getElem?_toArray, List.getElem?_cons_succ, List.getElem?_cons_zero] at c0 c1 c2 c3 c4 c5 c6 c7 c8 c9 c10
  go_wp2_with fail
  go_quiet (fail)
  have hq : Kp [] w9 (w9.drewN nq) := (Kp.refl _ _).drewN _
  replace HBL := Lib.hid (hq.heap HBL.out (by simp))
  replace HK := Lib.hid ((HK.out : Kp [] w w9).trans hq)
  replace hsz : B < (w9.drewN nq).heap.size := hsz
  clear hq c0 c1 c2 c3 c4 c5 c6 c7 c8 c9 c10
  generalize w9.drewN nq = w2 at *
  have c0 := cell_of_row _ B 0 _ _ _ HBL.out
  have c1 := cell_of_row _ B 1 _ _ _ HBL.out
  have c2 := cell_of_row _ B 2 _ _ _ HBL.out
  have c3 := cell_of_row _ B 3 _ _ _ HBL.out
  have c4 := cell_of_row _ B 4 _ _ _ HBL.out
  have c5 := cell_of_row _ B 5 _ _ _ HBL.out
  have c6 := cell_of_row _ B 6 _ _ _ HBL.out
  have c7 := cell_of_row _ B 7 _ _ _ HBL.out
  have c8 := cell_of_row _ B 8 _ _ _ HBL.out
  have c9 := cell_of_row _ B 9 _ _ _ HBL.out
  have c10 := cell_of_row _ B 10 _ _ _ HBL.out
  simp only [List.getElem?_toArray, List.getElem?_cons_succ, List.getElem?_cons_zero] at c0 c1 c2 c3 c4 c5 c6 c7 c8 c9 c10

  go_upto_region 5 with fail
  go_cut [9] (fun s9 wx => s9 = .bool false ∧ w2 = wx)
  case first =>
    go_wp2_with fail
    all_goals
      go_meet
      first | exact ⟨rfl, rfl⟩ | exact ⟨congrArg Value.bool (decide_eq_true (by omega)), rfl⟩ | exact ⟨congrArg Value.bool (decide_eq_false (by omega)), rfl⟩
  obtain ⟨rfl, rfl⟩ := hcut
  clear hy
  go_upto_block 0 with fail
  obtain ⟨E, hE⟩ : ∃ E, mflag xx xy yx yy + 4099 = E := ⟨_, rfl⟩
  have HE : Hid (mflag xx xy yx yy + 4099 = E) := hE
  have hE0 : 0 ≤ E := by have := HFC.out; omega
  have hE1 : E ≤ 10000 := by have := HFC.out; omega
  have h32 : bits .or .i64 E 32 = E + 32 := by rw [← hE]; exact HF.out.2
  clear hE
  go_cut [6, 10] (fun s6 s10 wx => s6 = .int .i64 E ∧ ∃ p c, s10 = .slice p (mnums xx xy yx yy).length c ∧ SwSt w2 wx B s10 (mnums xx xy yx yy))
  case first =>
    clear h32
    have HK3 := Lib.hid hsz
    obtain ⟨X, hX, hcmp⟩ := one_cmp xx xy yx yy
    have HX := Lib.hid hX
    clear hX
    have q0 := fun n : KW w2 => KW.cell c1 n
    have q1 := fun n : KW w2 => KW.cell c2 n
    have q2 := fun n : KW w2 => KW.cell c3 n
    have q3 := fun n : KW w2 => KW.cell c4 n
    go_wp2_with fail
    refine wp_region_kq (by kernel_rfl) (by kernel_rfl) ?_
    repeat (go_big_quiet_step ((go_at_call 11; exact Calls.kq (rone_calls _))))
    refine wpQuiet_nil ?_
    intro w3 hw'
    obtain ⟨⟨_, hkw3⟩, rfl⟩ := hw'
    have j1 := hkw3.cell c1 (by simp)
    have j2 := hkw3.cell c2 (by simp)
    have j3 := hkw3.cell c3 (by simp)
    have j4 := hkw3.cell c4 (by simp)
    clear hcmp q0 q1 q2 q3 c0 c1 c2 c3 c4 c5 c6 c7 c8 c9 c10
    cases X
    · have hn' : ¬ (xx = 16384 ∧ xy = 0 ∧ yx = 0 ∧ yy = 16384) := fun h => by have := HX.out.2 h; simp at this
      by_cases hbc : xy ≠ 0 ∨ yx ≠ 0
      · have hf : mflag xx xy yx yy = 128 := by unfold mflag; rw [if_neg hn', if_pos hbc]
        have hm : mnums xx xy yx yy = [xx, xy, yx, yy] := by unfold mnums; rw [if_neg hn', if_pos hbc]
        have HF2 := Lib.hid hf
        have HM2 := Lib.hid hm
        have hor : bits .or .i64 4099 128 = E := by have h := HF.out.1; have h2 := HE.out; rw [hf] at h h2; rw [h (by decide)]; exact h2
        clear HX hn' hf hm
        by_cases hb : xy = 0
        · have hc : yx ≠ 0 := by rcases hbc with h | h; exact absurd hb h; exact h
          clear hbc
          subst hb
          go_wp2_with fail
          go_region_held3 (fun w' => w'.cell? ⟨B, 1, none⟩ = some (.int .i64 xx) ∧ w'.cell? ⟨B, 2, none⟩ = some (.int .i64 0) ∧ w'.cell? ⟨B, 3, none⟩ = some (.int .i64 yx) ∧ w'.cell? ⟨B, 4, none⟩ = some (.int .i64 yy)) (first | go_keep | exact ⟨j1, j2, j3, j4⟩) (fail)
          all_goals
            go_wp2_with fail
            go_meet
            refine ⟨rfl, ?_⟩
            rw [HM2.out]
            exact ⟨_, _, rfl, IsInts.lit .i64 3 _ (by (repeat (first | exact Kp.refl _ _ | assumption | refine Kp.drew ?_ | refine Kp.drewN ?_ _ | refine Kp.alloc ?_ _ | (refine Kp.setCell ?_ (by first | (left; simp; done) | (right; simp; try omega)) _) | (refine Kp.trans' ?_ (by assumption) (by simp; try omega))))) _ _ (by simp [World.size_drew, World.drewN]) rfl (by decide), fun k hk => by (have h1 := hkw3.size; simp [World.size_drew, World.drewN] at hk ⊢; omega), by (repeat (first | exact Kp.refl _ _ | assumption | refine Kp.drew ?_ | refine Kp.drewN ?_ _ | refine Kp.alloc ?_ _ | (refine Kp.setCell ?_ (by first | (left; simp; done) | (right; simp; try omega)) _) | (refine Kp.trans' ?_ (by assumption) (by simp; try omega))))⟩
        · clear hbc
          go_wp2_with fail
          go_region_held3 (fun w' => w'.cell? ⟨B, 1, none⟩ = some (.int .i64 xx) ∧ w'.cell? ⟨B, 2, none⟩ = some (.int .i64 xy) ∧ w'.cell? ⟨B, 3, none⟩ = some (.int .i64 yx) ∧ w'.cell? ⟨B, 4, none⟩ = some (.int .i64 yy)) (first | go_keep | exact ⟨j1, j2, j3, j4⟩) (fail)
          all_goals
            go_wp2_with fail
            go_meet
            refine ⟨rfl, ?_⟩
            rw [HM2.out]
            exact ⟨_, _, rfl, IsInts.lit .i64 3 _ (by (repeat (first | exact Kp.refl _ _ | assumption | refine Kp.drew ?_ | refine Kp.drewN ?_ _ | refine Kp.alloc ?_ _ | (refine Kp.setCell ?_ (by first | (left; simp; done) | (right; simp; try omega)) _) | (refine Kp.trans' ?_ (by assumption) (by simp; try omega))))) _ _ (by simp [World.size_drew, World.drewN]) rfl (by decide), fun k hk => by (have h1 := hkw3.size; simp [World.size_drew, World.drewN] at hk ⊢; omega), by (repeat (first | exact Kp.refl _ _ | assumption | refine Kp.drew ?_ | refine Kp.drewN ?_ _ | refine Kp.alloc ?_ _ | (refine Kp.setCell ?_ (by first | (left; simp; done) | (right; simp; try omega)) _) | (refine Kp.trans' ?_ (by assumption) (by simp; try omega))))⟩
      · have hb : xy = 0 := by omega
        have hc : yx = 0 := by omega
        clear hbc
        subst hb; subst hc
        by_cases had : xx = yy
        · have hf : mflag xx 0 0 yy = 8 := by unfold mflag; rw [if_neg hn', if_neg (by simp), if_pos had]
          have hm : mnums xx 0 0 yy = [xx] := by unfold mnums; rw [if_neg hn', if_neg (by simp), if_pos had]
          have hor : bits .or .i64 4099 8 = E := by have h := HF.out.1; have h2 := HE.out; rw [hf] at h h2; rw [h (by decide)]; exact h2
          subst had
          have HM2 := Lib.hid hm
          clear HX hn' hf hm
          go_wp2_with fail
          go_region_held3 (fun w' => w'.cell? ⟨B, 1, none⟩ = some (.int .i64 xx) ∧ w'.cell? ⟨B, 2, none⟩ = some (.int .i64 0) ∧ w'.cell? ⟨B, 3, none⟩ = some (.int .i64 0) ∧ w'.cell? ⟨B, 4, none⟩ = some (.int .i64 xx)) (first | go_keep | exact ⟨j1, j2, j3, j4⟩) (fail)
          all_goals
            go_wp2_with fail
            go_meet
            refine ⟨rfl, ?_⟩
            rw [HM2.out]
            exact ⟨_, _, rfl, IsInts.lit .i64 3 _ (by (repeat (first | exact Kp.refl _ _ | assumption | refine Kp.drew ?_ | refine Kp.drewN ?_ _ | refine Kp.alloc ?_ _ | (refine Kp.setCell ?_ (by first | (left; simp; done) | (right; simp; try omega)) _) | (refine Kp.trans' ?_ (by assumption) (by simp; try omega))))) _ _ (by simp [World.size_drew, World.drewN]) rfl (by decide), fun k hk => by (have h1 := hkw3.size; simp [World.size_drew, World.drewN] at hk ⊢; omega), by (repeat (first | exact Kp.refl _ _ | assumption | refine Kp.drew ?_ | refine Kp.drewN ?_ _ | refine Kp.alloc ?_ _ | (refine Kp.setCell ?_ (by first | (left; simp; done) | (right; simp; try omega)) _) | (refine Kp.trans' ?_ (by assumption) (by simp; try omega))))⟩
        · have hf : mflag xx 0 0 yy = 64 := by unfold mflag; rw [if_neg hn', if_neg (by simp), if_neg had]
          have hm : mnums xx 0 0 yy = [xx, yy] := by unfold mnums; rw [if_neg hn', if_neg (by simp), if_neg had]
          have hor : bits .or .i64 4099 64 = E := by have h := HF.out.1; have h2 := HE.out; rw [hf] at h h2; rw [h (by decide)]; exact h2
          have HM2 := Lib.hid hm
          clear HX hn' hf hm
          go_wp2_with fail
          go_region_held3 (fun w' => w'.cell? ⟨B, 1, none⟩ = some (.int .i64 xx) ∧ w'.cell? ⟨B, 2, none⟩ = some (.int .i64 0) ∧ w'.cell? ⟨B, 3, none⟩ = some (.int .i64 0) ∧ w'.cell? ⟨B, 4, none⟩ = some (.int .i64 yy)) (first | go_keep | exact ⟨j1, j2, j3, j4⟩) (fail)
          all_goals
            go_wp2_with fail
            go_meet
            refine ⟨rfl, ?_⟩
            rw [HM2.out]
            exact ⟨_, _, rfl, IsInts.lit .i64 3 _ (by (repeat (first | exact Kp.refl _ _ | assumption | refine Kp.drew ?_ | refine Kp.drewN ?_ _ | refine Kp.alloc ?_ _ | (refine Kp.setCell ?_ (by first | (left; simp; done) | (right; simp; try omega)) _) | (refine Kp.trans' ?_ (by assumption) (by simp; try omega))))) _ _ (by simp [World.size_drew, World.drewN]) rfl (by decide), fun k hk => by (have h1 := hkw3.size; simp [World.size_drew, World.drewN] at hk ⊢; omega), by (repeat (first | exact Kp.refl _ _ | assumption | refine Kp.drew ?_ | refine Kp.drewN ?_ _ | refine Kp.alloc ?_ _ | (refine Kp.setCell ?_ (by first | (left; simp; done) | (right; simp; try omega)) _) | (refine Kp.trans' ?_ (by assumption) (by simp; try omega))))⟩
    · obtain ⟨rfl, rfl, rfl, rfl⟩ := HX.out.1 rfl
      clear HX
      go_wp2_with fail
      go_meet
      have hE2 : E = 4099 := HE.out.symm
      subst hE2
      exact ⟨rfl, _, _, rfl, IsInts.nil _ _, by simp, by (repeat (first | exact Kp.refl _ _ | assumption | refine Kp.drew ?_ | refine Kp.drewN ?_ _ | refine Kp.alloc ?_ _ | (refine Kp.setCell ?_ (by first | (left; simp; done) | (right; simp; try omega)) _) | (refine Kp.trans' ?_ (by assumption) (by simp; try omega))))⟩
  obtain ⟨rfl, np, nc, rfl, hI, hge, hkc⟩ := hcut
  have H3 : Hid (RWt wc r room acc) := HW.out.kp0 (HK.out.trans hkc)
  replace HBL := Lib.hid (hkc.heap HBL.out (by simp))
  replace HK := Lib.hid (HK.out.trans hkc)
  replace hsz : B < wc.heap.size := by have := hkc.size; omega
  rw [HE.out] at HQ
  clear HE HFC HF HY hkc
  generalize mnums xx xy yx yy = nums at *
  obtain ⟨N, hN⟩ : ∃ N, nums.length = N := ⟨_, rfl⟩
  have HNL := Lib.hid hN
  rw [hN] at hNL hI hge ⊢
  have HI := Lib.hid hI
  have HGE := Lib.hid hge
  clear hI hge hN c0 c1 c2 c3 c4 c5 c6 c7 c8 c9 c10 s1 s2 s3 s4 s5
  have hBr : B ∉ [r] := by simp; omega
  go_wp2_with fail
  refine (rwu2_calls r room acc (E) (by omega) (by omega) _ H3.out (by omega) (by omega)).mono ?_; rintro e w5 ⟨rfl, h5, hk5⟩
  have H5 := Lib.hid h5
  have HK5 : Hid (Kp [r] wc w5) := hk5
  have c0 := cell_of_row _ B 0 _ _ _ (hk5.heap HBL.out hBr)
  simp only [List.getElem?_toArray, List.getElem?_cons_zero] at c0
  clear h5 hk5 h32
  go_wp2_with fail
  refine (rwu2_calls r room (acc ++ bytesN 2 (E)) g (by omega) (by omega) _ H5.out (by simp [bytesN_length]; omega) (by omega)).mono ?_; rintro e w6 ⟨rfl, h6, hk6⟩
  have H6 := Lib.hid h6
  have HK6 : Hid (Kp [r] wc w6) := HK5.out.trans hk6
  clear h6 hk6 c0
  go_wp2_with fail
  refine (rwu2_calls r room (acc ++ bytesN 2 (E) ++ bytesN 2 g) dx (by omega) (by omega) _ H6.out (by simp [bytesN_length]; omega) (by omega)).mono ?_; rintro e w7 ⟨rfl, h7, hk7⟩
  have H7 := Lib.hid h7
  have HK7 : Hid (Kp [r] wc w7) := HK6.out.trans hk7
  clear h7 hk7
  go_wp2_with fail
  refine (rwu2_calls r room (acc ++ bytesN 2 (E) ++ bytesN 2 g ++ bytesN 2 dx) dy (by omega) (by omega) _ H7.out (by simp [bytesN_length]; omega) (by omega)).mono ?_; rintro e w8 ⟨rfl, h8, hk8⟩
  have H8 := Lib.hid h8
  have HK8 : Hid (Kp [r] wc w8) := HK7.out.trans hk8
  clear h8 hk8 HK5 HK6 HK7 H5 H6 H7 H3
  obtain ⟨D, hD⟩ : ∃ D, acc ++ bytesN 2 (E) ++ bytesN 2 g ++ bytesN 2 dx ++ bytesN 2 dy = D := ⟨_, rfl⟩
  have HQ2 : Hid (acc ++ putM (⟨g, xx, xy, yx, yy, false, dx, dy, false, 0, 0⟩ : Pt) false = D ++ nums.flatMap (bytesN 2)) := by
    show _ = _; rw [HQ.out, ← hD]; simp only [List.append_assoc]
  have hDl : D.length ≤ acc.length + 8 := by rw [← hD]; simp [bytesN_length]
  rw [hD] at H8
  clear hD HQ
  go_wp2_with fail
  go_loopw [12] (fun i wr => ∃ j : Nat, j ≤ N ∧ i = .int .i64 j ∧ Hid (RWt wr r room (D ++ (nums.take j).flatMap (bytesN 2)) ∧ Kp [r] wc wr)) (fun i _ => N - (intOf i).toNat)
  case atStart => exact ⟨0, by omega, rfl, by simpa using H8.out, HK8.out⟩
  case round =>
    obtain ⟨j, hj, rfl, HJ⟩ := hrel
    clear H8 HK8
    by_cases hlt : j < N
    · have hI := HI.out.kp HJ.out.2 (fun t ht e => by have h1 := HGE.out t e; simp at ht; omega)
      have hC : ∃ q off, np = some ⟨q, off, none⟩ ∧ wr.cell? ⟨q, off + j, none⟩ = some (.int .i64 (nums.getD j 0)) := by
        rcases hI with ⟨⟨a, e⟩, e0⟩ | ⟨q, off, c, e, _, _, h3⟩
        · have := HNL.out; rw [e0] at this; simp at this; omega
        · cases e; exact ⟨q, off, rfl, h3 j (by rw [HNL.out]; exact hlt)⟩
      obtain ⟨q, off, rfl, hc⟩ := hC
      have hx := HN.out (nums.getD j 0) (by rw [List.getD_eq_getElem?_getD, List.getElem?_eq_getElem (by rw [HNL.out]; exact hlt)]; exact List.getElem_mem _)
      have hsn : Hid (D ++ (nums.take (j + 1)).flatMap (bytesN 2) = D ++ (nums.take j).flatMap (bytesN 2) ++ bytesN 2 (nums.getD j 0)) := by
        show _ = _; rw [flat_snoc nums j (by rw [HNL.out]; exact hlt), List.append_assoc]
      have hln : (D ++ (nums.take j).flatMap (bytesN 2)).length ≤ acc.length + 14 := by
        rw [List.length_append, flat2_len, List.length_take]; omega
      generalize nums.getD j 0 = x at *
      generalize D ++ (nums.take j).flatMap (bytesN 2) = ac at *
      obtain ⟨hx0, hx1⟩ := hx
      clear hI
      go_wp2_with fail
      refine (rwu2_calls r room ac x (by omega) (by omega) _ HJ.out.1 (by omega) (by omega)).mono ?_; rintro e w9 ⟨rfl, h9, hk9⟩
      have HS9 : Hid (RWt w9 r room (D ++ (nums.take (j + 1)).flatMap (bytesN 2)) ∧ Kp [r] wc w9) := ⟨by rw [hsn.out]; exact h9, HJ.out.2.trans hk9⟩
      clear h9 hk9 hc
      go_wp2_with fail
      go_roundw
      case rel => first | exact ⟨j + 1, by omega, int_eq' (by omega), HS9⟩ | ((repeat apply Exists.intro); exact ⟨⟨j + 1, by omega, int_eq' (by omega), HS9⟩, rfl⟩)
      case measure => simp [intOf]; omega
    · obtain rfl : j = N := by omega
      go_wp2_with fail
      go_end0
      refine ⟨rfl, ?_, (HK.out.more (by simp)).trans HJ.out.2⟩
      rw [HQ2.out]
      have := HJ.out.1
      rwa [List.take_of_length_le (by rw [HNL.out]; exact Nat.le_refl _)] at this
end Go.Proofs.YtafkhnlmipddmaaGreat.Cp
namespace Go.Proofs.YtafkhnlmipddmaaGreat.Cp
open Go.RowKit
set_option linter.unusedVariables false
set_option linter.unusedSimpArgs false
theorem may_parts {g xx xy yx yy dx dy pa ch : Int} {m t : Bool} (hm : mayPt ⟨g, xx, xy, yx, yy, m, dx, dy, t, pa, ch⟩ = true) :
    (0 ≤ g ∧ g < 65536) ∧ fitsM xx xy yx yy = true ∧ ((m = true ∧ (0 ≤ pa ∧ pa < 65536) ∧ (0 ≤ ch ∧ ch < 65536) ∧ dx = 0 ∧ dy = 0 ∧ t = false) ∨ (m = false ∧ (-32768 ≤ dx ∧ dx < 32768) ∧ (-32768 ≤ dy ∧ dy < 32768) ∧ pa = 0 ∧ ch = 0)) := by
  unfold mayPt at hm
  simp only [Bool.and_eq_true] at hm
  obtain ⟨h1, h2, h3⟩ := hm
  refine ⟨by simpa [wordB] using h1, h2, ?_⟩
  cases m
  · right; simp [s16B] at h3; simp; omega
  · left; simp [wordB] at h3; simp; exact ⟨h3.1.1.1.1, h3.1.1.1.2, h3.1.1.2, h3.1.2, h3.2⟩
theorem rput_calls (r : Nat) (room : Int) (acc : List Int) (p : Pt) (G : Bool) (w : World) (h : RWt w r room acc) (hm : mayPt p = true) (hn : (acc.length : Int) + 16 ≤ room) (hr : room ≤ 1073741824) :
    Calls Tryz.prog 30 #[.pointer (some ⟨r, 0, none⟩), ptV p, .bool G] w fun e w' => e = .returned (.tuple #[]) ∧ RWt w' r room (acc ++ putM p G) ∧ Kp [r] w w' := by
  obtain ⟨g, xx, xy, yx, yy, m, dx, dy, t, pa, ch⟩ := p
  obtain ⟨hg, hfit, ⟨rfl, ha, hb, rfl, rfl, rfl⟩ | ⟨rfl, ha, hb, rfl, rfl⟩⟩ := may_parts hm
  · cases hY : bothB pa ch 0 255 <;> cases G
    · exact rput_mnw r room acc g xx xy yx yy pa ch w h hfit hg (by omega) (by omega) hY hn hr
    · exact rput_mgw r room acc g xx xy yx yy pa ch w h hfit hg (by omega) (by omega) hY hn hr
    · exact rput_mny r room acc g xx xy yx yy pa ch w h hfit hg (by omega) (by omega) hY hn hr
    · exact rput_mgy r room acc g xx xy yx yy pa ch w h hfit hg (by omega) (by omega) hY hn hr
  · cases hY : bothB dx dy (-128) 127 <;> cases t <;> cases G
    · exact rput_unw r room acc g xx xy yx yy dx dy w h hfit hg (by omega) (by omega) hY hn hr
    · exact rput_ugw r room acc g xx xy yx yy dx dy w h hfit hg (by omega) (by omega) hY hn hr
    · exact rput_tnw r room acc g xx xy yx yy dx dy w h hfit hg (by omega) (by omega) hY hn hr
    · exact rput_tgw r room acc g xx xy yx yy dx dy w h hfit hg (by omega) (by omega) hY hn hr
    · exact rput_uny r room acc g xx xy yx yy dx dy w h hfit hg (by omega) (by omega) hY hn hr
    · exact rput_ugy r room acc g xx xy yx yy dx dy w h hfit hg (by omega) (by omega) hY hn hr
    · exact rput_tny r room acc g xx xy yx yy dx dy w h hfit hg (by omega) (by omega) hY hn hr
    · exact rput_tgy r room acc g xx xy yx yy dx dy w h hfit hg (by omega) (by omega) hY hn hr
end Go.Proofs.YtafkhnlmipddmaaGreat.Cp
namespace Go.Proofs.YtafkhnlmipddmaaGreat.Cp
open Go.RowKit
set_option linter.unusedVariables false
set_option linter.unusedSimpArgs false
theorem IsPts.rowJ {w : World} {v : Value} {l : List Pt} (h : IsPts w v l) {i : Nat} (hi : i < l.length) : ∃ g off c, v = .slice (some ⟨g, off, none⟩) l.length c ∧ l.length ≤ c ∧ c ≤ maxLen ∧ ∀ j u, (ptCells (l.getD i pt0))[j]? = some u → w.cell? ⟨g, off + i * 11 + j, none⟩ = some u := by
  rcases h.cases with ⟨ad, rfl, rfl⟩ | ⟨g, off, c, rfl, h1, h2, h3⟩
  · simp at hi
  · exact ⟨g, off, c, rfl, h1, h2, h3 i hi⟩
/-- No part ahead of j is amiss. -/
def preOk (l : List Pt) (j : Nat) : Bool := (l.take j).all mayPt
theorem preOk_next (l : List Pt) (j : Nat) (h : j < l.length) : preOk l (j + 1) = (preOk l j && mayPt (l.getD j pt0)) := by
  unfold preOk; rw [take_snoc l j pt0 h]; simp
theorem preOk_not (l : List Pt) (j : Nat) (h : j < l.length) (hb : mayPt (l.getD j pt0) = false) : l.all mayPt = false := by
  rw [List.all_eq_false]
  refine ⟨l.getD j pt0, ?_, by rw [hb]; simp⟩
  rw [List.getD_eq_getElem?_getD, List.getElem?_eq_getElem h]; exact List.getElem_mem _
end Go.Proofs.YtafkhnlmipddmaaGreat.Cp
namespace Go.Proofs.YtafkhnlmipddmaaGreat.Cp
open Go.RowKit
set_option linter.unusedVariables false
set_option linter.unusedSimpArgs false
/-- The bytes of the first so many parts. -/
def encPre (l : List Pt) : Nat → List Int
  | 0 => []
  | j + 1 => encPre l j ++ putM (l.getD j pt0) (decide (j + 1 < l.length))
def encH : List Int := [255, 255, 0, 0, 0, 0, 0, 0, 0, 0]
/-- What Encode gives. -/
def encM (l : List Pt) : List Int × Int := if l.length = 0 ∨ l.all mayPt = false then ([], 1) else if 64 < l.length then ([], 120) else (encH ++ encPre l l.length, 0)
theorem encPre_len (l : List Pt) (j : Nat) : (encPre l j).length ≤ 16 * j := by
  induction j with
  | zero => simp [encPre]
  | succ j ih => unfold encPre; have := putM_len (l.getD j pt0) (decide (j + 1 < l.length)); rw [List.length_append]; omega
/-- Eight bytes that are made. -/
def zer8 : List Int := List.replicate 8 0
theorem make8 (W : World) : (Instr.makeSlice 25 (.int .i64 8) (.int .i64 8)).run Tryz.prog W = .ok (.slice (some ⟨W.heap.size, 0, none⟩) 8 8) (W.alloc (.cells (zer8.map (Value.int .u8)).toArray 5)) := by
  obtain ⟨i0, hi, hz0, hz1, hz2⟩ := info_parts infoByte
  have h := run_makeSlice (P := Tryz.prog) W 25 5 i0 (.int .u8 0) Tryz.underlying25 hi hz0 .i64 .i64 8 8 (by decide) (by decide) (by rw [hz1]; decide) (by rw [hz2]; decide) (by decide)
  rw [h, hz1]
  have hm : madeCells (Value.int .u8 0).cells ((8 : Int).toNat * 1) = (zer8.map (Value.int .u8)).toArray := by
    apply Array.toList_inj.1
    exact madeBytes 8
  rw [hm]; rfl
/-- Where the writer stands, and what it holds. -/
def EnSt (w1 wx : World) (r : Nat) (u : Value) (acc : List Int) : Prop := WSt wx r 4096 u acc ∧ Kp [] w1 wx ∧ w1.heap.size ≤ r
end Go.Proofs.YtafkhnlmipddmaaGreat.Cp
namespace Go.Proofs.YtafkhnlmipddmaaGreat.Cp
open Go.RowKit
set_option linter.unusedVariables false
set_option linter.unusedSimpArgs false
def ReSt (w wx : World) (r : Nat) (acc : List Int) : Prop := RWt wx r 1048576 acc ∧ Kp [] w wx ∧ w.heap.size ≤ r
theorem ReSt.next {w a b : World} {r : Nat} {acc acc' : List Int} (h : ReSt w a r acc) (hr : RWt b r 1048576 acc') (hk : Kp [r] a b) : ReSt w b r acc' := ⟨hr, h.2.1.trans' hk (fun t ht => by simp at ht; subst ht; exact .inr h.2.2), h.2.2⟩
set_option maxRecDepth 100000 in
set_option maxHeartbeats 4000000 in
theorem rencode_calls (v : Value) (l : List Pt) (w : World) (hv : IsPts w v l) :
    Calls Tryz.prog 10 #[v] w fun e w' => ∃ v', e = .returned (.tuple #[v', .int .i64 (encM l).2]) ∧ IsInts .u8 w' v' (encM l).1 ∧ Kp [] w w' := by
  have hle := hv.le
  unfold maxLen at hle
  obtain ⟨pa, ca, rfl⟩ := hv.form
  have HV := Lib.hid hv
  clear hv
  obtain ⟨N, hN⟩ : ∃ N, l.length = N := ⟨_, rfl⟩
  have HN := Lib.hid hN
  rw [hN] at HV hle ⊢
  clear hN
  by_cases h0 : N = 0
  · have HE : Hid (encM l = ([], 1)) := by show _ = _; unfold encM; rw [if_pos (.inl (by rw [HN.out]; exact h0))]
    subst h0
    clear HV
    go_enter Tryz.func10, Tryz.ntmps10
    go_wp2_with fail
    go_ret2
    rw [HE.out]
    exact ⟨_, rfl, IsInts.nil _ _, by (repeat (first | exact Kp.refl _ _ | assumption | refine Kp.drew ?_ | refine Kp.drewN ?_ _ | refine Kp.alloc ?_ _ | (refine Kp.setCell ?_ (by first | (left; simp; done) | (right; simp; try omega)) _) | (refine Kp.trans' ?_ (by assumption) (by simp; try omega))))⟩
  have hN0 : 0 < N := by omega
  have hb0 : ((N : Int) == 0) = false := by simp; omega
  clear h0
  go_enter Tryz.func10, Tryz.ntmps10
  go_wp2_with fail
  go_loopw [4] (fun i wr => ∃ j : Nat, j ≤ N ∧ i = .int .i64 j ∧ Hid (preOk l j = true ∧ Kp [] w wr)) (fun i _ => N - (intOf i).toNat)
  case atStart => exact ⟨0, by omega, rfl, rfl, by (repeat (first | exact Kp.refl _ _ | assumption | refine Kp.drew ?_ | refine Kp.drewN ?_ _ | refine Kp.alloc ?_ _ | (refine Kp.setCell ?_ (by first | (left; simp; done) | (right; simp; try omega)) _) | (refine Kp.trans' ?_ (by assumption) (by simp; try omega))))⟩
  case round =>
    obtain ⟨j, hj, rfl, HJ⟩ := hrel
    by_cases hlt : j < N
    · obtain ⟨g1, o1, c1, e1, _, _, h1⟩ := (HV.out.kp HJ.out.2 (by simp)).rowJ (i := j) (by rw [HN.out]; exact hlt)
      rw [HN.out] at e1
      cases e1
      have HP := Lib.hid (preOk_next l j (by rw [HN.out]; exact hlt))
      have HP2 := Lib.hid (preOk_not l j (by rw [HN.out]; exact hlt))
      generalize l.getD j pt0 = p at *
      have h1_0 := h1 0 (.int .i64 p.g) rfl
      have h1_1 := h1 1 (.int .i64 p.xx) rfl
      have h1_2 := h1 2 (.int .i64 p.xy) rfl
      have h1_3 := h1 3 (.int .i64 p.yx) rfl
      have h1_4 := h1 4 (.int .i64 p.yy) rfl
      have h1_5 := h1 5 (.bool p.m) rfl
      have h1_6 := h1 6 (.int .i64 p.dx) rfl
      have h1_7 := h1 7 (.int .i64 p.dy) rfl
      have h1_8 := h1 8 (.bool p.t) rfl
      have h1_9 := h1 9 (.int .i64 p.pa) rfl
      have h1_10 := h1 10 (.int .i64 p.ch) rfl
      simp only [Nat.add_zero] at h1_0
      clear h1
      have HC : Hid (∀ W, Calls Tryz.prog 29 #[.agg #[.int .i64 p.g, .int .i64 p.xx, .int .i64 p.xy, .int .i64 p.yx, .int .i64 p.yy, .bool p.m, .int .i64 p.dx, .int .i64 p.dy, .bool p.t, .int .i64 p.pa, .int .i64 p.ch]] W fun e w' => e = .returned (.bool (mayPt p)) ∧ Kp [] W w') := fun W => rmay12_calls p W
      generalize mayPt p = X at *
      go_wp2_with fail
      refine (HC.out _).mono ?_; rintro e w2 ⟨rfl, hk2⟩
      have HK2 : Hid (Kp [] w w2) := HJ.out.2.trans hk2
      clear hk2 h1_0 h1_1 h1_2 h1_3 h1_4 h1_5 h1_6 h1_7 h1_8 h1_9 h1_10
      cases X
      · have HA := Lib.hid (HP2.out rfl)
        have HE : Hid (encM l = ([], 1)) := by show _ = _; unfold encM; rw [if_pos (.inr HA.out)]
        clear HP2
        go_wp2_with fail
        go_ret2
        rw [HE.out]
        exact ⟨_, rfl, IsInts.nil _ _, HK2.out⟩
      · have HB : Hid (preOk l (j + 1) = true) := by show _ = _; rw [HP.out, HJ.out.1]; rfl
        clear HP HP2
        go_wp2_with fail
        go_roundw
        case rel => first | exact ⟨j + 1, by omega, int_eq' (by omega), HB.out, HK2.out⟩ | ((repeat apply Exists.intro); exact ⟨⟨j + 1, by omega, int_eq' (by omega), HB.out, HK2.out⟩, rfl⟩)
        case measure => simp [intOf]; omega
    · obtain rfl : j = N := by omega
      have hA : l.all mayPt = true := by
        have := HJ.out.1; unfold preOk at this
        rwa [List.take_of_length_le (by rw [HN.out]; exact Nat.le_refl _)] at this
      have HA := Lib.hid (fun p hp => List.all_eq_true.1 hA p hp)
      by_cases h64 : 64 < j
      · have HE : Hid (encM l = ([], 120)) := by show _ = _; unfold encM; rw [if_neg (by rw [HN.out, hA]; simp; omega), if_pos (by rw [HN.out]; exact h64)]
        clear hA
        go_wp2_with fail
        go_ret2
        rw [HE.out]
        exact ⟨_, rfl, IsInts.nil _ _, HJ.out.2⟩
      have HE : Hid (encM l = (encH ++ encPre l j, 0)) := by show _ = _; unfold encM; rw [if_neg (by rw [HN.out, hA]; simp; omega), if_neg (by rw [HN.out]; exact h64), HN.out]
      clear hA
      have hmk := make8
      have hd64 : decide (64 < (j : Int)) = false := decide_eq_false (by omega)
      have HKJ : Hid (Kp [] w wr) := HJ.out.2
      have hszw : w.heap.size ≤ wr.heap.size := HJ.out.2.size
      clear HJ
      go_wp2_with fail
      have H0 : Hid (RWt (wr.alloc (.cells #[.slice none 0 0, .int .i64 1048576, .bool false] 65)) wr.heap.size 1048576 []) := RWt.made wr 1048576
      have HK1 : Hid (Kp [] w (wr.alloc (.cells #[.slice none 0 0, .int .i64 1048576, .bool false] 65))) := HKJ.out.trans (by (repeat (first | exact Kp.refl _ _ | assumption | refine Kp.drew ?_ | refine Kp.drewN ?_ _ | refine Kp.alloc ?_ _ | (refine Kp.setCell ?_ (by first | (left; simp; done) | (right; simp; try omega)) _) | (refine Kp.trans' ?_ (by assumption) (by simp; try omega)))))
      refine (rwu2_calls wr.heap.size 1048576 [] (-1) (by decide) (by decide) _ H0.out (by decide) (by decide)).mono ?_; rintro e w5 ⟨rfl, h5, hk5⟩
      have HS5 : Hid (ReSt w w5 wr.heap.size ([] ++ bytesN 2 (-1))) := ReSt.next (acc := []) ⟨H0.out, HK1.out, hszw⟩ h5 hk5
      clear h5 hk5 H0 HK1 HKJ
      have hr5 : wr.heap.size < w5.heap.size := HS5.out.1.lt
      generalize hr : wr.heap.size = r at *
      clear hr
      go_wp2_with fail
      refine (rdata_calls r 1048576 ([] ++ bytesN 2 (-1)) _ zer8 _ (HS5.out.1.kp0 (by (repeat (first | exact Kp.refl _ _ | assumption | refine Kp.drew ?_ | refine Kp.drewN ?_ _ | refine Kp.alloc ?_ _ | (refine Kp.setCell ?_ (by first | (left; simp; done) | (right; simp; try omega)) _) | (refine Kp.trans' ?_ (by assumption) (by simp; try omega)))))) (IsInts.lit .u8 5 zer8 (Kp.refl _ _) _ _ rfl rfl (by decide)) (by intro k hk; simp at hk; omega) (by simp [bytesN_length, zer8]) (by decide)).mono ?_; rintro e w6 ⟨rfl, h6, hk6⟩
      have HS6 : Hid (ReSt w w6 r encH) := ReSt.next (acc := [] ++ bytesN 2 (-1)) ⟨HS5.out.1.kp0 (by (repeat (first | exact Kp.refl _ _ | assumption | refine Kp.drew ?_ | refine Kp.drewN ?_ _ | refine Kp.alloc ?_ _ | (refine Kp.setCell ?_ (by first | (left; simp; done) | (right; simp; try omega)) _) | (refine Kp.trans' ?_ (by assumption) (by simp; try omega))))), HS5.out.2.1.trans (by (repeat (first | exact Kp.refl _ _ | assumption | refine Kp.drew ?_ | refine Kp.drewN ?_ _ | refine Kp.alloc ?_ _ | (refine Kp.setCell ?_ (by first | (left; simp; done) | (right; simp; try omega)) _) | (refine Kp.trans' ?_ (by assumption) (by simp; try omega))))), HS5.out.2.2⟩ h6 hk6
      clear h6 hk6 HS5 hr5 hmk
      go_wp2_with fail
      go_loopw [6] (fun i wq => ∃ q : Nat, q ≤ j ∧ i = .int .i64 q ∧ Hid (ReSt w wq r (encH ++ encPre l q))) (fun i _ => j - (intOf i).toNat)
      case atStart => exact ⟨0, by omega, rfl, by simpa [encPre] using HS6⟩
      case round =>
        obtain ⟨q, hq, rfl, HQ⟩ := hrel
        clear HS6
        by_cases hlt : q < j
        · obtain ⟨g1, o1, c1, e1, _, _, h1⟩ := (HV.out.kp HQ.out.2.1 (by simp)).rowJ (i := q) (by rw [HN.out]; exact hlt)
          rw [HN.out] at e1
          cases e1
          have hmay := HA.out (l.getD q pt0) (by rw [List.getD_eq_getElem?_getD, List.getElem?_eq_getElem (by rw [HN.out]; exact hlt)]; exact List.getElem_mem _)
          obtain ⟨G, hG⟩ : ∃ G, decide ((q : Int) + 1 < (j : Int)) = G := ⟨_, rfl⟩
          have hstep : Hid (encH ++ encPre l (q + 1) = encH ++ encPre l q ++ putM (l.getD q pt0) G) := by
            show _ = _
            have h2 : decide (q + 1 < j) = decide ((q : Int) + 1 < (j : Int)) := by apply decide_eq_decide.2; omega
            rw [show encPre l (q + 1) = encPre l q ++ putM (l.getD q pt0) (decide (q + 1 < l.length)) from rfl, HN.out, ← hG, h2, List.append_assoc]
          have hln : (encH ++ encPre l q).length ≤ 16 * q + 10 := by
            have := encPre_len l q; rw [List.length_append]; simp only [encH, List.length_cons, List.length_nil]; omega
          generalize encH ++ encPre l q = ac at *
          generalize l.getD q pt0 = p at *
          have HP : Hid (∀ W, RWt W r 1048576 ac → Calls Tryz.prog 30 #[.pointer (some ⟨r, 0, none⟩), .agg #[.int .i64 p.g, .int .i64 p.xx, .int .i64 p.xy, .int .i64 p.yx, .int .i64 p.yy, .bool p.m, .int .i64 p.dx, .int .i64 p.dy, .bool p.t, .int .i64 p.pa, .int .i64 p.ch], .bool G] W fun e w' => e = .returned (.tuple #[]) ∧ RWt w' r 1048576 (ac ++ putM p G) ∧ Kp [r] W w') :=
            fun W hW => rput_calls r 1048576 ac p G W hW hmay (by omega) (by decide)
          clear hmay
          have h1_0 := h1 0 (.int .i64 p.g) rfl
          have h1_1 := h1 1 (.int .i64 p.xx) rfl
          have h1_2 := h1 2 (.int .i64 p.xy) rfl
          have h1_3 := h1 3 (.int .i64 p.yx) rfl
          have h1_4 := h1 4 (.int .i64 p.yy) rfl
          have h1_5 := h1 5 (.bool p.m) rfl
          have h1_6 := h1 6 (.int .i64 p.dx) rfl
          have h1_7 := h1 7 (.int .i64 p.dy) rfl
          have h1_8 := h1 8 (.bool p.t) rfl
          have h1_9 := h1 9 (.int .i64 p.pa) rfl
          have h1_10 := h1 10 (.int .i64 p.ch) rfl
          simp only [Nat.add_zero] at h1_0
          clear h1
          go_wp2_with fail
          refine (HP.out _ HQ.out.1).mono ?_; rintro e w8 ⟨rfl, h8, hk8⟩
          have HS8 : Hid (ReSt w w8 r (encH ++ encPre l (q + 1))) := HQ.out.next (by rw [hstep.out]; exact h8) hk8
          clear h8 hk8 h1_0 h1_1 h1_2 h1_3 h1_4 h1_5 h1_6 h1_7 h1_8 h1_9 h1_10 hG
          go_wp2_with fail
          go_roundw
          case rel => first | exact ⟨q + 1, by omega, int_eq' (by omega), HS8⟩ | ((repeat apply Exists.intro); exact ⟨⟨q + 1, by omega, int_eq' (by omega), HS8⟩, rfl⟩)
          case measure => simp [intOf]; omega
        · obtain rfl : q = j := by omega
          obtain ⟨u, hu1, hu2, hu3⟩ := HQ.out.1
          have k0 : wr.cell? ⟨r, 0, none⟩ = some u := by rw [cell_of_row wr r 0 _ _ _ hu1]; rfl
          have HU := Lib.hid hu2
          obtain ⟨pu, cu, rfl⟩ : ∃ p c, u = .slice p (encH ++ encPre l q).length c := by
            rcases hu2 with ⟨⟨ad, rfl⟩, e⟩ | ⟨g, off, c, rfl, _⟩
            · exact ⟨_, 0, by rw [e]; rfl⟩
            · exact ⟨_, c, rfl⟩
          clear hu1 hu2 hu3
          generalize encH ++ encPre l q = R at *
          go_wp2_with fail
          go_ret2
          rw [HE.out]
          exact ⟨_, rfl, HU.out, HQ.out.2.1⟩
end Go.Proofs.YtafkhnlmipddmaaGreat.Cp
namespace Go.Proofs.YtafkhnlmipddmaaGreat.Cp
open Go.RowKit
set_option linter.unusedVariables false
set_option linter.unusedSimpArgs false
theorem beN_b1 (x : Int) : beN (bytesN 1 x) = x % 256 := by simp [beN, bytesN]
theorem beN_b2 (x : Int) : beN (bytesN 2 x) = x % 65536 := by simp [beN, bytesN]; omega
theorem rd_at (zs rest : List Int) (k m : Nat) (x : Int) (hm : 0 < m) (hd : zs.drop k = bytesN m x ++ rest) : stp zs m (k, false) = (k + m, false) ∧ val zs m (k, false) = beN (bytesN m x) ∧ zs.drop (k + m) = rest := by
  have hl := congrArg List.length hd
  rw [List.length_drop, List.length_append, bytesN_length] at hl
  have hb : rdB zs k false m = false := by unfold rdB; simp; omega
  refine ⟨?_, ?_, ?_⟩
  · unfold stp rdK; dsimp only; rw [hb]; rfl
  · unfold val rdV; dsimp only; rw [hb]
    have : cutB zs k m = bytesN m x := by
      unfold cutB; rw [hd, List.take_left' (bytesN_length m x)]
    rw [this]; rfl
  · rw [← List.drop_drop, hd, List.drop_left' (bytesN_length m x)]
theorem head_back (zs rest : List Int) (k : Nat) (F g A B : Int) (n : Nat) (hn : n = argN (F % 4)) (h0 : 0 < n) (hF : 0 ≤ F ∧ F < 65536) (hg : 0 ≤ g ∧ g < 65536) (hA : argV (F % 4) (beN (bytesN n A)) = A) (hB : argV (F % 4) (beN (bytesN n B)) = B)
    (hd : zs.drop k = bytesN 2 F ++ (bytesN 2 g ++ (bytesN n A ++ (bytesN n B ++ rest)))) : headM zs (k, false) = ⟨F, g, A, B, (k + 2 + 2 + n + n, false)⟩ ∧ zs.drop (k + 2 + 2 + n + n) = rest := by
  obtain ⟨a1, a2, a3⟩ := rd_at zs _ k 2 F (by decide) hd
  obtain ⟨b1, b2, b3⟩ := rd_at zs _ (k + 2) 2 g (by decide) a3
  obtain ⟨c1, c2, c3⟩ := rd_at zs _ (k + 2 + 2) n A h0 b3
  obtain ⟨d1, d2, d3⟩ := rd_at zs _ (k + 2 + 2 + n) n B h0 c3
  have e1 : val zs 2 (k, false) = F := by rw [a2, beN_b2]; omega
  have e2 : val zs 2 (k + 2, false) = g := by rw [b2, beN_b2]; omega
  refine ⟨?_, d3⟩
  unfold headM
  dsimp only
  rw [e1, a1, e2, b1, ← hn, c1, c2, d1, d2, hA, hB]
theorem flag_bits : ∀ mf ∈ [(0 : Int), 8, 64, 128], ∀ tf ∈ [(0 : Int), 2050, 4098], ∀ g ∈ [(0 : Int), 32], ∀ y ∈ [(0 : Int), 1], (mf + tf + g + y) % 4 = tf % 4 + y ∧ bits .and .i64 (mf + tf + g + y) 200 = mf ∧ bits .and .i64 (mf + tf + g + y) 2 = tf % 4 ∧ bits .and .i64 (mf + tf + g + y) 6144 = tf - tf % 4 ∧ bits .and .i64 (mf + tf + g + y) 32 = g := by decide
theorem fitsM_bounds {a b c d : Int} (h : fitsM a b c d = true) : (-32768 ≤ a ∧ a < 32768) ∧ (-32768 ≤ b ∧ b < 32768) ∧ (-32768 ≤ c ∧ c < 32768) ∧ (-32768 ≤ d ∧ d < 32768) := by
  unfold fitsM s16B at h
  simp only [Bool.and_eq_true, decide_eq_true_eq] at h
  omega
theorem s16_b2 (x : Int) (h : -32768 ≤ x ∧ x < 32768) : s16 (beN (bytesN 2 x)) = x := by rw [beN_b2]; unfold s16; split <;> omega
theorem s8_b1 (x : Int) (h : -128 ≤ x ∧ x < 128) : s8 (beN (bytesN 1 x)) = x := by rw [beN_b1]; unfold s8; split <;> omega
/-- A part whose head is read, read on. -/
theorem mat_back (zs rest : List Int) (s0 k : Nat) (F g A B xx xy yx yy : Int) (hh : headM zs (s0, false) = ⟨F, g, A, B, (k, false)⟩) (hfit : fitsM xx xy yx yy = true) (hmat : bits .and .i64 F 200 = mflag xx xy yx yy)
    (hd : zs.drop k = (mnums xx xy yx yy).flatMap (bytesN 2) ++ rest) :
    partM zs (s0, false) = ({ bareM ⟨F, g, A, B, (k, false)⟩ with xx := xx, xy := xy, yx := yx, yy := yy }, decide (bits .and .i64 F 32 ≠ 0), true, (k + 2 * (mnums xx xy yx yy).length, false)) ∧ zs.drop (k + 2 * (mnums xx xy yx yy).length) = rest := by
  obtain ⟨q1, q2, q3, q4⟩ := fitsM_bounds hfit
  have hbare : (bareM ⟨F, g, A, B, (k, false)⟩).xx = 16384 ∧ (bareM ⟨F, g, A, B, (k, false)⟩).xy = 0 ∧ (bareM ⟨F, g, A, B, (k, false)⟩).yx = 0 ∧ (bareM ⟨F, g, A, B, (k, false)⟩).yy = 16384 := by
    unfold bareM; split <;> simp
  unfold partM matM
  rw [hh]
  dsimp only
  rw [hmat]
  generalize bareM ⟨F, g, A, B, (k, false)⟩ = p at *
  obtain ⟨pg, p1, p2, p3, p4, pm, pdx, pdy, pt, ppa, pch⟩ := p
  obtain ⟨rfl, rfl, rfl, rfl⟩ := hbare
  by_cases h1 : xx = 16384 ∧ xy = 0 ∧ yx = 0 ∧ yy = 16384
  · obtain ⟨rfl, rfl, rfl, rfl⟩ := h1
    exact ⟨rfl, hd⟩
  · have hf : mflag xx xy yx yy = if xy ≠ 0 ∨ yx ≠ 0 then 128 else if xx = yy then 8 else 64 := by unfold mflag; rw [if_neg h1]
    have hm : mnums xx xy yx yy = if xy ≠ 0 ∨ yx ≠ 0 then [xx, xy, yx, yy] else if xx = yy then [xx] else [xx, yy] := by unfold mnums; rw [if_neg h1]
    rw [hf, hm]
    rw [hm] at hd
    by_cases h2 : xy ≠ 0 ∨ yx ≠ 0
    · rw [if_pos h2] at hd ⊢
      rw [if_pos h2]
      simp only [List.flatMap_cons, List.flatMap_nil, List.append_nil, List.append_assoc] at hd
      obtain ⟨a1, a2, a3⟩ := rd_at zs _ k 2 xx (by decide) hd
      obtain ⟨b1, b2, b3⟩ := rd_at zs _ (k + 2) 2 xy (by decide) a3
      obtain ⟨c1, c2, c3⟩ := rd_at zs _ (k + 2 + 2) 2 yx (by decide) b3
      obtain ⟨d1, d2, d3⟩ := rd_at zs _ (k + 2 + 2 + 2) 2 yy (by decide) c3
      rw [a1, b1, c1, d1, a2, b2, c2, d2, s16_b2 _ q1, s16_b2 _ q2, s16_b2 _ q3, s16_b2 _ q4]
      exact ⟨rfl, d3⟩
    · have hb : xy = 0 := by omega
      have hc : yx = 0 := by omega
      subst hb; subst hc
      rw [if_neg h2] at hd ⊢
      rw [if_neg h2]
      by_cases h3 : xx = yy
      · rw [if_pos h3] at hd ⊢
        rw [if_pos h3]
        subst h3
        simp only [List.flatMap_cons, List.flatMap_nil, List.append_nil, List.append_assoc] at hd
        obtain ⟨a1, a2, a3⟩ := rd_at zs _ k 2 xx (by decide) hd
        rw [a1, a2, s16_b2 _ q1]
        exact ⟨rfl, a3⟩
      · rw [if_neg h3] at hd ⊢
        rw [if_neg h3]
        simp only [List.flatMap_cons, List.flatMap_nil, List.append_nil, List.append_assoc] at hd
        obtain ⟨a1, a2, a3⟩ := rd_at zs _ k 2 xx (by decide) hd
        obtain ⟨b1, b2, b3⟩ := rd_at zs _ (k + 2) 2 yy (by decide) a3
        rw [a1, b1, a2, b2, s16_b2 _ q1, s16_b2 _ q4]
        exact ⟨rfl, b3⟩
theorem bare_is (F g A B xx xy yx yy dx dy pa ch : Int) (m t : Bool) (s : Rs) (h2 : stepB F = !m) (ht : m = false → turnB F = t) (h : (m = true ∧ A = pa ∧ B = ch ∧ dx = 0 ∧ dy = 0 ∧ t = false) ∨ (m = false ∧ A = dx ∧ B = dy ∧ pa = 0 ∧ ch = 0)) :
    ({ bareM ⟨F, g, A, B, s⟩ with xx := xx, xy := xy, yx := yx, yy := yy } : Pt) = ⟨g, xx, xy, yx, yy, m, dx, dy, t, pa, ch⟩ := by
  unfold bareM
  dsimp only
  rw [h2]
  rcases h with ⟨rfl, rfl, rfl, rfl, rfl, rfl⟩ | ⟨rfl, rfl, rfl, rfl, rfl⟩
  · rfl
  · rw [ht rfl]; rfl
theorem bothB_iff (a b lo hi : Int) : bothB a b lo hi = true ↔ lo ≤ a ∧ lo ≤ b ∧ a ≤ hi ∧ b ≤ hi := by
  unfold bothB
  simp only [Bool.and_eq_true, decide_eq_true_eq]
  omega
/-- A part that is read where it was put. -/
theorem part_back (zs rest : List Int) (k : Nat) (p : Pt) (G : Bool) (hm : mayPt p = true) (hd : zs.drop k = putM p G ++ rest) :
    partM zs (k, false) = (p, G, true, (k + (putM p G).length, false)) ∧ zs.drop (k + (putM p G).length) = rest := by
  obtain ⟨g, xx, xy, yx, yy, m, dx, dy, t, pa, ch⟩ := p
  obtain ⟨hg, hfit, hk⟩ := may_parts hm
  have hmf := mflag_cases xx xy yx yy
  obtain ⟨tf, htf, htm⟩ : ∃ tf, tflag ⟨g, xx, xy, yx, yy, m, dx, dy, t, pa, ch⟩ = tf ∧ tf ∈ [(0 : Int), 2050, 4098] := ⟨_, rfl, by unfold tflag; dsimp only; cases m <;> cases t <;> simp⟩
  obtain ⟨gf, hgf, hgm⟩ : ∃ gf, (if G then (32 : Int) else 0) = gf ∧ gf ∈ [(0 : Int), 32] := ⟨_, rfl, by cases G <;> simp⟩
  obtain ⟨yf, hyf, hym⟩ : ∃ yf, (if tinyB ⟨g, xx, xy, yx, yy, m, dx, dy, t, pa, ch⟩ then (0 : Int) else 1) = yf ∧ yf ∈ [(0 : Int), 1] := ⟨_, rfl, by split <;> simp⟩
  obtain ⟨b1, b2, b3, b4, b5⟩ := flag_bits (mflag xx xy yx yy) (by simpa using hmf) tf htm gf hgm yf hym
  have hF : flagsM ⟨g, xx, xy, yx, yy, m, dx, dy, t, pa, ch⟩ G = mflag xx xy yx yy + tf + gf + yf := by unfold flagsM; dsimp only; rw [htf, hgf, hyf]
  have hF0 : 0 ≤ mflag xx xy yx yy + tf + gf + yf ∧ mflag xx xy yx yy + tf + gf + yf < 65536 := by
    simp at htm hgm hym; omega
  unfold putM at hd ⊢
  rw [hF] at hd ⊢
  dsimp only at hd ⊢
  simp only [List.append_assoc] at hd
  generalize mflag xx xy yx yy + tf + gf + yf = F at *
  obtain ⟨A, hA⟩ : ∃ A, numA ⟨g, xx, xy, yx, yy, m, dx, dy, t, pa, ch⟩ = A := ⟨_, rfl⟩
  obtain ⟨B, hB⟩ : ∃ B, numB ⟨g, xx, xy, yx, yy, m, dx, dy, t, pa, ch⟩ = B := ⟨_, rfl⟩
  obtain ⟨n, hn⟩ : ∃ n, lenN ⟨g, xx, xy, yx, yy, m, dx, dy, t, pa, ch⟩ = n := ⟨_, rfl⟩
  rw [hA, hB, hn] at hd ⊢
  have hread : n = argN (F % 4) ∧ 0 < n ∧ argV (F % 4) (beN (bytesN n A)) = A ∧ argV (F % 4) (beN (bytesN n B)) = B ∧ stepB F = !m ∧ (m = false → turnB F = t) := by
    rw [b1]
    unfold numA at hA; unfold numB at hB; unfold lenN at hn; unfold tflag at htf
    unfold stepB turnB; rw [b3, b4]
    rcases hk with ⟨rfl, ha, hb, rfl, rfl, rfl⟩ | ⟨rfl, ha, hb, rfl, rfl⟩
    · dsimp only at hA hB hn htf hyf
      simp only [if_true] at hA hB htf
      subst hA hB htf
      have htb : tinyB ⟨g, xx, xy, yx, yy, true, 0, 0, false, pa, ch⟩ = bothB pa ch 0 255 := rfl
      rw [htb] at hn hyf
      cases hY : bothB pa ch 0 255
      · rw [hY] at hn hyf
        simp only [Bool.false_eq_true, if_false] at hn hyf
        subst hn hyf
        refine ⟨rfl, by decide, ?_, ?_, rfl, by simp⟩ <;> (show beN _ = _) <;> rw [beN_b2] <;> omega
      · rw [hY] at hn hyf
        simp only [if_true] at hn hyf
        subst hn hyf
        obtain ⟨y1, y2, y3, y4⟩ := (bothB_iff _ _ _ _).1 hY
        refine ⟨rfl, by decide, ?_, ?_, rfl, by simp⟩ <;> (show beN _ = _) <;> rw [beN_b1] <;> omega
    · dsimp only at hA hB hn htf hyf
      simp only [Bool.false_eq_true, if_false] at hA hB htf
      subst hA hB
      have htb : tinyB ⟨g, xx, xy, yx, yy, false, dx, dy, t, 0, 0⟩ = bothB dx dy (-128) 127 := rfl
      rw [htb] at hn hyf
      have h4 : tf % 4 = 2 ∧ decide (tf - tf % 4 = 2048) = t := by cases t <;> (simp only [Bool.false_eq_true, if_false, if_true] at htf; subst htf; decide)
      rw [h4.2]; rw [h4.1]
      cases hY : bothB dx dy (-128) 127
      · rw [hY] at hn hyf
        simp only [Bool.false_eq_true, if_false] at hn hyf
        subst hn hyf
        refine ⟨rfl, by decide, ?_, ?_, rfl, fun _ => rfl⟩ <;> (show s16 (beN _) = _) <;> exact s16_b2 _ (by omega)
      · rw [hY] at hn hyf
        simp only [if_true] at hn hyf
        subst hn hyf
        obtain ⟨y1, y2, y3, y4⟩ := (bothB_iff _ _ _ _).1 hY
        refine ⟨rfl, by decide, ?_, ?_, rfl, fun _ => rfl⟩ <;> (show s8 (beN _) = _) <;> exact s8_b1 _ (by omega)
  obtain ⟨r1, r2, r3, r4, r5, r6⟩ := hread
  obtain ⟨hh, hd2⟩ := head_back zs _ k F g A B n r1 r2 hF0 hg r3 r4 hd
  obtain ⟨hp, hd3⟩ := mat_back zs rest k _ F g A B xx xy yx yy hh hfit b2 hd2
  have hlen : (bytesN 2 F ++ bytesN 2 g ++ bytesN n A ++ bytesN n B ++ (mnums xx xy yx yy).flatMap (bytesN 2)).length = 2 + 2 + n + n + 2 * (mnums xx xy yx yy).length := by
    simp only [List.length_append, bytesN_length, flat2_len]
  rw [hlen, show k + (2 + 2 + n + n + 2 * (mnums xx xy yx yy).length) = k + 2 + 2 + n + n + 2 * (mnums xx xy yx yy).length by omega]
  refine ⟨?_, hd3⟩
  rw [hp, bare_is F g A B xx xy yx yy dx dy pa ch m t _ r5 r6 ?_, b5]
  · congr 2
    subst hgf; cases G <;> rfl
  · unfold numA at hA; unfold numB at hB
    rcases hk with ⟨rfl, ha, hb, rfl, rfl, rfl⟩ | ⟨rfl, ha, hb, rfl, rfl⟩
    · exact .inl ⟨rfl, hA.symm, hB.symm, rfl, rfl, rfl⟩
    · exact .inr ⟨rfl, hA.symm, hB.symm, rfl, rfl⟩
/-- The bytes of so many parts from the j-th on. -/
def encT (l : List Pt) : Nat → Nat → List Int
  | _, 0 => []
  | j, n + 1 => putM (l.getD j pt0) (decide (j + 1 < l.length)) ++ encT l (j + 1) n
theorem encPre_T (l : List Pt) : ∀ n j, encPre l j ++ encT l j n = encPre l (j + n) := by
  intro n
  induction n with
  | zero => intro j; simp [encT]
  | succ n ih =>
    intro j
    rw [encT, ← List.append_assoc, show encPre l j ++ putM (l.getD j pt0) (decide (j + 1 < l.length)) = encPre l (j + 1) from rfl, ih, show j + 1 + n = j + (n + 1) by omega]
theorem decGo_back (l : List Pt) (zs behind : List Int) (hm : ∀ p ∈ l, mayPt p = true) (h64 : l.length ≤ 64) : ∀ n j k, j + (n + 1) = l.length → zs.drop k = encT l j (n + 1) ++ behind → decGo zs (64 - j) (k, false) (l.take j) = (l, 0) := by
  intro n
  induction n with
  | zero =>
    intro j k hj hd
    rw [encT, encT, List.append_nil] at hd
    have hjl : j < l.length := by omega
    obtain ⟨hp, _⟩ := part_back zs behind k (l.getD j pt0) _ (hm _ (by rw [List.getD_eq_getElem?_getD, List.getElem?_eq_getElem hjl]; exact List.getElem_mem _)) hd
    rw [show 64 - j = (64 - (j + 1)) + 1 by omega, decGo, hp]
    dsimp only
    rw [if_neg (by simp), if_pos (by simp; omega), ← take_snoc l j pt0 hjl, List.take_of_length_le (by omega)]
  | succ n ih =>
    intro j k hj hd
    rw [encT, List.append_assoc] at hd
    have hjl : j < l.length := by omega
    obtain ⟨hp, hd2⟩ := part_back zs _ k (l.getD j pt0) _ (hm _ (by rw [List.getD_eq_getElem?_getD, List.getElem?_eq_getElem hjl]; exact List.getElem_mem _)) hd
    rw [show 64 - j = (64 - (j + 1)) + 1 by omega, decGo, hp]
    dsimp only
    rw [if_neg (by simp), if_neg (by simp; omega), ← take_snoc l j pt0 hjl]
    exact ih (j + 1) _ (by omega) hd2
theorem dec_back (l : List Pt) (behind : List Int) (hm : ∀ p ∈ l, mayPt p = true) (h0 : 0 < l.length) (h64 : l.length ≤ 64) : decM ((encH ++ encPre l l.length) ++ behind) = (l, 0) := by
  have hd : ((encH ++ encPre l l.length) ++ behind).drop 0 = bytesN 2 (-1) ++ (bytesN 8 0 ++ (encT l 0 l.length ++ behind)) := by
    have h := encPre_T l l.length 0
    rw [Nat.zero_add] at h
    rw [← h]; rfl
  obtain ⟨a1, a2, a3⟩ := rd_at _ _ 0 2 (-1) (by decide) hd
  obtain ⟨b1, b2, b3⟩ := rd_at _ _ (0 + 2) 8 0 (by decide) a3
  unfold decM
  dsimp only
  rw [a1, b1, a2]
  rw [if_neg (by rw [s16_b2 _ (by decide)]; simp)]
  obtain ⟨n, hn⟩ : ∃ n, l.length = n + 1 := ⟨l.length - 1, by omega⟩
  have := decGo_back l ((encH ++ encPre l l.length) ++ behind) behind hm h64 n 0 (0 + 2 + 8) (by omega) (by rw [← hn]; exact b3)
  exact this
theorem putM_bytes (p : Pt) (G : Bool) : ∀ c ∈ putM p G, 0 ≤ c ∧ c ≤ 255 := by
  have hb : ∀ n x, ∀ c ∈ bytesN n x, 0 ≤ c ∧ c ≤ 255 := by
    intro n
    induction n with
    | zero => intro x c hc; simp [bytesN] at hc
    | succ n ih =>
      intro x c hc
      unfold bytesN at hc
      rcases List.mem_cons.1 hc with rfl | h
      · omega
      · exact ih x c h
  intro c hc
  unfold putM at hc
  simp only [List.mem_append, List.mem_flatMap] at hc
  rcases hc with (((h | h) | h) | h) | ⟨x, _, h⟩ <;> exact hb _ _ c h
theorem enc_bytes (l : List Pt) (j : Nat) : ∀ c ∈ encH ++ encPre l j, 0 ≤ c ∧ c ≤ 255 := by
  induction j with
  | zero => unfold encPre; decide
  | succ j ih =>
    intro c hc
    rw [show encPre l (j + 1) = encPre l j ++ putM (l.getD j pt0) (decide (j + 1 < l.length)) from rfl, ← List.append_assoc] at hc
    rcases List.mem_append.1 hc with h | h
    · exact ih c h
    · exact putM_bytes _ _ c h
end Go.Proofs.YtafkhnlmipddmaaGreat.Cp

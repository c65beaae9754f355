/- compose: bits (the flags and the numbers of a matrix) · compose: put. (Written by wip/compose/gencpq.py.) · compose: put of the reference. (Written by wip/compose/gencpr.py.) · compose: put of the reference. (Written by wip/compose/gencpr.py.) · compose: put of the reference. (Written by wip/compose/gencpr.py.). (Merged by wip/tools/mergetpl.py out of CpP, CpQ, CpR, CpRm, CpRt.) -/
import Derived.Test.YtafkhnlmipddmaaGreatCmA
import Derived.Deep.RegionHeld3
import Derived.Test.YtafkhnlmipddmaaGreatQuiet
import Derived.Test.YtafkhnlmipddmaaGreatApp
import Derived.Test.YtafkhnlmipddmaaGreatWmA
import Derived.Test.YtafkhnlmipddmaaGreatPair
import Derived.BigQuiet
import Derived.Deep.QuietTactic
import Derived.Deep.DeepCutAuto
import Derived.Deep.CutBlock
namespace Go.Proofs.YtafkhnlmipddmaaGreat.Cp
open Go.RowKit
set_option linter.unusedVariables false
set_option linter.unusedSimpArgs false
def mflag (a b c d : Int) : Int := if a = 16384 ∧ b = 0 ∧ c = 0 ∧ d = 16384 then 0 else if b ≠ 0 ∨ c ≠ 0 then 128 else if a = d then 8 else 64
def mnums (a b c d : Int) : List Int := if a = 16384 ∧ b = 0 ∧ c = 0 ∧ d = 16384 then [] else if b ≠ 0 ∨ c ≠ 0 then [a, b, c, d] else if a = d then [a] else [a, d]
theorem _root_.Go.Proofs.YtafkhnlmipddmaaGreat.IsInts.lit {w W : World} (k : IntKind) (e : TypeId) (zs : List Int) (hk : Kp [] (w.alloc (.cells (zs.map (Value.int k)).toArray e)) W) (g n : Nat) (hg : g = w.heap.size) (hn : n = zs.length) (hl : n ≤ maxLen) : IsInts k W (.slice (some ⟨g, 0, none⟩) n n) zs := by
  subst hg; subst hn
  refine .inr ⟨_, 0, _, rfl, Nat.le_refl _, hl, fun i hi => ?_⟩
  rw [cell_of_row _ w.heap.size _ _ _ _ (hk.heap (heap_alloc_new w _) (by simp))]
  simp [List.getD_eq_getElem?_getD, List.getElem?_eq_getElem hi]
/-- How the model compares a matrix with the one that lets a point be. -/
theorem one_cmp (a b c d : Int) : ∃ X : Bool, (X = true ↔ a = 16384 ∧ b = 0 ∧ c = 0 ∧ d = 16384) ∧ ∀ W : World, (if a = 16384 then if b = 0 then if c = 0 then if d = 16384 then Result.ok (Next.value (Value.bool true)) W else Result.ok (Next.value (Value.bool false)) W else Result.ok (Next.value (Value.bool false)) W else Result.ok (Next.value (Value.bool false)) W else Result.ok (Next.value (Value.bool false)) W) = Result.ok (Next.value (Value.bool X)) W := by
  refine ⟨decide (a = 16384 ∧ b = 0 ∧ c = 0 ∧ d = 16384), by simp, fun W => ?_⟩
  by_cases h1 : a = 16384 <;> by_cases h2 : b = 0 <;> by_cases h3 : c = 0 <;> by_cases h4 : d = 16384 <;> simp [h1, h2, h3, h4]
end Go.Proofs.YtafkhnlmipddmaaGreat.Cp
namespace Go.Proofs.YtafkhnlmipddmaaGreat.Cp
open Go.RowKit
set_option linter.unusedVariables false
set_option linter.unusedSimpArgs false
/-- The two numbers of a part as they are put. -/
def numA (p : Pt) : Int := if p.m then p.pa else p.dx
def numB (p : Pt) : Int := if p.m then p.ch else p.dy
def tinyB (p : Pt) : Bool := if p.m then bothB p.pa p.ch 0 255 else bothB p.dx p.dy (-128) 127
def tflag (p : Pt) : Int := if p.m then 0 else if p.t then 2050 else 4098
def flagsM (p : Pt) (G : Bool) : Int := mflag p.xx p.xy p.yx p.yy + tflag p + (if G then 32 else 0) + (if tinyB p then 0 else 1)
def lenN (p : Pt) : Nat := if tinyB p then 1 else 2
/-- A part's bytes. -/
def putM (p : Pt) (G : Bool) : List Int := bytesN 2 (flagsM p G) ++ bytesN 2 p.g ++ bytesN (lenN p) (numA p) ++ bytesN (lenN p) (numB p) ++ (mnums p.xx p.xy p.yx p.yy).flatMap (bytesN 2)
theorem mflag_cases (a b c d : Int) : mflag a b c d = 0 ∨ mflag a b c d = 8 ∨ mflag a b c d = 64 ∨ mflag a b c d = 128 := by
  unfold mflag; split
  · simp
  · split
    · simp
    · split <;> simp
theorem mnums_len (a b c d : Int) : (mnums a b c d).length ≤ 4 := by
  unfold mnums; split
  · simp
  · split
    · simp
    · split <;> simp
theorem mnums_in (a b c d : Int) (h : fitsM a b c d = true) : ∀ x ∈ mnums a b c d, -32768 ≤ x ∧ x < 32768 := by
  unfold fitsM s16B at h
  simp only [Bool.and_eq_true, decide_eq_true_eq] at h
  unfold mnums; split
  · simp
  · split
    · simp; omega
    · split <;> simp <;> omega
theorem flat2_len (l : List Int) : (l.flatMap (bytesN 2)).length = 2 * l.length := by
  induction l with
  | nil => rfl
  | cons x l ih => simp [List.flatMap_cons, bytesN_length, ih]; omega
theorem putM_len (p : Pt) (G : Bool) : (putM p G).length ≤ 16 := by
  have h1 := mnums_len p.xx p.xy p.yx p.yy
  have h2 : lenN p ≤ 2 := by unfold lenN; split <;> omega
  unfold putM
  simp only [List.length_append, bytesN_length, flat2_len]
  omega
/-- The bits of a part's flags lie apart: 'or' is the sum. -/
theorem or_sum (F : Int) (hF : F = 0 ∨ F = 8 ∨ F = 64 ∨ F = 128) : ∀ t ∈ [(0 : Int), 2050, 4098], ∀ g ∈ [(0 : Int), 32], bits .or .i64 F t = F + t ∧ bits .or .i64 (F + t) g = F + t + g ∧ bits .or .i64 (F + t + g) 1 = F + t + g + 1 := by
  rcases hF with rfl | rfl | rfl | rfl <;> decide
theorem flat_snoc (l : List Int) (j : Nat) (h : j < l.length) : (l.take (j + 1)).flatMap (bytesN 2) = (l.take j).flatMap (bytesN 2) ++ bytesN 2 (l.getD j 0) := by
  rw [take_snoc l j 0 h, List.flatMap_append]; simp
theorem _root_.Go.Proofs.YtafkhnlmipddmaaGreat.WSt.step {w w' : World} {r : Nat} {room : Int} {v : Value} {acc : List Int} (h : WSt w r room v acc) (hk : Kp [] w w') : WSt w' r room v acc ∧ WK w w' r v v := ⟨h.kp hk (by simp) (by simp), hk.more (by simp), fun k h => .inl h⟩
theorem stepS {w a b : World} {r : Nat} {room : Int} {v : Value} {acc : List Int} (h : WSt a r room v acc ∧ WK w a r v v) (hk : Kp [] a b) : WSt b r room v acc ∧ WK w b r v v := ⟨(h.1.step hk).1, h.2.trans (h.1.step hk).2⟩
theorem _root_.Go.Proofs.YtafkhnlmipddmaaGreat.WK.next {w a b c : World} {r : Nat} {room : Int} {v u u' : Value} {acc : List Int} (h : WK w a r v u) (hs : WSt a r room u acc) (hk : Kp [] a b) (k : WK b c r u u') : WK w c r v u' := (h.trans (hs.step hk).2).trans k
end Go.Proofs.YtafkhnlmipddmaaGreat.Cp
namespace Go.Proofs.YtafkhnlmipddmaaGreat.Cp
open Go.RowKit
set_option linter.unusedVariables false
set_option linter.unusedSimpArgs false
theorem or_sumR (F : Int) (hF : F = 0 ∨ F = 8 ∨ F = 64 ∨ F = 128) : ∀ t ∈ [(0 : Int), 1, 2050, 2051, 4098, 4099], (F ≠ 0 → bits .or .i64 t F = F + t) ∧ bits .or .i64 (F + t) 32 = F + t + 32 := by
  rcases hF with rfl | rfl | rfl | rfl <;> decide
theorem or_start : bits .or .i64 2 2048 = 2050 ∧ bits .or .i64 2 4096 = 4098 ∧ bits .or .i64 0 1 = 1 ∧ bits .or .i64 2050 1 = 2051 ∧ bits .or .i64 4098 1 = 4099 := by decide
theorem _root_.Go.Proofs.YtafkhnlmipddmaaGreat.RWt.step {w w' : World} {r : Nat} {room : Int} {acc : List Int} (h : RWt w r room acc) (hk : Kp [] w w') : RWt w' r room acc := h.kp0 hk
theorem rwu2_calls (r : Nat) (room : Int) (acc : List Int) (x : Int) (g1 : -9223372036854775808 ≤ x) (g2 : x ≤ 9223372036854775807) (w : World) (h : RWt w r room acc) (hn : (acc.length : Int) + 2 ≤ room) (hr : room ≤ 1073741824) :
    Calls Tryz.prog 24 #[.pointer (some ⟨r, 0, none⟩), .int .i64 2, .int .i64 x] w fun e w' => e = .returned (.tuple #[]) ∧ RWt w' r room (acc ++ bytesN 2 x) ∧ Kp [r] w w' := rwu_calls r room acc 2 x (by decide) (by decide) g1 g2 w h hn hr
theorem rwu1_calls (r : Nat) (room : Int) (acc : List Int) (x : Int) (g1 : -9223372036854775808 ≤ x) (g2 : x ≤ 9223372036854775807) (w : World) (h : RWt w r room acc) (hn : (acc.length : Int) + 1 ≤ room) (hr : room ≤ 1073741824) :
    Calls Tryz.prog 24 #[.pointer (some ⟨r, 0, none⟩), .int .i64 1, .int .i64 x] w fun e w' => e = .returned (.tuple #[]) ∧ RWt w' r room (acc ++ bytesN 1 x) ∧ Kp [r] w w' := rwu_calls r room acc 1 x (by decide) (by decide) g1 g2 w h hn hr
/-- What stands behind the switch over the matrix. -/
def SwSt (w1 wx : World) (B : Nat) (v : Value) (nums : List Int) : Prop := IsInts .i64 wx v nums ∧ (∀ k, blockOf v = some k → B < k) ∧ Kp [] w1 wx
end Go.Proofs.YtafkhnlmipddmaaGreat.Cp
namespace Go.Proofs.YtafkhnlmipddmaaGreat.Cp
open Go.RowKit
set_option linter.unusedVariables false
set_option linter.unusedSimpArgs false
set_option maxRecDepth 100000 in
set_option maxHeartbeats 4000000 in
theorem rput_mgy (r : Nat) (room : Int) (acc : List Int) (g xx xy yx yy pa ch : Int) (w : World) (h : RWt w r room acc) (hfit : fitsM xx xy yx yy = true) (hg : 0 ≤ g ∧ g < 65536) (hA : 0 ≤ pa ∧ pa < 65536) (hB : 0 ≤ ch ∧ ch < 65536) (hY : bothB pa ch 0 255 = true) (hn : (acc.length : Int) + 16 ≤ room) (hr : room ≤ 1073741824) :
    Calls Tryz.prog 30 #[.pointer (some ⟨r, 0, none⟩), ptV (⟨g, xx, xy, yx, yy, true, 0, 0, false, pa, ch⟩ : Pt), .bool true] w fun e w' => e = .returned (.tuple #[]) ∧ RWt w' r room (acc ++ putM (⟨g, xx, xy, yx, yy, true, 0, 0, false, pa, ch⟩ : Pt) true) ∧ Kp [r] w w' := by
  have HQ : Hid (putM (⟨g, xx, xy, yx, yy, true, 0, 0, false, pa, ch⟩ : Pt) true = bytesN 2 (mflag xx xy yx yy + 0 + 32) ++ bytesN 2 g ++ bytesN 1 pa ++ bytesN 1 ch ++ (mnums xx xy yx yy).flatMap (bytesN 2)) := by
    show _ = _; rw [show mflag xx xy yx yy + 0 + 32 = mflag xx xy yx yy + 0 + 32 + 0 by omega]; simp only [putM, flagsM, lenN, tinyB, tflag, numA, numB, hY]; rfl
  have HN := Lib.hid (mnums_in xx xy yx yy hfit)
  have hNL := mnums_len xx xy yx yy
  have HF := Lib.hid (or_sumR _ (mflag_cases xx xy yx yy) 0 (by simp))
  have HFC := Lib.hid (mflag_cases xx xy yx yy)
  rw [show ptV (⟨g, xx, xy, yx, yy, true, 0, 0, false, pa, ch⟩ : Pt) = .agg #[.int .i64 g, .int .i64 xx, .int .i64 xy, .int .i64 yx, .int .i64 yy, .bool true, .int .i64 0, .int .i64 0, .bool false, .int .i64 pa, .int .i64 ch] from rfl]
  obtain ⟨hg0, hg1⟩ := hg
  obtain ⟨hA0, hA1⟩ := hA
  obtain ⟨hB0, hB1⟩ := hB
  have HW := Lib.hid h
  have hrw : r < w.heap.size := h.lt
  have HY := Lib.hid hY
  have hblk := heap_alloc_new w (.cells #[.int .i64 g, .int .i64 xx, .int .i64 xy, .int .i64 yx, .int .i64 yy, .bool true, .int .i64 0, .int .i64 0, .bool false, .int .i64 pa, .int .i64 ch] 34)
  have hk02 : Kp [] w (w.alloc (.cells #[.int .i64 g, .int .i64 xx, .int .i64 xy, .int .i64 yx, .int .i64 yy, .bool true, .int .i64 0, .int .i64 0, .bool false, .int .i64 pa, .int .i64 ch] 34)) := (Kp.refl _ _).alloc _
  clear hY hfit h
  go_enter Tryz.func30, Tryz.ntmps30
  go_wp2_with fail
  have c00 := hblk
  generalize hw1 : w.alloc (.cells #[.int .i64 g, .int .i64 xx, .int .i64 xy, .int .i64 yx, .int .i64 yy, .bool true, .int .i64 0, .int .i64 0, .bool false, .int .i64 pa, .int .i64 ch] 34) = w1 at *
  have hsz : w.heap.size < w1.heap.size := by rw [← hw1]; simp
  clear hw1 c00
  generalize hBv : w.heap.size = B at *
  have HBv := Lib.hid hBv
  have HBL := Lib.hid hblk
  have HK := Lib.hid hk02
  clear hBv hblk hk02
  have c0 := cell_of_row _ B 0 _ _ _ HBL.out
  have c1 := cell_of_row _ B 1 _ _ _ HBL.out
  have c2 := cell_of_row _ B 2 _ _ _ HBL.out
  have c3 := cell_of_row _ B 3 _ _ _ HBL.out
  have c4 := cell_of_row _ B 4 _ _ _ HBL.out
  have c5 := cell_of_row _ B 5 _ _ _ HBL.out
  have c6 := cell_of_row _ B 6 _ _ _ HBL.out
  have c7 := cell_of_row _ B 7 _ _ _ HBL.out
  have c8 := cell_of_row _ B 8 _ _ _ HBL.out
  have c9 := cell_of_row _ B 9 _ _ _ HBL.out
  have c10 := cell_of_row _ B 10 _ _ _ HBL.out
  simp only [List.getElem?_toArray, List.getElem?_cons_succ, List.getElem?_cons_zero] at c0 c1 c2 c3 c4 c5 c6 c7 c8 c9 c10
  have hy : pa < 256 ∧ ch < 256 := by
    have h := HY.out; unfold bothB at h
    simp only [Bool.and_eq_true, decide_eq_true_eq, Bool.and_eq_false_iff, decide_eq_false_iff_not] at h
    omega
  obtain ⟨s1, s2, s3, s4, s5⟩ := or_start
  go_quiet (fail)
  have hq : Kp [] w1 (w1.drewN nq) := (Kp.refl _ _).drewN _
  replace HBL := Lib.hid (hq.heap HBL.out (by simp))
  replace HK := Lib.hid ((HK.out : Kp [] w w1).trans hq)
  replace hsz : B < (w1.drewN nq).heap.size := hsz
  clear hq c0 c1 c2 c3 c4 c5 c6 c7 c8 c9 c10
  generalize w1.drewN nq = w2 at *
  have c0 := cell_of_row _ B 0 _ _ _ HBL.out
  have c1 := cell_of_row _ B 1 _ _ _ HBL.out
  have c2 := cell_of_row _ B 2 _ _ _ HBL.out
  have c3 := cell_of_row _ B 3 _ _ _ HBL.out
  have c4 := cell_of_row _ B 4 _ _ _ HBL.out
  have c5 := cell_of_row _ B 5 _ _ _ HBL.out
  have c6 := cell_of_row _ B 6 _ _ _ HBL.out
  have c7 := cell_of_row _ B 7 _ _ _ HBL.out
  have c8 := cell_of_row _ B 8 _ _ _ HBL.out
  have c9 := cell_of_row _ B 9 _ _ _ HBL.out
  have c10 := cell_of_row _ B 10 _ _ _ HBL.out
  simp only [List.getElem?_toArray, List.getElem?_cons_succ, List.getElem?_cons_zero] at c0 c1 c2 c3 c4 c5 c6 c7 c8 c9 c10

  go_upto_region 2 with fail
  go_cut [9] (fun s9 wx => s9 = .bool true ∧ w2 = wx)
  case first =>
    go_wp2_with fail
    all_goals
      go_meet
      first | exact ⟨rfl, rfl⟩ | exact ⟨congrArg Value.bool (decide_eq_true (by omega)), rfl⟩ | exact ⟨congrArg Value.bool (decide_eq_false (by omega)), rfl⟩
  obtain ⟨rfl, rfl⟩ := hcut
  clear hy
  go_upto_block 0 with fail
  obtain ⟨E, hE⟩ : ∃ E, mflag xx xy yx yy + 0 = E := ⟨_, rfl⟩
  have HE : Hid (mflag xx xy yx yy + 0 = E) := hE
  have hE0 : 0 ≤ E := by have := HFC.out; omega
  have hE1 : E ≤ 10000 := by have := HFC.out; omega
  have h32 : bits .or .i64 E 32 = E + 32 := by rw [← hE]; exact HF.out.2
  clear hE
  go_cut [6, 10] (fun s6 s10 wx => s6 = .int .i64 E ∧ ∃ p c, s10 = .slice p (mnums xx xy yx yy).length c ∧ SwSt w2 wx B s10 (mnums xx xy yx yy))
  case first =>
    clear h32
    have HK3 := Lib.hid hsz
    obtain ⟨X, hX, hcmp⟩ := one_cmp xx xy yx yy
    have HX := Lib.hid hX
    clear hX
    have q0 := fun n : KW w2 => KW.cell c1 n
    have q1 := fun n : KW w2 => KW.cell c2 n
    have q2 := fun n : KW w2 => KW.cell c3 n
    have q3 := fun n : KW w2 => KW.cell c4 n
    go_wp2_with fail
    refine wp_region_kq (by kernel_rfl) (by kernel_rfl) ?_
    repeat (go_big_quiet_step ((go_at_call 11; exact Calls.kq (rone_calls _))))
    refine wpQuiet_nil ?_
    intro w3 hw'
    obtain ⟨⟨_, hkw3⟩, rfl⟩ := hw'
    have j1 := hkw3.cell c1 (by simp)
    have j2 := hkw3.cell c2 (by simp)
    have j3 := hkw3.cell c3 (by simp)
    have j4 := hkw3.cell c4 (by simp)
    clear hcmp q0 q1 q2 q3 c0 c1 c2 c3 c4 c5 c6 c7 c8 c9 c10
    cases X
    · have hn' : ¬ (xx = 16384 ∧ xy = 0 ∧ yx = 0 ∧ yy = 16384) := fun h => by have := HX.out.2 h; simp at this
      by_cases hbc : xy ≠ 0 ∨ yx ≠ 0
      · have hf : mflag xx xy yx yy = 128 := by unfold mflag; rw [if_neg hn', if_pos hbc]
        have hm : mnums xx xy yx yy = [xx, xy, yx, yy] := by unfold mnums; rw [if_neg hn', if_pos hbc]
        have HF2 := Lib.hid hf
        have HM2 := Lib.hid hm
        have hor : bits .or .i64 0 128 = E := by have h := HF.out.1; have h2 := HE.out; rw [hf] at h h2; rw [h (by decide)]; exact h2
        clear HX hn' hf hm
        by_cases hb : xy = 0
        · have hc : yx ≠ 0 := by rcases hbc with h | h; exact absurd hb h; exact h
          clear hbc
          subst hb
          go_wp2_with fail
          go_region_held3 (fun w' => w'.cell? ⟨B, 1, none⟩ = some (.int .i64 xx) ∧ w'.cell? ⟨B, 2, none⟩ = some (.int .i64 0) ∧ w'.cell? ⟨B, 3, none⟩ = some (.int .i64 yx) ∧ w'.cell? ⟨B, 4, none⟩ = some (.int .i64 yy)) (first | go_keep | exact ⟨j1, j2, j3, j4⟩) (fail)
          all_goals
            go_wp2_with fail
            go_meet
            refine ⟨rfl, ?_⟩
            rw [HM2.out]
            exact ⟨_, _, rfl, IsInts.lit .i64 3 _ (by (repeat (first | exact Kp.refl _ _ | assumption | refine Kp.drew ?_ | refine Kp.drewN ?_ _ | refine Kp.alloc ?_ _ | (refine Kp.setCell ?_ (by first | (left; simp; done) | (right; simp; try omega)) _) | (refine Kp.trans' ?_ (by assumption) (by simp; try omega))))) _ _ (by simp [World.size_drew, World.drewN]) rfl (by decide), fun k hk => by (have h1 := hkw3.size; simp [World.size_drew, World.drewN] at hk ⊢; omega), by (repeat (first | exact Kp.refl _ _ | assumption | refine Kp.drew ?_ | refine Kp.drewN ?_ _ | refine Kp.alloc ?_ _ | (refine Kp.setCell ?_ (by first | (left; simp; done) | (right; simp; try omega)) _) | (refine Kp.trans' ?_ (by assumption) (by simp; try omega))))⟩
        · clear hbc
          go_wp2_with fail
          go_region_held3 (fun w' => w'.cell? ⟨B, 1, none⟩ = some (.int .i64 xx) ∧ w'.cell? ⟨B, 2, none⟩ = some (.int .i64 xy) ∧ w'.cell? ⟨B, 3, none⟩ = some (.int .i64 yx) ∧ w'.cell? ⟨B, 4, none⟩ = some (.int .i64 yy)) (first | go_keep | exact ⟨j1, j2, j3, j4⟩) (fail)
          all_goals
            go_wp2_with fail
            go_meet
            refine ⟨rfl, ?_⟩
            rw [HM2.out]
            exact ⟨_, _, rfl, IsInts.lit .i64 3 _ (by (repeat (first | exact Kp.refl _ _ | assumption | refine Kp.drew ?_ | refine Kp.drewN ?_ _ | refine Kp.alloc ?_ _ | (refine Kp.setCell ?_ (by first | (left; simp; done) | (right; simp; try omega)) _) | (refine Kp.trans' ?_ (by assumption) (by simp; try omega))))) _ _ (by simp [World.size_drew, World.drewN]) rfl (by decide), fun k hk => by (have h1 := hkw3.size; simp [World.size_drew, World.drewN] at hk ⊢; omega), by (repeat (first | exact Kp.refl _ _ | assumption | refine Kp.drew ?_ | refine Kp.drewN ?_ _ | refine Kp.alloc ?_ _ | (refine Kp.setCell ?_ (by first | (left; simp; done) | (right; simp; try omega)) _) | (refine Kp.trans' ?_ (by assumption) (by simp; try omega))))⟩
      · have hb : xy = 0 := by omega
        have hc : yx = 0 := by omega
        clear hbc
        subst hb; subst hc
        by_cases had : xx = yy
        · have hf : mflag xx 0 0 yy = 8 := by unfold mflag; rw [if_neg hn', if_neg (by simp), if_pos had]
          have hm : mnums xx 0 0 yy = [xx] := by unfold mnums; rw [if_neg hn', if_neg (by simp), if_pos had]
          have hor : bits .or .i64 0 8 = E := by have h := HF.out.1; have h2 := HE.out; rw [hf] at h h2; rw [h (by decide)]; exact h2
          subst had
          have HM2 := Lib.hid hm
          clear HX hn' hf hm
          go_wp2_with fail
          go_region_held3 (fun w' => w'.cell? ⟨B, 1, none⟩ = some (.int .i64 xx) ∧ w'.cell? ⟨B, 2, none⟩ = some (.int .i64 0) ∧ w'.cell? ⟨B, 3, none⟩ = some (.int .i64 0) ∧ w'.cell? ⟨B, 4, none⟩ = some (.int .i64 xx)) (first | go_keep | exact ⟨j1, j2, j3, j4⟩) (fail)
          all_goals
            go_wp2_with fail
            go_meet
            refine ⟨rfl, ?_⟩
            rw [HM2.out]
            exact ⟨_, _, rfl, IsInts.lit .i64 3 _ (by (repeat (first | exact Kp.refl _ _ | assumption | refine Kp.drew ?_ | refine Kp.drewN ?_ _ | refine Kp.alloc ?_ _ | (refine Kp.setCell ?_ (by first | (left; simp; done) | (right; simp; try omega)) _) | (refine Kp.trans' ?_ (by assumption) (by simp; try omega))))) _ _ (by simp [World.size_drew, World.drewN]) rfl (by decide), fun k hk => by (have h1 := hkw3.size; simp [World.size_drew, World.drewN] at hk ⊢; omega), by (repeat (first | exact Kp.refl _ _ | assumption | refine Kp.drew ?_ | refine Kp.drewN ?_ _ | refine Kp.alloc ?_ _ | (refine Kp.setCell ?_ (by first | (left; simp; done) | (right; simp; try omega)) _) | (refine Kp.trans' ?_ (by assumption) (by simp; try omega))))⟩
        · have hf : mflag xx 0 0 yy = 64 := by unfold mflag; rw [if_neg hn', if_neg (by simp), if_neg had]
          have hm : mnums xx 0 0 yy = [xx, yy] := by unfold mnums; rw [if_neg hn', if_neg (by simp), if_neg had]
          have hor : bits .or .i64 0 64 = E := by have h := HF.out.1; have h2 := HE.out; rw [hf] at h h2; rw [h (by decide)]; exact h2
          have HM2 := Lib.hid hm
          clear HX hn' hf hm
          go_wp2_with fail
          go_region_held3 (fun w' => w'.cell? ⟨B, 1, none⟩ = some (.int .i64 xx) ∧ w'.cell? ⟨B, 2, none⟩ = some (.int .i64 0) ∧ w'.cell? ⟨B, 3, none⟩ = some (.int .i64 0) ∧ w'.cell? ⟨B, 4, none⟩ = some (.int .i64 yy)) (first | go_keep | exact ⟨j1, j2, j3, j4⟩) (fail)
          all_goals
            go_wp2_with fail
            go_meet
            refine ⟨rfl, ?_⟩
            rw [HM2.out]
            exact ⟨_, _, rfl, IsInts.lit .i64 3 _ (by (repeat (first | exact Kp.refl _ _ | assumption | refine Kp.drew ?_ | refine Kp.drewN ?_ _ | refine Kp.alloc ?_ _ | (refine Kp.setCell ?_ (by first | (left; simp; done) | (right; simp; try omega)) _) | (refine Kp.trans' ?_ (by assumption) (by simp; try omega))))) _ _ (by simp [World.size_drew, World.drewN]) rfl (by decide), fun k hk => by (have h1 := hkw3.size; simp [World.size_drew, World.drewN] at hk ⊢; omega), by (repeat (first | exact Kp.refl _ _ | assumption | refine Kp.drew ?_ | refine Kp.drewN ?_ _ | refine Kp.alloc ?_ _ | (refine Kp.setCell ?_ (by first | (left; simp; done) | (right; simp; try omega)) _) | (refine Kp.trans' ?_ (by assumption) (by simp; try omega))))⟩
    · obtain ⟨rfl, rfl, rfl, rfl⟩ := HX.out.1 rfl
      clear HX
      go_wp2_with fail
      go_meet
      have hE2 : E = 0 := HE.out.symm
      subst hE2
      exact ⟨rfl, _, _, rfl, IsInts.nil _ _, by simp, by (repeat (first | exact Kp.refl _ _ | assumption | refine Kp.drew ?_ | refine Kp.drewN ?_ _ | refine Kp.alloc ?_ _ | (refine Kp.setCell ?_ (by first | (left; simp; done) | (right; simp; try omega)) _) | (refine Kp.trans' ?_ (by assumption) (by simp; try omega))))⟩
  obtain ⟨rfl, np, nc, rfl, hI, hge, hkc⟩ := hcut
  have H3 : Hid (RWt wc r room acc) := HW.out.kp0 (HK.out.trans hkc)
  replace HBL := Lib.hid (hkc.heap HBL.out (by simp))
  replace HK := Lib.hid (HK.out.trans hkc)
  replace hsz : B < wc.heap.size := by have := hkc.size; omega
  rw [HE.out] at HQ
  clear HE HFC HF HY hkc
  generalize mnums xx xy yx yy = nums at *
  obtain ⟨N, hN⟩ : ∃ N, nums.length = N := ⟨_, rfl⟩
  have HNL := Lib.hid hN
  rw [hN] at hNL hI hge ⊢
  have HI := Lib.hid hI
  have HGE := Lib.hid hge
  clear hI hge hN c0 c1 c2 c3 c4 c5 c6 c7 c8 c9 c10 s1 s2 s3 s4 s5
  have hBr : B ∉ [r] := by simp; omega
  go_wp2_with fail
  refine (rwu2_calls r room acc (E + 32) (by omega) (by omega) _ H3.out (by omega) (by omega)).mono ?_; rintro e w5 ⟨rfl, h5, hk5⟩
  have H5 := Lib.hid h5
  have HK5 : Hid (Kp [r] wc w5) := hk5
  have c0 := cell_of_row _ B 0 _ _ _ (hk5.heap HBL.out hBr)
  simp only [List.getElem?_toArray, List.getElem?_cons_zero] at c0
  clear h5 hk5 h32
  go_wp2_with fail
  refine (rwu2_calls r room (acc ++ bytesN 2 (E + 32)) g (by omega) (by omega) _ H5.out (by simp [bytesN_length]; omega) (by omega)).mono ?_; rintro e w6 ⟨rfl, h6, hk6⟩
  have H6 := Lib.hid h6
  have HK6 : Hid (Kp [r] wc w6) := HK5.out.trans hk6
  clear h6 hk6 c0
  go_wp2_with fail
  refine (rwu1_calls r room (acc ++ bytesN 2 (E + 32) ++ bytesN 2 g) pa (by omega) (by omega) _ H6.out (by simp [bytesN_length]; omega) (by omega)).mono ?_; rintro e w7 ⟨rfl, h7, hk7⟩
  have H7 := Lib.hid h7
  have HK7 : Hid (Kp [r] wc w7) := HK6.out.trans hk7
  clear h7 hk7
  go_wp2_with fail
  refine (rwu1_calls r room (acc ++ bytesN 2 (E + 32) ++ bytesN 2 g ++ bytesN 1 pa) ch (by omega) (by omega) _ H7.out (by simp [bytesN_length]; omega) (by omega)).mono ?_; rintro e w8 ⟨rfl, h8, hk8⟩
  have H8 := Lib.hid h8
  have HK8 : Hid (Kp [r] wc w8) := HK7.out.trans hk8
  clear h8 hk8 HK5 HK6 HK7 H5 H6 H7 H3
  obtain ⟨D, hD⟩ : ∃ D, acc ++ bytesN 2 (E + 32) ++ bytesN 2 g ++ bytesN 1 pa ++ bytesN 1 ch = D := ⟨_, rfl⟩
  have HQ2 : Hid (acc ++ putM (⟨g, xx, xy, yx, yy, true, 0, 0, false, pa, ch⟩ : Pt) true = D ++ nums.flatMap (bytesN 2)) := by
    show _ = _; rw [HQ.out, ← hD]; simp only [List.append_assoc]
  have hDl : D.length ≤ acc.length + 8 := by rw [← hD]; simp [bytesN_length]
  rw [hD] at H8
  clear hD HQ
  go_wp2_with fail
  go_loopw [12] (fun i wr => ∃ j : Nat, j ≤ N ∧ i = .int .i64 j ∧ Hid (RWt wr r room (D ++ (nums.take j).flatMap (bytesN 2)) ∧ Kp [r] wc wr)) (fun i _ => N - (intOf i).toNat)
  case atStart => exact ⟨0, by omega, rfl, by simpa using H8.out, HK8.out⟩
  case round =>
    obtain ⟨j, hj, rfl, HJ⟩ := hrel
    clear H8 HK8
    by_cases hlt : j < N
    · have hI := HI.out.kp HJ.out.2 (fun t ht e => by have h1 := HGE.out t e; simp at ht; omega)
      have hC : ∃ q off, np = some ⟨q, off, none⟩ ∧ wr.cell? ⟨q, off + j, none⟩ = some (.int .i64 (nums.getD j 0)) := by
        rcases hI with ⟨⟨a, e⟩, e0⟩ | ⟨q, off, c, e, _, _, h3⟩
        · have := HNL.out; rw [e0] at this; simp at this; omega
        · cases e; exact ⟨q, off, rfl, h3 j (by rw [HNL.out]; exact hlt)⟩
      obtain ⟨q, off, rfl, hc⟩ := hC
      have hx := HN.out (nums.getD j 0) (by rw [List.getD_eq_getElem?_getD, List.getElem?_eq_getElem (by rw [HNL.out]; exact hlt)]; exact List.getElem_mem _)
      have hsn : Hid (D ++ (nums.take (j + 1)).flatMap (bytesN 2) = D ++ (nums.take j).flatMap (bytesN 2) ++ bytesN 2 (nums.getD j 0)) := by
        show _ = _; rw [flat_snoc nums j (by rw [HNL.out]; exact hlt), List.append_assoc]
      have hln : (D ++ (nums.take j).flatMap (bytesN 2)).length ≤ acc.length + 14 := by
        rw [List.length_append, flat2_len, List.length_take]; omega
      generalize nums.getD j 0 = x at *
      generalize D ++ (nums.take j).flatMap (bytesN 2) = ac at *
      obtain ⟨hx0, hx1⟩ := hx
      clear hI
      go_wp2_with fail
      refine (rwu2_calls r room ac x (by omega) (by omega) _ HJ.out.1 (by omega) (by omega)).mono ?_; rintro e w9 ⟨rfl, h9, hk9⟩
      have HS9 : Hid (RWt w9 r room (D ++ (nums.take (j + 1)).flatMap (bytesN 2)) ∧ Kp [r] wc w9) := ⟨by rw [hsn.out]; exact h9, HJ.out.2.trans hk9⟩
      clear h9 hk9 hc
      go_wp2_with fail
      go_roundw
      case rel => first | exact ⟨j + 1, by omega, int_eq' (by omega), HS9⟩ | ((repeat apply Exists.intro); exact ⟨⟨j + 1, by omega, int_eq' (by omega), HS9⟩, rfl⟩)
      case measure => simp [intOf]; omega
    · obtain rfl : j = N := by omega
      go_wp2_with fail
      go_end0
      refine ⟨rfl, ?_, (HK.out.more (by simp)).trans HJ.out.2⟩
      rw [HQ2.out]
      have := HJ.out.1
      rwa [List.take_of_length_le (by rw [HNL.out]; exact Nat.le_refl _)] at this
set_option maxRecDepth 100000 in
set_option maxHeartbeats 4000000 in
theorem rput_mgw (r : Nat) (room : Int) (acc : List Int) (g xx xy yx yy pa ch : Int) (w : World) (h : RWt w r room acc) (hfit : fitsM xx xy yx yy = true) (hg : 0 ≤ g ∧ g < 65536) (hA : 0 ≤ pa ∧ pa < 65536) (hB : 0 ≤ ch ∧ ch < 65536) (hY : bothB pa ch 0 255 = false) (hn : (acc.length : Int) + 16 ≤ room) (hr : room ≤ 1073741824) :
    Calls Tryz.prog 30 #[.pointer (some ⟨r, 0, none⟩), ptV (⟨g, xx, xy, yx, yy, true, 0, 0, false, pa, ch⟩ : Pt), .bool true] w fun e w' => e = .returned (.tuple #[]) ∧ RWt w' r room (acc ++ putM (⟨g, xx, xy, yx, yy, true, 0, 0, false, pa, ch⟩ : Pt) true) ∧ Kp [r] w w' := by
  have HQ : Hid (putM (⟨g, xx, xy, yx, yy, true, 0, 0, false, pa, ch⟩ : Pt) true = bytesN 2 (mflag xx xy yx yy + 1 + 32) ++ bytesN 2 g ++ bytesN 2 pa ++ bytesN 2 ch ++ (mnums xx xy yx yy).flatMap (bytesN 2)) := by
    show _ = _; rw [show mflag xx xy yx yy + 1 + 32 = mflag xx xy yx yy + 0 + 32 + 1 by omega]; simp only [putM, flagsM, lenN, tinyB, tflag, numA, numB, hY]; rfl
  have HN := Lib.hid (mnums_in xx xy yx yy hfit)
  have hNL := mnums_len xx xy yx yy
  have HF := Lib.hid (or_sumR _ (mflag_cases xx xy yx yy) 1 (by simp))
  have HFC := Lib.hid (mflag_cases xx xy yx yy)
  rw [show ptV (⟨g, xx, xy, yx, yy, true, 0, 0, false, pa, ch⟩ : Pt) = .agg #[.int .i64 g, .int .i64 xx, .int .i64 xy, .int .i64 yx, .int .i64 yy, .bool true, .int .i64 0, .int .i64 0, .bool false, .int .i64 pa, .int .i64 ch] from rfl]
  obtain ⟨hg0, hg1⟩ := hg
  obtain ⟨hA0, hA1⟩ := hA
  obtain ⟨hB0, hB1⟩ := hB
  have HW := Lib.hid h
  have hrw : r < w.heap.size := h.lt
  have HY := Lib.hid hY
  have hblk := heap_alloc_new w (.cells #[.int .i64 g, .int .i64 xx, .int .i64 xy, .int .i64 yx, .int .i64 yy, .bool true, .int .i64 0, .int .i64 0, .bool false, .int .i64 pa, .int .i64 ch] 34)
  have hk02 : Kp [] w (w.alloc (.cells #[.int .i64 g, .int .i64 xx, .int .i64 xy, .int .i64 yx, .int .i64 yy, .bool true, .int .i64 0, .int .i64 0, .bool false, .int .i64 pa, .int .i64 ch] 34)) := (Kp.refl _ _).alloc _
  clear hY hfit h
  go_enter Tryz.func30, Tryz.ntmps30
  go_wp2_with fail
  have c00 := hblk
  generalize hw1 : w.alloc (.cells #[.int .i64 g, .int .i64 xx, .int .i64 xy, .int .i64 yx, .int .i64 yy, .bool true, .int .i64 0, .int .i64 0, .bool false, .int .i64 pa, .int .i64 ch] 34) = w1 at *
  have hsz : w.heap.size < w1.heap.size := by rw [← hw1]; simp
  clear hw1 c00
  generalize hBv : w.heap.size = B at *
  have HBv := Lib.hid hBv
  have HBL := Lib.hid hblk
  have HK := Lib.hid hk02
  clear hBv hblk hk02
  have c0 := cell_of_row _ B 0 _ _ _ HBL.out
  have c1 := cell_of_row _ B 1 _ _ _ HBL.out
  have c2 := cell_of_row _ B 2 _ _ _ HBL.out
  have c3 := cell_of_row _ B 3 _ _ _ HBL.out
  have c4 := cell_of_row _ B 4 _ _ _ HBL.out
  have c5 := cell_of_row _ B 5 _ _ _ HBL.out
  have c6 := cell_of_row _ B 6 _ _ _ HBL.out
  have c7 := cell_of_row _ B 7 _ _ _ HBL.out
  have c8 := cell_of_row _ B 8 _ _ _ HBL.out
  have c9 := cell_of_row _ B 9 _ _ _ HBL.out
  have c10 := cell_of_row _ B 10 _ _ _ HBL.out
  simp only [List.getElem?_toArray, List.getElem?_cons_succ, List.getElem?_cons_zero] at c0 c1 c2 c3 c4 c5 c6 c7 c8 c9 c10
  have hy : 256 ≤ pa ∨ 256 ≤ ch := by
    have h := HY.out; unfold bothB at h
    simp only [Bool.and_eq_true, decide_eq_true_eq, Bool.and_eq_false_iff, decide_eq_false_iff_not] at h
    omega
  obtain ⟨s1, s2, s3, s4, s5⟩ := or_start
  go_quiet (fail)
  have hq : Kp [] w1 (w1.drewN nq) := (Kp.refl _ _).drewN _
  replace HBL := Lib.hid (hq.heap HBL.out (by simp))
  replace HK := Lib.hid ((HK.out : Kp [] w w1).trans hq)
  replace hsz : B < (w1.drewN nq).heap.size := hsz
  clear hq c0 c1 c2 c3 c4 c5 c6 c7 c8 c9 c10
  generalize w1.drewN nq = w2 at *
  have c0 := cell_of_row _ B 0 _ _ _ HBL.out
  have c1 := cell_of_row _ B 1 _ _ _ HBL.out
  have c2 := cell_of_row _ B 2 _ _ _ HBL.out
  have c3 := cell_of_row _ B 3 _ _ _ HBL.out
  have c4 := cell_of_row _ B 4 _ _ _ HBL.out
  have c5 := cell_of_row _ B 5 _ _ _ HBL.out
  have c6 := cell_of_row _ B 6 _ _ _ HBL.out
  have c7 := cell_of_row _ B 7 _ _ _ HBL.out
  have c8 := cell_of_row _ B 8 _ _ _ HBL.out
  have c9 := cell_of_row _ B 9 _ _ _ HBL.out
  have c10 := cell_of_row _ B 10 _ _ _ HBL.out
  simp only [List.getElem?_toArray, List.getElem?_cons_succ, List.getElem?_cons_zero] at c0 c1 c2 c3 c4 c5 c6 c7 c8 c9 c10

  go_upto_region 2 with fail
  go_cut [9] (fun s9 wx => s9 = .bool false ∧ w2 = wx)
  case first =>
    go_wp2_with fail
    all_goals
      go_meet
      first | exact ⟨rfl, rfl⟩ | exact ⟨congrArg Value.bool (decide_eq_true (by omega)), rfl⟩ | exact ⟨congrArg Value.bool (decide_eq_false (by omega)), rfl⟩
  obtain ⟨rfl, rfl⟩ := hcut
  clear hy
  go_upto_block 0 with fail
  obtain ⟨E, hE⟩ : ∃ E, mflag xx xy yx yy + 1 = E := ⟨_, rfl⟩
  have HE : Hid (mflag xx xy yx yy + 1 = E) := hE
  have hE0 : 0 ≤ E := by have := HFC.out; omega
  have hE1 : E ≤ 10000 := by have := HFC.out; omega
  have h32 : bits .or .i64 E 32 = E + 32 := by rw [← hE]; exact HF.out.2
  clear hE
  go_cut [6, 10] (fun s6 s10 wx => s6 = .int .i64 E ∧ ∃ p c, s10 = .slice p (mnums xx xy yx yy).length c ∧ SwSt w2 wx B s10 (mnums xx xy yx yy))
  case first =>
    clear h32
    have HK3 := Lib.hid hsz
    obtain ⟨X, hX, hcmp⟩ := one_cmp xx xy yx yy
    have HX := Lib.hid hX
    clear hX
    have q0 := fun n : KW w2 => KW.cell c1 n
    have q1 := fun n : KW w2 => KW.cell c2 n
    have q2 := fun n : KW w2 => KW.cell c3 n
    have q3 := fun n : KW w2 => KW.cell c4 n
    go_wp2_with fail
    refine wp_region_kq (by kernel_rfl) (by kernel_rfl) ?_
    repeat (go_big_quiet_step ((go_at_call 11; exact Calls.kq (rone_calls _))))
    refine wpQuiet_nil ?_
    intro w3 hw'
    obtain ⟨⟨_, hkw3⟩, rfl⟩ := hw'
    have j1 := hkw3.cell c1 (by simp)
    have j2 := hkw3.cell c2 (by simp)
    have j3 := hkw3.cell c3 (by simp)
    have j4 := hkw3.cell c4 (by simp)
    clear hcmp q0 q1 q2 q3 c0 c1 c2 c3 c4 c5 c6 c7 c8 c9 c10
    cases X
    · have hn' : ¬ (xx = 16384 ∧ xy = 0 ∧ yx = 0 ∧ yy = 16384) := fun h => by have := HX.out.2 h; simp at this
      by_cases hbc : xy ≠ 0 ∨ yx ≠ 0
      · have hf : mflag xx xy yx yy = 128 := by unfold mflag; rw [if_neg hn', if_pos hbc]
        have hm : mnums xx xy yx yy = [xx, xy, yx, yy] := by unfold mnums; rw [if_neg hn', if_pos hbc]
        have HF2 := Lib.hid hf
        have HM2 := Lib.hid hm
        have hor : bits .or .i64 1 128 = E := by have h := HF.out.1; have h2 := HE.out; rw [hf] at h h2; rw [h (by decide)]; exact h2
        clear HX hn' hf hm
        by_cases hb : xy = 0
        · have hc : yx ≠ 0 := by rcases hbc with h | h; exact absurd hb h; exact h
          clear hbc
          subst hb
          go_wp2_with fail
          go_region_held3 (fun w' => w'.cell? ⟨B, 1, none⟩ = some (.int .i64 xx) ∧ w'.cell? ⟨B, 2, none⟩ = some (.int .i64 0) ∧ w'.cell? ⟨B, 3, none⟩ = some (.int .i64 yx) ∧ w'.cell? ⟨B, 4, none⟩ = some (.int .i64 yy)) (first | go_keep | exact ⟨j1, j2, j3, j4⟩) (fail)
          all_goals
            go_wp2_with fail
            go_meet
            refine ⟨rfl, ?_⟩
            rw [HM2.out]
            exact ⟨_, _, rfl, IsInts.lit .i64 3 _ (by (repeat (first | exact Kp.refl _ _ | assumption | refine Kp.drew ?_ | refine Kp.drewN ?_ _ | refine Kp.alloc ?_ _ | (refine Kp.setCell ?_ (by first | (left; simp; done) | (right; simp; try omega)) _) | (refine Kp.trans' ?_ (by assumption) (by simp; try omega))))) _ _ (by simp [World.size_drew, World.drewN]) rfl (by decide), fun k hk => by (have h1 := hkw3.size; simp [World.size_drew, World.drewN] at hk ⊢; omega), by (repeat (first | exact Kp.refl _ _ | assumption | refine Kp.drew ?_ | refine Kp.drewN ?_ _ | refine Kp.alloc ?_ _ | (refine Kp.setCell ?_ (by first | (left; simp; done) | (right; simp; try omega)) _) | (refine Kp.trans' ?_ (by assumption) (by simp; try omega))))⟩
        · clear hbc
          go_wp2_with fail
          go_region_held3 (fun w' => w'.cell? ⟨B, 1, none⟩ = some (.int .i64 xx) ∧ w'.cell? ⟨B, 2, none⟩ = some (.int .i64 xy) ∧ w'.cell? ⟨B, 3, none⟩ = some (.int .i64 yx) ∧ w'.cell? ⟨B, 4, none⟩ = some (.int .i64 yy)) (first | go_keep | exact ⟨j1, j2, j3, j4⟩) (fail)
          all_goals
            go_wp2_with fail
            go_meet
            refine ⟨rfl, ?_⟩
            rw [HM2.out]
            exact ⟨_, _, rfl, IsInts.lit .i64 3 _ (by (repeat (first | exact Kp.refl _ _ | assumption | refine Kp.drew ?_ | refine Kp.drewN ?_ _ | refine Kp.alloc ?_ _ | (refine Kp.setCell ?_ (by first | (left; simp; done) | (right; simp; try omega)) _) | (refine Kp.trans' ?_ (by assumption) (by simp; try omega))))) _ _ (by simp [World.size_drew, World.drewN]) rfl (by decide), fun k hk => by (have h1 := hkw3.size; simp [World.size_drew, World.drewN] at hk ⊢; omega), by (repeat (first | exact Kp.refl _ _ | assumption | refine Kp.drew ?_ | refine Kp.drewN ?_ _ | refine Kp.alloc ?_ _ | (refine Kp.setCell ?_ (by first | (left; simp; done) | (right; simp; try omega)) _) | (refine Kp.trans' ?_ (by assumption) (by simp; try omega))))⟩
      · have hb : xy = 0 := by omega
        have hc : yx = 0 := by omega
        clear hbc
        subst hb; subst hc
        by_cases had : xx = yy
        · have hf : mflag xx 0 0 yy = 8 := by unfold mflag; rw [if_neg hn', if_neg (by simp), if_pos had]
          have hm : mnums xx 0 0 yy = [xx] := by unfold mnums; rw [if_neg hn', if_neg (by simp), if_pos had]
          have hor : bits .or .i64 1 8 = E := by have h := HF.out.1; have h2 := HE.out; rw [hf] at h h2; rw [h (by decide)]; exact h2
          subst had
          have HM2 := Lib.hid hm
          clear HX hn' hf hm
          go_wp2_with fail
          go_region_held3 (fun w' => w'.cell? ⟨B, 1, none⟩ = some (.int .i64 xx) ∧ w'.cell? ⟨B, 2, none⟩ = some (.int .i64 0) ∧ w'.cell? ⟨B, 3, none⟩ = some (.int .i64 0) ∧ w'.cell? ⟨B, 4, none⟩ = some (.int .i64 xx)) (first | go_keep | exact ⟨j1, j2, j3, j4⟩) (fail)
          all_goals
            go_wp2_with fail
            go_meet
            refine ⟨rfl, ?_⟩
            rw [HM2.out]
            exact ⟨_, _, rfl, IsInts.lit .i64 3 _ (by (repeat (first | exact Kp.refl _ _ | assumption | refine Kp.drew ?_ | refine Kp.drewN ?_ _ | refine Kp.alloc ?_ _ | (refine Kp.setCell ?_ (by first | (left; simp; done) | (right; simp; try omega)) _) | (refine Kp.trans' ?_ (by assumption) (by simp; try omega))))) _ _ (by simp [World.size_drew, World.drewN]) rfl (by decide), fun k hk => by (have h1 := hkw3.size; simp [World.size_drew, World.drewN] at hk ⊢; omega), by (repeat (first | exact Kp.refl _ _ | assumption | refine Kp.drew ?_ | refine Kp.drewN ?_ _ | refine Kp.alloc ?_ _ | (refine Kp.setCell ?_ (by first | (left; simp; done) | (right; simp; try omega)) _) | (refine Kp.trans' ?_ (by assumption) (by simp; try omega))))⟩
        · have hf : mflag xx 0 0 yy = 64 := by unfold mflag; rw [if_neg hn', if_neg (by simp), if_neg had]
          have hm : mnums xx 0 0 yy = [xx, yy] := by unfold mnums; rw [if_neg hn', if_neg (by simp), if_neg had]
          have hor : bits .or .i64 1 64 = E := by have h := HF.out.1; have h2 := HE.out; rw [hf] at h h2; rw [h (by decide)]; exact h2
          have HM2 := Lib.hid hm
          clear HX hn' hf hm
          go_wp2_with fail
          go_region_held3 (fun w' => w'.cell? ⟨B, 1, none⟩ = some (.int .i64 xx) ∧ w'.cell? ⟨B, 2, none⟩ = some (.int .i64 0) ∧ w'.cell? ⟨B, 3, none⟩ = some (.int .i64 0) ∧ w'.cell? ⟨B, 4, none⟩ = some (.int .i64 yy)) (first | go_keep | exact ⟨j1, j2, j3, j4⟩) (fail)
          all_goals
            go_wp2_with fail
            go_meet
            refine ⟨rfl, ?_⟩
            rw [HM2.out]
            exact ⟨_, _, rfl, IsInts.lit .i64 3 _ (by (repeat (first | exact Kp.refl _ _ | assumption | refine Kp.drew ?_ | refine Kp.drewN ?_ _ | refine Kp.alloc ?_ _ | (refine Kp.setCell ?_ (by first | (left; simp; done) | (right; simp; try omega)) _) | (refine Kp.trans' ?_ (by assumption) (by simp; try omega))))) _ _ (by simp [World.size_drew, World.drewN]) rfl (by decide), fun k hk => by (have h1 := hkw3.size; simp [World.size_drew, World.drewN] at hk ⊢; omega), by (repeat (first | exact Kp.refl _ _ | assumption | refine Kp.drew ?_ | refine Kp.drewN ?_ _ | refine Kp.alloc ?_ _ | (refine Kp.setCell ?_ (by first | (left; simp; done) | (right; simp; try omega)) _) | (refine Kp.trans' ?_ (by assumption) (by simp; try omega))))⟩
    · obtain ⟨rfl, rfl, rfl, rfl⟩ := HX.out.1 rfl
      clear HX
      go_wp2_with fail
      go_meet
      have hE2 : E = 1 := HE.out.symm
      subst hE2
      exact ⟨rfl, _, _, rfl, IsInts.nil _ _, by simp, by (repeat (first | exact Kp.refl _ _ | assumption | refine Kp.drew ?_ | refine Kp.drewN ?_ _ | refine Kp.alloc ?_ _ | (refine Kp.setCell ?_ (by first | (left; simp; done) | (right; simp; try omega)) _) | (refine Kp.trans' ?_ (by assumption) (by simp; try omega))))⟩
  obtain ⟨rfl, np, nc, rfl, hI, hge, hkc⟩ := hcut
  have H3 : Hid (RWt wc r room acc) := HW.out.kp0 (HK.out.trans hkc)
  replace HBL := Lib.hid (hkc.heap HBL.out (by simp))
  replace HK := Lib.hid (HK.out.trans hkc)
  replace hsz : B < wc.heap.size := by have := hkc.size; omega
  rw [HE.out] at HQ
  clear HE HFC HF HY hkc
  generalize mnums xx xy yx yy = nums at *
  obtain ⟨N, hN⟩ : ∃ N, nums.length = N := ⟨_, rfl⟩
  have HNL := Lib.hid hN
  rw [hN] at hNL hI hge ⊢
  have HI := Lib.hid hI
  have HGE := Lib.hid hge
  clear hI hge hN c0 c1 c2 c3 c4 c5 c6 c7 c8 c9 c10 s1 s2 s3 s4 s5
  have hBr : B ∉ [r] := by simp; omega
  go_wp2_with fail
  refine (rwu2_calls r room acc (E + 32) (by omega) (by omega) _ H3.out (by omega) (by omega)).mono ?_; rintro e w5 ⟨rfl, h5, hk5⟩
  have H5 := Lib.hid h5
  have HK5 : Hid (Kp [r] wc w5) := hk5
  have c0 := cell_of_row _ B 0 _ _ _ (hk5.heap HBL.out hBr)
  simp only [List.getElem?_toArray, List.getElem?_cons_zero] at c0
  clear h5 hk5 h32
  go_wp2_with fail
  refine (rwu2_calls r room (acc ++ bytesN 2 (E + 32)) g (by omega) (by omega) _ H5.out (by simp [bytesN_length]; omega) (by omega)).mono ?_; rintro e w6 ⟨rfl, h6, hk6⟩
  have H6 := Lib.hid h6
  have HK6 : Hid (Kp [r] wc w6) := HK5.out.trans hk6
  clear h6 hk6 c0
  go_wp2_with fail
  refine (rwu2_calls r room (acc ++ bytesN 2 (E + 32) ++ bytesN 2 g) pa (by omega) (by omega) _ H6.out (by simp [bytesN_length]; omega) (by omega)).mono ?_; rintro e w7 ⟨rfl, h7, hk7⟩
  have H7 := Lib.hid h7
  have HK7 : Hid (Kp [r] wc w7) := HK6.out.trans hk7
  clear h7 hk7
  go_wp2_with fail
  refine (rwu2_calls r room (acc ++ bytesN 2 (E + 32) ++ bytesN 2 g ++ bytesN 2 pa) ch (by omega) (by omega) _ H7.out (by simp [bytesN_length]; omega) (by omega)).mono ?_; rintro e w8 ⟨rfl, h8, hk8⟩
  have H8 := Lib.hid h8
  have HK8 : Hid (Kp [r] wc w8) := HK7.out.trans hk8
  clear h8 hk8 HK5 HK6 HK7 H5 H6 H7 H3
  obtain ⟨D, hD⟩ : ∃ D, acc ++ bytesN 2 (E + 32) ++ bytesN 2 g ++ bytesN 2 pa ++ bytesN 2 ch = D := ⟨_, rfl⟩
  have HQ2 : Hid (acc ++ putM (⟨g, xx, xy, yx, yy, true, 0, 0, false, pa, ch⟩ : Pt) true = D ++ nums.flatMap (bytesN 2)) := by
    show _ = _; rw [HQ.out, ← hD]; simp only [List.append_assoc]
  have hDl : D.length ≤ acc.length + 8 := by rw [← hD]; simp [bytesN_length]
  rw [hD] at H8
  clear hD HQ
  go_wp2_with fail
  go_loopw [12] (fun i wr => ∃ j : Nat, j ≤ N ∧ i = .int .i64 j ∧ Hid (RWt wr r room (D ++ (nums.take j).flatMap (bytesN 2)) ∧ Kp [r] wc wr)) (fun i _ => N - (intOf i).toNat)
  case atStart => exact ⟨0, by omega, rfl, by simpa using H8.out, HK8.out⟩
  case round =>
    obtain ⟨j, hj, rfl, HJ⟩ := hrel
    clear H8 HK8
    by_cases hlt : j < N
    · have hI := HI.out.kp HJ.out.2 (fun t ht e => by have h1 := HGE.out t e; simp at ht; omega)
      have hC : ∃ q off, np = some ⟨q, off, none⟩ ∧ wr.cell? ⟨q, off + j, none⟩ = some (.int .i64 (nums.getD j 0)) := by
        rcases hI with ⟨⟨a, e⟩, e0⟩ | ⟨q, off, c, e, _, _, h3⟩
        · have := HNL.out; rw [e0] at this; simp at this; omega
        · cases e; exact ⟨q, off, rfl, h3 j (by rw [HNL.out]; exact hlt)⟩
      obtain ⟨q, off, rfl, hc⟩ := hC
      have hx := HN.out (nums.getD j 0) (by rw [List.getD_eq_getElem?_getD, List.getElem?_eq_getElem (by rw [HNL.out]; exact hlt)]; exact List.getElem_mem _)
      have hsn : Hid (D ++ (nums.take (j + 1)).flatMap (bytesN 2) = D ++ (nums.take j).flatMap (bytesN 2) ++ bytesN 2 (nums.getD j 0)) := by
        show _ = _; rw [flat_snoc nums j (by rw [HNL.out]; exact hlt), List.append_assoc]
      have hln : (D ++ (nums.take j).flatMap (bytesN 2)).length ≤ acc.length + 14 := by
        rw [List.length_append, flat2_len, List.length_take]; omega
      generalize nums.getD j 0 = x at *
      generalize D ++ (nums.take j).flatMap (bytesN 2) = ac at *
      obtain ⟨hx0, hx1⟩ := hx
      clear hI
      go_wp2_with fail
      refine (rwu2_calls r room ac x (by omega) (by omega) _ HJ.out.1 (by omega) (by omega)).mono ?_; rintro e w9 ⟨rfl, h9, hk9⟩
      have HS9 : Hid (RWt w9 r room (D ++ (nums.take (j + 1)).flatMap (bytesN 2)) ∧ Kp [r] wc w9) := ⟨by rw [hsn.out]; exact h9, HJ.out.2.trans hk9⟩
      clear h9 hk9 hc
      go_wp2_with fail
      go_roundw
      case rel => first | exact ⟨j + 1, by omega, int_eq' (by omega), HS9⟩ | ((repeat apply Exists.intro); exact ⟨⟨j + 1, by omega, int_eq' (by omega), HS9⟩, rfl⟩)
      case measure => simp [intOf]; omega
    · obtain rfl : j = N := by omega
      go_wp2_with fail
      go_end0
      refine ⟨rfl, ?_, (HK.out.more (by simp)).trans HJ.out.2⟩
      rw [HQ2.out]
      have := HJ.out.1
      rwa [List.take_of_length_le (by rw [HNL.out]; exact Nat.le_refl _)] at this
set_option maxRecDepth 100000 in
set_option maxHeartbeats 4000000 in
theorem rput_mny (r : Nat) (room : Int) (acc : List Int) (g xx xy yx yy pa ch : Int) (w : World) (h : RWt w r room acc) (hfit : fitsM xx xy yx yy = true) (hg : 0 ≤ g ∧ g < 65536) (hA : 0 ≤ pa ∧ pa < 65536) (hB : 0 ≤ ch ∧ ch < 65536) (hY : bothB pa ch 0 255 = true) (hn : (acc.length : Int) + 16 ≤ room) (hr : room ≤ 1073741824) :
    Calls Tryz.prog 30 #[.pointer (some ⟨r, 0, none⟩), ptV (⟨g, xx, xy, yx, yy, true, 0, 0, false, pa, ch⟩ : Pt), .bool false] w fun e w' => e = .returned (.tuple #[]) ∧ RWt w' r room (acc ++ putM (⟨g, xx, xy, yx, yy, true, 0, 0, false, pa, ch⟩ : Pt) false) ∧ Kp [r] w w' := by
  have HQ : Hid (putM (⟨g, xx, xy, yx, yy, true, 0, 0, false, pa, ch⟩ : Pt) false = bytesN 2 (mflag xx xy yx yy + 0) ++ bytesN 2 g ++ bytesN 1 pa ++ bytesN 1 ch ++ (mnums xx xy yx yy).flatMap (bytesN 2)) := by
    show _ = _; rw [show mflag xx xy yx yy + 0 = mflag xx xy yx yy + 0 + 0 + 0 by omega]; simp only [putM, flagsM, lenN, tinyB, tflag, numA, numB, hY]; rfl
  have HN := Lib.hid (mnums_in xx xy yx yy hfit)
  have hNL := mnums_len xx xy yx yy
  have HF := Lib.hid (or_sumR _ (mflag_cases xx xy yx yy) 0 (by simp))
  have HFC := Lib.hid (mflag_cases xx xy yx yy)
  rw [show ptV (⟨g, xx, xy, yx, yy, true, 0, 0, false, pa, ch⟩ : Pt) = .agg #[.int .i64 g, .int .i64 xx, .int .i64 xy, .int .i64 yx, .int .i64 yy, .bool true, .int .i64 0, .int .i64 0, .bool false, .int .i64 pa, .int .i64 ch] from rfl]
  obtain ⟨hg0, hg1⟩ := hg
  obtain ⟨hA0, hA1⟩ := hA
  obtain ⟨hB0, hB1⟩ := hB
  have HW := Lib.hid h
  have hrw : r < w.heap.size := h.lt
  have HY := Lib.hid hY
  have hblk := heap_alloc_new w (.cells #[.int .i64 g, .int .i64 xx, .int .i64 xy, .int .i64 yx, .int .i64 yy, .bool true, .int .i64 0, .int .i64 0, .bool false, .int .i64 pa, .int .i64 ch] 34)
  have hk02 : Kp [] w (w.alloc (.cells #[.int .i64 g, .int .i64 xx, .int .i64 xy, .int .i64 yx, .int .i64 yy, .bool true, .int .i64 0, .int .i64 0, .bool false, .int .i64 pa, .int .i64 ch] 34)) := (Kp.refl _ _).alloc _
  clear hY hfit h
  go_enter Tryz.func30, Tryz.ntmps30
  go_wp2_with fail
  have c00 := hblk
  generalize hw1 : w.alloc (.cells #[.int .i64 g, .int .i64 xx, .int .i64 xy, .int .i64 yx, .int .i64 yy, .bool true, .int .i64 0, .int .i64 0, .bool false, .int .i64 pa, .int .i64 ch] 34) = w1 at *
  have hsz : w.heap.size < w1.heap.size := by rw [← hw1]; simp
  clear hw1 c00
  generalize hBv : w.heap.size = B at *
  have HBv := Lib.hid hBv
  have HBL := Lib.hid hblk
  have HK := Lib.hid hk02
  clear hBv hblk hk02
  have c0 := cell_of_row _ B 0 _ _ _ HBL.out
  have c1 := cell_of_row _ B 1 _ _ _ HBL.out
  have c2 := cell_of_row _ B 2 _ _ _ HBL.out
  have c3 := cell_of_row _ B 3 _ _ _ HBL.out
  have c4 := cell_of_row _ B 4 _ _ _ HBL.out
  have c5 := cell_of_row _ B 5 _ _ _ HBL.out
  have c6 := cell_of_row _ B 6 _ _ _ HBL.out
  have c7 := cell_of_row _ B 7 _ _ _ HBL.out
  have c8 := cell_of_row _ B 8 _ _ _ HBL.out
  have c9 := cell_of_row _ B 9 _ _ _ HBL.out
  have c10 := cell_of_row _ B 10 _ _ _ HBL.out
  simp only [List.getElem?_toArray, List.getElem?_cons_succ, List.getElem?_cons_zero] at c0 c1 c2 c3 c4 c5 c6 c7 c8 c9 c10
  have hy : pa < 256 ∧ ch < 256 := by
    have h := HY.out; unfold bothB at h
    simp only [Bool.and_eq_true, decide_eq_true_eq, Bool.and_eq_false_iff, decide_eq_false_iff_not] at h
    omega
  obtain ⟨s1, s2, s3, s4, s5⟩ := or_start
  go_quiet (fail)
  have hq : Kp [] w1 (w1.drewN nq) := (Kp.refl _ _).drewN _
  replace HBL := Lib.hid (hq.heap HBL.out (by simp))
  replace HK := Lib.hid ((HK.out : Kp [] w w1).trans hq)
  replace hsz : B < (w1.drewN nq).heap.size := hsz
  clear hq c0 c1 c2 c3 c4 c5 c6 c7 c8 c9 c10
  generalize w1.drewN nq = w2 at *
  have c0 := cell_of_row _ B 0 _ _ _ HBL.out
  have c1 := cell_of_row _ B 1 _ _ _ HBL.out
  have c2 := cell_of_row _ B 2 _ _ _ HBL.out
  have c3 := cell_of_row _ B 3 _ _ _ HBL.out
  have c4 := cell_of_row _ B 4 _ _ _ HBL.out
  have c5 := cell_of_row _ B 5 _ _ _ HBL.out
  have c6 := cell_of_row _ B 6 _ _ _ HBL.out
  have c7 := cell_of_row _ B 7 _ _ _ HBL.out
  have c8 := cell_of_row _ B 8 _ _ _ HBL.out
  have c9 := cell_of_row _ B 9 _ _ _ HBL.out
  have c10 := cell_of_row _ B 10 _ _ _ HBL.out
  simp only [List.getElem?_toArray, List.getElem?_cons_succ, List.getElem?_cons_zero] at c0 c1 c2 c3 c4 c5 c6 c7 c8 c9 c10

  go_upto_region 2 with fail
  go_cut [9] (fun s9 wx => s9 = .bool true ∧ w2 = wx)
  case first =>
    go_wp2_with fail
    all_goals
      go_meet
      first | exact ⟨rfl, rfl⟩ | exact ⟨congrArg Value.bool (decide_eq_true (by omega)), rfl⟩ | exact ⟨congrArg Value.bool (decide_eq_false (by omega)), rfl⟩
  obtain ⟨rfl, rfl⟩ := hcut
  clear hy
  go_upto_block 0 with fail
  obtain ⟨E, hE⟩ : ∃ E, mflag xx xy yx yy + 0 = E := ⟨_, rfl⟩
  have HE : Hid (mflag xx xy yx yy + 0 = E) := hE
  have hE0 : 0 ≤ E := by have := HFC.out; omega
  have hE1 : E ≤ 10000 := by have := HFC.out; omega
  have h32 : bits .or .i64 E 32 = E + 32 := by rw [← hE]; exact HF.out.2
  clear hE
  go_cut [6, 10] (fun s6 s10 wx => s6 = .int .i64 E ∧ ∃ p c, s10 = .slice p (mnums xx xy yx yy).length c ∧ SwSt w2 wx B s10 (mnums xx xy yx yy))
  case first =>
    clear h32
    have HK3 := Lib.hid hsz
    obtain ⟨X, hX, hcmp⟩ := one_cmp xx xy yx yy
    have HX := Lib.hid hX
    clear hX
    have q0 := fun n : KW w2 => KW.cell c1 n
    have q1 := fun n : KW w2 => KW.cell c2 n
    have q2 := fun n : KW w2 => KW.cell c3 n
    have q3 := fun n : KW w2 => KW.cell c4 n
    go_wp2_with fail
    refine wp_region_kq (by kernel_rfl) (by kernel_rfl) ?_
    repeat (go_big_quiet_step ((go_at_call 11; exact Calls.kq (rone_calls _))))
    refine wpQuiet_nil ?_
    intro w3 hw'
    obtain ⟨⟨_, hkw3⟩, rfl⟩ := hw'
    have j1 := hkw3.cell c1 (by simp)
    have j2 := hkw3.cell c2 (by simp)
    have j3 := hkw3.cell c3 (by simp)
    have j4 := hkw3.cell c4 (by simp)
    clear hcmp q0 q1 q2 q3 c0 c1 c2 c3 c4 c5 c6 c7 c8 c9 c10
    cases X
    · have hn' : ¬ (xx = 16384 ∧ xy = 0 ∧ yx = 0 ∧ yy = 16384) := fun h => by have := HX.out.2 h; simp at this
      by_cases hbc : xy ≠ 0 ∨ yx ≠ 0
      · have hf : mflag xx xy yx yy = 128 := by unfold mflag; rw [if_neg hn', if_pos hbc]
        have hm : mnums xx xy yx yy = [xx, xy, yx, yy] := by unfold mnums; rw [if_neg hn', if_pos hbc]
        have HF2 := Lib.hid hf
        have HM2 := Lib.hid hm
        have hor : bits .or .i64 0 128 = E := by have h := HF.out.1; have h2 := HE.out; rw [hf] at h h2; rw [h (by decide)]; exact h2
        clear HX hn' hf hm
        by_cases hb : xy = 0
        · have hc : yx ≠ 0 := by rcases hbc with h | h; exact absurd hb h; exact h
          clear hbc
          subst hb
          go_wp2_with fail
          go_region_held3 (fun w' => w'.cell? ⟨B, 1, none⟩ = some (.int .i64 xx) ∧ w'.cell? ⟨B, 2, none⟩ = some (.int .i64 0) ∧ w'.cell? ⟨B, 3, none⟩ = some (.int .i64 yx) ∧ w'.cell? ⟨B, 4, none⟩ = some (.int .i64 yy)) (first | go_keep | exact ⟨j1, j2, j3, j4⟩) (fail)
          all_goals
            go_wp2_with fail
            go_meet
            refine ⟨rfl, ?_⟩
            rw [HM2.out]
            exact ⟨_, _, rfl, IsInts.lit .i64 3 _ (by (repeat (first | exact Kp.refl _ _ | assumption | refine Kp.drew ?_ | refine Kp.drewN ?_ _ | refine Kp.alloc ?_ _ | (refine Kp.setCell ?_ (by first | (left; simp; done) | (right; simp; try omega)) _) | (refine Kp.trans' ?_ (by assumption) (by simp; try omega))))) _ _ (by simp [World.size_drew, World.drewN]) rfl (by decide), fun k hk => by (have h1 := hkw3.size; simp [World.size_drew, World.drewN] at hk ⊢; omega), by (repeat (first | exact Kp.refl _ _ | assumption | refine Kp.drew ?_ | refine Kp.drewN ?_ _ | refine Kp.alloc ?_ _ | (refine Kp.setCell ?_ (by first | (left; simp; done) | (right; simp; try omega)) _) | (refine Kp.trans' ?_ (by assumption) (by simp; try omega))))⟩
        · clear hbc
          go_wp2_with fail
          go_region_held3 (fun w' => w'.cell? ⟨B, 1, none⟩ = some (.int .i64 xx) ∧ w'.cell? ⟨B, 2, none⟩ = some (.int .i64 xy) ∧ w'.cell? ⟨B, 3, none⟩ = some (.int .i64 yx) ∧ w'.cell? ⟨B, 4, none⟩ = some (.int .i64 yy)) (first | go_keep | exact ⟨j1, j2, j3, j4⟩) (fail)
          all_goals
            go_wp2_with fail
            go_meet
            refine ⟨rfl, ?_⟩
            rw [HM2.out]
            exact ⟨_, _, rfl, IsInts.lit .i64 3 _ (by (repeat (first | exact Kp.refl _ _ | assumption | refine Kp.drew ?_ | refine Kp.drewN ?_ _ | refine Kp.alloc ?_ _ | (refine Kp.setCell ?_ (by first | (left; simp; done) | (right; simp; try omega)) _) | (refine Kp.trans' ?_ (by assumption) (by simp; try omega))))) _ _ (by simp [World.size_drew, World.drewN]) rfl (by decide), fun k hk => by (have h1 := hkw3.size; simp [World.size_drew, World.drewN] at hk ⊢; omega), by (repeat (first | exact Kp.refl _ _ | assumption | refine Kp.drew ?_ | refine Kp.drewN ?_ _ | refine Kp.alloc ?_ _ | (refine Kp.setCell ?_ (by first | (left; simp; done) | (right; simp; try omega)) _) | (refine Kp.trans' ?_ (by assumption) (by simp; try omega))))⟩
      · have hb : xy = 0 := by omega
        have hc : yx = 0 := by omega
        clear hbc
        subst hb; subst hc
        by_cases had : xx = yy
        · have hf : mflag xx 0 0 yy = 8 := by unfold mflag; rw [if_neg hn', if_neg (by simp), if_pos had]
          have hm : mnums xx 0 0 yy = [xx] := by unfold mnums; rw [if_neg hn', if_neg (by simp), if_pos had]
          have hor : bits .or .i64 0 8 = E := by have h := HF.out.1; have h2 := HE.out; rw [hf] at h h2; rw [h (by decide)]; exact h2
          subst had
          have HM2 := Lib.hid hm
          clear HX hn' hf hm
          go_wp2_with fail
          go_region_held3 (fun w' => w'.cell? ⟨B, 1, none⟩ = some (.int .i64 xx) ∧ w'.cell? ⟨B, 2, none⟩ = some (.int .i64 0) ∧ w'.cell? ⟨B, 3, none⟩ = some (.int .i64 0) ∧ w'.cell? ⟨B, 4, none⟩ = some (.int .i64 xx)) (first | go_keep | exact ⟨j1, j2, j3, j4⟩) (fail)
          all_goals
            go_wp2_with fail
            go_meet
            refine ⟨rfl, ?_⟩
            rw [HM2.out]
            exact ⟨_, _, rfl, IsInts.lit .i64 3 _ (by (repeat (first | exact Kp.refl _ _ | assumption | refine Kp.drew ?_ | refine Kp.drewN ?_ _ | refine Kp.alloc ?_ _ | (refine Kp.setCell ?_ (by first | (left; simp; done) | (right; simp; try omega)) _) | (refine Kp.trans' ?_ (by assumption) (by simp; try omega))))) _ _ (by simp [World.size_drew, World.drewN]) rfl (by decide), fun k hk => by (have h1 := hkw3.size; simp [World.size_drew, World.drewN] at hk ⊢; omega), by (repeat (first | exact Kp.refl _ _ | assumption | refine Kp.drew ?_ | refine Kp.drewN ?_ _ | refine Kp.alloc ?_ _ | (refine Kp.setCell ?_ (by first | (left; simp; done) | (right; simp; try omega)) _) | (refine Kp.trans' ?_ (by assumption) (by simp; try omega))))⟩
        · have hf : mflag xx 0 0 yy = 64 := by unfold mflag; rw [if_neg hn', if_neg (by simp), if_neg had]
          have hm : mnums xx 0 0 yy = [xx, yy] := by unfold mnums; rw [if_neg hn', if_neg (by simp), if_neg had]
          have hor : bits .or .i64 0 64 = E := by have h := HF.out.1; have h2 := HE.out; rw [hf] at h h2; rw [h (by decide)]; exact h2
          have HM2 := Lib.hid hm
          clear HX hn' hf hm
          go_wp2_with fail
          go_region_held3 (fun w' => w'.cell? ⟨B, 1, none⟩ = some (.int .i64 xx) ∧ w'.cell? ⟨B, 2, none⟩ = some (.int .i64 0) ∧ w'.cell? ⟨B, 3, none⟩ = some (.int .i64 0) ∧ w'.cell? ⟨B, 4, none⟩ = some (.int .i64 yy)) (first | go_keep | exact ⟨j1, j2, j3, j4⟩) (fail)
          all_goals
            go_wp2_with fail
            go_meet
            refine ⟨rfl, ?_⟩
            rw [HM2.out]
            exact ⟨_, _, rfl, IsInts.lit .i64 3 _ (by (repeat (first | exact Kp.refl _ _ | assumption | refine Kp.drew ?_ | refine Kp.drewN ?_ _ | refine Kp.alloc ?_ _ | (refine Kp.setCell ?_ (by first | (left; simp; done) | (right; simp; try omega)) _) | (refine Kp.trans' ?_ (by assumption) (by simp; try omega))))) _ _ (by simp [World.size_drew, World.drewN]) rfl (by decide), fun k hk => by (have h1 := hkw3.size; simp [World.size_drew, World.drewN] at hk ⊢; omega), by (repeat (first | exact Kp.refl _ _ | assumption | refine Kp.drew ?_ | refine Kp.drewN ?_ _ | refine Kp.alloc ?_ _ | (refine Kp.setCell ?_ (by first | (left; simp; done) | (right; simp; try omega)) _) | (refine Kp.trans' ?_ (by assumption) (by simp; try omega))))⟩
    · obtain ⟨rfl, rfl, rfl, rfl⟩ := HX.out.1 rfl
      clear HX
      go_wp2_with fail
      go_meet
      have hE2 : E = 0 := HE.out.symm
      subst hE2
      exact ⟨rfl, _, _, rfl, IsInts.nil _ _, by simp, by (repeat (first | exact Kp.refl _ _ | assumption | refine Kp.drew ?_ | refine Kp.drewN ?_ _ | refine Kp.alloc ?_ _ | (refine Kp.setCell ?_ (by first | (left; simp; done) | (right; simp; try omega)) _) | (refine Kp.trans' ?_ (by assumption) (by simp; try omega))))⟩
  obtain ⟨rfl, np, nc, rfl, hI, hge, hkc⟩ := hcut
  have H3 : Hid (RWt wc r room acc) := HW.out.kp0 (HK.out.trans hkc)
  replace HBL := Lib.hid (hkc.heap HBL.out (by simp))
  replace HK := Lib.hid (HK.out.trans hkc)
  replace hsz : B < wc.heap.size := by have := hkc.size; omega
  rw [HE.out] at HQ
  clear HE HFC HF HY hkc
  generalize mnums xx xy yx yy = nums at *
  obtain ⟨N, hN⟩ : ∃ N, nums.length = N := ⟨_, rfl⟩
  have HNL := Lib.hid hN
  rw [hN] at hNL hI hge ⊢
  have HI := Lib.hid hI
  have HGE := Lib.hid hge
  clear hI hge hN c0 c1 c2 c3 c4 c5 c6 c7 c8 c9 c10 s1 s2 s3 s4 s5
  have hBr : B ∉ [r] := by simp; omega
  go_wp2_with fail
  refine (rwu2_calls r room acc (E) (by omega) (by omega) _ H3.out (by omega) (by omega)).mono ?_; rintro e w5 ⟨rfl, h5, hk5⟩
  have H5 := Lib.hid h5
  have HK5 : Hid (Kp [r] wc w5) := hk5
  have c0 := cell_of_row _ B 0 _ _ _ (hk5.heap HBL.out hBr)
  simp only [List.getElem?_toArray, List.getElem?_cons_zero] at c0
  clear h5 hk5 h32
  go_wp2_with fail
  refine (rwu2_calls r room (acc ++ bytesN 2 (E)) g (by omega) (by omega) _ H5.out (by simp [bytesN_length]; omega) (by omega)).mono ?_; rintro e w6 ⟨rfl, h6, hk6⟩
  have H6 := Lib.hid h6
  have HK6 : Hid (Kp [r] wc w6) := HK5.out.trans hk6
  clear h6 hk6 c0
  go_wp2_with fail
  refine (rwu1_calls r room (acc ++ bytesN 2 (E) ++ bytesN 2 g) pa (by omega) (by omega) _ H6.out (by simp [bytesN_length]; omega) (by omega)).mono ?_; rintro e w7 ⟨rfl, h7, hk7⟩
  have H7 := Lib.hid h7
  have HK7 : Hid (Kp [r] wc w7) := HK6.out.trans hk7
  clear h7 hk7
  go_wp2_with fail
  refine (rwu1_calls r room (acc ++ bytesN 2 (E) ++ bytesN 2 g ++ bytesN 1 pa) ch (by omega) (by omega) _ H7.out (by simp [bytesN_length]; omega) (by omega)).mono ?_; rintro e w8 ⟨rfl, h8, hk8⟩
  have H8 := Lib.hid h8
  have HK8 : Hid (Kp [r] wc w8) := HK7.out.trans hk8
  clear h8 hk8 HK5 HK6 HK7 H5 H6 H7 H3
  obtain ⟨D, hD⟩ : ∃ D, acc ++ bytesN 2 (E) ++ bytesN 2 g ++ bytesN 1 pa ++ bytesN 1 ch = D := ⟨_, rfl⟩
  have HQ2 : Hid (acc ++ putM (⟨g, xx, xy, yx, yy, true, 0, 0, false, pa, ch⟩ : Pt) false = D ++ nums.flatMap (bytesN 2)) := by
    show _ = _; rw [HQ.out, ← hD]; simp only [List.append_assoc]
  have hDl : D.length ≤ acc.length + 8 := by rw [← hD]; simp [bytesN_length]
  rw [hD] at H8
  clear hD HQ
  go_wp2_with fail
  go_loopw [12] (fun i wr => ∃ j : Nat, j ≤ N ∧ i = .int .i64 j ∧ Hid (RWt wr r room (D ++ (nums.take j).flatMap (bytesN 2)) ∧ Kp [r] wc wr)) (fun i _ => N - (intOf i).toNat)
  case atStart => exact ⟨0, by omega, rfl, by simpa using H8.out, HK8.out⟩
  case round =>
    obtain ⟨j, hj, rfl, HJ⟩ := hrel
    clear H8 HK8
    by_cases hlt : j < N
    · have hI := HI.out.kp HJ.out.2 (fun t ht e => by have h1 := HGE.out t e; simp at ht; omega)
      have hC : ∃ q off, np = some ⟨q, off, none⟩ ∧ wr.cell? ⟨q, off + j, none⟩ = some (.int .i64 (nums.getD j 0)) := by
        rcases hI with ⟨⟨a, e⟩, e0⟩ | ⟨q, off, c, e, _, _, h3⟩
        · have := HNL.out; rw [e0] at this; simp at this; omega
        · cases e; exact ⟨q, off, rfl, h3 j (by rw [HNL.out]; exact hlt)⟩
      obtain ⟨q, off, rfl, hc⟩ := hC
      have hx := HN.out (nums.getD j 0) (by rw [List.getD_eq_getElem?_getD, List.getElem?_eq_getElem (by rw [HNL.out]; exact hlt)]; exact List.getElem_mem _)
      have hsn : Hid (D ++ (nums.take (j + 1)).flatMap (bytesN 2) = D ++ (nums.take j).flatMap (bytesN 2) ++ bytesN 2 (nums.getD j 0)) := by
        show _ = _; rw [flat_snoc nums j (by rw [HNL.out]; exact hlt), List.append_assoc]
      have hln : (D ++ (nums.take j).flatMap (bytesN 2)).length ≤ acc.length + 14 := by
        rw [List.length_append, flat2_len, List.length_take]; omega
      generalize nums.getD j 0 = x at *
      generalize D ++ (nums.take j).flatMap (bytesN 2) = ac at *
      obtain ⟨hx0, hx1⟩ := hx
      clear hI
      go_wp2_with fail
      refine (rwu2_calls r room ac x (by omega) (by omega) _ HJ.out.1 (by omega) (by omega)).mono ?_; rintro e w9 ⟨rfl, h9, hk9⟩
      have HS9 : Hid (RWt w9 r room (D ++ (nums.take (j + 1)).flatMap (bytesN 2)) ∧ Kp [r] wc w9) := ⟨by rw [hsn.out]; exact h9, HJ.out.2.trans hk9⟩
      clear h9 hk9 hc
      go_wp2_with fail
      go_roundw
      case rel => first | exact ⟨j + 1, by omega, int_eq' (by omega), HS9⟩ | ((repeat apply Exists.intro); exact ⟨⟨j + 1, by omega, int_eq' (by omega), HS9⟩, rfl⟩)
      case measure => simp [intOf]; omega
    · obtain rfl : j = N := by omega
      go_wp2_with fail
      go_end0
      refine ⟨rfl, ?_, (HK.out.more (by simp)).trans HJ.out.2⟩
      rw [HQ2.out]
      have := HJ.out.1
      rwa [List.take_of_length_le (by rw [HNL.out]; exact Nat.le_refl _)] at this
set_option maxRecDepth 100000 in
set_option maxHeartbeats 4000000 in
theorem rput_mnw (r : Nat) (room : Int) (acc : List Int) (g xx xy yx yy pa ch : Int) (w : World) (h : RWt w r room acc) (hfit : fitsM xx xy yx yy = true) (hg : 0 ≤ g ∧ g < 65536) (hA : 0 ≤ pa ∧ pa < 65536) (hB : 0 ≤ ch ∧ ch < 65536) (hY : bothB pa ch 0 255 = false) (hn : (acc.length : Int) + 16 ≤ room) (hr : room ≤ 1073741824) :
    Calls Tryz.prog 30 #[.pointer (some ⟨r, 0, none⟩), ptV (⟨g, xx, xy, yx, yy, true, 0, 0, false, pa, ch⟩ : Pt), .bool false] w fun e w' => e = .returned (.tuple #[]) ∧ RWt w' r room (acc ++ putM (⟨g, xx, xy, yx, yy, true, 0, 0, false, pa, ch⟩ : Pt) false) ∧ Kp [r] w w' := by
  have HQ : Hid (putM (⟨g, xx, xy, yx, yy, true, 0, 0, false, pa, ch⟩ : Pt) false = bytesN 2 (mflag xx xy yx yy + 1) ++ bytesN 2 g ++ bytesN 2 pa ++ bytesN 2 ch ++ (mnums xx xy yx yy).flatMap (bytesN 2)) := by
    show _ = _; rw [show mflag xx xy yx yy + 1 = mflag xx xy yx yy + 0 + 0 + 1 by omega]; simp only [putM, flagsM, lenN, tinyB, tflag, numA, numB, hY]; rfl
  have HN := Lib.hid (mnums_in xx xy yx yy hfit)
  have hNL := mnums_len xx xy yx yy
  have HF := Lib.hid (or_sumR _ (mflag_cases xx xy yx yy) 1 (by simp))
  have HFC := Lib.hid (mflag_cases xx xy yx yy)
  rw [show ptV (⟨g, xx, xy, yx, yy, true, 0, 0, false, pa, ch⟩ : Pt) = .agg #[.int .i64 g, .int .i64 xx, .int .i64 xy, .int .i64 yx, .int .i64 yy, .bool true, .int .i64 0, .int .i64 0, .bool false, .int .i64 pa, .int .i64 ch] from rfl]
  obtain ⟨hg0, hg1⟩ := hg
  obtain ⟨hA0, hA1⟩ := hA
  obtain ⟨hB0, hB1⟩ := hB
  have HW := Lib.hid h
  have hrw : r < w.heap.size := h.lt
  have HY := Lib.hid hY
  have hblk := heap_alloc_new w (.cells #[.int .i64 g, .int .i64 xx, .int .i64 xy, .int .i64 yx, .int .i64 yy, .bool true, .int .i64 0, .int .i64 0, .bool false, .int .i64 pa, .int .i64 ch] 34)
  have hk02 : Kp [] w (w.alloc (.cells #[.int .i64 g, .int .i64 xx, .int .i64 xy, .int .i64 yx, .int .i64 yy, .bool true, .int .i64 0, .int .i64 0, .bool false, .int .i64 pa, .int .i64 ch] 34)) := (Kp.refl _ _).alloc _
  clear hY hfit h
  go_enter Tryz.func30, Tryz.ntmps30
  go_wp2_with fail
  have c00 := hblk
  generalize hw1 : w.alloc (.cells #[.int .i64 g, .int .i64 xx, .int .i64 xy, .int .i64 yx, .int .i64 yy, .bool true, .int .i64 0, .int .i64 0, .bool false, .int .i64 pa, .int .i64 ch] 34) = w1 at *
  have hsz : w.heap.size < w1.heap.size := by rw [← hw1]; simp
  clear hw1 c00
  generalize hBv : w.heap.size = B at *
  have HBv := Lib.hid hBv
  have HBL := Lib.hid hblk
  have HK := Lib.hid hk02
  clear hBv hblk hk02
  have c0 := cell_of_row _ B 0 _ _ _ HBL.out
  have c1 := cell_of_row _ B 1 _ _ _ HBL.out
  have c2 := cell_of_row _ B 2 _ _ _ HBL.out
  have c3 := cell_of_row _ B 3 _ _ _ HBL.out
  have c4 := cell_of_row _ B 4 _ _ _ HBL.out
  have c5 := cell_of_row _ B 5 _ _ _ HBL.out
  have c6 := cell_of_row _ B 6 _ _ _ HBL.out
  have c7 := cell_of_row _ B 7 _ _ _ HBL.out
  have c8 := cell_of_row _ B 8 _ _ _ HBL.out
  have c9 := cell_of_row _ B 9 _ _ _ HBL.out
  have c10 := cell_of_row _ B 10 _ _ _ HBL.out
  simp only [List.getElem?_toArray, List.getElem?_cons_succ, List.getElem?_cons_zero] at c0 c1 c2 c3 c4 c5 c6 c7 c8 c9 c10
  have hy : 256 ≤ pa ∨ 256 ≤ ch := by
    have h := HY.out; unfold bothB at h
    simp only [Bool.and_eq_true, decide_eq_true_eq, Bool.and_eq_false_iff, decide_eq_false_iff_not] at h
    omega
  obtain ⟨s1, s2, s3, s4, s5⟩ := or_start
  go_quiet (fail)
  have hq : Kp [] w1 (w1.drewN nq) := (Kp.refl _ _).drewN _
  replace HBL := Lib.hid (hq.heap HBL.out (by simp))
  replace HK := Lib.hid ((HK.out : Kp [] w w1).trans hq)
  replace hsz : B < (w1.drewN nq).heap.size := hsz
  clear hq c0 c1 c2 c3 c4 c5 c6 c7 c8 c9 c10
  generalize w1.drewN nq = w2 at *
  have c0 := cell_of_row _ B 0 _ _ _ HBL.out
  have c1 := cell_of_row _ B 1 _ _ _ HBL.out
  have c2 := cell_of_row _ B 2 _ _ _ HBL.out
  have c3 := cell_of_row _ B 3 _ _ _ HBL.out
  have c4 := cell_of_row _ B 4 _ _ _ HBL.out
  have c5 := cell_of_row _ B 5 _ _ _ HBL.out
  have c6 := cell_of_row _ B 6 _ _ _ HBL.out
  have c7 := cell_of_row _ B 7 _ _ _ HBL.out
  have c8 := cell_of_row _ B 8 _ _ _ HBL.out
  have c9 := cell_of_row _ B 9 _ _ _ HBL.out
  have c10 := cell_of_row _ B 10 _ _ _ HBL.out
  simp only [List.getElem?_toArray, List.getElem?_cons_succ, List.getElem?_cons_zero] at c0 c1 c2 c3 c4 c5 c6 c7 c8 c9 c10

  go_upto_region 2 with fail
  go_cut [9] (fun s9 wx => s9 = .bool false ∧ w2 = wx)
  case first =>
    go_wp2_with fail
    all_goals
      go_meet
      first | exact ⟨rfl, rfl⟩ | exact ⟨congrArg Value.bool (decide_eq_true (by omega)), rfl⟩ | exact ⟨congrArg Value.bool (decide_eq_false (by omega)), rfl⟩
  obtain ⟨rfl, rfl⟩ := hcut
  clear hy
  go_upto_block 0 with fail
  obtain ⟨E, hE⟩ : ∃ E, mflag xx xy yx yy + 1 = E := ⟨_, rfl⟩
  have HE : Hid (mflag xx xy yx yy + 1 = E) := hE
  have hE0 : 0 ≤ E := by have := HFC.out; omega
  have hE1 : E ≤ 10000 := by have := HFC.out; omega
  have h32 : bits .or .i64 E 32 = E + 32 := by rw [← hE]; exact HF.out.2
  clear hE
  go_cut [6, 10] (fun s6 s10 wx => s6 = .int .i64 E ∧ ∃ p c, s10 = .slice p (mnums xx xy yx yy).length c ∧ SwSt w2 wx B s10 (mnums xx xy yx yy))
  case first =>
    clear h32
    have HK3 := Lib.hid hsz
    obtain ⟨X, hX, hcmp⟩ := one_cmp xx xy yx yy
    have HX := Lib.hid hX
    clear hX
    have q0 := fun n : KW w2 => KW.cell c1 n
    have q1 := fun n : KW w2 => KW.cell c2 n
    have q2 := fun n : KW w2 => KW.cell c3 n
    have q3 := fun n : KW w2 => KW.cell c4 n
    go_wp2_with fail
    refine wp_region_kq (by kernel_rfl) (by kernel_rfl) ?_
    repeat (go_big_quiet_step ((go_at_call 11; exact Calls.kq (rone_calls _))))
    refine wpQuiet_nil ?_
    intro w3 hw'
    obtain ⟨⟨_, hkw3⟩, rfl⟩ := hw'
    have j1 := hkw3.cell c1 (by simp)
    have j2 := hkw3.cell c2 (by simp)
    have j3 := hkw3.cell c3 (by simp)
    have j4 := hkw3.cell c4 (by simp)
    clear hcmp q0 q1 q2 q3 c0 c1 c2 c3 c4 c5 c6 c7 c8 c9 c10
    cases X
    · have hn' : ¬ (xx = 16384 ∧ xy = 0 ∧ yx = 0 ∧ yy = 16384) := fun h => by have := HX.out.2 h; simp at this
      by_cases hbc : xy ≠ 0 ∨ yx ≠ 0
      · have hf : mflag xx xy yx yy = 128 := by unfold mflag; rw [if_neg hn', if_pos hbc]
        have hm : mnums xx xy yx yy = [xx, xy, yx, yy] := by unfold mnums; rw [if_neg hn', if_pos hbc]
        have HF2 := Lib.hid hf
        have HM2 := Lib.hid hm
        have hor : bits .or .i64 1 128 = E := by have h := HF.out.1; have h2 := HE.out; rw [hf] at h h2; rw [h (by decide)]; exact h2
        clear HX hn' hf hm
        by_cases hb : xy = 0
        · have hc : yx ≠ 0 := by rcases hbc with h | h; exact absurd hb h; exact h
          clear hbc
          subst hb
          go_wp2_with fail
          go_region_held3 (fun w' => w'.cell? ⟨B, 1, none⟩ = some (.int .i64 xx) ∧ w'.cell? ⟨B, 2, none⟩ = some (.int .i64 0) ∧ w'.cell? ⟨B, 3, none⟩ = some (.int .i64 yx) ∧ w'.cell? ⟨B, 4, none⟩ = some (.int .i64 yy)) (first | go_keep | exact ⟨j1, j2, j3, j4⟩) (fail)
          all_goals
            go_wp2_with fail
            go_meet
            refine ⟨rfl, ?_⟩
            rw [HM2.out]
            exact ⟨_, _, rfl, IsInts.lit .i64 3 _ (by (repeat (first | exact Kp.refl _ _ | assumption | refine Kp.drew ?_ | refine Kp.drewN ?_ _ | refine Kp.alloc ?_ _ | (refine Kp.setCell ?_ (by first | (left; simp; done) | (right; simp; try omega)) _) | (refine Kp.trans' ?_ (by assumption) (by simp; try omega))))) _ _ (by simp [World.size_drew, World.drewN]) rfl (by decide), fun k hk => by (have h1 := hkw3.size; simp [World.size_drew, World.drewN] at hk ⊢; omega), by (repeat (first | exact Kp.refl _ _ | assumption | refine Kp.drew ?_ | refine Kp.drewN ?_ _ | refine Kp.alloc ?_ _ | (refine Kp.setCell ?_ (by first | (left; simp; done) | (right; simp; try omega)) _) | (refine Kp.trans' ?_ (by assumption) (by simp; try omega))))⟩
        · clear hbc
          go_wp2_with fail
          go_region_held3 (fun w' => w'.cell? ⟨B, 1, none⟩ = some (.int .i64 xx) ∧ w'.cell? ⟨B, 2, none⟩ = some (.int .i64 xy) ∧ w'.cell? ⟨B, 3, none⟩ = some (.int .i64 yx) ∧ w'.cell? ⟨B, 4, none⟩ = some (.int .i64 yy)) (first | go_keep | exact ⟨j1, j2, j3, j4⟩) (fail)
          all_goals
            go_wp2_with fail
            go_meet
            refine ⟨rfl, ?_⟩
            rw [HM2.out]
            exact ⟨_, _, rfl, IsInts.lit .i64 3 _ (by (repeat (first | exact Kp.refl _ _ | assumption | refine Kp.drew ?_ | refine Kp.drewN ?_ _ | refine Kp.alloc ?_ _ | (refine Kp.setCell ?_ (by first | (left; simp; done) | (right; simp; try omega)) _) | (refine Kp.trans' ?_ (by assumption) (by simp; try omega))))) _ _ (by simp [World.size_drew, World.drewN]) rfl (by decide), fun k hk => by (have h1 := hkw3.size; simp [World.size_drew, World.drewN] at hk ⊢; omega), by (repeat (first | exact Kp.refl _ _ | assumption | refine Kp.drew ?_ | refine Kp.drewN ?_ _ | refine Kp.alloc ?_ _ | (refine Kp.setCell ?_ (by first | (left; simp; done) | (right; simp; try omega)) _) | (refine Kp.trans' ?_ (by assumption) (by simp; try omega))))⟩
      · have hb : xy = 0 := by omega
        have hc : yx = 0 := by omega
        clear hbc
        subst hb; subst hc
        by_cases had : xx = yy
        · have hf : mflag xx 0 0 yy = 8 := by unfold mflag; rw [if_neg hn', if_neg (by simp), if_pos had]
          have hm : mnums xx 0 0 yy = [xx] := by unfold mnums; rw [if_neg hn', if_neg (by simp), if_pos had]
          have hor : bits .or .i64 1 8 = E := by have h := HF.out.1; have h2 := HE.out; rw [hf] at h h2; rw [h (by decide)]; exact h2
          subst had
          have HM2 := Lib.hid hm
          clear HX hn' hf hm
          go_wp2_with fail
          go_region_held3 (fun w' => w'.cell? ⟨B, 1, none⟩ = some (.int .i64 xx) ∧ w'.cell? ⟨B, 2, none⟩ = some (.int .i64 0) ∧ w'.cell? ⟨B, 3, none⟩ = some (.int .i64 0) ∧ w'.cell? ⟨B, 4, none⟩ = some (.int .i64 xx)) (first | go_keep | exact ⟨j1, j2, j3, j4⟩) (fail)
          all_goals
            go_wp2_with fail
            go_meet
            refine ⟨rfl, ?_⟩
            rw [HM2.out]
            exact ⟨_, _, rfl, IsInts.lit .i64 3 _ (by (repeat (first | exact Kp.refl _ _ | assumption | refine Kp.drew ?_ | refine Kp.drewN ?_ _ | refine Kp.alloc ?_ _ | (refine Kp.setCell ?_ (by first | (left; simp; done) | (right; simp; try omega)) _) | (refine Kp.trans' ?_ (by assumption) (by simp; try omega))))) _ _ (by simp [World.size_drew, World.drewN]) rfl (by decide), fun k hk => by (have h1 := hkw3.size; simp [World.size_drew, World.drewN] at hk ⊢; omega), by (repeat (first | exact Kp.refl _ _ | assumption | refine Kp.drew ?_ | refine Kp.drewN ?_ _ | refine Kp.alloc ?_ _ | (refine Kp.setCell ?_ (by first | (left; simp; done) | (right; simp; try omega)) _) | (refine Kp.trans' ?_ (by assumption) (by simp; try omega))))⟩
        · have hf : mflag xx 0 0 yy = 64 := by unfold mflag; rw [if_neg hn', if_neg (by simp), if_neg had]
          have hm : mnums xx 0 0 yy = [xx, yy] := by unfold mnums; rw [if_neg hn', if_neg (by simp), if_neg had]
          have hor : bits .or .i64 1 64 = E := by have h := HF.out.1; have h2 := HE.out; rw [hf] at h h2; rw [h (by decide)]; exact h2
          have HM2 := Lib.hid hm
          clear HX hn' hf hm
          go_wp2_with fail
          go_region_held3 (fun w' => w'.cell? ⟨B, 1, none⟩ = some (.int .i64 xx) ∧ w'.cell? ⟨B, 2, none⟩ = some (.int .i64 0) ∧ w'.cell? ⟨B, 3, none⟩ = some (.int .i64 0) ∧ w'.cell? ⟨B, 4, none⟩ = some (.int .i64 yy)) (first | go_keep | exact ⟨j1, j2, j3, j4⟩) (fail)
          all_goals
            go_wp2_with fail
            go_meet
            refine ⟨rfl, ?_⟩
            rw [HM2.out]
            exact ⟨_, _, rfl, IsInts.lit .i64 3 _ (by (repeat (first | exact Kp.refl _ _ | assumption | refine Kp.drew ?_ | refine Kp.drewN ?_ _ | refine Kp.alloc ?_ _ | (refine Kp.setCell ?_ (by first | (left; simp; done) | (right; simp; try omega)) _) | (refine Kp.trans' ?_ (by assumption) (by simp; try omega))))) _ _ (by simp [World.size_drew, World.drewN]) rfl (by decide), fun k hk => by (have h1 := hkw3.size; simp [World.size_drew, World.drewN] at hk ⊢; omega), by (repeat (first | exact Kp.refl _ _ | assumption | refine Kp.drew ?_ | refine Kp.drewN ?_ _ | refine Kp.alloc ?_ _ | (refine Kp.setCell ?_ (by first | (left; simp; done) | (right; simp; try omega)) _) | (refine Kp.trans' ?_ (by assumption) (by simp; try omega))))⟩
    · obtain ⟨rfl, rfl, rfl, rfl⟩ := HX.out.1 rfl
      clear HX
      go_wp2_with fail
      go_meet
      have hE2 : E = 1 := HE.out.symm
      subst hE2
      exact ⟨rfl, _, _, rfl, IsInts.nil _ _, by simp, by (repeat (first | exact Kp.refl _ _ | assumption | refine Kp.drew ?_ | refine Kp.drewN ?_ _ | refine Kp.alloc ?_ _ | (refine Kp.setCell ?_ (by first | (left; simp; done) | (right; simp; try omega)) _) | (refine Kp.trans' ?_ (by assumption) (by simp; try omega))))⟩
  obtain ⟨rfl, np, nc, rfl, hI, hge, hkc⟩ := hcut
  have H3 : Hid (RWt wc r room acc) := HW.out.kp0 (HK.out.trans hkc)
  replace HBL := Lib.hid (hkc.heap HBL.out (by simp))
  replace HK := Lib.hid (HK.out.trans hkc)
  replace hsz : B < wc.heap.size := by have := hkc.size; omega
  rw [HE.out] at HQ
  clear HE HFC HF HY hkc
  generalize mnums xx xy yx yy = nums at *
  obtain ⟨N, hN⟩ : ∃ N, nums.length = N := ⟨_, rfl⟩
  have HNL := Lib.hid hN
  rw [hN] at hNL hI hge ⊢
  have HI := Lib.hid hI
  have HGE := Lib.hid hge
  clear hI hge hN c0 c1 c2 c3 c4 c5 c6 c7 c8 c9 c10 s1 s2 s3 s4 s5
  have hBr : B ∉ [r] := by simp; omega
  go_wp2_with fail
  refine (rwu2_calls r room acc (E) (by omega) (by omega) _ H3.out (by omega) (by omega)).mono ?_; rintro e w5 ⟨rfl, h5, hk5⟩
  have H5 := Lib.hid h5
  have HK5 : Hid (Kp [r] wc w5) := hk5
  have c0 := cell_of_row _ B 0 _ _ _ (hk5.heap HBL.out hBr)
  simp only [List.getElem?_toArray, List.getElem?_cons_zero] at c0
  clear h5 hk5 h32
  go_wp2_with fail
  refine (rwu2_calls r room (acc ++ bytesN 2 (E)) g (by omega) (by omega) _ H5.out (by simp [bytesN_length]; omega) (by omega)).mono ?_; rintro e w6 ⟨rfl, h6, hk6⟩
  have H6 := Lib.hid h6
  have HK6 : Hid (Kp [r] wc w6) := HK5.out.trans hk6
  clear h6 hk6 c0
  go_wp2_with fail
  refine (rwu2_calls r room (acc ++ bytesN 2 (E) ++ bytesN 2 g) pa (by omega) (by omega) _ H6.out (by simp [bytesN_length]; omega) (by omega)).mono ?_; rintro e w7 ⟨rfl, h7, hk7⟩
  have H7 := Lib.hid h7
  have HK7 : Hid (Kp [r] wc w7) := HK6.out.trans hk7
  clear h7 hk7
  go_wp2_with fail
  refine (rwu2_calls r room (acc ++ bytesN 2 (E) ++ bytesN 2 g ++ bytesN 2 pa) ch (by omega) (by omega) _ H7.out (by simp [bytesN_length]; omega) (by omega)).mono ?_; rintro e w8 ⟨rfl, h8, hk8⟩
  have H8 := Lib.hid h8
  have HK8 : Hid (Kp [r] wc w8) := HK7.out.trans hk8
  clear h8 hk8 HK5 HK6 HK7 H5 H6 H7 H3
  obtain ⟨D, hD⟩ : ∃ D, acc ++ bytesN 2 (E) ++ bytesN 2 g ++ bytesN 2 pa ++ bytesN 2 ch = D := ⟨_, rfl⟩
  have HQ2 : Hid (acc ++ putM (⟨g, xx, xy, yx, yy, true, 0, 0, false, pa, ch⟩ : Pt) false = D ++ nums.flatMap (bytesN 2)) := by
    show _ = _; rw [HQ.out, ← hD]; simp only [List.append_assoc]
  have hDl : D.length ≤ acc.length + 8 := by rw [← hD]; simp [bytesN_length]
  rw [hD] at H8
  clear hD HQ
  go_wp2_with fail
  go_loopw [12] (fun i wr => ∃ j : Nat, j ≤ N ∧ i = .int .i64 j ∧ Hid (RWt wr r room (D ++ (nums.take j).flatMap (bytesN 2)) ∧ Kp [r] wc wr)) (fun i _ => N - (intOf i).toNat)
  case atStart => exact ⟨0, by omega, rfl, by simpa using H8.out, HK8.out⟩
  case round =>
    obtain ⟨j, hj, rfl, HJ⟩ := hrel
    clear H8 HK8
    by_cases hlt : j < N
    · have hI := HI.out.kp HJ.out.2 (fun t ht e => by have h1 := HGE.out t e; simp at ht; omega)
      have hC : ∃ q off, np = some ⟨q, off, none⟩ ∧ wr.cell? ⟨q, off + j, none⟩ = some (.int .i64 (nums.getD j 0)) := by
        rcases hI with ⟨⟨a, e⟩, e0⟩ | ⟨q, off, c, e, _, _, h3⟩
        · have := HNL.out; rw [e0] at this; simp at this; omega
        · cases e; exact ⟨q, off, rfl, h3 j (by rw [HNL.out]; exact hlt)⟩
      obtain ⟨q, off, rfl, hc⟩ := hC
      have hx := HN.out (nums.getD j 0) (by rw [List.getD_eq_getElem?_getD, List.getElem?_eq_getElem (by rw [HNL.out]; exact hlt)]; exact List.getElem_mem _)
      have hsn : Hid (D ++ (nums.take (j + 1)).flatMap (bytesN 2) = D ++ (nums.take j).flatMap (bytesN 2) ++ bytesN 2 (nums.getD j 0)) := by
        show _ = _; rw [flat_snoc nums j (by rw [HNL.out]; exact hlt), List.append_assoc]
      have hln : (D ++ (nums.take j).flatMap (bytesN 2)).length ≤ acc.length + 14 := by
        rw [List.length_append, flat2_len, List.length_take]; omega
      generalize nums.getD j 0 = x at *
      generalize D ++ (nums.take j).flatMap (bytesN 2) = ac at *
      obtain ⟨hx0, hx1⟩ := hx
      clear hI
      go_wp2_with fail
      refine (rwu2_calls r room ac x (by omega) (by omega) _ HJ.out.1 (by omega) (by omega)).mono ?_; rintro e w9 ⟨rfl, h9, hk9⟩
      have HS9 : Hid (RWt w9 r room (D ++ (nums.take (j + 1)).flatMap (bytesN 2)) ∧ Kp [r] wc w9) := ⟨by rw [hsn.out]; exact h9, HJ.out.2.trans hk9⟩
      clear h9 hk9 hc
      go_wp2_with fail
      go_roundw
      case rel => first | exact ⟨j + 1, by omega, int_eq' (by omega), HS9⟩ | ((repeat apply Exists.intro); exact ⟨⟨j + 1, by omega, int_eq' (by omega), HS9⟩, rfl⟩)
      case measure => simp [intOf]; omega
    · obtain rfl : j = N := by omega
      go_wp2_with fail
      go_end0
      refine ⟨rfl, ?_, (HK.out.more (by simp)).trans HJ.out.2⟩
      rw [HQ2.out]
      have := HJ.out.1
      rwa [List.take_of_length_le (by rw [HNL.out]; exact Nat.le_refl _)] at this
end Go.Proofs.YtafkhnlmipddmaaGreat.Cp
namespace Go.Proofs.YtafkhnlmipddmaaGreat.Cp
open Go.RowKit
set_option linter.unusedVariables false
set_option linter.unusedSimpArgs false
set_option maxRecDepth 100000 in
set_option maxHeartbeats 4000000 in
theorem rput_tgy (r : Nat) (room : Int) (acc : List Int) (g xx xy yx yy dx dy : Int) (w : World) (h : RWt w r room acc) (hfit : fitsM xx xy yx yy = true) (hg : 0 ≤ g ∧ g < 65536) (hA : -32768 ≤ dx ∧ dx < 65536) (hB : -32768 ≤ dy ∧ dy < 65536) (hY : bothB dx dy (-128) 127 = true) (hn : (acc.length : Int) + 16 ≤ room) (hr : room ≤ 1073741824) :
    Calls Tryz.prog 30 #[.pointer (some ⟨r, 0, none⟩), ptV (⟨g, xx, xy, yx, yy, false, dx, dy, true, 0, 0⟩ : Pt), .bool true] w fun e w' => e = .returned (.tuple #[]) ∧ RWt w' r room (acc ++ putM (⟨g, xx, xy, yx, yy, false, dx, dy, true, 0, 0⟩ : Pt) true) ∧ Kp [r] w w' := by
  have HQ : Hid (putM (⟨g, xx, xy, yx, yy, false, dx, dy, true, 0, 0⟩ : Pt) true = bytesN 2 (mflag xx xy yx yy + 2050 + 32) ++ bytesN 2 g ++ bytesN 1 dx ++ bytesN 1 dy ++ (mnums xx xy yx yy).flatMap (bytesN 2)) := by
    show _ = _; rw [show mflag xx xy yx yy + 2050 + 32 = mflag xx xy yx yy + 2050 + 32 + 0 by omega]; simp only [putM, flagsM, lenN, tinyB, tflag, numA, numB, hY]; rfl
  have HN := Lib.hid (mnums_in xx xy yx yy hfit)
  have hNL := mnums_len xx xy yx yy
  have HF := Lib.hid (or_sumR _ (mflag_cases xx xy yx yy) 2050 (by simp))
  have HFC := Lib.hid (mflag_cases xx xy yx yy)
  rw [show ptV (⟨g, xx, xy, yx, yy, false, dx, dy, true, 0, 0⟩ : Pt) = .agg #[.int .i64 g, .int .i64 xx, .int .i64 xy, .int .i64 yx, .int .i64 yy, .bool false, .int .i64 dx, .int .i64 dy, .bool true, .int .i64 0, .int .i64 0] from rfl]
  obtain ⟨hg0, hg1⟩ := hg
  obtain ⟨hA0, hA1⟩ := hA
  obtain ⟨hB0, hB1⟩ := hB
  have HW := Lib.hid h
  have hrw : r < w.heap.size := h.lt
  have HY := Lib.hid hY
  have hblk := heap_alloc_new w (.cells #[.int .i64 g, .int .i64 xx, .int .i64 xy, .int .i64 yx, .int .i64 yy, .bool false, .int .i64 dx, .int .i64 dy, .bool true, .int .i64 0, .int .i64 0] 34)
  have hk02 : Kp [] w (w.alloc (.cells #[.int .i64 g, .int .i64 xx, .int .i64 xy, .int .i64 yx, .int .i64 yy, .bool false, .int .i64 dx, .int .i64 dy, .bool true, .int .i64 0, .int .i64 0] 34)) := (Kp.refl _ _).alloc _
  clear hY hfit h
  go_enter Tryz.func30, Tryz.ntmps30
  go_wp2_with fail
  have c00 := hblk
  generalize hw1 : w.alloc (.cells #[.int .i64 g, .int .i64 xx, .int .i64 xy, .int .i64 yx, .int .i64 yy, .bool false, .int .i64 dx, .int .i64 dy, .bool true, .int .i64 0, .int .i64 0] 34) = w1 at *
  have hsz : w.heap.size < w1.heap.size := by rw [← hw1]; simp
  clear hw1 c00
  generalize hBv : w.heap.size = B at *
  have HBv := Lib.hid hBv
  have HBL := Lib.hid hblk
  have HK := Lib.hid hk02
  clear hBv hblk hk02
  have c0 := cell_of_row _ B 0 _ _ _ HBL.out
  have c1 := cell_of_row _ B 1 _ _ _ HBL.out
  have c2 := cell_of_row _ B 2 _ _ _ HBL.out
  have c3 := cell_of_row _ B 3 _ _ _ HBL.out
  have c4 := cell_of_row _ B 4 _ _ _ HBL.out
  have c5 := cell_of_row _ B 5 _ _ _ HBL.out
  have c6 := cell_of_row _ B 6 _ _ _ HBL.out
  have c7 := cell_of_row _ B 7 _ _ _ HBL.out
  have c8 := cell_of_row _ B 8 _ _ _ HBL.out
  have c9 := cell_of_row _ B 9 _ _ _ HBL.out
  have c10 := cell_of_row _ B 10 _ _ _ HBL.out
  simp only [List.getElem?_toArray, List.getElem?_cons_succ, List.getElem?_cons_zero] at c0 c1 c2 c3 c4 c5 c6 c7 c8 c9 c10
  have hy : -128 ≤ dx ∧ dx < 128 ∧ -128 ≤ dy ∧ dy < 128 := by
    have h := HY.out; unfold bothB at h
    simp only [Bool.and_eq_true, decide_eq_true_eq, Bool.and_eq_false_iff, decide_eq_false_iff_not] at h
    omega
  obtain ⟨s1, s2, s3, s4, s5⟩ := or_start
  go_quiet (fail)
  have hq : Kp [] w1 (w1.drewN nq) := (Kp.refl _ _).drewN _
  replace HBL := Lib.hid (hq.heap HBL.out (by simp))
  replace HK := Lib.hid ((HK.out : Kp [] w w1).trans hq)
  replace hsz : B < (w1.drewN nq).heap.size := hsz
  clear hq c0 c1 c2 c3 c4 c5 c6 c7 c8 c9 c10
  generalize w1.drewN nq = w9 at *
  have c0 := cell_of_row _ B 0 _ _ _ HBL.out
  have c1 := cell_of_row _ B 1 _ _ _ HBL.out
  have c2 := cell_of_row _ B 2 _ _ _ HBL.out
  have c3 := cell_of_row _ B 3 _ _ _ HBL.out
  have c4 := cell_of_row _ B 4 _ _ _ HBL.out
  have c5 := cell_of_row _ B 5 _ _ _ HBL.out
  have c6 := cell_of_row _ B 6 _ _ _ HBL.out
  have c7 := cell_of_row _ B 7 _ _ _ HBL.out
  have c8 := cell_of_row _ B 8 _ _ _ HBL.out
  have c9 := cell_of_row _ B 9 _ _ _ HBL.out
  have c10 := cell_of_row _ B 10 _ _ _ HBL.out
  simp only [List.getElem?_toArray, List.getElem?_cons_succ, List.getElem?_cons_zero] at c0 c1 c2 c3 c4 c5 c6 c7 c8 c9 c10
  go_wp2_with fail
  go_quiet (fail)
  have hq : Kp [] w9 (w9.drewN nq) := (Kp.refl _ _).drewN _
  replace HBL := Lib.hid (hq.heap HBL.out (by simp))
  replace HK := Lib.hid ((HK.out : Kp [] w w9).trans hq)
  replace hsz : B < (w9.drewN nq).heap.size := hsz
  clear hq c0 c1 c2 c3 c4 c5 c6 c7 c8 c9 c10
  generalize w9.drewN nq = w2 at *
  have c0 := cell_of_row _ B 0 _ _ _ HBL.out
  have c1 := cell_of_row _ B 1 _ _ _ HBL.out
  have c2 := cell_of_row _ B 2 _ _ _ HBL.out
  have c3 := cell_of_row _ B 3 _ _ _ HBL.out
  have c4 := cell_of_row _ B 4 _ _ _ HBL.out
  have c5 := cell_of_row _ B 5 _ _ _ HBL.out
  have c6 := cell_of_row _ B 6 _ _ _ HBL.out
  have c7 := cell_of_row _ B 7 _ _ _ HBL.out
  have c8 := cell_of_row _ B 8 _ _ _ HBL.out
  have c9 := cell_of_row _ B 9 _ _ _ HBL.out
  have c10 := cell_of_row _ B 10 _ _ _ HBL.out
  simp only [List.getElem?_toArray, List.getElem?_cons_succ, List.getElem?_cons_zero] at c0 c1 c2 c3 c4 c5 c6 c7 c8 c9 c10

  go_upto_region 5 with fail
  go_cut [9] (fun s9 wx => s9 = .bool true ∧ w2 = wx)
  case first =>
    go_wp2_with fail
    all_goals
      go_meet
      first | exact ⟨rfl, rfl⟩ | exact ⟨congrArg Value.bool (decide_eq_true (by omega)), rfl⟩ | exact ⟨congrArg Value.bool (decide_eq_false (by omega)), rfl⟩
  obtain ⟨rfl, rfl⟩ := hcut
  clear hy
  go_upto_block 0 with fail
  obtain ⟨E, hE⟩ : ∃ E, mflag xx xy yx yy + 2050 = E := ⟨_, rfl⟩
  have HE : Hid (mflag xx xy yx yy + 2050 = E) := hE
  have hE0 : 0 ≤ E := by have := HFC.out; omega
  have hE1 : E ≤ 10000 := by have := HFC.out; omega
  have h32 : bits .or .i64 E 32 = E + 32 := by rw [← hE]; exact HF.out.2
  clear hE
  go_cut [6, 10] (fun s6 s10 wx => s6 = .int .i64 E ∧ ∃ p c, s10 = .slice p (mnums xx xy yx yy).length c ∧ SwSt w2 wx B s10 (mnums xx xy yx yy))
  case first =>
    clear h32
    have HK3 := Lib.hid hsz
    obtain ⟨X, hX, hcmp⟩ := one_cmp xx xy yx yy
    have HX := Lib.hid hX
    clear hX
    have q0 := fun n : KW w2 => KW.cell c1 n
    have q1 := fun n : KW w2 => KW.cell c2 n
    have q2 := fun n : KW w2 => KW.cell c3 n
    have q3 := fun n : KW w2 => KW.cell c4 n
    go_wp2_with fail
    refine wp_region_kq (by kernel_rfl) (by kernel_rfl) ?_
    repeat (go_big_quiet_step ((go_at_call 11; exact Calls.kq (rone_calls _))))
    refine wpQuiet_nil ?_
    intro w3 hw'
    obtain ⟨⟨_, hkw3⟩, rfl⟩ := hw'
    have j1 := hkw3.cell c1 (by simp)
    have j2 := hkw3.cell c2 (by simp)
    have j3 := hkw3.cell c3 (by simp)
    have j4 := hkw3.cell c4 (by simp)
    clear hcmp q0 q1 q2 q3 c0 c1 c2 c3 c4 c5 c6 c7 c8 c9 c10
    cases X
    · have hn' : ¬ (xx = 16384 ∧ xy = 0 ∧ yx = 0 ∧ yy = 16384) := fun h => by have := HX.out.2 h; simp at this
      by_cases hbc : xy ≠ 0 ∨ yx ≠ 0
      · have hf : mflag xx xy yx yy = 128 := by unfold mflag; rw [if_neg hn', if_pos hbc]
        have hm : mnums xx xy yx yy = [xx, xy, yx, yy] := by unfold mnums; rw [if_neg hn', if_pos hbc]
        have HF2 := Lib.hid hf
        have HM2 := Lib.hid hm
        have hor : bits .or .i64 2050 128 = E := by have h := HF.out.1; have h2 := HE.out; rw [hf] at h h2; rw [h (by decide)]; exact h2
        clear HX hn' hf hm
        by_cases hb : xy = 0
        · have hc : yx ≠ 0 := by rcases hbc with h | h; exact absurd hb h; exact h
          clear hbc
          subst hb
          go_wp2_with fail
          go_region_held3 (fun w' => w'.cell? ⟨B, 1, none⟩ = some (.int .i64 xx) ∧ w'.cell? ⟨B, 2, none⟩ = some (.int .i64 0) ∧ w'.cell? ⟨B, 3, none⟩ = some (.int .i64 yx) ∧ w'.cell? ⟨B, 4, none⟩ = some (.int .i64 yy)) (first | go_keep | exact ⟨j1, j2, j3, j4⟩) (fail)
          all_goals
            go_wp2_with fail
            go_meet
            refine ⟨rfl, ?_⟩
            rw [HM2.out]
            exact ⟨_, _, rfl, IsInts.lit .i64 3 _ (by (repeat (first | exact Kp.refl _ _ | assumption | refine Kp.drew ?_ | refine Kp.drewN ?_ _ | refine Kp.alloc ?_ _ | (refine Kp.setCell ?_ (by first | (left; simp; done) | (right; simp; try omega)) _) | (refine Kp.trans' ?_ (by assumption) (by simp; try omega))))) _ _ (by simp [World.size_drew, World.drewN]) rfl (by decide), fun k hk => by (have h1 := hkw3.size; simp [World.size_drew, World.drewN] at hk ⊢; omega), by (repeat (first | exact Kp.refl _ _ | assumption | refine Kp.drew ?_ | refine Kp.drewN ?_ _ | refine Kp.alloc ?_ _ | (refine Kp.setCell ?_ (by first | (left; simp; done) | (right; simp; try omega)) _) | (refine Kp.trans' ?_ (by assumption) (by simp; try omega))))⟩
        · clear hbc
          go_wp2_with fail
          go_region_held3 (fun w' => w'.cell? ⟨B, 1, none⟩ = some (.int .i64 xx) ∧ w'.cell? ⟨B, 2, none⟩ = some (.int .i64 xy) ∧ w'.cell? ⟨B, 3, none⟩ = some (.int .i64 yx) ∧ w'.cell? ⟨B, 4, none⟩ = some (.int .i64 yy)) (first | go_keep | exact ⟨j1, j2, j3, j4⟩) (fail)
          all_goals
            go_wp2_with fail
            go_meet
            refine ⟨rfl, ?_⟩
            rw [HM2.out]
            exact ⟨_, _, rfl, IsInts.lit .i64 3 _ (by (repeat (first | exact Kp.refl _ _ | assumption | refine Kp.drew ?_ | refine Kp.drewN ?_ _ | refine Kp.alloc ?_ _ | (refine Kp.setCell ?_ (by first | (left; simp; done) | (right; simp; try omega)) _) | (refine Kp.trans' ?_ (by assumption) (by simp; try omega))))) _ _ (by simp [World.size_drew, World.drewN]) rfl (by decide), fun k hk => by (have h1 := hkw3.size; simp [World.size_drew, World.drewN] at hk ⊢; omega), by (repeat (first | exact Kp.refl _ _ | assumption | refine Kp.drew ?_ | refine Kp.drewN ?_ _ | refine Kp.alloc ?_ _ | (refine Kp.setCell ?_ (by first | (left; simp; done) | (right; simp; try omega)) _) | (refine Kp.trans' ?_ (by assumption) (by simp; try omega))))⟩
      · have hb : xy = 0 := by omega
        have hc : yx = 0 := by omega
        clear hbc
        subst hb; subst hc
        by_cases had : xx = yy
        · have hf : mflag xx 0 0 yy = 8 := by unfold mflag; rw [if_neg hn', if_neg (by simp), if_pos had]
          have hm : mnums xx 0 0 yy = [xx] := by unfold mnums; rw [if_neg hn', if_neg (by simp), if_pos had]
          have hor : bits .or .i64 2050 8 = E := by have h := HF.out.1; have h2 := HE.out; rw [hf] at h h2; rw [h (by decide)]; exact h2
          subst had
          have HM2 := Lib.hid hm
          clear HX hn' hf hm
          go_wp2_with fail
          go_region_held3 (fun w' => w'.cell? ⟨B, 1, none⟩ = some (.int .i64 xx) ∧ w'.cell? ⟨B, 2, none⟩ = some (.int .i64 0) ∧ w'.cell? ⟨B, 3, none⟩ = some (.int .i64 0) ∧ w'.cell? ⟨B, 4, none⟩ = some (.int .i64 xx)) (first | go_keep | exact ⟨j1, j2, j3, j4⟩) (fail)
          all_goals
            go_wp2_with fail
            go_meet
            refine ⟨rfl, ?_⟩
            rw [HM2.out]
            exact ⟨_, _, rfl, IsInts.lit .i64 3 _ (by (repeat (first | exact Kp.refl _ _ | assumption | refine Kp.drew ?_ | refine Kp.drewN ?_ _ | refine Kp.alloc ?_ _ | (refine Kp.setCell ?_ (by first | (left; simp; done) | (right; simp; try omega)) _) | (refine Kp.trans' ?_ (by assumption) (by simp; try omega))))) _ _ (by simp [World.size_drew, World.drewN]) rfl (by decide), fun k hk => by (have h1 := hkw3.size; simp [World.size_drew, World.drewN] at hk ⊢; omega), by (repeat (first | exact Kp.refl _ _ | assumption | refine Kp.drew ?_ | refine Kp.drewN ?_ _ | refine Kp.alloc ?_ _ | (refine Kp.setCell ?_ (by first | (left; simp; done) | (right; simp; try omega)) _) | (refine Kp.trans' ?_ (by assumption) (by simp; try omega))))⟩
        · have hf : mflag xx 0 0 yy = 64 := by unfold mflag; rw [if_neg hn', if_neg (by simp), if_neg had]
          have hm : mnums xx 0 0 yy = [xx, yy] := by unfold mnums; rw [if_neg hn', if_neg (by simp), if_neg had]
          have hor : bits .or .i64 2050 64 = E := by have h := HF.out.1; have h2 := HE.out; rw [hf] at h h2; rw [h (by decide)]; exact h2
          have HM2 := Lib.hid hm
          clear HX hn' hf hm
          go_wp2_with fail
          go_region_held3 (fun w' => w'.cell? ⟨B, 1, none⟩ = some (.int .i64 xx) ∧ w'.cell? ⟨B, 2, none⟩ = some (.int .i64 0) ∧ w'.cell? ⟨B, 3, none⟩ = some (.int .i64 0) ∧ w'.cell? ⟨B, 4, none⟩ = some (.int .i64 yy)) (first | go_keep | exact ⟨j1, j2, j3, j4⟩) (fail)
          all_goals
            go_wp2_with fail
            go_meet
            refine ⟨rfl, ?_⟩
            rw [HM2.out]
            exact ⟨_, _, rfl, IsInts.lit .i64 3 _ (by (repeat (first | exact Kp.refl _ _ | assumption | refine Kp.drew ?_ | refine Kp.drewN ?_ _ | refine Kp.alloc ?_ _ | (refine Kp.setCell ?_ (by first | (left; simp; done) | (right; simp; try omega)) _) | (refine Kp.trans' ?_ (by assumption) (by simp; try omega))))) _ _ (by simp [World.size_drew, World.drewN]) rfl (by decide), fun k hk => by (have h1 := hkw3.size; simp [World.size_drew, World.drewN] at hk ⊢; omega), by (repeat (first | exact Kp.refl _ _ | assumption | refine Kp.drew ?_ | refine Kp.drewN ?_ _ | refine Kp.alloc ?_ _ | (refine Kp.setCell ?_ (by first | (left; simp; done) | (right; simp; try omega)) _) | (refine Kp.trans' ?_ (by assumption) (by simp; try omega))))⟩
    · obtain ⟨rfl, rfl, rfl, rfl⟩ := HX.out.1 rfl
      clear HX
      go_wp2_with fail
      go_meet
      have hE2 : E = 2050 := HE.out.symm
      subst hE2
      exact ⟨rfl, _, _, rfl, IsInts.nil _ _, by simp, by (repeat (first | exact Kp.refl _ _ | assumption | refine Kp.drew ?_ | refine Kp.drewN ?_ _ | refine Kp.alloc ?_ _ | (refine Kp.setCell ?_ (by first | (left; simp; done) | (right; simp; try omega)) _) | (refine Kp.trans' ?_ (by assumption) (by simp; try omega))))⟩
  obtain ⟨rfl, np, nc, rfl, hI, hge, hkc⟩ := hcut
  have H3 : Hid (RWt wc r room acc) := HW.out.kp0 (HK.out.trans hkc)
  replace HBL := Lib.hid (hkc.heap HBL.out (by simp))
  replace HK := Lib.hid (HK.out.trans hkc)
  replace hsz : B < wc.heap.size := by have := hkc.size; omega
  rw [HE.out] at HQ
  clear HE HFC HF HY hkc
  generalize mnums xx xy yx yy = nums at *
  obtain ⟨N, hN⟩ : ∃ N, nums.length = N := ⟨_, rfl⟩
  have HNL := Lib.hid hN
  rw [hN] at hNL hI hge ⊢
  have HI := Lib.hid hI
  have HGE := Lib.hid hge
  clear hI hge hN c0 c1 c2 c3 c4 c5 c6 c7 c8 c9 c10 s1 s2 s3 s4 s5
  have hBr : B ∉ [r] := by simp; omega
  go_wp2_with fail
  refine (rwu2_calls r room acc (E + 32) (by omega) (by omega) _ H3.out (by omega) (by omega)).mono ?_; rintro e w5 ⟨rfl, h5, hk5⟩
  have H5 := Lib.hid h5
  have HK5 : Hid (Kp [r] wc w5) := hk5
  have c0 := cell_of_row _ B 0 _ _ _ (hk5.heap HBL.out hBr)
  simp only [List.getElem?_toArray, List.getElem?_cons_zero] at c0
  clear h5 hk5 h32
  go_wp2_with fail
  refine (rwu2_calls r room (acc ++ bytesN 2 (E + 32)) g (by omega) (by omega) _ H5.out (by simp [bytesN_length]; omega) (by omega)).mono ?_; rintro e w6 ⟨rfl, h6, hk6⟩
  have H6 := Lib.hid h6
  have HK6 : Hid (Kp [r] wc w6) := HK5.out.trans hk6
  clear h6 hk6 c0
  go_wp2_with fail
  refine (rwu1_calls r room (acc ++ bytesN 2 (E + 32) ++ bytesN 2 g) dx (by omega) (by omega) _ H6.out (by simp [bytesN_length]; omega) (by omega)).mono ?_; rintro e w7 ⟨rfl, h7, hk7⟩
  have H7 := Lib.hid h7
  have HK7 : Hid (Kp [r] wc w7) := HK6.out.trans hk7
  clear h7 hk7
  go_wp2_with fail
  refine (rwu1_calls r room (acc ++ bytesN 2 (E + 32) ++ bytesN 2 g ++ bytesN 1 dx) dy (by omega) (by omega) _ H7.out (by simp [bytesN_length]; omega) (by omega)).mono ?_; rintro e w8 ⟨rfl, h8, hk8⟩
  have H8 := Lib.hid h8
  have HK8 : Hid (Kp [r] wc w8) := HK7.out.trans hk8
  clear h8 hk8 HK5 HK6 HK7 H5 H6 H7 H3
  obtain ⟨D, hD⟩ : ∃ D, acc ++ bytesN 2 (E + 32) ++ bytesN 2 g ++ bytesN 1 dx ++ bytesN 1 dy = D := ⟨_, rfl⟩
  have HQ2 : Hid (acc ++ putM (⟨g, xx, xy, yx, yy, false, dx, dy, true, 0, 0⟩ : Pt) true = D ++ nums.flatMap (bytesN 2)) := by
    show _ = _; rw [HQ.out, ← hD]; simp only [List.append_assoc]
  have hDl : D.length ≤ acc.length + 8 := by rw [← hD]; simp [bytesN_length]
  rw [hD] at H8
  clear hD HQ
  go_wp2_with fail
  go_loopw [12] (fun i wr => ∃ j : Nat, j ≤ N ∧ i = .int .i64 j ∧ Hid (RWt wr r room (D ++ (nums.take j).flatMap (bytesN 2)) ∧ Kp [r] wc wr)) (fun i _ => N - (intOf i).toNat)
  case atStart => exact ⟨0, by omega, rfl, by simpa using H8.out, HK8.out⟩
  case round =>
    obtain ⟨j, hj, rfl, HJ⟩ := hrel
    clear H8 HK8
    by_cases hlt : j < N
    · have hI := HI.out.kp HJ.out.2 (fun t ht e => by have h1 := HGE.out t e; simp at ht; omega)
      have hC : ∃ q off, np = some ⟨q, off, none⟩ ∧ wr.cell? ⟨q, off + j, none⟩ = some (.int .i64 (nums.getD j 0)) := by
        rcases hI with ⟨⟨a, e⟩, e0⟩ | ⟨q, off, c, e, _, _, h3⟩
        · have := HNL.out; rw [e0] at this; simp at this; omega
        · cases e; exact ⟨q, off, rfl, h3 j (by rw [HNL.out]; exact hlt)⟩
      obtain ⟨q, off, rfl, hc⟩ := hC
      have hx := HN.out (nums.getD j 0) (by rw [List.getD_eq_getElem?_getD, List.getElem?_eq_getElem (by rw [HNL.out]; exact hlt)]; exact List.getElem_mem _)
      have hsn : Hid (D ++ (nums.take (j + 1)).flatMap (bytesN 2) = D ++ (nums.take j).flatMap (bytesN 2) ++ bytesN 2 (nums.getD j 0)) := by
        show _ = _; rw [flat_snoc nums j (by rw [HNL.out]; exact hlt), List.append_assoc]
      have hln : (D ++ (nums.take j).flatMap (bytesN 2)).length ≤ acc.length + 14 := by
        rw [List.length_append, flat2_len, List.length_take]; omega
      generalize nums.getD j 0 = x at *
      generalize D ++ (nums.take j).flatMap (bytesN 2) = ac at *
      obtain ⟨hx0, hx1⟩ := hx
      clear hI
      go_wp2_with fail
      refine (rwu2_calls r room ac x (by omega) (by omega) _ HJ.out.1 (by omega) (by omega)).mono ?_; rintro e w9 ⟨rfl, h9, hk9⟩
      have HS9 : Hid (RWt w9 r room (D ++ (nums.take (j + 1)).flatMap (bytesN 2)) ∧ Kp [r] wc w9) := ⟨by rw [hsn.out]; exact h9, HJ.out.2.trans hk9⟩
      clear h9 hk9 hc
      go_wp2_with fail
      go_roundw
      case rel => first | exact ⟨j + 1, by omega, int_eq' (by omega), HS9⟩ | ((repeat apply Exists.intro); exact ⟨⟨j + 1, by omega, int_eq' (by omega), HS9⟩, rfl⟩)
      case measure => simp [intOf]; omega
    · obtain rfl : j = N := by omega
      go_wp2_with fail
      go_end0
      refine ⟨rfl, ?_, (HK.out.more (by simp)).trans HJ.out.2⟩
      rw [HQ2.out]
      have := HJ.out.1
      rwa [List.take_of_length_le (by rw [HNL.out]; exact Nat.le_refl _)] at this
set_option maxRecDepth 100000 in
set_option maxHeartbeats 4000000 in
theorem rput_tgw (r : Nat) (room : Int) (acc : List Int) (g xx xy yx yy dx dy : Int) (w : World) (h : RWt w r room acc) (hfit : fitsM xx xy yx yy = true) (hg : 0 ≤ g ∧ g < 65536) (hA : -32768 ≤ dx ∧ dx < 65536) (hB : -32768 ≤ dy ∧ dy < 65536) (hY : bothB dx dy (-128) 127 = false) (hn : (acc.length : Int) + 16 ≤ room) (hr : room ≤ 1073741824) :
    Calls Tryz.prog 30 #[.pointer (some ⟨r, 0, none⟩), ptV (⟨g, xx, xy, yx, yy, false, dx, dy, true, 0, 0⟩ : Pt), .bool true] w fun e w' => e = .returned (.tuple #[]) ∧ RWt w' r room (acc ++ putM (⟨g, xx, xy, yx, yy, false, dx, dy, true, 0, 0⟩ : Pt) true) ∧ Kp [r] w w' := by
  have HQ : Hid (putM (⟨g, xx, xy, yx, yy, false, dx, dy, true, 0, 0⟩ : Pt) true = bytesN 2 (mflag xx xy yx yy + 2051 + 32) ++ bytesN 2 g ++ bytesN 2 dx ++ bytesN 2 dy ++ (mnums xx xy yx yy).flatMap (bytesN 2)) := by
    show _ = _; rw [show mflag xx xy yx yy + 2051 + 32 = mflag xx xy yx yy + 2050 + 32 + 1 by omega]; simp only [putM, flagsM, lenN, tinyB, tflag, numA, numB, hY]; rfl
  have HN := Lib.hid (mnums_in xx xy yx yy hfit)
  have hNL := mnums_len xx xy yx yy
  have HF := Lib.hid (or_sumR _ (mflag_cases xx xy yx yy) 2051 (by simp))
  have HFC := Lib.hid (mflag_cases xx xy yx yy)
  rw [show ptV (⟨g, xx, xy, yx, yy, false, dx, dy, true, 0, 0⟩ : Pt) = .agg #[.int .i64 g, .int .i64 xx, .int .i64 xy, .int .i64 yx, .int .i64 yy, .bool false, .int .i64 dx, .int .i64 dy, .bool true, .int .i64 0, .int .i64 0] from rfl]
  obtain ⟨hg0, hg1⟩ := hg
  obtain ⟨hA0, hA1⟩ := hA
  obtain ⟨hB0, hB1⟩ := hB
  have HW := Lib.hid h
  have hrw : r < w.heap.size := h.lt
  have HY := Lib.hid hY
  have hblk := heap_alloc_new w (.cells #[.int .i64 g, .int .i64 xx, .int .i64 xy, .int .i64 yx, .int .i64 yy, .bool false, .int .i64 dx, .int .i64 dy, .bool true, .int .i64 0, .int .i64 0] 34)
  have hk02 : Kp [] w (w.alloc (.cells #[.int .i64 g, .int .i64 xx, .int .i64 xy, .int .i64 yx, .int .i64 yy, .bool false, .int .i64 dx, .int .i64 dy, .bool true, .int .i64 0, .int .i64 0] 34)) := (Kp.refl _ _).alloc _
  clear hY hfit h
  go_enter Tryz.func30, Tryz.ntmps30
  go_wp2_with fail
  have c00 := hblk
  generalize hw1 : w.alloc (.cells #[.int .i64 g, .int .i64 xx, .int .i64 xy, .int .i64 yx, .int .i64 yy, .bool false, .int .i64 dx, .int .i64 dy, .bool true, .int .i64 0, .int .i64 0] 34) = w1 at *
  have hsz : w.heap.size < w1.heap.size := by rw [← hw1]; simp
  clear hw1 c00
  generalize hBv : w.heap.size = B at *
  have HBv := Lib.hid hBv
  have HBL := Lib.hid hblk
  have HK := Lib.hid hk02
  clear hBv hblk hk02
  have c0 := cell_of_row _ B 0 _ _ _ HBL.out
  have c1 := cell_of_row _ B 1 _ _ _ HBL.out
  have c2 := cell_of_row _ B 2 _ _ _ HBL.out
  have c3 := cell_of_row _ B 3 _ _ _ HBL.out
  have c4 := cell_of_row _ B 4 _ _ _ HBL.out
  have c5 := cell_of_row _ B 5 _ _ _ HBL.out
  have c6 := cell_of_row _ B 6 _ _ _ HBL.out
  have c7 := cell_of_row _ B 7 _ _ _ HBL.out
  have c8 := cell_of_row _ B 8 _ _ _ HBL.out
  have c9 := cell_of_row _ B 9 _ _ _ HBL.out
  have c10 := cell_of_row _ B 10 _ _ _ HBL.out
  simp only [List.getElem?_toArray, List.getElem?_cons_succ, List.getElem?_cons_zero] at c0 c1 c2 c3 c4 c5 c6 c7 c8 c9 c10
  have hy : dx < -128 ∨ 128 ≤ dx ∨ dy < -128 ∨ 128 ≤ dy := by
    have h := HY.out; unfold bothB at h
    simp only [Bool.and_eq_true, decide_eq_true_eq, Bool.and_eq_false_iff, decide_eq_false_iff_not] at h
    omega
  obtain ⟨s1, s2, s3, s4, s5⟩ := or_start
  go_quiet (fail)
  have hq : Kp [] w1 (w1.drewN nq) := (Kp.refl _ _).drewN _
  replace HBL := Lib.hid (hq.heap HBL.out (by simp))
  replace HK := Lib.hid ((HK.out : Kp [] w w1).trans hq)
  replace hsz : B < (w1.drewN nq).heap.size := hsz
  clear hq c0 c1 c2 c3 c4 c5 c6 c7 c8 c9 c10
  generalize w1.drewN nq = w9 at *
  have c0 := cell_of_row _ B 0 _ _ _ HBL.out
  have c1 := cell_of_row _ B 1 _ _ _ HBL.out
  have c2 := cell_of_row _ B 2 _ _ _ HBL.out
  have c3 := cell_of_row _ B 3 _ _ _ HBL.out
  have c4 := cell_of_row _ B 4 _ _ _ HBL.out
  have c5 := cell_of_row _ B 5 _ _ _ HBL.out
  have c6 := cell_of_row _ B 6 _ _ _ HBL.out
  have c7 := cell_of_row _ B 7 _ _ _ HBL.out
  have c8 := cell_of_row _ B 8 _ _ _ HBL.out
  have c9 := cell_of_row _ B 9 _ _ _ HBL.out
  have c10 := cell_of_row _ B 10 _ _ _ HBL.out
  simp only [List.getElem?_toArray, List.getElem?_cons_succ, List.getElem?_cons_zero] at c0 c1 c2 c3 c4 c5 c6 c7 c8 c9 c10
  go_wp2_with fail
  go_quiet (fail)
  have hq : Kp [] w9 (w9.drewN nq) := (Kp.refl _ _).drewN _
  replace HBL := Lib.hid (hq.heap HBL.out (by simp))
  replace HK := Lib.hid ((HK.out : Kp [] w w9).trans hq)
  replace hsz : B < (w9.drewN nq).heap.size := hsz
  clear hq c0 c1 c2 c3 c4 c5 c6 c7 c8 c9 c10
  generalize w9.drewN nq = w2 at *
  have c0 := cell_of_row _ B 0 _ _ _ HBL.out
  have c1 := cell_of_row _ B 1 _ _ _ HBL.out
  have c2 := cell_of_row _ B 2 _ _ _ HBL.out
  have c3 := cell_of_row _ B 3 _ _ _ HBL.out
  have c4 := cell_of_row _ B 4 _ _ _ HBL.out
  have c5 := cell_of_row _ B 5 _ _ _ HBL.out
  have c6 := cell_of_row _ B 6 _ _ _ HBL.out
  have c7 := cell_of_row _ B 7 _ _ _ HBL.out
  have c8 := cell_of_row _ B 8 _ _ _ HBL.out
  have c9 := cell_of_row _ B 9 _ _ _ HBL.out
  have c10 := cell_of_row _ B 10 _ _ _ HBL.out
  simp only [List.getElem?_toArray, List.getElem?_cons_succ, List.getElem?_cons_zero] at c0 c1 c2 c3 c4 c5 c6 c7 c8 c9 c10

  go_upto_region 5 with fail
  go_cut [9] (fun s9 wx => s9 = .bool false ∧ w2 = wx)
  case first =>
    go_wp2_with fail
    all_goals
      go_meet
      first | exact ⟨rfl, rfl⟩ | exact ⟨congrArg Value.bool (decide_eq_true (by omega)), rfl⟩ | exact ⟨congrArg Value.bool (decide_eq_false (by omega)), rfl⟩
  obtain ⟨rfl, rfl⟩ := hcut
  clear hy
  go_upto_block 0 with fail
  obtain ⟨E, hE⟩ : ∃ E, mflag xx xy yx yy + 2051 = E := ⟨_, rfl⟩
  have HE : Hid (mflag xx xy yx yy + 2051 = E) := hE
  have hE0 : 0 ≤ E := by have := HFC.out; omega
  have hE1 : E ≤ 10000 := by have := HFC.out; omega
  have h32 : bits .or .i64 E 32 = E + 32 := by rw [← hE]; exact HF.out.2
  clear hE
  go_cut [6, 10] (fun s6 s10 wx => s6 = .int .i64 E ∧ ∃ p c, s10 = .slice p (mnums xx xy yx yy).length c ∧ SwSt w2 wx B s10 (mnums xx xy yx yy))
  case first =>
    clear h32
    have HK3 := Lib.hid hsz
    obtain ⟨X, hX, hcmp⟩ := one_cmp xx xy yx yy
    have HX := Lib.hid hX
    clear hX
    have q0 := fun n : KW w2 => KW.cell c1 n
    have q1 := fun n : KW w2 => KW.cell c2 n
    have q2 := fun n : KW w2 => KW.cell c3 n
    have q3 := fun n : KW w2 => KW.cell c4 n
    go_wp2_with fail
    refine wp_region_kq (by kernel_rfl) (by kernel_rfl) ?_
    repeat (go_big_quiet_step ((go_at_call 11; exact Calls.kq (rone_calls _))))
    refine wpQuiet_nil ?_
    intro w3 hw'
    obtain ⟨⟨_, hkw3⟩, rfl⟩ := hw'
    have j1 := hkw3.cell c1 (by simp)
    have j2 := hkw3.cell c2 (by simp)
    have j3 := hkw3.cell c3 (by simp)
    have j4 := hkw3.cell c4 (by simp)
    clear hcmp q0 q1 q2 q3 c0 c1 c2 c3 c4 c5 c6 c7 c8 c9 c10
    cases X
    · have hn' : ¬ (xx = 16384 ∧ xy = 0 ∧ yx = 0 ∧ yy = 16384) := fun h => by have := HX.out.2 h; simp at this
      by_cases hbc : xy ≠ 0 ∨ yx ≠ 0
      · have hf : mflag xx xy yx yy = 128 := by unfold mflag; rw [if_neg hn', if_pos hbc]
        have hm : mnums xx xy yx yy = [xx, xy, yx, yy] := by unfold mnums; rw [if_neg hn', if_pos hbc]
        have HF2 := Lib.hid hf
        have HM2 := Lib.hid hm
        have hor : bits .or .i64 2051 128 = E := by have h := HF.out.1; have h2 := HE.out; rw [hf] at h h2; rw [h (by decide)]; exact h2
        clear HX hn' hf hm
        by_cases hb : xy = 0
        · have hc : yx ≠ 0 := by rcases hbc with h | h; exact absurd hb h; exact h
          clear hbc
          subst hb
          go_wp2_with fail
          go_region_held3 (fun w' => w'.cell? ⟨B, 1, none⟩ = some (.int .i64 xx) ∧ w'.cell? ⟨B, 2, none⟩ = some (.int .i64 0) ∧ w'.cell? ⟨B, 3, none⟩ = some (.int .i64 yx) ∧ w'.cell? ⟨B, 4, none⟩ = some (.int .i64 yy)) (first | go_keep | exact ⟨j1, j2, j3, j4⟩) (fail)
          all_goals
            go_wp2_with fail
            go_meet
            refine ⟨rfl, ?_⟩
            rw [HM2.out]
            exact ⟨_, _, rfl, IsInts.lit .i64 3 _ (by (repeat (first | exact Kp.refl _ _ | assumption | refine Kp.drew ?_ | refine Kp.drewN ?_ _ | refine Kp.alloc ?_ _ | (refine Kp.setCell ?_ (by first | (left; simp; done) | (right; simp; try omega)) _) | (refine Kp.trans' ?_ (by assumption) (by simp; try omega))))) _ _ (by simp [World.size_drew, World.drewN]) rfl (by decide), fun k hk => by (have h1 := hkw3.size; simp [World.size_drew, World.drewN] at hk ⊢; omega), by (repeat (first | exact Kp.refl _ _ | assumption | refine Kp.drew ?_ | refine Kp.drewN ?_ _ | refine Kp.alloc ?_ _ | (refine Kp.setCell ?_ (by first | (left; simp; done) | (right; simp; try omega)) _) | (refine Kp.trans' ?_ (by assumption) (by simp; try omega))))⟩
        · clear hbc
          go_wp2_with fail
          go_region_held3 (fun w' => w'.cell? ⟨B, 1, none⟩ = some (.int .i64 xx) ∧ w'.cell? ⟨B, 2, none⟩ = some (.int .i64 xy) ∧ w'.cell? ⟨B, 3, none⟩ = some (.int .i64 yx) ∧ w'.cell? ⟨B, 4, none⟩ = some (.int .i64 yy)) (first | go_keep | exact ⟨j1, j2, j3, j4⟩) (fail)
          all_goals
            go_wp2_with fail
            go_meet
            refine ⟨rfl, ?_⟩
            rw [HM2.out]
            exact ⟨_, _, rfl, IsInts.lit .i64 3 _ (by (repeat (first | exact Kp.refl _ _ | assumption | refine Kp.drew ?_ | refine Kp.drewN ?_ _ | refine Kp.alloc ?_ _ | (refine Kp.setCell ?_ (by first | (left; simp; done) | (right; simp; try omega)) _) | (refine Kp.trans' ?_ (by assumption) (by simp; try omega))))) _ _ (by simp [World.size_drew, World.drewN]) rfl (by decide), fun k hk => by (have h1 := hkw3.size; simp [World.size_drew, World.drewN] at hk ⊢; omega), by (repeat (first | exact Kp.refl _ _ | assumption | refine Kp.drew ?_ | refine Kp.drewN ?_ _ | refine Kp.alloc ?_ _ | (refine Kp.setCell ?_ (by first | (left; simp; done) | (right; simp; try omega)) _) | (refine Kp.trans' ?_ (by assumption) (by simp; try omega))))⟩
      · have hb : xy = 0 := by omega
        have hc : yx = 0 := by omega
        clear hbc
        subst hb; subst hc
        by_cases had : xx = yy
        · have hf : mflag xx 0 0 yy = 8 := by unfold mflag; rw [if_neg hn', if_neg (by simp), if_pos had]
          have hm : mnums xx 0 0 yy = [xx] := by unfold mnums; rw [if_neg hn', if_neg (by simp), if_pos had]
          have hor : bits .or .i64 2051 8 = E := by have h := HF.out.1; have h2 := HE.out; rw [hf] at h h2; rw [h (by decide)]; exact h2
          subst had
          have HM2 := Lib.hid hm
          clear HX hn' hf hm
          go_wp2_with fail
          go_region_held3 (fun w' => w'.cell? ⟨B, 1, none⟩ = some (.int .i64 xx) ∧ w'.cell? ⟨B, 2, none⟩ = some (.int .i64 0) ∧ w'.cell? ⟨B, 3, none⟩ = some (.int .i64 0) ∧ w'.cell? ⟨B, 4, none⟩ = some (.int .i64 xx)) (first | go_keep | exact ⟨j1, j2, j3, j4⟩) (fail)
          all_goals
            go_wp2_with fail
            go_meet
            refine ⟨rfl, ?_⟩
            rw [HM2.out]
            exact ⟨_, _, rfl, IsInts.lit .i64 3 _ (by (repeat (first | exact Kp.refl _ _ | assumption | refine Kp.drew ?_ | refine Kp.drewN ?_ _ | refine Kp.alloc ?_ _ | (refine Kp.setCell ?_ (by first | (left; simp; done) | (right; simp; try omega)) _) | (refine Kp.trans' ?_ (by assumption) (by simp; try omega))))) _ _ (by simp [World.size_drew, World.drewN]) rfl (by decide), fun k hk => by (have h1 := hkw3.size; simp [World.size_drew, World.drewN] at hk ⊢; omega), by (repeat (first | exact Kp.refl _ _ | assumption | refine Kp.drew ?_ | refine Kp.drewN ?_ _ | refine Kp.alloc ?_ _ | (refine Kp.setCell ?_ (by first | (left; simp; done) | (right; simp; try omega)) _) | (refine Kp.trans' ?_ (by assumption) (by simp; try omega))))⟩
        · have hf : mflag xx 0 0 yy = 64 := by unfold mflag; rw [if_neg hn', if_neg (by simp), if_neg had]
          have hm : mnums xx 0 0 yy = [xx, yy] := by unfold mnums; rw [if_neg hn', if_neg (by simp), if_neg had]
          have hor : bits .or .i64 2051 64 = E := by have h := HF.out.1; have h2 := HE.out; rw [hf] at h h2; rw [h (by decide)]; exact h2
          have HM2 := Lib.hid hm
          clear HX hn' hf hm
          go_wp2_with fail
          go_region_held3 (fun w' => w'.cell? ⟨B, 1, none⟩ = some (.int .i64 xx) ∧ w'.cell? ⟨B, 2, none⟩ = some (.int .i64 0) ∧ w'.cell? ⟨B, 3, none⟩ = some (.int .i64 0) ∧ w'.cell? ⟨B, 4, none⟩ = some (.int .i64 yy)) (first | go_keep | exact ⟨j1, j2, j3, j4⟩) (fail)
          all_goals
            go_wp2_with fail
            go_meet
            refine ⟨rfl, ?_⟩
            rw [HM2.out]
            exact ⟨_, _, rfl, IsInts.lit .i64 3 _ (by (repeat (first | exact Kp.refl _ _ | assumption | refine Kp.drew ?_ | refine Kp.drewN ?_ _ | refine Kp.alloc ?_ _ | (refine Kp.setCell ?_ (by first | (left; simp; done) | (right; simp; try omega)) _) | (refine Kp.trans' ?_ (by assumption) (by simp; try omega))))) _ _ (by simp [World.size_drew, World.drewN]) rfl (by decide), fun k hk => by (have h1 := hkw3.size; simp [World.size_drew, World.drewN] at hk ⊢; omega), by (repeat (first | exact Kp.refl _ _ | assumption | refine Kp.drew ?_ | refine Kp.drewN ?_ _ | refine Kp.alloc ?_ _ | (refine Kp.setCell ?_ (by first | (left; simp; done) | (right; simp; try omega)) _) | (refine Kp.trans' ?_ (by assumption) (by simp; try omega))))⟩
    · obtain ⟨rfl, rfl, rfl, rfl⟩ := HX.out.1 rfl
      clear HX
      go_wp2_with fail
      go_meet
      have hE2 : E = 2051 := HE.out.symm
      subst hE2
      exact ⟨rfl, _, _, rfl, IsInts.nil _ _, by simp, by (repeat (first | exact Kp.refl _ _ | assumption | refine Kp.drew ?_ | refine Kp.drewN ?_ _ | refine Kp.alloc ?_ _ | (refine Kp.setCell ?_ (by first | (left; simp; done) | (right; simp; try omega)) _) | (refine Kp.trans' ?_ (by assumption) (by simp; try omega))))⟩
  obtain ⟨rfl, np, nc, rfl, hI, hge, hkc⟩ := hcut
  have H3 : Hid (RWt wc r room acc) := HW.out.kp0 (HK.out.trans hkc)
  replace HBL := Lib.hid (hkc.heap HBL.out (by simp))
  replace HK := Lib.hid (HK.out.trans hkc)
  replace hsz : B < wc.heap.size := by have := hkc.size; omega
  rw [HE.out] at HQ
  clear HE HFC HF HY hkc
  generalize mnums xx xy yx yy = nums at *
  obtain ⟨N, hN⟩ : ∃ N, nums.length = N := ⟨_, rfl⟩
  have HNL := Lib.hid hN
  rw [hN] at hNL hI hge ⊢
  have HI := Lib.hid hI
  have HGE := Lib.hid hge
  clear hI hge hN c0 c1 c2 c3 c4 c5 c6 c7 c8 c9 c10 s1 s2 s3 s4 s5
  have hBr : B ∉ [r] := by simp; omega
  go_wp2_with fail
  refine (rwu2_calls r room acc (E + 32) (by omega) (by omega) _ H3.out (by omega) (by omega)).mono ?_; rintro e w5 ⟨rfl, h5, hk5⟩
  have H5 := Lib.hid h5
  have HK5 : Hid (Kp [r] wc w5) := hk5
  have c0 := cell_of_row _ B 0 _ _ _ (hk5.heap HBL.out hBr)
  simp only [List.getElem?_toArray, List.getElem?_cons_zero] at c0
  clear h5 hk5 h32
  go_wp2_with fail
  refine (rwu2_calls r room (acc ++ bytesN 2 (E + 32)) g (by omega) (by omega) _ H5.out (by simp [bytesN_length]; omega) (by omega)).mono ?_; rintro e w6 ⟨rfl, h6, hk6⟩
  have H6 := Lib.hid h6
  have HK6 : Hid (Kp [r] wc w6) := HK5.out.trans hk6
  clear h6 hk6 c0
  go_wp2_with fail
  refine (rwu2_calls r room (acc ++ bytesN 2 (E + 32) ++ bytesN 2 g) dx (by omega) (by omega) _ H6.out (by simp [bytesN_length]; omega) (by omega)).mono ?_; rintro e w7 ⟨rfl, h7, hk7⟩
  have H7 := Lib.hid h7
  have HK7 : Hid (Kp [r] wc w7) := HK6.out.trans hk7
  clear h7 hk7
  go_wp2_with fail
  refine (rwu2_calls r room (acc ++ bytesN 2 (E + 32) ++ bytesN 2 g ++ bytesN 2 dx) dy (by omega) (by omega) _ H7.out (by simp [bytesN_length]; omega) (by omega)).mono ?_; rintro e w8 ⟨rfl, h8, hk8⟩
  have H8 := Lib.hid h8
  have HK8 : Hid (Kp [r] wc w8) := HK7.out.trans hk8
  clear h8 hk8 HK5 HK6 HK7 H5 H6 H7 H3
  obtain ⟨D, hD⟩ : ∃ D, acc ++ bytesN 2 (E + 32) ++ bytesN 2 g ++ bytesN 2 dx ++ bytesN 2 dy = D := ⟨_, rfl⟩
  have HQ2 : Hid (acc ++ putM (⟨g, xx, xy, yx, yy, false, dx, dy, true, 0, 0⟩ : Pt) true = D ++ nums.flatMap (bytesN 2)) := by
    show _ = _; rw [HQ.out, ← hD]; simp only [List.append_assoc]
  have hDl : D.length ≤ acc.length + 8 := by rw [← hD]; simp [bytesN_length]
  rw [hD] at H8
  clear hD HQ
  go_wp2_with fail
  go_loopw [12] (fun i wr => ∃ j : Nat, j ≤ N ∧ i = .int .i64 j ∧ Hid (RWt wr r room (D ++ (nums.take j).flatMap (bytesN 2)) ∧ Kp [r] wc wr)) (fun i _ => N - (intOf i).toNat)
  case atStart => exact ⟨0, by omega, rfl, by simpa using H8.out, HK8.out⟩
  case round =>
    obtain ⟨j, hj, rfl, HJ⟩ := hrel
    clear H8 HK8
    by_cases hlt : j < N
    · have hI := HI.out.kp HJ.out.2 (fun t ht e => by have h1 := HGE.out t e; simp at ht; omega)
      have hC : ∃ q off, np = some ⟨q, off, none⟩ ∧ wr.cell? ⟨q, off + j, none⟩ = some (.int .i64 (nums.getD j 0)) := by
        rcases hI with ⟨⟨a, e⟩, e0⟩ | ⟨q, off, c, e, _, _, h3⟩
        · have := HNL.out; rw [e0] at this; simp at this; omega
        · cases e; exact ⟨q, off, rfl, h3 j (by rw [HNL.out]; exact hlt)⟩
      obtain ⟨q, off, rfl, hc⟩ := hC
      have hx := HN.out (nums.getD j 0) (by rw [List.getD_eq_getElem?_getD, List.getElem?_eq_getElem (by rw [HNL.out]; exact hlt)]; exact List.getElem_mem _)
      have hsn : Hid (D ++ (nums.take (j + 1)).flatMap (bytesN 2) = D ++ (nums.take j).flatMap (bytesN 2) ++ bytesN 2 (nums.getD j 0)) := by
        show _ = _; rw [flat_snoc nums j (by rw [HNL.out]; exact hlt), List.append_assoc]
      have hln : (D ++ (nums.take j).flatMap (bytesN 2)).length ≤ acc.length + 14 := by
        rw [List.length_append, flat2_len, List.length_take]; omega
      generalize nums.getD j 0 = x at *
      generalize D ++ (nums.take j).flatMap (bytesN 2) = ac at *
      obtain ⟨hx0, hx1⟩ := hx
      clear hI
      go_wp2_with fail
      refine (rwu2_calls r room ac x (by omega) (by omega) _ HJ.out.1 (by omega) (by omega)).mono ?_; rintro e w9 ⟨rfl, h9, hk9⟩
      have HS9 : Hid (RWt w9 r room (D ++ (nums.take (j + 1)).flatMap (bytesN 2)) ∧ Kp [r] wc w9) := ⟨by rw [hsn.out]; exact h9, HJ.out.2.trans hk9⟩
      clear h9 hk9 hc
      go_wp2_with fail
      go_roundw
      case rel => first | exact ⟨j + 1, by omega, int_eq' (by omega), HS9⟩ | ((repeat apply Exists.intro); exact ⟨⟨j + 1, by omega, int_eq' (by omega), HS9⟩, rfl⟩)
      case measure => simp [intOf]; omega
    · obtain rfl : j = N := by omega
      go_wp2_with fail
      go_end0
      refine ⟨rfl, ?_, (HK.out.more (by simp)).trans HJ.out.2⟩
      rw [HQ2.out]
      have := HJ.out.1
      rwa [List.take_of_length_le (by rw [HNL.out]; exact Nat.le_refl _)] at this
set_option maxRecDepth 100000 in
set_option maxHeartbeats 4000000 in
theorem rput_tny (r : Nat) (room : Int) (acc : List Int) (g xx xy yx yy dx dy : Int) (w : World) (h : RWt w r room acc) (hfit : fitsM xx xy yx yy = true) (hg : 0 ≤ g ∧ g < 65536) (hA : -32768 ≤ dx ∧ dx < 65536) (hB : -32768 ≤ dy ∧ dy < 65536) (hY : bothB dx dy (-128) 127 = true) (hn : (acc.length : Int) + 16 ≤ room) (hr : room ≤ 1073741824) :
    Calls Tryz.prog 30 #[.pointer (some ⟨r, 0, none⟩), ptV (⟨g, xx, xy, yx, yy, false, dx, dy, true, 0, 0⟩ : Pt), .bool false] w fun e w' => e = .returned (.tuple #[]) ∧ RWt w' r room (acc ++ putM (⟨g, xx, xy, yx, yy, false, dx, dy, true, 0, 0⟩ : Pt) false) ∧ Kp [r] w w' := by
  have HQ : Hid (putM (⟨g, xx, xy, yx, yy, false, dx, dy, true, 0, 0⟩ : Pt) false = bytesN 2 (mflag xx xy yx yy + 2050) ++ bytesN 2 g ++ bytesN 1 dx ++ bytesN 1 dy ++ (mnums xx xy yx yy).flatMap (bytesN 2)) := by
    show _ = _; rw [show mflag xx xy yx yy + 2050 = mflag xx xy yx yy + 2050 + 0 + 0 by omega]; simp only [putM, flagsM, lenN, tinyB, tflag, numA, numB, hY]; rfl
  have HN := Lib.hid (mnums_in xx xy yx yy hfit)
  have hNL := mnums_len xx xy yx yy
  have HF := Lib.hid (or_sumR _ (mflag_cases xx xy yx yy) 2050 (by simp))
  have HFC := Lib.hid (mflag_cases xx xy yx yy)
  rw [show ptV (⟨g, xx, xy, yx, yy, false, dx, dy, true, 0, 0⟩ : Pt) = .agg #[.int .i64 g, .int .i64 xx, .int .i64 xy, .int .i64 yx, .int .i64 yy, .bool false, .int .i64 dx, .int .i64 dy, .bool true, .int .i64 0, .int .i64 0] from rfl]
  obtain ⟨hg0, hg1⟩ := hg
  obtain ⟨hA0, hA1⟩ := hA
  obtain ⟨hB0, hB1⟩ := hB
  have HW := Lib.hid h
  have hrw : r < w.heap.size := h.lt
  have HY := Lib.hid hY
  have hblk := heap_alloc_new w (.cells #[.int .i64 g, .int .i64 xx, .int .i64 xy, .int .i64 yx, .int .i64 yy, .bool false, .int .i64 dx, .int .i64 dy, .bool true, .int .i64 0, .int .i64 0] 34)
  have hk02 : Kp [] w (w.alloc (.cells #[.int .i64 g, .int .i64 xx, .int .i64 xy, .int .i64 yx, .int .i64 yy, .bool false, .int .i64 dx, .int .i64 dy, .bool true, .int .i64 0, .int .i64 0] 34)) := (Kp.refl _ _).alloc _
  clear hY hfit h
  go_enter Tryz.func30, Tryz.ntmps30
  go_wp2_with fail
  have c00 := hblk
  generalize hw1 : w.alloc (.cells #[.int .i64 g, .int .i64 xx, .int .i64 xy, .int .i64 yx, .int .i64 yy, .bool false, .int .i64 dx, .int .i64 dy, .bool true, .int .i64 0, .int .i64 0] 34) = w1 at *
  have hsz : w.heap.size < w1.heap.size := by rw [← hw1]; simp
  clear hw1 c00
  generalize hBv : w.heap.size = B at *
  have HBv := Lib.hid hBv
  have HBL := Lib.hid hblk
  have HK := Lib.hid hk02
  clear hBv hblk hk02
  have c0 := cell_of_row _ B 0 _ _ _ HBL.out
  have c1 := cell_of_row _ B 1 _ _ _ HBL.out
  have c2 := cell_of_row _ B 2 _ _ _ HBL.out
  have c3 := cell_of_row _ B 3 _ _ _ HBL.out
  have c4 := cell_of_row _ B 4 _ _ _ HBL.out
  have c5 := cell_of_row _ B 5 _ _ _ HBL.out
  have c6 := cell_of_row _ B 6 _ _ _ HBL.out
  have c7 := cell_of_row _ B 7 _ _ _ HBL.out
  have c8 := cell_of_row _ B 8 _ _ _ HBL.out
  have c9 := cell_of_row _ B 9 _ _ _ HBL.out
  have c10 := cell_of_row _ B 10 _ _ _ HBL.out
  simp only [List.getElem?_toArray, List.getElem?_cons_succ, List.getElem?_cons_zero] at c0 c1 c2 c3 c4 c5 c6 c7 c8 c9 c10
  have hy : -128 ≤ dx ∧ dx < 128 ∧ -128 ≤ dy ∧ dy < 128 := by
    have h := HY.out; unfold bothB at h
    simp only [Bool.and_eq_true, decide_eq_true_eq, Bool.and_eq_false_iff, decide_eq_false_iff_not] at h
    omega
  obtain ⟨s1, s2, s3, s4, s5⟩ := or_start
  go_quiet (fail)
  have hq : Kp [] w1 (w1.drewN nq) := (Kp.refl _ _).drewN _
  replace HBL := Lib.hid (hq.heap HBL.out (by simp))
  replace HK := Lib.hid ((HK.out : Kp [] w w1).trans hq)
  replace hsz : B < (w1.drewN nq).heap.size := hsz
  clear hq c0 c1 c2 c3 c4 c5 c6 c7 c8 c9 c10
  generalize w1.drewN nq = w9 at *
  have c0 := cell_of_row _ B 0 _ _ _ HBL.out
  have c1 := cell_of_row _ B 1 _ _ _ HBL.out
  have c2 := cell_of_row _ B 2 _ _ _ HBL.out
  have c3 := cell_of_row _ B 3 _ _ _ HBL.out
  have c4 := cell_of_row _ B 4 _ _ _ HBL.out
  have c5 := cell_of_row _ B 5 _ _ _ HBL.out
  have c6 := cell_of_row _ B 6 _ _ _ HBL.out
  have c7 := cell_of_row _ B 7 _ _ _ HBL.out
  have c8 := cell_of_row _ B 8 _ _ _ HBL.out
  have c9 := cell_of_row _ B 9 _ _ _ HBL.out
  have c10 := cell_of_row _ B 10 _ _ _ HBL.out
  simp only [List.getElem?_toArray, List.getElem?_cons_succ, List.getElem?_cons_zero] at c0 c1 c2 c3 c4 c5 c6 c7 c8 c9 c10
  go_wp2_with fail
  go_quiet (fail)
  have hq : Kp [] w9 (w9.drewN nq) := (Kp.refl _ _).drewN _
  replace HBL := Lib.hid (hq.heap HBL.out (by simp))
  replace HK := Lib.hid ((HK.out : Kp [] w w9).trans hq)
  replace hsz : B < (w9.drewN nq).heap.size := hsz
  clear hq c0 c1 c2 c3 c4 c5 c6 c7 c8 c9 c10
  generalize w9.drewN nq = w2 at *
  have c0 := cell_of_row _ B 0 _ _ _ HBL.out
  have c1 := cell_of_row _ B 1 _ _ _ HBL.out
  have c2 := cell_of_row _ B 2 _ _ _ HBL.out
  have c3 := cell_of_row _ B 3 _ _ _ HBL.out
  have c4 := cell_of_row _ B 4 _ _ _ HBL.out
  have c5 := cell_of_row _ B 5 _ _ _ HBL.out
  have c6 := cell_of_row _ B 6 _ _ _ HBL.out
  have c7 := cell_of_row _ B 7 _ _ _ HBL.out
  have c8 := cell_of_row _ B 8 _ _ _ HBL.out
  have c9 := cell_of_row _ B 9 _ _ _ HBL.out
  have c10 := cell_of_row _ B 10 _ _ _ HBL.out
  simp only [List.getElem?_toArray, List.getElem?_cons_succ, List.getElem?_cons_zero] at c0 c1 c2 c3 c4 c5 c6 c7 c8 c9 c10

  go_upto_region 5 with fail
  go_cut [9] (fun s9 wx => s9 = .bool true ∧ w2 = wx)
  case first =>
    go_wp2_with fail
    all_goals
      go_meet
      first | exact ⟨rfl, rfl⟩ | exact ⟨congrArg Value.bool (decide_eq_true (by omega)), rfl⟩ | exact ⟨congrArg Value.bool (decide_eq_false (by omega)), rfl⟩
  obtain ⟨rfl, rfl⟩ := hcut
  clear hy
  go_upto_block 0 with fail
  obtain ⟨E, hE⟩ : ∃ E, mflag xx xy yx yy + 2050 = E := ⟨_, rfl⟩
  have HE : Hid (mflag xx xy yx yy + 2050 = E) := hE
  have hE0 : 0 ≤ E := by have := HFC.out; omega
  have hE1 : E ≤ 10000 := by have := HFC.out; omega
  have h32 : bits .or .i64 E 32 = E + 32 := by rw [← hE]; exact HF.out.2
  clear hE
  go_cut [6, 10] (fun s6 s10 wx => s6 = .int .i64 E ∧ ∃ p c, s10 = .slice p (mnums xx xy yx yy).length c ∧ SwSt w2 wx B s10 (mnums xx xy yx yy))
  case first =>
    clear h32
    have HK3 := Lib.hid hsz
    obtain ⟨X, hX, hcmp⟩ := one_cmp xx xy yx yy
    have HX := Lib.hid hX
    clear hX
    have q0 := fun n : KW w2 => KW.cell c1 n
    have q1 := fun n : KW w2 => KW.cell c2 n
    have q2 := fun n : KW w2 => KW.cell c3 n
    have q3 := fun n : KW w2 => KW.cell c4 n
    go_wp2_with fail
    refine wp_region_kq (by kernel_rfl) (by kernel_rfl) ?_
    repeat (go_big_quiet_step ((go_at_call 11; exact Calls.kq (rone_calls _))))
    refine wpQuiet_nil ?_
    intro w3 hw'
    obtain ⟨⟨_, hkw3⟩, rfl⟩ := hw'
    have j1 := hkw3.cell c1 (by simp)
    have j2 := hkw3.cell c2 (by simp)
    have j3 := hkw3.cell c3 (by simp)
    have j4 := hkw3.cell c4 (by simp)
    clear hcmp q0 q1 q2 q3 c0 c1 c2 c3 c4 c5 c6 c7 c8 c9 c10
    cases X
    · have hn' : ¬ (xx = 16384 ∧ xy = 0 ∧ yx = 0 ∧ yy = 16384) := fun h => by have := HX.out.2 h; simp at this
      by_cases hbc : xy ≠ 0 ∨ yx ≠ 0
      · have hf : mflag xx xy yx yy = 128 := by unfold mflag; rw [if_neg hn', if_pos hbc]
        have hm : mnums xx xy yx yy = [xx, xy, yx, yy] := by unfold mnums; rw [if_neg hn', if_pos hbc]
        have HF2 := Lib.hid hf
        have HM2 := Lib.hid hm
        have hor : bits .or .i64 2050 128 = E := by have h := HF.out.1; have h2 := HE.out; rw [hf] at h h2; rw [h (by decide)]; exact h2
        clear HX hn' hf hm
        by_cases hb : xy = 0
        · have hc : yx ≠ 0 := by rcases hbc with h | h; exact absurd hb h; exact h
          clear hbc
          subst hb
          go_wp2_with fail
          go_region_held3 (fun w' => w'.cell? ⟨B, 1, none⟩ = some (.int .i64 xx) ∧ w'.cell? ⟨B, 2, none⟩ = some (.int .i64 0) ∧ w'.cell? ⟨B, 3, none⟩ = some (.int .i64 yx) ∧ w'.cell? ⟨B, 4, none⟩ = some (.int .i64 yy)) (first | go_keep | exact ⟨j1, j2, j3, j4⟩) (fail)
          all_goals
            go_wp2_with fail
            go_meet
            refine ⟨rfl, ?_⟩
            rw [HM2.out]
            exact ⟨_, _, rfl, IsInts.lit .i64 3 _ (by (repeat (first | exact Kp.refl _ _ | assumption | refine Kp.drew ?_ | refine Kp.drewN ?_ _ | refine Kp.alloc ?_ _ | (refine Kp.setCell ?_ (by first | (left; simp; done) | (right; simp; try omega)) _) | (refine Kp.trans' ?_ (by assumption) (by simp; try omega))))) _ _ (by simp [World.size_drew, World.drewN]) rfl (by decide), fun k hk => by (have h1 := hkw3.size; simp [World.size_drew, World.drewN] at hk ⊢; omega), by (repeat (first | exact Kp.refl _ _ | assumption | refine Kp.drew ?_ | refine Kp.drewN ?_ _ | refine Kp.alloc ?_ _ | (refine Kp.setCell ?_ (by first | (left; simp; done) | (right; simp; try omega)) _) | (refine Kp.trans' ?_ (by assumption) (by simp; try omega))))⟩
        · clear hbc
          go_wp2_with fail
          go_region_held3 (fun w' => w'.cell? ⟨B, 1, none⟩ = some (.int .i64 xx) ∧ w'.cell? ⟨B, 2, none⟩ = some (.int .i64 xy) ∧ w'.cell? ⟨B, 3, none⟩ = some (.int .i64 yx) ∧ w'.cell? ⟨B, 4, none⟩ = some (.int .i64 yy)) (first | go_keep | exact ⟨j1, j2, j3, j4⟩) (fail)
          all_goals
            go_wp2_with fail
            go_meet
            refine ⟨rfl, ?_⟩
            rw [HM2.out]
            exact ⟨_, _, rfl, IsInts.lit .i64 3 _ (by (repeat (first | exact Kp.refl _ _ | assumption | refine Kp.drew ?_ | refine Kp.drewN ?_ _ | refine Kp.alloc ?_ _ | (refine Kp.setCell ?_ (by first | (left; simp; done) | (right; simp; try omega)) _) | (refine Kp.trans' ?_ (by assumption) (by simp; try omega))))) _ _ (by simp [World.size_drew, World.drewN]) rfl (by decide), fun k hk => by (have h1 := hkw3.size; simp [World.size_drew, World.drewN] at hk ⊢; omega), by (repeat (first | exact Kp.refl _ _ | assumption | refine Kp.drew ?_ | refine Kp.drewN ?_ _ | refine Kp.alloc ?_ _ | (refine Kp.setCell ?_ (by first | (left; simp; done) | (right; simp; try omega)) _) | (refine Kp.trans' ?_ (by assumption) (by simp; try omega))))⟩
      · have hb : xy = 0 := by omega
        have hc : yx = 0 := by omega
        clear hbc
        subst hb; subst hc
        by_cases had : xx = yy
        · have hf : mflag xx 0 0 yy = 8 := by unfold mflag; rw [if_neg hn', if_neg (by simp), if_pos had]
          have hm : mnums xx 0 0 yy = [xx] := by unfold mnums; rw [if_neg hn', if_neg (by simp), if_pos had]
          have hor : bits .or .i64 2050 8 = E := by have h := HF.out.1; have h2 := HE.out; rw [hf] at h h2; rw [h (by decide)]; exact h2
          subst had
          have HM2 := Lib.hid hm
          clear HX hn' hf hm
          go_wp2_with fail
          go_region_held3 (fun w' => w'.cell? ⟨B, 1, none⟩ = some (.int .i64 xx) ∧ w'.cell? ⟨B, 2, none⟩ = some (.int .i64 0) ∧ w'.cell? ⟨B, 3, none⟩ = some (.int .i64 0) ∧ w'.cell? ⟨B, 4, none⟩ = some (.int .i64 xx)) (first | go_keep | exact ⟨j1, j2, j3, j4⟩) (fail)
          all_goals
            go_wp2_with fail
            go_meet
            refine ⟨rfl, ?_⟩
            rw [HM2.out]
            exact ⟨_, _, rfl, IsInts.lit .i64 3 _ (by (repeat (first | exact Kp.refl _ _ | assumption | refine Kp.drew ?_ | refine Kp.drewN ?_ _ | refine Kp.alloc ?_ _ | (refine Kp.setCell ?_ (by first | (left; simp; done) | (right; simp; try omega)) _) | (refine Kp.trans' ?_ (by assumption) (by simp; try omega))))) _ _ (by simp [World.size_drew, World.drewN]) rfl (by decide), fun k hk => by (have h1 := hkw3.size; simp [World.size_drew, World.drewN] at hk ⊢; omega), by (repeat (first | exact Kp.refl _ _ | assumption | refine Kp.drew ?_ | refine Kp.drewN ?_ _ | refine Kp.alloc ?_ _ | (refine Kp.setCell ?_ (by first | (left; simp; done) | (right; simp; try omega)) _) | (refine Kp.trans' ?_ (by assumption) (by simp; try omega))))⟩
        · have hf : mflag xx 0 0 yy = 64 := by unfold mflag; rw [if_neg hn', if_neg (by simp), if_neg had]
          have hm : mnums xx 0 0 yy = [xx, yy] := by unfold mnums; rw [if_neg hn', if_neg (by simp), if_neg had]
          have hor : bits .or .i64 2050 64 = E := by have h := HF.out.1; have h2 := HE.out; rw [hf] at h h2; rw [h (by decide)]; exact h2
          have HM2 := Lib.hid hm
          clear HX hn' hf hm
          go_wp2_with fail
          go_region_held3 (fun w' => w'.cell? ⟨B, 1, none⟩ = some (.int .i64 xx) ∧ w'.cell? ⟨B, 2, none⟩ = some (.int .i64 0) ∧ w'.cell? ⟨B, 3, none⟩ = some (.int .i64 0) ∧ w'.cell? ⟨B, 4, none⟩ = some (.int .i64 yy)) (first | go_keep | exact ⟨j1, j2, j3, j4⟩) (fail)
          all_goals
            go_wp2_with fail
            go_meet
            refine ⟨rfl, ?_⟩
            rw [HM2.out]
            exact ⟨_, _, rfl, IsInts.lit .i64 3 _ (by (repeat (first | exact Kp.refl _ _ | assumption | refine Kp.drew ?_ | refine Kp.drewN ?_ _ | refine Kp.alloc ?_ _ | (refine Kp.setCell ?_ (by first | (left; simp; done) | (right; simp; try omega)) _) | (refine Kp.trans' ?_ (by assumption) (by simp; try omega))))) _ _ (by simp [World.size_drew, World.drewN]) rfl (by decide), fun k hk => by (have h1 := hkw3.size; simp [World.size_drew, World.drewN] at hk ⊢; omega), by (repeat (first | exact Kp.refl _ _ | assumption | refine Kp.drew ?_ | refine Kp.drewN ?_ _ | refine Kp.alloc ?_ _ | (refine Kp.setCell ?_ (by first | (left; simp; done) | (right; simp; try omega)) _) | (refine Kp.trans' ?_ (by assumption) (by simp; try omega))))⟩
    · obtain ⟨rfl, rfl, rfl, rfl⟩ := HX.out.1 rfl
      clear HX
      go_wp2_with fail
      go_meet
      have hE2 : E = 2050 := HE.out.symm
      subst hE2
      exact ⟨rfl, _, _, rfl, IsInts.nil _ _, by simp, by (repeat (first | exact Kp.refl _ _ | assumption | refine Kp.drew ?_ | refine Kp.drewN ?_ _ | refine Kp.alloc ?_ _ | (refine Kp.setCell ?_ (by first | (left; simp; done) | (right; simp; try omega)) _) | (refine Kp.trans' ?_ (by assumption) (by simp; try omega))))⟩
  obtain ⟨rfl, np, nc, rfl, hI, hge, hkc⟩ := hcut
  have H3 : Hid (RWt wc r room acc) := HW.out.kp0 (HK.out.trans hkc)
  replace HBL := Lib.hid (hkc.heap HBL.out (by simp))
  replace HK := Lib.hid (HK.out.trans hkc)
  replace hsz : B < wc.heap.size := by have := hkc.size; omega
  rw [HE.out] at HQ
  clear HE HFC HF HY hkc
  generalize mnums xx xy yx yy = nums at *
  obtain ⟨N, hN⟩ : ∃ N, nums.length = N := ⟨_, rfl⟩
  have HNL := Lib.hid hN
  rw [hN] at hNL hI hge ⊢
  have HI := Lib.hid hI
  have HGE := Lib.hid hge
  clear hI hge hN c0 c1 c2 c3 c4 c5 c6 c7 c8 c9 c10 s1 s2 s3 s4 s5
  have hBr : B ∉ [r] := by simp; omega
  go_wp2_with fail
  refine (rwu2_calls r room acc (E) (by omega) (by omega) _ H3.out (by omega) (by omega)).mono ?_; rintro e w5 ⟨rfl, h5, hk5⟩
  have H5 := Lib.hid h5
  have HK5 : Hid (Kp [r] wc w5) := hk5
  have c0 := cell_of_row _ B 0 _ _ _ (hk5.heap HBL.out hBr)
  simp only [List.getElem?_toArray, List.getElem?_cons_zero] at c0
  clear h5 hk5 h32
  go_wp2_with fail
  refine (rwu2_calls r room (acc ++ bytesN 2 (E)) g (by omega) (by omega) _ H5.out (by simp [bytesN_length]; omega) (by omega)).mono ?_; rintro e w6 ⟨rfl, h6, hk6⟩
  have H6 := Lib.hid h6
  have HK6 : Hid (Kp [r] wc w6) := HK5.out.trans hk6
  clear h6 hk6 c0
  go_wp2_with fail
  refine (rwu1_calls r room (acc ++ bytesN 2 (E) ++ bytesN 2 g) dx (by omega) (by omega) _ H6.out (by simp [bytesN_length]; omega) (by omega)).mono ?_; rintro e w7 ⟨rfl, h7, hk7⟩
  have H7 := Lib.hid h7
  have HK7 : Hid (Kp [r] wc w7) := HK6.out.trans hk7
  clear h7 hk7
  go_wp2_with fail
  refine (rwu1_calls r room (acc ++ bytesN 2 (E) ++ bytesN 2 g ++ bytesN 1 dx) dy (by omega) (by omega) _ H7.out (by simp [bytesN_length]; omega) (by omega)).mono ?_; rintro e w8 ⟨rfl, h8, hk8⟩
  have H8 := Lib.hid h8
  have HK8 : Hid (Kp [r] wc w8) := HK7.out.trans hk8
  clear h8 hk8 HK5 HK6 HK7 H5 H6 H7 H3
  obtain ⟨D, hD⟩ : ∃ D, acc ++ bytesN 2 (E) ++ bytesN 2 g ++ bytesN 1 dx ++ bytesN 1 dy = D := ⟨_, rfl⟩
  have HQ2 : Hid (acc ++ putM (⟨g, xx, xy, yx, yy, false, dx, dy, true, 0, 0⟩ : Pt) false = D ++ nums.flatMap (bytesN 2)) := by
    show _ = _; rw [HQ.out, ← hD]; simp only [List.append_assoc]
  have hDl : D.length ≤ acc.length + 8 := by rw [← hD]; simp [bytesN_length]
  rw [hD] at H8
  clear hD HQ
  go_wp2_with fail
  go_loopw [12] (fun i wr => ∃ j : Nat, j ≤ N ∧ i = .int .i64 j ∧ Hid (RWt wr r room (D ++ (nums.take j).flatMap (bytesN 2)) ∧ Kp [r] wc wr)) (fun i _ => N - (intOf i).toNat)
  case atStart => exact ⟨0, by omega, rfl, by simpa using H8.out, HK8.out⟩
  case round =>
    obtain ⟨j, hj, rfl, HJ⟩ := hrel
    clear H8 HK8
    by_cases hlt : j < N
    · have hI := HI.out.kp HJ.out.2 (fun t ht e => by have h1 := HGE.out t e; simp at ht; omega)
      have hC : ∃ q off, np = some ⟨q, off, none⟩ ∧ wr.cell? ⟨q, off + j, none⟩ = some (.int .i64 (nums.getD j 0)) := by
        rcases hI with ⟨⟨a, e⟩, e0⟩ | ⟨q, off, c, e, _, _, h3⟩
        · have := HNL.out; rw [e0] at this; simp at this; omega
        · cases e; exact ⟨q, off, rfl, h3 j (by rw [HNL.out]; exact hlt)⟩
      obtain ⟨q, off, rfl, hc⟩ := hC
      have hx := HN.out (nums.getD j 0) (by rw [List.getD_eq_getElem?_getD, List.getElem?_eq_getElem (by rw [HNL.out]; exact hlt)]; exact List.getElem_mem _)
      have hsn : Hid (D ++ (nums.take (j + 1)).flatMap (bytesN 2) = D ++ (nums.take j).flatMap (bytesN 2) ++ bytesN 2 (nums.getD j 0)) := by
        show _ = _; rw [flat_snoc nums j (by rw [HNL.out]; exact hlt), List.append_assoc]
      have hln : (D ++ (nums.take j).flatMap (bytesN 2)).length ≤ acc.length + 14 := by
        rw [List.length_append, flat2_len, List.length_take]; omega
      generalize nums.getD j 0 = x at *
      generalize D ++ (nums.take j).flatMap (bytesN 2) = ac at *
      obtain ⟨hx0, hx1⟩ := hx
      clear hI
      go_wp2_with fail
      refine (rwu2_calls r room ac x (by omega) (by omega) _ HJ.out.1 (by omega) (by omega)).mono ?_; rintro e w9 ⟨rfl, h9, hk9⟩
      have HS9 : Hid (RWt w9 r room (D ++ (nums.take (j + 1)).flatMap (bytesN 2)) ∧ Kp [r] wc w9) := ⟨by rw [hsn.out]; exact h9, HJ.out.2.trans hk9⟩
      clear h9 hk9 hc
      go_wp2_with fail
      go_roundw
      case rel => first | exact ⟨j + 1, by omega, int_eq' (by omega), HS9⟩ | ((repeat apply Exists.intro); exact ⟨⟨j + 1, by omega, int_eq' (by omega), HS9⟩, rfl⟩)
      case measure => simp [intOf]; omega
    · obtain rfl : j = N := by omega
      go_wp2_with fail
      go_end0
      refine ⟨rfl, ?_, (HK.out.more (by simp)).trans HJ.out.2⟩
      rw [HQ2.out]
      have := HJ.out.1
      rwa [List.take_of_length_le (by rw [HNL.out]; exact Nat.le_refl _)] at this
set_option maxRecDepth 100000 in
set_option maxHeartbeats 4000000 in
theorem rput_tnw (r : Nat) (room : Int) (acc : List Int) (g xx xy yx yy dx dy : Int) (w : World) (h : RWt w r room acc) (hfit : fitsM xx xy yx yy = true) (hg : 0 ≤ g ∧ g < 65536) (hA : -32768 ≤ dx ∧ dx < 65536) (hB : -32768 ≤ dy ∧ dy < 65536) (hY : bothB dx dy (-128) 127 = false) (hn : (acc.length : Int) + 16 ≤ room) (hr : room ≤ 1073741824) :
    Calls Tryz.prog 30 #[.pointer (some ⟨r, 0, none⟩), ptV (⟨g, xx, xy, yx, yy, false, dx, dy, true, 0, 0⟩ : Pt), .bool false] w fun e w' => e = .returned (.tuple #[]) ∧ RWt w' r room (acc ++ putM (⟨g, xx, xy, yx, yy, false, dx, dy, true, 0, 0⟩ : Pt) false) ∧ Kp [r] w w' := by
  have HQ : Hid (putM (⟨g, xx, xy, yx, yy, false, dx, dy, true, 0, 0⟩ : Pt) false = bytesN 2 (mflag xx xy yx yy + 2051) ++ bytesN 2 g ++ bytesN 2 dx ++ bytesN 2 dy ++ (mnums xx xy yx yy).flatMap (bytesN 2)) := by
    show _ = _; rw [show mflag xx xy yx yy + 2051 = mflag xx xy yx yy + 2050 + 0 + 1 by omega]; simp only [putM, flagsM, lenN, tinyB, tflag, numA, numB, hY]; rfl
  have HN := Lib.hid (mnums_in xx xy yx yy hfit)
  have hNL := mnums_len xx xy yx yy
  have HF := Lib.hid (or_sumR _ (mflag_cases xx xy yx yy) 2051 (by simp))
  have HFC := Lib.hid (mflag_cases xx xy yx yy)
  rw [show ptV (⟨g, xx, xy, yx, yy, false, dx, dy, true, 0, 0⟩ : Pt) = .agg #[.int .i64 g, .int .i64 xx, .int .i64 xy, .int .i64 yx, .int .i64 yy, .bool false, .int .i64 dx, .int .i64 dy, .bool true, .int .i64 0, .int .i64 0] from rfl]
  obtain ⟨hg0, hg1⟩ := hg
  obtain ⟨hA0, hA1⟩ := hA
  obtain ⟨hB0, hB1⟩ := hB
  have HW := Lib.hid h
  have hrw : r < w.heap.size := h.lt
  have HY := Lib.hid hY
  have hblk := heap_alloc_new w (.cells #[.int .i64 g, .int .i64 xx, .int .i64 xy, .int .i64 yx, .int .i64 yy, .bool false, .int .i64 dx, .int .i64 dy, .bool true, .int .i64 0, .int .i64 0] 34)
  have hk02 : Kp [] w (w.alloc (.cells #[.int .i64 g, .int .i64 xx, .int .i64 xy, .int .i64 yx, .int .i64 yy, .bool false, .int .i64 dx, .int .i64 dy, .bool true, .int .i64 0, .int .i64 0] 34)) := (Kp.refl _ _).alloc _
  clear hY hfit h
  go_enter Tryz.func30, Tryz.ntmps30
  go_wp2_with fail
  have c00 := hblk
  generalize hw1 : w.alloc (.cells #[.int .i64 g, .int .i64 xx, .int .i64 xy, .int .i64 yx, .int .i64 yy, .bool false, .int .i64 dx, .int .i64 dy, .bool true, .int .i64 0, .int .i64 0] 34) = w1 at *
  have hsz : w.heap.size < w1.heap.size := by rw [← hw1]; simp
  clear hw1 c00
  generalize hBv : w.heap.size = B at *
  have HBv := Lib.hid hBv
  have HBL := Lib.hid hblk
  have HK := Lib.hid hk02
  clear hBv hblk hk02
  have c0 := cell_of_row _ B 0 _ _ _ HBL.out
  have c1 := cell_of_row _ B 1 _ _ _ HBL.out
  have c2 := cell_of_row _ B 2 _ _ _ HBL.out
  have c3 := cell_of_row _ B 3 _ _ _ HBL.out
  have c4 := cell_of_row _ B 4 _ _ _ HBL.out
  have c5 := cell_of_row _ B 5 _ _ _ HBL.out
  have c6 := cell_of_row _ B 6 _ _ _ HBL.out
  have c7 := cell_of_row _ B 7 _ _ _ HBL.out
  have c8 := cell_of_row _ B 8 _ _ _ HBL.out
  have c9 := cell_of_row _ B 9 _ _ _ HBL.out
  have c10 := cell_of_row _ B 10 _ _ _ HBL.out
  simp only [List.getElem?_toArray, List.getElem?_cons_succ, List.getElem?_cons_zero] at c0 c1 c2 c3 c4 c5 c6 c7 c8 c9 c10
  have hy : dx < -128 ∨ 128 ≤ dx ∨ dy < -128 ∨ 128 ≤ dy := by
    have h := HY.out; unfold bothB at h
    simp only [Bool.and_eq_true, decide_eq_true_eq, Bool.and_eq_false_iff, decide_eq_false_iff_not] at h
    omega
  obtain ⟨s1, s2, s3, s4, s5⟩ := or_start
  go_quiet (fail)
  have hq : Kp [] w1 (w1.drewN nq) := (Kp.refl _ _).drewN _
  replace HBL := Lib.hid (hq.heap HBL.out (by simp))
  replace HK := Lib.hid ((HK.out : Kp [] w w1).trans hq)
  replace hsz : B < (w1.drewN nq).heap.size := hsz
  clear hq c0 c1 c2 c3 c4 c5 c6 c7 c8 c9 c10
  generalize w1.drewN nq = w9 at *
  have c0 := cell_of_row _ B 0 _ _ _ HBL.out
  have c1 := cell_of_row _ B 1 _ _ _ HBL.out
  have c2 := cell_of_row _ B 2 _ _ _ HBL.out
  have c3 := cell_of_row _ B 3 _ _ _ HBL.out
  have c4 := cell_of_row _ B 4 _ _ _ HBL.out
  have c5 := cell_of_row _ B 5 _ _ _ HBL.out
  have c6 := cell_of_row _ B 6 _ _ _ HBL.out
  have c7 := cell_of_row _ B 7 _ _ _ HBL.out
  have c8 := cell_of_row _ B 8 _ _ _ HBL.out
  have c9 := cell_of_row _ B 9 _ _ _ HBL.out
  have c10 := cell_of_row _ B 10 _ _ _ HBL.out
  simp only [List.getElem?_toArray, List.getElem?_cons_succ, List.getElem?_cons_zero] at c0 c1 c2 c3 c4 c5 c6 c7 c8 c9 c10
  go_wp2_with fail
  go_quiet (fail)
  have hq : Kp [] w9 (w9.drewN nq) := (Kp.refl _ _).drewN _
  replace HBL := Lib.hid (hq.heap HBL.out (by simp))
  replace HK := Lib.hid ((HK.out : Kp [] w w9).trans hq)
  replace hsz : B < (w9.drewN nq).heap.size := hsz
  clear hq c0 c1 c2 c3 c4 c5 c6 c7 c8 c9 c10
  generalize w9.drewN nq = w2 at *
  have c0 := cell_of_row _ B 0 _ _ _ HBL.out
  have c1 := cell_of_row _ B 1 _ _ _ HBL.out
  have c2 := cell_of_row _ B 2 _ _ _ HBL.out
  have c3 := cell_of_row _ B 3 _ _ _ HBL.out
  have c4 := cell_of_row _ B 4 _ _ _ HBL.out
  have c5 := cell_of_row _ B 5 _ _ _ HBL.out
  have c6 := cell_of_row _ B 6 _ _ _ HBL.out
  have c7 := cell_of_row _ B 7 _ _ _ HBL.out
  have c8 := cell_of_row _ B 8 _ _ _ HBL.out
  have c9 := cell_of_row _ B 9 _ _ _ HBL.out
  have c10 := cell_of_row _ B 10 _ _ _ HBL.out
  simp only [List.getElem?_toArray, List.getElem?_cons_succ, List.getElem?_cons_zero] at c0 c1 c2 c3 c4 c5 c6 c7 c8 c9 c10

  go_upto_region 5 with fail
  go_cut [9] (fun s9 wx => s9 = .bool false ∧ w2 = wx)
  case first =>
    go_wp2_with fail
    all_goals
      go_meet
      first | exact ⟨rfl, rfl⟩ | exact ⟨congrArg Value.bool (decide_eq_true (by omega)), rfl⟩ | exact ⟨congrArg Value.bool (decide_eq_false (by omega)), rfl⟩
  obtain ⟨rfl, rfl⟩ := hcut
  clear hy
  go_upto_block 0 with fail
  obtain ⟨E, hE⟩ : ∃ E, mflag xx xy yx yy + 2051 = E := ⟨_, rfl⟩
  have HE : Hid (mflag xx xy yx yy + 2051 = E) := hE
  have hE0 : 0 ≤ E := by have := HFC.out; omega
  have hE1 : E ≤ 10000 := by have := HFC.out; omega
  have h32 : bits .or .i64 E 32 = E + 32 := by rw [← hE]; exact HF.out.2
  clear hE
  go_cut [6, 10] (fun s6 s10 wx => s6 = .int .i64 E ∧ ∃ p c, s10 = .slice p (mnums xx xy yx yy).length c ∧ SwSt w2 wx B s10 (mnums xx xy yx yy))
  case first =>
    clear h32
    have HK3 := Lib.hid hsz
    obtain ⟨X, hX, hcmp⟩ := one_cmp xx xy yx yy
    have HX := Lib.hid hX
    clear hX
    have q0 := fun n : KW w2 => KW.cell c1 n
    have q1 := fun n : KW w2 => KW.cell c2 n
    have q2 := fun n : KW w2 => KW.cell c3 n
    have q3 := fun n : KW w2 => KW.cell c4 n
    go_wp2_with fail
    refine wp_region_kq (by kernel_rfl) (by kernel_rfl) ?_
    repeat (go_big_quiet_step ((go_at_call 11; exact Calls.kq (rone_calls _))))
    refine wpQuiet_nil ?_
    intro w3 hw'
    obtain ⟨⟨_, hkw3⟩, rfl⟩ := hw'
    have j1 := hkw3.cell c1 (by simp)
    have j2 := hkw3.cell c2 (by simp)
    have j3 := hkw3.cell c3 (by simp)
    have j4 := hkw3.cell c4 (by simp)
    clear hcmp q0 q1 q2 q3 c0 c1 c2 c3 c4 c5 c6 c7 c8 c9 c10
    cases X
    · have hn' : ¬ (xx = 16384 ∧ xy = 0 ∧ yx = 0 ∧ yy = 16384) := fun h => by have := HX.out.2 h; simp at this
      by_cases hbc : xy ≠ 0 ∨ yx ≠ 0
      · have hf : mflag xx xy yx yy = 128 := by unfold mflag; rw [if_neg hn', if_pos hbc]
        have hm : mnums xx xy yx yy = [xx, xy, yx, yy] := by unfold mnums; rw [if_neg hn', if_pos hbc]
        have HF2 := Lib.hid hf
        have HM2 := Lib.hid hm
        have hor : bits .or .i64 2051 128 = E := by have h := HF.out.1; have h2 := HE.out; rw [hf] at h h2; rw [h (by decide)]; exact h2
        clear HX hn' hf hm
        by_cases hb : xy = 0
        · have hc : yx ≠ 0 := by rcases hbc with h | h; exact absurd hb h; exact h
          clear hbc
          subst hb
          go_wp2_with fail
          go_region_held3 (fun w' => w'.cell? ⟨B, 1, none⟩ = some (.int .i64 xx) ∧ w'.cell? ⟨B, 2, none⟩ = some (.int .i64 0) ∧ w'.cell? ⟨B, 3, none⟩ = some (.int .i64 yx) ∧ w'.cell? ⟨B, 4, none⟩ = some (.int .i64 yy)) (first | go_keep | exact ⟨j1, j2, j3, j4⟩) (fail)
          all_goals
            go_wp2_with fail
            go_meet
            refine ⟨rfl, ?_⟩
            rw [HM2.out]
            exact ⟨_, _, rfl, IsInts.lit .i64 3 _ (by (repeat (first | exact Kp.refl _ _ | assumption | refine Kp.drew ?_ | refine Kp.drewN ?_ _ | refine Kp.alloc ?_ _ | (refine Kp.setCell ?_ (by first | (left; simp; done) | (right; simp; try omega)) _) | (refine Kp.trans' ?_ (by assumption) (by simp; try omega))))) _ _ (by simp [World.size_drew, World.drewN]) rfl (by decide), fun k hk => by (have h1 := hkw3.size; simp [World.size_drew, World.drewN] at hk ⊢; omega), by (repeat (first | exact Kp.refl _ _ | assumption | refine Kp.drew ?_ | refine Kp.drewN ?_ _ | refine Kp.alloc ?_ _ | (refine Kp.setCell ?_ (by first | (left; simp; done) | (right; simp; try omega)) _) | (refine Kp.trans' ?_ (by assumption) (by simp; try omega))))⟩
        · clear hbc
          go_wp2_with fail
          go_region_held3 (fun w' => w'.cell? ⟨B, 1, none⟩ = some (.int .i64 xx) ∧ w'.cell? ⟨B, 2, none⟩ = some (.int .i64 xy) ∧ w'.cell? ⟨B, 3, none⟩ = some (.int .i64 yx) ∧ w'.cell? ⟨B, 4, none⟩ = some (.int .i64 yy)) (first | go_keep | exact ⟨j1, j2, j3, j4⟩) (fail)
          all_goals
            go_wp2_with fail
            go_meet
            refine ⟨rfl, ?_⟩
            rw [HM2.out]
            exact ⟨_, _, rfl, IsInts.lit .i64 3 _ (by (repeat (first | exact Kp.refl _ _ | assumption | refine Kp.drew ?_ | refine Kp.drewN ?_ _ | refine Kp.alloc ?_ _ | (refine Kp.setCell ?_ (by first | (left; simp; done) | (right; simp; try omega)) _) | (refine Kp.trans' ?_ (by assumption) (by simp; try omega))))) _ _ (by simp [World.size_drew, World.drewN]) rfl (by decide), fun k hk => by (have h1 := hkw3.size; simp [World.size_drew, World.drewN] at hk ⊢; omega), by (repeat (first | exact Kp.refl _ _ | assumption | refine Kp.drew ?_ | refine Kp.drewN ?_ _ | refine Kp.alloc ?_ _ | (refine Kp.setCell ?_ (by first | (left; simp; done) | (right; simp; try omega)) _) | (refine Kp.trans' ?_ (by assumption) (by simp; try omega))))⟩
      · have hb : xy = 0 := by omega
        have hc : yx = 0 := by omega
        clear hbc
        subst hb; subst hc
        by_cases had : xx = yy
        · have hf : mflag xx 0 0 yy = 8 := by unfold mflag; rw [if_neg hn', if_neg (by simp), if_pos had]
          have hm : mnums xx 0 0 yy = [xx] := by unfold mnums; rw [if_neg hn', if_neg (by simp), if_pos had]
          have hor : bits .or .i64 2051 8 = E := by have h := HF.out.1; have h2 := HE.out; rw [hf] at h h2; rw [h (by decide)]; exact h2
          subst had
          have HM2 := Lib.hid hm
          clear HX hn' hf hm
          go_wp2_with fail
          go_region_held3 (fun w' => w'.cell? ⟨B, 1, none⟩ = some (.int .i64 xx) ∧ w'.cell? ⟨B, 2, none⟩ = some (.int .i64 0) ∧ w'.cell? ⟨B, 3, none⟩ = some (.int .i64 0) ∧ w'.cell? ⟨B, 4, none⟩ = some (.int .i64 xx)) (first | go_keep | exact ⟨j1, j2, j3, j4⟩) (fail)
          all_goals
            go_wp2_with fail
            go_meet
            refine ⟨rfl, ?_⟩
            rw [HM2.out]
            exact ⟨_, _, rfl, IsInts.lit .i64 3 _ (by (repeat (first | exact Kp.refl _ _ | assumption | refine Kp.drew ?_ | refine Kp.drewN ?_ _ | refine Kp.alloc ?_ _ | (refine Kp.setCell ?_ (by first | (left; simp; done) | (right; simp; try omega)) _) | (refine Kp.trans' ?_ (by assumption) (by simp; try omega))))) _ _ (by simp [World.size_drew, World.drewN]) rfl (by decide), fun k hk => by (have h1 := hkw3.size; simp [World.size_drew, World.drewN] at hk ⊢; omega), by (repeat (first | exact Kp.refl _ _ | assumption | refine Kp.drew ?_ | refine Kp.drewN ?_ _ | refine Kp.alloc ?_ _ | (refine Kp.setCell ?_ (by first | (left; simp; done) | (right; simp; try omega)) _) | (refine Kp.trans' ?_ (by assumption) (by simp; try omega))))⟩
        · have hf : mflag xx 0 0 yy = 64 := by unfold mflag; rw [if_neg hn', if_neg (by simp), if_neg had]
          have hm : mnums xx 0 0 yy = [xx, yy] := by unfold mnums; rw [if_neg hn', if_neg (by simp), if_neg had]
          have hor : bits .or .i64 2051 64 = E := by have h := HF.out.1; have h2 := HE.out; rw [hf] at h h2; rw [h (by decide)]; exact h2
          have HM2 := Lib.hid hm
          clear HX hn' hf hm
          go_wp2_with fail
          go_region_held3 (fun w' => w'.cell? ⟨B, 1, none⟩ = some (.int .i64 xx) ∧ w'.cell? ⟨B, 2, none⟩ = some (.int .i64 0) ∧ w'.cell? ⟨B, 3, none⟩ = some (.int .i64 0) ∧ w'.cell? ⟨B, 4, none⟩ = some (.int .i64 yy)) (first | go_keep | exact ⟨j1, j2, j3, j4⟩) (fail)
          all_goals
            go_wp2_with fail
            go_meet
            refine ⟨rfl, ?_⟩
            rw [HM2.out]
            exact ⟨_, _, rfl, IsInts.lit .i64 3 _ (by (repeat (first | exact Kp.refl _ _ | assumption | refine Kp.drew ?_ | refine Kp.drewN ?_ _ | refine Kp.alloc ?_ _ | (refine Kp.setCell ?_ (by first | (left; simp; done) | (right; simp; try omega)) _) | (refine Kp.trans' ?_ (by assumption) (by simp; try omega))))) _ _ (by simp [World.size_drew, World.drewN]) rfl (by decide), fun k hk => by (have h1 := hkw3.size; simp [World.size_drew, World.drewN] at hk ⊢; omega), by (repeat (first | exact Kp.refl _ _ | assumption | refine Kp.drew ?_ | refine Kp.drewN ?_ _ | refine Kp.alloc ?_ _ | (refine Kp.setCell ?_ (by first | (left; simp; done) | (right; simp; try omega)) _) | (refine Kp.trans' ?_ (by assumption) (by simp; try omega))))⟩
    · obtain ⟨rfl, rfl, rfl, rfl⟩ := HX.out.1 rfl
      clear HX
      go_wp2_with fail
      go_meet
      have hE2 : E = 2051 := HE.out.symm
      subst hE2
      exact ⟨rfl, _, _, rfl, IsInts.nil _ _, by simp, by (repeat (first | exact Kp.refl _ _ | assumption | refine Kp.drew ?_ | refine Kp.drewN ?_ _ | refine Kp.alloc ?_ _ | (refine Kp.setCell ?_ (by first | (left; simp; done) | (right; simp; try omega)) _) | (refine Kp.trans' ?_ (by assumption) (by simp; try omega))))⟩
  obtain ⟨rfl, np, nc, rfl, hI, hge, hkc⟩ := hcut
  have H3 : Hid (RWt wc r room acc) := HW.out.kp0 (HK.out.trans hkc)
  replace HBL := Lib.hid (hkc.heap HBL.out (by simp))
  replace HK := Lib.hid (HK.out.trans hkc)
  replace hsz : B < wc.heap.size := by have := hkc.size; omega
  rw [HE.out] at HQ
  clear HE HFC HF HY hkc
  generalize mnums xx xy yx yy = nums at *
  obtain ⟨N, hN⟩ : ∃ N, nums.length = N := ⟨_, rfl⟩
  have HNL := Lib.hid hN
  rw [hN] at hNL hI hge ⊢
  have HI := Lib.hid hI
  have HGE := Lib.hid hge
  clear hI hge hN c0 c1 c2 c3 c4 c5 c6 c7 c8 c9 c10 s1 s2 s3 s4 s5
  have hBr : B ∉ [r] := by simp; omega
  go_wp2_with fail
  refine (rwu2_calls r room acc (E) (by omega) (by omega) _ H3.out (by omega) (by omega)).mono ?_; rintro e w5 ⟨rfl, h5, hk5⟩
  have H5 := Lib.hid h5
  have HK5 : Hid (Kp [r] wc w5) := hk5
  have c0 := cell_of_row _ B 0 _ _ _ (hk5.heap HBL.out hBr)
  simp only [List.getElem?_toArray, List.getElem?_cons_zero] at c0
  clear h5 hk5 h32
  go_wp2_with fail
  refine (rwu2_calls r room (acc ++ bytesN 2 (E)) g (by omega) (by omega) _ H5.out (by simp [bytesN_length]; omega) (by omega)).mono ?_; rintro e w6 ⟨rfl, h6, hk6⟩
  have H6 := Lib.hid h6
  have HK6 : Hid (Kp [r] wc w6) := HK5.out.trans hk6
  clear h6 hk6 c0
  go_wp2_with fail
  refine (rwu2_calls r room (acc ++ bytesN 2 (E) ++ bytesN 2 g) dx (by omega) (by omega) _ H6.out (by simp [bytesN_length]; omega) (by omega)).mono ?_; rintro e w7 ⟨rfl, h7, hk7⟩
  have H7 := Lib.hid h7
  have HK7 : Hid (Kp [r] wc w7) := HK6.out.trans hk7
  clear h7 hk7
  go_wp2_with fail
  refine (rwu2_calls r room (acc ++ bytesN 2 (E) ++ bytesN 2 g ++ bytesN 2 dx) dy (by omega) (by omega) _ H7.out (by simp [bytesN_length]; omega) (by omega)).mono ?_; rintro e w8 ⟨rfl, h8, hk8⟩
  have H8 := Lib.hid h8
  have HK8 : Hid (Kp [r] wc w8) := HK7.out.trans hk8
  clear h8 hk8 HK5 HK6 HK7 H5 H6 H7 H3
  obtain ⟨D, hD⟩ : ∃ D, acc ++ bytesN 2 (E) ++ bytesN 2 g ++ bytesN 2 dx ++ bytesN 2 dy = D := ⟨_, rfl⟩
  have HQ2 : Hid (acc ++ putM (⟨g, xx, xy, yx, yy, false, dx, dy, true, 0, 0⟩ : Pt) false = D ++ nums.flatMap (bytesN 2)) := by
    show _ = _; rw [HQ.out, ← hD]; simp only [List.append_assoc]
  have hDl : D.length ≤ acc.length + 8 := by rw [← hD]; simp [bytesN_length]
  rw [hD] at H8
  clear hD HQ
  go_wp2_with fail
  go_loopw [12] (fun i wr => ∃ j : Nat, j ≤ N ∧ i = .int .i64 j ∧ Hid (RWt wr r room (D ++ (nums.take j).flatMap (bytesN 2)) ∧ Kp [r] wc wr)) (fun i _ => N - (intOf i).toNat)
  case atStart => exact ⟨0, by omega, rfl, by simpa using H8.out, HK8.out⟩
  case round =>
    obtain ⟨j, hj, rfl, HJ⟩ := hrel
    clear H8 HK8
    by_cases hlt : j < N
    · have hI := HI.out.kp HJ.out.2 (fun t ht e => by have h1 := HGE.out t e; simp at ht; omega)
      have hC : ∃ q off, np = some ⟨q, off, none⟩ ∧ wr.cell? ⟨q, off + j, none⟩ = some (.int .i64 (nums.getD j 0)) := by
        rcases hI with ⟨⟨a, e⟩, e0⟩ | ⟨q, off, c, e, _, _, h3⟩
        · have := HNL.out; rw [e0] at this; simp at this; omega
        · cases e; exact ⟨q, off, rfl, h3 j (by rw [HNL.out]; exact hlt)⟩
      obtain ⟨q, off, rfl, hc⟩ := hC
      have hx := HN.out (nums.getD j 0) (by rw [List.getD_eq_getElem?_getD, List.getElem?_eq_getElem (by rw [HNL.out]; exact hlt)]; exact List.getElem_mem _)
      have hsn : Hid (D ++ (nums.take (j + 1)).flatMap (bytesN 2) = D ++ (nums.take j).flatMap (bytesN 2) ++ bytesN 2 (nums.getD j 0)) := by
        show _ = _; rw [flat_snoc nums j (by rw [HNL.out]; exact hlt), List.append_assoc]
      have hln : (D ++ (nums.take j).flatMap (bytesN 2)).length ≤ acc.length + 14 := by
        rw [List.length_append, flat2_len, List.length_take]; omega
      generalize nums.getD j 0 = x at *
      generalize D ++ (nums.take j).flatMap (bytesN 2) = ac at *
      obtain ⟨hx0, hx1⟩ := hx
      clear hI
      go_wp2_with fail
      refine (rwu2_calls r room ac x (by omega) (by omega) _ HJ.out.1 (by omega) (by omega)).mono ?_; rintro e w9 ⟨rfl, h9, hk9⟩
      have HS9 : Hid (RWt w9 r room (D ++ (nums.take (j + 1)).flatMap (bytesN 2)) ∧ Kp [r] wc w9) := ⟨by rw [hsn.out]; exact h9, HJ.out.2.trans hk9⟩
      clear h9 hk9 hc
      go_wp2_with fail
      go_roundw
      case rel => first | exact ⟨j + 1, by omega, int_eq' (by omega), HS9⟩ | ((repeat apply Exists.intro); exact ⟨⟨j + 1, by omega, int_eq' (by omega), HS9⟩, rfl⟩)
      case measure => simp [intOf]; omega
    · obtain rfl : j = N := by omega
      go_wp2_with fail
      go_end0
      refine ⟨rfl, ?_, (HK.out.more (by simp)).trans HJ.out.2⟩
      rw [HQ2.out]
      have := HJ.out.1
      rwa [List.take_of_length_le (by rw [HNL.out]; exact Nat.le_refl _)] at this
end Go.Proofs.YtafkhnlmipddmaaGreat.Cp

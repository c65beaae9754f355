/- compose: a part's numbers (Pt), its cells; May, Plain, One, of the program and of the reference. (Written by wip/compose/gencpa.py.) · compose: May, Plain, One. (Written by wip/compose/gencpa.py.) · compose: One, Plain · compose: a reader in one word (RdS); Take; number · compose: number, places · compose: places, at four numbers · compose: places · compose: what 'part' reads, in plain Lean (partM); a part's block under its loops · compose: a slice of parts, as the walks read it. (Merged by wip/tools/mergetpl.py out of CpA, CpB, CpC, CpD, CpE, CpF, CpG, CpH, CpJ.) -/
import Derived.Test.YtafkhnlmipddmaaGreatApp
import Derived.Test.YtafkhnlmipddmaaGreatQuiet
import Derived.Test.YtafkhnlmipddmaaGreatWmA
import Derived.Lib.Hide
import Derived.Lib.MinMax
import Derived.WalkKit
import Derived.ProofKit
import Derived.OwnWalk
import Derived.Test.YtafkhnlmipddmaaGreatBits
import Derived.Deep.RegionHeld3
namespace Go.Proofs.YtafkhnlmipddmaaGreat.Cp
open Go.RowKit
set_option linter.unusedVariables false
set_option linter.unusedSimpArgs false
/-- A part of a composite glyph. -/
structure Pt where
  g : Int
  xx : Int
  xy : Int
  yx : Int
  yy : Int
  m : Bool
  dx : Int
  dy : Int
  t : Bool
  pa : Int
  ch : Int
def ptCells (p : Pt) : Array Value := #[.int .i64 p.g, .int .i64 p.xx, .int .i64 p.xy, .int .i64 p.yx, .int .i64 p.yy, .bool p.m, .int .i64 p.dx, .int .i64 p.dy, .bool p.t, .int .i64 p.pa, .int .i64 p.ch]
def wordB (x : Int) : Bool := decide (0 ≤ x) && decide (x < 65536)
def s16B (x : Int) : Bool := decide (-32768 ≤ x) && decide (x < 32768)
def fitsM (a b c d : Int) : Bool := s16B a && (s16B b && (s16B c && s16B d))
def mayPt (p : Pt) : Bool := wordB p.g && (fitsM p.xx p.xy p.yx p.yy && (if p.m then wordB p.pa && wordB p.ch && decide (p.dx = 0) && decide (p.dy = 0) && !p.t else s16B p.dx && s16B p.dy && decide (p.pa = 0) && decide (p.ch = 0)))
def bothB (a b lo hi : Int) : Bool := decide (lo ≤ min a b) && decide (max a b ≤ hi)

theorem word_calls (x : Int) (w : World) : Calls Tryz.prog 50 #[.int .i64 x] w fun e w' => e = .returned (.bool (wordB x)) ∧ w = w' := by
  by_cases h1 : 0 ≤ x
  · by_cases h2 : x < 65536
    · have HE : Hid (wordB x = true) := by show _ = _; unfold wordB; rw [decide_eq_true h1, decide_eq_true h2]; rfl
      rw [HE.out]
      have h3 : x < 65536 := by omega
      go_enter Tryz.func50, Tryz.ntmps50
      go_wp2_with fail
      go_ret
      exact ⟨rfl, rfl⟩
    · have HE : Hid (wordB x = false) := by show _ = _; unfold wordB; rw [decide_eq_true h1, decide_eq_false h2]; rfl
      rw [HE.out]
      have h3 : ¬ (x < 65536) := by omega
      go_enter Tryz.func50, Tryz.ntmps50
      go_wp2_with fail
      go_ret
      exact ⟨rfl, rfl⟩
  · have HE : Hid (wordB x = false) := by show _ = _; unfold wordB; rw [decide_eq_false h1]; rfl
    rw [HE.out]
    go_enter Tryz.func50, Tryz.ntmps50
    go_wp2_with fail
    go_ret
    exact ⟨rfl, rfl⟩
theorem signed_calls (x : Int) (w : World) : Calls Tryz.prog 52 #[.int .i64 x] w fun e w' => e = .returned (.bool (s16B x)) ∧ w = w' := by
  by_cases h1 : -32768 ≤ x
  · by_cases h2 : x < 32768
    · have HE : Hid (s16B x = true) := by show _ = _; unfold s16B; rw [decide_eq_true h1, decide_eq_true h2]; rfl
      rw [HE.out]
      have h3 : x < 32768 := by omega
      go_enter Tryz.func52, Tryz.ntmps52
      go_wp2_with fail
      go_ret
      exact ⟨rfl, rfl⟩
    · have HE : Hid (s16B x = false) := by show _ = _; unfold s16B; rw [decide_eq_true h1, decide_eq_false h2]; rfl
      rw [HE.out]
      have h3 : ¬ (x < 32768) := by omega
      go_enter Tryz.func52, Tryz.ntmps52
      go_wp2_with fail
      go_ret
      exact ⟨rfl, rfl⟩
  · have HE : Hid (s16B x = false) := by show _ = _; unfold s16B; rw [decide_eq_false h1]; rfl
    rw [HE.out]
    go_enter Tryz.func52, Tryz.ntmps52
    go_wp2_with fail
    go_ret
    exact ⟨rfl, rfl⟩
theorem fits_calls (x : Int) (w : World) : Calls Tryz.prog 68 #[.int .i64 x] w fun e w' => e = .returned (.bool (s16B x)) ∧ w = w' := by
  by_cases h1 : -32768 ≤ x
  · by_cases h2 : x < 32768
    · have HE : Hid (s16B x = true) := by show _ = _; unfold s16B; rw [decide_eq_true h1, decide_eq_true h2]; rfl
      rw [HE.out]
      have h3 : x < 32768 := by omega
      go_enter Tryz.func68, Tryz.ntmps68
      go_wp2_with fail
      go_ret
      exact ⟨rfl, rfl⟩
    · have HE : Hid (s16B x = false) := by show _ = _; unfold s16B; rw [decide_eq_true h1, decide_eq_false h2]; rfl
      rw [HE.out]
      have h3 : ¬ (x < 32768) := by omega
      go_enter Tryz.func68, Tryz.ntmps68
      go_wp2_with fail
      go_ret
      exact ⟨rfl, rfl⟩
  · have HE : Hid (s16B x = false) := by show _ = _; unfold s16B; rw [decide_eq_false h1]; rfl
    rw [HE.out]
    go_enter Tryz.func68, Tryz.ntmps68
    go_wp2_with fail
    go_ret
    exact ⟨rfl, rfl⟩
theorem amay1_calls (x : Int) (w : World) : Calls Tryz.prog 109 #[.int .i64 x] w fun e w' => e = .returned (.bool (s16B x)) ∧ w = w' := by
  by_cases h1 : -32768 ≤ x
  · by_cases h2 : x < 32768
    · have HE : Hid (s16B x = true) := by show _ = _; unfold s16B; rw [decide_eq_true h1, decide_eq_true h2]; rfl
      rw [HE.out]
      have h3 : x ≤ 32767 := by omega
      go_enter Tryz.func109, Tryz.ntmps109
      go_wp2_with fail
      go_ret
      exact ⟨rfl, rfl⟩
    · have HE : Hid (s16B x = false) := by show _ = _; unfold s16B; rw [decide_eq_true h1, decide_eq_false h2]; rfl
      rw [HE.out]
      have h3 : ¬ (x ≤ 32767) := by omega
      go_enter Tryz.func109, Tryz.ntmps109
      go_wp2_with fail
      go_ret
      exact ⟨rfl, rfl⟩
  · have HE : Hid (s16B x = false) := by show _ = _; unfold s16B; rw [decide_eq_false h1]; rfl
    rw [HE.out]
    go_enter Tryz.func109, Tryz.ntmps109
    go_wp2_with fail
    go_ret
    exact ⟨rfl, rfl⟩
set_option maxHeartbeats 1000000 in
theorem each_calls (a b c d : Int) (w : World) : Calls Tryz.prog 108 #[.func (.func 109) #[] #[], .int .i64 a, .int .i64 b, .int .i64 c, .int .i64 d] w fun e w' => e = .returned (.bool (fitsM a b c d)) ∧ Kp [] w w' := by
  have hkB : ∀ W, Kp [] (w.alloc (.cells #[.int .i64 a, .int .i64 b, .int .i64 c, .int .i64 d] 31)) W → Kp [] w W := fun W hW => ((Kp.refl _ _).alloc _).trans hW
  cases ha : s16B a
  · have Ha := Lib.hid ha
    clear ha
    have HE : Hid (fitsM a b c d = false) := by show _ = _; unfold fitsM; rw [Ha.out]; rfl
    rw [HE.out]
    go_enter Tryz.func108, Tryz.ntmps108
    go_wp2_with fail
    refine (amay1_calls a _).mono ?_; rintro e w9 ⟨rfl, rfl⟩; rw [Ha.out]
    go_wp2_with fail
    go_ret
    exact ⟨rfl, Kp.refl _ _⟩
  · have Ha := Lib.hid ha
    clear ha
    cases hb : s16B b
    · have Hb := Lib.hid hb
      clear hb
      have HE : Hid (fitsM a b c d = false) := by show _ = _; unfold fitsM; rw [Ha.out, Hb.out]; rfl
      rw [HE.out]
      go_enter Tryz.func108, Tryz.ntmps108
      go_wp2_with fail
      refine (amay1_calls a _).mono ?_; rintro e w9 ⟨rfl, rfl⟩; rw [Ha.out]
      go_wp2_with fail
      refine (amay1_calls b _).mono ?_; rintro e w9 ⟨rfl, rfl⟩; rw [Hb.out]
      go_wp2_with fail
      go_ret
      exact ⟨rfl, Kp.refl _ _⟩
    · have Hb := Lib.hid hb
      clear hb
      cases hc : s16B c
      · have Hc := Lib.hid hc
        clear hc
        have HE : Hid (fitsM a b c d = false) := by show _ = _; unfold fitsM; rw [Ha.out, Hb.out, Hc.out]; rfl
        rw [HE.out]
        go_enter Tryz.func108, Tryz.ntmps108
        go_wp2_with fail
        refine (amay1_calls a _).mono ?_; rintro e w9 ⟨rfl, rfl⟩; rw [Ha.out]
        go_wp2_with fail
        refine (amay1_calls b _).mono ?_; rintro e w9 ⟨rfl, rfl⟩; rw [Hb.out]
        go_wp2_with fail
        refine (amay1_calls c _).mono ?_; rintro e w9 ⟨rfl, rfl⟩; rw [Hc.out]
        go_wp2_with fail
        go_ret
        exact ⟨rfl, Kp.refl _ _⟩
      · have Hc := Lib.hid hc
        clear hc
        cases hd : s16B d
        · have Hd := Lib.hid hd
          clear hd
          have HE : Hid (fitsM a b c d = false) := by show _ = _; unfold fitsM; rw [Ha.out, Hb.out, Hc.out, Hd.out]; rfl
          rw [HE.out]
          go_enter Tryz.func108, Tryz.ntmps108
          go_wp2_with fail
          refine (amay1_calls a _).mono ?_; rintro e w9 ⟨rfl, rfl⟩; rw [Ha.out]
          go_wp2_with fail
          refine (amay1_calls b _).mono ?_; rintro e w9 ⟨rfl, rfl⟩; rw [Hb.out]
          go_wp2_with fail
          refine (amay1_calls c _).mono ?_; rintro e w9 ⟨rfl, rfl⟩; rw [Hc.out]
          go_wp2_with fail
          refine (amay1_calls d _).mono ?_; rintro e w9 ⟨rfl, rfl⟩; rw [Hd.out]
          go_wp2_with fail
          go_ret
          exact ⟨rfl, Kp.refl _ _⟩
        · have Hd := Lib.hid hd
          clear hd
          have HE : Hid (fitsM a b c d = true) := by show _ = _; unfold fitsM; rw [Ha.out, Hb.out, Hc.out, Hd.out]; rfl
          rw [HE.out]
          go_enter Tryz.func108, Tryz.ntmps108
          go_wp2_with fail
          refine (amay1_calls a _).mono ?_; rintro e w9 ⟨rfl, rfl⟩; rw [Ha.out]
          go_wp2_with fail
          refine (amay1_calls b _).mono ?_; rintro e w9 ⟨rfl, rfl⟩; rw [Hb.out]
          go_wp2_with fail
          refine (amay1_calls c _).mono ?_; rintro e w9 ⟨rfl, rfl⟩; rw [Hc.out]
          go_wp2_with fail
          refine (amay1_calls d _).mono ?_; rintro e w9 ⟨rfl, rfl⟩; rw [Hd.out]
          go_wp2_with fail
          go_ret
          exact ⟨rfl, Kp.refl _ _⟩

set_option maxHeartbeats 1000000 in
theorem rmay02_calls (a b c d : Int) (w : World) : Calls Tryz.prog 51 #[.agg #[.int .i64 a, .int .i64 b, .int .i64 c, .int .i64 d]] w fun e w' => e = .returned (.bool (fitsM a b c d)) ∧ Kp [] w w' := by
  have hkB : ∀ W, Kp [] (w.alloc (.cells #[.int .i64 a, .int .i64 b, .int .i64 c, .int .i64 d] 31)) W → Kp [] w W := fun W hW => ((Kp.refl _ _).alloc _).trans hW
  cases ha : s16B a
  · have Ha := Lib.hid ha
    clear ha
    have HE : Hid (fitsM a b c d = false) := by show _ = _; unfold fitsM; rw [Ha.out]; rfl
    rw [HE.out]
    go_enter Tryz.func51, Tryz.ntmps51
    go_wp2_with fail
    refine (fits_calls a _).mono ?_; rintro e w9 ⟨rfl, rfl⟩; rw [Ha.out]
    go_wp2_with fail
    go_ret
    exact ⟨rfl, hkB _ (by first | exact Kp.refl _ _ | exact (Kp.refl _ _).drew)⟩
  · have Ha := Lib.hid ha
    clear ha
    cases hb : s16B b
    · have Hb := Lib.hid hb
      clear hb
      have HE : Hid (fitsM a b c d = false) := by show _ = _; unfold fitsM; rw [Ha.out, Hb.out]; rfl
      rw [HE.out]
      go_enter Tryz.func51, Tryz.ntmps51
      go_wp2_with fail
      refine (fits_calls a _).mono ?_; rintro e w9 ⟨rfl, rfl⟩; rw [Ha.out]
      go_wp2_with fail
      refine (fits_calls b _).mono ?_; rintro e w9 ⟨rfl, rfl⟩; rw [Hb.out]
      go_wp2_with fail
      go_ret
      exact ⟨rfl, hkB _ (by first | exact Kp.refl _ _ | exact (Kp.refl _ _).drew)⟩
    · have Hb := Lib.hid hb
      clear hb
      cases hc : s16B c
      · have Hc := Lib.hid hc
        clear hc
        have HE : Hid (fitsM a b c d = false) := by show _ = _; unfold fitsM; rw [Ha.out, Hb.out, Hc.out]; rfl
        rw [HE.out]
        go_enter Tryz.func51, Tryz.ntmps51
        go_wp2_with fail
        refine (fits_calls a _).mono ?_; rintro e w9 ⟨rfl, rfl⟩; rw [Ha.out]
        go_wp2_with fail
        refine (fits_calls b _).mono ?_; rintro e w9 ⟨rfl, rfl⟩; rw [Hb.out]
        go_wp2_with fail
        refine (fits_calls c _).mono ?_; rintro e w9 ⟨rfl, rfl⟩; rw [Hc.out]
        go_wp2_with fail
        go_ret
        exact ⟨rfl, hkB _ (by first | exact Kp.refl _ _ | exact (Kp.refl _ _).drew)⟩
      · have Hc := Lib.hid hc
        clear hc
        cases hd : s16B d
        · have Hd := Lib.hid hd
          clear hd
          have HE : Hid (fitsM a b c d = false) := by show _ = _; unfold fitsM; rw [Ha.out, Hb.out, Hc.out, Hd.out]; rfl
          rw [HE.out]
          go_enter Tryz.func51, Tryz.ntmps51
          go_wp2_with fail
          refine (fits_calls a _).mono ?_; rintro e w9 ⟨rfl, rfl⟩; rw [Ha.out]
          go_wp2_with fail
          refine (fits_calls b _).mono ?_; rintro e w9 ⟨rfl, rfl⟩; rw [Hb.out]
          go_wp2_with fail
          refine (fits_calls c _).mono ?_; rintro e w9 ⟨rfl, rfl⟩; rw [Hc.out]
          go_wp2_with fail
          refine (fits_calls d _).mono ?_; rintro e w9 ⟨rfl, rfl⟩; rw [Hd.out]
          go_wp2_with fail
          go_ret
          exact ⟨rfl, hkB _ (by first | exact Kp.refl _ _ | exact (Kp.refl _ _).drew)⟩
        · have Hd := Lib.hid hd
          clear hd
          have HE : Hid (fitsM a b c d = true) := by show _ = _; unfold fitsM; rw [Ha.out, Hb.out, Hc.out, Hd.out]; rfl
          rw [HE.out]
          go_enter Tryz.func51, Tryz.ntmps51
          go_wp2_with fail
          refine (fits_calls a _).mono ?_; rintro e w9 ⟨rfl, rfl⟩; rw [Ha.out]
          go_wp2_with fail
          refine (fits_calls b _).mono ?_; rintro e w9 ⟨rfl, rfl⟩; rw [Hb.out]
          go_wp2_with fail
          refine (fits_calls c _).mono ?_; rintro e w9 ⟨rfl, rfl⟩; rw [Hc.out]
          go_wp2_with fail
          refine (fits_calls d _).mono ?_; rintro e w9 ⟨rfl, rfl⟩; rw [Hd.out]
          go_wp2_with fail
          go_ret
          exact ⟨rfl, hkB _ (by first | exact Kp.refl _ _ | exact (Kp.refl _ _).drew)⟩

theorem amay_calls (a b c d : Int) (w : World) : Calls Tryz.prog 100 #[.agg #[.int .i64 a, .int .i64 b, .int .i64 c, .int .i64 d]] w fun e w' => e = .returned (.bool (fitsM a b c d)) ∧ Kp [] w w' := by
  have hkB : Kp [] w (w.alloc (.cells #[.int .i64 a, .int .i64 b, .int .i64 c, .int .i64 d] 31)) := (Kp.refl _ _).alloc _
  go_enter Tryz.func100, Tryz.ntmps100
  go_wp2_with fail
  refine (each_calls a b c d _).mono ?_; rintro e w1 ⟨rfl, hk⟩
  go_wp2_with fail
  go_ret
  exact ⟨rfl, hkB.trans hk⟩
theorem wordB_both (a b : Int) : bothB a b 0 65535 = (wordB a && wordB b) := by
  unfold bothB wordB
  rw [Bool.eq_iff_iff]; simp only [Bool.and_eq_true, decide_eq_true_eq]; omega
theorem wordB_one (a : Int) : bothB a 0 0 65535 = wordB a := by
  unfold bothB wordB
  rw [Bool.eq_iff_iff]; simp only [Bool.and_eq_true, decide_eq_true_eq]; omega
theorem s16B_both (a b : Int) : bothB a b (-32768) 32767 = (s16B a && s16B b) := by
  unfold bothB s16B
  rw [Bool.eq_iff_iff]; simp only [Bool.and_eq_true, decide_eq_true_eq]; omega
end Go.Proofs.YtafkhnlmipddmaaGreat.Cp
namespace Go.Proofs.YtafkhnlmipddmaaGreat.Cp
open Go.RowKit
set_option linter.unusedVariables false
set_option linter.unusedSimpArgs false
theorem box11 {w W : World} {t : TypeId} {v0 v1 v2 v3 v4 v5 v6 v7 v8 v9 v10 : Value} (hk : Kp [] (w.alloc (.cells #[v0, v1, v2, v3, v4, v5, v6, v7, v8, v9, v10] t)) W) :
    W.cell? ⟨w.heap.size, 0, none⟩ = some v0 ∧ W.cell? ⟨w.heap.size, 1, none⟩ = some v1 ∧ W.cell? ⟨w.heap.size, 2, none⟩ = some v2 ∧ W.cell? ⟨w.heap.size, 3, none⟩ = some v3 ∧ W.cell? ⟨w.heap.size, 4, none⟩ = some v4 ∧ W.cell? ⟨w.heap.size, 5, none⟩ = some v5 ∧ W.cell? ⟨w.heap.size, 6, none⟩ = some v6 ∧ W.cell? ⟨w.heap.size, 7, none⟩ = some v7 ∧ W.cell? ⟨w.heap.size, 8, none⟩ = some v8 ∧ W.cell? ⟨w.heap.size, 9, none⟩ = some v9 ∧ W.cell? ⟨w.heap.size, 10, none⟩ = some v10 :=
  ⟨hk.cell (cell_of_row _ w.heap.size 0 _ t (0, 0) (heap_alloc_new w _)) (by simp), hk.cell (cell_of_row _ w.heap.size 1 _ t (0, 0) (heap_alloc_new w _)) (by simp), hk.cell (cell_of_row _ w.heap.size 2 _ t (0, 0) (heap_alloc_new w _)) (by simp), hk.cell (cell_of_row _ w.heap.size 3 _ t (0, 0) (heap_alloc_new w _)) (by simp), hk.cell (cell_of_row _ w.heap.size 4 _ t (0, 0) (heap_alloc_new w _)) (by simp), hk.cell (cell_of_row _ w.heap.size 5 _ t (0, 0) (heap_alloc_new w _)) (by simp), hk.cell (cell_of_row _ w.heap.size 6 _ t (0, 0) (heap_alloc_new w _)) (by simp), hk.cell (cell_of_row _ w.heap.size 7 _ t (0, 0) (heap_alloc_new w _)) (by simp), hk.cell (cell_of_row _ w.heap.size 8 _ t (0, 0) (heap_alloc_new w _)) (by simp), hk.cell (cell_of_row _ w.heap.size 9 _ t (0, 0) (heap_alloc_new w _)) (by simp), hk.cell (cell_of_row _ w.heap.size 10 _ t (0, 0) (heap_alloc_new w _)) (by simp)⟩
/-- A part as an argument. -/
def ptV (p : Pt) : Value := .agg (ptCells p)
set_option maxRecDepth 100000 in
set_option maxHeartbeats 2000000 in
theorem rmay12_calls (p : Pt) (w : World) : Calls Tryz.prog 29 #[ptV p] w fun e w' => e = .returned (.bool (mayPt p)) ∧ Kp [] w w' := by
  show Calls Tryz.prog 29 #[.agg #[.int .i64 p.g, .int .i64 p.xx, .int .i64 p.xy, .int .i64 p.yx, .int .i64 p.yy, .bool p.m, .int .i64 p.dx, .int .i64 p.dy, .bool p.t, .int .i64 p.pa, .int .i64 p.ch]] w _
  have HB : Hid (∀ W, Kp [] (w.alloc (.cells #[.int .i64 p.g, .int .i64 p.xx, .int .i64 p.xy, .int .i64 p.yx, .int .i64 p.yy, .bool p.m, .int .i64 p.dx, .int .i64 p.dy, .bool p.t, .int .i64 p.pa, .int .i64 p.ch] 34)) W → Kp [] w W ∧ W.cell? ⟨w.heap.size, 0, none⟩ = some (.int .i64 p.g) ∧ W.cell? ⟨w.heap.size, 1, none⟩ = some (.int .i64 p.xx) ∧ W.cell? ⟨w.heap.size, 2, none⟩ = some (.int .i64 p.xy) ∧ W.cell? ⟨w.heap.size, 3, none⟩ = some (.int .i64 p.yx) ∧ W.cell? ⟨w.heap.size, 4, none⟩ = some (.int .i64 p.yy) ∧ W.cell? ⟨w.heap.size, 5, none⟩ = some (.bool p.m) ∧ W.cell? ⟨w.heap.size, 6, none⟩ = some (.int .i64 p.dx) ∧ W.cell? ⟨w.heap.size, 7, none⟩ = some (.int .i64 p.dy) ∧ W.cell? ⟨w.heap.size, 8, none⟩ = some (.bool p.t) ∧ W.cell? ⟨w.heap.size, 9, none⟩ = some (.int .i64 p.pa) ∧ W.cell? ⟨w.heap.size, 10, none⟩ = some (.int .i64 p.ch)) := fun W hW => ⟨((Kp.refl _ _).alloc _).trans hW, box11 hW⟩
  cases hg : wordB p.g
  · have HG := Lib.hid hg
    clear hg
    have HE : Hid (mayPt p = false) := by show _ = _; unfold mayPt; simp [HG.out]
    rw [HE.out]
    go_enter Tryz.func29, Tryz.ntmps29
    go_wp2_with fail
    refine (word_calls p.g _).mono ?_; rintro e w9 ⟨rfl, rfl⟩; rw [HG.out]
    go_wp2_with fail
    go_ret
    exact ⟨rfl, (HB.out _ (Kp.refl _ _)).1⟩
  · have HG := Lib.hid hg
    clear hg
    cases hf : fitsM p.xx p.xy p.yx p.yy
    · have HF := Lib.hid hf
      clear hf
      have HE : Hid (mayPt p = false) := by show _ = _; unfold mayPt; simp [HG.out, HF.out]
      rw [HE.out]
      go_enter Tryz.func29, Tryz.ntmps29
      go_wp2_with fail
      refine (word_calls p.g _).mono ?_; rintro e w9 ⟨rfl, rfl⟩; rw [HG.out]
      go_wp2_with fail
      refine (rmay02_calls p.xx p.xy p.yx p.yy _).mono ?_; rintro e w1 ⟨rfl, hk1⟩; rw [HF.out]
      obtain ⟨hkw, b0, b1, b2, b3, b4, b5, b6, b7, b8, b9, b10⟩ := HB.out _ hk1
      have HKW := Lib.hid hkw
      clear hkw hk1
      go_wp2_with fail
      go_ret
      exact ⟨rfl, HKW.out⟩
    · have HF := Lib.hid hf
      clear hf
      cases hm : p.m
      · have HM := Lib.hid hm
        rw [hm] at HB
        clear hm
        cases hq1 : s16B p.dx
        · have HQ1 := Lib.hid hq1
          clear hq1
          have HE : Hid (mayPt p = false) := by show _ = _; unfold mayPt; simp [HG.out, HF.out, HM.out, HQ1.out]
          rw [HE.out]
          go_enter Tryz.func29, Tryz.ntmps29
          go_wp2_with fail
          refine (word_calls p.g _).mono ?_; rintro e w9 ⟨rfl, rfl⟩; rw [HG.out]
          go_wp2_with fail
          refine (rmay02_calls p.xx p.xy p.yx p.yy _).mono ?_; rintro e w1 ⟨rfl, hk1⟩; rw [HF.out]
          obtain ⟨hkw, b0, b1, b2, b3, b4, b5, b6, b7, b8, b9, b10⟩ := HB.out _ hk1
          have HKW := Lib.hid hkw
          clear hkw hk1
          go_wp2_with fail
          refine (signed_calls p.dx _).mono ?_; rintro e w9 ⟨rfl, rfl⟩; rw [HQ1.out]
          go_wp2_with fail
          go_ret
          exact ⟨rfl, HKW.out⟩
        · have HQ1 := Lib.hid hq1
          clear hq1
          cases hq2 : s16B p.dy
          · have HQ2 := Lib.hid hq2
            clear hq2
            have HE : Hid (mayPt p = false) := by show _ = _; unfold mayPt; simp [HG.out, HF.out, HM.out, HQ1.out, HQ2.out]
            rw [HE.out]
            go_enter Tryz.func29, Tryz.ntmps29
            go_wp2_with fail
            refine (word_calls p.g _).mono ?_; rintro e w9 ⟨rfl, rfl⟩; rw [HG.out]
            go_wp2_with fail
            refine (rmay02_calls p.xx p.xy p.yx p.yy _).mono ?_; rintro e w1 ⟨rfl, hk1⟩; rw [HF.out]
            obtain ⟨hkw, b0, b1, b2, b3, b4, b5, b6, b7, b8, b9, b10⟩ := HB.out _ hk1
            have HKW := Lib.hid hkw
            clear hkw hk1
            go_wp2_with fail
            refine (signed_calls p.dx _).mono ?_; rintro e w9 ⟨rfl, rfl⟩; rw [HQ1.out]
            go_wp2_with fail
            refine (signed_calls p.dy _).mono ?_; rintro e w9 ⟨rfl, rfl⟩; rw [HQ2.out]
            go_wp2_with fail
            go_ret
            exact ⟨rfl, HKW.out⟩
          · have HQ2 := Lib.hid hq2
            clear hq2
            by_cases hpa : p.pa = 0
            · rw [hpa] at HB
              by_cases hch : p.ch = 0
              · rw [hch] at HB
                have HE : Hid (mayPt p = true) := by show _ = _; unfold mayPt; simp [HG.out, HF.out, HM.out, HQ1.out, HQ2.out, hpa, hch]
                rw [HE.out]
                go_enter Tryz.func29, Tryz.ntmps29
                go_wp2_with fail
                refine (word_calls p.g _).mono ?_; rintro e w9 ⟨rfl, rfl⟩; rw [HG.out]
                go_wp2_with fail
                refine (rmay02_calls p.xx p.xy p.yx p.yy _).mono ?_; rintro e w1 ⟨rfl, hk1⟩; rw [HF.out]
                obtain ⟨hkw, b0, b1, b2, b3, b4, b5, b6, b7, b8, b9, b10⟩ := HB.out _ hk1
                have HKW := Lib.hid hkw
                clear hkw hk1
                go_wp2_with fail
                refine (signed_calls p.dx _).mono ?_; rintro e w9 ⟨rfl, rfl⟩; rw [HQ1.out]
                go_wp2_with fail
                refine (signed_calls p.dy _).mono ?_; rintro e w9 ⟨rfl, rfl⟩; rw [HQ2.out]
                go_wp2_with fail
                go_ret
                exact ⟨rfl, HKW.out⟩
              · have hbch : (p.ch == 0) = false := by simpa using hch
                have HE : Hid (mayPt p = false) := by show _ = _; unfold mayPt; simp [HG.out, HF.out, HM.out, HQ1.out, HQ2.out, hpa, hch]
                rw [HE.out]
                go_enter Tryz.func29, Tryz.ntmps29
                go_wp2_with fail
                refine (word_calls p.g _).mono ?_; rintro e w9 ⟨rfl, rfl⟩; rw [HG.out]
                go_wp2_with fail
                refine (rmay02_calls p.xx p.xy p.yx p.yy _).mono ?_; rintro e w1 ⟨rfl, hk1⟩; rw [HF.out]
                obtain ⟨hkw, b0, b1, b2, b3, b4, b5, b6, b7, b8, b9, b10⟩ := HB.out _ hk1
                have HKW := Lib.hid hkw
                clear hkw hk1
                go_wp2_with fail
                refine (signed_calls p.dx _).mono ?_; rintro e w9 ⟨rfl, rfl⟩; rw [HQ1.out]
                go_wp2_with fail
                refine (signed_calls p.dy _).mono ?_; rintro e w9 ⟨rfl, rfl⟩; rw [HQ2.out]
                go_wp2_with fail
                go_ret
                exact ⟨rfl, HKW.out⟩
            · have hbpa : (p.pa == 0) = false := by simpa using hpa
              have HE : Hid (mayPt p = false) := by show _ = _; unfold mayPt; simp [HG.out, HF.out, HM.out, HQ1.out, HQ2.out, hpa]
              rw [HE.out]
              go_enter Tryz.func29, Tryz.ntmps29
              go_wp2_with fail
              refine (word_calls p.g _).mono ?_; rintro e w9 ⟨rfl, rfl⟩; rw [HG.out]
              go_wp2_with fail
              refine (rmay02_calls p.xx p.xy p.yx p.yy _).mono ?_; rintro e w1 ⟨rfl, hk1⟩; rw [HF.out]
              obtain ⟨hkw, b0, b1, b2, b3, b4, b5, b6, b7, b8, b9, b10⟩ := HB.out _ hk1
              have HKW := Lib.hid hkw
              clear hkw hk1
              go_wp2_with fail
              refine (signed_calls p.dx _).mono ?_; rintro e w9 ⟨rfl, rfl⟩; rw [HQ1.out]
              go_wp2_with fail
              refine (signed_calls p.dy _).mono ?_; rintro e w9 ⟨rfl, rfl⟩; rw [HQ2.out]
              go_wp2_with fail
              go_ret
              exact ⟨rfl, HKW.out⟩
      · have HM := Lib.hid hm
        rw [hm] at HB
        clear hm
        cases hq1 : wordB p.pa
        · have HQ1 := Lib.hid hq1
          clear hq1
          have HE : Hid (mayPt p = false) := by show _ = _; unfold mayPt; simp [HG.out, HF.out, HM.out, HQ1.out]
          rw [HE.out]
          go_enter Tryz.func29, Tryz.ntmps29
          go_wp2_with fail
          refine (word_calls p.g _).mono ?_; rintro e w9 ⟨rfl, rfl⟩; rw [HG.out]
          go_wp2_with fail
          refine (rmay02_calls p.xx p.xy p.yx p.yy _).mono ?_; rintro e w1 ⟨rfl, hk1⟩; rw [HF.out]
          obtain ⟨hkw, b0, b1, b2, b3, b4, b5, b6, b7, b8, b9, b10⟩ := HB.out _ hk1
          have HKW := Lib.hid hkw
          clear hkw hk1
          go_wp2_with fail
          refine (word_calls p.pa _).mono ?_; rintro e w9 ⟨rfl, rfl⟩; rw [HQ1.out]
          go_wp2_with fail
          go_ret
          exact ⟨rfl, HKW.out⟩
        · have HQ1 := Lib.hid hq1
          clear hq1
          cases hq2 : wordB p.ch
          · have HQ2 := Lib.hid hq2
            clear hq2
            have HE : Hid (mayPt p = false) := by show _ = _; unfold mayPt; simp [HG.out, HF.out, HM.out, HQ1.out, HQ2.out]
            rw [HE.out]
            go_enter Tryz.func29, Tryz.ntmps29
            go_wp2_with fail
            refine (word_calls p.g _).mono ?_; rintro e w9 ⟨rfl, rfl⟩; rw [HG.out]
            go_wp2_with fail
            refine (rmay02_calls p.xx p.xy p.yx p.yy _).mono ?_; rintro e w1 ⟨rfl, hk1⟩; rw [HF.out]
            obtain ⟨hkw, b0, b1, b2, b3, b4, b5, b6, b7, b8, b9, b10⟩ := HB.out _ hk1
            have HKW := Lib.hid hkw
            clear hkw hk1
            go_wp2_with fail
            refine (word_calls p.pa _).mono ?_; rintro e w9 ⟨rfl, rfl⟩; rw [HQ1.out]
            go_wp2_with fail
            refine (word_calls p.ch _).mono ?_; rintro e w9 ⟨rfl, rfl⟩; rw [HQ2.out]
            go_wp2_with fail
            go_ret
            exact ⟨rfl, HKW.out⟩
          · have HQ2 := Lib.hid hq2
            clear hq2
            by_cases hdx : p.dx = 0
            · rw [hdx] at HB
              by_cases hdy : p.dy = 0
              · rw [hdy] at HB
                cases ht : p.t
                · rw [ht] at HB
                  have HE : Hid (mayPt p = true) := by show _ = _; unfold mayPt; simp [HG.out, HF.out, HM.out, HQ1.out, HQ2.out, hdx, hdy, ht]
                  rw [HE.out]
                  go_enter Tryz.func29, Tryz.ntmps29
                  go_wp2_with fail
                  refine (word_calls p.g _).mono ?_; rintro e w9 ⟨rfl, rfl⟩; rw [HG.out]
                  go_wp2_with fail
                  refine (rmay02_calls p.xx p.xy p.yx p.yy _).mono ?_; rintro e w1 ⟨rfl, hk1⟩; rw [HF.out]
                  obtain ⟨hkw, b0, b1, b2, b3, b4, b5, b6, b7, b8, b9, b10⟩ := HB.out _ hk1
                  have HKW := Lib.hid hkw
                  clear hkw hk1
                  go_wp2_with fail
                  refine (word_calls p.pa _).mono ?_; rintro e w9 ⟨rfl, rfl⟩; rw [HQ1.out]
                  go_wp2_with fail
                  refine (word_calls p.ch _).mono ?_; rintro e w9 ⟨rfl, rfl⟩; rw [HQ2.out]
                  go_wp2_with fail
                  go_ret
                  exact ⟨rfl, HKW.out⟩
                · rw [ht] at HB
                  have HE : Hid (mayPt p = false) := by show _ = _; unfold mayPt; simp [HG.out, HF.out, HM.out, HQ1.out, HQ2.out, hdx, hdy, ht]
                  rw [HE.out]
                  go_enter Tryz.func29, Tryz.ntmps29
                  go_wp2_with fail
                  refine (word_calls p.g _).mono ?_; rintro e w9 ⟨rfl, rfl⟩; rw [HG.out]
                  go_wp2_with fail
                  refine (rmay02_calls p.xx p.xy p.yx p.yy _).mono ?_; rintro e w1 ⟨rfl, hk1⟩; rw [HF.out]
                  obtain ⟨hkw, b0, b1, b2, b3, b4, b5, b6, b7, b8, b9, b10⟩ := HB.out _ hk1
                  have HKW := Lib.hid hkw
                  clear hkw hk1
                  go_wp2_with fail
                  refine (word_calls p.pa _).mono ?_; rintro e w9 ⟨rfl, rfl⟩; rw [HQ1.out]
                  go_wp2_with fail
                  refine (word_calls p.ch _).mono ?_; rintro e w9 ⟨rfl, rfl⟩; rw [HQ2.out]
                  go_wp2_with fail
                  go_ret
                  exact ⟨rfl, HKW.out⟩
              · have hbdy : (p.dy == 0) = false := by simpa using hdy
                have HE : Hid (mayPt p = false) := by show _ = _; unfold mayPt; simp [HG.out, HF.out, HM.out, HQ1.out, HQ2.out, hdx, hdy]
                rw [HE.out]
                go_enter Tryz.func29, Tryz.ntmps29
                go_wp2_with fail
                refine (word_calls p.g _).mono ?_; rintro e w9 ⟨rfl, rfl⟩; rw [HG.out]
                go_wp2_with fail
                refine (rmay02_calls p.xx p.xy p.yx p.yy _).mono ?_; rintro e w1 ⟨rfl, hk1⟩; rw [HF.out]
                obtain ⟨hkw, b0, b1, b2, b3, b4, b5, b6, b7, b8, b9, b10⟩ := HB.out _ hk1
                have HKW := Lib.hid hkw
                clear hkw hk1
                go_wp2_with fail
                refine (word_calls p.pa _).mono ?_; rintro e w9 ⟨rfl, rfl⟩; rw [HQ1.out]
                go_wp2_with fail
                refine (word_calls p.ch _).mono ?_; rintro e w9 ⟨rfl, rfl⟩; rw [HQ2.out]
                go_wp2_with fail
                go_ret
                exact ⟨rfl, HKW.out⟩
            · have hbdx : (p.dx == 0) = false := by simpa using hdx
              have HE : Hid (mayPt p = false) := by show _ = _; unfold mayPt; simp [HG.out, HF.out, HM.out, HQ1.out, HQ2.out, hdx]
              rw [HE.out]
              go_enter Tryz.func29, Tryz.ntmps29
              go_wp2_with fail
              refine (word_calls p.g _).mono ?_; rintro e w9 ⟨rfl, rfl⟩; rw [HG.out]
              go_wp2_with fail
              refine (rmay02_calls p.xx p.xy p.yx p.yy _).mono ?_; rintro e w1 ⟨rfl, hk1⟩; rw [HF.out]
              obtain ⟨hkw, b0, b1, b2, b3, b4, b5, b6, b7, b8, b9, b10⟩ := HB.out _ hk1
              have HKW := Lib.hid hkw
              clear hkw hk1
              go_wp2_with fail
              refine (word_calls p.pa _).mono ?_; rintro e w9 ⟨rfl, rfl⟩; rw [HQ1.out]
              go_wp2_with fail
              refine (word_calls p.ch _).mono ?_; rintro e w9 ⟨rfl, rfl⟩; rw [HQ2.out]
              go_wp2_with fail
              go_ret
              exact ⟨rfl, HKW.out⟩
end Go.Proofs.YtafkhnlmipddmaaGreat.Cp
namespace Go.Proofs.YtafkhnlmipddmaaGreat.Cp
open Go.RowKit
set_option linter.unusedVariables false
set_option linter.unusedSimpArgs false
theorem aone_calls (w : World) : Calls Tryz.prog 97 #[] w fun e w' => e = .returned (.agg #[.int .i64 16384, .int .i64 0, .int .i64 0, .int .i64 16384]) ∧ Kp [] w w' := by
  go_enter Tryz.func97, Tryz.ntmps97
  go_wp2_with fail
  refine bodyPost_ret (v := .agg #[.int .i64 16384, .int .i64 0, .int .i64 0, .int .i64 16384]) (by simp [results, Tryz.results97, go_sem]) rfl ⟨rfl, (Kp.refl _ _).alloc _⟩
theorem rone_calls (w : World) : Calls Tryz.prog 11 #[] w fun e w' => e = .returned (.agg #[.int .i64 16384, .int .i64 0, .int .i64 0, .int .i64 16384]) ∧ Kp [] w w' := by
  go_enter Tryz.func11, Tryz.ntmps11
  go_wp2_with fail
  refine bodyPost_ret (v := .agg #[.int .i64 16384, .int .i64 0, .int .i64 0, .int .i64 16384]) (by simp [results, Tryz.results11, go_sem]) rfl ⟨rfl, (Kp.refl _ _).alloc _⟩
def plainPt (g dx dy : Int) : Pt := ⟨g, 16384, 0, 0, 16384, false, dx, dy, false, 0, 0⟩
set_option maxRecDepth 100000 in
set_option maxHeartbeats 2000000 in
theorem plain_calls (g dx dy : Int) (w : World) : Calls Tryz.prog 86 #[.int .i64 g, .int .i64 dx, .int .i64 dy] w fun e w' => e = .returned (ptV (plainPt g dx dy)) ∧ Kp [] w w' := by
  go_enter Tryz.func86, Tryz.ntmps86
  go_wp2_with fail
  refine (aone_calls _).mono ?_; rintro e w1 ⟨rfl, hk1⟩
  obtain ⟨b0, b1, b2, b3, b4, b5, b6, b7, b8, b9, b10⟩ := box11 hk1
  have hblk := hk1.heap (heap_alloc_new w _) (by simp)
  have f0 := frozen_of_row w1 w.heap.size 0 _ _ hblk
  have f1 := frozen_of_row w1 w.heap.size 1 _ _ hblk
  have f2 := frozen_of_row w1 w.heap.size 2 _ _ hblk
  have f3 := frozen_of_row w1 w.heap.size 3 _ _ hblk
  have f4 := frozen_of_row w1 w.heap.size 4 _ _ hblk
  have f5 := frozen_of_row w1 w.heap.size 5 _ _ hblk
  have f6 := frozen_of_row w1 w.heap.size 6 _ _ hblk
  have f7 := frozen_of_row w1 w.heap.size 7 _ _ hblk
  have f8 := frozen_of_row w1 w.heap.size 8 _ _ hblk
  have f9 := frozen_of_row w1 w.heap.size 9 _ _ hblk
  have f10 := frozen_of_row w1 w.heap.size 10 _ _ hblk
  have hkw : Kp [] w w1 := ((Kp.refl _ _).alloc _).trans hk1
  go_wp2_with fail
  refine bodyPost_ret (v := .agg #[.int .i64 g, .int .i64 16384, .int .i64 0, .int .i64 0, .int .i64 16384, .bool false, .int .i64 dx, .int .i64 dy, .bool false, .int .i64 0, .int .i64 0]) (by simp [results, Tryz.results86, go_sem, *]) rfl ⟨rfl, (((((((((((hkw.setCell (.inr (Nat.le_refl _)) _).setCell (.inr (Nat.le_refl _)) _).setCell (.inr (Nat.le_refl _)) _).setCell (.inr (Nat.le_refl _)) _).setCell (.inr (Nat.le_refl _)) _).setCell (.inr (Nat.le_refl _)) _).setCell (.inr (Nat.le_refl _)) _).setCell (.inr (Nat.le_refl _)) _).setCell (.inr (Nat.le_refl _)) _).setCell (.inr (Nat.le_refl _)) _).setCell (.inr (Nat.le_refl _)) _)⟩
end Go.Proofs.YtafkhnlmipddmaaGreat.Cp
namespace Go.Proofs.YtafkhnlmipddmaaGreat.Cp
open Go.RowKit
set_option linter.unusedVariables false
set_option linter.unusedSimpArgs false
/-- A reader of the program: its bytes zs, where it stands, whether it is bad. -/
def RdS (w : World) (r : Nat) (v : Value) (zs : List Int) (k : Nat) (bad : Bool) : Prop := Rdr w r v k bad ∧ IsInts .u8 w v zs ∧ (∀ c ∈ zs, 0 ≤ c ∧ c ≤ 255) ∧ blockOf v ≠ some r ∧ k ≤ zs.length
theorem RdS.kp {S : List Nat} {w w' : World} {r : Nat} {v : Value} {zs : List Int} {k : Nat} {bad : Bool} (h : RdS w r v zs k bad) (hk : Kp S w w') (hr : r ∉ S) (hv : ∀ s ∈ S, blockOf v ≠ some s) : RdS w' r v zs k bad :=
  ⟨h.1.kp hk hr, h.2.1.kp hk hv, h.2.2⟩
theorem RdS.kp0 {w w' : World} {r : Nat} {v : Value} {zs : List Int} {k : Nat} {bad : Bool} (h : RdS w r v zs k bad) (hk : Kp [] w w') : RdS w' r v zs k bad := h.kp hk (by simp) (by simp)
theorem RdS.lt {w : World} {r : Nat} {v : Value} {zs : List Int} {k : Nat} {bad : Bool} (h : RdS w r v zs k bad) : r < w.heap.size := lt_of_block h.1
theorem RdS.read {w w' : World} {r : Nat} {v : Value} {zs : List Int} {k m : Nat} {bad : Bool} (h : RdS w r v zs k bad) (h1 : Rdr w' r v (rdK zs k bad m : Nat) (rdB zs k bad m)) (hk : Kp [r] w w') : RdS w' r v zs (rdK zs k bad m) (rdB zs k bad m) :=
  ⟨h1, h.2.1.kp hk (fun t ht e => by simp at ht; subst ht; exact h.2.2.2.1 e), h.2.2.1, h.2.2.2.1, rdK_le zs k bad m h.2.2.2.2⟩
section
variable {w : World} {r : Nat} {v : Value} {zs : List Int} {k : Nat} {bad : Bool}
theorem u8S (h : RdS w r v zs k bad) : Calls Tryz.prog 83 #[.pointer (some ⟨r, 0, none⟩)] w fun e w' => e = .returned (.int .i64 (rdV zs k bad 1)) ∧ RdS w' r v zs (rdK zs k bad 1) (rdB zs k bad 1) ∧ Kp [r] w w' :=
  (u8_calls r v zs k bad w h.1 h.2.1 h.2.2.1 h.2.2.2.1 h.2.2.2.2).mono fun e w' ⟨he, h1, hk⟩ => ⟨he, h.read h1 hk, hk⟩
theorem u16S (h : RdS w r v zs k bad) : Calls Tryz.prog 57 #[.pointer (some ⟨r, 0, none⟩)] w fun e w' => e = .returned (.int .i64 (rdV zs k bad 2)) ∧ RdS w' r v zs (rdK zs k bad 2) (rdB zs k bad 2) ∧ Kp [r] w w' :=
  (u16_calls r v zs k bad w h.1 h.2.1 h.2.2.1 h.2.2.2.1 h.2.2.2.2).mono fun e w' ⟨he, h1, hk⟩ => ⟨he, h.read h1 hk, hk⟩
theorem i16S (h : RdS w r v zs k bad) : Calls Tryz.prog 71 #[.pointer (some ⟨r, 0, none⟩)] w fun e w' => e = .returned (.int .i64 (s16 (rdV zs k bad 2))) ∧ RdS w' r v zs (rdK zs k bad 2) (rdB zs k bad 2) ∧ Kp [r] w w' :=
  (i16_calls r v zs k bad w h.1 h.2.1 h.2.2.1 h.2.2.2.1 h.2.2.2.2).mono fun e w' ⟨he, h1, hk⟩ => ⟨he, h.read h1 hk, hk⟩
theorem doneS (h : RdS w r v zs k bad) : Calls Tryz.prog 58 #[.pointer (some ⟨r, 0, none⟩)] w fun e w' => e = .returned (.int .i64 (bif bad then 30 else 0)) ∧ w = w' := done_calls r v k bad w h.1
end
def s8 (x : Int) : Int := if 128 ≤ x then x - 256 else x
theorem wrap8_s8 (x : Int) (h0 : 0 ≤ x) (h1 : x < 256) : IntKind.i8.wrap x = s8 x := by
  unfold s8; by_cases h : 128 ≤ x <;> simp [IntKind.wrap, IntKind.signed, IntKind.bits, h] <;> omega
set_option maxRecDepth 100000 in
theorem takeS {w : World} {r : Nat} {v : Value} {zs : List Int} {k : Nat} {bad : Bool} (m : Nat) (hm : 1 ≤ m) (hm2 : m ≤ 1000) (h : RdS w r v zs k bad) :
    Calls Tryz.prog 72 #[.pointer (some ⟨r, 0, none⟩), .int .i64 m] w fun e w' => (∃ v', e = .returned v') ∧ RdS w' r v zs (rdK zs k bad m) (rdB zs k bad m) ∧ Kp [r] w w' := by
  have H := Lib.hid h
  cases bad with
  | true =>
    have e1 : rdB zs k true m = true := rfl
    have e2 : rdK zs k true m = k := rfl
    rw [e1, e2]
    clear h
    go_enter Tryz.func72, Tryz.ntmps72
    go_wp2_with fail
    refine (next_bad r v k m w H.out.1).mono ?_; rintro e w1 ⟨rfl, h1, hk1⟩
    go_wp2_with fail
    refine (clone_calls (.slice none 0 0) [] w1 (.inl ⟨⟨_, rfl⟩, rfl⟩) (by simp)).mono ?_; rintro e w2 ⟨v2, rfl, _, hk2, _⟩
    have hR := Lib.hid ((H.out.read (m := m) (by rw [e1, e2]; exact h1) hk1).kp0 hk2)
    rw [e1, e2] at hR
    go_wp2_with fail
    go_ret
    exact ⟨⟨_, rfl⟩, hR.out, hk1.trans0 hk2⟩
  | false =>
    by_cases hs : zs.length < k + m
    · have e1 : rdB zs k false m = true := by unfold rdB; rw [decide_eq_true hs]; rfl
      have e2 : rdK zs k false m = k := by unfold rdK; rw [e1]; rfl
      rw [e1, e2]
      obtain ⟨p, c, rfl⟩ : ∃ p c, v = .slice p zs.length c := by
        rcases h.2.1 with ⟨⟨pb, rfl⟩, rfl⟩ | ⟨g, off, c, rfl, _⟩
        · exact ⟨_, _, rfl⟩
        · exact ⟨_, _, rfl⟩
      have hle := h.2.1.le
      have hkz := h.2.2.2.2
      have HN := Lib.hid (next_short r p zs.length c k m w h.1 (by omega) (by omega) hle hkz)
      clear h hle hkz
      go_enter Tryz.func72, Tryz.ntmps72
      go_wp2_with fail
      refine HN.out.mono ?_; rintro e w1 ⟨rfl, h1, hk1⟩
      go_wp2_with fail
      refine (clone_calls (.slice none 0 0) [] w1 (.inl ⟨⟨_, rfl⟩, rfl⟩) (by simp)).mono ?_; rintro e w2 ⟨v2, rfl, _, hk2, _⟩
      have hR := Lib.hid ((H.out.read (m := m) (by rw [e1, e2]; exact h1) hk1).kp0 hk2)
      rw [e1, e2] at hR
      go_wp2_with fail
      go_ret
      exact ⟨⟨_, rfl⟩, hR.out, hk1.trans0 hk2⟩
    · have e1 : rdB zs k false m = false := by unfold rdB; rw [decide_eq_false hs]; rfl
      have e2 : rdK zs k false m = k + m := by unfold rdK; rw [e1]; rfl
      rw [e1, e2]
      rcases h.2.1 with ⟨⟨pb, rfl⟩, rfl⟩ | ⟨g, off, c, rfl, g1, g2, g3⟩
      · simp at hs; omega
      have HN := Lib.hid (next_ok r g off zs.length c k m m rfl w h.1 (by omega) (by omega) g1 g2)
      have HI : Hid (∀ W, Kp [r] w W → IsInts .u8 W (.slice (some ⟨g, off + k, none⟩) m (c - k)) ((zs.drop k).take m)) := fun W hW => by
        have hw := h.2.1.kp hW (fun t ht e => by simp at ht; subst ht; exact h.2.2.2.1 e)
        rcases hw with ⟨⟨pb, e⟩, h0⟩ | ⟨g', off', c', e, _, _, g4⟩
        · rw [h0] at hs; simp at hs; omega
        · cases e
          refine .inr ⟨g, off + k, c - k, by rw [show ((zs.drop k).take m).length = m by simp; omega], by simp; omega, by omega, fun i hi => ?_⟩
          have hi2 : i < m := by simp at hi; omega
          rw [Nat.add_assoc, g4 (k + i) (by omega)]
          simp only [List.getD_eq_getElem?_getD]
          rw [List.getElem?_take_of_lt hi2, List.getElem?_drop]
      clear h g1 g2 g3
      go_enter Tryz.func72, Tryz.ntmps72
      go_wp2_with fail
      refine HN.out.mono ?_; rintro e w1 ⟨rfl, h1, hk1⟩
      go_wp2_with fail
      refine (clone_calls _ _ w1 (HI.out _ hk1) (by simp; omega)).mono ?_; rintro e w2 ⟨v2, rfl, _, hk2, _⟩
      have hR := Lib.hid ((H.out.read (m := m) (by rw [e1, e2]; exact h1) hk1).kp0 hk2)
      rw [e1, e2] at hR
      go_wp2_with fail
      go_ret
      exact ⟨⟨_, rfl⟩, hR.out, hk1.trans0 hk2⟩
/-- What 'number' hands out: a function of no arguments that reads one. -/
def argN (X : Int) : Nat := if X = 1 ∨ X = 3 then 2 else 1
def argV (X x : Int) : Int := if X = 3 then s16 x else if X = 2 then s8 x else x
theorem s8_bounds (x : Int) (h0 : 0 ≤ x) (h1 : x < 256) : -128 ≤ s8 x ∧ s8 x ≤ 127 := by unfold s8; split <;> omega
set_option maxRecDepth 100000 in
theorem num1_calls (B : Nat) {w : World} {r : Nat} {v : Value} {zs : List Int} {k : Nat} {bad : Bool} (h : RdS w r v zs k bad) (hB : w.cell? ⟨B, 0, none⟩ = some (.pointer (some ⟨r, 0, none⟩))) :
    Calls Tryz.prog 98 #[.pointer (some ⟨B, 0, none⟩)] w fun e w' => e = .returned (.int .i64 (s8 (rdV zs k bad 1))) ∧ RdS w' r v zs (rdK zs k bad 1) (rdB zs k bad 1) ∧ Kp [r] w w' := by
  obtain ⟨q0, q1⟩ := rdV_bounds zs k bad 1 h.2.2.1
  have H := Lib.hid h
  have e1 := wrap8_s8 _ q0 (by simpa using q1)
  obtain ⟨q2, q3⟩ := s8_bounds _ q0 (by simpa using q1)
  have E1 := Lib.hid e1
  clear h e1
  go_enter Tryz.func98, Tryz.ntmps98
  go_wp2_with fail
  refine (u8S H.out).mono ?_; rintro e w1 ⟨rfl, h1, hk1⟩
  have H1 := Lib.hid h1
  clear h1
  generalize hy : rdV zs k bad 1 = y at E1 q0 q1 q2 q3 ⊢
  have E4 : Hid (s8 y = s8 (rdV zs k bad 1)) := by rw [hy]; rfl
  clear hy
  have e1 := E1.out
  go_wp2_with fail
  go_ret
  exact ⟨by rw [← E4.out]; first | rfl | simp, H1.out, hk1⟩
end Go.Proofs.YtafkhnlmipddmaaGreat.Cp
namespace Go.Proofs.YtafkhnlmipddmaaGreat.Cp
open Go.RowKit
set_option linter.unusedVariables false
set_option linter.unusedSimpArgs false
/-- What 'number' hands out at flags & 3 = X: a method bound to the reader, or a function that has captured a box of it. -/
def NumV (w : World) (r : Nat) (X : Int) (fv : Value) : Prop :=
  (X = 1 ∧ fv = .func (.func 57) #[.pointer (some ⟨r, 0, none⟩)] #[]) ∨ (X = 3 ∧ fv = .func (.func 71) #[.pointer (some ⟨r, 0, none⟩)] #[]) ∨ (X = 0 ∧ fv = .func (.func 83) #[.pointer (some ⟨r, 0, none⟩)] #[]) ∨
  (X = 2 ∧ ∃ B, fv = .func (.func 98) #[] #[.pointer (some ⟨B, 0, none⟩)] ∧ B ≠ r ∧ w.cell? ⟨B, 0, none⟩ = some (.pointer (some ⟨r, 0, none⟩)))
set_option maxRecDepth 100000 in
theorem number_kinds (r : Nat) (f : Int) (w : World) (hr : r < w.heap.size) : Calls Tryz.prog 87 #[.pointer (some ⟨r, 0, none⟩), .int .i64 f] w fun e w' => ∃ fv, e = .returned fv ∧ NumV w' r (f % 4) fv ∧ Kp [] w w' ∧ ∀ B g c, fv = .func g c #[.pointer (some ⟨B, 0, none⟩)] → w.heap.size ≤ B := by
  have hm := i64_and3 f
  have h0 : 0 ≤ f % 4 ∧ f % 4 < 4 := by omega
  have HR := Lib.hid hr
  generalize f % 4 = X at *
  rcases (show X = 0 ∨ X = 1 ∨ X = 2 ∨ X = 3 by omega) with rfl | rfl | rfl | rfl
  · clear h0 hr
    go_enter Tryz.func87, Tryz.ntmps87
    go_wp2_with fail
    go_ret
    exact ⟨_, rfl, .inr (.inr (.inl ⟨rfl, rfl⟩)), (Kp.refl _ _).alloc _, fun B g c e => by simp at e⟩
  · clear h0 hr
    go_enter Tryz.func87, Tryz.ntmps87
    go_wp2_with fail
    go_ret
    exact ⟨_, rfl, .inl ⟨rfl, rfl⟩, (Kp.refl _ _).alloc _, fun B g c e => by simp at e⟩
  · clear h0 hr
    go_enter Tryz.func87, Tryz.ntmps87
    go_wp2_with fail
    go_ret
    exact ⟨_, rfl, .inr (.inr (.inr ⟨rfl, w.heap.size, rfl, by have := HR.out; omega, by rw [cell_of_row _ w.heap.size 0 _ _ _ (heap_alloc_new w _)]; rfl⟩)), (Kp.refl _ _).alloc _, fun B g c e => by simp at e; obtain ⟨_, _, rfl⟩ := e; exact Nat.le_refl _⟩
  · clear h0 hr
    go_enter Tryz.func87, Tryz.ntmps87
    go_wp2_with fail
    go_ret
    exact ⟨_, rfl, .inr (.inl ⟨rfl, rfl⟩), (Kp.refl _ _).alloc _, fun B g c e => by simp at e⟩
/-- Slices of pointers into the block B, at these cells; laid at b0 or behind it. -/
def IsPl (b0 : Nat) (w : World) (v : Value) (B : Nat) (PL : List (List Nat)) : Prop :=
  (v = .slice none 0 0 ∧ PL = []) ∨ ∃ G, v = .slice (some ⟨G, 0, none⟩) PL.length PL.length ∧ b0 ≤ G ∧ ∀ j, j < PL.length → ∃ g, w.cell? ⟨G, j, none⟩ = some (.slice (some ⟨g, 0, none⟩) (PL.getD j []).length (PL.getD j []).length) ∧ b0 ≤ g ∧ ∀ i, i < (PL.getD j []).length → w.cell? ⟨g, i, none⟩ = some (.pointer (some ⟨B, (PL.getD j []).getD i 0, none⟩))
theorem IsPl.kp {S : List Nat} {b0 : Nat} {w w' : World} {v : Value} {B : Nat} {PL : List (List Nat)} (h : IsPl b0 w v B PL) (hk : Kp S w w') (hS : ∀ t ∈ S, t < b0) : IsPl b0 w' v B PL := by
  rcases h with h | ⟨G, rfl, hG, h⟩
  · exact .inl h
  · refine .inr ⟨G, rfl, hG, fun j hj => ?_⟩
    obtain ⟨g, h1, h2, h3⟩ := h j hj
    exact ⟨g, hk.cell h1 (fun ht => by have := hS _ ht; simp at this; omega), h2, fun i hi => hk.cell (h3 i hi) (fun ht => by have := hS _ ht; simp at this; omega)⟩
theorem IsPl.form {b0 : Nat} {w : World} {v : Value} {B : Nat} {PL : List (List Nat)} (h : IsPl b0 w v B PL) : ∃ p, v = .slice p PL.length PL.length := by
  rcases h with ⟨rfl, rfl⟩ | ⟨G, rfl, _⟩
  · exact ⟨_, rfl⟩
  · exact ⟨_, rfl⟩
def plM (Y : Int) : List (List Nat) := if Y = 8 then [[1, 4]] else if Y = 64 then [[1], [4]] else if Y = 128 then [[1], [2], [3], [4]] else []
def okM (Y : Int) : Bool := decide (Y = 0) || decide (Y = 8) || decide (Y = 64) || decide (Y = 128)
end Go.Proofs.YtafkhnlmipddmaaGreat.Cp
namespace Go.Proofs.YtafkhnlmipddmaaGreat.Cp
open Go.RowKit
set_option linter.unusedVariables false
set_option linter.unusedSimpArgs false
set_option maxRecDepth 100000 in
set_option maxHeartbeats 16000000 in
theorem places_128 (B : Nat) (f : Int) (hY : bits .and .i64 f 200 = 128) (w : World) : Calls Tryz.prog 88 #[.pointer (some ⟨B, 1, none⟩), .int .i64 f] w fun e w' => ∃ v, e = .returned (.tuple #[v, .bool (okM 128)]) ∧ IsPl w.heap.size w' v B (plM 128) ∧ Kp [] w w' := by
  rw [show plM 128 = [[1], [2], [3], [4]] from rfl]
  go_enter Tryz.func88, Tryz.ntmps88
  go_wp2_with fail
  go_region_held3 (fun _ => True) (trivial) (fail)
  all_goals
    go_wp2_with fail
    go_ret2
    refine ⟨_, rfl, .inr ⟨_, rfl, by omega, fun j hj => ?_⟩, by (repeat (first | exact Kp.refl _ _ | assumption | refine Kp.drew ?_ | refine Kp.drewN ?_ _ | refine Kp.alloc ?_ _ | (refine Kp.setCell ?_ (by first | (left; simp; done) | (right; simp; try omega)) _) | (refine Kp.trans' ?_ (by assumption) (by simp; try omega))))⟩
    have hj : j < 4 := hj
    match j, hj with
    | 0, _ =>
      refine ⟨_, by go_simp; first | rfl | exact ⟨rfl, rfl⟩, by omega, fun i hi => ?_⟩
      have hi : i < 1 := hi
      match i, hi with
      | 0, _ => (go_simp; first | done | rfl)
    | 1, _ =>
      refine ⟨_, by go_simp; first | rfl | exact ⟨rfl, rfl⟩, by omega, fun i hi => ?_⟩
      have hi : i < 1 := hi
      match i, hi with
      | 0, _ => (go_simp; first | done | rfl)
    | 2, _ =>
      refine ⟨_, by go_simp; first | rfl | exact ⟨rfl, rfl⟩, by omega, fun i hi => ?_⟩
      have hi : i < 1 := hi
      match i, hi with
      | 0, _ => (go_simp; first | done | rfl)
    | 3, _ =>
      refine ⟨_, by go_simp; first | rfl | exact ⟨rfl, rfl⟩, by omega, fun i hi => ?_⟩
      have hi : i < 1 := hi
      match i, hi with
      | 0, _ => (go_simp; first | done | rfl)

end Go.Proofs.YtafkhnlmipddmaaGreat.Cp
namespace Go.Proofs.YtafkhnlmipddmaaGreat.Cp
open Go.RowKit
set_option linter.unusedVariables false
set_option linter.unusedSimpArgs false
set_option maxRecDepth 100000 in
set_option maxHeartbeats 2000000 in
theorem places_calls (B : Nat) (f Y : Int) (hY : bits .and .i64 f 200 = Y) (w : World) : Calls Tryz.prog 88 #[.pointer (some ⟨B, 1, none⟩), .int .i64 f] w fun e w' => ∃ v, e = .returned (.tuple #[v, .bool (okM Y)]) ∧ IsPl w.heap.size w' v B (plM Y) ∧ Kp [] w w' := by
  by_cases h0 : Y = 0
  · subst h0
    go_enter Tryz.func88, Tryz.ntmps88
    go_wp2_with fail
    go_ret2
    exact ⟨_, rfl, .inl ⟨rfl, rfl⟩, Kp.refl _ _⟩
  by_cases h8 : Y = 8
  · subst h8
    rw [show plM 8 = [[1, 4]] from rfl]
    clear h0
    go_enter Tryz.func88, Tryz.ntmps88
    go_wp2_with fail
    go_region_held3 (fun _ => True) (trivial) (fail)
    all_goals
      go_wp2_with fail
      go_ret2
      refine ⟨_, rfl, .inr ⟨_, rfl, by omega, fun j hj => ?_⟩, by (repeat (first | exact Kp.refl _ _ | assumption | refine Kp.drew ?_ | refine Kp.drewN ?_ _ | refine Kp.alloc ?_ _ | (refine Kp.setCell ?_ (by first | (left; simp; done) | (right; simp; try omega)) _) | (refine Kp.trans' ?_ (by assumption) (by simp; try omega))))⟩
      have hj : j < 1 := hj
      match j, hj with
      | 0, _ =>
        refine ⟨_, by go_simp; first | rfl | exact ⟨rfl, rfl⟩, by omega, fun i hi => ?_⟩
        have hi : i < 2 := hi
        match i, hi with
        | 0, _ => (go_simp; first | done | rfl)
        | 1, _ => (go_simp; first | done | rfl)
  by_cases h64 : Y = 64
  · subst h64
    rw [show plM 64 = [[1], [4]] from rfl]
    clear h0 h8
    go_enter Tryz.func88, Tryz.ntmps88
    go_wp2_with fail
    go_region_held3 (fun _ => True) (trivial) (fail)
    all_goals
      go_wp2_with fail
      go_ret2
      refine ⟨_, rfl, .inr ⟨_, rfl, by omega, fun j hj => ?_⟩, by (repeat (first | exact Kp.refl _ _ | assumption | refine Kp.drew ?_ | refine Kp.drewN ?_ _ | refine Kp.alloc ?_ _ | (refine Kp.setCell ?_ (by first | (left; simp; done) | (right; simp; try omega)) _) | (refine Kp.trans' ?_ (by assumption) (by simp; try omega))))⟩
      have hj : j < 2 := hj
      match j, hj with
      | 0, _ =>
        refine ⟨_, by go_simp; first | rfl | exact ⟨rfl, rfl⟩, by omega, fun i hi => ?_⟩
        have hi : i < 1 := hi
        match i, hi with
        | 0, _ => (go_simp; first | done | rfl)
      | 1, _ =>
        refine ⟨_, by go_simp; first | rfl | exact ⟨rfl, rfl⟩, by omega, fun i hi => ?_⟩
        have hi : i < 1 := hi
        match i, hi with
        | 0, _ => (go_simp; first | done | rfl)
  by_cases h128 : Y = 128
  · subst h128
    exact places_128 B f hY w
  · have HE : Hid (okM Y = false ∧ plM Y = []) := by show _ ∧ _; simp [okM, plM, h0, h8, h64, h128]
    go_enter Tryz.func88, Tryz.ntmps88
    go_wp2_with fail
    go_ret2
    exact ⟨_, by rw [HE.out.1]; rfl, .inl ⟨rfl, HE.out.2⟩, Kp.refl _ _⟩
end Go.Proofs.YtafkhnlmipddmaaGreat.Cp
namespace Go.Proofs.YtafkhnlmipddmaaGreat.Cp
open Go.RowKit
set_option linter.unusedVariables false
set_option linter.unusedSimpArgs false
/-- Where a reader stands. -/
abbrev Rs := Nat × Bool
def stp (zs : List Int) (m : Nat) (s : Rs) : Rs := (rdK zs s.1 s.2 m, rdB zs s.1 s.2 m)
def val (zs : List Int) (m : Nat) (s : Rs) : Int := rdV zs s.1 s.2 m
/-- The matrix' numbers, put at their places of the cells. -/
def putAll (L : List Value) (x : Int) : List Nat → List Value
  | [] => L
  | c :: cs => putAll (L.set c (.int .i64 x)) x cs
def fillM (zs : List Int) : List (List Nat) → Rs → List Value → Rs × List Value
  | [], s, L => (s, L)
  | pl :: pls, s, L => fillM zs pls (stp zs 2 s) (putAll L (s16 (val zs 2 s)) pl)
theorem putAll_length (cs : List Nat) (x : Int) : ∀ L : List Value, (putAll L x cs).length = L.length := by
  induction cs with
  | nil => intro L; rfl
  | cons c cs ih => intro L; rw [putAll, ih, List.length_set]
theorem putAll_snoc (cs : List Nat) (c : Nat) (x : Int) : ∀ L : List Value, putAll L x (cs ++ [c]) = (putAll L x cs).set c (.int .i64 x) := by
  induction cs with
  | nil => intro L; rfl
  | cons d cs ih => intro L; rw [List.cons_append, putAll, ih]; rfl
theorem fillM_snoc (zs : List Int) (pls : List (List Nat)) (pl : List Nat) : ∀ (s : Rs) (L : List Value), fillM zs (pls ++ [pl]) s L = (stp zs 2 (fillM zs pls s L).1, putAll (fillM zs pls s L).2 (s16 (val zs 2 (fillM zs pls s L).1)) pl) := by
  induction pls with
  | nil => intro s L; rfl
  | cons q pls ih => intro s L; rw [List.cons_append, fillM, ih]; rfl
theorem fillM_length (zs : List Int) (pls : List (List Nat)) : ∀ (s : Rs) (L : List Value), (fillM zs pls s L).2.length = L.length := by
  induction pls with
  | nil => intro s L; rfl
  | cons q pls ih => intro s L; rw [fillM, ih, putAll_length]
theorem take_snoc {α : Type} (l : List α) (j : Nat) (d : α) (h : j < l.length) : l.take (j + 1) = l.take j ++ [l.getD j d] := by
  rw [List.take_succ_eq_append_getElem h, List.getD_eq_getElem?_getD, List.getElem?_eq_getElem h]; rfl
/-- What a part's first numbers are: flags, glyph, the two arguments; and where the reader then stands. -/
structure Hd where
  f : Int
  g : Int
  a : Int
  b : Int
  s : Rs
def headM (zs : List Int) (s : Rs) : Hd :=
  let f := val zs 2 s
  let s1 := stp zs 2 s
  let g := val zs 2 s1
  let s2 := stp zs 2 s1
  let n := argN (f % 4)
  let a := argV (f % 4) (val zs n s2)
  let s3 := stp zs n s2
  let b := argV (f % 4) (val zs n s3)
  ⟨f, g, a, b, stp zs n s3⟩
def turnB (f : Int) : Bool := decide (bits .and .i64 f 6144 = 2048)
def stepB (f : Int) : Bool := decide (bits .and .i64 f 2 ≠ 0)
/-- The part, its matrix not yet read. -/
def bareM (h : Hd) : Pt := if stepB h.f then ⟨h.g, 16384, 0, 0, 16384, false, h.a, h.b, turnB h.f, 0, 0⟩ else ⟨h.g, 16384, 0, 0, 16384, true, 0, 0, false, h.a, h.b⟩
def matM (f : Int) : Int := bits .and .i64 f 200
/-- The cells of a part behind its matrix. -/
def cellsM (zs : List Int) (h : Hd) : Rs × List Value := fillM zs (plM (matM h.f)) h.s (ptCells (bareM h)).toList
/-- The part itself: the matrix by its flags. -/
def partM (zs : List Int) (s : Rs) : Pt × Bool × Bool × Rs :=
  let h := headM zs s
  let p := bareM h
  let Y := matM h.f
  let x1 := s16 (val zs 2 h.s)
  let s1 := stp zs 2 h.s
  let x2 := s16 (val zs 2 s1)
  let s2 := stp zs 2 s1
  let x3 := s16 (val zs 2 s2)
  let s3 := stp zs 2 s2
  let x4 := s16 (val zs 2 s3)
  let s4 := stp zs 2 s3
  let q : Pt × Rs := if Y = 8 then ({ p with xx := x1, yy := x1 }, s1) else if Y = 64 then ({ p with xx := x1, yy := x2 }, s2) else if Y = 128 then ({ p with xx := x1, xy := x2, yx := x3, yy := x4 }, s4) else (p, h.s)
  (q.1, decide (bits .and .i64 h.f 32 ≠ 0), okM Y && !q.2.2, q.2)
theorem cells_part (zs : List Int) (s : Rs) : cellsM zs (headM zs s) = ((partM zs s).2.2.2, (ptCells (partM zs s).1).toList) := by
  unfold cellsM partM plM
  dsimp only
  generalize headM zs s = h
  generalize matM h.f = Y
  by_cases h8 : Y = 8
  · subst h8; rfl
  by_cases h64 : Y = 64
  · subst h64; rfl
  by_cases h128 : Y = 128
  · subst h128; rfl
  · simp only [if_neg h8, if_neg h64, if_neg h128]; rfl
theorem partM_flags (zs : List Int) (s : Rs) : (partM zs s).2.1 = decide (bits .and .i64 (headM zs s).f 32 ≠ 0) ∧ (partM zs s).2.2.1 = (okM (matM (headM zs s).f) && !(partM zs s).2.2.2.2) := ⟨rfl, rfl⟩
theorem plM_ok (Y : Int) : ∀ j, j < (plM Y).length → ∀ i, i < ((plM Y).getD j []).length → ((plM Y).getD j []).getD i 0 < 11 := by
  unfold plM
  by_cases h8 : Y = 8
  · rw [if_pos h8]; decide
  · rw [if_neg h8]
    by_cases h64 : Y = 64
    · rw [if_pos h64]; decide
    · rw [if_neg h64]
      by_cases h128 : Y = 128
      · rw [if_pos h128]; decide
      · rw [if_neg h128]; decide
theorem plM_len (Y : Int) : (plM Y).length ≤ 4 ∧ ∀ j, j < (plM Y).length → ((plM Y).getD j []).length ≤ 2 := by
  unfold plM
  by_cases h8 : Y = 8
  · rw [if_pos h8]; decide
  · rw [if_neg h8]
    by_cases h64 : Y = 64
    · rw [if_pos h64]; decide
    · rw [if_neg h64]
      by_cases h128 : Y = 128
      · rw [if_pos h128]; decide
      · rw [if_neg h128]; decide
/-- Where 'part' stands in memory in its loops. -/
def PtSt (w wr : World) (r : Nat) (v : Value) (zs : List Int) (B b0 : Nat) (v10 : Value) (PL : List (List Nat)) (s : Rs) (L : List Value) : Prop :=
  RdS wr r v zs s.1 s.2 ∧ wr.heap[B]? = some (.cells L.toArray 34 (0, 0)) ∧ wr.heap[w.heap.size]? = some (.cells #[.int .i64 0, .int .i64 0, .int .i64 0, .int .i64 0, .int .i64 0, .bool false, .int .i64 0, .int .i64 0, .bool false, .int .i64 0, .int .i64 0] 34 (0, 0)) ∧ IsPl b0 wr v10 B PL ∧ Kp [r] w wr ∧ r < w.heap.size ∧ w.heap.size < B ∧ B < b0 ∧ blockOf v ≠ some B ∧ L.length = 11
theorem PtSt.read {w wr w' : World} {r B b0 : Nat} {v v10 : Value} {zs : List Int} {PL : List (List Nat)} {s s' : Rs} {L : List Value} (h : PtSt w wr r v zs B b0 v10 PL s L) (hr : RdS w' r v zs s'.1 s'.2) (hk : Kp [r] wr w') : PtSt w w' r v zs B b0 v10 PL s' L := by
  obtain ⟨h1, h2, h3, h4, h5, h6, h7, h8, h9, h10⟩ := h
  exact ⟨hr, hk.heap h2 (by simp; omega), hk.heap h3 (by simp; omega), h4.kp hk (fun t ht => by simp at ht; omega), h5.trans hk, h6, h7, h8, h9, h10⟩
theorem PtSt.put {w wr : World} {r B b0 : Nat} {v v10 : Value} {zs : List Int} {PL : List (List Nat)} {s : Rs} {L : List Value} (h : PtSt w wr r v zs B b0 v10 PL s L) (c : Nat) (x : Int) : PtSt w (wr.setCell ⟨B, c, none⟩ (.int .i64 x)) r v zs B b0 v10 PL s (L.set c (.int .i64 x)) := by
  obtain ⟨h1, h2, h3, h4, h5, h6, h7, h8, h9, h10⟩ := h
  have hk : Kp [B] wr (wr.setCell ⟨B, c, none⟩ (.int .i64 x)) := (Kp.refl _ _).setCell (.inl (by simp)) _
  refine ⟨h1.kp hk (by simp; omega) (fun t ht e => by simp at ht; subst ht; exact h9 e), ?_, hk.heap h3 (by simp; omega), h4.kp hk (fun t ht => by simp at ht; omega), h5.trans' hk (fun t ht => by simp at ht; subst ht; exact .inr (by omega)), h6, h7, h8, h9, by simp [h10]⟩
  rw [heap_setCell_same wr B c _ _ (.int .i64 x) h2]; simp
theorem PtSt.cell {w wr : World} {r B b0 : Nat} {v v10 : Value} {zs : List Int} {PL : List (List Nat)} {s : Rs} {L : List Value} (h : PtSt w wr r v zs B b0 v10 PL s L) (c : Nat) (hc : c < 11) : (∃ u, wr.cell? ⟨B, c, none⟩ = some u) ∧ wr.frozen? ⟨B, c, none⟩ = false := by
  obtain ⟨h1, h2, h3, h4, h5, h6, h7, h8, h9, h10⟩ := h
  exact ⟨⟨L[c]'(by omega), by rw [cell_of_row wr B c _ _ _ h2]; simp [h10, hc]⟩, frozen_of_row wr B c _ _ h2⟩
end Go.Proofs.YtafkhnlmipddmaaGreat.Cp
namespace Go.Proofs.YtafkhnlmipddmaaGreat.Cp
open Go.RowKit
set_option linter.unusedVariables false
set_option linter.unusedSimpArgs false
/-- Parts as cells. -/
def ptsCells (l : List Pt) : List Value := l.flatMap fun p => (ptCells p).toList
theorem ptsCells_length (l : List Pt) : (ptsCells l).length = l.length * 11 := by
  induction l with
  | nil => rfl
  | cons p l ih => simp [ptsCells, ptCells] at ih ⊢; omega
theorem ptsCells_app (l r : List Pt) : ptsCells (l ++ r) = ptsCells l ++ ptsCells r := by simp [ptsCells]
theorem ptsCells_snoc (l : List Pt) (p : Pt) : ptsCells (l ++ [p]) = ptsCells l ++ (ptCells p).toList := by simp [ptsCells]
def pt0 : Pt := ⟨0, 0, 0, 0, 0, false, 0, 0, false, 0, 0⟩
theorem ptsCells_at (l : List Pt) (i : Nat) (h : i < l.length) : ∀ j, j < 11 → (ptsCells l)[i * 11 + j]? = (ptCells (l.getD i pt0))[j]? := by
  induction l generalizing i with
  | nil => simp at h
  | cons p l ih =>
    intro j hj
    have e : ptsCells (p :: l) = (ptCells p).toList ++ ptsCells l := by simp [ptsCells]
    have hl : (ptCells p).toList.length = 11 := rfl
    cases i with
    | zero =>
      rw [e, List.getElem?_append_left (by omega)]
      simp
    | succ i =>
      have := ih i (by simpa using h) j hj
      rw [e, List.getElem?_append_right (by omega), hl, show (i + 1) * 11 + j - 11 = i * 11 + j by omega, this]
      simp
/-- A slice of parts that can be read. -/
def IsPts (w : World) (v : Value) (l : List Pt) : Prop := Reads 11 w v l.length (ptsCells l)
theorem IsPts.kp {S : List Nat} {w w' : World} {v : Value} {l : List Pt} (h : IsPts w v l) (hk : Kp S w w') (hS : ∀ s ∈ S, blockOf v ≠ some s) : IsPts w' v l := Reads.kp h hk hS
theorem IsPts.nil (w : World) (a : Option Addr) : IsPts w (.slice a 0 0) [] := ⟨rfl, .inl ⟨⟨a, rfl⟩, rfl⟩⟩
/-- It is empty, or its cells lie at an address. -/
theorem IsPts.cases {w : World} {v : Value} {l : List Pt} (h : IsPts w v l) :
    (∃ ad, v = .slice ad 0 0 ∧ l = []) ∨
    ∃ g off c, v = .slice (some ⟨g, off, none⟩) l.length c ∧ l.length ≤ c ∧ c ≤ maxLen ∧ ∀ i, i < l.length → ∀ j u, (ptCells (l.getD i pt0))[j]? = some u → w.cell? ⟨g, off + i * 11 + j, none⟩ = some u := by
  rcases h.2 with ⟨⟨ad, rfl⟩, h0⟩ | ⟨g, off, c, rfl, h1, h2, h3⟩
  · have hl : l = [] := List.eq_nil_of_length_eq_zero (by first | exact h0 | simpa using h0)
    subst hl
    exact .inl ⟨ad, rfl, rfl⟩
  · refine .inr ⟨g, off, c, rfl, h1, h2, fun i hi j u hu => ?_⟩
    have hj : j < 11 := by
      have := (Array.getElem?_eq_some_iff.1 hu).1
      exact this
    have := h3 (i * 11 + j) u (by rw [ptsCells_at l i hi j hj]; exact hu)
    rwa [← Nat.add_assoc] at this
theorem IsPts.form {w : World} {v : Value} {l : List Pt} (h : IsPts w v l) : ∃ p c, v = .slice p l.length c := by
  rcases h.cases with ⟨ad, rfl, rfl⟩ | ⟨g, off, c, rfl, _⟩
  · exact ⟨_, 0, rfl⟩
  · exact ⟨_, c, rfl⟩
theorem IsPts.le {w : World} {v : Value} {l : List Pt} (h : IsPts w v l) : l.length ≤ maxLen := by
  rcases h.cases with ⟨ad, rfl, rfl⟩ | ⟨g, off, c, rfl, h1, h2, _⟩
  · simp
  · omega
theorem IsPts.owned {w : World} {base : Nat} {e : TypeId} {v : Value} {n : Nat} {l : List Pt} (hn : n = l.length) (h : w.ownsRow base e 11 v n (ptsCells l)) : IsPts w v l := by
  subst hn; exact Reads.owned h
theorem infoPt : (Tryz.prog.info? 34).map (fun i => (i.zero, i.size, i.bytes)) = some (some (.agg #[.int .i64 0, .int .i64 0, .int .i64 0, .int .i64 0, .int .i64 0, .bool false, .int .i64 0, .int .i64 0, .bool false, .int .i64 0, .int .i64 0]), 11, 88) := by kernel_rfl
theorem oneCell_pt (p : Pt) : ∀ u ∈ (ptCells p).toList, u.oneCell' = true := by
  intro u hu; simp only [ptCells, List.mem_cons, List.not_mem_nil, or_false] at hu
  rcases hu with rfl | rfl | rfl | rfl | rfl | rfl | rfl | rfl | rfl | rfl | rfl <;> rfl
theorem oneCell_pts (l : List Pt) : ∀ u ∈ ptsCells l, u.oneCell' = true := by
  intro u hu; simp only [ptsCells, List.mem_flatMap] at hu
  obtain ⟨p, _, hp⟩ := hu
  exact oneCell_pt p u hp
end Go.Proofs.YtafkhnlmipddmaaGreat.Cp

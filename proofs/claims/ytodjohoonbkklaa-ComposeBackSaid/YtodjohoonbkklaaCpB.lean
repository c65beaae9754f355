/- compose: May, Plain, One. (Written by wip/compose/gencpa.py.) -/
import Derived.Test.YtodjohoonbkklaaCpA
namespace Go.Proofs.Ytodjohoonbkklaa
open Go.RowKit
set_option linter.unusedVariables false
set_option linter.unusedSimpArgs false
theorem box11 {w W : World} {t : TypeId} {v0 v1 v2 v3 v4 v5 v6 v7 v8 v9 v10 : Value} (hk : Kp [] (w.alloc (.cells #[v0, v1, v2, v3, v4, v5, v6, v7, v8, v9, v10] t)) W) :
    W.cell? ⟨w.heap.size, 0, none⟩ = some v0 ∧ W.cell? ⟨w.heap.size, 1, none⟩ = some v1 ∧ W.cell? ⟨w.heap.size, 2, none⟩ = some v2 ∧ W.cell? ⟨w.heap.size, 3, none⟩ = some v3 ∧ W.cell? ⟨w.heap.size, 4, none⟩ = some v4 ∧ W.cell? ⟨w.heap.size, 5, none⟩ = some v5 ∧ W.cell? ⟨w.heap.size, 6, none⟩ = some v6 ∧ W.cell? ⟨w.heap.size, 7, none⟩ = some v7 ∧ W.cell? ⟨w.heap.size, 8, none⟩ = some v8 ∧ W.cell? ⟨w.heap.size, 9, none⟩ = some v9 ∧ W.cell? ⟨w.heap.size, 10, none⟩ = some v10 :=
  ⟨hk.cell (cell_of_row _ w.heap.size 0 _ t (0, 0) (heap_alloc_new w _)) (by simp), hk.cell (cell_of_row _ w.heap.size 1 _ t (0, 0) (heap_alloc_new w _)) (by simp), hk.cell (cell_of_row _ w.heap.size 2 _ t (0, 0) (heap_alloc_new w _)) (by simp), hk.cell (cell_of_row _ w.heap.size 3 _ t (0, 0) (heap_alloc_new w _)) (by simp), hk.cell (cell_of_row _ w.heap.size 4 _ t (0, 0) (heap_alloc_new w _)) (by simp), hk.cell (cell_of_row _ w.heap.size 5 _ t (0, 0) (heap_alloc_new w _)) (by simp), hk.cell (cell_of_row _ w.heap.size 6 _ t (0, 0) (heap_alloc_new w _)) (by simp), hk.cell (cell_of_row _ w.heap.size 7 _ t (0, 0) (heap_alloc_new w _)) (by simp), hk.cell (cell_of_row _ w.heap.size 8 _ t (0, 0) (heap_alloc_new w _)) (by simp), hk.cell (cell_of_row _ w.heap.size 9 _ t (0, 0) (heap_alloc_new w _)) (by simp), hk.cell (cell_of_row _ w.heap.size 10 _ t (0, 0) (heap_alloc_new w _)) (by simp)⟩
/-- A part as an argument. -/
def ptV (p : Pt) : Value := .agg (ptCells p)
set_option maxRecDepth 100000 in
set_option maxHeartbeats 2000000 in
theorem cmay_calls (p : Pt) (w : World) : Calls Try.prog 21 #[ptV p] w fun e w' => e = .returned (.bool (mayPt p)) ∧ Kp [] w w' := by
  show Calls Try.prog 21 #[.agg #[.int .i64 p.g, .int .i64 p.xx, .int .i64 p.xy, .int .i64 p.yx, .int .i64 p.yy, .bool p.m, .int .i64 p.dx, .int .i64 p.dy, .bool p.t, .int .i64 p.pa, .int .i64 p.ch]] w _
  have HB : Hid (∀ W, Kp [] (w.alloc (.cells #[.int .i64 p.g, .int .i64 p.xx, .int .i64 p.xy, .int .i64 p.yx, .int .i64 p.yy, .bool p.m, .int .i64 p.dx, .int .i64 p.dy, .bool p.t, .int .i64 p.pa, .int .i64 p.ch] 36)) W → Kp [] w W ∧ W.cell? ⟨w.heap.size, 0, none⟩ = some (.int .i64 p.g) ∧ W.cell? ⟨w.heap.size, 1, none⟩ = some (.int .i64 p.xx) ∧ W.cell? ⟨w.heap.size, 2, none⟩ = some (.int .i64 p.xy) ∧ W.cell? ⟨w.heap.size, 3, none⟩ = some (.int .i64 p.yx) ∧ W.cell? ⟨w.heap.size, 4, none⟩ = some (.int .i64 p.yy) ∧ W.cell? ⟨w.heap.size, 5, none⟩ = some (.bool p.m) ∧ W.cell? ⟨w.heap.size, 6, none⟩ = some (.int .i64 p.dx) ∧ W.cell? ⟨w.heap.size, 7, none⟩ = some (.int .i64 p.dy) ∧ W.cell? ⟨w.heap.size, 8, none⟩ = some (.bool p.t) ∧ W.cell? ⟨w.heap.size, 9, none⟩ = some (.int .i64 p.pa) ∧ W.cell? ⟨w.heap.size, 10, none⟩ = some (.int .i64 p.ch)) := fun W hW => ⟨((Kp.refl _ _).alloc _).trans hW, box11 hW⟩
  cases hg : wordB p.g
  · have HG := Lib.hid hg
    clear hg
    have HE : Hid (mayPt p = false) := by show _ = _; unfold mayPt; simp [HG.out]
    rw [HE.out]
    go_enter Try.func21, Try.ntmps21
    go_wp2_with fail
    refine (both_calls p.g 0 0 65535 _).mono ?_; rintro e w9 ⟨rfl, rfl⟩; rw [wordB_one, HG.out]
    go_wp2_with fail
    go_ret
    exact ⟨rfl, (HB.out _ (Kp.refl _ _)).1⟩
  · have HG := Lib.hid hg
    clear hg
    cases hf : fitsM p.xx p.xy p.yx p.yy
    · have HF := Lib.hid hf
      clear hf
      have HE : Hid (mayPt p = false) := by show _ = _; unfold mayPt; simp [HG.out, HF.out]
      rw [HE.out]
      go_enter Try.func21, Try.ntmps21
      go_wp2_with fail
      refine (both_calls p.g 0 0 65535 _).mono ?_; rintro e w9 ⟨rfl, rfl⟩; rw [wordB_one, HG.out]
      go_wp2_with fail
      refine (amay_calls p.xx p.xy p.yx p.yy _).mono ?_; rintro e w1 ⟨rfl, hk1⟩; rw [HF.out]
      obtain ⟨hkw, b0, b1, b2, b3, b4, b5, b6, b7, b8, b9, b10⟩ := HB.out _ hk1
      have HKW := Lib.hid hkw
      clear hkw hk1
      go_wp2_with fail
      go_ret
      exact ⟨rfl, HKW.out⟩
    · have HF := Lib.hid hf
      clear hf
      cases hm : p.m
      · have HM := Lib.hid hm
        rw [hm] at HB
        clear hm
        cases hq : (s16B p.dx && s16B p.dy)
        · have HQ := Lib.hid hq
          clear hq
          have HE : Hid (mayPt p = false) := by show _ = _; unfold mayPt; simp [HG.out, HF.out, HM.out, HQ.out]
          rw [HE.out]
          go_enter Try.func21, Try.ntmps21
          go_wp2_with fail
          refine (both_calls p.g 0 0 65535 _).mono ?_; rintro e w9 ⟨rfl, rfl⟩; rw [wordB_one, HG.out]
          go_wp2_with fail
          refine (amay_calls p.xx p.xy p.yx p.yy _).mono ?_; rintro e w1 ⟨rfl, hk1⟩; rw [HF.out]
          obtain ⟨hkw, b0, b1, b2, b3, b4, b5, b6, b7, b8, b9, b10⟩ := HB.out _ hk1
          have HKW := Lib.hid hkw
          clear hkw hk1
          go_wp2_with fail
          refine (both_calls p.dx p.dy (-32768) 32767 _).mono ?_; rintro e w9 ⟨rfl, rfl⟩; rw [s16B_both, HQ.out]
          go_wp2_with fail
          go_ret
          exact ⟨rfl, HKW.out⟩
        · have HQ := Lib.hid hq
          clear hq
          by_cases hpa : p.pa = 0
          · rw [hpa] at HB
            by_cases hch : p.ch = 0
            · rw [hch] at HB
              have HE : Hid (mayPt p = true) := by show _ = _; unfold mayPt; simp [HG.out, HF.out, HM.out, HQ.out, hpa, hch]
              rw [HE.out]
              go_enter Try.func21, Try.ntmps21
              go_wp2_with fail
              refine (both_calls p.g 0 0 65535 _).mono ?_; rintro e w9 ⟨rfl, rfl⟩; rw [wordB_one, HG.out]
              go_wp2_with fail
              refine (amay_calls p.xx p.xy p.yx p.yy _).mono ?_; rintro e w1 ⟨rfl, hk1⟩; rw [HF.out]
              obtain ⟨hkw, b0, b1, b2, b3, b4, b5, b6, b7, b8, b9, b10⟩ := HB.out _ hk1
              have HKW := Lib.hid hkw
              clear hkw hk1
              go_wp2_with fail
              refine (both_calls p.dx p.dy (-32768) 32767 _).mono ?_; rintro e w9 ⟨rfl, rfl⟩; rw [s16B_both, HQ.out]
              go_wp2_with fail
              go_ret
              exact ⟨rfl, HKW.out⟩
            · have hbch : (p.ch == 0) = false := by simpa using hch
              have HE : Hid (mayPt p = false) := by show _ = _; unfold mayPt; simp [HG.out, HF.out, HM.out, HQ.out, hpa, hch]
              rw [HE.out]
              go_enter Try.func21, Try.ntmps21
              go_wp2_with fail
              refine (both_calls p.g 0 0 65535 _).mono ?_; rintro e w9 ⟨rfl, rfl⟩; rw [wordB_one, HG.out]
              go_wp2_with fail
              refine (amay_calls p.xx p.xy p.yx p.yy _).mono ?_; rintro e w1 ⟨rfl, hk1⟩; rw [HF.out]
              obtain ⟨hkw, b0, b1, b2, b3, b4, b5, b6, b7, b8, b9, b10⟩ := HB.out _ hk1
              have HKW := Lib.hid hkw
              clear hkw hk1
              go_wp2_with fail
              refine (both_calls p.dx p.dy (-32768) 32767 _).mono ?_; rintro e w9 ⟨rfl, rfl⟩; rw [s16B_both, HQ.out]
              go_wp2_with fail
              go_ret
              exact ⟨rfl, HKW.out⟩
          · have hbpa : (p.pa == 0) = false := by simpa using hpa
            have HE : Hid (mayPt p = false) := by show _ = _; unfold mayPt; simp [HG.out, HF.out, HM.out, HQ.out, hpa]
            rw [HE.out]
            go_enter Try.func21, Try.ntmps21
            go_wp2_with fail
            refine (both_calls p.g 0 0 65535 _).mono ?_; rintro e w9 ⟨rfl, rfl⟩; rw [wordB_one, HG.out]
            go_wp2_with fail
            refine (amay_calls p.xx p.xy p.yx p.yy _).mono ?_; rintro e w1 ⟨rfl, hk1⟩; rw [HF.out]
            obtain ⟨hkw, b0, b1, b2, b3, b4, b5, b6, b7, b8, b9, b10⟩ := HB.out _ hk1
            have HKW := Lib.hid hkw
            clear hkw hk1
            go_wp2_with fail
            refine (both_calls p.dx p.dy (-32768) 32767 _).mono ?_; rintro e w9 ⟨rfl, rfl⟩; rw [s16B_both, HQ.out]
            go_wp2_with fail
            go_ret
            exact ⟨rfl, HKW.out⟩
      · have HM := Lib.hid hm
        rw [hm] at HB
        clear hm
        cases hq : (wordB p.pa && wordB p.ch)
        · have HQ := Lib.hid hq
          clear hq
          have HE : Hid (mayPt p = false) := by show _ = _; unfold mayPt; simp [HG.out, HF.out, HM.out, HQ.out]
          rw [HE.out]
          go_enter Try.func21, Try.ntmps21
          go_wp2_with fail
          refine (both_calls p.g 0 0 65535 _).mono ?_; rintro e w9 ⟨rfl, rfl⟩; rw [wordB_one, HG.out]
          go_wp2_with fail
          refine (amay_calls p.xx p.xy p.yx p.yy _).mono ?_; rintro e w1 ⟨rfl, hk1⟩; rw [HF.out]
          obtain ⟨hkw, b0, b1, b2, b3, b4, b5, b6, b7, b8, b9, b10⟩ := HB.out _ hk1
          have HKW := Lib.hid hkw
          clear hkw hk1
          go_wp2_with fail
          refine (both_calls p.pa p.ch 0 65535 _).mono ?_; rintro e w9 ⟨rfl, rfl⟩; rw [wordB_both, HQ.out]
          go_wp2_with fail
          go_ret
          exact ⟨rfl, HKW.out⟩
        · have HQ := Lib.hid hq
          clear hq
          by_cases hdx : p.dx = 0
          · rw [hdx] at HB
            by_cases hdy : p.dy = 0
            · rw [hdy] at HB
              cases ht : p.t
              · rw [ht] at HB
                have HE : Hid (mayPt p = true) := by show _ = _; unfold mayPt; simp [HG.out, HF.out, HM.out, HQ.out, hdx, hdy, ht]
                rw [HE.out]
                go_enter Try.func21, Try.ntmps21
                go_wp2_with fail
                refine (both_calls p.g 0 0 65535 _).mono ?_; rintro e w9 ⟨rfl, rfl⟩; rw [wordB_one, HG.out]
                go_wp2_with fail
                refine (amay_calls p.xx p.xy p.yx p.yy _).mono ?_; rintro e w1 ⟨rfl, hk1⟩; rw [HF.out]
                obtain ⟨hkw, b0, b1, b2, b3, b4, b5, b6, b7, b8, b9, b10⟩ := HB.out _ hk1
                have HKW := Lib.hid hkw
                clear hkw hk1
                go_wp2_with fail
                refine (both_calls p.pa p.ch 0 65535 _).mono ?_; rintro e w9 ⟨rfl, rfl⟩; rw [wordB_both, HQ.out]
                go_wp2_with fail
                go_ret
                exact ⟨rfl, HKW.out⟩
              · rw [ht] at HB
                have HE : Hid (mayPt p = false) := by show _ = _; unfold mayPt; simp [HG.out, HF.out, HM.out, HQ.out, hdx, hdy, ht]
                rw [HE.out]
                go_enter Try.func21, Try.ntmps21
                go_wp2_with fail
                refine (both_calls p.g 0 0 65535 _).mono ?_; rintro e w9 ⟨rfl, rfl⟩; rw [wordB_one, HG.out]
                go_wp2_with fail
                refine (amay_calls p.xx p.xy p.yx p.yy _).mono ?_; rintro e w1 ⟨rfl, hk1⟩; rw [HF.out]
                obtain ⟨hkw, b0, b1, b2, b3, b4, b5, b6, b7, b8, b9, b10⟩ := HB.out _ hk1
                have HKW := Lib.hid hkw
                clear hkw hk1
                go_wp2_with fail
                refine (both_calls p.pa p.ch 0 65535 _).mono ?_; rintro e w9 ⟨rfl, rfl⟩; rw [wordB_both, HQ.out]
                go_wp2_with fail
                go_ret
                exact ⟨rfl, HKW.out⟩
            · have hbdy : (p.dy == 0) = false := by simpa using hdy
              have HE : Hid (mayPt p = false) := by show _ = _; unfold mayPt; simp [HG.out, HF.out, HM.out, HQ.out, hdx, hdy]
              rw [HE.out]
              go_enter Try.func21, Try.ntmps21
              go_wp2_with fail
              refine (both_calls p.g 0 0 65535 _).mono ?_; rintro e w9 ⟨rfl, rfl⟩; rw [wordB_one, HG.out]
              go_wp2_with fail
              refine (amay_calls p.xx p.xy p.yx p.yy _).mono ?_; rintro e w1 ⟨rfl, hk1⟩; rw [HF.out]
              obtain ⟨hkw, b0, b1, b2, b3, b4, b5, b6, b7, b8, b9, b10⟩ := HB.out _ hk1
              have HKW := Lib.hid hkw
              clear hkw hk1
              go_wp2_with fail
              refine (both_calls p.pa p.ch 0 65535 _).mono ?_; rintro e w9 ⟨rfl, rfl⟩; rw [wordB_both, HQ.out]
              go_wp2_with fail
              go_ret
              exact ⟨rfl, HKW.out⟩
          · have hbdx : (p.dx == 0) = false := by simpa using hdx
            have HE : Hid (mayPt p = false) := by show _ = _; unfold mayPt; simp [HG.out, HF.out, HM.out, HQ.out, hdx]
            rw [HE.out]
            go_enter Try.func21, Try.ntmps21
            go_wp2_with fail
            refine (both_calls p.g 0 0 65535 _).mono ?_; rintro e w9 ⟨rfl, rfl⟩; rw [wordB_one, HG.out]
            go_wp2_with fail
            refine (amay_calls p.xx p.xy p.yx p.yy _).mono ?_; rintro e w1 ⟨rfl, hk1⟩; rw [HF.out]
            obtain ⟨hkw, b0, b1, b2, b3, b4, b5, b6, b7, b8, b9, b10⟩ := HB.out _ hk1
            have HKW := Lib.hid hkw
            clear hkw hk1
            go_wp2_with fail
            refine (both_calls p.pa p.ch 0 65535 _).mono ?_; rintro e w9 ⟨rfl, rfl⟩; rw [wordB_both, HQ.out]
            go_wp2_with fail
            go_ret
            exact ⟨rfl, HKW.out⟩
set_option maxRecDepth 100000 in
set_option maxHeartbeats 2000000 in
theorem rmay12_calls (p : Pt) (w : World) : Calls Try.prog 22 #[ptV p] w fun e w' => e = .returned (.bool (mayPt p)) ∧ Kp [] w w' := by
  show Calls Try.prog 22 #[.agg #[.int .i64 p.g, .int .i64 p.xx, .int .i64 p.xy, .int .i64 p.yx, .int .i64 p.yy, .bool p.m, .int .i64 p.dx, .int .i64 p.dy, .bool p.t, .int .i64 p.pa, .int .i64 p.ch]] w _
  have HB : Hid (∀ W, Kp [] (w.alloc (.cells #[.int .i64 p.g, .int .i64 p.xx, .int .i64 p.xy, .int .i64 p.yx, .int .i64 p.yy, .bool p.m, .int .i64 p.dx, .int .i64 p.dy, .bool p.t, .int .i64 p.pa, .int .i64 p.ch] 36)) W → Kp [] w W ∧ W.cell? ⟨w.heap.size, 0, none⟩ = some (.int .i64 p.g) ∧ W.cell? ⟨w.heap.size, 1, none⟩ = some (.int .i64 p.xx) ∧ W.cell? ⟨w.heap.size, 2, none⟩ = some (.int .i64 p.xy) ∧ W.cell? ⟨w.heap.size, 3, none⟩ = some (.int .i64 p.yx) ∧ W.cell? ⟨w.heap.size, 4, none⟩ = some (.int .i64 p.yy) ∧ W.cell? ⟨w.heap.size, 5, none⟩ = some (.bool p.m) ∧ W.cell? ⟨w.heap.size, 6, none⟩ = some (.int .i64 p.dx) ∧ W.cell? ⟨w.heap.size, 7, none⟩ = some (.int .i64 p.dy) ∧ W.cell? ⟨w.heap.size, 8, none⟩ = some (.bool p.t) ∧ W.cell? ⟨w.heap.size, 9, none⟩ = some (.int .i64 p.pa) ∧ W.cell? ⟨w.heap.size, 10, none⟩ = some (.int .i64 p.ch)) := fun W hW => ⟨((Kp.refl _ _).alloc _).trans hW, box11 hW⟩
  cases hg : wordB p.g
  · have HG := Lib.hid hg
    clear hg
    have HE : Hid (mayPt p = false) := by show _ = _; unfold mayPt; simp [HG.out]
    rw [HE.out]
    go_enter Try.func22, Try.ntmps22
    go_wp2_with fail
    refine (word_calls p.g _).mono ?_; rintro e w9 ⟨rfl, rfl⟩; rw [HG.out]
    go_wp2_with fail
    go_ret
    exact ⟨rfl, (HB.out _ (Kp.refl _ _)).1⟩
  · have HG := Lib.hid hg
    clear hg
    cases hf : fitsM p.xx p.xy p.yx p.yy
    · have HF := Lib.hid hf
      clear hf
      have HE : Hid (mayPt p = false) := by show _ = _; unfold mayPt; simp [HG.out, HF.out]
      rw [HE.out]
      go_enter Try.func22, Try.ntmps22
      go_wp2_with fail
      refine (word_calls p.g _).mono ?_; rintro e w9 ⟨rfl, rfl⟩; rw [HG.out]
      go_wp2_with fail
      refine (rmay02_calls p.xx p.xy p.yx p.yy _).mono ?_; rintro e w1 ⟨rfl, hk1⟩; rw [HF.out]
      obtain ⟨hkw, b0, b1, b2, b3, b4, b5, b6, b7, b8, b9, b10⟩ := HB.out _ hk1
      have HKW := Lib.hid hkw
      clear hkw hk1
      go_wp2_with fail
      go_ret
      exact ⟨rfl, HKW.out⟩
    · have HF := Lib.hid hf
      clear hf
      cases hm : p.m
      · have HM := Lib.hid hm
        rw [hm] at HB
        clear hm
        cases hq1 : s16B p.dx
        · have HQ1 := Lib.hid hq1
          clear hq1
          have HE : Hid (mayPt p = false) := by show _ = _; unfold mayPt; simp [HG.out, HF.out, HM.out, HQ1.out]
          rw [HE.out]
          go_enter Try.func22, Try.ntmps22
          go_wp2_with fail
          refine (word_calls p.g _).mono ?_; rintro e w9 ⟨rfl, rfl⟩; rw [HG.out]
          go_wp2_with fail
          refine (rmay02_calls p.xx p.xy p.yx p.yy _).mono ?_; rintro e w1 ⟨rfl, hk1⟩; rw [HF.out]
          obtain ⟨hkw, b0, b1, b2, b3, b4, b5, b6, b7, b8, b9, b10⟩ := HB.out _ hk1
          have HKW := Lib.hid hkw
          clear hkw hk1
          go_wp2_with fail
          refine (signed_calls p.dx _).mono ?_; rintro e w9 ⟨rfl, rfl⟩; rw [HQ1.out]
          go_wp2_with fail
          go_ret
          exact ⟨rfl, HKW.out⟩
        · have HQ1 := Lib.hid hq1
          clear hq1
          cases hq2 : s16B p.dy
          · have HQ2 := Lib.hid hq2
            clear hq2
            have HE : Hid (mayPt p = false) := by show _ = _; unfold mayPt; simp [HG.out, HF.out, HM.out, HQ1.out, HQ2.out]
            rw [HE.out]
            go_enter Try.func22, Try.ntmps22
            go_wp2_with fail
            refine (word_calls p.g _).mono ?_; rintro e w9 ⟨rfl, rfl⟩; rw [HG.out]
            go_wp2_with fail
            refine (rmay02_calls p.xx p.xy p.yx p.yy _).mono ?_; rintro e w1 ⟨rfl, hk1⟩; rw [HF.out]
            obtain ⟨hkw, b0, b1, b2, b3, b4, b5, b6, b7, b8, b9, b10⟩ := HB.out _ hk1
            have HKW := Lib.hid hkw
            clear hkw hk1
            go_wp2_with fail
            refine (signed_calls p.dx _).mono ?_; rintro e w9 ⟨rfl, rfl⟩; rw [HQ1.out]
            go_wp2_with fail
            refine (signed_calls p.dy _).mono ?_; rintro e w9 ⟨rfl, rfl⟩; rw [HQ2.out]
            go_wp2_with fail
            go_ret
            exact ⟨rfl, HKW.out⟩
          · have HQ2 := Lib.hid hq2
            clear hq2
            by_cases hpa : p.pa = 0
            · rw [hpa] at HB
              by_cases hch : p.ch = 0
              · rw [hch] at HB
                have HE : Hid (mayPt p = true) := by show _ = _; unfold mayPt; simp [HG.out, HF.out, HM.out, HQ1.out, HQ2.out, hpa, hch]
                rw [HE.out]
                go_enter Try.func22, Try.ntmps22
                go_wp2_with fail
                refine (word_calls p.g _).mono ?_; rintro e w9 ⟨rfl, rfl⟩; rw [HG.out]
                go_wp2_with fail
                refine (rmay02_calls p.xx p.xy p.yx p.yy _).mono ?_; rintro e w1 ⟨rfl, hk1⟩; rw [HF.out]
                obtain ⟨hkw, b0, b1, b2, b3, b4, b5, b6, b7, b8, b9, b10⟩ := HB.out _ hk1
                have HKW := Lib.hid hkw
                clear hkw hk1
                go_wp2_with fail
                refine (signed_calls p.dx _).mono ?_; rintro e w9 ⟨rfl, rfl⟩; rw [HQ1.out]
                go_wp2_with fail
                refine (signed_calls p.dy _).mono ?_; rintro e w9 ⟨rfl, rfl⟩; rw [HQ2.out]
                go_wp2_with fail
                go_ret
                exact ⟨rfl, HKW.out⟩
              · have hbch : (p.ch == 0) = false := by simpa using hch
                have HE : Hid (mayPt p = false) := by show _ = _; unfold mayPt; simp [HG.out, HF.out, HM.out, HQ1.out, HQ2.out, hpa, hch]
                rw [HE.out]
                go_enter Try.func22, Try.ntmps22
                go_wp2_with fail
                refine (word_calls p.g _).mono ?_; rintro e w9 ⟨rfl, rfl⟩; rw [HG.out]
                go_wp2_with fail
                refine (rmay02_calls p.xx p.xy p.yx p.yy _).mono ?_; rintro e w1 ⟨rfl, hk1⟩; rw [HF.out]
                obtain ⟨hkw, b0, b1, b2, b3, b4, b5, b6, b7, b8, b9, b10⟩ := HB.out _ hk1
                have HKW := Lib.hid hkw
                clear hkw hk1
                go_wp2_with fail
                refine (signed_calls p.dx _).mono ?_; rintro e w9 ⟨rfl, rfl⟩; rw [HQ1.out]
                go_wp2_with fail
                refine (signed_calls p.dy _).mono ?_; rintro e w9 ⟨rfl, rfl⟩; rw [HQ2.out]
                go_wp2_with fail
                go_ret
                exact ⟨rfl, HKW.out⟩
            · have hbpa : (p.pa == 0) = false := by simpa using hpa
              have HE : Hid (mayPt p = false) := by show _ = _; unfold mayPt; simp [HG.out, HF.out, HM.out, HQ1.out, HQ2.out, hpa]
              rw [HE.out]
              go_enter Try.func22, Try.ntmps22
              go_wp2_with fail
              refine (word_calls p.g _).mono ?_; rintro e w9 ⟨rfl, rfl⟩; rw [HG.out]
              go_wp2_with fail
              refine (rmay02_calls p.xx p.xy p.yx p.yy _).mono ?_; rintro e w1 ⟨rfl, hk1⟩; rw [HF.out]
              obtain ⟨hkw, b0, b1, b2, b3, b4, b5, b6, b7, b8, b9, b10⟩ := HB.out _ hk1
              have HKW := Lib.hid hkw
              clear hkw hk1
              go_wp2_with fail
              refine (signed_calls p.dx _).mono ?_; rintro e w9 ⟨rfl, rfl⟩; rw [HQ1.out]
              go_wp2_with fail
              refine (signed_calls p.dy _).mono ?_; rintro e w9 ⟨rfl, rfl⟩; rw [HQ2.out]
              go_wp2_with fail
              go_ret
              exact ⟨rfl, HKW.out⟩
      · have HM := Lib.hid hm
        rw [hm] at HB
        clear hm
        cases hq1 : wordB p.pa
        · have HQ1 := Lib.hid hq1
          clear hq1
          have HE : Hid (mayPt p = false) := by show _ = _; unfold mayPt; simp [HG.out, HF.out, HM.out, HQ1.out]
          rw [HE.out]
          go_enter Try.func22, Try.ntmps22
          go_wp2_with fail
          refine (word_calls p.g _).mono ?_; rintro e w9 ⟨rfl, rfl⟩; rw [HG.out]
          go_wp2_with fail
          refine (rmay02_calls p.xx p.xy p.yx p.yy _).mono ?_; rintro e w1 ⟨rfl, hk1⟩; rw [HF.out]
          obtain ⟨hkw, b0, b1, b2, b3, b4, b5, b6, b7, b8, b9, b10⟩ := HB.out _ hk1
          have HKW := Lib.hid hkw
          clear hkw hk1
          go_wp2_with fail
          refine (word_calls p.pa _).mono ?_; rintro e w9 ⟨rfl, rfl⟩; rw [HQ1.out]
          go_wp2_with fail
          go_ret
          exact ⟨rfl, HKW.out⟩
        · have HQ1 := Lib.hid hq1
          clear hq1
          cases hq2 : wordB p.ch
          · have HQ2 := Lib.hid hq2
            clear hq2
            have HE : Hid (mayPt p = false) := by show _ = _; unfold mayPt; simp [HG.out, HF.out, HM.out, HQ1.out, HQ2.out]
            rw [HE.out]
            go_enter Try.func22, Try.ntmps22
            go_wp2_with fail
            refine (word_calls p.g _).mono ?_; rintro e w9 ⟨rfl, rfl⟩; rw [HG.out]
            go_wp2_with fail
            refine (rmay02_calls p.xx p.xy p.yx p.yy _).mono ?_; rintro e w1 ⟨rfl, hk1⟩; rw [HF.out]
            obtain ⟨hkw, b0, b1, b2, b3, b4, b5, b6, b7, b8, b9, b10⟩ := HB.out _ hk1
            have HKW := Lib.hid hkw
            clear hkw hk1
            go_wp2_with fail
            refine (word_calls p.pa _).mono ?_; rintro e w9 ⟨rfl, rfl⟩; rw [HQ1.out]
            go_wp2_with fail
            refine (word_calls p.ch _).mono ?_; rintro e w9 ⟨rfl, rfl⟩; rw [HQ2.out]
            go_wp2_with fail
            go_ret
            exact ⟨rfl, HKW.out⟩
          · have HQ2 := Lib.hid hq2
            clear hq2
            by_cases hdx : p.dx = 0
            · rw [hdx] at HB
              by_cases hdy : p.dy = 0
              · rw [hdy] at HB
                cases ht : p.t
                · rw [ht] at HB
                  have HE : Hid (mayPt p = true) := by show _ = _; unfold mayPt; simp [HG.out, HF.out, HM.out, HQ1.out, HQ2.out, hdx, hdy, ht]
                  rw [HE.out]
                  go_enter Try.func22, Try.ntmps22
                  go_wp2_with fail
                  refine (word_calls p.g _).mono ?_; rintro e w9 ⟨rfl, rfl⟩; rw [HG.out]
                  go_wp2_with fail
                  refine (rmay02_calls p.xx p.xy p.yx p.yy _).mono ?_; rintro e w1 ⟨rfl, hk1⟩; rw [HF.out]
                  obtain ⟨hkw, b0, b1, b2, b3, b4, b5, b6, b7, b8, b9, b10⟩ := HB.out _ hk1
                  have HKW := Lib.hid hkw
                  clear hkw hk1
                  go_wp2_with fail
                  refine (word_calls p.pa _).mono ?_; rintro e w9 ⟨rfl, rfl⟩; rw [HQ1.out]
                  go_wp2_with fail
                  refine (word_calls p.ch _).mono ?_; rintro e w9 ⟨rfl, rfl⟩; rw [HQ2.out]
                  go_wp2_with fail
                  go_ret
                  exact ⟨rfl, HKW.out⟩
                · rw [ht] at HB
                  have HE : Hid (mayPt p = false) := by show _ = _; unfold mayPt; simp [HG.out, HF.out, HM.out, HQ1.out, HQ2.out, hdx, hdy, ht]
                  rw [HE.out]
                  go_enter Try.func22, Try.ntmps22
                  go_wp2_with fail
                  refine (word_calls p.g _).mono ?_; rintro e w9 ⟨rfl, rfl⟩; rw [HG.out]
                  go_wp2_with fail
                  refine (rmay02_calls p.xx p.xy p.yx p.yy _).mono ?_; rintro e w1 ⟨rfl, hk1⟩; rw [HF.out]
                  obtain ⟨hkw, b0, b1, b2, b3, b4, b5, b6, b7, b8, b9, b10⟩ := HB.out _ hk1
                  have HKW := Lib.hid hkw
                  clear hkw hk1
                  go_wp2_with fail
                  refine (word_calls p.pa _).mono ?_; rintro e w9 ⟨rfl, rfl⟩; rw [HQ1.out]
                  go_wp2_with fail
                  refine (word_calls p.ch _).mono ?_; rintro e w9 ⟨rfl, rfl⟩; rw [HQ2.out]
                  go_wp2_with fail
                  go_ret
                  exact ⟨rfl, HKW.out⟩
              · have hbdy : (p.dy == 0) = false := by simpa using hdy
                have HE : Hid (mayPt p = false) := by show _ = _; unfold mayPt; simp [HG.out, HF.out, HM.out, HQ1.out, HQ2.out, hdx, hdy]
                rw [HE.out]
                go_enter Try.func22, Try.ntmps22
                go_wp2_with fail
                refine (word_calls p.g _).mono ?_; rintro e w9 ⟨rfl, rfl⟩; rw [HG.out]
                go_wp2_with fail
                refine (rmay02_calls p.xx p.xy p.yx p.yy _).mono ?_; rintro e w1 ⟨rfl, hk1⟩; rw [HF.out]
                obtain ⟨hkw, b0, b1, b2, b3, b4, b5, b6, b7, b8, b9, b10⟩ := HB.out _ hk1
                have HKW := Lib.hid hkw
                clear hkw hk1
                go_wp2_with fail
                refine (word_calls p.pa _).mono ?_; rintro e w9 ⟨rfl, rfl⟩; rw [HQ1.out]
                go_wp2_with fail
                refine (word_calls p.ch _).mono ?_; rintro e w9 ⟨rfl, rfl⟩; rw [HQ2.out]
                go_wp2_with fail
                go_ret
                exact ⟨rfl, HKW.out⟩
            · have hbdx : (p.dx == 0) = false := by simpa using hdx
              have HE : Hid (mayPt p = false) := by show _ = _; unfold mayPt; simp [HG.out, HF.out, HM.out, HQ1.out, HQ2.out, hdx]
              rw [HE.out]
              go_enter Try.func22, Try.ntmps22
              go_wp2_with fail
              refine (word_calls p.g _).mono ?_; rintro e w9 ⟨rfl, rfl⟩; rw [HG.out]
              go_wp2_with fail
              refine (rmay02_calls p.xx p.xy p.yx p.yy _).mono ?_; rintro e w1 ⟨rfl, hk1⟩; rw [HF.out]
              obtain ⟨hkw, b0, b1, b2, b3, b4, b5, b6, b7, b8, b9, b10⟩ := HB.out _ hk1
              have HKW := Lib.hid hkw
              clear hkw hk1
              go_wp2_with fail
              refine (word_calls p.pa _).mono ?_; rintro e w9 ⟨rfl, rfl⟩; rw [HQ1.out]
              go_wp2_with fail
              refine (word_calls p.ch _).mono ?_; rintro e w9 ⟨rfl, rfl⟩; rw [HQ2.out]
              go_wp2_with fail
              go_ret
              exact ⟨rfl, HKW.out⟩
end Go.Proofs.Ytodjohoonbkklaa

/- stack: Do, at the operators of numbers. (Written by wip/stack/gensti.py.) -/
import Derived.Test.YtfgpocpfapnkkaaGreatStH
import Derived.Test.YtfgpocpfapnkkaaGreatStF
namespace Go.Proofs.YtfgpocpfapnkkaaGreat
open Go.RowKit
set_option linter.unusedVariables false
set_option linter.unusedSimpArgs false
theorem box4s {w W : World} {t : TypeId} {v0 v1 v2 v3 : Value} (hk : Kp [] (w.alloc (.cells #[v0, v1, v2, v3] t)) W) :
    W.cell? ⟨w.heap.size, 0, none⟩ = some v0 ∧ W.cell? ⟨w.heap.size, 1, none⟩ = some v1 ∧ W.cell? ⟨w.heap.size, 2, none⟩ = some v2 ∧ W.cell? ⟨w.heap.size, 3, none⟩ = some v3 :=
  have g := fun (j : Nat) => cell_of_row (w.alloc (.cells #[v0, v1, v2, v3] t)) w.heap.size j _ t (0, 0) (heap_alloc_new w _)
  ⟨hk.cell (g 0) (by simp), hk.cell (g 1) (by simp), hk.cell (g 2) (by simp), hk.cell (g 3) (by simp)⟩
set_option maxRecDepth 100000 in
theorem neq_fn (f : Fn) (g : Array Value) (cs : Array Value) (w : World) : (binOp .neq 90 (.func f g cs) .nilFunc).run Tryz.prog w = .ok (.bool true) w := by
  first | rfl | (simp [binOp, go_sem]; done)
set_option maxRecDepth 100000 in
set_option maxHeartbeats 4000000 in
theorem do_num1 (op : Int) (F : Int → Int → Int × Int) (r er : Int)
    (s base : Nat) (vl vd : Value) (lo st dr : List Int) (x : Int) (hmx : mayB x = true) (hr : F x x = (r, er)) (w : World) (h : StS w s base vl (lo ++ [x]) st vd dr) (hl : lo.length ≤ 48)
    (hf : Calls Tryz.prog 64 #[.int .i64 op] w fun e w' => ∃ fv, e = .returned (.tuple #[.agg #[.int .i64 op, .int .i64 1, fv, .nilFunc], .bool true]) ∧ NumFn w' fv F ∧ Kp [] w w') :
    Calls Tryz.prog 54 #[.pointer (some ⟨s, 0, none⟩), .int .i64 op] w fun e w' => (er ≠ 0 ∧ e = .returned (.int .i64 er) ∧ Kp [] w w') ∨ (er = 0 ∧ e = .returned (.int .i64 0) ∧ ∃ vl', StS w' s base vl' (lo ++ [r]) st vd dr ∧ StK w w' s vl vl') := by
  have HF := Lib.hid hf
  have HS := Lib.hid h
  have hvl : ∃ g c, vl = .slice (some ⟨g, 0, none⟩) (lo.length + 1) c ∧ lo.length + 1 ≤ c ∧ c ≤ maxLen ∧ (∀ i, i < lo.length + 1 → w.cell? ⟨g, i, none⟩ = some (.int .i64 ((lo ++ [x]).getD i 0))) := by
    rcases h.2.2.2.1 with ⟨_, h0⟩ | ⟨g, cap, cur, rfl, h1, h2, h3, h4, h5, h6⟩
    · simp at h0
    · refine ⟨g, cap, by simp, by simpa using h3, h4, fun i hi => ?_⟩
      rw [cell_of_row w g _ _ _ _ h2, ← Array.getElem?_toList, take_getD h6 i (by simpa using hi)]
  obtain ⟨g, c, rfl, hlc, hcm, hcell⟩ := hvl
  have hx0 := hcell lo.length (by omega)
  rw [show (lo ++ [x]).getD lo.length 0 = x by simp] at hx0
  have HLO : Hid (FullR w (.slice (some ⟨g, 0, none⟩) lo.length lo.length) lo) := .inr ⟨g, rfl, by omega, fun i hi => by
    rw [hcell i (by omega), List.getD_eq_getElem?_getD, List.getElem?_append_left hi, ← List.getD_eq_getElem?_getD]⟩
  have c0 := h.cell0
  have hw9 : IntKind.i64.wrap ((lo.length : Int) + 1 - 1) = lo.length := by rw [IntKind.wrap_i64]; omega
  have hd9 : decide ((lo.length : Int) + 1 < 1) = false := decide_eq_false (by omega)
  have hli : (lo.length : Int) ≤ c := by omega
  have hn0 : (lo.length : Int) + 1 ≤ c := by omega
  unfold maxLen at hcm
  have HMX := Lib.hid hmx
  clear h hf hcell hmx
  go_enter Tryz.func54, Tryz.ntmps54
  go_wp2_with fail
  refine HF.out.mono ?_; rintro e w1 ⟨fv, rfl, ⟨k, hent, hcase⟩, hk1⟩
  rcases hcase with ⟨rfl, hc⟩ | ⟨B, opx, rfl, hcB, hc⟩
  · have HC := Lib.hid (fun w1 => hc x x w1 HMX.out HMX.out)
    simp only [hr] at HC
    clear hc hr
    have hka : Kp [] w (w1.alloc (.cells #[.int .i64 op, .int .i64 1, .func (.func k) #[] #[], .nilFunc] 93)) := hk1.alloc _
    obtain ⟨b0, b1, b2, b3⟩ := box4s (Kp.refl [] (w1.alloc (.cells #[.int .i64 op, .int .i64 1, .func (.func k) #[] #[], .nilFunc] 93)))
    have d0 := hka.cell c0 (by simp)
    have d1 := hka.cell hx0 (by simp)
    go_wp2_with fail
    generalize w1.alloc (.cells #[.int .i64 op, .int .i64 1, .func (.func k) #[] #[], .nilFunc] 93) = WB at *
    generalize w1.heap.size = BX at *
    have qb0 := KW.cell b0
    have qb1 := KW.cell b1
    have qb2 := KW.cell b2
    have qb3 := KW.cell b3
    have qd0 := KW.cell d0
    have qd1 := KW.cell d1
    refine wp_region_kq (by kernel_rfl) (by kernel_rfl) ?_
    repeat (go_big_quiet_step (fail))
    refine wpQuiet_nil ?_
    intro v1 hw'
    obtain ⟨⟨_, hkv1⟩, rfl⟩ := hw'
    clear qb0 qb1 qb2 qb3 qd0 qd1
    have b0 := hkv1.cell b0 (by simp)
    have b1 := hkv1.cell b1 (by simp)
    have b2 := hkv1.cell b2 (by simp)
    have b3 := hkv1.cell b3 (by simp)
    have d0 := hkv1.cell d0 (by simp)
    have d1 := hkv1.cell d1 (by simp)
    have hka := hka.trans hkv1
    clear hkv1
    go_wp2_with fail
    have qb0 := KW.cell b0
    have qb1 := KW.cell b1
    have qb2 := KW.cell b2
    have qb3 := KW.cell b3
    have qd0 := KW.cell d0
    have qd1 := KW.cell d1
    refine wp_region_kq (by kernel_rfl) (by kernel_rfl) ?_
    repeat (go_big_quiet_step (fail))
    refine wpQuiet_nil ?_
    intro v2 hw'
    obtain ⟨⟨_, hkv2⟩, rfl⟩ := hw'
    clear qb0 qb1 qb2 qb3 qd0 qd1
    have b0 := hkv2.cell b0 (by simp)
    have b1 := hkv2.cell b1 (by simp)
    have b2 := hkv2.cell b2 (by simp)
    have b3 := hkv2.cell b3 (by simp)
    have d0 := hkv2.cell d0 (by simp)
    have d1 := hkv2.cell d1 (by simp)
    have hka := hka.trans hkv2
    clear hkv2
    go_wp2_with fail
    have qb0 := KW.cell b0
    have qb1 := KW.cell b1
    have qb2 := KW.cell b2
    have qb3 := KW.cell b3
    have qd0 := KW.cell d0
    have qd1 := KW.cell d1
    refine wp_region_kq (by kernel_rfl) (by kernel_rfl) ?_
    repeat (go_big_quiet_step ((go_at_call 65; exact Calls.kq0 (clip_calls (some ⟨g, 0, none⟩) lo.length c (fun h => by cases h) (by omega) (by unfold maxLen; omega) _))))
    refine wpQuiet_nil ?_
    intro v3 hw'
    obtain ⟨⟨_, hkv3⟩, rfl⟩ := hw'
    clear qb0 qb1 qb2 qb3 qd0 qd1
    have b0 := hkv3.cell b0 (by simp)
    have b1 := hkv3.cell b1 (by simp)
    have b2 := hkv3.cell b2 (by simp)
    have b3 := hkv3.cell b3 (by simp)
    have d0 := hkv3.cell d0 (by simp)
    have d1 := hkv3.cell d1 (by simp)
    have hka := hka.trans hkv3
    clear hkv3
    go_wp2_with fail
    rw [neq_fn]
    by_cases he : er = 0
    · subst he
      go_wp2_with fail
      have qb0 := KW.cell b0
      have qb1 := KW.cell b1
      have qb2 := KW.cell b2
      have qb3 := KW.cell b3
      have qd0 := KW.cell d0
      have qd1 := KW.cell d1
      refine wp_region_kq (by kernel_rfl) (by kernel_rfl) ?_
      repeat (go_big_quiet_step (exact Calls.kq (HC.out _)))
      refine wpQuiet_nil ?_
      intro v4 hw'
      obtain ⟨⟨_, hkv4⟩, rfl⟩ := hw'
      clear qb0 qb1 qb2 qb3 qd0 qd1
      have b0 := hkv4.cell b0 (by simp)
      have b1 := hkv4.cell b1 (by simp)
      have b2 := hkv4.cell b2 (by simp)
      have b3 := hkv4.cell b3 (by simp)
      have d0 := hkv4.cell d0 (by simp)
      have d1 := hkv4.cell d1 (by simp)
      have hka := hka.trans hkv4
      clear hkv4
      have h4 := Lib.hid (HS.out.kp0 hka)
      have hlo4 := Lib.hid (HLO.out.kp0 hka)
      have f0 := h4.out.frozen 0
      go_wp2_with (at_builtin; refine wpList_growC rfl _ _ 24 rfl 3 Tryz.underlying24 infoIntS _ lo rfl (hlo4.out.kp0 ((Kp.refl [] v4).alloc _)) ⟨v4.heap.size, 0, none⟩ 1 1 [r] rfl rfl (by decide) (lit_cells1 (box1 (Kp.refl [] _))) (by omega) ?hk)
      case hk =>
      intro v' w9 ho hk
      obtain ⟨p', c', rfl⟩ := ho.form
      have hk9 : Kp [] v4 w9 := ((Kp.refl [] v4).alloc _).trans hk
      have hlt := h4.out.lt
      obtain ⟨hs2, hk2⟩ := h4.out.put' (hk9.more (fun t ht => nomatch ht)) (OwnC_mono ho (by have := h4.out.2.2.1; have := h4.out.lt; (try simp); omega)) (fun k e => .inr (by have := (ho.lt k e).1; (try simp at this); omega))
      rw [show (lo ++ [r]).length = lo.length + 1 by simp] at hs2 hk2
      have hfin := Lib.hid (And.intro hs2 ((StK.of_kp s _ hka).trans hk2))
      have hblk := hk9.heap h4.out.1 (by simp)
      have c1 : w9.cell? ⟨s, 0, none⟩ = some (.slice (some ⟨g, 0, none⟩) (lo.length + 1) c) := by rw [cell_of_row w9 s 0 _ _ _ hblk]; rfl
      have f1 : w9.frozen? ⟨s, 0, none⟩ = false := frozen_of_row w9 s 0 _ _ hblk
      clear ho hk hk9 hs2 hk2 hblk
      go_wp2_with fail
      go_ret
      first | exact ⟨rfl, _, hfin.out⟩ | exact .inr ⟨rfl, rfl, _, hfin.out⟩
    · have he' : (er != 0) = true := bne_iff_ne.2 he
      go_wp2_with fail
      have qb0 := KW.cell b0
      have qb1 := KW.cell b1
      have qb2 := KW.cell b2
      have qb3 := KW.cell b3
      have qd0 := KW.cell d0
      have qd1 := KW.cell d1
      refine wp_region_kq (by kernel_rfl) (by kernel_rfl) ?_
      repeat (go_big_quiet_step (exact Calls.kq (HC.out _)))
      refine wpQuiet_nil ?_
      intro v4 hw'
      obtain ⟨⟨_, hkv4⟩, rfl⟩ := hw'
      clear qb0 qb1 qb2 qb3 qd0 qd1
      have b0 := hkv4.cell b0 (by simp)
      have b1 := hkv4.cell b1 (by simp)
      have b2 := hkv4.cell b2 (by simp)
      have b3 := hkv4.cell b3 (by simp)
      have d0 := hkv4.cell d0 (by simp)
      have d1 := hkv4.cell d1 (by simp)
      have hka := hka.trans hkv4
      clear hkv4
      go_wp2_with fail
      go_ret
      exact .inl ⟨he, rfl, hka⟩
  · have HC := Lib.hid (fun w1 => hc x x w1 HMX.out HMX.out)
    simp only [hr] at HC
    clear hc hr
    have hka : Kp [] w (w1.alloc (.cells #[.int .i64 op, .int .i64 1, .func (.func k) #[] #[.pointer (some ⟨B, 0, none⟩)], .nilFunc] 93)) := hk1.alloc _
    obtain ⟨b0, b1, b2, b3⟩ := box4s (Kp.refl [] (w1.alloc (.cells #[.int .i64 op, .int .i64 1, .func (.func k) #[] #[.pointer (some ⟨B, 0, none⟩)], .nilFunc] 93)))
    have d0 := hka.cell c0 (by simp)
    have d1 := hka.cell hx0 (by simp)
    have d3 := Kp.cell (S := []) ((Kp.refl [] w1).alloc (.cells #[.int .i64 op, .int .i64 1, .func (.func k) #[] #[.pointer (some ⟨B, 0, none⟩)], .nilFunc] 93)) hcB (by simp)
    go_wp2_with fail
    generalize w1.alloc (.cells #[.int .i64 op, .int .i64 1, .func (.func k) #[] #[.pointer (some ⟨B, 0, none⟩)], .nilFunc] 93) = WB at *
    generalize w1.heap.size = BX at *
    have qb0 := KW.cell b0
    have qb1 := KW.cell b1
    have qb2 := KW.cell b2
    have qb3 := KW.cell b3
    have qd0 := KW.cell d0
    have qd1 := KW.cell d1
    have qd3 := KW.cell d3
    refine wp_region_kq (by kernel_rfl) (by kernel_rfl) ?_
    repeat (go_big_quiet_step (fail))
    refine wpQuiet_nil ?_
    intro v1 hw'
    obtain ⟨⟨_, hkv1⟩, rfl⟩ := hw'
    clear qb0 qb1 qb2 qb3 qd0 qd1 qd3
    have b0 := hkv1.cell b0 (by simp)
    have b1 := hkv1.cell b1 (by simp)
    have b2 := hkv1.cell b2 (by simp)
    have b3 := hkv1.cell b3 (by simp)
    have d0 := hkv1.cell d0 (by simp)
    have d1 := hkv1.cell d1 (by simp)
    have d3 := hkv1.cell d3 (by simp)
    have hka := hka.trans hkv1
    clear hkv1
    go_wp2_with fail
    have qb0 := KW.cell b0
    have qb1 := KW.cell b1
    have qb2 := KW.cell b2
    have qb3 := KW.cell b3
    have qd0 := KW.cell d0
    have qd1 := KW.cell d1
    have qd3 := KW.cell d3
    refine wp_region_kq (by kernel_rfl) (by kernel_rfl) ?_
    repeat (go_big_quiet_step (fail))
    refine wpQuiet_nil ?_
    intro v2 hw'
    obtain ⟨⟨_, hkv2⟩, rfl⟩ := hw'
    clear qb0 qb1 qb2 qb3 qd0 qd1 qd3
    have b0 := hkv2.cell b0 (by simp)
    have b1 := hkv2.cell b1 (by simp)
    have b2 := hkv2.cell b2 (by simp)
    have b3 := hkv2.cell b3 (by simp)
    have d0 := hkv2.cell d0 (by simp)
    have d1 := hkv2.cell d1 (by simp)
    have d3 := hkv2.cell d3 (by simp)
    have hka := hka.trans hkv2
    clear hkv2
    go_wp2_with fail
    have qb0 := KW.cell b0
    have qb1 := KW.cell b1
    have qb2 := KW.cell b2
    have qb3 := KW.cell b3
    have qd0 := KW.cell d0
    have qd1 := KW.cell d1
    have qd3 := KW.cell d3
    refine wp_region_kq (by kernel_rfl) (by kernel_rfl) ?_
    repeat (go_big_quiet_step ((go_at_call 65; exact Calls.kq0 (clip_calls (some ⟨g, 0, none⟩) lo.length c (fun h => by cases h) (by omega) (by unfold maxLen; omega) _))))
    refine wpQuiet_nil ?_
    intro v3 hw'
    obtain ⟨⟨_, hkv3⟩, rfl⟩ := hw'
    clear qb0 qb1 qb2 qb3 qd0 qd1 qd3
    have b0 := hkv3.cell b0 (by simp)
    have b1 := hkv3.cell b1 (by simp)
    have b2 := hkv3.cell b2 (by simp)
    have b3 := hkv3.cell b3 (by simp)
    have d0 := hkv3.cell d0 (by simp)
    have d1 := hkv3.cell d1 (by simp)
    have d3 := hkv3.cell d3 (by simp)
    have hka := hka.trans hkv3
    clear hkv3
    go_wp2_with fail
    rw [neq_fn]
    by_cases he : er = 0
    · subst he
      go_wp2_with fail
      have qb0 := KW.cell b0
      have qb1 := KW.cell b1
      have qb2 := KW.cell b2
      have qb3 := KW.cell b3
      have qd0 := KW.cell d0
      have qd1 := KW.cell d1
      have qd3 := KW.cell d3
      refine wp_region_kq (by kernel_rfl) (by kernel_rfl) ?_
      repeat (go_big_quiet_step (exact Calls.kq (HC.out _ (KW.cell d3 _))))
      refine wpQuiet_nil ?_
      intro v4 hw'
      obtain ⟨⟨_, hkv4⟩, rfl⟩ := hw'
      clear qb0 qb1 qb2 qb3 qd0 qd1 qd3
      have b0 := hkv4.cell b0 (by simp)
      have b1 := hkv4.cell b1 (by simp)
      have b2 := hkv4.cell b2 (by simp)
      have b3 := hkv4.cell b3 (by simp)
      have d0 := hkv4.cell d0 (by simp)
      have d1 := hkv4.cell d1 (by simp)
      have d3 := hkv4.cell d3 (by simp)
      have hka := hka.trans hkv4
      clear hkv4
      have h4 := Lib.hid (HS.out.kp0 hka)
      have hlo4 := Lib.hid (HLO.out.kp0 hka)
      have f0 := h4.out.frozen 0
      go_wp2_with (at_builtin; refine wpList_growC rfl _ _ 24 rfl 3 Tryz.underlying24 infoIntS _ lo rfl (hlo4.out.kp0 ((Kp.refl [] v4).alloc _)) ⟨v4.heap.size, 0, none⟩ 1 1 [r] rfl rfl (by decide) (lit_cells1 (box1 (Kp.refl [] _))) (by omega) ?hk)
      case hk =>
      intro v' w9 ho hk
      obtain ⟨p', c', rfl⟩ := ho.form
      have hk9 : Kp [] v4 w9 := ((Kp.refl [] v4).alloc _).trans hk
      have hlt := h4.out.lt
      obtain ⟨hs2, hk2⟩ := h4.out.put' (hk9.more (fun t ht => nomatch ht)) (OwnC_mono ho (by have := h4.out.2.2.1; have := h4.out.lt; (try simp); omega)) (fun k e => .inr (by have := (ho.lt k e).1; (try simp at this); omega))
      rw [show (lo ++ [r]).length = lo.length + 1 by simp] at hs2 hk2
      have hfin := Lib.hid (And.intro hs2 ((StK.of_kp s _ hka).trans hk2))
      have hblk := hk9.heap h4.out.1 (by simp)
      have c1 : w9.cell? ⟨s, 0, none⟩ = some (.slice (some ⟨g, 0, none⟩) (lo.length + 1) c) := by rw [cell_of_row w9 s 0 _ _ _ hblk]; rfl
      have f1 : w9.frozen? ⟨s, 0, none⟩ = false := frozen_of_row w9 s 0 _ _ hblk
      clear ho hk hk9 hs2 hk2 hblk
      go_wp2_with fail
      go_ret
      first | exact ⟨rfl, _, hfin.out⟩ | exact .inr ⟨rfl, rfl, _, hfin.out⟩
    · have he' : (er != 0) = true := bne_iff_ne.2 he
      go_wp2_with fail
      have qb0 := KW.cell b0
      have qb1 := KW.cell b1
      have qb2 := KW.cell b2
      have qb3 := KW.cell b3
      have qd0 := KW.cell d0
      have qd1 := KW.cell d1
      have qd3 := KW.cell d3
      refine wp_region_kq (by kernel_rfl) (by kernel_rfl) ?_
      repeat (go_big_quiet_step (exact Calls.kq (HC.out _ (KW.cell d3 _))))
      refine wpQuiet_nil ?_
      intro v4 hw'
      obtain ⟨⟨_, hkv4⟩, rfl⟩ := hw'
      clear qb0 qb1 qb2 qb3 qd0 qd1 qd3
      have b0 := hkv4.cell b0 (by simp)
      have b1 := hkv4.cell b1 (by simp)
      have b2 := hkv4.cell b2 (by simp)
      have b3 := hkv4.cell b3 (by simp)
      have d0 := hkv4.cell d0 (by simp)
      have d1 := hkv4.cell d1 (by simp)
      have d3 := hkv4.cell d3 (by simp)
      have hka := hka.trans hkv4
      clear hkv4
      go_wp2_with fail
      go_ret
      exact .inl ⟨he, rfl, hka⟩

set_option maxRecDepth 100000 in
set_option maxHeartbeats 4000000 in
theorem do_num2 (op : Int) (F : Int → Int → Int × Int) (r er : Int)
    (s base : Nat) (vl vd : Value) (lo st dr : List Int) (x y : Int) (hmx : mayB x = true) (hmy : mayB y = true) (hr : F x y = (r, er)) (w : World) (h : StS w s base vl (lo ++ [x, y]) st vd dr) (hl : lo.length ≤ 48)
    (hf : Calls Tryz.prog 64 #[.int .i64 op] w fun e w' => ∃ fv, e = .returned (.tuple #[.agg #[.int .i64 op, .int .i64 2, fv, .nilFunc], .bool true]) ∧ NumFn w' fv F ∧ Kp [] w w') :
    Calls Tryz.prog 54 #[.pointer (some ⟨s, 0, none⟩), .int .i64 op] w fun e w' => (er ≠ 0 ∧ e = .returned (.int .i64 er) ∧ Kp [] w w') ∨ (er = 0 ∧ e = .returned (.int .i64 0) ∧ ∃ vl', StS w' s base vl' (lo ++ [r]) st vd dr ∧ StK w w' s vl vl') := by
  have HF := Lib.hid hf
  have HS := Lib.hid h
  have hvl : ∃ g c, vl = .slice (some ⟨g, 0, none⟩) (lo.length + 2) c ∧ lo.length + 2 ≤ c ∧ c ≤ maxLen ∧ (∀ i, i < lo.length + 2 → w.cell? ⟨g, i, none⟩ = some (.int .i64 ((lo ++ [x, y]).getD i 0))) := by
    rcases h.2.2.2.1 with ⟨_, h0⟩ | ⟨g, cap, cur, rfl, h1, h2, h3, h4, h5, h6⟩
    · simp at h0
    · refine ⟨g, cap, by simp, by simpa using h3, h4, fun i hi => ?_⟩
      rw [cell_of_row w g _ _ _ _ h2, ← Array.getElem?_toList, take_getD h6 i (by simpa using hi)]
  obtain ⟨g, c, rfl, hlc, hcm, hcell⟩ := hvl
  have hx0 := hcell lo.length (by omega)
  rw [show (lo ++ [x, y]).getD lo.length 0 = x by simp] at hx0
  have hy0 := hcell (lo.length + 1) (by omega)
  rw [show (lo ++ [x, y]).getD (lo.length + 1) 0 = y by simp [List.getElem?_append_right]] at hy0
  have HLO : Hid (FullR w (.slice (some ⟨g, 0, none⟩) lo.length lo.length) lo) := .inr ⟨g, rfl, by omega, fun i hi => by
    rw [hcell i (by omega), List.getD_eq_getElem?_getD, List.getElem?_append_left hi, ← List.getD_eq_getElem?_getD]⟩
  have c0 := h.cell0
  have hw9 : IntKind.i64.wrap ((lo.length : Int) + 2 - 2) = lo.length := by rw [IntKind.wrap_i64]; omega
  have hd9 : decide ((lo.length : Int) + 2 < 2) = false := decide_eq_false (by omega)
  have hli : (lo.length : Int) ≤ c := by omega
  have hn0 : (lo.length : Int) + 2 ≤ c := by omega
  unfold maxLen at hcm
  have HMX := Lib.hid hmx
  clear h hf hcell hmx
  have HMY := Lib.hid hmy
  clear hmy
  go_enter Tryz.func54, Tryz.ntmps54
  go_wp2_with fail
  refine HF.out.mono ?_; rintro e w1 ⟨fv, rfl, ⟨k, hent, hcase⟩, hk1⟩
  rcases hcase with ⟨rfl, hc⟩ | ⟨B, opx, rfl, hcB, hc⟩
  · have HC := Lib.hid (fun w1 => hc x y w1 HMX.out HMY.out)
    simp only [hr] at HC
    clear hc hr
    have hka : Kp [] w (w1.alloc (.cells #[.int .i64 op, .int .i64 2, .func (.func k) #[] #[], .nilFunc] 93)) := hk1.alloc _
    obtain ⟨b0, b1, b2, b3⟩ := box4s (Kp.refl [] (w1.alloc (.cells #[.int .i64 op, .int .i64 2, .func (.func k) #[] #[], .nilFunc] 93)))
    have d0 := hka.cell c0 (by simp)
    have d1 := hka.cell hx0 (by simp)
    have d2 := hka.cell hy0 (by simp)
    go_wp2_with fail
    generalize w1.alloc (.cells #[.int .i64 op, .int .i64 2, .func (.func k) #[] #[], .nilFunc] 93) = WB at *
    generalize w1.heap.size = BX at *
    have qb0 := KW.cell b0
    have qb1 := KW.cell b1
    have qb2 := KW.cell b2
    have qb3 := KW.cell b3
    have qd0 := KW.cell d0
    have qd1 := KW.cell d1
    have qd2 := KW.cell d2
    refine wp_region_kq (by kernel_rfl) (by kernel_rfl) ?_
    repeat (go_big_quiet_step (fail))
    refine wpQuiet_nil ?_
    intro v1 hw'
    obtain ⟨⟨_, hkv1⟩, rfl⟩ := hw'
    clear qb0 qb1 qb2 qb3 qd0 qd1 qd2
    have b0 := hkv1.cell b0 (by simp)
    have b1 := hkv1.cell b1 (by simp)
    have b2 := hkv1.cell b2 (by simp)
    have b3 := hkv1.cell b3 (by simp)
    have d0 := hkv1.cell d0 (by simp)
    have d1 := hkv1.cell d1 (by simp)
    have d2 := hkv1.cell d2 (by simp)
    have hka := hka.trans hkv1
    clear hkv1
    go_wp2_with fail
    have qb0 := KW.cell b0
    have qb1 := KW.cell b1
    have qb2 := KW.cell b2
    have qb3 := KW.cell b3
    have qd0 := KW.cell d0
    have qd1 := KW.cell d1
    have qd2 := KW.cell d2
    refine wp_region_kq (by kernel_rfl) (by kernel_rfl) ?_
    repeat (go_big_quiet_step (fail))
    refine wpQuiet_nil ?_
    intro v2 hw'
    obtain ⟨⟨_, hkv2⟩, rfl⟩ := hw'
    clear qb0 qb1 qb2 qb3 qd0 qd1 qd2
    have b0 := hkv2.cell b0 (by simp)
    have b1 := hkv2.cell b1 (by simp)
    have b2 := hkv2.cell b2 (by simp)
    have b3 := hkv2.cell b3 (by simp)
    have d0 := hkv2.cell d0 (by simp)
    have d1 := hkv2.cell d1 (by simp)
    have d2 := hkv2.cell d2 (by simp)
    have hka := hka.trans hkv2
    clear hkv2
    go_wp2_with fail
    have qb0 := KW.cell b0
    have qb1 := KW.cell b1
    have qb2 := KW.cell b2
    have qb3 := KW.cell b3
    have qd0 := KW.cell d0
    have qd1 := KW.cell d1
    have qd2 := KW.cell d2
    refine wp_region_kq (by kernel_rfl) (by kernel_rfl) ?_
    repeat (go_big_quiet_step ((go_at_call 65; exact Calls.kq0 (clip_calls (some ⟨g, 0, none⟩) lo.length c (fun h => by cases h) (by omega) (by unfold maxLen; omega) _))))
    refine wpQuiet_nil ?_
    intro v3 hw'
    obtain ⟨⟨_, hkv3⟩, rfl⟩ := hw'
    clear qb0 qb1 qb2 qb3 qd0 qd1 qd2
    have b0 := hkv3.cell b0 (by simp)
    have b1 := hkv3.cell b1 (by simp)
    have b2 := hkv3.cell b2 (by simp)
    have b3 := hkv3.cell b3 (by simp)
    have d0 := hkv3.cell d0 (by simp)
    have d1 := hkv3.cell d1 (by simp)
    have d2 := hkv3.cell d2 (by simp)
    have hka := hka.trans hkv3
    clear hkv3
    go_wp2_with fail
    rw [neq_fn]
    by_cases he : er = 0
    · subst he
      go_wp2_with fail
      have qb0 := KW.cell b0
      have qb1 := KW.cell b1
      have qb2 := KW.cell b2
      have qb3 := KW.cell b3
      have qd0 := KW.cell d0
      have qd1 := KW.cell d1
      have qd2 := KW.cell d2
      refine wp_region_kq (by kernel_rfl) (by kernel_rfl) ?_
      repeat (go_big_quiet_step (exact Calls.kq (HC.out _)))
      refine wpQuiet_nil ?_
      intro v4 hw'
      obtain ⟨⟨_, hkv4⟩, rfl⟩ := hw'
      clear qb0 qb1 qb2 qb3 qd0 qd1 qd2
      have b0 := hkv4.cell b0 (by simp)
      have b1 := hkv4.cell b1 (by simp)
      have b2 := hkv4.cell b2 (by simp)
      have b3 := hkv4.cell b3 (by simp)
      have d0 := hkv4.cell d0 (by simp)
      have d1 := hkv4.cell d1 (by simp)
      have d2 := hkv4.cell d2 (by simp)
      have hka := hka.trans hkv4
      clear hkv4
      have h4 := Lib.hid (HS.out.kp0 hka)
      have hlo4 := Lib.hid (HLO.out.kp0 hka)
      have f0 := h4.out.frozen 0
      go_wp2_with (at_builtin; refine wpList_growC rfl _ _ 24 rfl 3 Tryz.underlying24 infoIntS _ lo rfl (hlo4.out.kp0 ((Kp.refl [] v4).alloc _)) ⟨v4.heap.size, 0, none⟩ 1 1 [r] rfl rfl (by decide) (lit_cells1 (box1 (Kp.refl [] _))) (by omega) ?hk)
      case hk =>
      intro v' w9 ho hk
      obtain ⟨p', c', rfl⟩ := ho.form
      have hk9 : Kp [] v4 w9 := ((Kp.refl [] v4).alloc _).trans hk
      have hlt := h4.out.lt
      obtain ⟨hs2, hk2⟩ := h4.out.put' (hk9.more (fun t ht => nomatch ht)) (OwnC_mono ho (by have := h4.out.2.2.1; have := h4.out.lt; (try simp); omega)) (fun k e => .inr (by have := (ho.lt k e).1; (try simp at this); omega))
      rw [show (lo ++ [r]).length = lo.length + 1 by simp] at hs2 hk2
      have hfin := Lib.hid (And.intro hs2 ((StK.of_kp s _ hka).trans hk2))
      have hblk := hk9.heap h4.out.1 (by simp)
      have c1 : w9.cell? ⟨s, 0, none⟩ = some (.slice (some ⟨g, 0, none⟩) (lo.length + 2) c) := by rw [cell_of_row w9 s 0 _ _ _ hblk]; rfl
      have f1 : w9.frozen? ⟨s, 0, none⟩ = false := frozen_of_row w9 s 0 _ _ hblk
      clear ho hk hk9 hs2 hk2 hblk
      go_wp2_with fail
      go_ret
      first | exact ⟨rfl, _, hfin.out⟩ | exact .inr ⟨rfl, rfl, _, hfin.out⟩
    · have he' : (er != 0) = true := bne_iff_ne.2 he
      go_wp2_with fail
      have qb0 := KW.cell b0
      have qb1 := KW.cell b1
      have qb2 := KW.cell b2
      have qb3 := KW.cell b3
      have qd0 := KW.cell d0
      have qd1 := KW.cell d1
      have qd2 := KW.cell d2
      refine wp_region_kq (by kernel_rfl) (by kernel_rfl) ?_
      repeat (go_big_quiet_step (exact Calls.kq (HC.out _)))
      refine wpQuiet_nil ?_
      intro v4 hw'
      obtain ⟨⟨_, hkv4⟩, rfl⟩ := hw'
      clear qb0 qb1 qb2 qb3 qd0 qd1 qd2
      have b0 := hkv4.cell b0 (by simp)
      have b1 := hkv4.cell b1 (by simp)
      have b2 := hkv4.cell b2 (by simp)
      have b3 := hkv4.cell b3 (by simp)
      have d0 := hkv4.cell d0 (by simp)
      have d1 := hkv4.cell d1 (by simp)
      have d2 := hkv4.cell d2 (by simp)
      have hka := hka.trans hkv4
      clear hkv4
      go_wp2_with fail
      go_ret
      exact .inl ⟨he, rfl, hka⟩
  · have HC := Lib.hid (fun w1 => hc x y w1 HMX.out HMY.out)
    simp only [hr] at HC
    clear hc hr
    have hka : Kp [] w (w1.alloc (.cells #[.int .i64 op, .int .i64 2, .func (.func k) #[] #[.pointer (some ⟨B, 0, none⟩)], .nilFunc] 93)) := hk1.alloc _
    obtain ⟨b0, b1, b2, b3⟩ := box4s (Kp.refl [] (w1.alloc (.cells #[.int .i64 op, .int .i64 2, .func (.func k) #[] #[.pointer (some ⟨B, 0, none⟩)], .nilFunc] 93)))
    have d0 := hka.cell c0 (by simp)
    have d1 := hka.cell hx0 (by simp)
    have d2 := hka.cell hy0 (by simp)
    have d3 := Kp.cell (S := []) ((Kp.refl [] w1).alloc (.cells #[.int .i64 op, .int .i64 2, .func (.func k) #[] #[.pointer (some ⟨B, 0, none⟩)], .nilFunc] 93)) hcB (by simp)
    go_wp2_with fail
    generalize w1.alloc (.cells #[.int .i64 op, .int .i64 2, .func (.func k) #[] #[.pointer (some ⟨B, 0, none⟩)], .nilFunc] 93) = WB at *
    generalize w1.heap.size = BX at *
    have qb0 := KW.cell b0
    have qb1 := KW.cell b1
    have qb2 := KW.cell b2
    have qb3 := KW.cell b3
    have qd0 := KW.cell d0
    have qd1 := KW.cell d1
    have qd2 := KW.cell d2
    have qd3 := KW.cell d3
    refine wp_region_kq (by kernel_rfl) (by kernel_rfl) ?_
    repeat (go_big_quiet_step (fail))
    refine wpQuiet_nil ?_
    intro v1 hw'
    obtain ⟨⟨_, hkv1⟩, rfl⟩ := hw'
    clear qb0 qb1 qb2 qb3 qd0 qd1 qd2 qd3
    have b0 := hkv1.cell b0 (by simp)
    have b1 := hkv1.cell b1 (by simp)
    have b2 := hkv1.cell b2 (by simp)
    have b3 := hkv1.cell b3 (by simp)
    have d0 := hkv1.cell d0 (by simp)
    have d1 := hkv1.cell d1 (by simp)
    have d2 := hkv1.cell d2 (by simp)
    have d3 := hkv1.cell d3 (by simp)
    have hka := hka.trans hkv1
    clear hkv1
    go_wp2_with fail
    have qb0 := KW.cell b0
    have qb1 := KW.cell b1
    have qb2 := KW.cell b2
    have qb3 := KW.cell b3
    have qd0 := KW.cell d0
    have qd1 := KW.cell d1
    have qd2 := KW.cell d2
    have qd3 := KW.cell d3
    refine wp_region_kq (by kernel_rfl) (by kernel_rfl) ?_
    repeat (go_big_quiet_step (fail))
    refine wpQuiet_nil ?_
    intro v2 hw'
    obtain ⟨⟨_, hkv2⟩, rfl⟩ := hw'
    clear qb0 qb1 qb2 qb3 qd0 qd1 qd2 qd3
    have b0 := hkv2.cell b0 (by simp)
    have b1 := hkv2.cell b1 (by simp)
    have b2 := hkv2.cell b2 (by simp)
    have b3 := hkv2.cell b3 (by simp)
    have d0 := hkv2.cell d0 (by simp)
    have d1 := hkv2.cell d1 (by simp)
    have d2 := hkv2.cell d2 (by simp)
    have d3 := hkv2.cell d3 (by simp)
    have hka := hka.trans hkv2
    clear hkv2
    go_wp2_with fail
    have qb0 := KW.cell b0
    have qb1 := KW.cell b1
    have qb2 := KW.cell b2
    have qb3 := KW.cell b3
    have qd0 := KW.cell d0
    have qd1 := KW.cell d1
    have qd2 := KW.cell d2
    have qd3 := KW.cell d3
    refine wp_region_kq (by kernel_rfl) (by kernel_rfl) ?_
    repeat (go_big_quiet_step ((go_at_call 65; exact Calls.kq0 (clip_calls (some ⟨g, 0, none⟩) lo.length c (fun h => by cases h) (by omega) (by unfold maxLen; omega) _))))
    refine wpQuiet_nil ?_
    intro v3 hw'
    obtain ⟨⟨_, hkv3⟩, rfl⟩ := hw'
    clear qb0 qb1 qb2 qb3 qd0 qd1 qd2 qd3
    have b0 := hkv3.cell b0 (by simp)
    have b1 := hkv3.cell b1 (by simp)
    have b2 := hkv3.cell b2 (by simp)
    have b3 := hkv3.cell b3 (by simp)
    have d0 := hkv3.cell d0 (by simp)
    have d1 := hkv3.cell d1 (by simp)
    have d2 := hkv3.cell d2 (by simp)
    have d3 := hkv3.cell d3 (by simp)
    have hka := hka.trans hkv3
    clear hkv3
    go_wp2_with fail
    rw [neq_fn]
    by_cases he : er = 0
    · subst he
      go_wp2_with fail
      have qb0 := KW.cell b0
      have qb1 := KW.cell b1
      have qb2 := KW.cell b2
      have qb3 := KW.cell b3
      have qd0 := KW.cell d0
      have qd1 := KW.cell d1
      have qd2 := KW.cell d2
      have qd3 := KW.cell d3
      refine wp_region_kq (by kernel_rfl) (by kernel_rfl) ?_
      repeat (go_big_quiet_step (exact Calls.kq (HC.out _ (KW.cell d3 _))))
      refine wpQuiet_nil ?_
      intro v4 hw'
      obtain ⟨⟨_, hkv4⟩, rfl⟩ := hw'
      clear qb0 qb1 qb2 qb3 qd0 qd1 qd2 qd3
      have b0 := hkv4.cell b0 (by simp)
      have b1 := hkv4.cell b1 (by simp)
      have b2 := hkv4.cell b2 (by simp)
      have b3 := hkv4.cell b3 (by simp)
      have d0 := hkv4.cell d0 (by simp)
      have d1 := hkv4.cell d1 (by simp)
      have d2 := hkv4.cell d2 (by simp)
      have d3 := hkv4.cell d3 (by simp)
      have hka := hka.trans hkv4
      clear hkv4
      have h4 := Lib.hid (HS.out.kp0 hka)
      have hlo4 := Lib.hid (HLO.out.kp0 hka)
      have f0 := h4.out.frozen 0
      go_wp2_with (at_builtin; refine wpList_growC rfl _ _ 24 rfl 3 Tryz.underlying24 infoIntS _ lo rfl (hlo4.out.kp0 ((Kp.refl [] v4).alloc _)) ⟨v4.heap.size, 0, none⟩ 1 1 [r] rfl rfl (by decide) (lit_cells1 (box1 (Kp.refl [] _))) (by omega) ?hk)
      case hk =>
      intro v' w9 ho hk
      obtain ⟨p', c', rfl⟩ := ho.form
      have hk9 : Kp [] v4 w9 := ((Kp.refl [] v4).alloc _).trans hk
      have hlt := h4.out.lt
      obtain ⟨hs2, hk2⟩ := h4.out.put' (hk9.more (fun t ht => nomatch ht)) (OwnC_mono ho (by have := h4.out.2.2.1; have := h4.out.lt; (try simp); omega)) (fun k e => .inr (by have := (ho.lt k e).1; (try simp at this); omega))
      rw [show (lo ++ [r]).length = lo.length + 1 by simp] at hs2 hk2
      have hfin := Lib.hid (And.intro hs2 ((StK.of_kp s _ hka).trans hk2))
      have hblk := hk9.heap h4.out.1 (by simp)
      have c1 : w9.cell? ⟨s, 0, none⟩ = some (.slice (some ⟨g, 0, none⟩) (lo.length + 2) c) := by rw [cell_of_row w9 s 0 _ _ _ hblk]; rfl
      have f1 : w9.frozen? ⟨s, 0, none⟩ = false := frozen_of_row w9 s 0 _ _ hblk
      clear ho hk hk9 hs2 hk2 hblk
      go_wp2_with fail
      go_ret
      first | exact ⟨rfl, _, hfin.out⟩ | exact .inr ⟨rfl, rfl, _, hfin.out⟩
    · have he' : (er != 0) = true := bne_iff_ne.2 he
      go_wp2_with fail
      have qb0 := KW.cell b0
      have qb1 := KW.cell b1
      have qb2 := KW.cell b2
      have qb3 := KW.cell b3
      have qd0 := KW.cell d0
      have qd1 := KW.cell d1
      have qd2 := KW.cell d2
      have qd3 := KW.cell d3
      refine wp_region_kq (by kernel_rfl) (by kernel_rfl) ?_
      repeat (go_big_quiet_step (exact Calls.kq (HC.out _ (KW.cell d3 _))))
      refine wpQuiet_nil ?_
      intro v4 hw'
      obtain ⟨⟨_, hkv4⟩, rfl⟩ := hw'
      clear qb0 qb1 qb2 qb3 qd0 qd1 qd2 qd3
      have b0 := hkv4.cell b0 (by simp)
      have b1 := hkv4.cell b1 (by simp)
      have b2 := hkv4.cell b2 (by simp)
      have b3 := hkv4.cell b3 (by simp)
      have d0 := hkv4.cell d0 (by simp)
      have d1 := hkv4.cell d1 (by simp)
      have d2 := hkv4.cell d2 (by simp)
      have d3 := hkv4.cell d3 (by simp)
      have hka := hka.trans hkv4
      clear hkv4
      go_wp2_with fail
      go_ret
      exact .inl ⟨he, rfl, hka⟩

end Go.Proofs.YtfgpocpfapnkkaaGreat

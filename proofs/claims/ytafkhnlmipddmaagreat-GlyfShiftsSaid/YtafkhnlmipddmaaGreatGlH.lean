/- glyf: what a table is asked; a nil table. -/
import Derived.Test.YtafkhnlmipddmaaGreatGlG
import Derived.BigQuiet
import Derived.Deep.DeepCutAuto
namespace Go.Proofs.YtafkhnlmipddmaaGreat
open Go.RowKit
set_option linter.unusedVariables false
set_option linter.unusedSimpArgs false
set_option maxRecDepth 100000 in
set_option maxHeartbeats 4000000 in
theorem gvisits_calls (n0 T : Nat) (zs A : List Int) (ok : okTb zs A) (hG : okG zs A) (hgl : ∀ g, g + 1 < A.length → kindM (gB zs A g) = 2 → ∀ p ∈ (Cp.decM (gB zs A g)).1, -4294967296 ≤ p.g ∧ p.g ≤ 4294967296) (g : Int) (hg : -4294967296 ≤ g ∧ g ≤ 4294967296) (w : World) (ht : TbAt w n0 T zs A) (hn : n0 ≤ w.heap.size) (O : List (List Pn)) (E : Int) (V : Nat) (hE : evalG zs A 6 g 0 = ((O, E), V)) :
    Calls Tryz.prog 17 #[.pointer (some ⟨T, 0, none⟩), .int .i64 g] w fun e w' => e = .returned (.tuple #[.int .i64 (if E = 0 then V else (0 : Nat)), .int .i64 E]) ∧ Kp [] w w' := by
  have HE := Lib.hid (eval_calls n0 T w.heap.size zs A ok hG hn hgl 6 (Nat.le_refl _))
  have HT := Lib.hid ht
  generalize evalG zs A 6 = ev at *
  have HX := Lib.hid hE
  clear hE
  go_enter Tryz.func17, Tryz.ntmps17
  go_wp2_with fail
  have hka : Kp [] w (w.alloc (.cells #[.pointer (some ⟨T, 0, none⟩), .int .i64 0] 83)) := (Kp.refl _ _).alloc _
  refine (HE.out g 0 _ (HT.out.kp0 hka) (heap_alloc_new w _) (by omega) hg).mono ?_; rintro e w2 ⟨v2, rfl, ho2, hw2, hk2⟩
  have HK : Hid (Kp [] w w2) := by
    exact Kp.trans' hka hk2 (fun s hs => by simp at hs; subst hs; exact .inr (Nat.le_refl _))
  rw [HX.out] at ho2 hw2 ⊢
  dsimp only at ho2 hw2 ⊢
  obtain ⟨p2, c2, rfl⟩ := ho2.form
  have HW := Lib.hid hw2
  generalize O.length = N at *
  clear ho2 hw2 hk2 hka HE HX
  by_cases h0 : E = 0
  · subst h0
    obtain ⟨w0, w1, _, _⟩ := HW.out.cells
    go_wp2_with fail
    go_ret2
    exact ⟨by simp, HK.out⟩
  · have hb : (E != 0) = true := by simpa using h0
    go_wp2_with fail
    go_ret2
    exact ⟨by simp [h0], HK.out⟩
theorem ints_formB {w : World} {v : Value} {zs : List Int} (h : IsInts .u8 w v zs) : ∃ p c, v = .slice p zs.length c := by
  rcases h with ⟨⟨ad, rfl⟩, rfl⟩ | ⟨g, off, c, rfl, _⟩
  · exact ⟨_, 0, rfl⟩
  · exact ⟨_, c, rfl⟩
set_option maxRecDepth 100000 in
set_option maxHeartbeats 4000000 in
theorem gbytes_in (W : World) (n0 T : Nat) (zs A : List Int) (h : TbAt W n0 T zs A) (ok : okTb zs A) (g : Nat) (hg : g + 1 < A.length) :
    Calls Tryz.prog 21 #[.pointer (some ⟨T, 0, none⟩), .int .i64 g] W fun e w' => ∃ v', e = .returned (.tuple #[v', .int .i64 0]) ∧ IsInts .u8 w' v' (gB zs A g) ∧ Kp [] W w' := by
  have HB := Lib.hid (tbytes_in W n0 T zs A h ok g hg)
  have hl := gB_len ok g
  have HCL := Lib.hid (fun v2 W2 (h : IsInts .u8 W2 v2 (gB zs A g)) => clone_calls v2 _ W2 h (by omega))
  generalize gB zs A g = b at *
  clear h ok hg hl
  go_enter Tryz.func21, Tryz.ntmps21
  go_wp2_with fail
  refine HB.out.mono ?_; rintro e w1 ⟨v1, rfl, hi1, hb1, hk1⟩
  obtain ⟨p1, c1, rfl⟩ := ints_formB hi1
  have HI := Lib.hid hi1
  have HK := Lib.hid hk1
  generalize b.length = N at *
  clear hi1 hb1 hk1
  go_wp2_with fail
  refine (HCL.out _ _ HI.out).mono ?_; rintro e w2 ⟨v2, rfl, hi2, hk2, hb2⟩
  have HI2 := Lib.hid hi2
  have HK2 : Hid (Kp [] W w2) := HK.out.trans hk2
  have hf : ∃ p c n, v2 = .slice p n c := by
    obtain ⟨p, c, h⟩ := ints_formB hi2
    exact ⟨p, c, _, h⟩
  obtain ⟨p2, c2, n2, rfl⟩ := hf
  clear hi2 hk2 hb2 HCL HB
  go_wp2_with fail
  go_ret2
  exact ⟨_, rfl, HI2.out, HK2.out⟩
theorem glen_calls (W : World) (n0 T : Nat) (zs A : List Int) (h : TbAt W n0 T zs A) (ok : okTb zs A) :
    Calls Tryz.prog 22 #[.pointer (some ⟨T, 0, none⟩)] W fun e w' => e = .returned (.int .i64 (A.length - 1)) ∧ Kp [] W w' := by
  obtain ⟨vb, q, va, hT, hq, h1, h2, h3, h4, h5, h6⟩ := h
  have HP := Lib.hid (pllen_calls q A W ⟨va, h4, h5⟩ (by have := ok.1.2.1; omega))
  have c1 : W.cell? ⟨T, 1, none⟩ = some (.pointer (some ⟨q, 0, none⟩)) := by rw [cell_of_row W T 1 _ _ (0, 0) h1]; rfl
  have hTl : T < W.heap.size := lt_of_block h1
  clear h1 h2 h3 h4 h5 h6 ok
  go_enter Tryz.func22, Tryz.ntmps22
  go_wp2_with fail
  refine HP.out.mono ?_; rintro e w1 ⟨rfl, hw1⟩
  have hw2 := hw1.symm
  subst hw2
  go_wp2_with fail
  go_ret
  exact ⟨rfl, Kp.refl _ _⟩
theorem bytes_nil (g : Int) (W : World) : Calls Tryz.prog 45 #[.pointer none, .int .i64 g] W fun e w' => e = .returned (.tuple #[.slice none 0 0, .int .i64 6]) ∧ Kp [] W w' := by
  go_enter Tryz.func45, Tryz.ntmps45
  go_wp2_with fail
  go_ret2
  exact ⟨rfl, by (repeat (first | exact Kp.refl _ _ | assumption | refine Kp.drew ?_ | refine Kp.drewN ?_ _ | refine Kp.alloc ?_ _ | (refine Kp.setCell ?_ (by first | (left; simp; done) | (right; simp; try omega)) _) | (refine Kp.trans' ?_ (by assumption) (by simp; try omega))))⟩
theorem gbytes_nil (g : Int) (W : World) : Calls Tryz.prog 21 #[.pointer none, .int .i64 g] W fun e w' => ∃ v', e = .returned (.tuple #[v', .int .i64 6]) ∧ IsInts .u8 w' v' [] ∧ Kp [] W w' := by
  have HB := Lib.hid (bytes_nil g W)
  have HCL := Lib.hid (fun W2 => clone_calls (.slice none 0 0) [] W2 (.inl ⟨⟨none, rfl⟩, rfl⟩) (by simp))
  go_enter Tryz.func21, Tryz.ntmps21
  go_wp2_with fail
  refine HB.out.mono ?_; rintro e w1 ⟨rfl, hk1⟩
  have HK := Lib.hid hk1
  clear hk1
  go_wp2_with fail
  refine (HCL.out _).mono ?_; rintro e w2 ⟨v2, rfl, hi2, hk2, hb2⟩
  have HI2 := Lib.hid hi2
  have HK2 : Hid (Kp [] W w2) := HK.out.trans hk2
  obtain ⟨p2, c2, hf⟩ := ints_formB hi2
  simp only [List.length_nil] at hf
  subst hf
  clear hi2 hk2 hb2 HCL HB
  go_wp2_with fail
  go_ret2
  exact ⟨_, rfl, HI2.out, HK2.out⟩
theorem walk_nil (B : Nat) (g : Int) (W : World) (h : W.heap[B]? = some (.cells #[.pointer none, .int .i64 0] 83 (0, 0))) : Calls Tryz.prog 34 #[.pointer (some ⟨B, 0, none⟩), .int .i64 g, .int .i64 0] W fun e w' => e = .returned (.tuple #[.slice none 0 0, .int .i64 6]) ∧ Kp [] W w' := by
  have c0 : W.cell? ⟨B, 0, none⟩ = some (.pointer none) := by rw [cell_of_row W B 0 _ _ (0, 0) h]; rfl
  have hBl : B < W.heap.size := lt_of_block h
  have HB := Lib.hid (bytes_nil g)
  clear h
  go_enter Tryz.func34, Tryz.ntmps34
  go_wp2_with fail
  refine (HB.out _).mono ?_; rintro e w1 ⟨rfl, hk1⟩
  go_wp2_with fail
  go_ret2
  exact ⟨rfl, hk1⟩
theorem goutline_nil (g : Int) (w : World) : Calls Tryz.prog 13 #[.pointer none, .int .i64 g] w fun e w' => e = .returned (.tuple #[.slice none 0 0, .int .i64 6]) ∧ Kp [] w w' := by
  go_enter Tryz.func13, Tryz.ntmps13
  go_wp2_with fail
  refine (walk_nil w.heap.size g _ (heap_alloc_new w _)).mono ?_; rintro e w2 ⟨rfl, hk2⟩
  have HK : Hid (Kp [] w w2) := Kp.trans (by (repeat (first | exact Kp.refl _ _ | assumption | refine Kp.drew ?_ | refine Kp.drewN ?_ _ | refine Kp.alloc ?_ _ | (refine Kp.setCell ?_ (by first | (left; simp; done) | (right; simp; try omega)) _) | (refine Kp.trans' ?_ (by assumption) (by simp; try omega))))) hk2
  clear hk2
  go_wp2_with fail
  go_ret2
  exact ⟨rfl, HK.out⟩
theorem gvisits_nil (g : Int) (w : World) : Calls Tryz.prog 17 #[.pointer none, .int .i64 g] w fun e w' => e = .returned (.tuple #[.int .i64 0, .int .i64 6]) ∧ Kp [] w w' := by
  go_enter Tryz.func17, Tryz.ntmps17
  go_wp2_with fail
  refine (walk_nil w.heap.size g _ (heap_alloc_new w _)).mono ?_; rintro e w2 ⟨rfl, hk2⟩
  have HK : Hid (Kp [] w w2) := Kp.trans (by (repeat (first | exact Kp.refl _ _ | assumption | refine Kp.drew ?_ | refine Kp.drewN ?_ _ | refine Kp.alloc ?_ _ | (refine Kp.setCell ?_ (by first | (left; simp; done) | (right; simp; try omega)) _) | (refine Kp.trans' ?_ (by assumption) (by simp; try omega))))) hk2
  clear hk2
  go_wp2_with fail
  go_ret2
  exact ⟨rfl, HK.out⟩
theorem glen_nil (w : World) : Calls Tryz.prog 22 #[.pointer none] w fun e w' => e = .returned (.int .i64 0) ∧ Kp [] w w' := by
  go_enter Tryz.func22, Tryz.ntmps22
  go_wp2_with fail
  go_ret
  exact ⟨rfl, by (repeat (first | exact Kp.refl _ _ | assumption | refine Kp.drew ?_ | refine Kp.drewN ?_ _ | refine Kp.alloc ?_ _ | (refine Kp.setCell ?_ (by first | (left; simp; done) | (right; simp; try omega)) _) | (refine Kp.trans' ?_ (by assumption) (by simp; try omega))))⟩
set_option maxRecDepth 100000 in
set_option maxHeartbeats 4000000 in
theorem gnew_nil (p : Option Addr) (n c : Nat) (w : World) : Calls Tryz.prog 20 #[.slice p n c, .pointer none] w fun e w' => e = .returned (.tuple #[.pointer none, .int .i64 1]) ∧ Kp [] w w' := by
  have HL := Lib.hid pllen_nil
  have HA := Lib.hid (plat_nil (-1))
  go_enter Tryz.func20, Tryz.ntmps20
  go_wp2_with fail
  refine (HL.out _).mono ?_; rintro e w1 ⟨rfl, hw1⟩
  have hw2 := hw1.symm
  subst hw2
  go_wp2_with fail
  refine (HA.out _).mono ?_; rintro e w2 ⟨rfl, hk2⟩
  go_wp2_with fail
  go_ret2
  exact ⟨rfl, hk2⟩
end Go.Proofs.YtafkhnlmipddmaaGreat

/- compose: put. (Written by wip/compose/gencpq.py.) -/
import Derived.Test.YtodjohoonbkklaaCpQ
import Derived.Test.YtodjohoonbkklaaCpH
import Derived.Test.YtodjohoonbkklaaWireG
import Derived.Test.YtodjohoonbkklaaPair
import Derived.BigQuiet
import Derived.Deep.QuietTactic
namespace Go.Proofs.Ytodjohoonbkklaa
open Go.RowKit
set_option linter.unusedVariables false
set_option linter.unusedSimpArgs false
set_option maxRecDepth 100000 in
set_option maxHeartbeats 4000000 in
theorem put_tgy (r : Nat) (room : Int) (v : Value) (acc : List Int) (g xx xy yx yy dx dy : Int) (w : World) (h : WSt w r room v acc) (hfit : fitsM xx xy yx yy = true) (hg : 0 ≤ g ∧ g < 65536) (hA : -32768 ≤ dx ∧ dx < 65536) (hB : -32768 ≤ dy ∧ dy < 65536) (hY : bothB dx dy (-128) 127 = true) (hn : (acc.length : Int) + 16 ≤ room) (hr : room ≤ 1073741824) :
    Calls Try.prog 64 #[.pointer (some ⟨r, 0, none⟩), ptV (⟨g, xx, xy, yx, yy, false, dx, dy, true, 0, 0⟩ : Pt), .bool true] w fun e w' => e = .returned (.tuple #[]) ∧ ∃ v', WSt w' r room v' (acc ++ putM (⟨g, xx, xy, yx, yy, false, dx, dy, true, 0, 0⟩ : Pt) true) ∧ WK w w' r v v' := by
  have HQ : Hid (putM (⟨g, xx, xy, yx, yy, false, dx, dy, true, 0, 0⟩ : Pt) true = bytesN 2 (mflag xx xy yx yy + 2050 + 32 + 0) ++ bytesN 2 g ++ bytesN 1 dx ++ bytesN 1 dy ++ (mnums xx xy yx yy).flatMap (bytesN 2)) := by
    show _ = _; simp only [putM, flagsM, lenN, tinyB, tflag, numA, numB, hY]; rfl
  have HB := Lib.hid (both_as dx dy (-128) 127 true hY)
  have HN := Lib.hid (mnums_in xx xy yx yy hfit)
  have hNL := mnums_len xx xy yx yy
  have HF := or_sum _ (mflag_cases xx xy yx yy) 2050 (by simp) 32 (by simp)
  have HFC := mflag_cases xx xy yx yy
  rw [show ptV (⟨g, xx, xy, yx, yy, false, dx, dy, true, 0, 0⟩ : Pt) = .agg #[.int .i64 g, .int .i64 xx, .int .i64 xy, .int .i64 yx, .int .i64 yy, .bool false, .int .i64 dx, .int .i64 dy, .bool true, .int .i64 0, .int .i64 0] from rfl]
  obtain ⟨hg0, hg1⟩ := hg
  obtain ⟨hA0, hA1⟩ := hA
  obtain ⟨hB0, hB1⟩ := hB
  have HW := Lib.hid h
  have hrw : r < w.heap.size := h.2.2
  clear hY hfit h
  go_enter Try.func64, Try.ntmps64
  go_wp2_with fail
  refine (bits_calls xx xy yx yy _).mono ?_; rintro e w2 ⟨nv, rfl, hi2, hk2, hnb⟩
  have hblk := hk2.heap (heap_alloc_new w _) (by simp)
  have hk02 : Kp [] w w2 := ((Kp.refl _ _).alloc _).trans hk2
  have hst2 := HW.out.step hk02
  have hge : ∀ k, blockOf nv = some k → w.heap.size < k ∧ k < w2.heap.size := fun k hk => by have := hnb k hk; simp at this; omega
  obtain ⟨np, nc, hnv⟩ : ∃ p c, nv = .slice p (mnums xx xy yx yy).length c := by
    rcases hi2 with ⟨⟨ad, rfl⟩, e⟩ | ⟨g, off, c, rfl, _⟩
    · exact ⟨_, 0, by rw [e]; rfl⟩
    · exact ⟨_, c, rfl⟩
  subst hnv
  generalize mflag xx xy yx yy = F at *
  generalize mnums xx xy yx yy = nums at *
  have HI := Lib.hid hi2
  have HGE := Lib.hid hge
  have HBL := Lib.hid hblk
  have HST := Lib.hid hst2
  have hsz2 : w.heap.size < w2.heap.size := by have := hk2.size; simp at this; omega
  clear hi2 hge hblk hst2 hnb hk2
  obtain ⟨N, hN⟩ : ∃ N, nums.length = N := ⟨_, rfl⟩
  have HNL := Lib.hid hN
  rw [hN] at hNL HI HGE ⊢
  clear hN
  obtain ⟨A1, e1⟩ : ∃ A1, F + 2050 = A1 := ⟨_, rfl⟩
  obtain ⟨A2, e2⟩ : ∃ A2, A1 + 32 = A2 := ⟨_, rfl⟩
  obtain ⟨A3, e3⟩ : ∃ A3, A2 + 0 = A3 := ⟨_, rfl⟩
  have hA30 : 0 ≤ A3 := by omega
  have hA31 : A3 ≤ 65535 := by omega
  have HE : Hid (F + 2050 + 32 + 0 = A3) := by show _ = _; omega
  obtain ⟨o1, o2, o3⟩ := HF
  rw [e1] at o1 o2 o3; rw [e2] at o2 o3
  clear o3
  obtain rfl : A2 = A3 := by omega
  clear e1 e2 e3 HFC
  rw [HE.out] at HQ
  clear HE
  have c0 := cell_of_row _ w.heap.size 0 _ _ _ HBL.out
  have c1 := cell_of_row _ w.heap.size 1 _ _ _ HBL.out
  have c2 := cell_of_row _ w.heap.size 2 _ _ _ HBL.out
  have c3 := cell_of_row _ w.heap.size 3 _ _ _ HBL.out
  have c4 := cell_of_row _ w.heap.size 4 _ _ _ HBL.out
  have c5 := cell_of_row _ w.heap.size 5 _ _ _ HBL.out
  have c6 := cell_of_row _ w.heap.size 6 _ _ _ HBL.out
  have c7 := cell_of_row _ w.heap.size 7 _ _ _ HBL.out
  have c8 := cell_of_row _ w.heap.size 8 _ _ _ HBL.out
  have c9 := cell_of_row _ w.heap.size 9 _ _ _ HBL.out
  have c10 := cell_of_row _ w.heap.size 10 _ _ _ HBL.out
  simp only [List.getElem?_toArray, List.getElem?_cons_succ, List.getElem?_cons_zero] at c0 c1 c2 c3 c4 c5 c6 c7 c8 c9 c10
  generalize hBv : w.heap.size = B at *
  have HBv := Lib.hid hBv
  clear hBv
  go_wp2_with fail
  go_quiet ((go_at_call 69; exact both_as 0 0 0 255 _ rfl _ _))
  have hq : Kp [] w2 (w2.drewN nq) := (Kp.refl _ _).drewN _
  replace HST := Lib.hid (stepS HST.out hq)
  replace HBL := Lib.hid (hq.heap HBL.out (by simp))
  replace HI := Lib.hid (HI.out.kp hq (by simp))
  replace HGE : Hid (∀ k, blockOf (Value.slice np N nc) = some k → B < k ∧ k < (w2.drewN nq).heap.size) := HGE.out
  replace hsz2 : B < (w2.drewN nq).heap.size := hsz2
  have hk02' : Kp [] w (w2.drewN nq) := hk02.trans hq
  clear hq hk02 c0 c1 c2 c3 c4 c5 c6 c7 c8 c9 c10
  generalize w2.drewN nq = w3 at *
  have c0 := cell_of_row _ B 0 _ _ _ HBL.out
  have c1 := cell_of_row _ B 1 _ _ _ HBL.out
  have c2 := cell_of_row _ B 2 _ _ _ HBL.out
  have c3 := cell_of_row _ B 3 _ _ _ HBL.out
  have c4 := cell_of_row _ B 4 _ _ _ HBL.out
  have c5 := cell_of_row _ B 5 _ _ _ HBL.out
  have c6 := cell_of_row _ B 6 _ _ _ HBL.out
  have c7 := cell_of_row _ B 7 _ _ _ HBL.out
  have c8 := cell_of_row _ B 8 _ _ _ HBL.out
  have c9 := cell_of_row _ B 9 _ _ _ HBL.out
  have c10 := cell_of_row _ B 10 _ _ _ HBL.out
  simp only [List.getElem?_toArray, List.getElem?_cons_succ, List.getElem?_cons_zero] at c0 c1 c2 c3 c4 c5 c6 c7 c8 c9 c10
  go_wp2_with fail
  go_quiet ((go_at_call 69; exact HB.out _ _))
  have hq : Kp [] w3 (w3.drewN nq) := (Kp.refl _ _).drewN _
  replace HST := Lib.hid (stepS HST.out hq)
  replace HBL := Lib.hid (hq.heap HBL.out (by simp))
  replace HI := Lib.hid (HI.out.kp hq (by simp))
  replace HGE : Hid (∀ k, blockOf (Value.slice np N nc) = some k → B < k ∧ k < (w3.drewN nq).heap.size) := HGE.out
  replace hsz2 : B < (w3.drewN nq).heap.size := hsz2
  have hk02b : Kp [] w (w3.drewN nq) := hk02'.trans hq
  clear hq hk02' c0 c1 c2 c3 c4 c5 c6 c7 c8 c9 c10
  generalize w3.drewN nq = w4 at *
  have c0 := cell_of_row _ B 0 _ _ _ HBL.out
  have c1 := cell_of_row _ B 1 _ _ _ HBL.out
  have c2 := cell_of_row _ B 2 _ _ _ HBL.out
  have c3 := cell_of_row _ B 3 _ _ _ HBL.out
  have c4 := cell_of_row _ B 4 _ _ _ HBL.out
  have c5 := cell_of_row _ B 5 _ _ _ HBL.out
  have c6 := cell_of_row _ B 6 _ _ _ HBL.out
  have c7 := cell_of_row _ B 7 _ _ _ HBL.out
  have c8 := cell_of_row _ B 8 _ _ _ HBL.out
  have c9 := cell_of_row _ B 9 _ _ _ HBL.out
  have c10 := cell_of_row _ B 10 _ _ _ HBL.out
  simp only [List.getElem?_toArray, List.getElem?_cons_succ, List.getElem?_cons_zero] at c0 c1 c2 c3 c4 c5 c6 c7 c8 c9 c10
  go_wp2_with fail
  have H3 : Hid (WSt w4 r room v acc ∧ WK w4 w4 r v v) := HST.out.1.step (Kp.refl _ _)
  go_region_with ((first
    | (go_at_call 105
       (with_reducible refine (wu16_calls r room v acc A2 (by omega) (by omega) _ (stepS H3.out (by (repeat (first | exact Kp.refl _ _ | assumption | refine Kp.drew ?_ | refine Kp.drewN ?_ _ | refine Kp.alloc ?_ _ | (refine Kp.setCell ?_ (by first | (left; simp; done) | (right; simp; try omega)) _) | (refine Kp.trans' ?_ (by assumption) (by simp; try omega)))))).1 (by omega) (by omega)).mono ?_)
       rintro e w5 ⟨rfl, v5, hs5, hk5⟩
       have d0 : w5.cell? ⟨B, 0, none⟩ = some (.int .i64 g) := hk5.1.cell (Kp.cell (S := []) (w := w4) (by (repeat (first | exact Kp.refl _ _ | assumption | refine Kp.drew ?_ | refine Kp.drewN ?_ _ | refine Kp.alloc ?_ _ | (refine Kp.setCell ?_ (by first | (left; simp; done) | (right; simp; try omega)) _) | (refine Kp.trans' ?_ (by assumption) (by simp; try omega))))) c0 (by simp)) (HW.out.out B (by have := HBv.out; omega))
       have HS5 := Lib.hid hs5
       have HK5 : Hid (WK w4 w5 r v v5) := WK.next H3.out.2 H3.out.1 (by (repeat (first | exact Kp.refl _ _ | assumption | refine Kp.drew ?_ | refine Kp.drewN ?_ _ | refine Kp.alloc ?_ _ | (refine Kp.setCell ?_ (by first | (left; simp; done) | (right; simp; try omega)) _) | (refine Kp.trans' ?_ (by assumption) (by simp; try omega))))) hk5
       clear hs5 hk5)
    | (go_at_call 105
       (with_reducible refine (wu16_calls r room v5 (acc ++ bytesN 2 A2) g (by omega) (by omega) _ (HS5.out.kp (S := []) (by (repeat (first | exact Kp.refl _ _ | assumption | refine Kp.drew ?_ | refine Kp.drewN ?_ _ | refine Kp.alloc ?_ _ | (refine Kp.setCell ?_ (by first | (left; simp; done) | (right; simp; try omega)) _) | (refine Kp.trans' ?_ (by assumption) (by simp; try omega))))) (by simp) (by simp)) (by simp [bytesN_length]; omega) (by omega)).mono ?_)
       rintro e w6 ⟨rfl, v6, hs6, hk6⟩
       have HS6 := Lib.hid hs6
       have HK6 : Hid (WK w4 w6 r v v6) := WK.next HK5.out HS5.out (by (repeat (first | exact Kp.refl _ _ | assumption | refine Kp.drew ?_ | refine Kp.drewN ?_ _ | refine Kp.alloc ?_ _ | (refine Kp.setCell ?_ (by first | (left; simp; done) | (right; simp; try omega)) _) | (refine Kp.trans' ?_ (by assumption) (by simp; try omega))))) hk6
       clear hs6 hk6)
    | (go_at_call 119
       (with_reducible refine (wu8_calls r room v6 (acc ++ bytesN 2 A2 ++ bytesN 2 g) dx (by omega) (by omega) _ (HS6.out.kp (S := []) (by (repeat (first | exact Kp.refl _ _ | assumption | refine Kp.drew ?_ | refine Kp.drewN ?_ _ | refine Kp.alloc ?_ _ | (refine Kp.setCell ?_ (by first | (left; simp; done) | (right; simp; try omega)) _) | (refine Kp.trans' ?_ (by assumption) (by simp; try omega))))) (by simp) (by simp)) (by simp [bytesN_length]; omega) (by omega)).mono ?_)
       rintro e w7 ⟨rfl, v7, hs7, hk7⟩
       have HS7 := Lib.hid hs7
       have HK7 : Hid (WK w4 w7 r v v7) := WK.next HK6.out HS6.out (by (repeat (first | exact Kp.refl _ _ | assumption | refine Kp.drew ?_ | refine Kp.drewN ?_ _ | refine Kp.alloc ?_ _ | (refine Kp.setCell ?_ (by first | (left; simp; done) | (right; simp; try omega)) _) | (refine Kp.trans' ?_ (by assumption) (by simp; try omega))))) hk7
       clear hs7 hk7)
    | (go_at_call 119
       (with_reducible refine (wu8_calls r room v7 (acc ++ bytesN 2 A2 ++ bytesN 2 g ++ bytesN 1 dx) dy (by omega) (by omega) _ (HS7.out.kp (S := []) (by (repeat (first | exact Kp.refl _ _ | assumption | refine Kp.drew ?_ | refine Kp.drewN ?_ _ | refine Kp.alloc ?_ _ | (refine Kp.setCell ?_ (by first | (left; simp; done) | (right; simp; try omega)) _) | (refine Kp.trans' ?_ (by assumption) (by simp; try omega))))) (by simp) (by simp)) (by simp [bytesN_length]; omega) (by omega)).mono ?_)
       rintro e w8 ⟨rfl, v8, hs8, hk8⟩
       have HS8 := Lib.hid hs8
       have HK8 : Hid (WK w4 w8 r v v8) := WK.next HK7.out HS7.out (by (repeat (first | exact Kp.refl _ _ | assumption | refine Kp.drew ?_ | refine Kp.drewN ?_ _ | refine Kp.alloc ?_ _ | (refine Kp.setCell ?_ (by first | (left; simp; done) | (right; simp; try omega)) _) | (refine Kp.trans' ?_ (by assumption) (by simp; try omega))))) hk8
       clear hs8 hk8)))
  all_goals
    clear c0 c1 c2 c3 c4 c5 c6 c7 c8 c9 c10 d0 HS5 HS6 HS7 HK5 HK6 HK7
    go_wp2_with fail
    obtain ⟨D, hD⟩ : ∃ D, acc ++ bytesN 2 A2 ++ bytesN 2 g ++ bytesN 1 dx ++ bytesN 1 dy = D := ⟨_, rfl⟩
    have HQ2 : Hid (acc ++ putM (⟨g, xx, xy, yx, yy, false, dx, dy, true, 0, 0⟩ : Pt) true = D ++ nums.flatMap (bytesN 2)) := by
      show _ = _; rw [HQ.out, ← hD]; simp only [List.append_assoc]
    have hDl : D.length ≤ acc.length + 8 := by rw [← hD]; simp [bytesN_length]; try omega
    rw [hD] at HS8
    clear hD HQ
    go_loopw [12, 77] (fun _ i wr => ∃ (j : Nat) (u : Value), j ≤ N ∧ i = .int .i64 j ∧ Hid (WSt wr r room u (D ++ (nums.take j).flatMap (bytesN 2)) ∧ WK w4 wr r v u)) (fun _ i _ => N - (intOf i).toNat)
    case atStart => exact ⟨0, v8, by omega, rfl, by simpa using HS8.out, HK8.out⟩
    case round =>
      obtain ⟨j, u, hj, rfl, HJ⟩ := hrel
      clear HS8 HK8
      by_cases hlt : j < N
      · have hI := HI.out.kp HJ.out.2.1 (fun t ht e => HW.out.out t (by have h1 := (HGE.out t e).1; have h2 := HBv.out; omega) ht)
        have hC : ∃ q off, np = some ⟨q, off, none⟩ ∧ wr.cell? ⟨q, off + j, none⟩ = some (.int .i64 (nums.getD j 0)) := by
          rcases hI with ⟨⟨a, e⟩, e0⟩ | ⟨q, off, c, e, _, _, h3⟩
          · have := HNL.out; rw [e0] at this; simp at this; omega
          · cases e; exact ⟨q, off, rfl, h3 j (by rw [HNL.out]; exact hlt)⟩
        obtain ⟨q, off, rfl, hc⟩ := hC
        have hx := HN.out (nums.getD j 0) (by rw [List.getD_eq_getElem?_getD, List.getElem?_eq_getElem (by rw [HNL.out]; exact hlt)]; exact List.getElem_mem _)
        have hsn : Hid (D ++ (nums.take (j + 1)).flatMap (bytesN 2) = D ++ (nums.take j).flatMap (bytesN 2) ++ bytesN 2 (nums.getD j 0)) := by
          show _ = _; rw [flat_snoc nums j (by rw [HNL.out]; exact hlt), List.append_assoc]
        have hln : (D ++ (nums.take j).flatMap (bytesN 2)).length ≤ acc.length + 14 := by
          rw [List.length_append, flat2_len, List.length_take]; omega
        generalize nums.getD j 0 = x at *
        generalize D ++ (nums.take j).flatMap (bytesN 2) = ac at *
        obtain ⟨hx0, hx1⟩ := hx
        clear hI
        go_wp2_with fail
        refine (wi16_calls r room u ac x (by omega) (by omega) _ HJ.out.1 (by omega) (by omega)).mono ?_; rintro e w9 ⟨rfl, v9, hs9, hk9⟩
        have HS9 : Hid (WSt w9 r room v9 (D ++ (nums.take (j + 1)).flatMap (bytesN 2)) ∧ WK w4 w9 r v v9) := ⟨by rw [hsn.out]; exact hs9, HJ.out.2.trans hk9⟩
        clear hs9 hk9 hc
        go_wp2_with fail
        go_roundw
        case rel => first | exact ⟨j + 1, v9, by omega, int_eq' (by omega), HS9⟩ | ((repeat apply Exists.intro); exact ⟨⟨j + 1, v9, by omega, int_eq' (by omega), HS9⟩, rfl⟩)
        case measure => simp [intOf]; omega
      · obtain rfl : j = N := by omega
        go_wp2_with fail
        go_end0
        refine ⟨rfl, u, ?_, HST.out.2.trans HJ.out.2⟩
        rw [HQ2.out]
        have := HJ.out.1
        rwa [List.take_of_length_le (by rw [HNL.out]; exact Nat.le_refl _)] at this
set_option maxRecDepth 100000 in
set_option maxHeartbeats 4000000 in
theorem put_tgw (r : Nat) (room : Int) (v : Value) (acc : List Int) (g xx xy yx yy dx dy : Int) (w : World) (h : WSt w r room v acc) (hfit : fitsM xx xy yx yy = true) (hg : 0 ≤ g ∧ g < 65536) (hA : -32768 ≤ dx ∧ dx < 65536) (hB : -32768 ≤ dy ∧ dy < 65536) (hY : bothB dx dy (-128) 127 = false) (hn : (acc.length : Int) + 16 ≤ room) (hr : room ≤ 1073741824) :
    Calls Try.prog 64 #[.pointer (some ⟨r, 0, none⟩), ptV (⟨g, xx, xy, yx, yy, false, dx, dy, true, 0, 0⟩ : Pt), .bool true] w fun e w' => e = .returned (.tuple #[]) ∧ ∃ v', WSt w' r room v' (acc ++ putM (⟨g, xx, xy, yx, yy, false, dx, dy, true, 0, 0⟩ : Pt) true) ∧ WK w w' r v v' := by
  have HQ : Hid (putM (⟨g, xx, xy, yx, yy, false, dx, dy, true, 0, 0⟩ : Pt) true = bytesN 2 (mflag xx xy yx yy + 2050 + 32 + 1) ++ bytesN 2 g ++ bytesN 2 dx ++ bytesN 2 dy ++ (mnums xx xy yx yy).flatMap (bytesN 2)) := by
    show _ = _; simp only [putM, flagsM, lenN, tinyB, tflag, numA, numB, hY]; rfl
  have HB := Lib.hid (both_as dx dy (-128) 127 false hY)
  have HN := Lib.hid (mnums_in xx xy yx yy hfit)
  have hNL := mnums_len xx xy yx yy
  have HF := or_sum _ (mflag_cases xx xy yx yy) 2050 (by simp) 32 (by simp)
  have HFC := mflag_cases xx xy yx yy
  rw [show ptV (⟨g, xx, xy, yx, yy, false, dx, dy, true, 0, 0⟩ : Pt) = .agg #[.int .i64 g, .int .i64 xx, .int .i64 xy, .int .i64 yx, .int .i64 yy, .bool false, .int .i64 dx, .int .i64 dy, .bool true, .int .i64 0, .int .i64 0] from rfl]
  obtain ⟨hg0, hg1⟩ := hg
  obtain ⟨hA0, hA1⟩ := hA
  obtain ⟨hB0, hB1⟩ := hB
  have HW := Lib.hid h
  have hrw : r < w.heap.size := h.2.2
  clear hY hfit h
  go_enter Try.func64, Try.ntmps64
  go_wp2_with fail
  refine (bits_calls xx xy yx yy _).mono ?_; rintro e w2 ⟨nv, rfl, hi2, hk2, hnb⟩
  have hblk := hk2.heap (heap_alloc_new w _) (by simp)
  have hk02 : Kp [] w w2 := ((Kp.refl _ _).alloc _).trans hk2
  have hst2 := HW.out.step hk02
  have hge : ∀ k, blockOf nv = some k → w.heap.size < k ∧ k < w2.heap.size := fun k hk => by have := hnb k hk; simp at this; omega
  obtain ⟨np, nc, hnv⟩ : ∃ p c, nv = .slice p (mnums xx xy yx yy).length c := by
    rcases hi2 with ⟨⟨ad, rfl⟩, e⟩ | ⟨g, off, c, rfl, _⟩
    · exact ⟨_, 0, by rw [e]; rfl⟩
    · exact ⟨_, c, rfl⟩
  subst hnv
  generalize mflag xx xy yx yy = F at *
  generalize mnums xx xy yx yy = nums at *
  have HI := Lib.hid hi2
  have HGE := Lib.hid hge
  have HBL := Lib.hid hblk
  have HST := Lib.hid hst2
  have hsz2 : w.heap.size < w2.heap.size := by have := hk2.size; simp at this; omega
  clear hi2 hge hblk hst2 hnb hk2
  obtain ⟨N, hN⟩ : ∃ N, nums.length = N := ⟨_, rfl⟩
  have HNL := Lib.hid hN
  rw [hN] at hNL HI HGE ⊢
  clear hN
  obtain ⟨A1, e1⟩ : ∃ A1, F + 2050 = A1 := ⟨_, rfl⟩
  obtain ⟨A2, e2⟩ : ∃ A2, A1 + 32 = A2 := ⟨_, rfl⟩
  obtain ⟨A3, e3⟩ : ∃ A3, A2 + 1 = A3 := ⟨_, rfl⟩
  have hA30 : 0 ≤ A3 := by omega
  have hA31 : A3 ≤ 65535 := by omega
  have HE : Hid (F + 2050 + 32 + 1 = A3) := by show _ = _; omega
  obtain ⟨o1, o2, o3⟩ := HF
  rw [e1] at o1 o2 o3; rw [e2] at o2 o3
  rw [e3] at o3
  clear e1 e2 e3 HFC
  rw [HE.out] at HQ
  clear HE
  have c0 := cell_of_row _ w.heap.size 0 _ _ _ HBL.out
  have c1 := cell_of_row _ w.heap.size 1 _ _ _ HBL.out
  have c2 := cell_of_row _ w.heap.size 2 _ _ _ HBL.out
  have c3 := cell_of_row _ w.heap.size 3 _ _ _ HBL.out
  have c4 := cell_of_row _ w.heap.size 4 _ _ _ HBL.out
  have c5 := cell_of_row _ w.heap.size 5 _ _ _ HBL.out
  have c6 := cell_of_row _ w.heap.size 6 _ _ _ HBL.out
  have c7 := cell_of_row _ w.heap.size 7 _ _ _ HBL.out
  have c8 := cell_of_row _ w.heap.size 8 _ _ _ HBL.out
  have c9 := cell_of_row _ w.heap.size 9 _ _ _ HBL.out
  have c10 := cell_of_row _ w.heap.size 10 _ _ _ HBL.out
  simp only [List.getElem?_toArray, List.getElem?_cons_succ, List.getElem?_cons_zero] at c0 c1 c2 c3 c4 c5 c6 c7 c8 c9 c10
  generalize hBv : w.heap.size = B at *
  have HBv := Lib.hid hBv
  clear hBv
  go_wp2_with fail
  go_quiet ((go_at_call 69; exact both_as 0 0 0 255 _ rfl _ _))
  have hq : Kp [] w2 (w2.drewN nq) := (Kp.refl _ _).drewN _
  replace HST := Lib.hid (stepS HST.out hq)
  replace HBL := Lib.hid (hq.heap HBL.out (by simp))
  replace HI := Lib.hid (HI.out.kp hq (by simp))
  replace HGE : Hid (∀ k, blockOf (Value.slice np N nc) = some k → B < k ∧ k < (w2.drewN nq).heap.size) := HGE.out
  replace hsz2 : B < (w2.drewN nq).heap.size := hsz2
  have hk02' : Kp [] w (w2.drewN nq) := hk02.trans hq
  clear hq hk02 c0 c1 c2 c3 c4 c5 c6 c7 c8 c9 c10
  generalize w2.drewN nq = w3 at *
  have c0 := cell_of_row _ B 0 _ _ _ HBL.out
  have c1 := cell_of_row _ B 1 _ _ _ HBL.out
  have c2 := cell_of_row _ B 2 _ _ _ HBL.out
  have c3 := cell_of_row _ B 3 _ _ _ HBL.out
  have c4 := cell_of_row _ B 4 _ _ _ HBL.out
  have c5 := cell_of_row _ B 5 _ _ _ HBL.out
  have c6 := cell_of_row _ B 6 _ _ _ HBL.out
  have c7 := cell_of_row _ B 7 _ _ _ HBL.out
  have c8 := cell_of_row _ B 8 _ _ _ HBL.out
  have c9 := cell_of_row _ B 9 _ _ _ HBL.out
  have c10 := cell_of_row _ B 10 _ _ _ HBL.out
  simp only [List.getElem?_toArray, List.getElem?_cons_succ, List.getElem?_cons_zero] at c0 c1 c2 c3 c4 c5 c6 c7 c8 c9 c10
  go_wp2_with fail
  go_quiet ((go_at_call 69; exact HB.out _ _))
  have hq : Kp [] w3 (w3.drewN nq) := (Kp.refl _ _).drewN _
  replace HST := Lib.hid (stepS HST.out hq)
  replace HBL := Lib.hid (hq.heap HBL.out (by simp))
  replace HI := Lib.hid (HI.out.kp hq (by simp))
  replace HGE : Hid (∀ k, blockOf (Value.slice np N nc) = some k → B < k ∧ k < (w3.drewN nq).heap.size) := HGE.out
  replace hsz2 : B < (w3.drewN nq).heap.size := hsz2
  have hk02b : Kp [] w (w3.drewN nq) := hk02'.trans hq
  clear hq hk02' c0 c1 c2 c3 c4 c5 c6 c7 c8 c9 c10
  generalize w3.drewN nq = w4 at *
  have c0 := cell_of_row _ B 0 _ _ _ HBL.out
  have c1 := cell_of_row _ B 1 _ _ _ HBL.out
  have c2 := cell_of_row _ B 2 _ _ _ HBL.out
  have c3 := cell_of_row _ B 3 _ _ _ HBL.out
  have c4 := cell_of_row _ B 4 _ _ _ HBL.out
  have c5 := cell_of_row _ B 5 _ _ _ HBL.out
  have c6 := cell_of_row _ B 6 _ _ _ HBL.out
  have c7 := cell_of_row _ B 7 _ _ _ HBL.out
  have c8 := cell_of_row _ B 8 _ _ _ HBL.out
  have c9 := cell_of_row _ B 9 _ _ _ HBL.out
  have c10 := cell_of_row _ B 10 _ _ _ HBL.out
  simp only [List.getElem?_toArray, List.getElem?_cons_succ, List.getElem?_cons_zero] at c0 c1 c2 c3 c4 c5 c6 c7 c8 c9 c10
  go_wp2_with fail
  have H3 : Hid (WSt w4 r room v acc ∧ WK w4 w4 r v v) := HST.out.1.step (Kp.refl _ _)
  go_region_with ((first
    | (go_at_call 105
       (with_reducible refine (wu16_calls r room v acc A3 (by omega) (by omega) _ (stepS H3.out (by (repeat (first | exact Kp.refl _ _ | assumption | refine Kp.drew ?_ | refine Kp.drewN ?_ _ | refine Kp.alloc ?_ _ | (refine Kp.setCell ?_ (by first | (left; simp; done) | (right; simp; try omega)) _) | (refine Kp.trans' ?_ (by assumption) (by simp; try omega)))))).1 (by omega) (by omega)).mono ?_)
       rintro e w5 ⟨rfl, v5, hs5, hk5⟩
       have d0 : w5.cell? ⟨B, 0, none⟩ = some (.int .i64 g) := hk5.1.cell (Kp.cell (S := []) (w := w4) (by (repeat (first | exact Kp.refl _ _ | assumption | refine Kp.drew ?_ | refine Kp.drewN ?_ _ | refine Kp.alloc ?_ _ | (refine Kp.setCell ?_ (by first | (left; simp; done) | (right; simp; try omega)) _) | (refine Kp.trans' ?_ (by assumption) (by simp; try omega))))) c0 (by simp)) (HW.out.out B (by have := HBv.out; omega))
       have HS5 := Lib.hid hs5
       have HK5 : Hid (WK w4 w5 r v v5) := WK.next H3.out.2 H3.out.1 (by (repeat (first | exact Kp.refl _ _ | assumption | refine Kp.drew ?_ | refine Kp.drewN ?_ _ | refine Kp.alloc ?_ _ | (refine Kp.setCell ?_ (by first | (left; simp; done) | (right; simp; try omega)) _) | (refine Kp.trans' ?_ (by assumption) (by simp; try omega))))) hk5
       clear hs5 hk5)
    | (go_at_call 105
       (with_reducible refine (wu16_calls r room v5 (acc ++ bytesN 2 A3) g (by omega) (by omega) _ (HS5.out.kp (S := []) (by (repeat (first | exact Kp.refl _ _ | assumption | refine Kp.drew ?_ | refine Kp.drewN ?_ _ | refine Kp.alloc ?_ _ | (refine Kp.setCell ?_ (by first | (left; simp; done) | (right; simp; try omega)) _) | (refine Kp.trans' ?_ (by assumption) (by simp; try omega))))) (by simp) (by simp)) (by simp [bytesN_length]; omega) (by omega)).mono ?_)
       rintro e w6 ⟨rfl, v6, hs6, hk6⟩
       have HS6 := Lib.hid hs6
       have HK6 : Hid (WK w4 w6 r v v6) := WK.next HK5.out HS5.out (by (repeat (first | exact Kp.refl _ _ | assumption | refine Kp.drew ?_ | refine Kp.drewN ?_ _ | refine Kp.alloc ?_ _ | (refine Kp.setCell ?_ (by first | (left; simp; done) | (right; simp; try omega)) _) | (refine Kp.trans' ?_ (by assumption) (by simp; try omega))))) hk6
       clear hs6 hk6)
    | (go_at_call 105
       (with_reducible refine (wu16_calls r room v6 (acc ++ bytesN 2 A3 ++ bytesN 2 g) dx (by omega) (by omega) _ (HS6.out.kp (S := []) (by (repeat (first | exact Kp.refl _ _ | assumption | refine Kp.drew ?_ | refine Kp.drewN ?_ _ | refine Kp.alloc ?_ _ | (refine Kp.setCell ?_ (by first | (left; simp; done) | (right; simp; try omega)) _) | (refine Kp.trans' ?_ (by assumption) (by simp; try omega))))) (by simp) (by simp)) (by simp [bytesN_length]; omega) (by omega)).mono ?_)
       rintro e w7 ⟨rfl, v7, hs7, hk7⟩
       have HS7 := Lib.hid hs7
       have HK7 : Hid (WK w4 w7 r v v7) := WK.next HK6.out HS6.out (by (repeat (first | exact Kp.refl _ _ | assumption | refine Kp.drew ?_ | refine Kp.drewN ?_ _ | refine Kp.alloc ?_ _ | (refine Kp.setCell ?_ (by first | (left; simp; done) | (right; simp; try omega)) _) | (refine Kp.trans' ?_ (by assumption) (by simp; try omega))))) hk7
       clear hs7 hk7)
    | (go_at_call 105
       (with_reducible refine (wu16_calls r room v7 (acc ++ bytesN 2 A3 ++ bytesN 2 g ++ bytesN 2 dx) dy (by omega) (by omega) _ (HS7.out.kp (S := []) (by (repeat (first | exact Kp.refl _ _ | assumption | refine Kp.drew ?_ | refine Kp.drewN ?_ _ | refine Kp.alloc ?_ _ | (refine Kp.setCell ?_ (by first | (left; simp; done) | (right; simp; try omega)) _) | (refine Kp.trans' ?_ (by assumption) (by simp; try omega))))) (by simp) (by simp)) (by simp [bytesN_length]; omega) (by omega)).mono ?_)
       rintro e w8 ⟨rfl, v8, hs8, hk8⟩
       have HS8 := Lib.hid hs8
       have HK8 : Hid (WK w4 w8 r v v8) := WK.next HK7.out HS7.out (by (repeat (first | exact Kp.refl _ _ | assumption | refine Kp.drew ?_ | refine Kp.drewN ?_ _ | refine Kp.alloc ?_ _ | (refine Kp.setCell ?_ (by first | (left; simp; done) | (right; simp; try omega)) _) | (refine Kp.trans' ?_ (by assumption) (by simp; try omega))))) hk8
       clear hs8 hk8)))
  all_goals
    clear c0 c1 c2 c3 c4 c5 c6 c7 c8 c9 c10 d0 HS5 HS6 HS7 HK5 HK6 HK7
    go_wp2_with fail
    obtain ⟨D, hD⟩ : ∃ D, acc ++ bytesN 2 A3 ++ bytesN 2 g ++ bytesN 2 dx ++ bytesN 2 dy = D := ⟨_, rfl⟩
    have HQ2 : Hid (acc ++ putM (⟨g, xx, xy, yx, yy, false, dx, dy, true, 0, 0⟩ : Pt) true = D ++ nums.flatMap (bytesN 2)) := by
      show _ = _; rw [HQ.out, ← hD]; simp only [List.append_assoc]
    have hDl : D.length ≤ acc.length + 8 := by rw [← hD]; simp [bytesN_length]; try omega
    rw [hD] at HS8
    clear hD HQ
    go_loopw [12, 77] (fun _ i wr => ∃ (j : Nat) (u : Value), j ≤ N ∧ i = .int .i64 j ∧ Hid (WSt wr r room u (D ++ (nums.take j).flatMap (bytesN 2)) ∧ WK w4 wr r v u)) (fun _ i _ => N - (intOf i).toNat)
    case atStart => exact ⟨0, v8, by omega, rfl, by simpa using HS8.out, HK8.out⟩
    case round =>
      obtain ⟨j, u, hj, rfl, HJ⟩ := hrel
      clear HS8 HK8
      by_cases hlt : j < N
      · have hI := HI.out.kp HJ.out.2.1 (fun t ht e => HW.out.out t (by have h1 := (HGE.out t e).1; have h2 := HBv.out; omega) ht)
        have hC : ∃ q off, np = some ⟨q, off, none⟩ ∧ wr.cell? ⟨q, off + j, none⟩ = some (.int .i64 (nums.getD j 0)) := by
          rcases hI with ⟨⟨a, e⟩, e0⟩ | ⟨q, off, c, e, _, _, h3⟩
          · have := HNL.out; rw [e0] at this; simp at this; omega
          · cases e; exact ⟨q, off, rfl, h3 j (by rw [HNL.out]; exact hlt)⟩
        obtain ⟨q, off, rfl, hc⟩ := hC
        have hx := HN.out (nums.getD j 0) (by rw [List.getD_eq_getElem?_getD, List.getElem?_eq_getElem (by rw [HNL.out]; exact hlt)]; exact List.getElem_mem _)
        have hsn : Hid (D ++ (nums.take (j + 1)).flatMap (bytesN 2) = D ++ (nums.take j).flatMap (bytesN 2) ++ bytesN 2 (nums.getD j 0)) := by
          show _ = _; rw [flat_snoc nums j (by rw [HNL.out]; exact hlt), List.append_assoc]
        have hln : (D ++ (nums.take j).flatMap (bytesN 2)).length ≤ acc.length + 14 := by
          rw [List.length_append, flat2_len, List.length_take]; omega
        generalize nums.getD j 0 = x at *
        generalize D ++ (nums.take j).flatMap (bytesN 2) = ac at *
        obtain ⟨hx0, hx1⟩ := hx
        clear hI
        go_wp2_with fail
        refine (wi16_calls r room u ac x (by omega) (by omega) _ HJ.out.1 (by omega) (by omega)).mono ?_; rintro e w9 ⟨rfl, v9, hs9, hk9⟩
        have HS9 : Hid (WSt w9 r room v9 (D ++ (nums.take (j + 1)).flatMap (bytesN 2)) ∧ WK w4 w9 r v v9) := ⟨by rw [hsn.out]; exact hs9, HJ.out.2.trans hk9⟩
        clear hs9 hk9 hc
        go_wp2_with fail
        go_roundw
        case rel => first | exact ⟨j + 1, v9, by omega, int_eq' (by omega), HS9⟩ | ((repeat apply Exists.intro); exact ⟨⟨j + 1, v9, by omega, int_eq' (by omega), HS9⟩, rfl⟩)
        case measure => simp [intOf]; omega
      · obtain rfl : j = N := by omega
        go_wp2_with fail
        go_end0
        refine ⟨rfl, u, ?_, HST.out.2.trans HJ.out.2⟩
        rw [HQ2.out]
        have := HJ.out.1
        rwa [List.take_of_length_le (by rw [HNL.out]; exact Nat.le_refl _)] at this
set_option maxRecDepth 100000 in
set_option maxHeartbeats 4000000 in
theorem put_tny (r : Nat) (room : Int) (v : Value) (acc : List Int) (g xx xy yx yy dx dy : Int) (w : World) (h : WSt w r room v acc) (hfit : fitsM xx xy yx yy = true) (hg : 0 ≤ g ∧ g < 65536) (hA : -32768 ≤ dx ∧ dx < 65536) (hB : -32768 ≤ dy ∧ dy < 65536) (hY : bothB dx dy (-128) 127 = true) (hn : (acc.length : Int) + 16 ≤ room) (hr : room ≤ 1073741824) :
    Calls Try.prog 64 #[.pointer (some ⟨r, 0, none⟩), ptV (⟨g, xx, xy, yx, yy, false, dx, dy, true, 0, 0⟩ : Pt), .bool false] w fun e w' => e = .returned (.tuple #[]) ∧ ∃ v', WSt w' r room v' (acc ++ putM (⟨g, xx, xy, yx, yy, false, dx, dy, true, 0, 0⟩ : Pt) false) ∧ WK w w' r v v' := by
  have HQ : Hid (putM (⟨g, xx, xy, yx, yy, false, dx, dy, true, 0, 0⟩ : Pt) false = bytesN 2 (mflag xx xy yx yy + 2050 + 0 + 0) ++ bytesN 2 g ++ bytesN 1 dx ++ bytesN 1 dy ++ (mnums xx xy yx yy).flatMap (bytesN 2)) := by
    show _ = _; simp only [putM, flagsM, lenN, tinyB, tflag, numA, numB, hY]; rfl
  have HB := Lib.hid (both_as dx dy (-128) 127 true hY)
  have HN := Lib.hid (mnums_in xx xy yx yy hfit)
  have hNL := mnums_len xx xy yx yy
  have HF := or_sum _ (mflag_cases xx xy yx yy) 2050 (by simp) 0 (by simp)
  have HFC := mflag_cases xx xy yx yy
  rw [show ptV (⟨g, xx, xy, yx, yy, false, dx, dy, true, 0, 0⟩ : Pt) = .agg #[.int .i64 g, .int .i64 xx, .int .i64 xy, .int .i64 yx, .int .i64 yy, .bool false, .int .i64 dx, .int .i64 dy, .bool true, .int .i64 0, .int .i64 0] from rfl]
  obtain ⟨hg0, hg1⟩ := hg
  obtain ⟨hA0, hA1⟩ := hA
  obtain ⟨hB0, hB1⟩ := hB
  have HW := Lib.hid h
  have hrw : r < w.heap.size := h.2.2
  clear hY hfit h
  go_enter Try.func64, Try.ntmps64
  go_wp2_with fail
  refine (bits_calls xx xy yx yy _).mono ?_; rintro e w2 ⟨nv, rfl, hi2, hk2, hnb⟩
  have hblk := hk2.heap (heap_alloc_new w _) (by simp)
  have hk02 : Kp [] w w2 := ((Kp.refl _ _).alloc _).trans hk2
  have hst2 := HW.out.step hk02
  have hge : ∀ k, blockOf nv = some k → w.heap.size < k ∧ k < w2.heap.size := fun k hk => by have := hnb k hk; simp at this; omega
  obtain ⟨np, nc, hnv⟩ : ∃ p c, nv = .slice p (mnums xx xy yx yy).length c := by
    rcases hi2 with ⟨⟨ad, rfl⟩, e⟩ | ⟨g, off, c, rfl, _⟩
    · exact ⟨_, 0, by rw [e]; rfl⟩
    · exact ⟨_, c, rfl⟩
  subst hnv
  generalize mflag xx xy yx yy = F at *
  generalize mnums xx xy yx yy = nums at *
  have HI := Lib.hid hi2
  have HGE := Lib.hid hge
  have HBL := Lib.hid hblk
  have HST := Lib.hid hst2
  have hsz2 : w.heap.size < w2.heap.size := by have := hk2.size; simp at this; omega
  clear hi2 hge hblk hst2 hnb hk2
  obtain ⟨N, hN⟩ : ∃ N, nums.length = N := ⟨_, rfl⟩
  have HNL := Lib.hid hN
  rw [hN] at hNL HI HGE ⊢
  clear hN
  obtain ⟨A1, e1⟩ : ∃ A1, F + 2050 = A1 := ⟨_, rfl⟩
  obtain ⟨A2, e2⟩ : ∃ A2, A1 + 0 = A2 := ⟨_, rfl⟩
  obtain ⟨A3, e3⟩ : ∃ A3, A2 + 0 = A3 := ⟨_, rfl⟩
  have hA30 : 0 ≤ A3 := by omega
  have hA31 : A3 ≤ 65535 := by omega
  have HE : Hid (F + 2050 + 0 + 0 = A3) := by show _ = _; omega
  obtain ⟨o1, o2, o3⟩ := HF
  rw [e1] at o1 o2 o3; rw [e2] at o2 o3
  clear o2
  obtain rfl : A1 = A2 := by omega
  clear o3
  obtain rfl : A1 = A3 := by omega
  clear e1 e2 e3 HFC
  rw [HE.out] at HQ
  clear HE
  have c0 := cell_of_row _ w.heap.size 0 _ _ _ HBL.out
  have c1 := cell_of_row _ w.heap.size 1 _ _ _ HBL.out
  have c2 := cell_of_row _ w.heap.size 2 _ _ _ HBL.out
  have c3 := cell_of_row _ w.heap.size 3 _ _ _ HBL.out
  have c4 := cell_of_row _ w.heap.size 4 _ _ _ HBL.out
  have c5 := cell_of_row _ w.heap.size 5 _ _ _ HBL.out
  have c6 := cell_of_row _ w.heap.size 6 _ _ _ HBL.out
  have c7 := cell_of_row _ w.heap.size 7 _ _ _ HBL.out
  have c8 := cell_of_row _ w.heap.size 8 _ _ _ HBL.out
  have c9 := cell_of_row _ w.heap.size 9 _ _ _ HBL.out
  have c10 := cell_of_row _ w.heap.size 10 _ _ _ HBL.out
  simp only [List.getElem?_toArray, List.getElem?_cons_succ, List.getElem?_cons_zero] at c0 c1 c2 c3 c4 c5 c6 c7 c8 c9 c10
  generalize hBv : w.heap.size = B at *
  have HBv := Lib.hid hBv
  clear hBv
  go_wp2_with fail
  go_quiet ((go_at_call 69; exact both_as 0 0 0 255 _ rfl _ _))
  have hq : Kp [] w2 (w2.drewN nq) := (Kp.refl _ _).drewN _
  replace HST := Lib.hid (stepS HST.out hq)
  replace HBL := Lib.hid (hq.heap HBL.out (by simp))
  replace HI := Lib.hid (HI.out.kp hq (by simp))
  replace HGE : Hid (∀ k, blockOf (Value.slice np N nc) = some k → B < k ∧ k < (w2.drewN nq).heap.size) := HGE.out
  replace hsz2 : B < (w2.drewN nq).heap.size := hsz2
  have hk02' : Kp [] w (w2.drewN nq) := hk02.trans hq
  clear hq hk02 c0 c1 c2 c3 c4 c5 c6 c7 c8 c9 c10
  generalize w2.drewN nq = w3 at *
  have c0 := cell_of_row _ B 0 _ _ _ HBL.out
  have c1 := cell_of_row _ B 1 _ _ _ HBL.out
  have c2 := cell_of_row _ B 2 _ _ _ HBL.out
  have c3 := cell_of_row _ B 3 _ _ _ HBL.out
  have c4 := cell_of_row _ B 4 _ _ _ HBL.out
  have c5 := cell_of_row _ B 5 _ _ _ HBL.out
  have c6 := cell_of_row _ B 6 _ _ _ HBL.out
  have c7 := cell_of_row _ B 7 _ _ _ HBL.out
  have c8 := cell_of_row _ B 8 _ _ _ HBL.out
  have c9 := cell_of_row _ B 9 _ _ _ HBL.out
  have c10 := cell_of_row _ B 10 _ _ _ HBL.out
  simp only [List.getElem?_toArray, List.getElem?_cons_succ, List.getElem?_cons_zero] at c0 c1 c2 c3 c4 c5 c6 c7 c8 c9 c10
  go_wp2_with fail
  go_quiet ((go_at_call 69; exact HB.out _ _))
  have hq : Kp [] w3 (w3.drewN nq) := (Kp.refl _ _).drewN _
  replace HST := Lib.hid (stepS HST.out hq)
  replace HBL := Lib.hid (hq.heap HBL.out (by simp))
  replace HI := Lib.hid (HI.out.kp hq (by simp))
  replace HGE : Hid (∀ k, blockOf (Value.slice np N nc) = some k → B < k ∧ k < (w3.drewN nq).heap.size) := HGE.out
  replace hsz2 : B < (w3.drewN nq).heap.size := hsz2
  have hk02b : Kp [] w (w3.drewN nq) := hk02'.trans hq
  clear hq hk02' c0 c1 c2 c3 c4 c5 c6 c7 c8 c9 c10
  generalize w3.drewN nq = w4 at *
  have c0 := cell_of_row _ B 0 _ _ _ HBL.out
  have c1 := cell_of_row _ B 1 _ _ _ HBL.out
  have c2 := cell_of_row _ B 2 _ _ _ HBL.out
  have c3 := cell_of_row _ B 3 _ _ _ HBL.out
  have c4 := cell_of_row _ B 4 _ _ _ HBL.out
  have c5 := cell_of_row _ B 5 _ _ _ HBL.out
  have c6 := cell_of_row _ B 6 _ _ _ HBL.out
  have c7 := cell_of_row _ B 7 _ _ _ HBL.out
  have c8 := cell_of_row _ B 8 _ _ _ HBL.out
  have c9 := cell_of_row _ B 9 _ _ _ HBL.out
  have c10 := cell_of_row _ B 10 _ _ _ HBL.out
  simp only [List.getElem?_toArray, List.getElem?_cons_succ, List.getElem?_cons_zero] at c0 c1 c2 c3 c4 c5 c6 c7 c8 c9 c10
  go_wp2_with fail
  have H3 : Hid (WSt w4 r room v acc ∧ WK w4 w4 r v v) := HST.out.1.step (Kp.refl _ _)
  go_region_with ((first
    | (go_at_call 105
       (with_reducible refine (wu16_calls r room v acc A1 (by omega) (by omega) _ (stepS H3.out (by (repeat (first | exact Kp.refl _ _ | assumption | refine Kp.drew ?_ | refine Kp.drewN ?_ _ | refine Kp.alloc ?_ _ | (refine Kp.setCell ?_ (by first | (left; simp; done) | (right; simp; try omega)) _) | (refine Kp.trans' ?_ (by assumption) (by simp; try omega)))))).1 (by omega) (by omega)).mono ?_)
       rintro e w5 ⟨rfl, v5, hs5, hk5⟩
       have d0 : w5.cell? ⟨B, 0, none⟩ = some (.int .i64 g) := hk5.1.cell (Kp.cell (S := []) (w := w4) (by (repeat (first | exact Kp.refl _ _ | assumption | refine Kp.drew ?_ | refine Kp.drewN ?_ _ | refine Kp.alloc ?_ _ | (refine Kp.setCell ?_ (by first | (left; simp; done) | (right; simp; try omega)) _) | (refine Kp.trans' ?_ (by assumption) (by simp; try omega))))) c0 (by simp)) (HW.out.out B (by have := HBv.out; omega))
       have HS5 := Lib.hid hs5
       have HK5 : Hid (WK w4 w5 r v v5) := WK.next H3.out.2 H3.out.1 (by (repeat (first | exact Kp.refl _ _ | assumption | refine Kp.drew ?_ | refine Kp.drewN ?_ _ | refine Kp.alloc ?_ _ | (refine Kp.setCell ?_ (by first | (left; simp; done) | (right; simp; try omega)) _) | (refine Kp.trans' ?_ (by assumption) (by simp; try omega))))) hk5
       clear hs5 hk5)
    | (go_at_call 105
       (with_reducible refine (wu16_calls r room v5 (acc ++ bytesN 2 A1) g (by omega) (by omega) _ (HS5.out.kp (S := []) (by (repeat (first | exact Kp.refl _ _ | assumption | refine Kp.drew ?_ | refine Kp.drewN ?_ _ | refine Kp.alloc ?_ _ | (refine Kp.setCell ?_ (by first | (left; simp; done) | (right; simp; try omega)) _) | (refine Kp.trans' ?_ (by assumption) (by simp; try omega))))) (by simp) (by simp)) (by simp [bytesN_length]; omega) (by omega)).mono ?_)
       rintro e w6 ⟨rfl, v6, hs6, hk6⟩
       have HS6 := Lib.hid hs6
       have HK6 : Hid (WK w4 w6 r v v6) := WK.next HK5.out HS5.out (by (repeat (first | exact Kp.refl _ _ | assumption | refine Kp.drew ?_ | refine Kp.drewN ?_ _ | refine Kp.alloc ?_ _ | (refine Kp.setCell ?_ (by first | (left; simp; done) | (right; simp; try omega)) _) | (refine Kp.trans' ?_ (by assumption) (by simp; try omega))))) hk6
       clear hs6 hk6)
    | (go_at_call 119
       (with_reducible refine (wu8_calls r room v6 (acc ++ bytesN 2 A1 ++ bytesN 2 g) dx (by omega) (by omega) _ (HS6.out.kp (S := []) (by (repeat (first | exact Kp.refl _ _ | assumption | refine Kp.drew ?_ | refine Kp.drewN ?_ _ | refine Kp.alloc ?_ _ | (refine Kp.setCell ?_ (by first | (left; simp; done) | (right; simp; try omega)) _) | (refine Kp.trans' ?_ (by assumption) (by simp; try omega))))) (by simp) (by simp)) (by simp [bytesN_length]; omega) (by omega)).mono ?_)
       rintro e w7 ⟨rfl, v7, hs7, hk7⟩
       have HS7 := Lib.hid hs7
       have HK7 : Hid (WK w4 w7 r v v7) := WK.next HK6.out HS6.out (by (repeat (first | exact Kp.refl _ _ | assumption | refine Kp.drew ?_ | refine Kp.drewN ?_ _ | refine Kp.alloc ?_ _ | (refine Kp.setCell ?_ (by first | (left; simp; done) | (right; simp; try omega)) _) | (refine Kp.trans' ?_ (by assumption) (by simp; try omega))))) hk7
       clear hs7 hk7)
    | (go_at_call 119
       (with_reducible refine (wu8_calls r room v7 (acc ++ bytesN 2 A1 ++ bytesN 2 g ++ bytesN 1 dx) dy (by omega) (by omega) _ (HS7.out.kp (S := []) (by (repeat (first | exact Kp.refl _ _ | assumption | refine Kp.drew ?_ | refine Kp.drewN ?_ _ | refine Kp.alloc ?_ _ | (refine Kp.setCell ?_ (by first | (left; simp; done) | (right; simp; try omega)) _) | (refine Kp.trans' ?_ (by assumption) (by simp; try omega))))) (by simp) (by simp)) (by simp [bytesN_length]; omega) (by omega)).mono ?_)
       rintro e w8 ⟨rfl, v8, hs8, hk8⟩
       have HS8 := Lib.hid hs8
       have HK8 : Hid (WK w4 w8 r v v8) := WK.next HK7.out HS7.out (by (repeat (first | exact Kp.refl _ _ | assumption | refine Kp.drew ?_ | refine Kp.drewN ?_ _ | refine Kp.alloc ?_ _ | (refine Kp.setCell ?_ (by first | (left; simp; done) | (right; simp; try omega)) _) | (refine Kp.trans' ?_ (by assumption) (by simp; try omega))))) hk8
       clear hs8 hk8)))
  all_goals
    clear c0 c1 c2 c3 c4 c5 c6 c7 c8 c9 c10 d0 HS5 HS6 HS7 HK5 HK6 HK7
    go_wp2_with fail
    obtain ⟨D, hD⟩ : ∃ D, acc ++ bytesN 2 A1 ++ bytesN 2 g ++ bytesN 1 dx ++ bytesN 1 dy = D := ⟨_, rfl⟩
    have HQ2 : Hid (acc ++ putM (⟨g, xx, xy, yx, yy, false, dx, dy, true, 0, 0⟩ : Pt) false = D ++ nums.flatMap (bytesN 2)) := by
      show _ = _; rw [HQ.out, ← hD]; simp only [List.append_assoc]
    have hDl : D.length ≤ acc.length + 8 := by rw [← hD]; simp [bytesN_length]; try omega
    rw [hD] at HS8
    clear hD HQ
    go_loopw [12, 77] (fun _ i wr => ∃ (j : Nat) (u : Value), j ≤ N ∧ i = .int .i64 j ∧ Hid (WSt wr r room u (D ++ (nums.take j).flatMap (bytesN 2)) ∧ WK w4 wr r v u)) (fun _ i _ => N - (intOf i).toNat)
    case atStart => exact ⟨0, v8, by omega, rfl, by simpa using HS8.out, HK8.out⟩
    case round =>
      obtain ⟨j, u, hj, rfl, HJ⟩ := hrel
      clear HS8 HK8
      by_cases hlt : j < N
      · have hI := HI.out.kp HJ.out.2.1 (fun t ht e => HW.out.out t (by have h1 := (HGE.out t e).1; have h2 := HBv.out; omega) ht)
        have hC : ∃ q off, np = some ⟨q, off, none⟩ ∧ wr.cell? ⟨q, off + j, none⟩ = some (.int .i64 (nums.getD j 0)) := by
          rcases hI with ⟨⟨a, e⟩, e0⟩ | ⟨q, off, c, e, _, _, h3⟩
          · have := HNL.out; rw [e0] at this; simp at this; omega
          · cases e; exact ⟨q, off, rfl, h3 j (by rw [HNL.out]; exact hlt)⟩
        obtain ⟨q, off, rfl, hc⟩ := hC
        have hx := HN.out (nums.getD j 0) (by rw [List.getD_eq_getElem?_getD, List.getElem?_eq_getElem (by rw [HNL.out]; exact hlt)]; exact List.getElem_mem _)
        have hsn : Hid (D ++ (nums.take (j + 1)).flatMap (bytesN 2) = D ++ (nums.take j).flatMap (bytesN 2) ++ bytesN 2 (nums.getD j 0)) := by
          show _ = _; rw [flat_snoc nums j (by rw [HNL.out]; exact hlt), List.append_assoc]
        have hln : (D ++ (nums.take j).flatMap (bytesN 2)).length ≤ acc.length + 14 := by
          rw [List.length_append, flat2_len, List.length_take]; omega
        generalize nums.getD j 0 = x at *
        generalize D ++ (nums.take j).flatMap (bytesN 2) = ac at *
        obtain ⟨hx0, hx1⟩ := hx
        clear hI
        go_wp2_with fail
        refine (wi16_calls r room u ac x (by omega) (by omega) _ HJ.out.1 (by omega) (by omega)).mono ?_; rintro e w9 ⟨rfl, v9, hs9, hk9⟩
        have HS9 : Hid (WSt w9 r room v9 (D ++ (nums.take (j + 1)).flatMap (bytesN 2)) ∧ WK w4 w9 r v v9) := ⟨by rw [hsn.out]; exact hs9, HJ.out.2.trans hk9⟩
        clear hs9 hk9 hc
        go_wp2_with fail
        go_roundw
        case rel => first | exact ⟨j + 1, v9, by omega, int_eq' (by omega), HS9⟩ | ((repeat apply Exists.intro); exact ⟨⟨j + 1, v9, by omega, int_eq' (by omega), HS9⟩, rfl⟩)
        case measure => simp [intOf]; omega
      · obtain rfl : j = N := by omega
        go_wp2_with fail
        go_end0
        refine ⟨rfl, u, ?_, HST.out.2.trans HJ.out.2⟩
        rw [HQ2.out]
        have := HJ.out.1
        rwa [List.take_of_length_le (by rw [HNL.out]; exact Nat.le_refl _)] at this
set_option maxRecDepth 100000 in
set_option maxHeartbeats 4000000 in
theorem put_tnw (r : Nat) (room : Int) (v : Value) (acc : List Int) (g xx xy yx yy dx dy : Int) (w : World) (h : WSt w r room v acc) (hfit : fitsM xx xy yx yy = true) (hg : 0 ≤ g ∧ g < 65536) (hA : -32768 ≤ dx ∧ dx < 65536) (hB : -32768 ≤ dy ∧ dy < 65536) (hY : bothB dx dy (-128) 127 = false) (hn : (acc.length : Int) + 16 ≤ room) (hr : room ≤ 1073741824) :
    Calls Try.prog 64 #[.pointer (some ⟨r, 0, none⟩), ptV (⟨g, xx, xy, yx, yy, false, dx, dy, true, 0, 0⟩ : Pt), .bool false] w fun e w' => e = .returned (.tuple #[]) ∧ ∃ v', WSt w' r room v' (acc ++ putM (⟨g, xx, xy, yx, yy, false, dx, dy, true, 0, 0⟩ : Pt) false) ∧ WK w w' r v v' := by
  have HQ : Hid (putM (⟨g, xx, xy, yx, yy, false, dx, dy, true, 0, 0⟩ : Pt) false = bytesN 2 (mflag xx xy yx yy + 2050 + 0 + 1) ++ bytesN 2 g ++ bytesN 2 dx ++ bytesN 2 dy ++ (mnums xx xy yx yy).flatMap (bytesN 2)) := by
    show _ = _; simp only [putM, flagsM, lenN, tinyB, tflag, numA, numB, hY]; rfl
  have HB := Lib.hid (both_as dx dy (-128) 127 false hY)
  have HN := Lib.hid (mnums_in xx xy yx yy hfit)
  have hNL := mnums_len xx xy yx yy
  have HF := or_sum _ (mflag_cases xx xy yx yy) 2050 (by simp) 0 (by simp)
  have HFC := mflag_cases xx xy yx yy
  rw [show ptV (⟨g, xx, xy, yx, yy, false, dx, dy, true, 0, 0⟩ : Pt) = .agg #[.int .i64 g, .int .i64 xx, .int .i64 xy, .int .i64 yx, .int .i64 yy, .bool false, .int .i64 dx, .int .i64 dy, .bool true, .int .i64 0, .int .i64 0] from rfl]
  obtain ⟨hg0, hg1⟩ := hg
  obtain ⟨hA0, hA1⟩ := hA
  obtain ⟨hB0, hB1⟩ := hB
  have HW := Lib.hid h
  have hrw : r < w.heap.size := h.2.2
  clear hY hfit h
  go_enter Try.func64, Try.ntmps64
  go_wp2_with fail
  refine (bits_calls xx xy yx yy _).mono ?_; rintro e w2 ⟨nv, rfl, hi2, hk2, hnb⟩
  have hblk := hk2.heap (heap_alloc_new w _) (by simp)
  have hk02 : Kp [] w w2 := ((Kp.refl _ _).alloc _).trans hk2
  have hst2 := HW.out.step hk02
  have hge : ∀ k, blockOf nv = some k → w.heap.size < k ∧ k < w2.heap.size := fun k hk => by have := hnb k hk; simp at this; omega
  obtain ⟨np, nc, hnv⟩ : ∃ p c, nv = .slice p (mnums xx xy yx yy).length c := by
    rcases hi2 with ⟨⟨ad, rfl⟩, e⟩ | ⟨g, off, c, rfl, _⟩
    · exact ⟨_, 0, by rw [e]; rfl⟩
    · exact ⟨_, c, rfl⟩
  subst hnv
  generalize mflag xx xy yx yy = F at *
  generalize mnums xx xy yx yy = nums at *
  have HI := Lib.hid hi2
  have HGE := Lib.hid hge
  have HBL := Lib.hid hblk
  have HST := Lib.hid hst2
  have hsz2 : w.heap.size < w2.heap.size := by have := hk2.size; simp at this; omega
  clear hi2 hge hblk hst2 hnb hk2
  obtain ⟨N, hN⟩ : ∃ N, nums.length = N := ⟨_, rfl⟩
  have HNL := Lib.hid hN
  rw [hN] at hNL HI HGE ⊢
  clear hN
  obtain ⟨A1, e1⟩ : ∃ A1, F + 2050 = A1 := ⟨_, rfl⟩
  obtain ⟨A2, e2⟩ : ∃ A2, A1 + 0 = A2 := ⟨_, rfl⟩
  obtain ⟨A3, e3⟩ : ∃ A3, A2 + 1 = A3 := ⟨_, rfl⟩
  have hA30 : 0 ≤ A3 := by omega
  have hA31 : A3 ≤ 65535 := by omega
  have HE : Hid (F + 2050 + 0 + 1 = A3) := by show _ = _; omega
  obtain ⟨o1, o2, o3⟩ := HF
  rw [e1] at o1 o2 o3; rw [e2] at o2 o3
  clear o2
  obtain rfl : A1 = A2 := by omega
  rw [e3] at o3
  clear e1 e2 e3 HFC
  rw [HE.out] at HQ
  clear HE
  have c0 := cell_of_row _ w.heap.size 0 _ _ _ HBL.out
  have c1 := cell_of_row _ w.heap.size 1 _ _ _ HBL.out
  have c2 := cell_of_row _ w.heap.size 2 _ _ _ HBL.out
  have c3 := cell_of_row _ w.heap.size 3 _ _ _ HBL.out
  have c4 := cell_of_row _ w.heap.size 4 _ _ _ HBL.out
  have c5 := cell_of_row _ w.heap.size 5 _ _ _ HBL.out
  have c6 := cell_of_row _ w.heap.size 6 _ _ _ HBL.out
  have c7 := cell_of_row _ w.heap.size 7 _ _ _ HBL.out
  have c8 := cell_of_row _ w.heap.size 8 _ _ _ HBL.out
  have c9 := cell_of_row _ w.heap.size 9 _ _ _ HBL.out
  have c10 := cell_of_row _ w.heap.size 10 _ _ _ HBL.out
  simp only [List.getElem?_toArray, List.getElem?_cons_succ, List.getElem?_cons_zero] at c0 c1 c2 c3 c4 c5 c6 c7 c8 c9 c10
  generalize hBv : w.heap.size = B at *
  have HBv := Lib.hid hBv
  clear hBv
  go_wp2_with fail
  go_quiet ((go_at_call 69; exact both_as 0 0 0 255 _ rfl _ _))
  have hq : Kp [] w2 (w2.drewN nq) := (Kp.refl _ _).drewN _
  replace HST := Lib.hid (stepS HST.out hq)
  replace HBL := Lib.hid (hq.heap HBL.out (by simp))
  replace HI := Lib.hid (HI.out.kp hq (by simp))
  replace HGE : Hid (∀ k, blockOf (Value.slice np N nc) = some k → B < k ∧ k < (w2.drewN nq).heap.size) := HGE.out
  replace hsz2 : B < (w2.drewN nq).heap.size := hsz2
  have hk02' : Kp [] w (w2.drewN nq) := hk02.trans hq
  clear hq hk02 c0 c1 c2 c3 c4 c5 c6 c7 c8 c9 c10
  generalize w2.drewN nq = w3 at *
  have c0 := cell_of_row _ B 0 _ _ _ HBL.out
  have c1 := cell_of_row _ B 1 _ _ _ HBL.out
  have c2 := cell_of_row _ B 2 _ _ _ HBL.out
  have c3 := cell_of_row _ B 3 _ _ _ HBL.out
  have c4 := cell_of_row _ B 4 _ _ _ HBL.out
  have c5 := cell_of_row _ B 5 _ _ _ HBL.out
  have c6 := cell_of_row _ B 6 _ _ _ HBL.out
  have c7 := cell_of_row _ B 7 _ _ _ HBL.out
  have c8 := cell_of_row _ B 8 _ _ _ HBL.out
  have c9 := cell_of_row _ B 9 _ _ _ HBL.out
  have c10 := cell_of_row _ B 10 _ _ _ HBL.out
  simp only [List.getElem?_toArray, List.getElem?_cons_succ, List.getElem?_cons_zero] at c0 c1 c2 c3 c4 c5 c6 c7 c8 c9 c10
  go_wp2_with fail
  go_quiet ((go_at_call 69; exact HB.out _ _))
  have hq : Kp [] w3 (w3.drewN nq) := (Kp.refl _ _).drewN _
  replace HST := Lib.hid (stepS HST.out hq)
  replace HBL := Lib.hid (hq.heap HBL.out (by simp))
  replace HI := Lib.hid (HI.out.kp hq (by simp))
  replace HGE : Hid (∀ k, blockOf (Value.slice np N nc) = some k → B < k ∧ k < (w3.drewN nq).heap.size) := HGE.out
  replace hsz2 : B < (w3.drewN nq).heap.size := hsz2
  have hk02b : Kp [] w (w3.drewN nq) := hk02'.trans hq
  clear hq hk02' c0 c1 c2 c3 c4 c5 c6 c7 c8 c9 c10
  generalize w3.drewN nq = w4 at *
  have c0 := cell_of_row _ B 0 _ _ _ HBL.out
  have c1 := cell_of_row _ B 1 _ _ _ HBL.out
  have c2 := cell_of_row _ B 2 _ _ _ HBL.out
  have c3 := cell_of_row _ B 3 _ _ _ HBL.out
  have c4 := cell_of_row _ B 4 _ _ _ HBL.out
  have c5 := cell_of_row _ B 5 _ _ _ HBL.out
  have c6 := cell_of_row _ B 6 _ _ _ HBL.out
  have c7 := cell_of_row _ B 7 _ _ _ HBL.out
  have c8 := cell_of_row _ B 8 _ _ _ HBL.out
  have c9 := cell_of_row _ B 9 _ _ _ HBL.out
  have c10 := cell_of_row _ B 10 _ _ _ HBL.out
  simp only [List.getElem?_toArray, List.getElem?_cons_succ, List.getElem?_cons_zero] at c0 c1 c2 c3 c4 c5 c6 c7 c8 c9 c10
  go_wp2_with fail
  have H3 : Hid (WSt w4 r room v acc ∧ WK w4 w4 r v v) := HST.out.1.step (Kp.refl _ _)
  go_region_with ((first
    | (go_at_call 105
       (with_reducible refine (wu16_calls r room v acc A3 (by omega) (by omega) _ (stepS H3.out (by (repeat (first | exact Kp.refl _ _ | assumption | refine Kp.drew ?_ | refine Kp.drewN ?_ _ | refine Kp.alloc ?_ _ | (refine Kp.setCell ?_ (by first | (left; simp; done) | (right; simp; try omega)) _) | (refine Kp.trans' ?_ (by assumption) (by simp; try omega)))))).1 (by omega) (by omega)).mono ?_)
       rintro e w5 ⟨rfl, v5, hs5, hk5⟩
       have d0 : w5.cell? ⟨B, 0, none⟩ = some (.int .i64 g) := hk5.1.cell (Kp.cell (S := []) (w := w4) (by (repeat (first | exact Kp.refl _ _ | assumption | refine Kp.drew ?_ | refine Kp.drewN ?_ _ | refine Kp.alloc ?_ _ | (refine Kp.setCell ?_ (by first | (left; simp; done) | (right; simp; try omega)) _) | (refine Kp.trans' ?_ (by assumption) (by simp; try omega))))) c0 (by simp)) (HW.out.out B (by have := HBv.out; omega))
       have HS5 := Lib.hid hs5
       have HK5 : Hid (WK w4 w5 r v v5) := WK.next H3.out.2 H3.out.1 (by (repeat (first | exact Kp.refl _ _ | assumption | refine Kp.drew ?_ | refine Kp.drewN ?_ _ | refine Kp.alloc ?_ _ | (refine Kp.setCell ?_ (by first | (left; simp; done) | (right; simp; try omega)) _) | (refine Kp.trans' ?_ (by assumption) (by simp; try omega))))) hk5
       clear hs5 hk5)
    | (go_at_call 105
       (with_reducible refine (wu16_calls r room v5 (acc ++ bytesN 2 A3) g (by omega) (by omega) _ (HS5.out.kp (S := []) (by (repeat (first | exact Kp.refl _ _ | assumption | refine Kp.drew ?_ | refine Kp.drewN ?_ _ | refine Kp.alloc ?_ _ | (refine Kp.setCell ?_ (by first | (left; simp; done) | (right; simp; try omega)) _) | (refine Kp.trans' ?_ (by assumption) (by simp; try omega))))) (by simp) (by simp)) (by simp [bytesN_length]; omega) (by omega)).mono ?_)
       rintro e w6 ⟨rfl, v6, hs6, hk6⟩
       have HS6 := Lib.hid hs6
       have HK6 : Hid (WK w4 w6 r v v6) := WK.next HK5.out HS5.out (by (repeat (first | exact Kp.refl _ _ | assumption | refine Kp.drew ?_ | refine Kp.drewN ?_ _ | refine Kp.alloc ?_ _ | (refine Kp.setCell ?_ (by first | (left; simp; done) | (right; simp; try omega)) _) | (refine Kp.trans' ?_ (by assumption) (by simp; try omega))))) hk6
       clear hs6 hk6)
    | (go_at_call 105
       (with_reducible refine (wu16_calls r room v6 (acc ++ bytesN 2 A3 ++ bytesN 2 g) dx (by omega) (by omega) _ (HS6.out.kp (S := []) (by (repeat (first | exact Kp.refl _ _ | assumption | refine Kp.drew ?_ | refine Kp.drewN ?_ _ | refine Kp.alloc ?_ _ | (refine Kp.setCell ?_ (by first | (left; simp; done) | (right; simp; try omega)) _) | (refine Kp.trans' ?_ (by assumption) (by simp; try omega))))) (by simp) (by simp)) (by simp [bytesN_length]; omega) (by omega)).mono ?_)
       rintro e w7 ⟨rfl, v7, hs7, hk7⟩
       have HS7 := Lib.hid hs7
       have HK7 : Hid (WK w4 w7 r v v7) := WK.next HK6.out HS6.out (by (repeat (first | exact Kp.refl _ _ | assumption | refine Kp.drew ?_ | refine Kp.drewN ?_ _ | refine Kp.alloc ?_ _ | (refine Kp.setCell ?_ (by first | (left; simp; done) | (right; simp; try omega)) _) | (refine Kp.trans' ?_ (by assumption) (by simp; try omega))))) hk7
       clear hs7 hk7)
    | (go_at_call 105
       (with_reducible refine (wu16_calls r room v7 (acc ++ bytesN 2 A3 ++ bytesN 2 g ++ bytesN 2 dx) dy (by omega) (by omega) _ (HS7.out.kp (S := []) (by (repeat (first | exact Kp.refl _ _ | assumption | refine Kp.drew ?_ | refine Kp.drewN ?_ _ | refine Kp.alloc ?_ _ | (refine Kp.setCell ?_ (by first | (left; simp; done) | (right; simp; try omega)) _) | (refine Kp.trans' ?_ (by assumption) (by simp; try omega))))) (by simp) (by simp)) (by simp [bytesN_length]; omega) (by omega)).mono ?_)
       rintro e w8 ⟨rfl, v8, hs8, hk8⟩
       have HS8 := Lib.hid hs8
       have HK8 : Hid (WK w4 w8 r v v8) := WK.next HK7.out HS7.out (by (repeat (first | exact Kp.refl _ _ | assumption | refine Kp.drew ?_ | refine Kp.drewN ?_ _ | refine Kp.alloc ?_ _ | (refine Kp.setCell ?_ (by first | (left; simp; done) | (right; simp; try omega)) _) | (refine Kp.trans' ?_ (by assumption) (by simp; try omega))))) hk8
       clear hs8 hk8)))
  all_goals
    clear c0 c1 c2 c3 c4 c5 c6 c7 c8 c9 c10 d0 HS5 HS6 HS7 HK5 HK6 HK7
    go_wp2_with fail
    obtain ⟨D, hD⟩ : ∃ D, acc ++ bytesN 2 A3 ++ bytesN 2 g ++ bytesN 2 dx ++ bytesN 2 dy = D := ⟨_, rfl⟩
    have HQ2 : Hid (acc ++ putM (⟨g, xx, xy, yx, yy, false, dx, dy, true, 0, 0⟩ : Pt) false = D ++ nums.flatMap (bytesN 2)) := by
      show _ = _; rw [HQ.out, ← hD]; simp only [List.append_assoc]
    have hDl : D.length ≤ acc.length + 8 := by rw [← hD]; simp [bytesN_length]; try omega
    rw [hD] at HS8
    clear hD HQ
    go_loopw [12, 77] (fun _ i wr => ∃ (j : Nat) (u : Value), j ≤ N ∧ i = .int .i64 j ∧ Hid (WSt wr r room u (D ++ (nums.take j).flatMap (bytesN 2)) ∧ WK w4 wr r v u)) (fun _ i _ => N - (intOf i).toNat)
    case atStart => exact ⟨0, v8, by omega, rfl, by simpa using HS8.out, HK8.out⟩
    case round =>
      obtain ⟨j, u, hj, rfl, HJ⟩ := hrel
      clear HS8 HK8
      by_cases hlt : j < N
      · have hI := HI.out.kp HJ.out.2.1 (fun t ht e => HW.out.out t (by have h1 := (HGE.out t e).1; have h2 := HBv.out; omega) ht)
        have hC : ∃ q off, np = some ⟨q, off, none⟩ ∧ wr.cell? ⟨q, off + j, none⟩ = some (.int .i64 (nums.getD j 0)) := by
          rcases hI with ⟨⟨a, e⟩, e0⟩ | ⟨q, off, c, e, _, _, h3⟩
          · have := HNL.out; rw [e0] at this; simp at this; omega
          · cases e; exact ⟨q, off, rfl, h3 j (by rw [HNL.out]; exact hlt)⟩
        obtain ⟨q, off, rfl, hc⟩ := hC
        have hx := HN.out (nums.getD j 0) (by rw [List.getD_eq_getElem?_getD, List.getElem?_eq_getElem (by rw [HNL.out]; exact hlt)]; exact List.getElem_mem _)
        have hsn : Hid (D ++ (nums.take (j + 1)).flatMap (bytesN 2) = D ++ (nums.take j).flatMap (bytesN 2) ++ bytesN 2 (nums.getD j 0)) := by
          show _ = _; rw [flat_snoc nums j (by rw [HNL.out]; exact hlt), List.append_assoc]
        have hln : (D ++ (nums.take j).flatMap (bytesN 2)).length ≤ acc.length + 14 := by
          rw [List.length_append, flat2_len, List.length_take]; omega
        generalize nums.getD j 0 = x at *
        generalize D ++ (nums.take j).flatMap (bytesN 2) = ac at *
        obtain ⟨hx0, hx1⟩ := hx
        clear hI
        go_wp2_with fail
        refine (wi16_calls r room u ac x (by omega) (by omega) _ HJ.out.1 (by omega) (by omega)).mono ?_; rintro e w9 ⟨rfl, v9, hs9, hk9⟩
        have HS9 : Hid (WSt w9 r room v9 (D ++ (nums.take (j + 1)).flatMap (bytesN 2)) ∧ WK w4 w9 r v v9) := ⟨by rw [hsn.out]; exact hs9, HJ.out.2.trans hk9⟩
        clear hs9 hk9 hc
        go_wp2_with fail
        go_roundw
        case rel => first | exact ⟨j + 1, v9, by omega, int_eq' (by omega), HS9⟩ | ((repeat apply Exists.intro); exact ⟨⟨j + 1, v9, by omega, int_eq' (by omega), HS9⟩, rfl⟩)
        case measure => simp [intOf]; omega
      · obtain rfl : j = N := by omega
        go_wp2_with fail
        go_end0
        refine ⟨rfl, u, ?_, HST.out.2.trans HJ.out.2⟩
        rw [HQ2.out]
        have := HJ.out.1
        rwa [List.take_of_length_le (by rw [HNL.out]; exact Nat.le_refl _)] at this
end Go.Proofs.Ytodjohoonbkklaa

/- charset.spread: ranges, glyph by glyph. (Written by wip/charset/genspread.py.) -/
import Derived.Test.YthmokldmdcjklaaChPlainS
namespace Go.Proofs.Ythmokldmdcjklaa
open Go.RowKit
set_option linter.unusedVariables false
set_option linter.unusedSimpArgs false
theorem madeInts (n : Nat) : (madeCells #[Value.int .i64 0] n).toList = (List.replicate n (0 : Int)).map (Value.int .i64) := by
  apply List.ext_getElem?
  intro i
  simp only [madeCells, Array.toList_map, Array.toList_range, List.getElem?_map, List.getElem?_range, List.map_replicate]
  by_cases h : i < n
  · simp [h, Nat.mod_one]
  · simp [h]
set_option maxRecDepth 100000 in
set_option maxHeartbeats 4000000 in
theorem spread_calls (v : Value) (l : List (Int × Int)) (n : Nat) (q : Int) (w : World) (hv : Reads 2 w v l.length (partCells l)) (hok : PartsOk l n q) (hl : l ≠ []) (hn : n ≤ 65535) (hll : l.length ≤ 65535) :
    Calls Try.prog 57 #[v, .int .i64 n] w fun e w' => ∃ v', e = .returned v' ∧ IsInts .i64 w' v' (spreadL l n) ∧ Kp [] w w' ∧ ∀ b, blockOf v' = some b → w.heap.size ≤ b := by
  obtain ⟨i0, hi, hz0, hz1, hz2⟩ := info_parts infoInt
  have hl1 : 0 < l.length := List.length_pos_iff.2 hl
  rcases hv.2 with ⟨⟨ad, rfl⟩, h0⟩ | ⟨g, off, c, rfl, h1, h2, h3⟩
  · omega
  · have HC : Hid (∀ i, i < l.length → w.cell? ⟨g, off + i * 2, none⟩ = some (.int .i64 (fiP l i)) ∧ w.cell? ⟨g, off + i * 2 + 1, none⟩ = some (.int .i64 (xP l i))) := by
      intro i hi
      have := partCells_at l i hi
      have a := h3 (2 * i) _ this.1
      have b := h3 (2 * i + 1) _ this.2
      rw [Nat.mul_comm] at a b
      exact ⟨a, by rw [← Nat.add_assoc] at b; exact b⟩
    have hgl : g < w.heap.size := by have := (HC.out 0 hl1).1; exact World.block_lt_of_cell? w _ this
    have HOK := Lib.hid hok
    have HL := Lib.hid hl
    clear hv h3 hok hl
    go_enter Try.func57, Try.ntmps57
    go_wp2_with (at_make; refine wpList_make_full _ rfl _ _ 24 rfl w.heap.size 3 i0 (.int .i64 0) 1 Try.underlying24 hi hz0 hz1 .i64 .i64 n n n rfl rfl rfl rfl ?b2 ?b3 ?b4 ?hK)
    case b2 => rw [hz2]; omega
    case b3 => unfold maxLen; omega
    case b4 => exact Nat.le_refl _
    case hK =>
    intro w1 hown hgr
    rw [madeInts] at hown
    have hk1 : Kp [] w w1 := Kp.grown (Kp.refl _ _) hgr (fun k hk => nomatch hk)
    generalize hB : w.heap.size = B at *
    have hst : ∃ wr : World, wr = w1 := ⟨_, rfl⟩
    have hBs : B < w1.heap.size := by have := hown.lt B rfl; exact this.2
    have HOW : Hid (w1.ownsRow B 3 1 (.slice (some ⟨B, 0, none⟩) n n) n ((partly l n 0 0).map (Value.int .i64))) := by rw [partly_start]; exact hown
    clear hown hgr hst
    go_wp2_with fail
    go_loopw [6, 7, 8, 9, 14] (fun _ _ _ _ i wr => ∃ j : Nat, j ≤ l.length ∧ i = .int .i64 j ∧ wr.ownsRow B 3 1 (.slice (some ⟨B, 0, none⟩) n n) n ((partly l n j 0).map (Value.int .i64)) ∧ Kp [] w wr ∧ B < wr.heap.size) (fun _ _ _ _ i _ => l.length - (intOf i).toNat)
    case atStart => exact ⟨0, by omega, rfl, HOW.out, hk1, hBs⟩
    case round =>
      obtain ⟨j, hj, rfl, hown, hkp, hbs⟩ := hrel
      clear hk1 hBs HOW
      by_cases hlt : j < l.length
      · have hcj := HC.out j hlt
        have c1 := hkp.cell hcj.1 (by simp)
        have c2 := hkp.cell hcj.2 (by simp)
        have hru := HOK.out.runs HL.out j hj
        rw [if_pos hlt] at hru
        have hst := HOK.out.step j hlt
        have hge := HOK.out.ge j hlt
        have hend : Hid (endP l n j = if j + 1 < l.length then fiP l (j + 1) else n) := rfl
        have hnx := Lib.hid (partly_next HOK.out HL.out j hlt)
        obtain ⟨a, ha⟩ : ∃ a : Nat, fiP l j = a := ⟨(fiP l j).toNat, by omega⟩
        obtain ⟨e, he⟩ : ∃ e : Nat, endP l n j = e := ⟨(endP l n j).toNat, by omega⟩
        rw [ha, he] at hst hnx
        rw [ha] at hge hru c1
        rw [he] at hend
        have hra : (runsP l n j).length = a := by omega
        have HRA := Lib.hid hra
        obtain ⟨hst1, hst2⟩ := hst
        clear hcj hru ha he hra
        have HO := Lib.hid hown
        clear hown
        have hgw : g < wr.heap.size := by have := hkp.size; omega
        have hx1 := hge.2.2.1
        clear hge
        generalize hxe : xP l j = x at *
        have HX := Lib.hid hxe
        clear hxe
        by_cases hj1 : j + 1 < l.length
        · have c3 := hkp.cell (HC.out (j + 1) hj1).1 (by simp)
          have hee : fiP l (j + 1) = (e : Int) := by rw [hend.out, if_pos hj1]
          rw [hee] at c3
          clear hee hend
          go_wp2_with fail
          have hP : Hid ((wr.alloc (.cells #[.int .i64 a, .int .i64 x] 104)).cell? ⟨wr.heap.size, 1, none⟩ = some (.int .i64 x)) := by unfold Hid; go_simp
          generalize hPb : wr.heap.size = P at *
          have ho2 := Lib.hid (HO.out.alloc (.cells #[.int .i64 a, .int .i64 x] 104))
          have hk2 : Kp [] w (wr.alloc (.cells #[.int .i64 a, .int .i64 x] 104)) := hkp.alloc _
          have hs2 : P < (wr.alloc (.cells #[.int .i64 a, .int .i64 x] 104)).heap.size := by simp; omega
          clear HO hkp c1 c2
          generalize wr.alloc (.cells #[.int .i64 a, .int .i64 x] 104) = wq at *
          go_loopw [9] (fun y wi => ∃ t : Nat, a + t ≤ e ∧ y = .int .i64 ((a + t : Nat) : Int) ∧ wi.ownsRow B 3 1 (.slice (some ⟨B, 0, none⟩) n n) n ((partly l n j t).map (Value.int .i64)) ∧ Kp [] w wi ∧ wi.cell? ⟨P, 1, none⟩ = some (.int .i64 x) ∧ P < wi.heap.size) (fun y _ => e - (intOf y).toNat)
          case atStart => exact ⟨0, by omega, by simp, ho2.out, hk2, hP.out, hs2⟩
          case round =>
            obtain ⟨t, ht, rfl, hown, hkp, hcp, hps⟩ := hrel
            clear ho2 hk2 hP hs2
            have hfz := hown.frozenAt (a + t)
            by_cases htl : a + t < e
            · have hlp : (partly l n j t).length = n := partly_length l n j t (by rw [HRA.out]; omega)
              have hold := hown.cells (g := B) rfl (a + t) (.int .i64 ((partly l n j t).getD (a + t) 0)) (by rw [List.getElem?_map, List.getD_eq_getElem?_getD, List.getElem?_eq_getElem (by omega)]; rfl)
              rw [add_lit, Nat.zero_add] at hold
              have hst := hown.stored (a + t) (.int .i64 x)
              have HST : Hid ((wr.setCell ⟨B, a + t, none⟩ (.int .i64 x)).ownsRow B 3 1 (.slice (some ⟨B, 0, none⟩) n n) n ((partly l n j (t + 1)).map (Value.int .i64))) := by
                have h9 := hst.1
                rw [← partly_set l n j t (by rw [HRA.out]; omega), HX.out, HRA.out, List.map_set]; exact h9
              have hk3 : Kp [] w (wr.setCell ⟨B, a + t, none⟩ (.int .i64 x)) := hkp.setCell (.inr (by simp; omega)) _
              have hcp3 : Hid ((wr.setCell ⟨B, a + t, none⟩ (.int .i64 x)).cell? ⟨P, 1, none⟩ = some (.int .i64 x)) := (World.cell?_of_block (heap_setCell_other wr ⟨B, a + t, none⟩ P _ (by simp; omega))).trans hcp
              have hps3 : Hid (P < (wr.setCell ⟨B, a + t, none⟩ (.int .i64 x)).heap.size) := by unfold Hid; simpa [World.setCell] using hps
              clear hst hown
              generalize (partly l n j t).getD (a + t) 0 = oldx at *
              go_wp2_with fail
              go_roundw
              case rel => first | exact ⟨t + 1, by omega, by go_num, HST.out, hk3, hcp3.out, hps3.out⟩ | (repeat apply Exists.intro; exact ⟨⟨t + 1, by omega, by go_num, HST.out, hk3, hcp3.out, hps3.out⟩, rfl⟩)
              case measure => simp [intOf]; omega
            · have hte : t = ((e : Int) - (a : Int)).toNat := by omega
              have HNX : Hid (wr.ownsRow B 3 1 (.slice (some ⟨B, 0, none⟩) n n) n ((partly l n (j + 1) 0).map (Value.int .i64))) := by rw [← hnx.out, ← hte]; exact hown
              clear hte hown
              go_wp2_with fail
              go_roundw
              case rel => first | exact ⟨j + 1, by omega, by go_num, HNX.out, hkp, by omega⟩ | (repeat apply Exists.intro; exact ⟨⟨j + 1, by omega, by go_num, HNX.out, hkp, by omega⟩, rfl⟩)
              case measure => simp [intOf]; omega
        · have hee : (n : Int) = (e : Int) := by rw [hend.out, if_neg hj1]
          obtain rfl : n = e := by omega
          clear hee hend
          go_wp2_with fail
          have hP : Hid ((wr.alloc (.cells #[.int .i64 a, .int .i64 x] 104)).cell? ⟨wr.heap.size, 1, none⟩ = some (.int .i64 x)) := by unfold Hid; go_simp
          generalize hPb : wr.heap.size = P at *
          have ho2 := Lib.hid (HO.out.alloc (.cells #[.int .i64 a, .int .i64 x] 104))
          have hk2 : Kp [] w (wr.alloc (.cells #[.int .i64 a, .int .i64 x] 104)) := hkp.alloc _
          have hs2 : P < (wr.alloc (.cells #[.int .i64 a, .int .i64 x] 104)).heap.size := by simp; omega
          clear HO hkp c1 c2
          generalize wr.alloc (.cells #[.int .i64 a, .int .i64 x] 104) = wq at *
          go_loopw [9] (fun y wi => ∃ t : Nat, a + t ≤ n ∧ y = .int .i64 ((a + t : Nat) : Int) ∧ wi.ownsRow B 3 1 (.slice (some ⟨B, 0, none⟩) n n) n ((partly l n j t).map (Value.int .i64)) ∧ Kp [] w wi ∧ wi.cell? ⟨P, 1, none⟩ = some (.int .i64 x) ∧ P < wi.heap.size) (fun y _ => n - (intOf y).toNat)
          case atStart => exact ⟨0, by omega, by simp, ho2.out, hk2, hP.out, hs2⟩
          case round =>
            obtain ⟨t, ht, rfl, hown, hkp, hcp, hps⟩ := hrel
            clear ho2 hk2 hP hs2
            have hfz := hown.frozenAt (a + t)
            by_cases htl : a + t < n
            · have hlp : (partly l n j t).length = n := partly_length l n j t (by rw [HRA.out]; omega)
              have hold := hown.cells (g := B) rfl (a + t) (.int .i64 ((partly l n j t).getD (a + t) 0)) (by rw [List.getElem?_map, List.getD_eq_getElem?_getD, List.getElem?_eq_getElem (by omega)]; rfl)
              rw [add_lit, Nat.zero_add] at hold
              have hst := hown.stored (a + t) (.int .i64 x)
              have HST : Hid ((wr.setCell ⟨B, a + t, none⟩ (.int .i64 x)).ownsRow B 3 1 (.slice (some ⟨B, 0, none⟩) n n) n ((partly l n j (t + 1)).map (Value.int .i64))) := by
                have h9 := hst.1
                rw [← partly_set l n j t (by rw [HRA.out]; omega), HX.out, HRA.out, List.map_set]; exact h9
              have hk3 : Kp [] w (wr.setCell ⟨B, a + t, none⟩ (.int .i64 x)) := hkp.setCell (.inr (by simp; omega)) _
              have hcp3 : Hid ((wr.setCell ⟨B, a + t, none⟩ (.int .i64 x)).cell? ⟨P, 1, none⟩ = some (.int .i64 x)) := (World.cell?_of_block (heap_setCell_other wr ⟨B, a + t, none⟩ P _ (by simp; omega))).trans hcp
              have hps3 : Hid (P < (wr.setCell ⟨B, a + t, none⟩ (.int .i64 x)).heap.size) := by unfold Hid; simpa [World.setCell] using hps
              clear hst hown
              generalize (partly l n j t).getD (a + t) 0 = oldx at *
              go_wp2_with fail
              go_roundw
              case rel => first | exact ⟨t + 1, by omega, by go_num, HST.out, hk3, hcp3.out, hps3.out⟩ | (repeat apply Exists.intro; exact ⟨⟨t + 1, by omega, by go_num, HST.out, hk3, hcp3.out, hps3.out⟩, rfl⟩)
              case measure => simp [intOf]; omega
            · have hte : t = ((n : Int) - (a : Int)).toNat := by omega
              have HNX : Hid (wr.ownsRow B 3 1 (.slice (some ⟨B, 0, none⟩) n n) n ((partly l n (j + 1) 0).map (Value.int .i64))) := by rw [← hnx.out, ← hte]; exact hown
              clear hte hown
              go_wp2_with fail
              go_roundw
              case rel => first | exact ⟨j + 1, by omega, by go_num, HNX.out, hkp, by omega⟩ | (repeat apply Exists.intro; exact ⟨⟨j + 1, by omega, by go_num, HNX.out, hkp, by omega⟩, rfl⟩)
              case measure => simp [intOf]; omega
      · obtain rfl : j = l.length := by omega
        have HE := Lib.hid (partly_end HOK.out HL.out)
        have HO : Hid (wr.ownsRow B 3 1 (.slice (some ⟨B, 0, none⟩) n n) n ((spreadL l n).map (Value.int .i64))) := by rw [← HE.out]; exact hown
        clear hown
        go_wp2_with fail
        go_ret
        exact ⟨_, rfl, IsInts.owned HO.out, hkp, fun b hb => by have := own_geb HO.out b hb; omega⟩
end Go.Proofs.Ythmokldmdcjklaa

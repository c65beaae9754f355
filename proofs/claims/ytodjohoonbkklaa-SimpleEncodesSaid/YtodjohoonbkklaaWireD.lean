/- The reference's Bytes: a number's lowest n bytes. (Written by wip/wire/genbytes.py.) -/
import Derived.Test.YtodjohoonbkklaaWireC
import Derived.Lib.Hide
namespace Go.Proofs.Ytodjohoonbkklaa
open Go.RowKit
set_option linter.unusedVariables false
set_option linter.unusedSimpArgs false
/-- A number's lowest n bytes, the highest first. -/
def bytesN : Nat → Int → List Int
  | 0, _ => []
  | i + 1, x => (x / (256 ^ i : Nat) % 256) :: bytesN i x
theorem bytesN_length (n : Nat) (x : Int) : (bytesN n x).length = n := by
  induction n with
  | zero => rfl
  | succ n ih => simp [bytesN, ih]
theorem madeBytes (n : Nat) : (madeCells #[Value.int .u8 0] n).toList = (List.replicate n (0 : Int)).map (Value.int .u8) := by
  apply List.ext_getElem?
  intro i
  simp only [madeCells, Array.toList_map, Array.toList_range, List.getElem?_map, List.getElem?_range, List.map_replicate]
  by_cases h : i < n
  · simp [h, Nat.mod_one]
  · simp [h]
/-- So many of the lowest bytes, the others still 0. -/
def halfB (n i : Nat) (x : Int) : List Int := List.replicate (n - i) 0 ++ bytesN i x
theorem halfB_set (n i : Nat) (x : Int) (h : i < n) : (halfB n i x).set (n - 1 - i) (x / (256 ^ i : Nat) % 256) = halfB n (i + 1) x := by
  unfold halfB
  rw [show n - i = (n - 1 - i) + 1 by omega, List.replicate_succ', List.append_assoc, List.set_append, if_neg (by simp), List.length_replicate, Nat.sub_self]
  simp only [List.singleton_append, List.set_cons_zero, bytesN]
  rw [show n - 1 - i = n - (i + 1) by omega]
theorem halfB_length (n i : Nat) (x : Int) (h : i ≤ n) : (halfB n i x).length = n := by
  unfold halfB; rw [List.length_append, bytesN_length, List.length_replicate]; omega
set_option maxRecDepth 100000 in
set_option maxHeartbeats 1000000 in
theorem rbytes_1 (x : Int) (g1 : -9223372036854775808 ≤ x) (g2 : x ≤ 9223372036854775807) (w : World) :
    Calls Try.prog 120 #[.int .i64 1, .int .i64 x] w fun e w' => ∃ v, e = .returned v ∧ w'.ownsRow w.heap.size 5 1 v 1 ((bytesN 1 x).map (Value.int .u8)) ∧ Kp [] w w' := by
  obtain ⟨i0, hi, hz0, hz1, hz2⟩ := info_parts infoByte
  go_enter Try.func120, Try.ntmps120
  go_wp2_with (at_make; refine wpList_make_full _ rfl _ _ 22 rfl w.heap.size 5 i0 (.int .u8 0) 1 Try.underlying22 hi hz0 hz1 .i64 .i64 1 1 1 rfl rfl rfl rfl ?b2 ?b3 ?b4 ?hK)
  case b2 => rw [hz2]; omega
  case b3 => unfold maxLen; omega
  case b4 => exact Nat.le_refl _
  case hK =>
  intro w1 hown hgr
  rw [madeBytes] at hown
  have hk1 : Kp [] w w1 := Kp.grown (Kp.refl _ _) hgr (fun k hk => nomatch hk)
  generalize hB : w.heap.size = B at *
  have hBs : B < w1.heap.size := by have := hown.lt B rfl; exact this.2
  have HOW : Hid (w1.ownsRow B 5 1 (.slice (some ⟨B, 0, none⟩) 1 1) 1 ((halfB 1 0 x).map (Value.int .u8))) := hown
  clear hown hgr
  go_wp2_with fail
  go_loopw [6] (fun i wr => ∃ j : Nat, j ≤ 1 ∧ i = .int .i64 j ∧ wr.ownsRow B 5 1 (.slice (some ⟨B, 0, none⟩) 1 1) 1 ((halfB 1 j x).map (Value.int .u8)) ∧ Kp [] w wr ∧ B < wr.heap.size) (fun i _ => 1 - (intOf i).toNat)
  case atStart => exact ⟨0, by omega, rfl, HOW.out, hk1, hBs⟩
  case round =>
    obtain ⟨j, hj, rfl, hown, hkp, hbs⟩ := hrel
    clear hk1 hBs HOW
    have hj4 : j = 0 ∨ j = 1 := by omega
    rcases hj4 with rfl | rfl
    · have hfz := hown.frozenAt 0
      have hold := hown.cells (g := B) rfl 0 (.int .u8 ((halfB 1 0 x).getD 0 0)) (by rw [List.getElem?_map, List.getD_eq_getElem?_getD, List.getElem?_eq_getElem (by rw [halfB_length _ _ _ (by omega)]; omega)]; rfl)
      rw [add_lit, Nat.zero_add] at hold
      have hst := hown.stored 0 (.int .u8 (x % 256))
      have HST : Hid ((wr.setCell ⟨B, 0, none⟩ (.int .u8 (x % 256))).ownsRow B 5 1 (.slice (some ⟨B, 0, none⟩) 1 1) 1 ((halfB 1 1 x).map (Value.int .u8))) := by
        have h9 := hst.1
        rw [← List.map_set] at h9
        have e := halfB_set 1 0 x (by omega)
        simp only [show (256 ^ 0 : Nat) = 1 from rfl] at e
        try rw [show x / ((1 : Nat) : Int) = x from Int.ediv_one x] at e
        rw [← e]; exact h9
      have hk3 : Kp [] w (wr.setCell ⟨B, 0, none⟩ (.int .u8 (x % 256))) := hkp.setCell (.inr (by simp; omega)) _
      have hps3 : Hid (B < (wr.setCell ⟨B, 0, none⟩ (.int .u8 (x % 256))).heap.size) := by unfold Hid; simpa [World.setCell] using hbs
      clear hst hown
      generalize (halfB 1 0 x).getD 0 0 = oldx at *
      go_wp2_with fail
      go_roundw
      case rel => exact ⟨1, by omega, rfl, HST.out, hk3, hps3.out⟩
      case measure => simp [intOf]
    · have HO : Hid (wr.ownsRow B 5 1 (.slice (some ⟨B, 0, none⟩) 1 1) 1 ((bytesN 1 x).map (Value.int .u8))) := hown
      clear hown
      go_wp2_with fail
      go_ret
      exact ⟨_, rfl, by rw [hB]; exact HO.out, hkp⟩
set_option maxRecDepth 100000 in
set_option maxHeartbeats 1000000 in
theorem rbytes_2 (x : Int) (g1 : -9223372036854775808 ≤ x) (g2 : x ≤ 9223372036854775807) (w : World) :
    Calls Try.prog 120 #[.int .i64 2, .int .i64 x] w fun e w' => ∃ v, e = .returned v ∧ w'.ownsRow w.heap.size 5 1 v 2 ((bytesN 2 x).map (Value.int .u8)) ∧ Kp [] w w' := by
  obtain ⟨i0, hi, hz0, hz1, hz2⟩ := info_parts infoByte
  go_enter Try.func120, Try.ntmps120
  go_wp2_with (at_make; refine wpList_make_full _ rfl _ _ 22 rfl w.heap.size 5 i0 (.int .u8 0) 1 Try.underlying22 hi hz0 hz1 .i64 .i64 2 2 2 rfl rfl rfl rfl ?b2 ?b3 ?b4 ?hK)
  case b2 => rw [hz2]; omega
  case b3 => unfold maxLen; omega
  case b4 => exact Nat.le_refl _
  case hK =>
  intro w1 hown hgr
  rw [madeBytes] at hown
  have hk1 : Kp [] w w1 := Kp.grown (Kp.refl _ _) hgr (fun k hk => nomatch hk)
  generalize hB : w.heap.size = B at *
  have hBs : B < w1.heap.size := by have := hown.lt B rfl; exact this.2
  have HOW : Hid (w1.ownsRow B 5 1 (.slice (some ⟨B, 0, none⟩) 2 2) 2 ((halfB 2 0 x).map (Value.int .u8))) := hown
  clear hown hgr
  go_wp2_with fail
  go_loopw [6] (fun i wr => ∃ j : Nat, j ≤ 2 ∧ i = .int .i64 j ∧ wr.ownsRow B 5 1 (.slice (some ⟨B, 0, none⟩) 2 2) 2 ((halfB 2 j x).map (Value.int .u8)) ∧ Kp [] w wr ∧ B < wr.heap.size) (fun i _ => 2 - (intOf i).toNat)
  case atStart => exact ⟨0, by omega, rfl, HOW.out, hk1, hBs⟩
  case round =>
    obtain ⟨j, hj, rfl, hown, hkp, hbs⟩ := hrel
    clear hk1 hBs HOW
    have hj4 : j = 0 ∨ j = 1 ∨ j = 2 := by omega
    rcases hj4 with rfl | rfl | rfl
    · have hfz := hown.frozenAt 1
      have hold := hown.cells (g := B) rfl 1 (.int .u8 ((halfB 2 0 x).getD 1 0)) (by rw [List.getElem?_map, List.getD_eq_getElem?_getD, List.getElem?_eq_getElem (by rw [halfB_length _ _ _ (by omega)]; omega)]; rfl)
      rw [add_lit, Nat.zero_add] at hold
      have hst := hown.stored 1 (.int .u8 (x % 256))
      have HST : Hid ((wr.setCell ⟨B, 1, none⟩ (.int .u8 (x % 256))).ownsRow B 5 1 (.slice (some ⟨B, 0, none⟩) 2 2) 2 ((halfB 2 1 x).map (Value.int .u8))) := by
        have h9 := hst.1
        rw [← List.map_set] at h9
        have e := halfB_set 2 0 x (by omega)
        simp only [show (256 ^ 0 : Nat) = 1 from rfl] at e
        try rw [show x / ((1 : Nat) : Int) = x from Int.ediv_one x] at e
        rw [← e]; exact h9
      have hk3 : Kp [] w (wr.setCell ⟨B, 1, none⟩ (.int .u8 (x % 256))) := hkp.setCell (.inr (by simp; omega)) _
      have hps3 : Hid (B < (wr.setCell ⟨B, 1, none⟩ (.int .u8 (x % 256))).heap.size) := by unfold Hid; simpa [World.setCell] using hbs
      clear hst hown
      generalize (halfB 2 0 x).getD 1 0 = oldx at *
      go_wp2_with fail
      go_roundw
      case rel => exact ⟨1, by omega, rfl, HST.out, hk3, hps3.out⟩
      case measure => simp [intOf]
    · have hfz := hown.frozenAt 0
      have hold := hown.cells (g := B) rfl 0 (.int .u8 ((halfB 2 1 x).getD 0 0)) (by rw [List.getElem?_map, List.getD_eq_getElem?_getD, List.getElem?_eq_getElem (by rw [halfB_length _ _ _ (by omega)]; omega)]; rfl)
      rw [add_lit, Nat.zero_add] at hold
      have hst := hown.stored 0 (.int .u8 (x / 256 % 256))
      have HST : Hid ((wr.setCell ⟨B, 0, none⟩ (.int .u8 (x / 256 % 256))).ownsRow B 5 1 (.slice (some ⟨B, 0, none⟩) 2 2) 2 ((halfB 2 2 x).map (Value.int .u8))) := by
        have h9 := hst.1
        rw [← List.map_set] at h9
        have e := halfB_set 2 1 x (by omega)
        simp only [show (256 ^ 1 : Nat) = 256 from rfl] at e
        try rw [show x / ((1 : Nat) : Int) = x from Int.ediv_one x] at e
        rw [← e]; exact h9
      have hk3 : Kp [] w (wr.setCell ⟨B, 0, none⟩ (.int .u8 (x / 256 % 256))) := hkp.setCell (.inr (by simp; omega)) _
      have hps3 : Hid (B < (wr.setCell ⟨B, 0, none⟩ (.int .u8 (x / 256 % 256))).heap.size) := by unfold Hid; simpa [World.setCell] using hbs
      clear hst hown
      generalize (halfB 2 1 x).getD 0 0 = oldx at *
      go_wp2_with fail
      go_roundw
      case rel => exact ⟨2, by omega, rfl, HST.out, hk3, hps3.out⟩
      case measure => simp [intOf]
    · have HO : Hid (wr.ownsRow B 5 1 (.slice (some ⟨B, 0, none⟩) 2 2) 2 ((bytesN 2 x).map (Value.int .u8))) := hown
      clear hown
      go_wp2_with fail
      go_ret
      exact ⟨_, rfl, by rw [hB]; exact HO.out, hkp⟩
set_option maxRecDepth 100000 in
set_option maxHeartbeats 1000000 in
theorem rbytes_3 (x : Int) (g1 : -9223372036854775808 ≤ x) (g2 : x ≤ 9223372036854775807) (w : World) :
    Calls Try.prog 120 #[.int .i64 3, .int .i64 x] w fun e w' => ∃ v, e = .returned v ∧ w'.ownsRow w.heap.size 5 1 v 3 ((bytesN 3 x).map (Value.int .u8)) ∧ Kp [] w w' := by
  obtain ⟨i0, hi, hz0, hz1, hz2⟩ := info_parts infoByte
  go_enter Try.func120, Try.ntmps120
  go_wp2_with (at_make; refine wpList_make_full _ rfl _ _ 22 rfl w.heap.size 5 i0 (.int .u8 0) 1 Try.underlying22 hi hz0 hz1 .i64 .i64 3 3 3 rfl rfl rfl rfl ?b2 ?b3 ?b4 ?hK)
  case b2 => rw [hz2]; omega
  case b3 => unfold maxLen; omega
  case b4 => exact Nat.le_refl _
  case hK =>
  intro w1 hown hgr
  rw [madeBytes] at hown
  have hk1 : Kp [] w w1 := Kp.grown (Kp.refl _ _) hgr (fun k hk => nomatch hk)
  generalize hB : w.heap.size = B at *
  have hBs : B < w1.heap.size := by have := hown.lt B rfl; exact this.2
  have HOW : Hid (w1.ownsRow B 5 1 (.slice (some ⟨B, 0, none⟩) 3 3) 3 ((halfB 3 0 x).map (Value.int .u8))) := hown
  clear hown hgr
  go_wp2_with fail
  go_loopw [6] (fun i wr => ∃ j : Nat, j ≤ 3 ∧ i = .int .i64 j ∧ wr.ownsRow B 5 1 (.slice (some ⟨B, 0, none⟩) 3 3) 3 ((halfB 3 j x).map (Value.int .u8)) ∧ Kp [] w wr ∧ B < wr.heap.size) (fun i _ => 3 - (intOf i).toNat)
  case atStart => exact ⟨0, by omega, rfl, HOW.out, hk1, hBs⟩
  case round =>
    obtain ⟨j, hj, rfl, hown, hkp, hbs⟩ := hrel
    clear hk1 hBs HOW
    have hj4 : j = 0 ∨ j = 1 ∨ j = 2 ∨ j = 3 := by omega
    rcases hj4 with rfl | rfl | rfl | rfl
    · have hfz := hown.frozenAt 2
      have hold := hown.cells (g := B) rfl 2 (.int .u8 ((halfB 3 0 x).getD 2 0)) (by rw [List.getElem?_map, List.getD_eq_getElem?_getD, List.getElem?_eq_getElem (by rw [halfB_length _ _ _ (by omega)]; omega)]; rfl)
      rw [add_lit, Nat.zero_add] at hold
      have hst := hown.stored 2 (.int .u8 (x % 256))
      have HST : Hid ((wr.setCell ⟨B, 2, none⟩ (.int .u8 (x % 256))).ownsRow B 5 1 (.slice (some ⟨B, 0, none⟩) 3 3) 3 ((halfB 3 1 x).map (Value.int .u8))) := by
        have h9 := hst.1
        rw [← List.map_set] at h9
        have e := halfB_set 3 0 x (by omega)
        simp only [show (256 ^ 0 : Nat) = 1 from rfl] at e
        try rw [show x / ((1 : Nat) : Int) = x from Int.ediv_one x] at e
        rw [← e]; exact h9
      have hk3 : Kp [] w (wr.setCell ⟨B, 2, none⟩ (.int .u8 (x % 256))) := hkp.setCell (.inr (by simp; omega)) _
      have hps3 : Hid (B < (wr.setCell ⟨B, 2, none⟩ (.int .u8 (x % 256))).heap.size) := by unfold Hid; simpa [World.setCell] using hbs
      clear hst hown
      generalize (halfB 3 0 x).getD 2 0 = oldx at *
      go_wp2_with fail
      go_roundw
      case rel => exact ⟨1, by omega, rfl, HST.out, hk3, hps3.out⟩
      case measure => simp [intOf]
    · have hfz := hown.frozenAt 1
      have hold := hown.cells (g := B) rfl 1 (.int .u8 ((halfB 3 1 x).getD 1 0)) (by rw [List.getElem?_map, List.getD_eq_getElem?_getD, List.getElem?_eq_getElem (by rw [halfB_length _ _ _ (by omega)]; omega)]; rfl)
      rw [add_lit, Nat.zero_add] at hold
      have hst := hown.stored 1 (.int .u8 (x / 256 % 256))
      have HST : Hid ((wr.setCell ⟨B, 1, none⟩ (.int .u8 (x / 256 % 256))).ownsRow B 5 1 (.slice (some ⟨B, 0, none⟩) 3 3) 3 ((halfB 3 2 x).map (Value.int .u8))) := by
        have h9 := hst.1
        rw [← List.map_set] at h9
        have e := halfB_set 3 1 x (by omega)
        simp only [show (256 ^ 1 : Nat) = 256 from rfl] at e
        try rw [show x / ((1 : Nat) : Int) = x from Int.ediv_one x] at e
        rw [← e]; exact h9
      have hk3 : Kp [] w (wr.setCell ⟨B, 1, none⟩ (.int .u8 (x / 256 % 256))) := hkp.setCell (.inr (by simp; omega)) _
      have hps3 : Hid (B < (wr.setCell ⟨B, 1, none⟩ (.int .u8 (x / 256 % 256))).heap.size) := by unfold Hid; simpa [World.setCell] using hbs
      clear hst hown
      generalize (halfB 3 1 x).getD 1 0 = oldx at *
      go_wp2_with fail
      go_roundw
      case rel => exact ⟨2, by omega, rfl, HST.out, hk3, hps3.out⟩
      case measure => simp [intOf]
    · have hfz := hown.frozenAt 0
      have hold := hown.cells (g := B) rfl 0 (.int .u8 ((halfB 3 2 x).getD 0 0)) (by rw [List.getElem?_map, List.getD_eq_getElem?_getD, List.getElem?_eq_getElem (by rw [halfB_length _ _ _ (by omega)]; omega)]; rfl)
      rw [add_lit, Nat.zero_add] at hold
      have hst := hown.stored 0 (.int .u8 (x / 65536 % 256))
      have HST : Hid ((wr.setCell ⟨B, 0, none⟩ (.int .u8 (x / 65536 % 256))).ownsRow B 5 1 (.slice (some ⟨B, 0, none⟩) 3 3) 3 ((halfB 3 3 x).map (Value.int .u8))) := by
        have h9 := hst.1
        rw [← List.map_set] at h9
        have e := halfB_set 3 2 x (by omega)
        simp only [show (256 ^ 2 : Nat) = 65536 from rfl] at e
        try rw [show x / ((1 : Nat) : Int) = x from Int.ediv_one x] at e
        rw [← e]; exact h9
      have hk3 : Kp [] w (wr.setCell ⟨B, 0, none⟩ (.int .u8 (x / 65536 % 256))) := hkp.setCell (.inr (by simp; omega)) _
      have hps3 : Hid (B < (wr.setCell ⟨B, 0, none⟩ (.int .u8 (x / 65536 % 256))).heap.size) := by unfold Hid; simpa [World.setCell] using hbs
      clear hst hown
      generalize (halfB 3 2 x).getD 0 0 = oldx at *
      go_wp2_with fail
      go_roundw
      case rel => exact ⟨3, by omega, rfl, HST.out, hk3, hps3.out⟩
      case measure => simp [intOf]
    · have HO : Hid (wr.ownsRow B 5 1 (.slice (some ⟨B, 0, none⟩) 3 3) 3 ((bytesN 3 x).map (Value.int .u8))) := hown
      clear hown
      go_wp2_with fail
      go_ret
      exact ⟨_, rfl, by rw [hB]; exact HO.out, hkp⟩
set_option maxRecDepth 100000 in
set_option maxHeartbeats 1000000 in
theorem rbytes_4 (x : Int) (g1 : -9223372036854775808 ≤ x) (g2 : x ≤ 9223372036854775807) (w : World) :
    Calls Try.prog 120 #[.int .i64 4, .int .i64 x] w fun e w' => ∃ v, e = .returned v ∧ w'.ownsRow w.heap.size 5 1 v 4 ((bytesN 4 x).map (Value.int .u8)) ∧ Kp [] w w' := by
  obtain ⟨i0, hi, hz0, hz1, hz2⟩ := info_parts infoByte
  go_enter Try.func120, Try.ntmps120
  go_wp2_with (at_make; refine wpList_make_full _ rfl _ _ 22 rfl w.heap.size 5 i0 (.int .u8 0) 1 Try.underlying22 hi hz0 hz1 .i64 .i64 4 4 4 rfl rfl rfl rfl ?b2 ?b3 ?b4 ?hK)
  case b2 => rw [hz2]; omega
  case b3 => unfold maxLen; omega
  case b4 => exact Nat.le_refl _
  case hK =>
  intro w1 hown hgr
  rw [madeBytes] at hown
  have hk1 : Kp [] w w1 := Kp.grown (Kp.refl _ _) hgr (fun k hk => nomatch hk)
  generalize hB : w.heap.size = B at *
  have hBs : B < w1.heap.size := by have := hown.lt B rfl; exact this.2
  have HOW : Hid (w1.ownsRow B 5 1 (.slice (some ⟨B, 0, none⟩) 4 4) 4 ((halfB 4 0 x).map (Value.int .u8))) := hown
  clear hown hgr
  go_wp2_with fail
  go_loopw [6] (fun i wr => ∃ j : Nat, j ≤ 4 ∧ i = .int .i64 j ∧ wr.ownsRow B 5 1 (.slice (some ⟨B, 0, none⟩) 4 4) 4 ((halfB 4 j x).map (Value.int .u8)) ∧ Kp [] w wr ∧ B < wr.heap.size) (fun i _ => 4 - (intOf i).toNat)
  case atStart => exact ⟨0, by omega, rfl, HOW.out, hk1, hBs⟩
  case round =>
    obtain ⟨j, hj, rfl, hown, hkp, hbs⟩ := hrel
    clear hk1 hBs HOW
    have hj4 : j = 0 ∨ j = 1 ∨ j = 2 ∨ j = 3 ∨ j = 4 := by omega
    rcases hj4 with rfl | rfl | rfl | rfl | rfl
    · have hfz := hown.frozenAt 3
      have hold := hown.cells (g := B) rfl 3 (.int .u8 ((halfB 4 0 x).getD 3 0)) (by rw [List.getElem?_map, List.getD_eq_getElem?_getD, List.getElem?_eq_getElem (by rw [halfB_length _ _ _ (by omega)]; omega)]; rfl)
      rw [add_lit, Nat.zero_add] at hold
      have hst := hown.stored 3 (.int .u8 (x % 256))
      have HST : Hid ((wr.setCell ⟨B, 3, none⟩ (.int .u8 (x % 256))).ownsRow B 5 1 (.slice (some ⟨B, 0, none⟩) 4 4) 4 ((halfB 4 1 x).map (Value.int .u8))) := by
        have h9 := hst.1
        rw [← List.map_set] at h9
        have e := halfB_set 4 0 x (by omega)
        simp only [show (256 ^ 0 : Nat) = 1 from rfl] at e
        try rw [show x / ((1 : Nat) : Int) = x from Int.ediv_one x] at e
        rw [← e]; exact h9
      have hk3 : Kp [] w (wr.setCell ⟨B, 3, none⟩ (.int .u8 (x % 256))) := hkp.setCell (.inr (by simp; omega)) _
      have hps3 : Hid (B < (wr.setCell ⟨B, 3, none⟩ (.int .u8 (x % 256))).heap.size) := by unfold Hid; simpa [World.setCell] using hbs
      clear hst hown
      generalize (halfB 4 0 x).getD 3 0 = oldx at *
      go_wp2_with fail
      go_roundw
      case rel => exact ⟨1, by omega, rfl, HST.out, hk3, hps3.out⟩
      case measure => simp [intOf]
    · have hfz := hown.frozenAt 2
      have hold := hown.cells (g := B) rfl 2 (.int .u8 ((halfB 4 1 x).getD 2 0)) (by rw [List.getElem?_map, List.getD_eq_getElem?_getD, List.getElem?_eq_getElem (by rw [halfB_length _ _ _ (by omega)]; omega)]; rfl)
      rw [add_lit, Nat.zero_add] at hold
      have hst := hown.stored 2 (.int .u8 (x / 256 % 256))
      have HST : Hid ((wr.setCell ⟨B, 2, none⟩ (.int .u8 (x / 256 % 256))).ownsRow B 5 1 (.slice (some ⟨B, 0, none⟩) 4 4) 4 ((halfB 4 2 x).map (Value.int .u8))) := by
        have h9 := hst.1
        rw [← List.map_set] at h9
        have e := halfB_set 4 1 x (by omega)
        simp only [show (256 ^ 1 : Nat) = 256 from rfl] at e
        try rw [show x / ((1 : Nat) : Int) = x from Int.ediv_one x] at e
        rw [← e]; exact h9
      have hk3 : Kp [] w (wr.setCell ⟨B, 2, none⟩ (.int .u8 (x / 256 % 256))) := hkp.setCell (.inr (by simp; omega)) _
      have hps3 : Hid (B < (wr.setCell ⟨B, 2, none⟩ (.int .u8 (x / 256 % 256))).heap.size) := by unfold Hid; simpa [World.setCell] using hbs
      clear hst hown
      generalize (halfB 4 1 x).getD 2 0 = oldx at *
      go_wp2_with fail
      go_roundw
      case rel => exact ⟨2, by omega, rfl, HST.out, hk3, hps3.out⟩
      case measure => simp [intOf]
    · have hfz := hown.frozenAt 1
      have hold := hown.cells (g := B) rfl 1 (.int .u8 ((halfB 4 2 x).getD 1 0)) (by rw [List.getElem?_map, List.getD_eq_getElem?_getD, List.getElem?_eq_getElem (by rw [halfB_length _ _ _ (by omega)]; omega)]; rfl)
      rw [add_lit, Nat.zero_add] at hold
      have hst := hown.stored 1 (.int .u8 (x / 65536 % 256))
      have HST : Hid ((wr.setCell ⟨B, 1, none⟩ (.int .u8 (x / 65536 % 256))).ownsRow B 5 1 (.slice (some ⟨B, 0, none⟩) 4 4) 4 ((halfB 4 3 x).map (Value.int .u8))) := by
        have h9 := hst.1
        rw [← List.map_set] at h9
        have e := halfB_set 4 2 x (by omega)
        simp only [show (256 ^ 2 : Nat) = 65536 from rfl] at e
        try rw [show x / ((1 : Nat) : Int) = x from Int.ediv_one x] at e
        rw [← e]; exact h9
      have hk3 : Kp [] w (wr.setCell ⟨B, 1, none⟩ (.int .u8 (x / 65536 % 256))) := hkp.setCell (.inr (by simp; omega)) _
      have hps3 : Hid (B < (wr.setCell ⟨B, 1, none⟩ (.int .u8 (x / 65536 % 256))).heap.size) := by unfold Hid; simpa [World.setCell] using hbs
      clear hst hown
      generalize (halfB 4 2 x).getD 1 0 = oldx at *
      go_wp2_with fail
      go_roundw
      case rel => exact ⟨3, by omega, rfl, HST.out, hk3, hps3.out⟩
      case measure => simp [intOf]
    · have hfz := hown.frozenAt 0
      have hold := hown.cells (g := B) rfl 0 (.int .u8 ((halfB 4 3 x).getD 0 0)) (by rw [List.getElem?_map, List.getD_eq_getElem?_getD, List.getElem?_eq_getElem (by rw [halfB_length _ _ _ (by omega)]; omega)]; rfl)
      rw [add_lit, Nat.zero_add] at hold
      have hst := hown.stored 0 (.int .u8 (x / 16777216 % 256))
      have HST : Hid ((wr.setCell ⟨B, 0, none⟩ (.int .u8 (x / 16777216 % 256))).ownsRow B 5 1 (.slice (some ⟨B, 0, none⟩) 4 4) 4 ((halfB 4 4 x).map (Value.int .u8))) := by
        have h9 := hst.1
        rw [← List.map_set] at h9
        have e := halfB_set 4 3 x (by omega)
        simp only [show (256 ^ 3 : Nat) = 16777216 from rfl] at e
        try rw [show x / ((1 : Nat) : Int) = x from Int.ediv_one x] at e
        rw [← e]; exact h9
      have hk3 : Kp [] w (wr.setCell ⟨B, 0, none⟩ (.int .u8 (x / 16777216 % 256))) := hkp.setCell (.inr (by simp; omega)) _
      have hps3 : Hid (B < (wr.setCell ⟨B, 0, none⟩ (.int .u8 (x / 16777216 % 256))).heap.size) := by unfold Hid; simpa [World.setCell] using hbs
      clear hst hown
      generalize (halfB 4 3 x).getD 0 0 = oldx at *
      go_wp2_with fail
      go_roundw
      case rel => exact ⟨4, by omega, rfl, HST.out, hk3, hps3.out⟩
      case measure => simp [intOf]
    · have HO : Hid (wr.ownsRow B 5 1 (.slice (some ⟨B, 0, none⟩) 4 4) 4 ((bytesN 4 x).map (Value.int .u8))) := hown
      clear hown
      go_wp2_with fail
      go_ret
      exact ⟨_, rfl, by rw [hB]; exact HO.out, hkp⟩
theorem rbytes_calls (n : Nat) (x : Int) (h1 : 1 ≤ n) (h4 : n ≤ 4) (g1 : -9223372036854775808 ≤ x) (g2 : x ≤ 9223372036854775807) (w : World) :
    Calls Try.prog 120 #[.int .i64 n, .int .i64 x] w fun e w' => ∃ v, e = .returned v ∧ w'.ownsRow w.heap.size 5 1 v n ((bytesN n x).map (Value.int .u8)) ∧ Kp [] w w' := by
  have h : n = 1 ∨ n = 2 ∨ n = 3 ∨ n = 4 := by omega
  rcases h with rfl | rfl | rfl | rfl
  · exact rbytes_1 x g1 g2 w
  · exact rbytes_2 x g1 g2 w
  · exact rbytes_3 x g1 g2 w
  · exact rbytes_4 x g1 g2 w
end Go.Proofs.Ytodjohoonbkklaa

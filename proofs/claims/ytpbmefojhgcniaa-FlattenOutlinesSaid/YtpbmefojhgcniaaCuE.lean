/- curve: the weights. (Written by wip/curve/gencue.py.) -/
import Derived.Test.YtpbmefojhgcniaaCuD
import Derived.OwnWalk
namespace Go.Proofs.Ytpbmefojhgcniaa
open Go.RowKit
set_option linter.unusedVariables false
set_option linter.unusedSimpArgs false
theorem infoIntC : (Try.prog.info? 3).map (fun i => (i.zero, i.size, i.bytes)) = some (some (.int .i64 0), 1, 8) := by kernel_rfl
theorem map_getD {l : List Int} {t : Nat} (h : t < l.length) : (l.map (Value.int .i64))[t]? = some (.int .i64 (l.getD t 0)) := by
  rw [List.getElem?_map, List.getD_eq_getElem?_getD, List.getElem?_eq_getElem h]; rfl
theorem madeInts (n : Nat) : (madeCells #[Value.int .i64 0] n).toList = (List.replicate n (0 : Int)).map (Value.int .i64) := by
  apply List.ext_getElem?
  intro i
  simp only [madeCells, Array.toList_map, Array.toList_range, List.getElem?_map, List.getElem?_range, List.map_replicate]
  by_cases h : i < n
  · simp [h, Nat.mod_one]
  · simp [h]
def powN (n : Int) : Nat → Int
  | 0 => 1
  | s + 1 => powN n s * n
theorem powN_bounds {n : Int} (h0 : 1 ≤ n) (h1 : n ≤ 512) (s : Nat) (hs : s ≤ 2) : 1 ≤ powN n s ∧ powN n s ≤ 262144 := by
  have e1 := mul_upTo (show (0 : Int) ≤ n by omega) h1 (show (0 : Int) ≤ n by omega) h1
  have e2 : 1 ≤ n * n := Int.mul_pos (show 0 < n by omega) (show 0 < n by omega)
  match s, hs with
  | 0, _ => simp [powN]
  | 1, _ => simp only [powN, Int.one_mul]; omega
  | 2, _ => simp only [powN, Int.one_mul]; omega
theorem powN_1 (n : Int) : powN n 1 = n := by simp [powN]
theorem powN_2 (n : Int) : powN n 2 = n * n := by simp [powN]
theorem powN_3 (n : Int) : powN n 3 = n * n * n := by simp [powN]
theorem wts_bound {i k : Int} (hi : 0 ≤ i ∧ i ≤ 512) (hk : 0 ≤ k ∧ k ≤ 512) (s : Nat) (hs : s ≤ 2) : upTo 1048576 (wts i k s) := fun x hx => by
  have h := wts_upTo hi hk s x hx
  have : (1024 ^ s : Nat) ≤ 1048576 := by
    match s, hs with
    | 0, _ => decide
    | 1, _ => decide
    | 2, _ => decide
  omega
set_option maxRecDepth 100000 in
set_option maxHeartbeats 4000000 in
theorem weights_calls (deg : Nat) (dg : Int) (hdg : dg = deg) (hdeg : deg ≤ 3) (i n : Int) (hi : 0 ≤ i) (hin : i ≤ n) (hn : 1 ≤ n) (hn2 : n ≤ 512) (w : World) :
    Calls Try.prog 90 #[.int .i64 dg, .int .i64 i, .int .i64 n] w fun e w' => ∃ v, e = .returned (.tuple #[v, .int .i64 (powN n deg)]) ∧ IsInts .i64 w' v (wts i (n - i) deg) ∧ Kp [] w w' := by
  subst hdg
  obtain ⟨i0, hi0, hz0, hz1, hz2⟩ := info_parts infoIntC
  have HOK : Hid (0 ≤ i ∧ i ≤ 512) := ⟨hi, by omega⟩
  have HOJ : Hid (0 ≤ n - i ∧ n - i ≤ 512) := ⟨by omega, by omega⟩
  have HST : Hid (IsInts .i64 (w.alloc (.cells #[.int .i64 1] 3)) (.slice (some ⟨w.heap.size, 0, none⟩) 1 1) (wts i (n - i) 0)) := IsInts.owned (own_lit w w.heap.size w.heap.size 3 1 1 #[.int .i64 1] rfl (Nat.le_refl _) (by decide) rfl)
  have hw9 : IntKind.i64.wrap (n - i) = n - i := wrapI _ (by omega) (by omega)
  go_enter Try.func90, Try.ntmps90
  go_wp2_with fail
  go_loopw [8, 9, 10, 11, 12, 15] (fun v8 v9 _ _ _ h wr => ∃ s : Nat, s ≤ deg ∧ h = .int .i64 s ∧ v9 = .int .i64 (powN n s) ∧ IsInts .i64 wr v8 (wts i (n - i) s) ∧ Kp [] w wr) (fun _ _ _ _ _ h _ => deg - (intOf h).toNat)
  case atStart => exact ⟨0, by omega, rfl, rfl, HST.out, by (repeat (first | exact Kp.refl _ _ | assumption | refine Kp.drew ?_ | refine Kp.drewN ?_ _ | refine Kp.alloc ?_ _ | (refine Kp.setCell ?_ (by first | (left; simp; done) | (right; simp; try omega)) _) | (refine Kp.trans' ?_ (by assumption) (by simp; try omega))))⟩
  case round =>
    obtain ⟨s, hs, rfl, rfl, hw, hk⟩ := hrel
    by_cases hlt : s < deg
    · have hsI : (s : Int) < deg := by omega
      have hsl := wts_length i (n - i) s
      have hup := wts_bound HOK.out HOJ.out s (by omega)
      obtain ⟨p1, p2⟩ := powN_bounds hn hn2 s (by omega)
      have p3 := mul_upTo (show 0 ≤ powN n s by omega) p2 (show (0 : Int) ≤ n by omega) hn2
      have hwp := wrapI (powN n s * n) (by omega) (by omega)
      have HP : Hid (powN n (s + 1) = powN n s * n) := rfl
      have HW : Hid (wts i (n - i) (s + 1) = halfW i (n - i) (wts i (n - i) s) (wts i (n - i) s).length) := rfl
      have HUP : Hid _ := hup
      rcases hw with ⟨⟨ad, rfl⟩, h0⟩ | ⟨g, off, c, rfl, h1, h2, h3⟩
      · rw [h0] at hsl; simp at hsl
      have HC : Hid _ := h3
      have hgl : g < wr.heap.size := World.block_lt_of_cell? wr _ (h3 0 (by omega))
      have hWl : 1 ≤ (wts i (n - i) s).length ∧ (wts i (n - i) s).length ≤ 4 := by omega
      clear h3 hup p3 hsl
      generalize wts i (n - i) s = W at *
      obtain ⟨hWl1, hWl2⟩ := hWl
      generalize powN n s = pw at *
      obtain ⟨B, hB⟩ : ∃ B, B = wr.heap.size := ⟨_, rfl⟩
      go_wp2_with (at_make; refine wpList_make_full _ rfl _ _ 81 rfl wr.heap.size 3 i0 (.int .i64 0) 1 Try.underlying81 hi0 hz0 hz1 .i64 .i64 _ _ (W.length + 1) rfl rfl ?b0 ?b1 ?b2 ?b3 ?b4 ?hK)
      case b0 => omega
      case b1 => omega
      case b2 => rw [hz2]; omega
      case b3 => unfold maxLen; omega
      case b4 => exact Nat.le_refl _
      case hK =>
      intro w1 hown hgr
      rw [madeInts, ← halfW_zero i (n - i) W] at hown
      have hk1 : Kp [] wr w1 := Kp.grown (Kp.refl _ _) hgr (fun k hk => nomatch hk)
      have HOW : Hid (w1.ownsRow wr.heap.size 3 1 (.slice (some ⟨wr.heap.size, 0, none⟩) (W.length + 1) (W.length + 1)) (W.length + 1) ((halfW i (n - i) W 0).map (Value.int .i64))) := hown
      have hBs : wr.heap.size < w1.heap.size := (hown.lt wr.heap.size rfl).2
      clear hown hgr
      rw [← hB] at hBs
      rw [← hB] at HOW
      rw [← hB]
      go_wp2_with fail
      generalize wr = wo at *
      have hBle : wo.heap.size ≤ B := by omega
      clear hB
      go_loopw [11, 12, 23] (fun _ _ h wq => ∃ j : Nat, j ≤ W.length ∧ h = .int .i64 j ∧ wq.ownsRow B 3 1 (.slice (some ⟨B, 0, none⟩) (W.length + 1) (W.length + 1)) (W.length + 1) ((halfW i (n - i) W j).map (Value.int .i64)) ∧ Kp [] wo wq ∧ B < wq.heap.size) (fun _ _ h _ => W.length - (intOf h).toNat)
      case atStart => exact ⟨0, by omega, rfl, HOW.out, hk1, hBs⟩
      case round =>
        obtain ⟨j, hj, rfl, hown, hkq, hbq⟩ := hrel
        clear hk1 hBs HOW
        by_cases hlj : j < W.length
        · have hjI : (j : Int) < W.length := by omega
          have hcx := hkq.cell (HC.out j hlj) (by simp)
          obtain ⟨x0, x1⟩ := upTo_getD HUP.out (by decide) j
          have hhu := halfW_upTo HUP.out (by decide) HOK.out HOJ.out j
          obtain ⟨y0, y1⟩ := upTo_getD hhu (by decide) j
          have m1 := mul_upTo x0 x1 HOJ.out.1 HOJ.out.2
          have m2 := mul_upTo x0 x1 HOK.out.1 HOK.out.2
          have hfz := hown.frozenAt j
          have hfz2 := hown.frozenAt (j + 1)
          have hold := hown.cells (g := B) rfl j (.int .i64 ((halfW i (n - i) W j).getD j 0)) (map_getD (by rw [halfW_length]; omega))
          rw [add_lit, Nat.zero_add] at hold
          have hst := hown.stored j (.int .i64 ((halfW i (n - i) W j).getD j 0 + W.getD j 0 * (n - i)))
          have hown1 := hst.1
          rw [← List.map_set] at hown1
          have hset := halfW_set i (n - i) W j hlj
          have hl1 : ((halfW i (n - i) W j).set j ((halfW i (n - i) W j).getD j 0 + W.getD j 0 * (n - i))).length = W.length + 1 := by rw [List.length_set, halfW_length]
          have hold1 := hown1.cells (g := B) rfl (j + 1) (.int .i64 (((halfW i (n - i) W j).set j ((halfW i (n - i) W j).getD j 0 + W.getD j 0 * (n - i))).getD (j + 1) 0)) (map_getD (by rw [List.length_set, halfW_length]; omega))
          rw [add_lit, Nat.zero_add] at hold1
          have z01 : ((halfW i (n - i) W j).set j ((halfW i (n - i) W j).getD j 0 + W.getD j 0 * (n - i))).getD (j + 1) 0 = 0 := by
            rw [List.getD_eq_getElem?_getD, List.getElem?_set_ne (by omega), ← List.getD_eq_getElem?_getD, halfW_getD _ _ _ _ _ (by omega), if_neg (by omega), if_neg (by omega)]; rfl
          have hst2 := hown1.stored (j + 1) (.int .i64 (((halfW i (n - i) W j).set j ((halfW i (n - i) W j).getD j 0 + W.getD j 0 * (n - i))).getD (j + 1) 0 + W.getD j 0 * i))
          have hown2 := hst2.1
          rw [← List.map_set, hset] at hown2
          have HO2 : Hid _ := hown2
          rw [z01] at hold1 HO2
          have hfz1 := hown1.frozenAt (j + 1)
          have hsz2 : B < ((wr.setCell ⟨B, j, none⟩ (.int .i64 ((halfW i (n - i) W j).getD j 0 + W.getD j 0 * (n - i)))).setCell ⟨B, j + 1, none⟩ (.int .i64 (0 + W.getD j 0 * i))).heap.size := by simpa [World.setCell] using hbq
          have hk2 : Kp [] wo ((wr.setCell ⟨B, j, none⟩ (.int .i64 ((halfW i (n - i) W j).getD j 0 + W.getD j 0 * (n - i)))).setCell ⟨B, j + 1, none⟩ (.int .i64 (0 + W.getD j 0 * i))) := (hkq.setCell (.inr (by simp; omega)) _).setCell (.inr (by simp; omega)) _
          have HK2 : Hid _ := hk2
          have HZ2 : Hid _ := hsz2
          have r1 := wrapI (W.getD j 0 * (n - i)) (by omega) (by omega)
          have r2 := wrapI ((halfW i (n - i) W j).getD j 0 + W.getD j 0 * (n - i)) (by omega) (by omega)
          have r3 := wrapI (W.getD j 0 * i) (by omega) (by omega)
          rw [Int.zero_add] at HO2 HK2 HZ2
          clear hst hst2 hown hown1 hown2 hk2 hsz2 hset hl1 z01 hhu hbq hkq
          generalize (halfW i (n - i) W j).getD j 0 = o1 at *
          generalize W.getD j 0 = x at *
          go_wp2_with fail
          go_roundw
          case rel => first | exact ⟨j + 1, by omega, int_eq' (by omega), HO2.out, HK2.out, HZ2.out⟩ | ((repeat apply Exists.intro); exact ⟨⟨j + 1, by omega, int_eq' (by omega), HO2.out, HK2.out, HZ2.out⟩, rfl⟩)
          case measure => simp [intOf]; omega
        · obtain rfl : j = W.length := by omega
          have hnI : IsInts .i64 wr (.slice (some ⟨B, 0, none⟩) (W.length + 1) (W.length + 1)) (halfW i (n - i) W W.length) := IsInts.owned hown
          have HNI : Hid _ := hnI
          have hkw := hk.trans hkq
          clear hnI hown
          go_wp2_with fail
          go_roundw
          case rel => first | exact ⟨s + 1, by omega, int_eq' (by omega), int_eq' HP.out.symm, by rw [HW.out]; exact HNI.out, hkw⟩ | ((repeat apply Exists.intro); exact ⟨⟨s + 1, by omega, int_eq' (by omega), int_eq' HP.out.symm, by rw [HW.out]; exact HNI.out, hkw⟩, rfl⟩)
          case measure => simp [intOf]; omega
    · obtain rfl : s = deg := by omega
      have HI : Hid _ := hw
      clear hw
      go_wp2_with fail
      go_ret2
      exact ⟨_, rfl, HI.out, hk⟩
end Go.Proofs.Ytpbmefojhgcniaa

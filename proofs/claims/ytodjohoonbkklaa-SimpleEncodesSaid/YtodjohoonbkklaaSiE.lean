/- simple: contours. -/
import Derived.Test.YtodjohoonbkklaaSiB
import Derived.Test.YtodjohoonbkklaaOmD
namespace Go.Proofs.Ytodjohoonbkklaa
open Go.RowKit
set_option linter.unusedVariables false
set_option linter.unusedSimpArgs false
/-- A point, of its flag and its two numbers. -/
def pnF (f x y : Int) : Pn := ⟨x * 65536, y * 65536, if bits .and .i64 f 1 = 0 then 2 else 1⟩
def ptsOf (fl xs ys : List Int) : List Pn := (List.range fl.length).map fun i => pnF (fl.getD i 0) (xs.getD i 0) (ys.getD i 0)
/-- Where contour j begins. -/
def fromE (es : List Int) : Nat → Nat
  | 0 => 0
  | j + 1 => (es.getD j 0).toNat + 1
/-- The contours, by the numbers of their last points. -/
def contsE (pts : List Pn) (es : List Int) : List (List Pn) := (List.range es.length).map fun j => (pts.drop (fromE es j)).take (fromE es (j + 1) - fromE es j)
/-- The numbers rise, and there are so many points. -/
def RiseE (es : List Int) (n : Nat) : Prop := ∀ j, j < es.length → 0 ≤ es.getD j 0 ∧ fromE es j ≤ (es.getD j 0).toNat ∧ (es.getD j 0).toNat < n
theorem ptsOf_len (fl xs ys : List Int) : (ptsOf fl xs ys).length = fl.length := by simp [ptsOf]
theorem ptsOf_at (fl xs ys : List Int) (i : Nat) (h : i < fl.length) : (ptsOf fl xs ys).getD i pn0 = pnF (fl.getD i 0) (xs.getD i 0) (ys.getD i 0) := by
  unfold ptsOf
  rw [List.getD_eq_getElem?_getD, List.getElem?_map, List.getElem?_range h]; rfl
theorem contsE_len (pts : List Pn) (es : List Int) : (contsE pts es).length = es.length := by simp [contsE]
theorem contsE_take (pts : List Pn) (es : List Int) (j : Nat) (h : j < es.length) : (contsE pts es).take (j + 1) = (contsE pts es).take j ++ [(pts.drop (fromE es j)).take (fromE es (j + 1) - fromE es j)] := by
  rw [List.take_succ_eq_append_getElem (by rw [contsE_len]; exact h)]
  simp [contsE]
theorem take_more (pts : List Pn) (a m : Nat) (h : a + m < pts.length) : (pts.drop a).take (m + 1) = (pts.drop a).take m ++ [pts.getD (a + m) pn0] := by
  rw [List.take_succ_eq_append_getElem (by rw [List.length_drop]; omega), List.getElem_drop, List.getD_eq_getElem?_getD, List.getElem?_eq_getElem h]; rfl
/-- A number of a row that is read. -/
theorem IsInts.at_ {w : World} {v : Value} {zs : List Int} (h : IsInts .i64 w v zs) {i : Nat} (hi : i < zs.length) : ∃ g off c, v = .slice (some ⟨g, off, none⟩) zs.length c ∧ zs.length ≤ c ∧ c ≤ maxLen ∧ w.cell? ⟨g, off + i, none⟩ = some (.int .i64 (zs.getD i 0)) := by
  rcases h with ⟨⟨a, rfl⟩, rfl⟩ | ⟨g, off, c, rfl, h1, h2, h3⟩
  · simp at hi
  · exact ⟨g, off, c, rfl, h1, h2, h3 i hi⟩
theorem IsInts.kp0 {w w' : World} {k : IntKind} {v : Value} {zs : List Int} (h : IsInts k w v zs) (hk : Kp [] w w') : IsInts k w' v zs := h.kp hk (by simp)
theorem IsInts.form {w : World} {k : IntKind} {v : Value} {zs : List Int} (h : IsInts k w v zs) : ∃ p c, v = .slice p zs.length c := by
  rcases h with ⟨⟨a, rfl⟩, rfl⟩ | ⟨g, off, c, rfl, _⟩
  · exact ⟨_, 0, rfl⟩
  · exact ⟨_, c, rfl⟩
theorem box_cells {w W : World} {B : Nat} {x y z : Int} {t : TypeId} (hk : Kp [] w W) (h : w.heap[B]? = some (.cells #[.int .i64 x, .int .i64 y, .int .i64 z] t)) :
    (W.cell? ⟨B, 0, none⟩ = some (.int .i64 x) ∧ W.cell? ⟨B, 1, none⟩ = some (.int .i64 y) ∧ W.cell? ⟨B, 2, none⟩ = some (.int .i64 z)) ∧ W.frozen? ⟨B, 0, none⟩ = false ∧ W.frozen? ⟨B, 1, none⟩ = false ∧ W.frozen? ⟨B, 2, none⟩ = false := by
  have h2 := hk.heap h (by simp)
  exact ⟨⟨by rw [cell_of_row W B 0 _ _ (0, 0) h2]; rfl, by rw [cell_of_row W B 1 _ _ (0, 0) h2]; rfl, by rw [cell_of_row W B 2 _ _ (0, 0) h2]; rfl⟩, frozen_of_row W B 0 _ _ h2, frozen_of_row W B 1 _ _ h2, frozen_of_row W B 2 _ _ h2⟩
set_option maxRecDepth 100000 in
set_option maxHeartbeats 4000000 in
theorem contours_calls {w : World} (ve vf vx vy : Value) (es fl xs ys : List Int) (he : IsInts .i64 w ve es) (hf : IsInts .i64 w vf fl) (hx : IsInts .i64 w vx xs) (hy : IsInts .i64 w vy ys)
    (hlx : xs.length = fl.length) (hly : ys.length = fl.length) (hn : fl.length ≤ 4096) (hes : es.length ≤ 256) (hr : RiseE es fl.length) (hbx : ∀ c ∈ xs, -32768 ≤ c ∧ c ≤ 32767) (hby : ∀ c ∈ ys, -32768 ≤ c ∧ c ≤ 32767) :
    Calls Try.prog 98 #[ve, vf, vx, vy] w fun e w' => ∃ v', e = .returned v' ∧ WOut w' w.heap.size v' (contsE (ptsOf fl xs ys) es) ∧ Kp [] w w' := by
  obtain ⟨i0, hi, hzz0, hzz1, hzz2⟩ := info_parts infoPs
  have HE := Lib.hid (fun W (hW : Kp [] w W) => he.kp0 hW)
  have HF := Lib.hid (fun W (hW : Kp [] w W) => hf.kp0 hW)
  have HX := Lib.hid (fun W (hW : Kp [] w W) => hx.kp0 hW)
  have HY := Lib.hid (fun W (hW : Kp [] w W) => hy.kp0 hW)
  obtain ⟨pe, ce, rfl⟩ := he.form
  obtain ⟨pf, cf, rfl⟩ := hf.form
  obtain ⟨px, cx, rfl⟩ := hx.form
  obtain ⟨py, cy, rfl⟩ := hy.form
  have HR := Lib.hid hr
  have HBX := Lib.hid hbx
  have HBY := Lib.hid hby
  have HPT := Lib.hid (fun i h => ptsOf_at fl xs ys i h)
  have hpl := ptsOf_len fl xs ys
  generalize ptsOf fl xs ys = P at *
  obtain ⟨N, hN⟩ : ∃ N, fl.length = N := ⟨_, rfl⟩
  obtain ⟨K, hK⟩ : ∃ K, es.length = K := ⟨_, rfl⟩
  have HLX : Hid (xs.length = N) := by show _ = _; omega
  have HLY : Hid (ys.length = N) := by show _ = _; omega
  have HLF := Lib.hid hN
  have HLE := Lib.hid hK
  have HPL : Hid (P.length = N) := by show _ = _; omega
  rw [HLX.out] at HX ⊢
  rw [HLY.out] at HY ⊢
  rw [hN] at HF HR HPT hn ⊢
  rw [hK] at HE hes ⊢
  clear he hf hx hy hlx hly hr hbx hby hpl hN hK
  go_enter Try.func98, Try.ntmps98
  go_wp2_with fail
  go_loopw [9, 10, 12, 13, 14, 15, 18] (fun l a _ _ _ _ i wr => ∃ (j : Nat) (l2 : Value), j ≤ K ∧ i = .int .i64 j ∧ a = .int .i64 (fromE es j : Nat) ∧ l2 = l ∧ Hid (WOut wr w.heap.size l2 ((contsE P es).take j) ∧ Kp [] w wr)) (fun _ _ _ _ _ _ i _ => K - (intOf i).toNat)
  case atStart => exact ⟨0, _, by omega, rfl, rfl, rfl, WOut.nil _ _, Kp.refl _ _⟩
  case round =>
    obtain ⟨j, l, hj, rfl, rfl, rfl, HJ⟩ := hrel
    by_cases hlt : j < K
    · have hje : j < es.length := by rw [HLE.out]; exact hlt
      obtain ⟨g1, o1, c1, e1, _, _, hce⟩ := (HE.out wr HJ.out.2).at_ hje
      rw [HLE.out] at e1
      cases e1
      obtain ⟨r0, r1, r2⟩ := HR.out j hje
      have HTK := Lib.hid (contsE_take P es j hje)
      have HTL : Hid (((contsE P es).take j).length = j) := by show _ = _; rw [List.length_take, contsE_len]; omega
      have hnx : fromE es (j + 1) = (es.getD j 0).toNat + 1 := rfl
      obtain ⟨E, hE⟩ : ∃ E : Nat, es.getD j 0 = E := ⟨(es.getD j 0).toNat, by omega⟩
      rw [hE] at r1 r2 hnx hce
      rw [Int.toNat_natCast] at r1 r2 hnx
      have HNX := Lib.hid hnx
      rw [hnx] at HTK
      obtain ⟨a, ha⟩ : ∃ a, fromE es j = a := ⟨_, rfl⟩
      rw [ha] at r1 HTK ⊢
      obtain ⟨vs, HW⟩ : ∃ vs, Hid (WVs wr w.heap.size l vs ((contsE P es).take j)) := by obtain ⟨vs, h⟩ := HJ.out.1; exact ⟨vs, h⟩
      have hro := HW.out.1
      rw [HTL.out] at hro
      obtain ⟨pl, cl, hl⟩ := slice_own hro
      subst hl
      have HRO := Lib.hid hro
      have HOB := Lib.hid (fun b (hb : (Value.slice pl j cl).ownBlock = some b) => (hro.lt b hb).2)
      have HKW : Hid (Kp [] w wr) := HJ.out.2
      have HRI : Hid (E < N) := r2
      obtain ⟨B0, hB0⟩ : ∃ B0, wr.heap.size = B0 := ⟨_, rfl⟩
      obtain ⟨WA, hWA⟩ : ∃ WA, WA = wr := ⟨_, rfl⟩
      have HWA := Lib.hid hWA
      have HB0 : Hid (WA.heap.size = B0) := by rw [hWA]; exact hB0
      have HWK : Hid (∀ W, Kp [] WA W → WVs W w.heap.size (.slice pl j cl) vs ((contsE P es).take j) ∧ W.ownsRow w.heap.size 96 1 (.slice pl j cl) j vs ∧ Kp [] w W ∧ w.heap.size ≤ B0 ∧ B0 ≤ W.heap.size) := fun W hW => by
        rw [hWA] at hW
        exact ⟨HW.out.kp0 hW, hW.row HRO.out (by simp), HKW.out.trans hW, by rw [← hB0]; exact HKW.out.size, by rw [← hB0]; exact hW.size⟩
      clear hro hje HJ r0 hnx hE ha HW HRO HKW hB0 hWA
      go_wp2_with fail
      go_loopw [13, 14, 15] (fun cv i _ wr2 => ∃ (m : Nat) (c2 : Value), a + m ≤ E + 1 ∧ i = .int .i64 ((a + m : Nat) : Int) ∧ c2 = cv ∧ Hid (wr2.ownsRow B0 61 3 c2 m (psCells ((P.drop a).take m)) ∧ Kp [] WA wr2)) (fun _ i _ _ => E + 1 - (intOf i).toNat)
      case atStart => exact ⟨0, _, by omega, rfl, rfl, by show _ ∧ _; rw [List.take_zero]; rw [HWA.out]; exact ⟨World.ownsRow_nil _ _ _ _, Kp.refl _ _⟩⟩
      case round =>
        obtain ⟨m, cv, hm, rfl, rfl, HI⟩ := hrel
        obtain ⟨pc, cc, hcv⟩ := slice_own HI.out.1
        subst hcv
        have HKI := Lib.hid HI.out.2
        have HRI2 := Lib.hid HI.out.1
        have hsz2 : w.heap.size ≤ wr.heap.size := by have := HWK.out _ HKI.out; omega
        obtain ⟨_, _, hkw, hs1, hs2⟩ := HWK.out _ HKI.out
        clear HI
        by_cases hme : a + m < E + 1
        · have hmN : a + m < N := by omega
          obtain ⟨gf, of, qf, ef, _, _, hcf⟩ := (HF.out wr hkw).at_ (i := a + m) (by rw [HLF.out]; exact hmN)
          obtain ⟨gx, ox, qx, ex, _, _, hcx⟩ := (HX.out wr hkw).at_ (i := a + m) (by rw [HLX.out]; exact hmN)
          obtain ⟨gy, oy, qy, ey, _, _, hcy⟩ := (HY.out wr hkw).at_ (i := a + m) (by rw [HLY.out]; exact hmN)
          rw [HLF.out] at ef
          rw [HLX.out] at ex
          rw [HLY.out] at ey
          cases ef; cases ex; cases ey
          have hpt := HPT.out (a + m) hmN
          have hxm : xs.getD (a + m) 0 ∈ xs := by rw [List.getD_eq_getElem?_getD, List.getElem?_eq_getElem (by rw [HLX.out]; exact hmN)]; exact List.getElem_mem _
          have hym : ys.getD (a + m) 0 ∈ ys := by rw [List.getD_eq_getElem?_getD, List.getElem?_eq_getElem (by rw [HLY.out]; exact hmN)]; exact List.getElem_mem _
          obtain ⟨bx0, bx1⟩ := HBX.out _ hxm
          obtain ⟨by0, by1⟩ := HBY.out _ hym
          have HTM : Hid ((P.drop a).take (m + 1) = (P.drop a).take m ++ [pnF (fl.getD (a + m) 0) (xs.getD (a + m) 0) (ys.getD (a + m) 0)]) := by
            show _ = _
            rw [← hpt]; exact take_more P a m (by rw [HPL.out]; exact hmN)
          have HTLM : Hid (((P.drop a).take m).length = m) := by show _ = _; rw [List.length_take, List.length_drop, HPL.out]; omega
          clear hxm hym hpt
          generalize fl.getD (a + m) 0 = f at *
          generalize xs.getD (a + m) 0 = x at *
          generalize ys.getD (a + m) 0 = y at *
          generalize (P.drop a).take m = D at *
          have hkw2 := Lib.hid hkw
          obtain ⟨I, hI⟩ : ∃ I, a + m = I := ⟨_, rfl⟩
          rw [hI] at hcf hcx hcy hme hmN ⊢
          have HII := Lib.hid hI
          have HWX : Hid (IntKind.i64.wrap (x * 65536) = x * 65536) := by show _ = _; rw [IntKind.wrap_i64]; omega
          have HWY : Hid (IntKind.i64.wrap (y * 65536) = y * 65536) := by show _ = _; rw [IntKind.wrap_i64]; omega
          clear hI hkw
          go_wp2_with fail
          go_region_held3 (fun w' => w'.cell? ⟨gx, ox + I, none⟩ = some (.int .i64 x) ∧ w'.cell? ⟨gy, oy + I, none⟩ = some (.int .i64 y)) (first | go_keep | exact ⟨hcx, hcy⟩) (fail)
          rw [HWX.out, HWY.out]
          have HKP : Hid (Kp [] wr (wr.alloc (.cells #[.int .i64 (x * 65536), .int .i64 (y * 65536), .int .i64 2] 61)).drew) := ((Kp.refl _ _).alloc _).drew
          have hA : (wr.alloc (.cells #[.int .i64 (x * 65536), .int .i64 (y * 65536), .int .i64 2] 61)).drew.heap[wr.heap.size]? = some (.cells #[.int .i64 (x * 65536), .int .i64 (y * 65536), .int .i64 2] 61) := heap_alloc_new wr _
          have HA := Lib.hid hA
          have hcf2 := HKP.out.cell hcf (by simp)
          have hsW : wr.heap.size ≤ (wr.alloc (.cells #[.int .i64 (x * 65536), .int .i64 (y * 65536), .int .i64 2] 61)).drew.heap.size := HKP.out.size
          clear hcf hcx hcy hA HWX HWY
          generalize (wr.alloc (.cells #[.int .i64 (x * 65536), .int .i64 (y * 65536), .int .i64 2] 61)).drew = W2 at *
          by_cases hb : bits .and .i64 f 1 = 0
          · have hb1 : (bits .and .i64 f 1 != 0) = false := by simp [hb]
            have HPF : Hid ((P.drop a).take (m + 1) = D ++ [⟨x * 65536, y * 65536, 2⟩]) := by show _ = _; rw [HTM.out]; unfold pnF; rw [if_pos hb]
            obtain ⟨⟨b0, b1, b2⟩, f0, f1, f2⟩ := box_cells (Kp.refl [] W2) HA.out
            clear hb HA HTM
            have HKQ : Hid (Kp [] wr (W2.alloc (.cells #[.int .i64 (x * 65536), .int .i64 (y * 65536), .int .i64 2] 61))) := HKP.out.alloc _
            go_wp2_with (at_builtin; go_loud (refine wpList_pushP rfl _ _ rfl B0 (.slice pc m cc) D m HTLM.out (by rfl) ?hown W2.heap.size 1 ⟨x * 65536, y * 65536, 2⟩ rfl ?hc ?hl ?hbase ?hk))
            case hown => exact Kp.row (S := []) HKQ.out HRI2.out (by simp)
            case hc => exact lit3g (w := W2) (Kp.refl _ _) rfl
            case hl => omega
            case hbase => exact Nat.le_trans hs2 HKQ.out.size
            case hk =>
            intro v6 w6 hown6 hgr6 hkb6
            have HF6 : Hid (w6.ownsRow B0 61 3 v6 (m + 1) (psCells ((P.drop a).take (m + 1))) ∧ Kp [] WA w6) := by
              show _ ∧ _
              rw [HPF.out]; exact ⟨hown6, hgr6 _ (Nat.le_of_eq HB0.out) (HKI.out.trans HKQ.out)⟩
            have HI6 : Hid (a + (m + 1) = I + 1) := by show _ = _; have := HII.out; omega
            clear hown6 hgr6 hkb6 HKQ HRI2 b0 b1 b2 f0 f1 f2 hcf2
            go_wp2_with fail
            go_roundw
            case rel => first | exact ⟨m + 1, v6, by have := HII.out; omega, by rw [HI6.out]; exact int_eq' (by omega), rfl, HF6.out⟩ | ((repeat apply Exists.intro); exact ⟨⟨m + 1, v6, by have := HII.out; omega, by rw [HI6.out]; exact int_eq' (by omega), rfl, HF6.out⟩, rfl⟩)
            case measure => have := HII.out; simp [intOf]; omega
          · have hb1 : (bits .and .i64 f 1 != 0) = true := by simp [hb]
            have HPF : Hid ((P.drop a).take (m + 1) = D ++ [⟨x * 65536, y * 65536, 1⟩]) := by show _ = _; rw [HTM.out]; unfold pnF; rw [if_neg hb]
            obtain ⟨⟨b0, b1, b2⟩, f0, f1, f2⟩ := box_cells (Kp.refl [] W2) HA.out
            clear hb HA HTM
            have HKQ : Hid (Kp [] wr ((W2.setCell ⟨wr.heap.size, 2, none⟩ (.int .i64 1)).alloc (.cells #[.int .i64 (x * 65536), .int .i64 (y * 65536), .int .i64 1] 61))) := (HKP.out.setCell (.inr (Nat.le_refl _)) _).alloc _
            go_wp2_with (at_builtin; go_loud (refine wpList_pushP rfl _ _ rfl B0 (.slice pc m cc) D m HTLM.out (by rfl) ?hown W2.heap.size 1 ⟨x * 65536, y * 65536, 1⟩ rfl ?hc ?hl ?hbase ?hk))
            case hown => exact Kp.row (S := []) HKQ.out HRI2.out (by simp)
            case hc => exact lit3g (w := (W2.setCell ⟨wr.heap.size, 2, none⟩ (.int .i64 1))) (Kp.refl _ _) (by simp [World.setCell])
            case hl => omega
            case hbase => exact Nat.le_trans hs2 HKQ.out.size
            case hk =>
            intro v6 w6 hown6 hgr6 hkb6
            have HF6 : Hid (w6.ownsRow B0 61 3 v6 (m + 1) (psCells ((P.drop a).take (m + 1))) ∧ Kp [] WA w6) := by
              show _ ∧ _
              rw [HPF.out]; exact ⟨hown6, hgr6 _ (Nat.le_of_eq HB0.out) (HKI.out.trans HKQ.out)⟩
            have HI6 : Hid (a + (m + 1) = I + 1) := by show _ = _; have := HII.out; omega
            clear hown6 hgr6 hkb6 HKQ HRI2 b0 b1 b2 f0 f1 f2 hcf2
            go_wp2_with fail
            go_roundw
            case rel => first | exact ⟨m + 1, v6, by have := HII.out; omega, by rw [HI6.out]; exact int_eq' (by omega), rfl, HF6.out⟩ | ((repeat apply Exists.intro); exact ⟨⟨m + 1, v6, by have := HII.out; omega, by rw [HI6.out]; exact int_eq' (by omega), rfl, HF6.out⟩, rfl⟩)
            case measure => have := HII.out; simp [intOf]; omega
        · obtain ⟨M, hM⟩ : ∃ M, E + 1 - a = M := ⟨_, rfl⟩
          obtain rfl : m = M := by omega
          rw [hM] at HTK
          have HAM : Hid (a + m = E + 1) := by show _ = _; omega
          have HDL : Hid (((P.drop a).take m).length = m) := by show _ = _; rw [List.length_take, List.length_drop, HPL.out]; omega
          have HPS : Hid (IsPs wr (.slice pc m cc) ((P.drop a).take m)) := IsPs.owned HDL.out.symm HRI2.out
          have HPB : Hid (∀ b, blockOf (.slice pc m cc) = some b → B0 ≤ b ∧ b < wr.heap.size) := fun b hb => HRI2.out.lt b (blockOf_own hb)
          have HWW := Lib.hid (HWK.out _ HKI.out)
          have HOB2 : Hid (∀ b, (Value.slice pl j cl).ownBlock = some b → b < B0) := fun b hb => by rw [← HB0.out, HWA.out]; exact HOB.out b hb
          have hdec : decide (a + m ≤ E) = false := decide_eq_false (by omega)
          rw [HAM.out] at hdec ⊢
          clear hkw hm hme hM HRI2
          generalize (P.drop a).take m = D at *
          go_wp2_with (at_builtin; go_loud (refine wpList_append_lies _ rfl _ _ 42 rfl w.heap.size 96 i0 (.slice none 0 0) 1 24 Try.underlying42 hi hzz0 hzz1 hzz2 rfl (by decide) (.slice pl j cl) j vs rfl ?hown ⟨wr.heap.size, 0, none⟩ 1 1 [.slice pc m cc] rfl rfl ?hnews ?hone (by decide) ?hm ?hb1 ?hb2 (wr.heap.size + 1) ?hH ?hk))
          case hown => exact Kp.row (S := []) ((Kp.refl _ _).alloc _) HWW.out.2.1 (by simp)
          case hnews => exact World.news_of_block (heap_alloc_new wr _)
          case hone => intro u hu; simp at hu; subst hu; rfl
          case hm => unfold maxLen; omega
          case hb1 => omega
          case hb2 => simp; omega
          case hH => simp
          case hk =>
          intro g4 c4 w4 hown hgr hat hlt4
          have hka : Kp [] wr (wr.alloc (.cells #[.slice pc m cc] 96)) := (Kp.refl _ _).alloc _
          have HW2 := HWW.out.1.kp0 hka
          have hpush := WVs.push (H := wr.heap.size + 1) HW2 (HPS.out.kp0 hka) (fun b hb => by
            have h9 := HPB.out b hb
            exact ⟨fun e => by have := HOB2.out b e; omega, by simp; omega, by omega⟩) (by rw [HTL.out]; exact hown) hgr hat (by simp)
          rw [HTL.out, ← HTK.out] at hpush
          have HPU : Hid (WOut w4 w.heap.size (.slice (some ⟨g4, 0, none⟩) (j + 1) c4) ((contsE P es).take (j + 1)) ∧ Kp [] w w4) := ⟨⟨_, hpush⟩, Kp.grown (HWW.out.2.2.1.trans hka) hgr (fun k hk => .inr (own_ge HWW.out.2.1 k hk))⟩
          have HN6 := HNX
          clear hown hgr hat hka HW2 hpush hlt4 HNX
          go_wp2_with fail
          go_roundw
          case rel => first | exact ⟨j + 1, _, by omega, int_eq' (by omega), by rw [HN6.out]; exact int_eq' (by omega), rfl, HPU⟩ | ((repeat apply Exists.intro); exact ⟨⟨j + 1, _, by omega, int_eq' (by omega), by rw [HN6.out]; exact int_eq' (by omega), rfl, HPU⟩, rfl⟩)
          case measure => simp [intOf]; omega
    · obtain rfl : j = K := by omega
      have HW : Hid (WOut wr w.heap.size l (contsE P es)) := by
        have := HJ.out.1
        rw [List.take_of_length_le (by rw [contsE_len, HLE.out]; exact Nat.le_refl _)] at this
        exact this
      have HK : Hid (Kp [] w wr) := HJ.out.2
      clear HJ
      go_wp2_with fail
      go_ret
      exact ⟨_, rfl, HW.out, HK.out⟩
end Go.Proofs.Ytodjohoonbkklaa

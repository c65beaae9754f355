/- simple: steps. (Written by wip/simple/gensid.py.) -/
import Derived.Test.YtodjohoonbkklaaSiC
namespace Go.Proofs.Ytodjohoonbkklaa
open Go.RowKit
set_option linter.unusedVariables false
set_option linter.unusedSimpArgs false
/-- One step, by two bits of a flag; where the reader stands behind it. -/
def stV (zs : List Int) (sh sa f : Int) (s : Rs) : Int × Rs :=
  if bits .and .i64 f sh ≠ 0 then (if bits .and .i64 f sa ≠ 0 then (val zs 1 s, stp zs 1 s) else (- val zs 1 s, stp zs 1 s))
  else if bits .and .i64 f sa = 0 then (s16 (val zs 2 s), stp zs 2 s) else (0, s)
def unitB (x : Int) : Bool := decide (-32768 ≤ x) && decide (x ≤ 32767)
/-- The numbers of all points. -/
def stepsR (zs : List Int) (sh sa : Int) : List Int → Int → Rs → List Int → Option (List Int) × Rs
  | [], _, s, acc => (some acc, s)
  | f :: fs, x, s, acc => if unitB (x + (stV zs sh sa f s).1) = true then stepsR zs sh sa fs (x + (stV zs sh sa f s).1) (stV zs sh sa f s).2 (acc ++ [x + (stV zs sh sa f s).1]) else (none, (stV zs sh sa f s).2)
theorem stV_bounds (zs : List Int) (sh sa f : Int) (s : Rs) (hb : ∀ c ∈ zs, 0 ≤ c ∧ c ≤ 255) : -32768 ≤ (stV zs sh sa f s).1 ∧ (stV zs sh sa f s).1 ≤ 32767 := by
  have h1 := val_bounds zs 1 s hb
  have h2 := val_bounds zs 2 s hb
  have e1 : (256 ^ 1 : Nat) = 256 := by decide
  have e2 : (256 ^ 2 : Nat) = 65536 := by decide
  rw [e1] at h1
  rw [e2] at h2
  have h3 := s16_bounds (val zs 2 s) h2.1 (by omega)
  unfold stV
  split
  · split <;> simp only <;> omega
  · split <;> simp only <;> omega
theorem isunit_calls (x : Int) (w : World) : Calls Try.prog 142 #[.int .i64 x] w fun e w' => e = .returned (.bool (unitB x)) ∧ w = w' := by
  unfold unitB
  by_cases h : -32768 ≤ x
  · have h1 : decide (-32768 ≤ x) = true := decide_eq_true h
    go_enter Try.func142, Try.ntmps142
    go_wp2_with fail
    go_ret
    exact ⟨by simp [h1], rfl⟩
  · have h1 : decide (-32768 ≤ x) = false := decide_eq_false h
    go_enter Try.func142, Try.ntmps142
    go_wp2_with fail
    go_ret
    exact ⟨by simp [h1], rfl⟩
/-- The two bits of a flag, and each of them. -/
theorem bits_case2 (f : Int) (h0 : 0 ≤ f) (h1 : f < 256) :
    (bits .and .i64 f 18 = 18 ∧ bits .and .i64 f 2 ≠ 0 ∧ bits .and .i64 f 16 ≠ 0) ∨ (bits .and .i64 f 18 = 2 ∧ bits .and .i64 f 2 ≠ 0 ∧ bits .and .i64 f 16 = 0) ∨
    (bits .and .i64 f 18 = 16 ∧ bits .and .i64 f 2 = 0 ∧ bits .and .i64 f 16 ≠ 0) ∨ (bits .and .i64 f 18 = 0 ∧ bits .and .i64 f 2 = 0 ∧ bits .and .i64 f 16 = 0) := by
  have key : ∀ n : Fin 256, (bits .and .i64 (n.val : Int) 18 = 18 ∧ bits .and .i64 (n.val : Int) 2 ≠ 0 ∧ bits .and .i64 (n.val : Int) 16 ≠ 0) ∨ (bits .and .i64 (n.val : Int) 18 = 2 ∧ bits .and .i64 (n.val : Int) 2 ≠ 0 ∧ bits .and .i64 (n.val : Int) 16 = 0) ∨
    (bits .and .i64 (n.val : Int) 18 = 16 ∧ bits .and .i64 (n.val : Int) 2 = 0 ∧ bits .and .i64 (n.val : Int) 16 ≠ 0) ∨ (bits .and .i64 (n.val : Int) 18 = 0 ∧ bits .and .i64 (n.val : Int) 2 = 0 ∧ bits .and .i64 (n.val : Int) 16 = 0) := by decide +kernel
  have := key ⟨f.toNat, by omega⟩
  simpa [Int.toNat_of_nonneg h0] using this
set_option maxRecDepth 100000 in
theorem steps1_2 {w : World} {r : Nat} {v : Value} {zs : List Int} {s : Rs} (B1 B2 B3 : Nat) (f : Int) (h0 : 0 ≤ f) (h1 : f < 256) (h : RdS w r v zs s.1 s.2) (c1 : w.cell? ⟨B1, 0, none⟩ = some (.int .i64 2)) (c2 : w.cell? ⟨B2, 0, none⟩ = some (.int .i64 16)) (c3 : w.cell? ⟨B3, 0, none⟩ = some (.pointer (some ⟨r, 0, none⟩))) :
    Calls Try.prog 141 #[.int .i64 f, .pointer (some ⟨B1, 0, none⟩), .pointer (some ⟨B2, 0, none⟩), .pointer (some ⟨B3, 0, none⟩)] w fun e w' => e = .returned (.int .i64 (stV zs 2 16 f s).1) ∧ RdS w' r v zs (stV zs 2 16 f s).2.1 (stV zs 2 16 f s).2.2 ∧ Kp [r] w w' := by
  have HU := Lib.hid (u8T h)
  have HI := Lib.hid (i16T h)
  have HV1 := Lib.hid (val_bounds zs 1 s h.2.2.1)
  have HV2 := Lib.hid (val_bounds zs 2 s h.2.2.1)
  have hor : bits .or .i64 2 16 = 18 := by decide +kernel
  have HS := Lib.hid h
  rcases bits_case2 f h0 h1 with ⟨e1, e2, e3⟩ | ⟨e1, e2, e3⟩ | ⟨e1, e2, e3⟩ | ⟨e1, e2, e3⟩
  · have HE : Hid (stV zs 2 16 f s = (val zs 1 s, stp zs 1 s)) := by unfold stV; show _ = _; rw [if_pos e2, if_pos e3]
    clear e2 e3 h h0 h1
    go_enter Try.func141, Try.ntmps141
    go_wp2_with fail
    refine HU.out.mono ?_; rintro e w2 ⟨rfl, h2, hk2⟩
    have HR : Hid (RdS w2 r v zs (stp zs 1 s).1 (stp zs 1 s).2) := h2
    clear h2
    go_wp2_with fail
    go_ret
    rw [HE.out]
    exact ⟨rfl, HR.out, hk2⟩
  · have HE : Hid (stV zs 2 16 f s = (- val zs 1 s, stp zs 1 s)) := by unfold stV; show _ = _; rw [if_pos e2, if_neg (by simp [e3])]
    clear e2 e3 h h0 h1
    have hb := HV1.out
    have hp : (256 ^ 1 : Nat) = 256 := by decide
    rw [hp] at hb
    obtain ⟨y, hy⟩ : ∃ y, val zs 1 s = y := ⟨_, rfl⟩
    rw [hy] at HU hb HE
    clear hy hp
    obtain ⟨hb0, hb1⟩ := hb
    go_enter Try.func141, Try.ntmps141
    go_wp2_with fail
    refine HU.out.mono ?_; rintro e w2 ⟨rfl, h2, hk2⟩
    have HR : Hid (RdS w2 r v zs (stp zs 1 s).1 (stp zs 1 s).2) := h2
    clear h2
    go_wp2_with fail
    go_ret
    rw [HE.out]
    exact ⟨by first | rfl | simp, HR.out, hk2⟩
  · have HE : Hid (stV zs 2 16 f s = (0, s)) := by unfold stV; show _ = _; rw [if_neg (by simp [e2]), if_neg e3]
    clear e2 e3 h h0 h1
    go_enter Try.func141, Try.ntmps141
    go_wp2_with fail
    go_ret
    rw [HE.out]
    exact ⟨rfl, HS.out.kp0 (by (repeat (first | exact Kp.refl _ _ | assumption | refine Kp.drew ?_ | refine Kp.drewN ?_ _ | refine Kp.alloc ?_ _ | (refine Kp.setCell ?_ (by first | (left; simp; done) | (right; simp; try omega)) _) | (refine Kp.trans' ?_ (by assumption) (by simp; try omega))))), by (repeat (first | exact Kp.refl _ _ | assumption | refine Kp.drew ?_ | refine Kp.drewN ?_ _ | refine Kp.alloc ?_ _ | (refine Kp.setCell ?_ (by first | (left; simp; done) | (right; simp; try omega)) _) | (refine Kp.trans' ?_ (by assumption) (by simp; try omega))))⟩
  · have HE : Hid (stV zs 2 16 f s = (s16 (val zs 2 s), stp zs 2 s)) := by unfold stV; show _ = _; rw [if_neg (by simp [e2]), if_pos e3]
    clear e2 e3 h h0 h1
    go_enter Try.func141, Try.ntmps141
    go_wp2_with fail
    refine HI.out.mono ?_; rintro e w2 ⟨rfl, h2, hk2⟩
    have HR : Hid (RdS w2 r v zs (stp zs 2 s).1 (stp zs 2 s).2) := h2
    clear h2
    go_wp2_with fail
    go_ret
    rw [HE.out]
    exact ⟨rfl, HR.out, hk2⟩
set_option maxRecDepth 100000 in
set_option maxHeartbeats 2000000 in
theorem steps_2 {w : World} {r : Nat} {v : Value} {zs : List Int} {s : Rs} (lv : Value) (fl : List Int) (hfl : fl.length ≤ 4096) (hf : ∀ c ∈ fl, 0 ≤ c ∧ c < 256) (hl : IsInts .i64 w lv fl) (hlb : ∀ b, blockOf lv = some b → b ≠ r) (h : RdS w r v zs s.1 s.2) (hv : ∀ b, blockOf v = some b → b < w.heap.size) :
    Calls Try.prog 97 #[.pointer (some ⟨r, 0, none⟩), lv, .int .i64 2, .int .i64 16] w fun e w' => ∃ v', e = .returned (.tuple #[v', .bool ((stepsR zs 2 16 fl 0 s []).1.isSome && !(stepsR zs 2 16 fl 0 s []).2.2)]) ∧ (∀ q, (stepsR zs 2 16 fl 0 s []).1 = some q → IsInts .i64 w' v' q) ∧ RdS w' r v zs (stepsR zs 2 16 fl 0 s []).2.1 (stepsR zs 2 16 fl 0 s []).2.2 ∧ Kp [r] w w' ∧ ∀ b, blockOf v' = some b → w.heap.size ≤ b := by
  obtain ⟨i0, hi, hz0, hz1, hz2⟩ := info_parts infoI
  have HBB := Lib.hid h.2.2.1
  have HF := Lib.hid hf
  obtain ⟨pl, cl, rfl⟩ : ∃ p c, lv = .slice p fl.length c := by
    rcases hl with ⟨⟨ad, rfl⟩, rfl⟩ | ⟨g, off, c, rfl, _⟩
    · exact ⟨_, 0, rfl⟩
    · exact ⟨_, c, rfl⟩
  have HLW : Hid (∀ W, Kp [r] w W → IsInts .i64 W (.slice pl fl.length cl) fl) := fun W hW => hl.kp hW (fun t ht e => by simp at ht; subst ht; exact hlb _ e rfl)
  obtain ⟨R, hR⟩ : ∃ R, stepsR zs 2 16 fl 0 s [] = R := ⟨_, rfl⟩
  have HR : Hid (stepsR zs 2 16 (fl.drop 0) 0 s [] = R) := hR
  rw [hR]
  obtain ⟨N, hN⟩ : ∃ N, fl.length = N := ⟨_, rfl⟩
  have HN := Lib.hid hN
  rw [hN] at hfl HLW ⊢
  have hrw : r < w.heap.size := h.lt
  -- the world with the three boxes
  have hkb : Kp [] w (((w.alloc (.cells #[.pointer (some ⟨r, 0, none⟩)] 70)).alloc (.cells #[.int .i64 2] 3)).alloc (.cells #[.int .i64 16] 3)) := (((Kp.refl _ _).alloc _).alloc _).alloc _
  have HK1 := Lib.hid hkb
  have HB3 : Hid ((((w.alloc (.cells #[.pointer (some ⟨r, 0, none⟩)] 70)).alloc (.cells #[.int .i64 2] 3)).alloc (.cells #[.int .i64 16] 3)).heap[w.heap.size]? = some (.cells #[.pointer (some ⟨r, 0, none⟩)] 70)) := (((Kp.refl [] _).alloc _).alloc _).heap (heap_alloc_new w _) (by simp)
  have HB1 : Hid ((((w.alloc (.cells #[.pointer (some ⟨r, 0, none⟩)] 70)).alloc (.cells #[.int .i64 2] 3)).alloc (.cells #[.int .i64 16] 3)).heap[w.heap.size + 1]? = some (.cells #[.int .i64 2] 3)) := by
    have := heap_alloc_new (w.alloc (.cells #[.pointer (some ⟨r, 0, none⟩)] 70)) (.cells #[.int .i64 2] 3)
    rw [World.size_alloc] at this
    exact ((Kp.refl [] _).alloc _).heap this (by simp)
  have HB2 : Hid ((((w.alloc (.cells #[.pointer (some ⟨r, 0, none⟩)] 70)).alloc (.cells #[.int .i64 2] 3)).alloc (.cells #[.int .i64 16] 3)).heap[w.heap.size + 2]? = some (.cells #[.int .i64 16] 3)) := by
    have := heap_alloc_new ((w.alloc (.cells #[.pointer (some ⟨r, 0, none⟩)] 70)).alloc (.cells #[.int .i64 2] 3)) (.cells #[.int .i64 16] 3)
    rw [World.size_alloc, World.size_alloc] at this
    exact this
  have HS0 : Hid (RdS w r v zs s.1 s.2) := h
  have HV := Lib.hid hv
  have HZ1 : Hid ((((w.alloc (.cells #[.pointer (some ⟨r, 0, none⟩)] 70)).alloc (.cells #[.int .i64 2] 3)).alloc (.cells #[.int .i64 16] 3)).heap.size = w.heap.size + 3) := by show _ = _; simp
  clear h hv hf hl hlb hR hN hkb
  go_enter Try.func97, Try.ntmps97
  go_wp2_with (at_make; go_loud (refine wpList_make_own _ rfl _ _ 100 rfl (w.heap.size + 3) 3 i0 (.int .i64 0) 1 Try.underlying100 hi hz0 hz1 .i64 .i64 N N rfl rfl rfl ?b2 ?b3 ?b4 ?hK))
  case b2 => rw [hz2]; omega
  case b3 => unfold maxLen; omega
  case b4 => simp
  case hK =>
  intro w2 hown hgr
  generalize ((w.alloc (.cells #[.pointer (some ⟨r, 0, none⟩)] 70)).alloc (.cells #[.int .i64 2] 3)).alloc (.cells #[.int .i64 16] 3) = w1 at *
  have hk2 : Kp [] w1 w2 := Kp.grown (Kp.refl _ _) hgr (fun k hk => nomatch hk)
  have hS : Hid (EnSt w1 w2 r v zs s (.slice (some ⟨w.heap.size + 1 + 1 + 1, 0, none⟩) 0 N) []) := ⟨HS0.out.kp0 (HK1.out.trans hk2), by rw [HZ1.out]; exact hown, hk2.more (fun s hs => nomatch hs), by have := HZ1.out; omega, fun b hb => by have := HV.out b hb; have := HZ1.out; omega⟩
  clear hown hgr hk2 hi hz0 hz1 hz2 HS0
  go_wp2_with fail
  go_loopw [11, 12, 14, 21] (fun l x _ i wr => ∃ (j : Nat) (s : Rs) (acc : List Int) (xx : Int), j ≤ N ∧ i = .int .i64 j ∧ x = .int .i64 xx ∧ Hid (-32768 ≤ xx ∧ xx ≤ 32767) ∧ Hid (acc.length = j) ∧ Hid (EnSt w1 wr r v zs s l acc ∧ stepsR zs 2 16 (fl.drop j) xx s acc = R)) (fun _ _ _ i _ => N - (intOf i).toNat)
  case atStart => exact ⟨0, s, [], 0, by omega, rfl, rfl, ⟨by omega, by omega⟩, rfl, hS.out, HR.out⟩
  case round =>
    obtain ⟨j, s, acc, xx, hj, rfl, rfl, HX, HA, HJ⟩ := hrel
    clear hS HR
    obtain ⟨po, co, hl⟩ := slice_own HJ.out.1.2.1
    subst hl
    rw [HA.out] at HJ ⊢
    have HE := Lib.hid HJ.out.2
    have HS := Lib.hid HJ.out.1
    clear HJ
    by_cases hlt : j < N
    · have hjl : j < fl.length := by rw [HN.out]; exact hlt
      have hcell : ∃ g off, pl = some ⟨g, off, none⟩ ∧ N ≤ cl ∧ cl ≤ maxLen ∧ wr.cell? ⟨g, off + j, none⟩ = some (.int .i64 (fl.getD j 0)) := by
        rcases HLW.out wr (HK1.out.more (fun s hs => nomatch hs) |>.trans HS.out.2.2.1) with ⟨⟨ad, e⟩, h0⟩ | ⟨g, off, cap, e, h1, h2, h3⟩
        · rw [h0] at hjl; simp at hjl
        · rw [HN.out] at e
          cases e
          exact ⟨g, off, rfl, by have := HN.out; omega, h2, h3 j hjl⟩
      obtain ⟨g, off, rfl, hc1, hc2, hce⟩ := hcell
      have hfm : fl.getD j 0 ∈ fl := by rw [List.getD_eq_getElem?_getD, List.getElem?_eq_getElem hjl]; exact List.getElem_mem hjl
      obtain ⟨f0, f1⟩ := HF.out _ hfm
      have hdrop : fl.drop j = fl.getD j 0 :: fl.drop (j + 1) := by
        rw [List.drop_eq_getElem_cons hjl, List.getD_eq_getElem?_getD, List.getElem?_eq_getElem hjl]; rfl
      have HRR : Hid (R = stepsR zs 2 16 (fl.getD j 0 :: fl.drop (j + 1)) xx s acc) := by show _ = _; rw [← hdrop]; exact HE.out.symm
      have c1 : wr.cell? ⟨w.heap.size + 1, 0, none⟩ = some (.int .i64 2) := by rw [cell_of_row wr (w.heap.size + 1) 0 _ _ (0, 0) (HS.out.2.2.1.heap HB1.out (by simp; omega))]; rfl
      have c2 : wr.cell? ⟨w.heap.size + 2, 0, none⟩ = some (.int .i64 16) := by rw [cell_of_row wr (w.heap.size + 2) 0 _ _ (0, 0) (HS.out.2.2.1.heap HB2.out (by simp; omega))]; rfl
      have c3 : wr.cell? ⟨w.heap.size, 0, none⟩ = some (.pointer (some ⟨r, 0, none⟩)) := by rw [cell_of_row wr w.heap.size 0 _ _ (0, 0) (HS.out.2.2.1.heap HB3.out (by simp; omega))]; rfl
      have HC := Lib.hid (steps1_2 (w.heap.size + 1) (w.heap.size + 2) w.heap.size (fl.getD j 0) f0 f1 HS.out.1 c1 c2 c3)
      have HD := Lib.hid (stV_bounds zs 2 16 (fl.getD j 0) s HBB.out)
      have HRS : Hid (R = if unitB (xx + (stV zs 2 16 (fl.getD j 0) s).1) = true then stepsR zs 2 16 (fl.drop (j + 1)) (xx + (stV zs 2 16 (fl.getD j 0) s).1) (stV zs 2 16 (fl.getD j 0) s).2 (acc ++ [xx + (stV zs 2 16 (fl.getD j 0) s).1]) else (none, (stV zs 2 16 (fl.getD j 0) s).2)) := HRR.out
      clear HE HRR hdrop hfm c1 c2 c3
      generalize fl.getD j 0 = f at *
      obtain ⟨q, hq⟩ : ∃ q, stV zs 2 16 f s = q := ⟨_, rfl⟩
      rw [hq] at HC HD HRS
      clear hq
      obtain ⟨d, k2, b2⟩ := q
      dsimp only at HC HD HRS
      obtain ⟨x0, x1⟩ := HX.out
      obtain ⟨d0, d1⟩ := HD.out
      go_wp2_with fail
      refine HC.out.mono ?_; rintro e w3 ⟨rfl, h3, hk3⟩
      have HS3 : Hid (EnSt w1 w3 r v zs (k2, b2) (.slice po j co) acc) := HS.out.read h3 hk3
      clear h3 hk3 HS HC hce hjl
      have hy : -65536 ≤ xx + d ∧ xx + d ≤ 65534 := ⟨by omega, by omega⟩
      go_wp2_with fail
      refine (isunit_calls _ _).mono ?_; rintro e w4 ⟨rfl, rfl⟩
      generalize xx + d = y at *
      clear x0 x1 d0 d1 HX HD
      cases hu : unitB y
      · have HFI : Hid (R = (none, (k2, b2))) := by show _ = _; rw [HRS.out, hu]; rfl
        clear HRS hu
        go_wp2_with fail
        go_ret2
        rw [HFI.out]
        exact ⟨_, rfl, (fun q hq => by cases hq), HS3.out.1, (HK1.out.more (fun s hs => nomatch hs)).trans HS3.out.2.2.1, fun b hb => by simp at hb⟩
      · have HFI : Hid (stepsR zs 2 16 (fl.drop (j + 1)) y (k2, b2) (acc ++ [y]) = R) := by show _ = _; rw [HRS.out, if_pos hu]
        have HX5 : Hid (-32768 ≤ y ∧ y ≤ 32767) := by unfold unitB at hu; show _ ∧ _; simpa using hu
        have HROW := Lib.hid HS3.out.2.1
        have hsz : w1.heap.size ≤ w3.heap.size := HS3.out.2.2.1.size
        rw [HA.out] at HROW
        clear HRS hu hy
        go_wp2_with (at_builtin; go_loud (refine wpList_pushL rfl _ _ 100 3 .i64 8 Try.underlying100 infoI (by decide) rfl w1.heap.size (.slice po j co) acc j HA.out rfl ?hown w3.heap.size [y] 1 rfl rfl ?hc ?hl ?hbase ?hk))
        case hown => exact Kp.row (S := []) ((Kp.refl _ _).alloc _) HROW.out (by simp)
        case hc => exact litI (zs := [y]) (Kp.refl _ _)
        case hl => omega
        case hbase => simp; omega
        case hk =>
        intro v5 w5 hown5 hk5 hk6
        have HS5 : Hid (EnSt w1 w5 r v zs (k2, b2) v5 (acc ++ [y])) := HS3.out.push (zs' := [y]) (m := 1) HA.out rfl hown5 hk5 hk6
        have HA5 : Hid ((acc ++ [y]).length = j + 1) := by show _ = _; rw [List.length_append, HA.out]; rfl
        clear hown5 hk5 hk6 HS3 HROW HA
        go_wp2_with fail
        go_roundw
        case rel => first | exact ⟨j + 1, (k2, b2), acc ++ [y], y, by omega, int_eq' (by omega), rfl, HX5, HA5, HS5.out, HFI.out⟩ | ((repeat apply Exists.intro); exact ⟨⟨j + 1, (k2, b2), acc ++ [y], y, by omega, int_eq' (by omega), rfl, HX5, HA5, HS5.out, HFI.out⟩, rfl⟩)
        case measure => simp [intOf]; omega
    · obtain rfl : j = N := by omega
      obtain ⟨k2, b2⟩ := s
      have HFI : Hid (R = (some acc, (k2, b2))) := by show _ = _; rw [← HE.out, List.drop_eq_nil_of_le (by rw [HN.out]; exact Nat.le_refl _)]; rfl
      have HROW : Hid (wr.ownsRow w1.heap.size 3 1 (.slice po j co) acc.length (acc.map (Value.int .i64))) := HS.out.2.1
      have c3 : wr.cell? ⟨w.heap.size, 0, none⟩ = some (.pointer (some ⟨r, 0, none⟩)) := by rw [cell_of_row wr w.heap.size 0 _ _ (0, 0) (HS.out.2.2.1.heap HB3.out (by simp; omega))]; rfl
      clear HE
      have HDN := Lib.hid (doneT HS.out.1)
      cases b2
      · go_wp2_with fail
        refine HDN.out.mono ?_; rintro e w4 ⟨rfl, rfl⟩
        go_wp2_with fail
        go_ret2
        rw [HFI.out]
        exact ⟨_, rfl, (fun q hq => by cases hq; exact IsInts.owned HROW.out), HS.out.1, (HK1.out.more (fun s hs => nomatch hs)).trans HS.out.2.2.1, fun b hb => by have := own_geb HROW.out b hb; have := HZ1.out; omega⟩
      · go_wp2_with fail
        refine HDN.out.mono ?_; rintro e w4 ⟨rfl, rfl⟩
        go_wp2_with fail
        go_ret2
        rw [HFI.out]
        exact ⟨_, rfl, (fun q hq => by cases hq; exact IsInts.owned HROW.out), HS.out.1, (HK1.out.more (fun s hs => nomatch hs)).trans HS.out.2.2.1, fun b hb => by have := own_geb HROW.out b hb; have := HZ1.out; omega⟩
/-- The two bits of a flag, and each of them. -/
theorem bits_case4 (f : Int) (h0 : 0 ≤ f) (h1 : f < 256) :
    (bits .and .i64 f 36 = 36 ∧ bits .and .i64 f 4 ≠ 0 ∧ bits .and .i64 f 32 ≠ 0) ∨ (bits .and .i64 f 36 = 4 ∧ bits .and .i64 f 4 ≠ 0 ∧ bits .and .i64 f 32 = 0) ∨
    (bits .and .i64 f 36 = 32 ∧ bits .and .i64 f 4 = 0 ∧ bits .and .i64 f 32 ≠ 0) ∨ (bits .and .i64 f 36 = 0 ∧ bits .and .i64 f 4 = 0 ∧ bits .and .i64 f 32 = 0) := by
  have key : ∀ n : Fin 256, (bits .and .i64 (n.val : Int) 36 = 36 ∧ bits .and .i64 (n.val : Int) 4 ≠ 0 ∧ bits .and .i64 (n.val : Int) 32 ≠ 0) ∨ (bits .and .i64 (n.val : Int) 36 = 4 ∧ bits .and .i64 (n.val : Int) 4 ≠ 0 ∧ bits .and .i64 (n.val : Int) 32 = 0) ∨
    (bits .and .i64 (n.val : Int) 36 = 32 ∧ bits .and .i64 (n.val : Int) 4 = 0 ∧ bits .and .i64 (n.val : Int) 32 ≠ 0) ∨ (bits .and .i64 (n.val : Int) 36 = 0 ∧ bits .and .i64 (n.val : Int) 4 = 0 ∧ bits .and .i64 (n.val : Int) 32 = 0) := by decide +kernel
  have := key ⟨f.toNat, by omega⟩
  simpa [Int.toNat_of_nonneg h0] using this
set_option maxRecDepth 100000 in
theorem steps1_4 {w : World} {r : Nat} {v : Value} {zs : List Int} {s : Rs} (B1 B2 B3 : Nat) (f : Int) (h0 : 0 ≤ f) (h1 : f < 256) (h : RdS w r v zs s.1 s.2) (c1 : w.cell? ⟨B1, 0, none⟩ = some (.int .i64 4)) (c2 : w.cell? ⟨B2, 0, none⟩ = some (.int .i64 32)) (c3 : w.cell? ⟨B3, 0, none⟩ = some (.pointer (some ⟨r, 0, none⟩))) :
    Calls Try.prog 141 #[.int .i64 f, .pointer (some ⟨B1, 0, none⟩), .pointer (some ⟨B2, 0, none⟩), .pointer (some ⟨B3, 0, none⟩)] w fun e w' => e = .returned (.int .i64 (stV zs 4 32 f s).1) ∧ RdS w' r v zs (stV zs 4 32 f s).2.1 (stV zs 4 32 f s).2.2 ∧ Kp [r] w w' := by
  have HU := Lib.hid (u8T h)
  have HI := Lib.hid (i16T h)
  have HV1 := Lib.hid (val_bounds zs 1 s h.2.2.1)
  have HV2 := Lib.hid (val_bounds zs 2 s h.2.2.1)
  have hor : bits .or .i64 4 32 = 36 := by decide +kernel
  have HS := Lib.hid h
  rcases bits_case4 f h0 h1 with ⟨e1, e2, e3⟩ | ⟨e1, e2, e3⟩ | ⟨e1, e2, e3⟩ | ⟨e1, e2, e3⟩
  · have HE : Hid (stV zs 4 32 f s = (val zs 1 s, stp zs 1 s)) := by unfold stV; show _ = _; rw [if_pos e2, if_pos e3]
    clear e2 e3 h h0 h1
    go_enter Try.func141, Try.ntmps141
    go_wp2_with fail
    refine HU.out.mono ?_; rintro e w2 ⟨rfl, h2, hk2⟩
    have HR : Hid (RdS w2 r v zs (stp zs 1 s).1 (stp zs 1 s).2) := h2
    clear h2
    go_wp2_with fail
    go_ret
    rw [HE.out]
    exact ⟨rfl, HR.out, hk2⟩
  · have HE : Hid (stV zs 4 32 f s = (- val zs 1 s, stp zs 1 s)) := by unfold stV; show _ = _; rw [if_pos e2, if_neg (by simp [e3])]
    clear e2 e3 h h0 h1
    have hb := HV1.out
    have hp : (256 ^ 1 : Nat) = 256 := by decide
    rw [hp] at hb
    obtain ⟨y, hy⟩ : ∃ y, val zs 1 s = y := ⟨_, rfl⟩
    rw [hy] at HU hb HE
    clear hy hp
    obtain ⟨hb0, hb1⟩ := hb
    go_enter Try.func141, Try.ntmps141
    go_wp2_with fail
    refine HU.out.mono ?_; rintro e w2 ⟨rfl, h2, hk2⟩
    have HR : Hid (RdS w2 r v zs (stp zs 1 s).1 (stp zs 1 s).2) := h2
    clear h2
    go_wp2_with fail
    go_ret
    rw [HE.out]
    exact ⟨by first | rfl | simp, HR.out, hk2⟩
  · have HE : Hid (stV zs 4 32 f s = (0, s)) := by unfold stV; show _ = _; rw [if_neg (by simp [e2]), if_neg e3]
    clear e2 e3 h h0 h1
    go_enter Try.func141, Try.ntmps141
    go_wp2_with fail
    go_ret
    rw [HE.out]
    exact ⟨rfl, HS.out.kp0 (by (repeat (first | exact Kp.refl _ _ | assumption | refine Kp.drew ?_ | refine Kp.drewN ?_ _ | refine Kp.alloc ?_ _ | (refine Kp.setCell ?_ (by first | (left; simp; done) | (right; simp; try omega)) _) | (refine Kp.trans' ?_ (by assumption) (by simp; try omega))))), by (repeat (first | exact Kp.refl _ _ | assumption | refine Kp.drew ?_ | refine Kp.drewN ?_ _ | refine Kp.alloc ?_ _ | (refine Kp.setCell ?_ (by first | (left; simp; done) | (right; simp; try omega)) _) | (refine Kp.trans' ?_ (by assumption) (by simp; try omega))))⟩
  · have HE : Hid (stV zs 4 32 f s = (s16 (val zs 2 s), stp zs 2 s)) := by unfold stV; show _ = _; rw [if_neg (by simp [e2]), if_pos e3]
    clear e2 e3 h h0 h1
    go_enter Try.func141, Try.ntmps141
    go_wp2_with fail
    refine HI.out.mono ?_; rintro e w2 ⟨rfl, h2, hk2⟩
    have HR : Hid (RdS w2 r v zs (stp zs 2 s).1 (stp zs 2 s).2) := h2
    clear h2
    go_wp2_with fail
    go_ret
    rw [HE.out]
    exact ⟨rfl, HR.out, hk2⟩
set_option maxRecDepth 100000 in
set_option maxHeartbeats 2000000 in
theorem steps_4 {w : World} {r : Nat} {v : Value} {zs : List Int} {s : Rs} (lv : Value) (fl : List Int) (hfl : fl.length ≤ 4096) (hf : ∀ c ∈ fl, 0 ≤ c ∧ c < 256) (hl : IsInts .i64 w lv fl) (hlb : ∀ b, blockOf lv = some b → b ≠ r) (h : RdS w r v zs s.1 s.2) (hv : ∀ b, blockOf v = some b → b < w.heap.size) :
    Calls Try.prog 97 #[.pointer (some ⟨r, 0, none⟩), lv, .int .i64 4, .int .i64 32] w fun e w' => ∃ v', e = .returned (.tuple #[v', .bool ((stepsR zs 4 32 fl 0 s []).1.isSome && !(stepsR zs 4 32 fl 0 s []).2.2)]) ∧ (∀ q, (stepsR zs 4 32 fl 0 s []).1 = some q → IsInts .i64 w' v' q) ∧ RdS w' r v zs (stepsR zs 4 32 fl 0 s []).2.1 (stepsR zs 4 32 fl 0 s []).2.2 ∧ Kp [r] w w' ∧ ∀ b, blockOf v' = some b → w.heap.size ≤ b := by
  obtain ⟨i0, hi, hz0, hz1, hz2⟩ := info_parts infoI
  have HBB := Lib.hid h.2.2.1
  have HF := Lib.hid hf
  obtain ⟨pl, cl, rfl⟩ : ∃ p c, lv = .slice p fl.length c := by
    rcases hl with ⟨⟨ad, rfl⟩, rfl⟩ | ⟨g, off, c, rfl, _⟩
    · exact ⟨_, 0, rfl⟩
    · exact ⟨_, c, rfl⟩
  have HLW : Hid (∀ W, Kp [r] w W → IsInts .i64 W (.slice pl fl.length cl) fl) := fun W hW => hl.kp hW (fun t ht e => by simp at ht; subst ht; exact hlb _ e rfl)
  obtain ⟨R, hR⟩ : ∃ R, stepsR zs 4 32 fl 0 s [] = R := ⟨_, rfl⟩
  have HR : Hid (stepsR zs 4 32 (fl.drop 0) 0 s [] = R) := hR
  rw [hR]
  obtain ⟨N, hN⟩ : ∃ N, fl.length = N := ⟨_, rfl⟩
  have HN := Lib.hid hN
  rw [hN] at hfl HLW ⊢
  have hrw : r < w.heap.size := h.lt
  -- the world with the three boxes
  have hkb : Kp [] w (((w.alloc (.cells #[.pointer (some ⟨r, 0, none⟩)] 70)).alloc (.cells #[.int .i64 4] 3)).alloc (.cells #[.int .i64 32] 3)) := (((Kp.refl _ _).alloc _).alloc _).alloc _
  have HK1 := Lib.hid hkb
  have HB3 : Hid ((((w.alloc (.cells #[.pointer (some ⟨r, 0, none⟩)] 70)).alloc (.cells #[.int .i64 4] 3)).alloc (.cells #[.int .i64 32] 3)).heap[w.heap.size]? = some (.cells #[.pointer (some ⟨r, 0, none⟩)] 70)) := (((Kp.refl [] _).alloc _).alloc _).heap (heap_alloc_new w _) (by simp)
  have HB1 : Hid ((((w.alloc (.cells #[.pointer (some ⟨r, 0, none⟩)] 70)).alloc (.cells #[.int .i64 4] 3)).alloc (.cells #[.int .i64 32] 3)).heap[w.heap.size + 1]? = some (.cells #[.int .i64 4] 3)) := by
    have := heap_alloc_new (w.alloc (.cells #[.pointer (some ⟨r, 0, none⟩)] 70)) (.cells #[.int .i64 4] 3)
    rw [World.size_alloc] at this
    exact ((Kp.refl [] _).alloc _).heap this (by simp)
  have HB2 : Hid ((((w.alloc (.cells #[.pointer (some ⟨r, 0, none⟩)] 70)).alloc (.cells #[.int .i64 4] 3)).alloc (.cells #[.int .i64 32] 3)).heap[w.heap.size + 2]? = some (.cells #[.int .i64 32] 3)) := by
    have := heap_alloc_new ((w.alloc (.cells #[.pointer (some ⟨r, 0, none⟩)] 70)).alloc (.cells #[.int .i64 4] 3)) (.cells #[.int .i64 32] 3)
    rw [World.size_alloc, World.size_alloc] at this
    exact this
  have HS0 : Hid (RdS w r v zs s.1 s.2) := h
  have HV := Lib.hid hv
  have HZ1 : Hid ((((w.alloc (.cells #[.pointer (some ⟨r, 0, none⟩)] 70)).alloc (.cells #[.int .i64 4] 3)).alloc (.cells #[.int .i64 32] 3)).heap.size = w.heap.size + 3) := by show _ = _; simp
  clear h hv hf hl hlb hR hN hkb
  go_enter Try.func97, Try.ntmps97
  go_wp2_with (at_make; go_loud (refine wpList_make_own _ rfl _ _ 100 rfl (w.heap.size + 3) 3 i0 (.int .i64 0) 1 Try.underlying100 hi hz0 hz1 .i64 .i64 N N rfl rfl rfl ?b2 ?b3 ?b4 ?hK))
  case b2 => rw [hz2]; omega
  case b3 => unfold maxLen; omega
  case b4 => simp
  case hK =>
  intro w2 hown hgr
  generalize ((w.alloc (.cells #[.pointer (some ⟨r, 0, none⟩)] 70)).alloc (.cells #[.int .i64 4] 3)).alloc (.cells #[.int .i64 32] 3) = w1 at *
  have hk2 : Kp [] w1 w2 := Kp.grown (Kp.refl _ _) hgr (fun k hk => nomatch hk)
  have hS : Hid (EnSt w1 w2 r v zs s (.slice (some ⟨w.heap.size + 1 + 1 + 1, 0, none⟩) 0 N) []) := ⟨HS0.out.kp0 (HK1.out.trans hk2), by rw [HZ1.out]; exact hown, hk2.more (fun s hs => nomatch hs), by have := HZ1.out; omega, fun b hb => by have := HV.out b hb; have := HZ1.out; omega⟩
  clear hown hgr hk2 hi hz0 hz1 hz2 HS0
  go_wp2_with fail
  go_loopw [11, 12, 14, 21] (fun l x _ i wr => ∃ (j : Nat) (s : Rs) (acc : List Int) (xx : Int), j ≤ N ∧ i = .int .i64 j ∧ x = .int .i64 xx ∧ Hid (-32768 ≤ xx ∧ xx ≤ 32767) ∧ Hid (acc.length = j) ∧ Hid (EnSt w1 wr r v zs s l acc ∧ stepsR zs 4 32 (fl.drop j) xx s acc = R)) (fun _ _ _ i _ => N - (intOf i).toNat)
  case atStart => exact ⟨0, s, [], 0, by omega, rfl, rfl, ⟨by omega, by omega⟩, rfl, hS.out, HR.out⟩
  case round =>
    obtain ⟨j, s, acc, xx, hj, rfl, rfl, HX, HA, HJ⟩ := hrel
    clear hS HR
    obtain ⟨po, co, hl⟩ := slice_own HJ.out.1.2.1
    subst hl
    rw [HA.out] at HJ ⊢
    have HE := Lib.hid HJ.out.2
    have HS := Lib.hid HJ.out.1
    clear HJ
    by_cases hlt : j < N
    · have hjl : j < fl.length := by rw [HN.out]; exact hlt
      have hcell : ∃ g off, pl = some ⟨g, off, none⟩ ∧ N ≤ cl ∧ cl ≤ maxLen ∧ wr.cell? ⟨g, off + j, none⟩ = some (.int .i64 (fl.getD j 0)) := by
        rcases HLW.out wr (HK1.out.more (fun s hs => nomatch hs) |>.trans HS.out.2.2.1) with ⟨⟨ad, e⟩, h0⟩ | ⟨g, off, cap, e, h1, h2, h3⟩
        · rw [h0] at hjl; simp at hjl
        · rw [HN.out] at e
          cases e
          exact ⟨g, off, rfl, by have := HN.out; omega, h2, h3 j hjl⟩
      obtain ⟨g, off, rfl, hc1, hc2, hce⟩ := hcell
      have hfm : fl.getD j 0 ∈ fl := by rw [List.getD_eq_getElem?_getD, List.getElem?_eq_getElem hjl]; exact List.getElem_mem hjl
      obtain ⟨f0, f1⟩ := HF.out _ hfm
      have hdrop : fl.drop j = fl.getD j 0 :: fl.drop (j + 1) := by
        rw [List.drop_eq_getElem_cons hjl, List.getD_eq_getElem?_getD, List.getElem?_eq_getElem hjl]; rfl
      have HRR : Hid (R = stepsR zs 4 32 (fl.getD j 0 :: fl.drop (j + 1)) xx s acc) := by show _ = _; rw [← hdrop]; exact HE.out.symm
      have c1 : wr.cell? ⟨w.heap.size + 1, 0, none⟩ = some (.int .i64 4) := by rw [cell_of_row wr (w.heap.size + 1) 0 _ _ (0, 0) (HS.out.2.2.1.heap HB1.out (by simp; omega))]; rfl
      have c2 : wr.cell? ⟨w.heap.size + 2, 0, none⟩ = some (.int .i64 32) := by rw [cell_of_row wr (w.heap.size + 2) 0 _ _ (0, 0) (HS.out.2.2.1.heap HB2.out (by simp; omega))]; rfl
      have c3 : wr.cell? ⟨w.heap.size, 0, none⟩ = some (.pointer (some ⟨r, 0, none⟩)) := by rw [cell_of_row wr w.heap.size 0 _ _ (0, 0) (HS.out.2.2.1.heap HB3.out (by simp; omega))]; rfl
      have HC := Lib.hid (steps1_4 (w.heap.size + 1) (w.heap.size + 2) w.heap.size (fl.getD j 0) f0 f1 HS.out.1 c1 c2 c3)
      have HD := Lib.hid (stV_bounds zs 4 32 (fl.getD j 0) s HBB.out)
      have HRS : Hid (R = if unitB (xx + (stV zs 4 32 (fl.getD j 0) s).1) = true then stepsR zs 4 32 (fl.drop (j + 1)) (xx + (stV zs 4 32 (fl.getD j 0) s).1) (stV zs 4 32 (fl.getD j 0) s).2 (acc ++ [xx + (stV zs 4 32 (fl.getD j 0) s).1]) else (none, (stV zs 4 32 (fl.getD j 0) s).2)) := HRR.out
      clear HE HRR hdrop hfm c1 c2 c3
      generalize fl.getD j 0 = f at *
      obtain ⟨q, hq⟩ : ∃ q, stV zs 4 32 f s = q := ⟨_, rfl⟩
      rw [hq] at HC HD HRS
      clear hq
      obtain ⟨d, k2, b2⟩ := q
      dsimp only at HC HD HRS
      obtain ⟨x0, x1⟩ := HX.out
      obtain ⟨d0, d1⟩ := HD.out
      go_wp2_with fail
      refine HC.out.mono ?_; rintro e w3 ⟨rfl, h3, hk3⟩
      have HS3 : Hid (EnSt w1 w3 r v zs (k2, b2) (.slice po j co) acc) := HS.out.read h3 hk3
      clear h3 hk3 HS HC hce hjl
      have hy : -65536 ≤ xx + d ∧ xx + d ≤ 65534 := ⟨by omega, by omega⟩
      go_wp2_with fail
      refine (isunit_calls _ _).mono ?_; rintro e w4 ⟨rfl, rfl⟩
      generalize xx + d = y at *
      clear x0 x1 d0 d1 HX HD
      cases hu : unitB y
      · have HFI : Hid (R = (none, (k2, b2))) := by show _ = _; rw [HRS.out, hu]; rfl
        clear HRS hu
        go_wp2_with fail
        go_ret2
        rw [HFI.out]
        exact ⟨_, rfl, (fun q hq => by cases hq), HS3.out.1, (HK1.out.more (fun s hs => nomatch hs)).trans HS3.out.2.2.1, fun b hb => by simp at hb⟩
      · have HFI : Hid (stepsR zs 4 32 (fl.drop (j + 1)) y (k2, b2) (acc ++ [y]) = R) := by show _ = _; rw [HRS.out, if_pos hu]
        have HX5 : Hid (-32768 ≤ y ∧ y ≤ 32767) := by unfold unitB at hu; show _ ∧ _; simpa using hu
        have HROW := Lib.hid HS3.out.2.1
        have hsz : w1.heap.size ≤ w3.heap.size := HS3.out.2.2.1.size
        rw [HA.out] at HROW
        clear HRS hu hy
        go_wp2_with (at_builtin; go_loud (refine wpList_pushL rfl _ _ 100 3 .i64 8 Try.underlying100 infoI (by decide) rfl w1.heap.size (.slice po j co) acc j HA.out rfl ?hown w3.heap.size [y] 1 rfl rfl ?hc ?hl ?hbase ?hk))
        case hown => exact Kp.row (S := []) ((Kp.refl _ _).alloc _) HROW.out (by simp)
        case hc => exact litI (zs := [y]) (Kp.refl _ _)
        case hl => omega
        case hbase => simp; omega
        case hk =>
        intro v5 w5 hown5 hk5 hk6
        have HS5 : Hid (EnSt w1 w5 r v zs (k2, b2) v5 (acc ++ [y])) := HS3.out.push (zs' := [y]) (m := 1) HA.out rfl hown5 hk5 hk6
        have HA5 : Hid ((acc ++ [y]).length = j + 1) := by show _ = _; rw [List.length_append, HA.out]; rfl
        clear hown5 hk5 hk6 HS3 HROW HA
        go_wp2_with fail
        go_roundw
        case rel => first | exact ⟨j + 1, (k2, b2), acc ++ [y], y, by omega, int_eq' (by omega), rfl, HX5, HA5, HS5.out, HFI.out⟩ | ((repeat apply Exists.intro); exact ⟨⟨j + 1, (k2, b2), acc ++ [y], y, by omega, int_eq' (by omega), rfl, HX5, HA5, HS5.out, HFI.out⟩, rfl⟩)
        case measure => simp [intOf]; omega
    · obtain rfl : j = N := by omega
      obtain ⟨k2, b2⟩ := s
      have HFI : Hid (R = (some acc, (k2, b2))) := by show _ = _; rw [← HE.out, List.drop_eq_nil_of_le (by rw [HN.out]; exact Nat.le_refl _)]; rfl
      have HROW : Hid (wr.ownsRow w1.heap.size 3 1 (.slice po j co) acc.length (acc.map (Value.int .i64))) := HS.out.2.1
      have c3 : wr.cell? ⟨w.heap.size, 0, none⟩ = some (.pointer (some ⟨r, 0, none⟩)) := by rw [cell_of_row wr w.heap.size 0 _ _ (0, 0) (HS.out.2.2.1.heap HB3.out (by simp; omega))]; rfl
      clear HE
      have HDN := Lib.hid (doneT HS.out.1)
      cases b2
      · go_wp2_with fail
        refine HDN.out.mono ?_; rintro e w4 ⟨rfl, rfl⟩
        go_wp2_with fail
        go_ret2
        rw [HFI.out]
        exact ⟨_, rfl, (fun q hq => by cases hq; exact IsInts.owned HROW.out), HS.out.1, (HK1.out.more (fun s hs => nomatch hs)).trans HS.out.2.2.1, fun b hb => by have := own_geb HROW.out b hb; have := HZ1.out; omega⟩
      · go_wp2_with fail
        refine HDN.out.mono ?_; rintro e w4 ⟨rfl, rfl⟩
        go_wp2_with fail
        go_ret2
        rw [HFI.out]
        exact ⟨_, rfl, (fun q hq => by cases hq; exact IsInts.owned HROW.out), HS.out.1, (HK1.out.more (fun s hs => nomatch hs)).trans HS.out.2.2.1, fun b hb => by have := own_geb HROW.out b hb; have := HZ1.out; omega⟩
end Go.Proofs.Ytodjohoonbkklaa

/- stack: slices.Grow, slices.Concat of integers; roll. -/
import Derived.Test.YtfgpocpfapnkkaaGreatStG
import Derived.Lib.AppendZeros
import Derived.Deep.RegionHeld3
namespace Go.Proofs.YtfgpocpfapnkkaaGreat
open Go.RowKit
set_option linter.unusedVariables false
set_option linter.unusedSimpArgs false
set_option maxRecDepth 100000 in
theorem grow_calls (n : Nat) (h1 : 1 ≤ n) (h2 : n ≤ 1000) (w : World) :
    Calls Tryz.prog 128 #[.slice none 0 0, .int .i64 n] w fun e w' => ∃ c, e = .returned (.slice (some ⟨w.heap.size, 0, none⟩) 0 c) ∧ w'.ownsRow w.heap.size 3 1 (.slice (some ⟨w.heap.size, 0, none⟩) 0 c) 0 [] ∧ Kp [] w w' := by
  obtain ⟨i, hi, hz, hsize, hby⟩ := info_parts infoIntS
  have happ := Lib.run_append_nil_zeros (P := Tryz.prog) w 24 3 24 3 i (.int .i64 0) .i64 .i64 Tryz.underlying24 Tryz.underlying3 hi hz n (by omega) (by omega) (by omega) (by rw [hby]; omega)
  clear hi hz hsize hby
  generalize hcap : grownCap w n 0 3 = cap at happ
  have hge : n ≤ cap := by rw [← hcap]; exact grownCap_ge w _ 0 _
  have hle : cap ≤ maxLen := by rw [← hcap]; exact grownCap_le_maxLen w _ 0 _ (by unfold maxLen; omega)
  generalize hZ : (Builtin.zeroCells (Value.int .i64 0).cells n ++ Builtin.zeroCells (Value.int .i64 0).cells (cap - n)) = Z at happ
  have hZs : Z.size = cap := by rw [← hZ]; simp [size_zeroCells, Value.cells]; omega
  clear hcap hZ
  have hfin := Lib.hid (show (w.drew.alloc (.cells Z 3)).ownsRow w.heap.size 3 1 (.slice (some ⟨w.heap.size, 0, none⟩) 0 cap) 0 [] ∧ Kp [] w (w.drew.alloc (.cells Z 3)) from ⟨⟨rfl, .inr ⟨w.heap.size, cap, Z, rfl, Nat.le_refl _, heap_alloc_new w.drew _, by simp, hle, by omega, by simp⟩⟩, (Kp.refl _ _).drew.alloc _⟩)
  clear hZs
  have hn0 : ¬ ((n : Int) < 0) := by omega
  have hn1 : (0 : Int) < n := by omega
  have hci : (0 : Int) ≤ cap := by omega
  go_enter Tryz.func128, Tryz.ntmps128
  go_wp2_with (at_builtin; refine Lib.wpList_append_run _ rfl _ _ _ _ rfl _ _ rfl rfl _ _ happ ?_)
  go_ret
  exact ⟨_, rfl, hfin.out⟩
/-- The first j of some rows, one behind the other. -/
def catN (xs : Nat → List Int) : Nat → List Int
  | 0 => []
  | j + 1 => catN xs j ++ xs j
theorem catN_le (xs : Nat → List Int) {i j : Nat} (h : i ≤ j) : (catN xs i).length ≤ (catN xs j).length := by
  induction h with
  | refl => exact Nat.le_refl _
  | step _ ih => simp only [catN, List.length_append]; omega
set_option maxRecDepth 100000 in
set_option maxHeartbeats 4000000 in
theorem concat_calls (b m : Nat) (p : Nat → Option Addr) (xs : Nat → List Int) (c : Nat → Nat) (hm : m ≤ 100) (h1 : 1 ≤ (catN xs m).length) (h2 : (catN xs m).length ≤ 1000) (w : World)
    (hc : ∀ j, j < m → w.cell? ⟨b, j, none⟩ = some (.slice (p j) (xs j).length (c j)) ∧ IsInts .i64 w (.slice (p j) (xs j).length (c j)) (xs j)) :
    Calls Tryz.prog 124 #[.slice (some ⟨b, 0, none⟩) m m] w fun e w' => ∃ v, e = .returned v ∧ OwnC w' w.heap.size 3 v (catN xs m) ∧ Kp [] w w' ∧ ∀ k, v.ownBlock = some k → w.heap.size ≤ k := by
  have HC := Lib.hid hc
  have H1 := Lib.hid h1
  have H2 := Lib.hid h2
  clear hc h1 h2
  go_enter Tryz.func124, Tryz.ntmps124
  go_wp2_with fail
  go_loopw [3, 11] (fun sz i wr => ∃ j : Nat, j ≤ m ∧ i = .int .i64 j ∧ sz = .int .i64 ((catN xs j).length : Int) ∧ wr = w) (fun _ i _ => m - (intOf i).toNat)
  case atStart => exact ⟨0, by omega, rfl, rfl, rfl⟩
  case round =>
    obtain ⟨j, hj, rfl, rfl, rfl⟩ := hrel
    by_cases hlt : j < m
    · have hcell := (HC.out j hlt).1
      have hs1 : (catN xs (j + 1)).length = (catN xs j).length + (xs j).length := by simp [catN]
      have hs2 : (catN xs (j + 1)).length ≤ 1000 := Nat.le_trans (catN_le xs hlt) H2.out
      have hw9 : IntKind.i64.wrap (((catN xs j).length : Int) + (xs j).length) = ((catN xs j).length : Int) + (xs j).length := by rw [IntKind.wrap_i64]; omega
      have hn0 : ¬ (((catN xs j).length : Int) + (xs j).length < 0) := by omega
      have hfin := Lib.hid hs1
      clear hs1 hs2
      generalize hL : (catN xs j).length = L at *
      go_wp2_with fail
      go_round
      case rel => exact ⟨j + 1, by omega, by go_num, by rw [hfin.out]; simp, trivial⟩
      case measure => simp [intOf]; omega
    · have hjm : j = m := by omega
      subst hjm
      clear hlt hj
      go_wp2_with fail
      refine (grow_calls _ H1.out H2.out wr).mono ?_; rintro e w1 ⟨c1, rfl, ho1, hk1⟩
      have ⟨B, hB⟩ : ∃ B, Hid (B = wr.heap.size ∧ w1.ownsRow B 3 1 (.slice (some ⟨wr.heap.size, 0, none⟩) 0 c1) 0 []) := ⟨_, rfl, ho1⟩
      clear ho1
      go_wp2_with fail
      go_loopw [6, 27] (fun v i wi => ∃ (i0 : Nat) (pv : Option Addr) (cv : Nat), i0 ≤ j ∧ i = .int .i64 i0 ∧ v = .slice pv (catN xs i0).length cv ∧ wi.ownsRow B 3 1 (.slice pv (catN xs i0).length cv) (catN xs i0).length ((catN xs i0).map (Value.int .i64)) ∧ Kp [] wr wi) (fun _ i _ => j - (intOf i).toNat)
      case atStart => exact ⟨0, _, _, by omega, rfl, rfl, hB.out.2, hk1⟩
      case round =>
        obtain ⟨i, pv, cv, hi, rfl, rfl, ho, hk⟩ := hrel
        by_cases hlt : i < j
        · have hcell := hk.cell (HC.out i hlt).1 (by simp)
          have hsrc := Lib.hid ((HC.out i hlt).2.kp hk (by simp)).reads
          have hs1 : (catN xs (i + 1)).length = (catN xs i).length + (xs i).length := by simp [catN]
          have hs2 : (catN xs (i + 1)).length ≤ 1000 := Nat.le_trans (catN_le xs hlt) H2.out
          have HO := Lib.hid ho
          clear ho
          go_wp2_with (at_builtin; refine wpList_app rfl _ _ 24 rfl B 3 (.int .i64 0) 1 8 Tryz.underlying24 infoIntS rfl (by decide) (by decide) (.slice pv (catN xs i).length cv) (catN xs i).length ((catN xs i).map (Value.int .i64)) rfl ?hown (.slice (p i) (xs i).length (c i)) (xs i).length ((xs i).map (Value.int .i64)) rfl ?hsrc (oneCell_ints _ _) ?hb1 ?hb2 ?hk)
          case hown => exact HO.out
          case hsrc => exact hsrc.out
          case hb1 => omega
          case hb2 => have := hk.size; have := hB.out.1; omega
          case hk =>
          intro v1 w2 hown hgr
          obtain ⟨pv1, cv1, rfl⟩ : ∃ p c, v1 = .slice p (catN xs (i + 1)).length c := by
            rcases hown.2 with ⟨rfl, h0⟩ | ⟨g, cap, cur, rfl, _⟩
            · exact ⟨none, 0, by rw [hs1, h0]⟩
            · exact ⟨_, _, by rw [hs1]⟩
          have hk2 := Lib.hid (hk.grown hgr (fun k hk => .inr (hB.out.1 ▸ own_ge HO.out k hk)))
          have hown2 : Hid (w2.ownsRow B 3 1 (.slice pv1 (catN xs (i + 1)).length cv1) (catN xs (i + 1)).length ((catN xs (i + 1)).map (Value.int .i64))) := by
            have := hown; rw [← List.map_append, ← hs1] at this; exact this
          clear hown hgr hs1 hs2 hsrc
          go_wp2_with fail
          go_round
          case rel => exact ⟨i + 1, _, _, by omega, by go_num, rfl, hown2.out, hk2.out⟩
          case measure => simp [intOf]; omega
        · have hij : i = j := by omega
          subst hij
          have HO := Lib.hid ho
          clear ho hlt
          go_wp2_with fail
          go_ret
          exact ⟨_, rfl, OwnC.owned (Nat.le_of_eq hB.out.1.symm) rfl HO.out, hk, fun k hk => hB.out.1 ▸ own_ge HO.out k hk⟩
/-- roll, at what the numbers say. -/
def rollL (lo : List Int) (n k : Nat) : List Int := lo.take (lo.length - n) ++ ((lo.drop (lo.length - n)).drop (n - k) ++ (lo.drop (lo.length - n)).take (n - k))
theorem max_pick {α : Type} (c : Prop) [Decidable c] (a b : α) (h : c) : (if c then a else b) = a := if_pos h
set_option maxRecDepth 100000 in
set_option maxHeartbeats 4000000 in
theorem roll_no (s : Addr) (lowv : Value) (lo : List Int) (g off c : Nat) (x y : Int) (h1 : -2147483648 ≤ x) (h2 : x ≤ 2147483648) (h3 : -2147483648 ≤ y) (h4 : y ≤ 2147483648) (w : World) (hlo : FullR w lowv lo) (hll : lo.length ≤ 100)
    (hx : w.cell? ⟨g, off, none⟩ = some (.int .i64 x)) (hy : w.cell? ⟨g, off + 1, none⟩ = some (.int .i64 y)) (hno : x / 65536 < 0 ∨ (lo.length : Int) < x / 65536) :
    Calls Tryz.prog 111 #[.pointer (some s), lowv, .slice (some ⟨g, off, none⟩) 2 c] w fun e w' => e = .returned (.tuple #[.slice none 0 0, .int .i64 170]) ∧ Kp [] w w' := by
  obtain ⟨pl, rfl⟩ := hlo.form
  clear hlo
  have q0 := KW.cell hx
  have q1 := KW.cell hy
  clear hx hy
  go_enter Tryz.func111, Tryz.ntmps111
  go_wp2_with fail
  refine wp_region_kq (by kernel_rfl) (by kernel_rfl) ?_
  repeat (go_big_quiet_step (fail))
  refine wpQuiet_nil ?_
  intro w1 hw'
  obtain ⟨⟨_, hkw1⟩, rfl⟩ := hw'
  generalize hq : x / 65536 = q at *
  by_cases hq0 : q < 0
  · go_wp2_with fail
    go_ret2
    exact ⟨rfl, by assumption⟩
  · have hq1 : (lo.length : Int) < q := by omega
    go_wp2_with fail
    go_ret2
    exact ⟨rfl, by assumption⟩
set_option maxRecDepth 100000 in
set_option maxHeartbeats 4000000 in
theorem roll_zero (s : Addr) (lowv : Value) (lo : List Int) (g off c : Nat) (x y : Int) (h1 : -2147483648 ≤ x) (h2 : x ≤ 2147483648) (h3 : -2147483648 ≤ y) (h4 : y ≤ 2147483648) (w : World) (hlo : FullR w lowv lo) (hll : lo.length ≤ 100)
    (hx : w.cell? ⟨g, off, none⟩ = some (.int .i64 x)) (hy : w.cell? ⟨g, off + 1, none⟩ = some (.int .i64 y)) (h0 : x / 65536 = 0) :
    Calls Tryz.prog 111 #[.pointer (some s), lowv, .slice (some ⟨g, off, none⟩) 2 c] w fun e w' => e = .returned (.tuple #[lowv, .int .i64 0]) ∧ Kp [] w w' := by
  obtain ⟨pl, rfl⟩ := hlo.form
  clear hlo
  have q0 := KW.cell hx
  have q1 := KW.cell hy
  clear hx hy
  have hd : decide ((lo.length : Int) < 0) = false := decide_eq_false (by omega)
  go_enter Tryz.func111, Tryz.ntmps111
  go_wp2_with fail
  refine wp_region_kq (by kernel_rfl) (by kernel_rfl) ?_
  repeat (go_big_quiet_step (fail))
  refine wpQuiet_nil ?_
  intro w1 hw'
  obtain ⟨⟨_, hkw1⟩, rfl⟩ := hw'
  go_wp2_with fail
  go_ret2
  exact ⟨rfl, by assumption⟩
def rollP (gl g2 q c2 : Nat) : Nat → Option Addr
  | 0 => some ⟨gl, 0, none⟩
  | 1 => if c2 = q then some ⟨g2, 0, none⟩ else some ⟨g2, q, none⟩
  | _ => some ⟨g2, 0, none⟩
def rollX (lo : List Int) (m q : Nat) : Nat → List Int
  | 0 => lo.take m
  | 1 => (lo.drop m).drop q
  | _ => (lo.drop m).take q
def rollC (lo : List Int) (c2 q : Nat) : Nat → Nat
  | 0 => lo.length
  | 1 => c2 - q
  | _ => c2
theorem roll_pieces (w2 : World) (gl g2 : Nat) (lo : List Int) (m n q k c2 : Nat) (cur : Array Value) (hm : m + n = lo.length) (hq : q + k = n) (hlo : FullR w2 (.slice (some ⟨gl, 0, none⟩) lo.length lo.length) lo)
    (h6 : w2.heap[g2]? = some (.cells cur 3 (0, 0))) (h7 : n ≤ c2) (h8 : c2 ≤ maxLen) (h9 : c2 ≤ cur.size) (h10 : cur.toList.take n = (lo.drop m).map (Value.int .i64)) :
    Hid (∀ (wz : World) (b : Nat), Kp [] w2 wz → ∀ T, wz.heap[b]? = some (.cells #[.slice (some ⟨gl, 0, none⟩) m lo.length, .slice (if c2 = q then some ⟨g2, 0, none⟩ else some ⟨g2, q, none⟩) k (c2 - q), .slice (some ⟨g2, 0, none⟩) q c2] T (0, 0)) →
      ∀ j, j < 3 → wz.cell? ⟨b, j, none⟩ = some (.slice (rollP gl g2 q c2 j) (rollX lo m q j).length (rollC lo c2 q j)) ∧ IsInts .i64 wz (.slice (rollP gl g2 q c2 j) (rollX lo m q j).length (rollC lo c2 q j)) (rollX lo m q j)) := by
  rcases hlo with ⟨h0, _⟩ | ⟨g', e, hmx, hc⟩
  · cases h0
  cases e
  have hD : (lo.drop m).length = n := by simp; omega
  have hc2 : ∀ i, i < n → w2.cell? ⟨g2, i, none⟩ = some (.int .i64 ((lo.drop m).getD i 0)) := fun i hi => by
    rw [cell_of_row w2 g2 i _ _ _ h6, ← Array.getElem?_toList]
    exact take_getD (l := lo.drop m) (by rw [hD]; exact h10) i (by omega)
  show ∀ _, _
  intro wz b hk T hb j hj
  have l0 : (lo.take m).length = m := by simp; omega
  have l1 : ((lo.drop m).drop q).length = k := by simp; omega
  have l2 : ((lo.drop m).take q).length = q := by simp; omega
  rcases (show j = 0 ∨ j = 1 ∨ j = 2 by omega) with rfl | rfl | rfl
  · simp only [rollP, rollX, rollC]
    refine ⟨by rw [l0, cell_of_row wz b 0 _ _ _ hb]; rfl, .inr ⟨gl, 0, lo.length, rfl, by omega, hmx, fun i hi => ?_⟩⟩
    rw [Nat.zero_add, hk.cell (hc i (by omega)) (by simp)]
    simp only [List.getD_eq_getElem?_getD]
    rw [List.getElem?_take_of_lt (by omega)]
  · simp only [rollP, rollX, rollC]
    refine ⟨by rw [l1, cell_of_row wz b 1 _ _ _ hb]; rfl, ?_⟩
    by_cases hcq : c2 = q
    · rw [if_pos hcq]
      exact .inr ⟨g2, 0, c2 - q, rfl, by omega, by omega, fun i hi => by omega⟩
    rw [if_neg hcq]
    refine .inr ⟨g2, q, c2 - q, rfl, by omega, by omega, fun i hi => ?_⟩
    rw [hk.cell (hc2 (q + i) (by omega)) (by simp)]
    simp only [List.getD_eq_getElem?_getD]
    rw [List.getElem?_drop (xs := lo.drop m)]
  · simp only [rollP, rollX, rollC]
    refine ⟨by rw [l2, cell_of_row wz b 2 _ _ _ hb]; rfl, .inr ⟨g2, 0, c2, rfl, by omega, by omega, fun i hi => ?_⟩⟩
    rw [Nat.zero_add, hk.cell (hc2 i (by omega)) (by simp)]
    simp only [List.getD_eq_getElem?_getD]
    rw [List.getElem?_take_of_lt (by omega)]
set_option maxRecDepth 100000 in
set_option maxHeartbeats 4000000 in
theorem roll_ok (s : Addr) (lowv : Value) (lo : List Int) (g off c : Nat) (x y : Int) (h1 : -2147483648 ≤ x) (h2 : x ≤ 2147483648) (h3 : -2147483648 ≤ y) (h4 : y ≤ 2147483648) (w : World) (hlo : FullR w lowv lo) (hll : lo.length ≤ 100)
    (hx : w.cell? ⟨g, off, none⟩ = some (.int .i64 x)) (hy : w.cell? ⟨g, off + 1, none⟩ = some (.int .i64 y)) (n : Nat) (hn1 : 1 ≤ n) (hn2 : n ≤ lo.length) (hn : x / 65536 = n) :
    Calls Tryz.prog 111 #[.pointer (some s), lowv, .slice (some ⟨g, off, none⟩) 2 c] w fun e w' => ∃ v', e = .returned (.tuple #[v', .int .i64 0]) ∧ OwnC w' w.heap.size 3 v' (rollL lo n (((y / 65536).tmod n + n).tmod n).toNat) ∧ Kp [] w w' := by
  have HLO := Lib.hid hlo
  rcases hlo with ⟨rfl, rfl⟩ | ⟨gl, rfl, hm, hc⟩
  · simp at hn2; omega
  obtain ⟨k, hk2⟩ : ∃ k : Nat, ((y / 65536).tmod n + n).tmod n = k := ⟨(((y / 65536).tmod n + n).tmod n).toNat, by
    have : 0 ≤ ((y / 65536).tmod n + n).tmod n := Int.tmod_nonneg _ (by have := Int.lt_tmod_of_pos (y / 65536) (b := (n : Int)) (by omega); omega)
    omega⟩
  have hkn : k < n := by have := Int.tmod_lt_of_pos ((y / 65536).tmod n + n) (b := (n : Int)) (by omega); omega
  have hkk : (((y / 65536).tmod n + n).tmod n).toNat = k := by rw [hk2]; simp
  rw [hkk]
  have hkh := Lib.hid hk2
  clear hkk hk2
  obtain ⟨m, hm2⟩ : ∃ m : Nat, m + n = lo.length := ⟨lo.length - n, by omega⟩
  have hd1 : decide ((lo.length : Int) < (n : Int)) = false := decide_eq_false (by omega)
  have hd2 : decide ((n : Int) < 0) = false := decide_eq_false (by omega)
  have hd3 : decide ((n : Int) = 0) = false := decide_eq_false (by omega)
  have hw1 : IntKind.i64.wrap ((lo.length : Int) - n) = m := by rw [IntKind.wrap_i64]; omega
  have hmi : (m : Int) ≤ lo.length := by omega
  have hlm : lo.length - m = n := by omega
  have HI := Lib.hid (show IsInts .i64 w (.slice (some ⟨gl, m, none⟩) n n) (lo.drop m) from .inr ⟨gl, m, n, by simp; omega, by simp; omega, by unfold maxLen; omega, fun i hi => by
    have := hc (m + i) (by simp at hi; omega)
    rw [this]; simp [List.getD_eq_getElem?_getD, List.getElem?_drop]⟩)
  have q0 := KW.cell hx
  have q1 := KW.cell hy
  clear hx hy hc
  have hmh := Lib.hid hm2
  clear hm2
  go_enter Tryz.func111, Tryz.ntmps111
  go_wp2_with fail
  refine wp_region_kq (by kernel_rfl) (by kernel_rfl) ?_
  repeat (go_big_quiet_step (fail))
  refine wpQuiet_nil ?_
  intro w1 hw'
  obtain ⟨⟨_, hkw1⟩, rfl⟩ := hw'
  clear q0 q1
  go_wp2_with fail
  refine (clonei_calls _ (lo.drop m) w1 (HI.out.kp hkw1 (by simp)) (by have := hmh.out; simp; omega)).mono ?_; rintro e w2 ⟨v, rfl, ho, hk, _⟩
  have hDl : (lo.drop m).length = n := by have := hmh.out; simp; omega
  rcases ho with ⟨_, h0⟩ | ⟨g2, c2, cur, rfl, h5, h6, h7, h8, h9, h10⟩
  · rw [h0] at hDl; simp at hDl; omega
  rw [hDl] at *
  have hnc : (n : Int) ≤ c2 := by omega
  have hw2 : IntKind.i64.wrap ((y / 65536).tmod n + n) = (y / 65536).tmod n + n := by have := Int.lt_tmod_of_pos (y / 65536) (b := (n : Int)) (by omega); have := Int.tmod_lt_of_pos (y / 65536) (b := (n : Int)) (by omega); rw [IntKind.wrap_i64]; omega
  have hk2 := hkh.out
  clear hkh
  obtain ⟨q, hq⟩ : ∃ q : Nat, q + k = n := ⟨n - k, by omega⟩
  have hw3 : IntKind.i64.wrap ((n : Int) - k) = q := by rw [IntKind.wrap_i64]; omega
  have hqn : (q : Int) ≤ n := by omega
  have hqc : (q : Int) ≤ c2 := by omega
  have hnq : n - q = k := by omega
  have HF := roll_pieces w2 gl g2 lo m n q k c2 cur hmh.out hq (HLO.out.kp0 (hkw1.trans hk)) h6 h7 h8 h9 h10
  have hc2m : c2 ≤ maxLen := h8
  have hll2 := Lib.hid hll
  have hkw2 : Kp [] w w2 := hkw1.trans hk
  have hsz := hkw2.size
  have hfin : Hid (catN (rollX lo m q) 3 = rollL lo n k) := by
    have e1 : lo.length - n = m := by have := hmh.out; omega
    have e2 : n - k = q := by omega
    show _ = _
    unfold rollL
    rw [e1, e2]; simp [catN, rollX]
  have hlen : Hid ((catN (rollX lo m q) 3).length = lo.length) := by
    show _ = _
    have e1 := hmh.out
    simp [catN, rollX]; omega
  have HCC : Hid (∀ (wz : World) (b : Nat), Kp [] w2 wz → wz.heap[b]? = some (.cells #[.slice (some ⟨gl, 0, none⟩) m lo.length, .slice (if c2 = q then some ⟨g2, 0, none⟩ else some ⟨g2, q, none⟩) k (c2 - q), .slice (some ⟨g2, 0, none⟩) q c2] 24 (0, 0)) →
      Calls Tryz.prog 124 #[.slice (some ⟨b, 0, none⟩) 3 3] wz fun e w' => ∃ p3 c3, e = .returned (.slice p3 lo.length c3) ∧ Hid (OwnC w' w.heap.size 3 (.slice p3 lo.length c3) (rollL lo n k) ∧ Kp [] w w')) := by
    show ∀ _, _
    intro wz b hkz hb
    refine (concat_calls b 3 (rollP gl g2 q c2) (rollX lo m q) (rollC lo c2 q) (by decide) (by rw [hlen.out]; omega) (by rw [hlen.out]; omega) wz (HF.out _ _ hkz _ hb)).mono ?_
    rintro e w3 ⟨v3, rfl, ho3, hk3, hb3⟩
    have ho4 := OwnC_mono ho3 (b' := w.heap.size) (by have := hkz.size; omega)
    obtain ⟨p3, c3, rfl⟩ := ho3.form
    rw [hlen.out] at *
    rw [hfin.out] at *
    exact ⟨p3, c3, rfl, ho4, (hkw2.trans hkz).trans hk3⟩
  clear h5 h6 h7 h8 h9 h10 hq hk hkw1 HLO HI HF hlen hfin hkw2 hsz
  by_cases hcq : c2 = q
  · subst hcq
    simp only [↓reduceIte, Nat.sub_self] at HCC
    go_wp2_with fail
    go_region_held3 (fun _ => True) (trivial)
      ((go_at_call 124; refine (HCC.out _ _ (((Kp.refl [] w2).alloc _).drew) (heap_alloc_new _ _)).mono ?_; rintro e w3 ⟨p3, c3, rfl, hfin⟩))
    go_wp2_with fail
    go_ret2
    exact ⟨_, rfl, hfin.out⟩
  · simp only [if_neg hcq] at HCC
    go_wp2_with fail
    go_region_held3 (fun _ => True) (trivial)
      ((go_at_call 124; refine (HCC.out _ _ (((Kp.refl [] w2).alloc _).drew) (heap_alloc_new _ _)).mono ?_; rintro e w3 ⟨p3, c3, rfl, hfin⟩))
    go_wp2_with fail
    go_ret2
    exact ⟨_, rfl, hfin.out⟩
end Go.Proofs.YtfgpocpfapnkkaaGreat

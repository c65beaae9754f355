/- type2: the law Type2Loops. -/
import Derived.Test.YtfgpocpfapnkkaaGreatTxH
import Derived.Deep.AppendLies
namespace Go.Proofs.YtfgpocpfapnkkaaGreat
open Go.RowKit
set_option linter.unusedVariables false
set_option linter.unusedSimpArgs false
def lpR (n : Nat) (deep : Bool) (i : Nat) : List Int := if i = n then (if deep then [32 + i, 10, 11] else [11]) else [33 + i, 10, 11]
def lpL (n : Nat) (deep : Bool) (j : Nat) : List (List Int) := (List.range j).map (lpR n deep)
theorem lpL_len (n : Nat) (deep : Bool) (j : Nat) : (lpL n deep j).length = j := by simp [lpL]
theorem lpL_at (n : Nat) (deep : Bool) (j i : Nat) (h : i < j) : (lpL n deep j).getD i [] = lpR n deep i := by
  unfold lpL
  rw [List.getD_eq_getElem?_getD, List.getElem?_map, List.getElem?_range h]; rfl
theorem lpR_bytes (n : Nat) (deep : Bool) (i : Nat) (hi : i ≤ 30) : ∀ c ∈ lpR n deep i, 0 ≤ c ∧ c ≤ 255 := by
  unfold lpR
  intro c hc
  split at hc
  · split at hc
    · simp at hc; omega
    · simp at hc; omega
  · simp at hc; omega
set_option maxRecDepth 100000 in
theorem lp_run (n : Nat) (h : n ≤ 30) (deep : Bool) : runM [32, 10, 14] [] (lpL n deep (n + 1)) 0 0 [] = if deep = true ∨ 9 < n then (([], 0, 0), 182) else (([], 0, 3 + 3 * n + 1), 0) := by
  have h1 : n = 0 ∨ n = 1 ∨ n = 2 ∨ n = 3 ∨ n = 4 ∨ n = 5 ∨ n = 6 ∨ n = 7 ∨ n = 8 ∨ n = 9 ∨ n = 10 ∨ n = 11 ∨ n = 12 ∨ n = 13 ∨ n = 14 ∨ n = 15 ∨ n = 16 ∨ n = 17 ∨ n = 18 ∨ n = 19 ∨ n = 20 ∨ n = 21 ∨ n = 22 ∨ n = 23 ∨ n = 24 ∨ n = 25 ∨ n = 26 ∨ n = 27 ∨ n = 28 ∨ n = 29 ∨ n = 30 := by omega
  cases deep <;> rcases h1 with rfl | rfl | rfl | rfl | rfl | rfl | rfl | rfl | rfl | rfl | rfl | rfl | rfl | rfl | rfl | rfl | rfl | rfl | rfl | rfl | rfl | rfl | rfl | rfl | rfl | rfl | rfl | rfl | rfl | rfl | rfl <;> (show runM _ _ _ _ _ _ = _; kernel_rfl)
theorem lpL_succ (n : Nat) (deep : Bool) (j : Nat) : lpL n deep (j + 1) = lpL n deep j ++ [lpR n deep j] := by unfold lpL; rw [List.range_succ, List.map_append]; rfl
theorem infoSub : (Tryz.prog.info? 22).map (fun i => (i.zero, i.size, i.bytes)) = some (some (.slice none 0 0), 1, 24) := by kernel_rfl
/-- A row of subroutines that grows. -/
def SubR (w : World) (n : Nat) (deep : Bool) (j : Nat) (lv : Value) (wr : World) : Prop :=
  ∃ vs : List Value, wr.ownsRow w.heap.size 22 1 lv j vs ∧ (∀ i, i < j → IsInts .u8 wr (vs.getD i nilV) (lpR n deep i) ∧ TagP wr 5 (vs.getD i nilV)) ∧ Kp [] w wr
theorem SubR.push {w wr w1 w2 w4 : World} {n : Nat} {deep : Bool} {j : Nat} {lv bv : Value} {vs : List Value} {g4 c4 : Nat} (h1 : wr.ownsRow w.heap.size 22 1 lv j vs) (h2 : ∀ i, i < j → IsInts .u8 wr (vs.getD i nilV) (lpR n deep i) ∧ TagP wr 5 (vs.getD i nilV)) (h3 : Kp [] w wr)
    (hk1 : Kp [] wr w1) (hb : IsInts .u8 w1 bv (lpR n deep j)) (ht : TagP w1 5 bv) (hk2 : Kp [] w1 w2) (hown : w4.ownsRow w.heap.size 22 1 (.slice (some ⟨g4, 0, none⟩) (j + 1) c4) (j + 1) (vs ++ [bv])) (hgr : w2.grownBy w4 lv.ownBlock) : SubR w n deep (j + 1) (.slice (some ⟨g4, 0, none⟩) (j + 1) c4) w4 := by
  have hvl : vs.length = j := by have := h1.1; omega
  have hk12 := hk1.trans hk2
  have hrow2 := hk12.row h1 (by simp)
  have hk4 : Kp lv.ownBlock.toList w2 w4 := Kp.grown (Kp.refl _ _) hgr (fun k hk => .inl (by rw [hk]; simp))
  have key : ∀ u zs, IsInts .u8 w2 u zs → TagP w2 5 u → IsInts .u8 w4 u zs ∧ TagP w4 5 u := fun u zs a b => by
    have hne : ∀ s ∈ lv.ownBlock.toList, blockOf u ≠ some s := fun s hs e => by
      obtain ⟨cur, z, g⟩ := b s e
      exact own_tag_ne hrow2 g (by decide) (own_mem hs)
    exact ⟨a.kp hk4 hne, b.kp hk4 hne⟩
  refine ⟨vs ++ [bv], hown, fun i hi => ?_, Kp.grown (h3.trans hk12) hgr (fun k hk => .inr (h1.lt k hk).1)⟩
  by_cases e : i < j
  · rw [getD_left (by omega)]
    exact key _ _ ((h2 i e).1.kp hk12 (by simp)) ((h2 i e).2.kp hk12 (by simp))
  · obtain rfl : i = j := by omega
    rw [getD_end hvl.symm]
    exact key _ _ (hb.kp hk2 (by simp)) (ht.kp hk2 (by simp))
theorem lit_ints (w : World) (zs : List Int) (n : Nat) (cs : Array Value) (hn : n = zs.length) (hm : n ≤ maxLen) (hcs : cs = (zs.map (Value.int .u8)).toArray) : IsInts .u8 (w.alloc (.cells cs 5)) (.slice (some ⟨w.heap.size, 0, none⟩) n n) zs ∧ TagP (w.alloc (.cells cs 5)) 5 (.slice (some ⟨w.heap.size, 0, none⟩) n n) := by
  subst hcs; subst hn
  refine ⟨IsInts.owned (e := 5) (base := 0) (n := zs.length) ⟨by simp, .inr ⟨w.heap.size, zs.length, _, rfl, Nat.zero_le _, heap_alloc_new w _, Nat.le_refl _, hm, by simp, by simp only [Nat.mul_one]; exact List.take_of_length_le (by simp)⟩⟩, fun b hbb => ?_⟩
  obtain ⟨_, rfl⟩ := (blockOf_some _ _ _ _ _ _).1 hbb
  exact ⟨_, _, heap_alloc_new w _⟩
theorem SubR.sub {w wr : World} {n : Nat} {deep : Bool} {j : Nat} {lv : Value} (h : SubR w n deep j lv wr) (hj : j ≤ 31) : IsSub wr lv (lpL n deep j) := by
  obtain ⟨vs, h1, h2, h3⟩ := h
  refine ⟨vs, by rw [lpL_len]; exact Reads.owned h1, fun i hi => ?_⟩
  rw [lpL_len] at hi
  rw [lpL_at n deep j i hi]
  obtain ⟨a, b⟩ := h2 i hi
  exact ⟨a, lpR_bytes n deep i (by omega), fun bb e => by obtain ⟨cur, z, g⟩ := b bb e; exact lt_of_block g⟩
set_option maxRecDepth 100000 in
set_option maxHeartbeats 8000000 in
theorem dsame_calls (va vb : Value) (a b : List (List Pn)) (x1 y1 x2 y2 : Int) (w : World) (ha : IsOut w va a) (hb : IsOut w vb b) :
    Calls Tryz.prog 11 #[.agg #[va, .int .i64 x1, .int .i64 y1], .agg #[vb, .int .i64 x2, .int .i64 y2]] w fun e w' => e = .returned (.bool (decide (a = b) && (x1 == x2) && (y1 == y2))) ∧ Kp [] w w' := by
  obtain ⟨pa, ca, rfl⟩ := ha.form
  obtain ⟨pb, cb, rfl⟩ := hb.form
  have HS := Lib.hid (fun W (hk : Kp [] w W) => rsame_calls _ _ a b W (ha.kp0 hk) (hb.kp0 hk))
  generalize decide (a = b) = R at *
  generalize a.length = N at *
  generalize b.length = M at *
  clear ha hb
  go_enter Tryz.func11, Tryz.ntmps11
  go_upto_region 1 with fail
  refine wp_genT ?_; intro W1 hW1
  have hb0 : W1.heap[w.heap.size]? = some (.cells #[.slice pa N ca, .int .i64 x1, .int .i64 y1] 31 (0, 0)) := by rw [hW1]; exact (Below.heap_alloc _ _ _ (by simp)).trans (heap_alloc_new w _)
  have hb1 : W1.heap[w.heap.size + 1]? = some (.cells #[.slice pb M cb, .int .i64 x2, .int .i64 y2] 31 (0, 0)) := by
    rw [hW1]
    have h9 := heap_alloc_new (w.alloc (.cells #[.slice pa N ca, .int .i64 x1, .int .i64 y1] 31)) (.cells #[.slice pb M cb, .int .i64 x2, .int .i64 y2] 31)
    rw [show (w.alloc (.cells #[.slice pa N ca, .int .i64 x1, .int .i64 y1] 31)).heap.size = w.heap.size + 1 by simp] at h9
    exact h9
  have hk1 : Kp [] w W1 := by rw [hW1]; exact ((Kp.refl _ _).alloc _).alloc _
  clear hW1
  generalize w.heap.size = X at *
  have a0 : W1.cell? ⟨X, 0, none⟩ = some (.slice pa N ca) := cell_of_row W1 X 0 _ _ _ hb0
  have b0 : W1.cell? ⟨X + 1, 0, none⟩ = some (.slice pb M cb) := cell_of_row W1 (X + 1) 0 _ _ _ hb1
  have HK1 := Lib.hid hk1
  have HB0 := Lib.hid hb0
  have HB1 := Lib.hid hb1
  clear hk1 hb0 hb1
  go_wp2_with fail
  refine (HS.out _ HK1.out).mono ?_; rintro e w2 ⟨rfl, hk2⟩
  have a1 : w2.cell? ⟨X, 1, none⟩ = some (.int .i64 x1) := cell_of_row w2 X 1 _ _ _ (hk2.heap HB0.out (by simp))
  have a2 : w2.cell? ⟨X, 2, none⟩ = some (.int .i64 y1) := cell_of_row w2 X 2 _ _ _ (hk2.heap HB0.out (by simp))
  have b1 : w2.cell? ⟨X + 1, 1, none⟩ = some (.int .i64 x2) := cell_of_row w2 (X + 1) 1 _ _ _ (hk2.heap HB1.out (by simp))
  have b2 : w2.cell? ⟨X + 1, 2, none⟩ = some (.int .i64 y2) := cell_of_row w2 (X + 1) 2 _ _ _ (hk2.heap HB1.out (by simp))
  have HK2 : Hid (Kp [] w w2) := HK1.out.trans hk2
  clear hk2 a0 b0
  cases R with
  | false =>
    go_wp2_with fail
    go_ret
    exact ⟨by simp, HK2.out⟩
  | true =>
    cases hx : (x1 == x2) with
    | false =>
      go_wp2_with fail
      go_ret
      exact ⟨by rw [hx]; simp, HK2.out⟩
    | true =>
      go_wp2_with fail
      go_ret
      exact ⟨by rw [hx]; simp, HK2.out⟩
theorem IsSub.kp0 {w w' : World} {v : Value} {L : List (List Int)} (h : IsSub w v L) (hk : Kp [] w w') : IsSub w' v L := by
  obtain ⟨vs, h1, h2⟩ := h
  exact ⟨vs, Reads.kp h1 hk (by simp), fun i hi => ⟨(h2 i hi).1.kp hk (by simp), (h2 i hi).2.1, fun b e => Nat.lt_of_lt_of_le ((h2 i hi).2.2 b e) hk.size⟩⟩
/-- Bytes in a block of bytes. -/
def IntsTag (w : World) (v : Value) (zs : List Int) : Prop := IsInts .u8 w v zs ∧ TagP w 5 v
theorem lit_kp {w w' : World} {v : Value} {zs : List Int} (h : IsInts .u8 w v zs ∧ TagP w 5 v) (hk : Kp [] w w') : IntsTag w' v zs := ⟨h.1.kp hk (by simp), h.2.kp hk (by simp)⟩
set_option maxRecDepth 100000 in
set_option maxHeartbeats 16000000 in
theorem law_Type2Loops (n : Int) (deep : Bool) (w : World) : Calls Tryz.prog 5 #[.int .i64 n, .bool deep] w fun e w' => e = .returned (.bool true) ∧ Kp [] w w' := by
  by_cases hin : 0 ≤ n ∧ n ≤ 30
  · obtain ⟨N, rfl⟩ : ∃ N : Nat, n = N := ⟨n.toNat, by omega⟩
    have hN2 : N ≤ 30 := by omega
    have d1 : decide ((N : Int) < 0) = false := decide_eq_false (by omega)
    have d2 : decide ((30 : Int) < (N : Int)) = false := decide_eq_false (by omega)
    obtain ⟨i0, hi0, hz0, hz1, hz2⟩ := info_parts infoSub
    clear hin
    go_enter Tryz.func5, Tryz.ntmps5
    go_wp2_with fail
    go_loopw [5, 6] (fun lv iv wr => ∃ (j : Nat) (p : Option Addr) (q : Nat), j ≤ N + 1 ∧ iv = .int .i64 j ∧ lv = .slice p j q ∧ Hid (SubR w N deep j (.slice p j q) wr)) (fun _ iv _ => N + 1 - (intOf iv).toNat)
    case atStart => exact ⟨0, none, 0, by omega, rfl, rfl, [], World.ownsRow_nil _ _ _ _, fun i hi => absurd hi (by omega), Kp.refl _ _⟩
    case round =>
      obtain ⟨j, p, q, hj, rfl, rfl, HJ⟩ := hrel
      by_cases hlt : j < N + 1
      · obtain ⟨vs, hr1, hr2, hr3⟩ := HJ.out
        have HR1 := Lib.hid hr1
        have HR2 := Lib.hid hr2
        have HR3 := Lib.hid hr3
        have hle : (j : Int) ≤ (N : Int) := by omega
        have hdle : decide ((j : Int) ≤ (N : Int)) = true := decide_eq_true hle
        have hw1 : IntKind.i64.wrap (139 + (j : Int)) = 139 + (j : Int) := by rw [IntKind.wrap_i64]; omega
        have hw2 : IntKind.i64.wrap (139 + (j : Int) + 1) = 139 + (j : Int) + 1 := by rw [IntKind.wrap_i64]; omega
        have hw3 : IntKind.i64.wrap (139 + (j : Int) + 1 - 107) = 33 + (j : Int) := by rw [IntKind.wrap_i64]; omega
        have hw4 : IntKind.u8.wrap (33 + (j : Int)) = 33 + (j : Int) := by simp [IntKind.wrap, IntKind.signed, IntKind.bits]; omega
        have hw5 : IntKind.i64.wrap (139 + (j : Int) - 107) = 32 + (j : Int) := by rw [IntKind.wrap_i64]; omega
        have hw6 : IntKind.u8.wrap (32 + (j : Int)) = 32 + (j : Int) := by simp [IntKind.wrap, IntKind.signed, IntKind.bits]; omega
        clear hr1 hr2 hr3 HJ
        by_cases hjN : j = N
        · have heq : ((j : Int) == (N : Int)) = true := by rw [beq_iff_eq]; omega
          have HJN := Lib.hid hjN
          clear hjN
          cases deep with
          | true =>
            go_upto_region 12 with fail
            refine wp_genT ?_; intro W1 hW1
            have hlit := lit_ints ((wr.alloc (.cells #[.int .u8 (33 + (j : Int)), .int .u8 10, .int .u8 11] 5)).alloc (.cells #[.int .u8 11] 5)) [32 + (j : Int), 10, 11] 3 #[.int .u8 (32 + (j : Int)), .int .u8 10, .int .u8 11] rfl (by decide) rfl
            rw [show ((wr.alloc (.cells #[.int .u8 (33 + (j : Int)), .int .u8 10, .int .u8 11] 5)).alloc (.cells #[.int .u8 11] 5)).heap.size = wr.heap.size + 1 + 1 by simp] at hlit
            replace hlit : IntsTag W1 (.slice (some ⟨wr.heap.size + 1 + 1, 0, none⟩) 3 3) [32 + (j : Int), 10, 11] := lit_kp hlit (by rw [hW1]; exact Kp.refl _ _)
            have hk1 : Kp [] wr W1 := by rw [hW1]; (repeat (first | exact Kp.refl _ _ | assumption | refine Kp.drew ?_ | refine Kp.drewN ?_ _ | refine Kp.alloc ?_ _ | (refine Kp.setCell ?_ (by first | (left; simp; done) | (right; simp; try omega)) _) | (refine Kp.trans' ?_ (by assumption) (by simp; try omega))))
            have hRj : lpR N true j = [32 + (j : Int), 10, 11] := by unfold lpR; rw [if_pos HJN.out]; rfl
            rw [← hRj] at hlit
            have HLIT := Lib.hid hlit
            have HK1 := Lib.hid hk1
            clear hW1 hlit hRj hk1
            go_wp2_with (at_builtin; refine wpList_append_lies _ rfl _ _ 23 rfl w.heap.size 22 i0 (.slice none 0 0) 1 24 Tryz.underlying23 hi0 hz0 hz1 hz2 rfl (by decide) (.slice p j q) j vs rfl ?hown ⟨W1.heap.size, 0, none⟩ 1 1 [.slice (some ⟨wr.heap.size + 1 + 1, 0, none⟩) 3 3] rfl rfl ?hnews ?hone (by decide) ?hm ?hb1 ?hb2 (W1.heap.size + 1) ?hH ?hk)
            case hown => exact Kp.row (S := []) (HK1.out.trans ((Kp.refl _ _).alloc _)) HR1.out (by simp)
            case hnews => exact World.news_of_block (heap_alloc_new W1 _)
            case hone => intro u hu; simp at hu; subst hu; rfl
            case hm => unfold maxLen; omega
            case hb1 => omega
            case hb2 => have := HR3.out.size; have := HK1.out.size; simp; omega
            case hH => simp
            case hk =>
            intro g4 c4 w4 hown hgr hat hlt4
            have HJ2 : Hid (SubR w N true (j + 1) (.slice (some ⟨g4, 0, none⟩) (j + 1) c4) w4) := SubR.push HR1.out HR2.out HR3.out HK1.out HLIT.out.1 HLIT.out.2 ((Kp.refl _ _).alloc _) hown hgr
            clear hown hgr hat hlt4 HR1 HR2 HR3
            go_wp2_with fail
            go_roundw
            case rel => first | exact ⟨j + 1, _, _, by omega, int_eq' (by omega), rfl, HJ2⟩ | ((repeat apply Exists.intro); exact ⟨⟨j + 1, _, _, by omega, int_eq' (by omega), rfl, HJ2⟩, rfl⟩)
            case measure => simp [intOf]; omega
          | false =>
            go_upto_region 12 with fail
            refine wp_genT ?_; intro W1 hW1
            have hlit := lit_ints (wr.alloc (.cells #[.int .u8 (33 + (j : Int)), .int .u8 10, .int .u8 11] 5)) [11] 1 #[.int .u8 11] rfl (by decide) rfl
            rw [show (wr.alloc (.cells #[.int .u8 (33 + (j : Int)), .int .u8 10, .int .u8 11] 5)).heap.size = wr.heap.size + 1 by simp] at hlit
            replace hlit : IntsTag W1 (.slice (some ⟨wr.heap.size + 1, 0, none⟩) 1 1) [11] := lit_kp hlit (by rw [hW1]; exact Kp.refl _ _)
            have hk1 : Kp [] wr W1 := by rw [hW1]; (repeat (first | exact Kp.refl _ _ | assumption | refine Kp.drew ?_ | refine Kp.drewN ?_ _ | refine Kp.alloc ?_ _ | (refine Kp.setCell ?_ (by first | (left; simp; done) | (right; simp; try omega)) _) | (refine Kp.trans' ?_ (by assumption) (by simp; try omega))))
            have hRj : lpR N false j = [11] := by unfold lpR; rw [if_pos HJN.out]; rfl
            rw [← hRj] at hlit
            have HLIT := Lib.hid hlit
            have HK1 := Lib.hid hk1
            clear hW1 hlit hRj hk1
            go_wp2_with (at_builtin; refine wpList_append_lies _ rfl _ _ 23 rfl w.heap.size 22 i0 (.slice none 0 0) 1 24 Tryz.underlying23 hi0 hz0 hz1 hz2 rfl (by decide) (.slice p j q) j vs rfl ?hown ⟨W1.heap.size, 0, none⟩ 1 1 [.slice (some ⟨wr.heap.size + 1, 0, none⟩) 1 1] rfl rfl ?hnews ?hone (by decide) ?hm ?hb1 ?hb2 (W1.heap.size + 1) ?hH ?hk)
            case hown => exact Kp.row (S := []) (HK1.out.trans ((Kp.refl _ _).alloc _)) HR1.out (by simp)
            case hnews => exact World.news_of_block (heap_alloc_new W1 _)
            case hone => intro u hu; simp at hu; subst hu; rfl
            case hm => unfold maxLen; omega
            case hb1 => omega
            case hb2 => have := HR3.out.size; have := HK1.out.size; simp; omega
            case hH => simp
            case hk =>
            intro g4 c4 w4 hown hgr hat hlt4
            have HJ2 : Hid (SubR w N false (j + 1) (.slice (some ⟨g4, 0, none⟩) (j + 1) c4) w4) := SubR.push HR1.out HR2.out HR3.out HK1.out HLIT.out.1 HLIT.out.2 ((Kp.refl _ _).alloc _) hown hgr
            clear hown hgr hat hlt4 HR1 HR2 HR3
            go_wp2_with fail
            go_roundw
            case rel => first | exact ⟨j + 1, _, _, by omega, int_eq' (by omega), rfl, HJ2⟩ | ((repeat apply Exists.intro); exact ⟨⟨j + 1, _, _, by omega, int_eq' (by omega), rfl, HJ2⟩, rfl⟩)
            case measure => simp [intOf]; omega
        · have hne : ((j : Int) == (N : Int)) = false := by rw [beq_eq_false_iff_ne]; omega
          go_upto_region 12 with fail
          refine wp_genT ?_; intro W1 hW1
          have hlit0 := lit_ints wr [33 + (j : Int), 10, 11] 3 #[.int .u8 (33 + (j : Int)), .int .u8 10, .int .u8 11] rfl (by decide) rfl
          have hlit : IntsTag W1 (.slice (some ⟨wr.heap.size, 0, none⟩) 3 3) [33 + (j : Int), 10, 11] := lit_kp hlit0 (by rw [hW1]; (repeat (first | exact Kp.refl _ _ | assumption | refine Kp.drew ?_ | refine Kp.drewN ?_ _ | refine Kp.alloc ?_ _ | (refine Kp.setCell ?_ (by first | (left; simp; done) | (right; simp; try omega)) _) | (refine Kp.trans' ?_ (by assumption) (by simp; try omega)))))
          have hk1 : Kp [] wr W1 := by rw [hW1]; (repeat (first | exact Kp.refl _ _ | assumption | refine Kp.drew ?_ | refine Kp.drewN ?_ _ | refine Kp.alloc ?_ _ | (refine Kp.setCell ?_ (by first | (left; simp; done) | (right; simp; try omega)) _) | (refine Kp.trans' ?_ (by assumption) (by simp; try omega))))
          have hRj : lpR N deep j = [33 + (j : Int), 10, 11] := by unfold lpR; rw [if_neg hjN]
          rw [← hRj] at hlit
          have HLIT := Lib.hid hlit
          have HK1 := Lib.hid hk1
          clear hW1 hlit hRj hk1
          go_wp2_with (at_builtin; refine wpList_append_lies _ rfl _ _ 23 rfl w.heap.size 22 i0 (.slice none 0 0) 1 24 Tryz.underlying23 hi0 hz0 hz1 hz2 rfl (by decide) (.slice p j q) j vs rfl ?hown ⟨W1.heap.size, 0, none⟩ 1 1 [.slice (some ⟨wr.heap.size, 0, none⟩) 3 3] rfl rfl ?hnews ?hone (by decide) ?hm ?hb1 ?hb2 (W1.heap.size + 1) ?hH ?hk)
          case hown => exact Kp.row (S := []) (HK1.out.trans ((Kp.refl _ _).alloc _)) HR1.out (by simp)
          case hnews => exact World.news_of_block (heap_alloc_new W1 _)
          case hone => intro u hu; simp at hu; subst hu; rfl
          case hm => unfold maxLen; omega
          case hb1 => omega
          case hb2 => have := HR3.out.size; have := HK1.out.size; simp; omega
          case hH => simp
          case hk =>
          intro g4 c4 w4 hown hgr hat hlt4
          have HJ2 : Hid (SubR w N deep (j + 1) (.slice (some ⟨g4, 0, none⟩) (j + 1) c4) w4) := SubR.push HR1.out HR2.out HR3.out HK1.out HLIT.out.1 HLIT.out.2 ((Kp.refl _ _).alloc _) hown hgr
          clear hown hgr hat hlt4 HR1 HR2 HR3
          go_wp2_with fail
          go_roundw
          case rel => first | exact ⟨j + 1, _, _, by omega, int_eq' (by omega), rfl, HJ2⟩ | ((repeat apply Exists.intro); exact ⟨⟨j + 1, _, _, by omega, int_eq' (by omega), rfl, HJ2⟩, rfl⟩)
          case measure => simp [intOf]; omega
      · obtain rfl : j = N + 1 := by omega
        have hdle : decide ((((N + 1 : Nat)) : Int) ≤ (N : Int)) = false := decide_eq_false (by omega)
        have HK := Lib.hid HJ.out.choose_spec.2.2
        have HSUB := Lib.hid (HJ.out.sub (by omega))
        clear HJ hj hlt
        have HRUN := Lib.hid (run_calls ⟨.slice (some ⟨wr.heap.size, 0, none⟩) 3 3, .slice none 0 0, .slice p (N + 1) q, 0, 0, .slice none 0 0⟩ [32, 10, 14] [] (lpL N deep (N + 1)) [] (wr.alloc (.cells #[.int .u8 32, .int .u8 10, .int .u8 14] 5)) (bytes_made wr [32, 10, 14] 3 _ rfl (by decide) rfl (by decide)) (sub_nil _) (HSUB.out.kp0 ((Kp.refl _ _).alloc _)) (IsInts.nil _ _) (by decide))
        dsimp only at HRUN
        rw [lp_run N hN2 deep] at HRUN
        clear HSUB
        have hwa : IntKind.i64.wrap (3 * (N : Int)) = 3 * (N : Int) := by rw [IntKind.wrap_i64]; omega
        have hwb : IntKind.i64.wrap (3 + 3 * (N : Int)) = 3 + 3 * (N : Int) := by rw [IntKind.wrap_i64]; omega
        have hwc : IntKind.i64.wrap (3 + 3 * (N : Int) + 1) = 3 + 3 * (N : Int) + 1 := by rw [IntKind.wrap_i64]; omega
        cases deep with
        | true =>
          rw [if_pos (.inl rfl)] at HRUN
          go_wp2_with fail
          refine HRUN.out.mono ?_; rintro e w5 ⟨v5, rfl, ho5, hk5⟩
          obtain ⟨p5, c5, rfl⟩ := ho5.form
          have HO5 := Lib.hid ho5
          have HK5 : Hid (Kp [] w w5) := HK.out.trans (((Kp.refl _ _).alloc _).trans hk5)
          clear ho5 hk5 HRUN
          dsimp only
          go_upto_region 14 with fail
          refine wp_genT ?_; intro W6 hW6
          have hb6 : W6.heap[w5.heap.size]? = some (.cells #[.slice p5 0 c5, .int .i64 0, .int .i64 0] 31 (0, 0)) := by rw [hW6]; exact heap_alloc_new w5 _
          have hk6 : Kp [] w5 W6 := by rw [hW6]; exact (Kp.refl _ _).alloc _
          have HO6 := Lib.hid (HO5.out.kp0 hk6)
          have HK6 : Hid (Kp [] w W6) := HK5.out.trans hk6
          have HB6 := Lib.hid hb6
          generalize w5.heap.size = X at *
          clear hW6 hb6 hk6
          go_wp2_with fail
          refine (lives18_calls W6).mono ?_; rintro e w7 ⟨rfl, hk7⟩
          have b0 : w7.cell? ⟨X, 0, none⟩ = some (.slice p5 0 c5) := cell_of_row w7 X 0 _ _ _ (hk7.heap HB6.out (by simp))
          have b1 : w7.cell? ⟨X, 1, none⟩ = some (.int .i64 0) := cell_of_row w7 X 1 _ _ _ (hk7.heap HB6.out (by simp))
          have b2 : w7.cell? ⟨X, 2, none⟩ = some (.int .i64 0) := cell_of_row w7 X 2 _ _ _ (hk7.heap HB6.out (by simp))
          have HO7 := Lib.hid (HO6.out.kp0 hk7)
          have HK7 : Hid (Kp [] w w7) := HK6.out.trans hk7
          clear hk7
          go_wp2_with fail
          refine (dsame_calls (.slice p5 0 c5) (.slice none 0 0) [] [] 0 0 0 0 w7 HO7.out (IsOut.nil _ _)).mono ?_; rintro e w8 ⟨rfl, hk8⟩
          have HK8 : Hid (Kp [] w w8) := HK7.out.trans hk8
          clear hk8
          go_wp2_with fail
          go_ret
          exact ⟨by simp, HK8.out⟩
        | false =>
          by_cases h9 : 9 < N
          · rw [if_pos (.inr h9)] at HRUN
            have hd9 : decide ((9 : Int) < (N : Int)) = true := decide_eq_true (by omega)
            clear h9
            go_wp2_with fail
            refine HRUN.out.mono ?_; rintro e w5 ⟨v5, rfl, ho5, hk5⟩
            obtain ⟨p5, c5, rfl⟩ := ho5.form
            have HO5 := Lib.hid ho5
            have HK5 : Hid (Kp [] w w5) := HK.out.trans (((Kp.refl _ _).alloc _).trans hk5)
            clear ho5 hk5 HRUN
            dsimp only
            go_upto_region 14 with fail
            refine wp_genT ?_; intro W6 hW6
            have hb6 : W6.heap[w5.heap.size]? = some (.cells #[.slice p5 0 c5, .int .i64 0, .int .i64 0] 31 (0, 0)) := by rw [hW6]; exact heap_alloc_new w5 _
            have hk6 : Kp [] w5 W6 := by rw [hW6]; exact (Kp.refl _ _).alloc _
            have HO6 := Lib.hid (HO5.out.kp0 hk6)
            have HK6 : Hid (Kp [] w W6) := HK5.out.trans hk6
            have HB6 := Lib.hid hb6
            generalize w5.heap.size = X at *
            clear hW6 hb6 hk6
            go_wp2_with fail
            refine (lives18_calls W6).mono ?_; rintro e w7 ⟨rfl, hk7⟩
            have b0 : w7.cell? ⟨X, 0, none⟩ = some (.slice p5 0 c5) := cell_of_row w7 X 0 _ _ _ (hk7.heap HB6.out (by simp))
            have b1 : w7.cell? ⟨X, 1, none⟩ = some (.int .i64 0) := cell_of_row w7 X 1 _ _ _ (hk7.heap HB6.out (by simp))
            have b2 : w7.cell? ⟨X, 2, none⟩ = some (.int .i64 0) := cell_of_row w7 X 2 _ _ _ (hk7.heap HB6.out (by simp))
            have HO7 := Lib.hid (HO6.out.kp0 hk7)
            have HK7 : Hid (Kp [] w w7) := HK6.out.trans hk7
            clear hk7
            go_wp2_with fail
            refine (dsame_calls (.slice p5 0 c5) (.slice none 0 0) [] [] 0 0 0 0 w7 HO7.out (IsOut.nil _ _)).mono ?_; rintro e w8 ⟨rfl, hk8⟩
            have HK8 : Hid (Kp [] w w8) := HK7.out.trans hk8
            clear hk8
            go_wp2_with fail
            go_ret
            exact ⟨by simp, HK8.out⟩
          · rw [if_neg (by simp; omega)] at HRUN
            have hd9 : decide ((9 : Int) < (N : Int)) = false := decide_eq_false (by omega)
            have hst : (((3 + 3 * N + 1 : Nat)) : Int) = 3 + 3 * (N : Int) + 1 := by omega
            have HST := Lib.hid hst
            clear h9 hst
            go_wp2_with fail
            refine HRUN.out.mono ?_; rintro e w5 ⟨v5, rfl, ho5, hk5⟩
            obtain ⟨p5, c5, rfl⟩ := ho5.form
            have HK5 : Hid (Kp [] w w5) := HK.out.trans (((Kp.refl _ _).alloc _).trans hk5)
            clear ho5 hk5 HRUN
            dsimp only
            rw [HST.out]
            go_upto_region 14 with fail
            refine wp_genT ?_; intro W6 hW6
            have hb6 : W6.heap[w5.heap.size]? = some (.cells #[.slice p5 0 c5, .int .i64 0, .int .i64 (3 + 3 * (N : Int) + 1)] 31 (0, 0)) := by rw [hW6]; exact heap_alloc_new w5 _
            have hk6 : Kp [] w5 W6 := by rw [hW6]; exact (Kp.refl _ _).alloc _
            have HK6 : Hid (Kp [] w W6) := HK5.out.trans hk6
            have HB6 := Lib.hid hb6
            generalize w5.heap.size = X at *
            clear hW6 hb6 hk6
            go_wp2_with fail
            refine (lives18_calls W6).mono ?_; rintro e w7 ⟨rfl, hk7⟩
            have b0 : w7.cell? ⟨X, 0, none⟩ = some (.slice p5 0 c5) := cell_of_row w7 X 0 _ _ _ (hk7.heap HB6.out (by simp))
            have b2 : w7.cell? ⟨X, 2, none⟩ = some (.int .i64 (3 + 3 * (N : Int) + 1)) := cell_of_row w7 X 2 _ _ _ (hk7.heap HB6.out (by simp))
            have HK7 : Hid (Kp [] w w7) := HK6.out.trans hk7
            clear hk7
            go_wp2_with fail
            go_ret
            exact ⟨by simp, HK7.out⟩
  · by_cases h1 : n < 0
    · have d1 : decide (n < 0) = true := decide_eq_true h1
      go_enter Tryz.func5, Tryz.ntmps5
      go_wp2_with fail
      refine (lives18_calls _).mono ?_; rintro e w1 ⟨rfl, hk⟩
      go_wp2_with fail
      go_ret
      exact ⟨rfl, hk⟩
    · have d1 : decide (n < 0) = false := decide_eq_false h1
      have d2 : decide (30 < n) = true := decide_eq_true (by omega)
      go_enter Tryz.func5, Tryz.ntmps5
      go_wp2_with fail
      refine (lives18_calls _).mono ?_; rintro e w1 ⟨rfl, hk⟩
      go_wp2_with fail
      go_ret
      exact ⟨rfl, hk⟩
end Go.Proofs.YtfgpocpfapnkkaaGreat

/- type2: right, strokes, the closure of draw; what was drawn as an outline · type2: what was drawn, as an outline. (Merged by wip/tools/mergetpl.py out of TyK, TyL.) -/
import Derived.Test.YtfgpocpfapnkkaaGreatTxC
namespace Go.Proofs.YtfgpocpfapnkkaaGreat
open Go.RowKit
set_option linter.unusedVariables false
set_option linter.unusedSimpArgs false
theorem sk_small : ∀ s ∈ sks, s.least ≤ 13 ∧ s.by_ ≤ 6 ∧ s.over ≤ 1 ∧ 0 ≤ s.op ∧ s.op ≤ 293 := by decide
set_option maxRecDepth 100000 in
set_option maxHeartbeats 8000000 in
theorem right_calls (s : Sk) (n : Nat) (h1 : s.least ≤ 13) (h2 : s.by_ ≤ 6) (h3 : s.over ≤ 1) (hn : n ≤ 1000) (w : World) :
    Calls Tryz.prog 61 #[.agg (skCells s), .int .i64 n] w fun r w' => r = .returned (.bool (skOk s n)) ∧ Kp [] w w' := by
  obtain ⟨op, L, D, V, W, k, F⟩ := s
  have HR : Hid (skOk ⟨op, L, D, V, W, k, F⟩ n = if D = 0 then decide (n = L) else decide (L ≤ n) && decide ((n - L) % D ≤ V)) := rfl
  rw [show skCells ⟨op, L, D, V, W, k, F⟩ = #[.int .i64 op, .int .i64 L, .int .i64 D, .int .i64 V, .bool W, .func (.func k) #[] #[]] from rfl]
  generalize skOk ⟨op, L, D, V, W, k, F⟩ n = R at *
  dsimp only at h1 h2 h3
  go_enter Tryz.func61, Tryz.ntmps61
  go_upto_region 1 with fail
  refine wp_genT ?_; intro W1 hW1
  have hk1 : Kp [] w W1 := by rw [hW1]; (repeat (first | exact Kp.refl _ _ | assumption | refine Kp.drew ?_ | refine Kp.drewN ?_ _ | refine Kp.alloc ?_ _ | (refine Kp.setCell ?_ (by first | (left; simp; done) | (right; simp; try omega)) _) | (refine Kp.trans' ?_ (by assumption) (by simp; try omega))))
  have hb : W1.heap[w.heap.size]? = some (.cells #[.int .i64 op, .int .i64 L, .int .i64 D, .int .i64 V, .bool W, .func (.func k) #[] #[]] 88 (0, 0)) := by rw [hW1]; exact heap_alloc_new w _
  have b1 := cell_of_row W1 w.heap.size 1 _ _ _ hb
  have b2 := cell_of_row W1 w.heap.size 2 _ _ _ hb
  have b3 := cell_of_row W1 w.heap.size 3 _ _ _ hb
  replace b1 : W1.cell? ⟨w.heap.size, 1, none⟩ = some (.int .i64 L) := b1
  replace b2 : W1.cell? ⟨w.heap.size, 2, none⟩ = some (.int .i64 D) := b2
  replace b3 : W1.cell? ⟨w.heap.size, 3, none⟩ = some (.int .i64 V) := b3
  generalize w.heap.size = B at *
  clear hW1 hb
  by_cases hD : D = 0
  · subst hD
    rw [if_pos rfl] at HR
    have hd : decide ((n : Int) = (L : Int)) = decide (n = L) := decide_eq_decide.2 (by omega)
    have hd2 : ((n : Int) == (L : Int)) = decide (n = L) := by rw [← hd]; rfl
    go_wp2_with fail
    go_ret
    exact ⟨by rw [HR.out]; simp, hk1⟩
  · rw [if_neg hD] at HR
    have hD2 : ((D : Int) == 0) = false := by rw [beq_eq_false_iff_ne]; omega
    by_cases hL : L ≤ n
    · obtain ⟨m, hm⟩ : ∃ m, n = L + m := ⟨n - L, by omega⟩
      subst hm
      rw [decide_eq_true hL, Bool.true_and, Nat.add_sub_cancel_left] at HR
      obtain ⟨M, hM⟩ : ∃ M, m % D = M := ⟨_, rfl⟩
      rw [hM] at HR
      have hMD : M < D := by rw [← hM]; exact Nat.mod_lt _ (by omega)
      have ht : (m : Int).tmod (D : Int) = (M : Int) := by rw [← hM, Int.tmod_eq_emod_of_nonneg (by omega)]; omega
      have hs : IntKind.i64.wrap ((L : Int) + (m : Int) - (L : Int)) = (m : Int) := by rw [IntKind.wrap_i64]; omega
      have hs2 : ((L : Int) + (m : Int) - (L : Int)) = (m : Int) := by omega
      have hwm : IntKind.i64.wrap (M : Int) = (M : Int) := by rw [IntKind.wrap_i64]; omega
      have hLm : (L : Int) ≤ (L : Int) + (m : Int) := by omega
      have hd : decide ((M : Int) ≤ (V : Int)) = decide (M ≤ V) := decide_eq_decide.2 (by omega)
      have hD3 : ¬ ((D : Int) = 0) := by omega
      clear hM hL hD
      go_wp2_with fail
      have q1 := KW.cell b1
      have q2 := KW.cell b2
      have q3 := KW.cell b3
      clear b1 b2 b3
      refine wp_region_kq (by kernel_rfl) (by kernel_rfl) ?_
      repeat (go_big_quiet_step (fail))
      refine wpQuiet_nil ?_
      intro w2 hw'
      obtain ⟨⟨_, hkw2⟩, rfl⟩ := hw'
      clear q1 q2 q3
      go_wp2_with fail
      go_ret
      exact ⟨by rw [HR.out]; simp, hk1.trans hkw2⟩
    · rw [decide_eq_false hL, Bool.false_and] at HR
      have hLd : decide ((L : Int) ≤ (n : Int)) = false := decide_eq_false (by omega)
      have hLn : ¬ ((L : Int) ≤ (n : Int)) := by omega
      go_wp2_with fail
      have q1 := KW.cell b1
      have q2 := KW.cell b2
      have q3 := KW.cell b3
      clear b1 b2 b3
      refine wp_region_kq (by kernel_rfl) (by kernel_rfl) ?_
      repeat (go_big_quiet_step (fail))
      refine wpQuiet_nil ?_
      intro w2 hw'
      obtain ⟨⟨_, hkw2⟩, rfl⟩ := hw'
      clear q1 q2 q3
      go_wp2_with fail
      go_ret
      exact ⟨by rw [HR.out]; simp, hk1.trans hkw2⟩
/-- The cells of all strokes. -/
def skFlat : List Value := sks.flatMap fun s => (skCells s).toList
set_option maxRecDepth 100000 in
set_option maxHeartbeats 8000000 in
theorem strokes_calls (w : World) : Calls Tryz.prog 59 #[] w fun r w' => r = .returned (.slice (some ⟨w.heap.size, 0, none⟩) 17 17) ∧ Kp [] w w' ∧ w'.heap[w.heap.size]? = some (.cells skFlat.toArray 88 (0, 0)) := by
  go_enter Tryz.func59, Tryz.ntmps59
  go_wp2_with fail
  go_ret
  exact ⟨by simp, by (repeat (first | exact Kp.refl _ _ | assumption | refine Kp.drew ?_ | refine Kp.drewN ?_ _ | refine Kp.alloc ?_ _ | (refine Kp.setCell ?_ (by first | (left; simp; done) | (right; simp; try omega)) _) | (refine Kp.trans' ?_ (by assumption) (by simp; try omega)))), (heap_alloc_new w _).trans (by kernel_rfl)⟩
theorem draw1_calls (b : Nat) (s : Sk) (n : Nat) (w : World) (h1 : s.least ≤ 13) (hn : n ≤ 1000) (h : w.heap[b]? = some (.cells (skCells s) 88 (0, 0))) :
    Calls Tryz.prog 60 #[.int .i64 n, .pointer (some ⟨b, 0, none⟩)] w fun r w' => r = .returned (.bool (s.wide && decide (n = s.least + 1))) ∧ w = w' := by
  obtain ⟨op, L, D, V, W, k, F⟩ := s
  have b1 : w.cell? ⟨b, 1, none⟩ = some (.int .i64 L) := cell_of_row w b 1 _ _ _ h
  have b4 : w.cell? ⟨b, 4, none⟩ = some (.bool W) := cell_of_row w b 4 _ _ _ h
  dsimp only at h1
  have hd : decide ((n : Int) = (L : Int) + 1) = decide (n = L + 1) := decide_eq_decide.2 (by omega)
  have hd2 : ((n : Int) == (L : Int) + 1) = decide (n = L + 1) := by rw [← hd]; rfl
  clear h
  cases W
  · go_enter Tryz.func60, Tryz.ntmps60
    go_wp2_with fail
    go_ret
    exact ⟨rfl, rfl⟩
  · go_enter Tryz.func60, Tryz.ntmps60
    go_wp2_with fail
    go_ret
    exact ⟨by simp, rfl⟩
end Go.Proofs.YtfgpocpfapnkkaaGreat
namespace Go.Proofs.YtfgpocpfapnkkaaGreat
open Go.RowKit
set_option linter.unusedVariables false
set_option linter.unusedSimpArgs false
def longO (l : List (List Pn)) : List (List Pn) := l.filter fun c => decide (1 < c.length)
theorem longO_take (l : List (List Pn)) (j : Nat) (h : j < l.length) : longO (l.take (j + 1)) = longO (l.take j) ++ (if 1 < (l.getD j []).length then [l.getD j []] else []) := by
  unfold longO
  rw [List.take_succ_eq_append_getElem h, List.filter_append, List.getD_eq_getElem?_getD, List.getElem?_eq_getElem h]
  congr 1
  by_cases hc : 1 < l[j].length
  · simp [hc]
  · simp [hc]
/-- The block of a value holds points. -/
def TagP (w : World) (t : TypeId) (v : Value) : Prop := ∀ b, blockOf v = some b → ∃ cur z, w.heap[b]? = some (.cells cur t z)
theorem TagP.kp {S : List Nat} {w w' : World} {t : TypeId} {v : Value} (h : TagP w t v) (hk : Kp S w w') (hS : ∀ s ∈ S, blockOf v ≠ some s) : TagP w' t v := fun b e => by
  obtain ⟨cur, z, g⟩ := h b e
  exact ⟨cur, z, hk.heap g (fun hs => hS b hs e)⟩
/-- An outline whose rows lie in blocks of points. -/
def OutT (w : World) (v : Value) (o : List (List Pn)) : Prop :=
  ∃ us : List Value, Reads 1 w v o.length us ∧ TagP w 36 v ∧ ∀ i, i < o.length → IsPs w (us.getD i nilV) (o.getD i []) ∧ TagP w 38 (us.getD i nilV)
theorem OutT.out {w : World} {v : Value} {o : List (List Pn)} (h : OutT w v o) : IsOut w v o := by
  obtain ⟨us, h1, h2, h3⟩ := h
  exact ⟨us, h1, fun i hi => (h3 i hi).1⟩
theorem OutT.kp0 {w w' : World} {v : Value} {o : List (List Pn)} (h : OutT w v o) (hk : Kp [] w w') : OutT w' v o := by
  obtain ⟨us, h1, h2, h3⟩ := h
  exact ⟨us, Reads.kp h1 hk (by simp), h2.kp hk (by simp), fun i hi => ⟨(h3 i hi).1.kp0 hk, (h3 i hi).2.kp hk (by simp)⟩⟩
theorem OutT.far {w w' : World} {v : Value} {o : List (List Pn)} {b : Nat} {cur : Array Value} {t : TypeId} {z : Nat × Nat} (h : OutT w v o) (hk : Kp [b] w w') (hb : w.heap[b]? = some (.cells cur t z)) (h1 : t ≠ 36) (h2 : t ≠ 38) : OutT w' v o := by
  obtain ⟨us, g1, g2, g3⟩ := h
  have ne : ∀ t2 u, TagP w t2 u → t ≠ t2 → ∀ s ∈ [b], blockOf u ≠ some s := fun t2 u hu hne s hs e => by
    simp at hs; subst hs
    obtain ⟨cur2, z2, g⟩ := hu _ e
    rw [hb] at g; cases g; exact hne rfl
  exact ⟨us, Reads.kp g1 hk (ne _ _ g2 h1), g2.kp hk (ne _ _ g2 h1), fun i hi => ⟨(g3 i hi).1.kp hk (ne _ _ (g3 i hi).2 h2), (g3 i hi).2.kp hk (ne _ _ (g3 i hi).2 h2)⟩⟩
/-- Contours that are gathered. -/
def GaT (w : World) (l : List (List Pn)) (j : Nat) (ov : Value) (n : Nat) (wr : World) : Prop :=
  ∃ us : List Value, wr.ownsRow w.heap.size 36 1 ov n us ∧ n = (longO (l.take j)).length ∧ (∀ i, i < n → IsPs w (us.getD i nilV) ((longO (l.take j)).getD i []) ∧ TagP w 38 (us.getD i nilV)) ∧ Kp [] w wr
set_option maxRecDepth 100000 in
set_option maxHeartbeats 8000000 in
theorem poutline_calls (p B : Nat) (q : Pe) (w : World) (h : PenA w p B q) (hl : q.l.length ≤ 100000) :
    Calls Tryz.prog 19 #[.pointer (some ⟨p, 0, none⟩)] w fun r w' => ∃ v, r = .returned v ∧ OutT w' v (longO q.l) ∧ Kp [] w w' := by
  obtain ⟨lv, vs, h1, h2, h3⟩ := h
  obtain ⟨_, _, c2, _⟩ := h1.facts
  obtain ⟨pl, cl, rfl⟩ := slice_own h3.row
  have H3 := Lib.hid h3
  obtain ⟨i0, hi0, hz0, hz1, hz2⟩ := info_parts infoPsT
  have hG0 : Hid (GaT w q.l 0 (.slice none 0 0) 0 w) := ⟨[], World.ownsRow_nil _ _ _ _, by simp [longO], fun i hi => absurd hi (by omega), Kp.refl _ _⟩
  obtain ⟨L, hL⟩ : ∃ L, q.l = L := ⟨_, rfl⟩
  rw [hL] at H3 c2 hl hG0 ⊢
  have hvl : vs.length = L.length := by have := H3.out.row.1; omega
  have HVL := Lib.hid hvl
  obtain ⟨N, hN⟩ : ∃ N, L.length = N := ⟨_, rfl⟩
  have HN := Lib.hid hN
  rw [hN] at hl c2
  clear h1 h3 h2 hL hvl hN
  go_enter Tryz.func19, Tryz.ntmps19
  go_wp2_with fail
  go_loopw [3, 11] (fun ov iv wr => ∃ (j n : Nat) (po : Option Addr) (co : Nat), j ≤ N ∧ iv = .int .i64 j ∧ ov = .slice po n co ∧ n ≤ j ∧ Hid (GaT w L j (.slice po n co) n wr)) (fun _ iv _ => N - (intOf iv).toNat)
  case atStart => exact ⟨0, 0, _, _, by omega, rfl, rfl, by omega, hG0⟩
  case round =>
    obtain ⟨j, n, po, co, hj, rfl, rfl, hnj, HJ⟩ := hrel
    clear hG0
    by_cases hlt : j < N
    · have hjl : j < L.length := by rw [HN.out]; exact hlt
      obtain ⟨c, hc⟩ : ∃ c, L.getD j [] = c := ⟨_, rfl⟩
      have hr := H3.out.each j hjl
      rw [hc] at hr
      obtain ⟨pu, cu, hu⟩ := slice_own hr
      obtain ⟨gl, rfl⟩ : ∃ gl, pl = some ⟨gl, 0, none⟩ := by
        rcases H3.out.row.2 with ⟨_, h0⟩ | ⟨g, cap, cur, hv, _⟩
        · omega
        · exact ⟨g, by simpa using (Value.slice.inj hv).1⟩
      have hcu : w.cell? ⟨gl, j, none⟩ = some (.slice pu c.length cu) := by
        have := H3.out.row.cells (g := gl) rfl j (.slice pu c.length cu) (by rw [← hu, List.getD_eq_getElem?_getD, List.getElem?_eq_getElem (by rw [HVL.out]; exact hjl)]; rfl)
        have hadd : (⟨gl, 0, none⟩ : Addr).add j = ⟨gl, 0 + j, none⟩ := by unfold Addr.add; split <;> simp_all
        rw [hadd, Nat.zero_add] at this; exact this
      have HPS : Hid (IsPs w (.slice pu c.length cu) c ∧ TagP w 38 (.slice pu c.length cu)) := by rw [hu] at hr; exact ⟨IsPs.owned rfl hr, fun b e => (ownsRow_tag hr b (blockOf_own e)).2⟩
      have HLT : Hid (longO (L.take (j + 1)) = longO (L.take j) ++ (if 1 < c.length then [c] else [])) := by show _ = _; rw [longO_take L j hjl, hc]
      obtain ⟨us, hr1, hr2, hr3, hr4⟩ := HJ.out
      have HUS := Lib.hid hr1
      have HG2 := Lib.hid hr2
      have HG3 := Lib.hid hr3
      have HK := Lib.hid hr4
      have c0 := hr4.cell hcu (by simp)
      have hsz : w.heap.size ≤ wr.heap.size := hr4.size
      obtain ⟨m, hm⟩ : ∃ m, c.length = m := ⟨_, rfl⟩
      rw [hm] at HPS c0 HLT
      clear hr hu hcu hr1 hr2 hr3 hr4 HJ hc hm
      by_cases hlong : 1 < m
      · rw [if_pos hlong] at HLT
        go_wp2_with (at_builtin; refine wpList_append_lies _ rfl _ _ 29 rfl w.heap.size 36 i0 (.slice none 0 0) 1 24 Tryz.underlying29 hi0 hz0 hz1 hz2 rfl (by decide) (.slice po n co) n us rfl ?hown ⟨wr.heap.size, 0, none⟩ 1 1 [.slice pu m cu] rfl rfl ?hnews ?hone (by decide) ?hm ?hb1 ?hb2 (wr.heap.size + 1) ?hH ?hk)
        case hown => exact Kp.row (S := []) (by (repeat (first | exact Kp.refl _ _ | assumption | refine Kp.drew ?_ | refine Kp.drewN ?_ _ | refine Kp.alloc ?_ _ | (refine Kp.setCell ?_ (by first | (left; simp; done) | (right; simp; try omega)) _) | (refine Kp.trans' ?_ (by assumption) (by simp; try omega))))) HUS.out (by simp)
        case hnews => exact World.news_of_block (heap_alloc_new wr _)
        case hone => intro u hu; simp at hu; subst hu; rfl
        case hm => unfold maxLen; omega
        case hb1 => omega
        case hb2 => simp; omega
        case hH => simp
        case hk =>
        intro g4 c4 w4 hown hgr hat hlt4
        have HJ2 : Hid (GaT w L (j + 1) (.slice (some ⟨g4, 0, none⟩) (n + 1) c4) (n + 1) w4) := by
          have hul : us.length = n := by have := HUS.out.1; omega
          refine ⟨us ++ [.slice pu m cu], hown, by rw [HLT.out, List.length_append, ← HG2.out]; rfl, fun i hi => ?_, ?_⟩
          · rw [HLT.out]
            by_cases e : i < n
            · rw [getD_left (by omega), getD_left (by rw [← HG2.out]; exact e)]; exact HG3.out i e
            · rw [getD_end (by omega), getD_end (by rw [← HG2.out]; omega)]; exact HPS.out
          · exact Kp.grown (HK.out.trans ((Kp.refl _ _).alloc _)) hgr (fun k hk => .inr (HUS.out.lt k hk).1)
        clear hown hgr hat hlt4 c0
        go_wp2_with fail
        go_roundw
        case rel => first | exact ⟨j + 1, n + 1, _, _, by omega, int_eq' (by omega), rfl, by omega, HJ2⟩ | ((repeat apply Exists.intro); exact ⟨⟨j + 1, n + 1, _, _, by omega, int_eq' (by omega), rfl, by omega, HJ2⟩, rfl⟩)
        case measure => simp [intOf]; omega
      · rw [if_neg hlong, List.append_nil] at HLT
        have HJ2 : Hid (GaT w L (j + 1) (.slice po n co) n wr) := ⟨us, HUS.out, by rw [HLT.out]; exact HG2.out, by rw [HLT.out]; exact HG3.out, HK.out⟩
        go_wp2_with fail
        go_roundw
        case rel => first | exact ⟨j + 1, n, _, _, by omega, int_eq' (by omega), rfl, by omega, HJ2⟩ | ((repeat apply Exists.intro); exact ⟨⟨j + 1, n, _, _, by omega, int_eq' (by omega), rfl, by omega, HJ2⟩, rfl⟩)
        case measure => simp [intOf]; omega
    · obtain rfl : j = N := by omega
      have HE := HJ.out
      have hE : Hid (OutT wr (.slice po n co) (longO L) ∧ Kp [] w wr) := by
        obtain ⟨us, hr1, hr2, hr3, hr4⟩ := HE
        rw [List.take_of_length_le (by rw [HN.out]; exact Nat.le_refl _)] at hr2 hr3
        refine ⟨⟨us, ?_, fun b e => (ownsRow_tag hr1 b (blockOf_own e)).2, fun i hi => ⟨(hr3 i (by omega)).1.kp0 hr4, (hr3 i (by omega)).2.kp hr4 (by simp)⟩⟩, hr4⟩
        rw [← hr2]; exact Reads.owned hr1
      clear HE HJ
      go_wp2_with fail
      go_ret
      exact ⟨_, rfl, hE.out.1, hE.out.2⟩
end Go.Proofs.YtfgpocpfapnkkaaGreat

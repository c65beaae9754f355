/- type2: the pen's lines and curves · type2: what the pen draws of numbers: lines, steps, curves · type2: the number that is over ahead of fours · type2: curves by fours. (Written by wip/type2/gentyd.py.) · type2: curves in turn. (Written by wip/type2/gentyd.py.). (Merged by wip/tools/mergetpl.py out of TyC, TyD, TyE, TyF, TyG.) -/
import Derived.Test.YtfgpocpfapnkkaaGreatTxA
import Derived.Test.YtfgpocpfapnkkaaGreatQuiet
import Derived.Deep.DeepCutAuto
import Derived.Test.YtfgpocpfapnkkaaGreatPlan
namespace Go.Proofs.YtfgpocpfapnkkaaGreat
open Go.RowKit
set_option linter.unusedVariables false
set_option linter.unusedSimpArgs false
theorem failP_e (q : Pe) (e : Int) (he : e ≠ 0) : (failP q e).e ≠ 0 := by
  unfold failP; split
  · exact he
  · rename_i h; exact h
theorem failP_keep (q : Pe) (e : Int) (h : q.e ≠ 0) : failP q e = q := if_neg h
theorem toP_e (q : Pe) (dx dy : Int) (h : (toP q dx dy).e = 0) : q.n + 1 ≤ 4096 := by
  unfold toP at h
  by_cases hc : 4096 < q.n + 1
  · rw [if_pos hc] at h; exact absurd h (failP_e _ _ (by decide))
  · omega
theorem okP_fail {q : Pe} (ok : okP q) (e : Int) : okP (failP q e) := by
  obtain ⟨h1, h2, h3, h4, h5⟩ := ok
  unfold failP
  split
  · rename_i h; exact ⟨h1, h2, fun _ => h3 h, h4, h5⟩
  · exact ⟨h1, h2, h3, h4, h5⟩
theorem okP_move {q : Pe} (ok : okP q) (dx dy : Int) : okP (moveP q dx dy) := by
  unfold moveP
  split
  · rename_i he
    obtain ⟨h1, h2, h3, h4, h5⟩ := ok
    have h6 := h3 he
    refine ⟨?_, ?_, fun h => ?_, ?_, fun c hc => ?_⟩
    · show 0 ≤ (toP q dx dy).n; rw [toP_n]; omega
    · show (toP q dx dy).n ≤ 4097; rw [toP_n]; omega
    · show (toP q dx dy).n ≤ 4096; rw [toP_n]; exact toP_e q dx dy h
    · show ((q.l ++ [[toPt q dx dy 1]]).length : Int) ≤ (toP q dx dy).n
      rw [toP_n, List.length_append, List.length_singleton]; omega
    · show (c.length : Int) ≤ (toP q dx dy).n
      rw [toP_n]
      rcases List.mem_append.1 hc with h | h
      · have := h5 c h; omega
      · simp at h; subst h; simp; omega
  · exact ok
theorem okP_put {q : Pe} (ok : okP q) (dx dy k : Int) : okP (putP q dx dy k) := by
  unfold putP
  split
  · rename_i he
    split
    · exact okP_fail ok 180
    · rename_i hne
      obtain ⟨h1, h2, h3, h4, h5⟩ := ok
      have h6 := h3 he
      refine ⟨?_, ?_, fun h => ?_, ?_, fun c hc => ?_⟩
      · show 0 ≤ (toP q dx dy).n; rw [toP_n]; omega
      · show (toP q dx dy).n ≤ 4097; rw [toP_n]; omega
      · show (toP q dx dy).n ≤ 4096; rw [toP_n]; exact toP_e q dx dy h
      · show ((q.l.dropLast ++ [q.l.getLastD [] ++ [toPt q dx dy k]]).length : Int) ≤ (toP q dx dy).n
        rw [toP_n, List.length_append, List.length_singleton, List.length_dropLast]; omega
      · show (c.length : Int) ≤ (toP q dx dy).n
        rw [toP_n]
        rcases List.mem_append.1 hc with h | h
        · have := h5 c (List.dropLast_subset _ h); omega
        · simp only [List.mem_singleton] at h
          subst h
          have hm : q.l.getLastD [] ∈ q.l := by
            cases hq : q.l with
            | nil => exact absurd hq hne
            | cons a t => rw [List.getLastD_cons]; exact List.getLastD_mem_cons
          have := h5 _ hm
          rw [List.length_append, List.length_singleton]; omega
  · exact ok
/-- What a pen's operation leaves. -/
def PenP (w : World) (p B : Nat) (q' : Pe) (r : Ending) (w' : World) : Prop := r = .returned (.tuple #[]) ∧ PenA w' p B q' ∧ KT [] penTs B w w'
theorem RdI.pen {w w' : World} {b0 B : Nat} {v : Value} {xs : List Int} (h : RdI w b0 v xs) (k : KT [] penTs B w w') : RdI w' b0 v xs := h.kt k (by simp) (by decide)
theorem RdI.kp0 {w w' : World} {b0 : Nat} {v : Value} {xs : List Int} (h : RdI w b0 v xs) (k : Kp [] w w') : RdI w' b0 v xs := h.kt (KT.of_kp0 (S := []) (Ts := []) (base := 0) k) (by simp) (by simp)
theorem PenA.kp0 {w w' : World} {p B : Nat} {q : Pe} (h : PenA w p B q) (k : Kp [] w w') : PenA w' p B q := h.kt (KT.of_kp0 (S := []) (Ts := []) (base := 0) k) (by simp) (by simp)
theorem pline_calls (p B : Nat) (q : Pe) (dx dy : Int) (w : World) (h : PenA w p B q) (ok : okP q) (hBw : B ≤ w.heap.size) :
    Calls Tryz.prog 96 #[.pointer (some ⟨p, 0, none⟩), .int .i64 dx, .int .i64 dy] w (PenP w p B (putP q dx dy 1)) := by
  have HP := Lib.hid (pput_calls p B q dx dy 1 w h ok hBw)
  clear h ok
  go_enter Tryz.func96, Tryz.ntmps96
  go_wp2_with fail
  refine HP.out.mono ?_; rintro e w1 ⟨rfl, g1, g2⟩
  go_wp2_with fail
  go_end0
  exact ⟨rfl, g1, g2⟩
def curveP (q : Pe) (a b c d e f : Int) : Pe := putP (putP (putP q a b 3) c d 3) e f 1
theorem okP_curve {q : Pe} (ok : okP q) (a b c d e f : Int) : okP (curveP q a b c d e f) := okP_put (okP_put (okP_put ok _ _ _) _ _ _) _ _ _
/-- Numbers that lie at an address. -/
theorem RdI.at {w : World} {b0 : Nat} {v : Value} {xs : List Int} (h : RdI w b0 v xs) (h0 : 0 < xs.length) : ∃ g off cap, v = .slice (some ⟨g, off, none⟩) xs.length cap ∧ xs.length ≤ cap ∧ cap ≤ maxLen ∧ ∀ i, i < xs.length → w.cell? ⟨g, off + i, none⟩ = some (.int .i64 (xs.getD i 0)) := by
  rcases h.1 with ⟨_, rfl⟩ | ⟨g, off, cap, rfl, h1, h2, h3⟩
  · simp at h0
  · exact ⟨g, off, cap, rfl, h1, h2, h3⟩
/-- The cells of such numbers, in every world that a pen's operations leave. -/
theorem RdI.cells {w : World} {B g off n cap : Nat} {xs : List Int} (h : RdI w 0 (.slice (some ⟨g, off, none⟩) n cap) xs) (i : Nat) (hi : i < xs.length) {W : World} (hW : KT [] penTs B w W) (a : Int) (ha : xs.getD i 0 = a) : W.cell? ⟨g, off + i, none⟩ = some (.int .i64 a) := by
  subst ha
  rcases (h.pen hW).1 with ⟨_, rfl⟩ | ⟨g', off', cap', h0, _, _, h3⟩
  · simp at hi
  · obtain ⟨⟨rfl, rfl⟩, _⟩ : (g = g' ∧ off = off') ∧ _ := by simpa using h0
    exact h3 i hi
/-- The same behind some numbers. -/
theorem RdI.drop {w : World} {g off n cap : Nat} {xs : List Int} (h : RdI w 0 (.slice (some ⟨g, off, none⟩) n cap) xs) (k : Nat) (hk : k < cap) (hn : k ≤ n) : RdI w 0 (.slice (some ⟨g, off + k, none⟩) (n - k) (cap - k)) (xs.drop k) := by
  rcases h.1 with ⟨⟨ad, h0⟩, rfl⟩ | ⟨g', off', cap', h0, h1, h2, h3⟩
  · obtain ⟨_, _, rfl⟩ : _ ∧ n = 0 ∧ cap = 0 := by simpa using h0
    omega
  · obtain ⟨⟨rfl, rfl⟩, rfl, rfl⟩ : (g = g' ∧ off = off') ∧ n = xs.length ∧ cap = cap' := by simpa using h0
    refine ⟨.inr ⟨g, off + k, cap - k, by simp, by simp; omega, by omega, fun i hi => ?_⟩, fun b hb => h.2 b ?_⟩
    · have hi' : i + k < xs.length := by simp at hi; omega
      have := h3 (k + i) (by omega)
      rw [← Nat.add_assoc] at this
      rw [this, List.getD_eq_getElem?_getD, List.getD_eq_getElem?_getD, List.getElem?_drop]
    · have := (blockOf_some _ _ _ _ _ _).1 hb
      exact (blockOf_some _ _ _ _ _ _).2 ⟨by omega, this.2⟩
theorem RdI.empty (w : World) (b0 : Nat) (a : Option Addr) : RdI w b0 (.slice a 0 0) [] := ⟨.inl ⟨⟨a, rfl⟩, rfl⟩, fun b hb => by simp at hb⟩
/-- The first of such numbers. -/
theorem RdI.take {w : World} {g off n cap : Nat} {xs : List Int} (h : RdI w 0 (.slice (some ⟨g, off, none⟩) n cap) xs) (k : Nat) (hk : 0 < k) (hn : k ≤ n) : RdI w 0 (.slice (some ⟨g, off, none⟩) k cap) (xs.take k) := by
  rcases h.1 with ⟨⟨ad, h0⟩, rfl⟩ | ⟨g', off', cap', h0, h1, h2, h3⟩
  · obtain ⟨_, _, rfl⟩ : _ ∧ n = 0 ∧ cap = 0 := by simpa using h0
    omega
  · obtain ⟨⟨rfl, rfl⟩, rfl, rfl⟩ : (g = g' ∧ off = off') ∧ n = xs.length ∧ cap = cap' := by simpa using h0
    have hl : (xs.take k).length = k := by simp; omega
    refine ⟨.inr ⟨g, off, cap, by rw [hl], by omega, h2, fun i hi => ?_⟩, fun b hb => h.2 b ?_⟩
    · rw [h3 i (by omega), List.getD_eq_getElem?_getD, List.getD_eq_getElem?_getD, List.getElem?_take_of_lt (by omega)]
    · have := (blockOf_some _ _ _ _ _ _).1 hb
      exact (blockOf_some _ _ _ _ _ _).2 ⟨by omega, this.2⟩
/-- Numbers that have just been laid into a block. -/
theorem RdI.made (w : World) (xs : List Int) (n : Nat) (cs : Array Value) (hn : n = xs.length) (h0 : 0 < n) (hm : n ≤ maxLen) (hcs : cs = (xs.map (Value.int .i64)).toArray) : RdI (w.alloc (.cells cs 3)) 0 (.slice (some ⟨w.heap.size, 0, none⟩) n n) xs := by
  subst hcs; subst hn
  refine ⟨IsInts.owned (e := 3) (base := 0) (n := xs.length) ⟨by simp, .inr ⟨w.heap.size, xs.length, _, rfl, Nat.zero_le _, heap_alloc_new w _, Nat.le_refl _, hm, by simp, by simp only [Nat.mul_one]; exact List.take_of_length_le (by simp)⟩⟩, fun b hb => ?_⟩
  have := (blockOf_some _ _ _ _ _ _).1 hb
  obtain ⟨_, rfl⟩ := this
  exact ⟨_, _, heap_alloc_new w _⟩
set_option maxRecDepth 100000 in
set_option maxHeartbeats 4000000 in
theorem pcurve_calls (p B : Nat) (q : Pe) (v : Value) (a b c d e f : Int) (t : List Int) (w : World) (h : PenA w p B q) (ok : okP q) (hBw : B ≤ w.heap.size) (hx : RdI w 0 v (a :: b :: c :: d :: e :: f :: t)) :
    Calls Tryz.prog 97 #[.pointer (some ⟨p, 0, none⟩), v] w (PenP w p B (curveP q a b c d e f)) := by
  obtain ⟨g, off, cap, rfl, hc1, hc2, _⟩ := hx.at (by simp)
  have HX := Lib.hid hx
  have HA := Lib.hid h
  have HOK := Lib.hid ok
  have HP : Hid (∀ q1 a b k W, PenA W p B q1 → okP q1 → B ≤ W.heap.size → Calls Tryz.prog 118 #[.pointer (some ⟨p, 0, none⟩), .int .i64 a, .int .i64 b, .int .i64 k] W (PenP W p B (putP q1 a b k))) := fun q1 a b k W h ok hB => pput_calls p B q1 a b k W h ok hB
  have HR : Hid (curveP q a b c d e f = putP (putP (putP q a b 3) c d 3) e f 1) := rfl
  obtain ⟨N, hN⟩ : ∃ N, (a :: b :: c :: d :: e :: f :: t).length = N := ⟨_, rfl⟩
  have h6 : 6 ≤ N := by rw [← hN]; simp
  have HN := Lib.hid hN
  rw [hN] at HX hc1 ⊢
  clear h ok hx hN
  go_enter Tryz.func97, Tryz.ntmps97
  go_wp2_with fail
  have c0 : w.cell? ⟨g, off, none⟩ = some (.int .i64 a) := by have := HX.out.cells 0 (by rw [HN.out]; omega) (KT.refl [] penTs B w) a rfl; rwa [Nat.add_zero] at this
  have c1 := HX.out.cells 1 (by rw [HN.out]; omega) (KT.refl [] penTs B w) b rfl
  have q0 := KW.cell c0
  have q1 := KW.cell c1
  clear c0 c1
  refine wp_region_kqt 7 (by kernel_rfl) (by kernel_rfl) ?_
  simp only [List.take_succ_cons, List.take_zero, List.drop_succ_cons, List.drop_zero]
  repeat (go_big_quiet_step (fail))
  refine wpQuiet_nil ?_
  intro w1 hw'
  obtain ⟨⟨_, hkw1⟩, rfl⟩ := hw'
  try dsimp only
  go_wp2_with fail
  refine (HP.out q a b 3 _ (HA.out.kp0 hkw1) HOK.out (Nat.le_trans hBw hkw1.size)).mono ?_; rintro r w2 ⟨rfl, hA2, hk2⟩
  have HA2 := Lib.hid hA2
  have HK2 : Hid (KT [] penTs B w w2) := (KT.of_kp0 hkw1).trans hk2
  have HX2 := Lib.hid (HX.out.pen HK2.out)
  clear hA2 hk2 q0 q1
  go_wp2_with fail
  have c2 := HX.out.cells 2 (by rw [HN.out]; omega) HK2.out c rfl
  have c3 := HX.out.cells 3 (by rw [HN.out]; omega) HK2.out d rfl
  have q2 := KW.cell c2
  have q3 := KW.cell c3
  clear c2 c3
  refine wp_region_kqt 7 (by kernel_rfl) (by kernel_rfl) ?_
  simp only [List.take_succ_cons, List.take_zero, List.drop_succ_cons, List.drop_zero]
  repeat (go_big_quiet_step (fail))
  refine wpQuiet_nil ?_
  intro w3 hw'
  obtain ⟨⟨_, hkw3⟩, rfl⟩ := hw'
  try dsimp only
  go_wp2_with fail
  refine (HP.out _ c d 3 _ (HA2.out.kp0 hkw3) (okP_put HOK.out _ _ _) (by have := HK2.out.size; have := hkw3.size; omega)).mono ?_; rintro r w4 ⟨rfl, hA4, hk4⟩
  have HA4 := Lib.hid hA4
  have HK4 : Hid (KT [] penTs B w w4) := HK2.out.trans ((KT.of_kp0 hkw3).trans hk4)
  clear hA4 hk4 q2 q3
  go_wp2_with fail
  have c4 := HX.out.cells 4 (by rw [HN.out]; omega) HK4.out e rfl
  have c5 := HX.out.cells 5 (by rw [HN.out]; omega) HK4.out f rfl
  have q4 := KW.cell c4
  have q5 := KW.cell c5
  clear c4 c5
  refine wp_region_kqt 7 (by kernel_rfl) (by kernel_rfl) ?_
  simp only [List.take_succ_cons, List.take_zero, List.drop_succ_cons, List.drop_zero]
  repeat (go_big_quiet_step (fail))
  refine wpQuiet_nil ?_
  intro w5 hw'
  obtain ⟨⟨_, hkw5⟩, rfl⟩ := hw'
  try dsimp only
  go_wp2_with fail
  refine (HP.out _ e f 1 _ (HA4.out.kp0 hkw5) (okP_put (okP_put HOK.out _ _ _) _ _ _) (by have := HK4.out.size; have := hkw5.size; omega)).mono ?_; rintro r w6 ⟨rfl, hA6, hk6⟩
  go_wp2_with fail
  go_end0
  exact ⟨rfl, by rw [HR.out]; exact hA6, HK4.out.trans ((KT.of_kp0 hkw5).trans hk6)⟩
end Go.Proofs.YtfgpocpfapnkkaaGreat
namespace Go.Proofs.YtfgpocpfapnkkaaGreat
open Go.RowKit
set_option linter.unusedVariables false
set_option linter.unusedSimpArgs false
def lenOf : Value → Nat
  | .slice _ n _ => n
  | _ => 0
def linesP : Pe → List Int → Pe
  | q, a :: b :: t => linesP (putP q a b 1) t
  | q, _ => q
theorem RdI.form {w : World} {b0 : Nat} {v : Value} {xs : List Int} (h : RdI w b0 v xs) : ∃ p c, v = .slice p xs.length c := by
  rcases h.1 with ⟨⟨a, rfl⟩, rfl⟩ | ⟨g, off, cap, rfl, _⟩
  · exact ⟨_, _, rfl⟩
  · exact ⟨_, _, rfl⟩
/-- Where a pen's loop is. -/
def PenL (w : World) (p B : Nat) (R : Pe) (F : Pe → List Int → Pe) (v : Value) (zs : List Int) (wr : World) : Prop :=
  ∃ q2, RdI wr 0 v zs ∧ PenA wr p B q2 ∧ okP q2 ∧ KT [] penTs B w wr ∧ F q2 zs = R
set_option maxRecDepth 100000 in
set_option maxHeartbeats 4000000 in
theorem plines_calls (p B : Nat) (q : Pe) (v : Value) (xs : List Int) (w : World) (h : PenA w p B q) (ok : okP q) (hBw : B ≤ w.heap.size) (hx : RdI w 0 v xs) :
    Calls Tryz.prog 72 #[.pointer (some ⟨p, 0, none⟩), v] w (PenP w p B (linesP q xs)) := by
  have hle := hx.1.le
  unfold maxLen at hle
  obtain ⟨R, hR⟩ : ∃ R, linesP q xs = R := ⟨_, rfl⟩
  have HL : Hid (PenL w p B R linesP v xs w) := ⟨q, hx, h, ok, KT.refl _ _ _ _, hR⟩
  obtain ⟨pa, ca, rfl⟩ : ∃ pa ca, v = .slice pa xs.length ca := hx.form
  have HP : Hid (∀ q1 a b W, PenA W p B q1 → okP q1 → B ≤ W.heap.size → Calls Tryz.prog 96 #[.pointer (some ⟨p, 0, none⟩), .int .i64 a, .int .i64 b] W (PenP W p B (putP q1 a b 1))) := fun q1 a b W h ok hB => pline_calls p B q1 a b W h ok hB
  rw [hR]
  clear h ok hx hR
  obtain ⟨N, hN⟩ : ∃ N, xs.length = N := ⟨_, rfl⟩
  rw [hN] at HL hle ⊢
  have HN := Lib.hid hN
  clear hN
  go_enter Tryz.func72, Tryz.ntmps72
  go_wp2_with fail
  go_loopw [1] (fun l wr => ∃ (zs : List Int) (n : Nat) (p2 : Option Addr) (c2 : Nat), l = .slice p2 n c2 ∧ zs.length = n ∧ n ≤ N ∧ Hid (PenL w p B R linesP (.slice p2 n c2) zs wr)) (fun l _ => lenOf l)
  case atStart => exact ⟨xs, N, _, _, rfl, HN.out, Nat.le_refl _, HL⟩
  case round =>
    obtain ⟨zs, n, p2, c2, rfl, hn, hnN, HJ⟩ := hrel
    have hsB : B ≤ wr.heap.size := by obtain ⟨q2, _, _, _, h4, _⟩ := HJ.out; exact Nat.le_trans hBw h4.size
    match zs, hn, HJ with
    | a :: b :: t, hn, HJ =>
      obtain ⟨q2, h1, h2, h3, h4, h5⟩ := HJ.out
      obtain ⟨g, off, cap, hv, hc1, hc2, _⟩ := h1.at (by simp)
      obtain ⟨rfl, rfl, rfl⟩ : p2 = some ⟨g, off, none⟩ ∧ n = (a :: b :: t).length ∧ c2 = cap := by simpa using hv
      have HX := Lib.hid h1
      have HA := Lib.hid h2
      have HOK := Lib.hid h3
      have HK := Lib.hid h4
      have HR : Hid (linesP (putP q2 a b 1) t = R) := h5
      have c0 : wr.cell? ⟨g, off, none⟩ = some (.int .i64 a) := by have := HX.out.cells (B := B) 0 (by simp) (KT.refl [] penTs B wr) a rfl; rwa [Nat.add_zero] at this
      have c1 := HX.out.cells (B := B) 1 (by simp) (KT.refl [] penTs B wr) b rfl
      obtain ⟨m, hm⟩ : ∃ m, t.length = m := ⟨_, rfl⟩
      have hl2 : (a :: b :: t).length = m + 2 := by rw [← hm]; rfl
      have HM := Lib.hid hm
      rw [hl2] at HX hc1 hnN ⊢
      clear h1 h2 h3 h4 h5 HJ hv hn hl2 hm HL
      have q0 := KW.cell c0
      have q1 := KW.cell c1
      clear c0 c1
      unfold maxLen at hc2
      by_cases hcap : c2 = 2
      · obtain rfl : m = 0 := by omega
        subst hcap
        go_wp2_with fail
        refine wp_region_kqt 7 (by kernel_rfl) (by kernel_rfl) ?_
        simp only [List.take_succ_cons, List.take_zero, List.drop_succ_cons, List.drop_zero]
        repeat (go_big_quiet_step (fail))
        refine wpQuiet_nil ?_
        intro w1 hw'
        obtain ⟨⟨_, hkw1⟩, rfl⟩ := hw'
        try dsimp only
        go_wp2_with fail
        refine (HP.out q2 a b _ (HA.out.kp0 hkw1) HOK.out (Nat.le_trans hsB hkw1.size)).mono ?_; rintro r w2 ⟨rfl, hA2, hk2⟩
        have HJ2 : Hid (PenL w p B R linesP (.slice (some ⟨g, off, none⟩) 0 0) t w2) := ⟨_, by rw [List.eq_nil_of_length_eq_zero HM.out]; exact RdI.empty _ _ _, hA2, okP_put HOK.out _ _ _, HK.out.trans ((KT.of_kp0 hkw1).trans hk2), HR.out⟩
        clear hA2 hk2 q0 q1
        go_wp2_with fail
        go_roundw
        case rel => first | exact ⟨t, _, _, _, rfl, HM.out, by omega, HJ2⟩ | ((repeat apply Exists.intro); exact ⟨⟨t, _, _, _, rfl, HM.out, by omega, HJ2⟩, rfl⟩)
        case measure => simp [lenOf]
      · have hcl : 2 < c2 := by omega
        go_wp2_with fail
        refine wp_region_kqt 7 (by kernel_rfl) (by kernel_rfl) ?_
        simp only [List.take_succ_cons, List.take_zero, List.drop_succ_cons, List.drop_zero]
        repeat (go_big_quiet_step (fail))
        refine wpQuiet_nil ?_
        intro w1 hw'
        obtain ⟨⟨_, hkw1⟩, rfl⟩ := hw'
        try dsimp only
        go_wp2_with fail
        refine (HP.out q2 a b _ (HA.out.kp0 hkw1) HOK.out (Nat.le_trans hsB hkw1.size)).mono ?_; rintro r w2 ⟨rfl, hA2, hk2⟩
        have HJ2 : Hid (PenL w p B R linesP (.slice (some ⟨g, off + 2, none⟩) m (c2 - 2)) t w2) := ⟨_, (HX.out.drop 2 hcl (by omega)).pen ((KT.of_kp0 hkw1).trans hk2), hA2, okP_put HOK.out _ _ _, HK.out.trans ((KT.of_kp0 hkw1).trans hk2), HR.out⟩
        clear hA2 hk2 q0 q1
        go_wp2_with fail
        trace_state
        go_roundw
        case rel => first | exact ⟨t, _, _, _, rfl, HM.out, by omega, HJ2⟩ | ((repeat apply Exists.intro); exact ⟨⟨t, _, _, _, rfl, HM.out, by omega, HJ2⟩, rfl⟩)
        case measure => simp [lenOf]
    | [], hn, HJ =>
      obtain rfl : 0 = n := hn
      have HR : Hid (∃ q2, PenA wr p B q2 ∧ KT [] penTs B w wr ∧ q2 = R) := by obtain ⟨q2, h1, h2, h3, h4, h5⟩ := HJ.out; exact ⟨q2, h2, h4, h5⟩
      clear HJ HL
      go_wp2_with fail
      go_end0
      obtain ⟨q2, h1, h2, rfl⟩ := HR.out
      exact ⟨rfl, h1, h2⟩
    | [x], hn, HJ =>
      obtain rfl : 1 = n := hn
      have HR : Hid (∃ q2, PenA wr p B q2 ∧ KT [] penTs B w wr ∧ q2 = R) := by obtain ⟨q2, h1, h2, h3, h4, h5⟩ := HJ.out; exact ⟨q2, h2, h4, h5⟩
      clear HJ HL
      go_wp2_with fail
      go_end0
      obtain ⟨q2, h1, h2, rfl⟩ := HR.out
      exact ⟨rfl, h1, h2⟩
def curvesP : Pe → List Int → Pe
  | q, a :: b :: c :: d :: e :: f :: t => curvesP (curveP q a b c d e f) t
  | q, _ => q
set_option maxRecDepth 100000 in
set_option maxHeartbeats 8000000 in
theorem pcurves_calls (p B : Nat) (q : Pe) (v : Value) (xs : List Int) (w : World) (h : PenA w p B q) (ok : okP q) (hBw : B ≤ w.heap.size) (hx : RdI w 0 v xs) :
    Calls Tryz.prog 76 #[.pointer (some ⟨p, 0, none⟩), v] w (PenP w p B (curvesP q xs)) := by
  have hle := hx.1.le
  unfold maxLen at hle
  obtain ⟨R, hR⟩ : ∃ R, curvesP q xs = R := ⟨_, rfl⟩
  have HL : Hid (PenL w p B R (curvesP) v xs w) := ⟨q, hx, h, ok, KT.refl _ _ _ _, hR⟩
  obtain ⟨pa, ca, rfl⟩ : ∃ pa ca, v = .slice pa xs.length ca := hx.form
  have HP : Hid (∀ q1 v a b c d e f t W, PenA W p B q1 → okP q1 → B ≤ W.heap.size → RdI W 0 v (a :: b :: c :: d :: e :: f :: t) → Calls Tryz.prog 97 #[.pointer (some ⟨p, 0, none⟩), v] W (PenP W p B (curveP q1 a b c d e f))) := fun q1 v a b c d e f t W h ok hB hx => pcurve_calls p B q1 v a b c d e f t W h ok hB hx
  rw [hR]
  clear h ok hx hR
  obtain ⟨N, hN⟩ : ∃ N, xs.length = N := ⟨_, rfl⟩
  rw [hN] at HL hle ⊢
  have HN := Lib.hid hN
  clear hN
  go_enter Tryz.func76, Tryz.ntmps76
  go_wp2_with fail
  go_loopw [1] (fun l wr => ∃ (zs : List Int) (n : Nat) (p2 : Option Addr) (c2 : Nat), l = .slice p2 n c2 ∧ zs.length = n ∧ n ≤ N ∧ Hid (PenL w p B R curvesP (.slice p2 n c2) zs wr)) (fun l _ => lenOf l)
  case atStart => exact ⟨xs, N, _, _, rfl, HN.out, Nat.le_refl _, HL⟩
  case round =>
    obtain ⟨zs, n, p2, c2, rfl, hn, hnN, HJ⟩ := hrel
    have hsB : B ≤ wr.heap.size := by obtain ⟨q2, _, _, _, h4, _⟩ := HJ.out; exact Nat.le_trans hBw h4.size
    match zs, hn, HJ with
    | a :: b :: c :: d :: e :: f :: t, hn, HJ =>
      obtain ⟨q2, h1, h2, h3, h4, h5⟩ := HJ.out
      obtain ⟨g, off, cap, hv, hc1, hc2, _⟩ := h1.at (by simp)
      obtain ⟨rfl, rfl, rfl⟩ : p2 = some ⟨g, off, none⟩ ∧ n = (a :: b :: c :: d :: e :: f :: t).length ∧ c2 = cap := by simpa using hv
      have HX := Lib.hid h1
      have HA := Lib.hid h2
      have HOK := Lib.hid h3
      have HK := Lib.hid h4
      have HR : Hid (curvesP (curveP q2 a b c d e f) t = R) := h5
      obtain ⟨m, hm⟩ : ∃ m, t.length = m := ⟨_, rfl⟩
      have hl2 : (a :: b :: c :: d :: e :: f :: t).length = m + 6 := by rw [← hm]; rfl
      have HM := Lib.hid hm
      rw [hl2] at HX hc1 hnN ⊢
      clear h1 h2 h3 h4 h5 HJ hv hn hl2 hm HL
      unfold maxLen at hc2
      have HT6 := Lib.hid (HX.out.take 6 (by omega) (by omega))
      by_cases hcap : c2 = 6
      · obtain rfl : m = 0 := by omega
        subst hcap
        go_wp2_with fail
        refine (HP.out q2 _ a b c d e f [] _ HA.out HOK.out hsB (by exact HT6.out)).mono ?_; rintro r w2 ⟨rfl, hA2, hk2⟩
        have HJ2 : Hid (PenL w p B R (curvesP) (.slice (some ⟨g, off, none⟩) 0 0) t w2) := ⟨_, by rw [List.eq_nil_of_length_eq_zero HM.out]; exact RdI.empty _ _ _, hA2, okP_curve HOK.out _ _ _ _ _ _, HK.out.trans (hk2), HR.out⟩
        clear hA2 hk2
        go_wp2_with fail
        go_roundw
        case rel => first | exact ⟨t, _, _, _, rfl, HM.out, by omega, HJ2⟩ | ((repeat apply Exists.intro); exact ⟨⟨t, _, _, _, rfl, HM.out, by omega, HJ2⟩, rfl⟩)
        case measure => simp [lenOf]
      · have hcl : 6 < c2 := by omega
        go_wp2_with fail
        refine (HP.out q2 _ a b c d e f [] _ HA.out HOK.out hsB (by exact HT6.out)).mono ?_; rintro r w2 ⟨rfl, hA2, hk2⟩
        have HJ2 : Hid (PenL w p B R (curvesP) (.slice (some ⟨g, off + 6, none⟩) m (c2 - 6)) t w2) := ⟨_, (HX.out.drop 6 hcl (by omega)).pen (hk2), hA2, okP_curve HOK.out _ _ _ _ _ _, HK.out.trans (hk2), HR.out⟩
        clear hA2 hk2
        go_wp2_with fail
        go_roundw
        case rel => first | exact ⟨t, _, _, _, rfl, HM.out, by omega, HJ2⟩ | ((repeat apply Exists.intro); exact ⟨⟨t, _, _, _, rfl, HM.out, by omega, HJ2⟩, rfl⟩)
        case measure => simp [lenOf]
    | [], hn, HJ =>
      obtain rfl : 0 = n := hn
      have HR : Hid (∃ q2, PenA wr p B q2 ∧ KT [] penTs B w wr ∧ q2 = R) := by obtain ⟨q2, h1, h2, h3, h4, h5⟩ := HJ.out; exact ⟨q2, h2, h4, h5⟩
      clear HJ HL
      go_wp2_with fail
      go_end0
      obtain ⟨q2, h1, h2, rfl⟩ := HR.out
      exact ⟨rfl, h1, h2⟩
    | [x], hn, HJ =>
      obtain rfl : 1 = n := hn
      have HR : Hid (∃ q2, PenA wr p B q2 ∧ KT [] penTs B w wr ∧ q2 = R) := by obtain ⟨q2, h1, h2, h3, h4, h5⟩ := HJ.out; exact ⟨q2, h2, h4, h5⟩
      clear HJ HL
      go_wp2_with fail
      go_end0
      obtain ⟨q2, h1, h2, rfl⟩ := HR.out
      exact ⟨rfl, h1, h2⟩
    | [x, y], hn, HJ =>
      obtain rfl : 2 = n := hn
      have HR : Hid (∃ q2, PenA wr p B q2 ∧ KT [] penTs B w wr ∧ q2 = R) := by obtain ⟨q2, h1, h2, h3, h4, h5⟩ := HJ.out; exact ⟨q2, h2, h4, h5⟩
      clear HJ HL
      go_wp2_with fail
      go_end0
      obtain ⟨q2, h1, h2, rfl⟩ := HR.out
      exact ⟨rfl, h1, h2⟩
    | [x, y, z], hn, HJ =>
      obtain rfl : 3 = n := hn
      have HR : Hid (∃ q2, PenA wr p B q2 ∧ KT [] penTs B w wr ∧ q2 = R) := by obtain ⟨q2, h1, h2, h3, h4, h5⟩ := HJ.out; exact ⟨q2, h2, h4, h5⟩
      clear HJ HL
      go_wp2_with fail
      go_end0
      obtain ⟨q2, h1, h2, rfl⟩ := HR.out
      exact ⟨rfl, h1, h2⟩
    | [x, y, z, u], hn, HJ =>
      obtain rfl : 4 = n := hn
      have HR : Hid (∃ q2, PenA wr p B q2 ∧ KT [] penTs B w wr ∧ q2 = R) := by obtain ⟨q2, h1, h2, h3, h4, h5⟩ := HJ.out; exact ⟨q2, h2, h4, h5⟩
      clear HJ HL
      go_wp2_with fail
      go_end0
      obtain ⟨q2, h1, h2, rfl⟩ := HR.out
      exact ⟨rfl, h1, h2⟩
    | [x, y, z, u, s], hn, HJ =>
      obtain rfl : 5 = n := hn
      have HR : Hid (∃ q2, PenA wr p B q2 ∧ KT [] penTs B w wr ∧ q2 = R) := by obtain ⟨q2, h1, h2, h3, h4, h5⟩ := HJ.out; exact ⟨q2, h2, h4, h5⟩
      clear HJ HL
      go_wp2_with fail
      go_end0
      obtain ⟨q2, h1, h2, rfl⟩ := HR.out
      exact ⟨rfl, h1, h2⟩
def stepsP : Pe → Bool → List Int → Pe
  | q, x, d :: t => stepsP (if x then putP q d 0 1 else putP q 0 d 1) (!x) t
  | q, _, [] => q
set_option maxRecDepth 100000 in
set_option maxHeartbeats 8000000 in
theorem psteps_calls (p B : Nat) (q : Pe) (v : Value) (xs : List Int) (x : Bool) (w : World) (h : PenA w p B q) (ok : okP q) (hBw : B ≤ w.heap.size) (hx : RdI w 0 v xs) :
    Calls Tryz.prog 74 #[.pointer (some ⟨p, 0, none⟩), v, .bool x] w (PenP w p B (stepsP q x xs)) := by
  have hle := hx.1.le
  unfold maxLen at hle
  obtain ⟨R, hR⟩ : ∃ R, stepsP q x xs = R := ⟨_, rfl⟩
  have HX := Lib.hid hx
  have HL : Hid (PenA w p B q ∧ okP q ∧ KT [] penTs B w w ∧ stepsP q x (xs.drop 0) = R) := ⟨h, ok, KT.refl _ _ _ _, hR⟩
  obtain ⟨pa, ca, rfl⟩ : ∃ pa ca, v = .slice pa xs.length ca := hx.form
  have HP : Hid (∀ q1 a b W, PenA W p B q1 → okP q1 → B ≤ W.heap.size → Calls Tryz.prog 96 #[.pointer (some ⟨p, 0, none⟩), .int .i64 a, .int .i64 b] W (PenP W p B (putP q1 a b 1))) := fun q1 a b W h ok hB => pline_calls p B q1 a b W h ok hB
  rw [hR]
  clear h ok hx hR
  obtain ⟨N, hN⟩ : ∃ N, xs.length = N := ⟨_, rfl⟩
  rw [hN] at HX hle ⊢
  have HN := Lib.hid hN
  clear hN
  go_enter Tryz.func74, Tryz.ntmps74
  go_wp2_with fail
  go_loopw [2, 10] (fun u i wr => ∃ (j : Nat) (y : Bool) (q2 : Pe), j ≤ N ∧ i = .int .i64 j ∧ u = .bool y ∧ Hid (PenA wr p B q2 ∧ okP q2 ∧ KT [] penTs B w wr ∧ stepsP q2 y (xs.drop j) = R)) (fun _ i _ => N - (intOf i).toNat)
  case atStart => exact ⟨0, x, q, by omega, rfl, rfl, HL⟩
  case round =>
    obtain ⟨j, y, q2, hj, rfl, rfl, HJ⟩ := hrel
    clear HL
    have hsB : B ≤ wr.heap.size := Nat.le_trans hBw HJ.out.2.2.1.size
    by_cases hlt : j < N
    · obtain ⟨d, hd⟩ : ∃ d, xs.getD j 0 = d := ⟨_, rfl⟩
      have hxs : xs.drop j = d :: xs.drop (j + 1) := by rw [List.drop_eq_getElem_cons (by rw [HN.out]; exact hlt), ← hd, List.getD_eq_getElem?_getD, List.getElem?_eq_getElem (by rw [HN.out]; exact hlt)]; rfl
      have HR : Hid (stepsP (if y then putP q2 d 0 1 else putP q2 0 d 1) (!y) (xs.drop (j + 1)) = R) := by have := HJ.out.2.2.2; rw [hxs] at this; exact this
      obtain ⟨g, off, cap, hv, _, _, _⟩ := HX.out.at (by rw [HN.out]; omega)
      obtain ⟨rfl, -, rfl⟩ : pa = some ⟨g, off, none⟩ ∧ _ ∧ ca = cap := by simpa using hv
      have c0 := HX.out.cells j (by rw [HN.out]; exact hlt) HJ.out.2.2.1 d hd
      have HA := Lib.hid HJ.out.1
      have HOK := Lib.hid HJ.out.2.1
      have HK := Lib.hid HJ.out.2.2.1
      clear hv hd hxs HJ
      cases y
      · go_wp2_with fail
        refine (HP.out q2 0 d _ HA.out HOK.out hsB).mono ?_; rintro r w2 ⟨rfl, hA2, hk2⟩
        have HJ2 : Hid (PenA w2 p B (putP q2 0 d 1) ∧ okP (putP q2 0 d 1) ∧ KT [] penTs B w w2 ∧ stepsP (putP q2 0 d 1) true (xs.drop (j + 1)) = R) := ⟨hA2, okP_put HOK.out _ _ _, HK.out.trans hk2, HR.out⟩
        clear hA2 hk2 c0
        go_wp2_with fail
        go_roundw
        case rel => first | exact ⟨j + 1, true, _, by omega, int_eq' (by omega), rfl, HJ2⟩ | ((repeat apply Exists.intro); exact ⟨⟨j + 1, true, _, by omega, int_eq' (by omega), rfl, HJ2⟩, rfl⟩)
        case measure => simp [intOf]; omega
      · go_wp2_with fail
        refine (HP.out q2 d 0 _ HA.out HOK.out hsB).mono ?_; rintro r w2 ⟨rfl, hA2, hk2⟩
        have HJ2 : Hid (PenA w2 p B (putP q2 d 0 1) ∧ okP (putP q2 d 0 1) ∧ KT [] penTs B w w2 ∧ stepsP (putP q2 d 0 1) false (xs.drop (j + 1)) = R) := ⟨hA2, okP_put HOK.out _ _ _, HK.out.trans hk2, HR.out⟩
        clear hA2 hk2 c0
        go_wp2_with fail
        go_roundw
        case rel => first | exact ⟨j + 1, false, _, by omega, int_eq' (by omega), rfl, HJ2⟩ | ((repeat apply Exists.intro); exact ⟨⟨j + 1, false, _, by omega, int_eq' (by omega), rfl, HJ2⟩, rfl⟩)
        case measure => simp [intOf]; omega
    · obtain rfl : j = N := by omega
      have HR : Hid (q2 = R) := by have := HJ.out.2.2.2; rw [List.drop_of_length_le (by rw [HN.out]; exact Nat.le_refl _)] at this; exact this
      go_wp2_with fail
      go_end0
      exact ⟨rfl, by rw [← HR.out]; exact HJ.out.1, HJ.out.2.2.1⟩
end Go.Proofs.YtfgpocpfapnkkaaGreat
namespace Go.Proofs.YtfgpocpfapnkkaaGreat
open Go.RowKit
set_option linter.unusedVariables false
set_option linter.unusedSimpArgs false
def extraV (xs : List Int) : Int := if xs.length % 4 = 0 then 0 else xs.getD 0 0
def extraL (xs : List Int) : List Int := if xs.length % 4 = 0 then xs else xs.drop 1
set_option maxRecDepth 100000 in
set_option maxHeartbeats 8000000 in
theorem pextra_calls (v : Value) (xs : List Int) (w : World) (hx : RdI w 0 v xs) :
    Calls Tryz.prog 98 #[v] w fun r w' => ∃ v', r = .returned (.tuple #[.int .i64 (extraV xs), v']) ∧ RdI w' 0 v' (extraL xs) ∧ Kp [] w w' := by
  have hle := hx.1.le
  unfold maxLen at hle
  obtain ⟨pa, ca, rfl⟩ := hx.form
  have HX := Lib.hid hx
  obtain ⟨M, hM⟩ : ∃ M, xs.length % 4 = M := ⟨_, rfl⟩
  have ht : (xs.length : Int).tmod 4 = (M : Int) := by rw [Int.tmod_eq_emod_of_nonneg (by omega)]; omega
  have hM4 : M < 4 := by omega
  have hwM : IntKind.i64.wrap (M : Int) = (M : Int) := by rw [IntKind.wrap_i64]; omega
  by_cases h4 : M = 0
  · have HV : Hid (extraV xs = 0 ∧ extraL xs = xs) := ⟨if_pos (by omega), if_pos (by omega)⟩
    subst h4
    clear hx hM
    generalize xs.length = N at *
    go_enter Tryz.func98, Tryz.ntmps98
    go_wp2_with fail
    go_ret2
    exact ⟨_, by rw [HV.out.1]; rfl, by rw [HV.out.2]; exact HX.out, Kp.refl _ _⟩
  · obtain ⟨a, ha⟩ : ∃ a, xs.getD 0 0 = a := ⟨_, rfl⟩
    have HV : Hid (extraV xs = a ∧ extraL xs = xs.drop 1) := ⟨(if_neg (by omega)).trans ha, if_neg (by omega)⟩
    have hpos : 0 < xs.length := by omega
    obtain ⟨g, off, cap, hv, hc1, hc2, _⟩ := hx.at hpos
    obtain ⟨rfl, rfl⟩ : pa = some ⟨g, off, none⟩ ∧ ca = cap := by simpa using hv
    have c0 := HX.out.cells (B := 0) 0 hpos (KT.refl _ _ _ _) a ha
    rw [Nat.add_zero] at c0
    have hb2 : ((M : Int) == 0) = false := by rw [beq_eq_false_iff_ne]; omega
    have HN : Hid (xs.length - 1 = (xs.drop 1).length) := by show _ = _; simp
    clear hx hM hv ha
    unfold maxLen at hc2
    by_cases hcap : ca = 1
    · subst hcap
      have hl1 : xs.length = 1 := by omega
      have HE : Hid (xs.drop 1 = []) := List.eq_nil_of_length_eq_zero (by rw [← HN.out]; omega)
      rw [hl1] at ht ⊢
      rw [hl1] at HX
      clear hle hc1 HN hpos hl1
      go_enter Tryz.func98, Tryz.ntmps98
      go_wp2_with fail
      have q0 := KW.cell c0
      refine wp_region_kq (by kernel_rfl) (by kernel_rfl) ?_
      repeat (go_big_quiet_step (fail))
      refine wpQuiet_nil ?_
      intro w1 hw'
      obtain ⟨⟨_, hkw1⟩, rfl⟩ := hw'
      clear q0
      go_wp2_with fail
      go_ret2
      exact ⟨_, by rw [HV.out.1]; rfl, by rw [HV.out.2, HE.out]; exact RdI.empty _ _ _, hkw1⟩
    · have hcl : 1 < ca := by omega
      obtain ⟨N, hN⟩ : ∃ N, xs.length = N := ⟨_, rfl⟩
      rw [hN] at ht HX hpos hc1 hle ⊢
      have HD := Lib.hid (HX.out.drop 1 hcl (by omega))
      clear hN HN
      go_enter Tryz.func98, Tryz.ntmps98
      go_wp2_with fail
      have q0 := KW.cell c0
      refine wp_region_kq (by kernel_rfl) (by kernel_rfl) ?_
      repeat (go_big_quiet_step (fail))
      refine wpQuiet_nil ?_
      intro w1 hw'
      obtain ⟨⟨_, hkw1⟩, rfl⟩ := hw'
      clear q0
      go_wp2_with fail
      go_ret2
      exact ⟨_, by rw [HV.out.1]; rfl, by rw [HV.out.2]; exact HD.out.kp0 hkw1, hkw1⟩
end Go.Proofs.YtfgpocpfapnkkaaGreat
namespace Go.Proofs.YtfgpocpfapnkkaaGreat
open Go.RowKit
set_option linter.unusedVariables false
set_option linter.unusedSimpArgs false
def levelP : Pe → Int → List Int → Pe
  | q, y, a :: b :: c :: d :: t => levelP (curveP q a y b c d 0) 0 t
  | q, _, _ => q
/-- Where such a loop is. -/
def PenY_level (w : World) (p B : Nat) (R : Pe) (y : Int) (v : Value) (zs : List Int) (wr : World) : Prop := PenL w p B R (fun q l => levelP q y l) v zs wr
set_option maxRecDepth 100000 in
set_option maxHeartbeats 8000000 in
theorem plevel_calls (p B : Nat) (q : Pe) (v : Value) (xs : List Int) (w : World) (h : PenA w p B q) (ok : okP q) (hBw : B ≤ w.heap.size) (hx : RdI w 0 v xs) (h4 : (extraL xs).length % 4 = 0) :
    Calls Tryz.prog 80 #[.pointer (some ⟨p, 0, none⟩), v] w (PenP w p B (levelP q (extraV xs) (extraL xs))) := by
  have hle := hx.1.le
  unfold maxLen at hle
  have HE := Lib.hid (pextra_calls v xs w hx)
  have HA0 := Lib.hid h
  have HOK0 := Lib.hid ok
  have hll : (extraL xs).length ≤ xs.length := by unfold extraL; split <;> simp
  generalize extraV xs = y0 at *
  generalize extraL xs = xs2 at *
  obtain ⟨R, hR⟩ : ∃ R, levelP q y0 xs2 = R := ⟨_, rfl⟩
  have HRR := Lib.hid hR
  obtain ⟨pa, ca, rfl⟩ : ∃ pa ca, v = .slice pa xs.length ca := hx.form
  have HP : Hid (∀ q1 v a b c d e f t W, PenA W p B q1 → okP q1 → B ≤ W.heap.size → RdI W 0 v (a :: b :: c :: d :: e :: f :: t) → Calls Tryz.prog 97 #[.pointer (some ⟨p, 0, none⟩), v] W (PenP W p B (curveP q1 a b c d e f))) := fun q1 v a b c d e f t W h ok hB hx => pcurve_calls p B q1 v a b c d e f t W h ok hB hx
  rw [hR]
  have h4' := Lib.hid h4
  clear h ok hx hR h4
  obtain ⟨N, hN⟩ : ∃ N, xs.length = N := ⟨_, rfl⟩
  rw [hN] at HE hle hll ⊢
  clear hN
  go_enter Tryz.func80, Tryz.ntmps80
  go_wp2_with fail
  refine HE.out.mono ?_; rintro r w0 ⟨v0, rfl, hx0, hk0⟩
  have HL : Hid (PenY_level w p B R y0 v0 xs2 w0) := ⟨q, hx0, HA0.out.kp0 hk0, HOK0.out, KT.of_kp0 hk0, HRR.out⟩
  obtain ⟨pa0, ca0, rfl⟩ : ∃ pa ca, v0 = .slice pa xs2.length ca := hx0.form
  obtain ⟨N2, hN2⟩ : ∃ N, xs2.length = N := ⟨_, rfl⟩
  rw [hN2] at HL hll ⊢
  have HN2 := Lib.hid hN2
  clear hN2 hx0 hk0 HE HA0
  go_wp2_with fail
  go_loopw [1, 4] (fun l yv wr => ∃ (zs : List Int) (n : Nat) (p2 : Option Addr) (c2 : Nat) (y : Int), l = .slice p2 n c2 ∧ yv = .int .i64 y ∧ zs.length = n ∧ n ≤ N2 ∧ n % 4 = 0 ∧ Hid (PenY_level w p B R y (.slice p2 n c2) zs wr)) (fun l _ _ => lenOf l)
  case atStart => exact ⟨xs2, N2, _, _, y0, rfl, rfl, HN2.out, Nat.le_refl _, by have := h4'.out; rw [HN2.out] at this; exact this, HL⟩
  case round =>
    obtain ⟨zs, n, p2, c2, y, rfl, rfl, hn, hnN, hn4, HJ⟩ := hrel
    have hsB : B ≤ wr.heap.size := by obtain ⟨q2, _, _, _, h4, _⟩ := HJ.out; exact Nat.le_trans hBw h4.size
    match zs, hn, HJ with
    | a :: b :: c :: d :: t, hn, HJ =>
      obtain ⟨q2, h1, h2, h3, h4, h5⟩ := HJ.out
      obtain ⟨g, off, cap, hv, hc1, hc2, _⟩ := h1.at (by simp)
      obtain ⟨rfl, rfl, rfl⟩ : p2 = some ⟨g, off, none⟩ ∧ n = (a :: b :: c :: d :: t).length ∧ c2 = cap := by simpa using hv
      have HX := Lib.hid h1
      have HA := Lib.hid h2
      have HOK := Lib.hid h3
      have HK := Lib.hid h4
      have HR : Hid (levelP (curveP q2 a y b c d 0) 0 t = R) := h5
      have c0 : wr.cell? ⟨g, off, none⟩ = some (.int .i64 a) := by have := HX.out.cells (B := B) 0 (by simp) (KT.refl [] penTs B wr) a rfl; rwa [Nat.add_zero] at this
      have c1 := HX.out.cells (B := B) 1 (by simp) (KT.refl [] penTs B wr) b rfl
      have c2 := HX.out.cells (B := B) 2 (by simp) (KT.refl [] penTs B wr) c rfl
      have c3 := HX.out.cells (B := B) 3 (by simp) (KT.refl [] penTs B wr) d rfl
      obtain ⟨m, hm⟩ : ∃ m, t.length = m := ⟨_, rfl⟩
      have hl2 : (a :: b :: c :: d :: t).length = m + 4 := by rw [← hm]; rfl
      have HM := Lib.hid hm
      rw [hl2] at HX hc1 hnN hn4 ⊢
      clear h1 h2 h3 h4 h5 HJ hv hn hl2 hm HL
      unfold maxLen at hc2
      have qc0 := KW.cell c0
      have qc1 := KW.cell c1
      have qc2 := KW.cell c2
      have qc3 := KW.cell c3
      clear c0 c1 c2 c3
      by_cases hcap : c2 = 4
      · obtain rfl : m = 0 := by omega
        subst hcap
        go_wp2_with fail
        refine wp_region_plan [0] [1, 2, 3, 4, 5, 6, 7, 8, 9, 10, 11, 12, 13] [14, 15] (by kernel_rfl) (by kernel_rfl) ?_
        simp only [pickAt_nil, pickAt_cons, List.getElem?_cons_zero, List.getElem?_cons_succ, Option.toList_some, List.cons_append, List.nil_append]
        repeat (go_big_quiet_step (fail))
        refine wpQuiet_nil ?_
        repeat (go_big_quiet_step (fail))
        refine wpQuiet_nil ?_
        intro w1 hw'
        obtain ⟨⟨_, hkw1⟩, rfl⟩ := hw'
        try dsimp only
        go_wp2_with fail
        refine (HP.out q2 _ a y b c d 0 [] _ (HA.out.kp0 (hkw1.trans ((Kp.refl _ _).alloc _))) HOK.out (by have := hkw1.size; simp; omega) (by exact RdI.made w1 [a, y, b, c, d, 0] 6 _ rfl (by decide) (by decide) rfl)).mono ?_; rintro r w2 ⟨rfl, hA2, hk2⟩
        have HJ2 : Hid (PenL w p B R (fun q l => levelP q 0 l) (.slice (some ⟨g, off, none⟩) 0 0) t w2) := ⟨_, by rw [List.eq_nil_of_length_eq_zero HM.out]; exact RdI.empty _ _ _, hA2, okP_curve HOK.out _ _ _ _ _ _, HK.out.trans (((KT.of_kp0 (hkw1.trans ((Kp.refl _ _).alloc _))).trans hk2)), HR.out⟩
        clear hA2 hk2 qc0 qc1 qc2 qc3
        go_wp2_with fail
        refine QN.intro ?_
        go_wp2_with fail
        go_roundw
        case rel => first | exact ⟨t, _, _, _, 0, rfl, rfl, HM.out, by omega, by omega, HJ2⟩ | ((repeat apply Exists.intro); exact ⟨⟨t, _, _, _, 0, rfl, rfl, HM.out, by omega, by omega, HJ2⟩, rfl⟩)
        case measure => simp [lenOf]
      · have hcl : 4 < c2 := by omega
        go_wp2_with fail
        refine wp_region_plan [0] [1, 2, 3, 4, 5, 6, 7, 8, 9, 10, 11, 12, 13] [14, 15] (by kernel_rfl) (by kernel_rfl) ?_
        simp only [pickAt_nil, pickAt_cons, List.getElem?_cons_zero, List.getElem?_cons_succ, Option.toList_some, List.cons_append, List.nil_append]
        repeat (go_big_quiet_step (fail))
        refine wpQuiet_nil ?_
        repeat (go_big_quiet_step (fail))
        refine wpQuiet_nil ?_
        intro w1 hw'
        obtain ⟨⟨_, hkw1⟩, rfl⟩ := hw'
        try dsimp only
        go_wp2_with fail
        refine (HP.out q2 _ a y b c d 0 [] _ (HA.out.kp0 (hkw1.trans ((Kp.refl _ _).alloc _))) HOK.out (by have := hkw1.size; simp; omega) (by exact RdI.made w1 [a, y, b, c, d, 0] 6 _ rfl (by decide) (by decide) rfl)).mono ?_; rintro r w2 ⟨rfl, hA2, hk2⟩
        have HJ2 : Hid (PenL w p B R (fun q l => levelP q 0 l) (.slice (some ⟨g, off + 4, none⟩) m (c2 - 4)) t w2) := ⟨_, (HX.out.drop 4 hcl (by omega)).pen (((KT.of_kp0 (hkw1.trans ((Kp.refl _ _).alloc _))).trans hk2)), hA2, okP_curve HOK.out _ _ _ _ _ _, HK.out.trans (((KT.of_kp0 (hkw1.trans ((Kp.refl _ _).alloc _))).trans hk2)), HR.out⟩
        clear hA2 hk2 qc0 qc1 qc2 qc3
        go_wp2_with fail
        refine QN.intro ?_
        go_wp2_with fail
        go_roundw
        case rel => first | exact ⟨t, _, _, _, 0, rfl, rfl, HM.out, by omega, by omega, HJ2⟩ | ((repeat apply Exists.intro); exact ⟨⟨t, _, _, _, 0, rfl, rfl, HM.out, by omega, by omega, HJ2⟩, rfl⟩)
        case measure => simp [lenOf]
    | [], hn, HJ =>
      obtain rfl : 0 = n := hn
      have HR : Hid (∃ q2, PenA wr p B q2 ∧ KT [] penTs B w wr ∧ q2 = R) := by obtain ⟨q2, h1, h2, h3, h4, h5⟩ := HJ.out; exact ⟨q2, h2, h4, h5⟩
      clear HJ HL
      go_wp2_with fail
      go_end0
      obtain ⟨q2, h1, h2, rfl⟩ := HR.out
      exact ⟨rfl, h1, h2⟩
    | [x], hn, HJ => exact absurd hn4 (by rw [← hn]; simp)
    | [x, z], hn, HJ => exact absurd hn4 (by rw [← hn]; simp)
    | [x, z, u], hn, HJ => exact absurd hn4 (by rw [← hn]; simp)
def uprightP : Pe → Int → List Int → Pe
  | q, y, a :: b :: c :: d :: t => uprightP (curveP q y a b c 0 d) 0 t
  | q, _, _ => q
/-- Where such a loop is. -/
def PenY_upright (w : World) (p B : Nat) (R : Pe) (y : Int) (v : Value) (zs : List Int) (wr : World) : Prop := PenL w p B R (fun q l => uprightP q y l) v zs wr
set_option maxRecDepth 100000 in
set_option maxHeartbeats 8000000 in
theorem pupright_calls (p B : Nat) (q : Pe) (v : Value) (xs : List Int) (w : World) (h : PenA w p B q) (ok : okP q) (hBw : B ≤ w.heap.size) (hx : RdI w 0 v xs) (h4 : (extraL xs).length % 4 = 0) :
    Calls Tryz.prog 79 #[.pointer (some ⟨p, 0, none⟩), v] w (PenP w p B (uprightP q (extraV xs) (extraL xs))) := by
  have hle := hx.1.le
  unfold maxLen at hle
  have HE := Lib.hid (pextra_calls v xs w hx)
  have HA0 := Lib.hid h
  have HOK0 := Lib.hid ok
  have hll : (extraL xs).length ≤ xs.length := by unfold extraL; split <;> simp
  generalize extraV xs = y0 at *
  generalize extraL xs = xs2 at *
  obtain ⟨R, hR⟩ : ∃ R, uprightP q y0 xs2 = R := ⟨_, rfl⟩
  have HRR := Lib.hid hR
  obtain ⟨pa, ca, rfl⟩ : ∃ pa ca, v = .slice pa xs.length ca := hx.form
  have HP : Hid (∀ q1 v a b c d e f t W, PenA W p B q1 → okP q1 → B ≤ W.heap.size → RdI W 0 v (a :: b :: c :: d :: e :: f :: t) → Calls Tryz.prog 97 #[.pointer (some ⟨p, 0, none⟩), v] W (PenP W p B (curveP q1 a b c d e f))) := fun q1 v a b c d e f t W h ok hB hx => pcurve_calls p B q1 v a b c d e f t W h ok hB hx
  rw [hR]
  have h4' := Lib.hid h4
  clear h ok hx hR h4
  obtain ⟨N, hN⟩ : ∃ N, xs.length = N := ⟨_, rfl⟩
  rw [hN] at HE hle hll ⊢
  clear hN
  go_enter Tryz.func79, Tryz.ntmps79
  go_wp2_with fail
  refine HE.out.mono ?_; rintro r w0 ⟨v0, rfl, hx0, hk0⟩
  have HL : Hid (PenY_upright w p B R y0 v0 xs2 w0) := ⟨q, hx0, HA0.out.kp0 hk0, HOK0.out, KT.of_kp0 hk0, HRR.out⟩
  obtain ⟨pa0, ca0, rfl⟩ : ∃ pa ca, v0 = .slice pa xs2.length ca := hx0.form
  obtain ⟨N2, hN2⟩ : ∃ N, xs2.length = N := ⟨_, rfl⟩
  rw [hN2] at HL hll ⊢
  have HN2 := Lib.hid hN2
  clear hN2 hx0 hk0 HE HA0
  go_wp2_with fail
  go_loopw [1, 4] (fun l yv wr => ∃ (zs : List Int) (n : Nat) (p2 : Option Addr) (c2 : Nat) (y : Int), l = .slice p2 n c2 ∧ yv = .int .i64 y ∧ zs.length = n ∧ n ≤ N2 ∧ n % 4 = 0 ∧ Hid (PenY_upright w p B R y (.slice p2 n c2) zs wr)) (fun l _ _ => lenOf l)
  case atStart => exact ⟨xs2, N2, _, _, y0, rfl, rfl, HN2.out, Nat.le_refl _, by have := h4'.out; rw [HN2.out] at this; exact this, HL⟩
  case round =>
    obtain ⟨zs, n, p2, c2, y, rfl, rfl, hn, hnN, hn4, HJ⟩ := hrel
    have hsB : B ≤ wr.heap.size := by obtain ⟨q2, _, _, _, h4, _⟩ := HJ.out; exact Nat.le_trans hBw h4.size
    match zs, hn, HJ with
    | a :: b :: c :: d :: t, hn, HJ =>
      obtain ⟨q2, h1, h2, h3, h4, h5⟩ := HJ.out
      obtain ⟨g, off, cap, hv, hc1, hc2, _⟩ := h1.at (by simp)
      obtain ⟨rfl, rfl, rfl⟩ : p2 = some ⟨g, off, none⟩ ∧ n = (a :: b :: c :: d :: t).length ∧ c2 = cap := by simpa using hv
      have HX := Lib.hid h1
      have HA := Lib.hid h2
      have HOK := Lib.hid h3
      have HK := Lib.hid h4
      have HR : Hid (uprightP (curveP q2 y a b c 0 d) 0 t = R) := h5
      have c0 : wr.cell? ⟨g, off, none⟩ = some (.int .i64 a) := by have := HX.out.cells (B := B) 0 (by simp) (KT.refl [] penTs B wr) a rfl; rwa [Nat.add_zero] at this
      have c1 := HX.out.cells (B := B) 1 (by simp) (KT.refl [] penTs B wr) b rfl
      have c2 := HX.out.cells (B := B) 2 (by simp) (KT.refl [] penTs B wr) c rfl
      have c3 := HX.out.cells (B := B) 3 (by simp) (KT.refl [] penTs B wr) d rfl
      obtain ⟨m, hm⟩ : ∃ m, t.length = m := ⟨_, rfl⟩
      have hl2 : (a :: b :: c :: d :: t).length = m + 4 := by rw [← hm]; rfl
      have HM := Lib.hid hm
      rw [hl2] at HX hc1 hnN hn4 ⊢
      clear h1 h2 h3 h4 h5 HJ hv hn hl2 hm HL
      unfold maxLen at hc2
      have qc0 := KW.cell c0
      have qc1 := KW.cell c1
      have qc2 := KW.cell c2
      have qc3 := KW.cell c3
      clear c0 c1 c2 c3
      by_cases hcap : c2 = 4
      · obtain rfl : m = 0 := by omega
        subst hcap
        go_wp2_with fail
        refine wp_region_plan [0] [1, 2, 3, 4, 5, 6, 7, 8, 9, 10, 11, 12, 13] [14, 15] (by kernel_rfl) (by kernel_rfl) ?_
        simp only [pickAt_nil, pickAt_cons, List.getElem?_cons_zero, List.getElem?_cons_succ, Option.toList_some, List.cons_append, List.nil_append]
        repeat (go_big_quiet_step (fail))
        refine wpQuiet_nil ?_
        repeat (go_big_quiet_step (fail))
        refine wpQuiet_nil ?_
        intro w1 hw'
        obtain ⟨⟨_, hkw1⟩, rfl⟩ := hw'
        try dsimp only
        go_wp2_with fail
        refine (HP.out q2 _ y a b c 0 d [] _ (HA.out.kp0 (hkw1.trans ((Kp.refl _ _).alloc _))) HOK.out (by have := hkw1.size; simp; omega) (by exact RdI.made w1 [y, a, b, c, 0, d] 6 _ rfl (by decide) (by decide) rfl)).mono ?_; rintro r w2 ⟨rfl, hA2, hk2⟩
        have HJ2 : Hid (PenL w p B R (fun q l => uprightP q 0 l) (.slice (some ⟨g, off, none⟩) 0 0) t w2) := ⟨_, by rw [List.eq_nil_of_length_eq_zero HM.out]; exact RdI.empty _ _ _, hA2, okP_curve HOK.out _ _ _ _ _ _, HK.out.trans (((KT.of_kp0 (hkw1.trans ((Kp.refl _ _).alloc _))).trans hk2)), HR.out⟩
        clear hA2 hk2 qc0 qc1 qc2 qc3
        go_wp2_with fail
        refine QN.intro ?_
        go_wp2_with fail
        go_roundw
        case rel => first | exact ⟨t, _, _, _, 0, rfl, rfl, HM.out, by omega, by omega, HJ2⟩ | ((repeat apply Exists.intro); exact ⟨⟨t, _, _, _, 0, rfl, rfl, HM.out, by omega, by omega, HJ2⟩, rfl⟩)
        case measure => simp [lenOf]
      · have hcl : 4 < c2 := by omega
        go_wp2_with fail
        refine wp_region_plan [0] [1, 2, 3, 4, 5, 6, 7, 8, 9, 10, 11, 12, 13] [14, 15] (by kernel_rfl) (by kernel_rfl) ?_
        simp only [pickAt_nil, pickAt_cons, List.getElem?_cons_zero, List.getElem?_cons_succ, Option.toList_some, List.cons_append, List.nil_append]
        repeat (go_big_quiet_step (fail))
        refine wpQuiet_nil ?_
        repeat (go_big_quiet_step (fail))
        refine wpQuiet_nil ?_
        intro w1 hw'
        obtain ⟨⟨_, hkw1⟩, rfl⟩ := hw'
        try dsimp only
        go_wp2_with fail
        refine (HP.out q2 _ y a b c 0 d [] _ (HA.out.kp0 (hkw1.trans ((Kp.refl _ _).alloc _))) HOK.out (by have := hkw1.size; simp; omega) (by exact RdI.made w1 [y, a, b, c, 0, d] 6 _ rfl (by decide) (by decide) rfl)).mono ?_; rintro r w2 ⟨rfl, hA2, hk2⟩
        have HJ2 : Hid (PenL w p B R (fun q l => uprightP q 0 l) (.slice (some ⟨g, off + 4, none⟩) m (c2 - 4)) t w2) := ⟨_, (HX.out.drop 4 hcl (by omega)).pen (((KT.of_kp0 (hkw1.trans ((Kp.refl _ _).alloc _))).trans hk2)), hA2, okP_curve HOK.out _ _ _ _ _ _, HK.out.trans (((KT.of_kp0 (hkw1.trans ((Kp.refl _ _).alloc _))).trans hk2)), HR.out⟩
        clear hA2 hk2 qc0 qc1 qc2 qc3
        go_wp2_with fail
        refine QN.intro ?_
        go_wp2_with fail
        go_roundw
        case rel => first | exact ⟨t, _, _, _, 0, rfl, rfl, HM.out, by omega, by omega, HJ2⟩ | ((repeat apply Exists.intro); exact ⟨⟨t, _, _, _, 0, rfl, rfl, HM.out, by omega, by omega, HJ2⟩, rfl⟩)
        case measure => simp [lenOf]
    | [], hn, HJ =>
      obtain rfl : 0 = n := hn
      have HR : Hid (∃ q2, PenA wr p B q2 ∧ KT [] penTs B w wr ∧ q2 = R) := by obtain ⟨q2, h1, h2, h3, h4, h5⟩ := HJ.out; exact ⟨q2, h2, h4, h5⟩
      clear HJ HL
      go_wp2_with fail
      go_end0
      obtain ⟨q2, h1, h2, rfl⟩ := HR.out
      exact ⟨rfl, h1, h2⟩
    | [x], hn, HJ => exact absurd hn4 (by rw [← hn]; simp)
    | [x, z], hn, HJ => exact absurd hn4 (by rw [← hn]; simp)
    | [x, z, u], hn, HJ => exact absurd hn4 (by rw [← hn]; simp)
end Go.Proofs.YtfgpocpfapnkkaaGreat
namespace Go.Proofs.YtfgpocpfapnkkaaGreat
open Go.RowKit
set_option linter.unusedVariables false
set_option linter.unusedSimpArgs false
def lastP : List Int → Int
  | [e] => e
  | _ => 0
def turnsP : Pe → Bool → List Int → Pe
  | q, x, a :: b :: c :: d :: t => turnsP (if x then curveP q a 0 b c (lastP t) d else curveP q 0 a b c d (lastP t)) (!x) t
  | q, _, _ => q
theorem lastP_no {t : List Int} (h : t.length ≠ 1) : lastP t = 0 := by
  match t, h with
  | [], _ => rfl
  | [_], h => exact absurd rfl h
  | _ :: _ :: _, _ => rfl
set_option maxRecDepth 100000 in
set_option maxHeartbeats 8000000 in
theorem pturns_calls (p B : Nat) (q : Pe) (v : Value) (xs : List Int) (x : Bool) (w : World) (h : PenA w p B q) (ok : okP q) (hBw : B ≤ w.heap.size) (hx : RdI w 0 v xs) :
    Calls Tryz.prog 82 #[.pointer (some ⟨p, 0, none⟩), v, .bool x] w (PenP w p B (turnsP q x xs)) := by
  have hle := hx.1.le
  unfold maxLen at hle
  obtain ⟨R, hR⟩ : ∃ R, turnsP q x xs = R := ⟨_, rfl⟩
  have HL : Hid (PenL w p B R (fun q l => turnsP q x l) v xs w) := ⟨q, hx, h, ok, KT.refl _ _ _ _, hR⟩
  obtain ⟨pa, ca, rfl⟩ : ∃ pa ca, v = .slice pa xs.length ca := hx.form
  have HP : Hid (∀ q1 v a b c d e f t W, PenA W p B q1 → okP q1 → B ≤ W.heap.size → RdI W 0 v (a :: b :: c :: d :: e :: f :: t) → Calls Tryz.prog 97 #[.pointer (some ⟨p, 0, none⟩), v] W (PenP W p B (curveP q1 a b c d e f))) := fun q1 v a b c d e f t W h ok hB hx => pcurve_calls p B q1 v a b c d e f t W h ok hB hx
  rw [hR]
  clear h ok hx hR
  obtain ⟨N, hN⟩ : ∃ N, xs.length = N := ⟨_, rfl⟩
  rw [hN] at HL hle ⊢
  have HN := Lib.hid hN
  clear hN
  go_enter Tryz.func82, Tryz.ntmps82
  go_wp2_with fail
  go_loopw [1, 2, 6] (fun l yv lv wr => ∃ (zs : List Int) (n : Nat) (p2 : Option Addr) (c2 : Nat) (y : Bool), l = .slice p2 n c2 ∧ yv = .bool y ∧ zs.length = n ∧ n ≤ N ∧ Hid (PenL w p B R (fun q l => turnsP q y l) (.slice p2 n c2) zs wr)) (fun l _ _ _ => lenOf l)
  case atStart => exact ⟨xs, N, _, _, x, rfl, rfl, HN.out, Nat.le_refl _, HL⟩
  case round =>
    obtain ⟨zs, n, p2, c2, y, rfl, rfl, hn, hnN, HJ⟩ := hrel
    have hsB : B ≤ wr.heap.size := by obtain ⟨q2, _, _, _, h4, _⟩ := HJ.out; exact Nat.le_trans hBw h4.size
    match zs, hn, HJ with
    | a :: b :: c :: d :: t, hn, HJ =>
      obtain ⟨q2, h1, h2, h3, h4, h5⟩ := HJ.out
      obtain ⟨g, off, cap, hv, hc1, hc2, _⟩ := h1.at (by simp)
      obtain ⟨rfl, rfl, rfl⟩ : p2 = some ⟨g, off, none⟩ ∧ n = (a :: b :: c :: d :: t).length ∧ c2 = cap := by simpa using hv
      have HX := Lib.hid h1
      have HA := Lib.hid h2
      have HOK := Lib.hid h3
      have HK := Lib.hid h4
      have c0 : wr.cell? ⟨g, off, none⟩ = some (.int .i64 a) := by have := HX.out.cells (B := B) 0 (by simp) (KT.refl [] penTs B wr) a rfl; rwa [Nat.add_zero] at this
      have c1 := HX.out.cells (B := B) 1 (by simp) (KT.refl [] penTs B wr) b rfl
      have c2 := HX.out.cells (B := B) 2 (by simp) (KT.refl [] penTs B wr) c rfl
      have c3 := HX.out.cells (B := B) 3 (by simp) (KT.refl [] penTs B wr) d rfl
      have qc0 := KW.cell c0
      have qc1 := KW.cell c1
      have qc2 := KW.cell c2
      have qc3 := KW.cell c3
      clear c0 c1 c2 c3
      by_cases ht1 : t.length = 1
      · obtain ⟨e, rfl⟩ := List.length_eq_one_iff.1 ht1
        have c4 := HX.out.cells (B := B) 4 (by simp) (KT.refl [] penTs B wr) e rfl
        have HR5 : Hid (turnsP (if y then curveP q2 a 0 b c e d else curveP q2 0 a b c d e) (!y) [e] = R) := h5
        rw [show ([a, b, c, d, e] : List Int).length = 5 from rfl] at HX hc1 hnN ⊢
        clear h1 h2 h3 h4 h5 HJ hv hn HL ht1
        unfold maxLen at hc2
        have hcl : 4 < c2 := by omega
        cases y
        · have HR : Hid (turnsP (curveP q2 0 a b c d e) true [e] = R) := HR5.out
          go_wp2_with fail
          refine wp_region_plan [0] [1, 2, 3, 4, 5, 6, 7, 8, 9, 10, 11, 12, 13] [14, 15] (by kernel_rfl) (by kernel_rfl) ?_
          simp only [pickAt_nil, pickAt_cons, List.getElem?_cons_zero, List.getElem?_cons_succ, Option.toList_some, List.cons_append, List.nil_append]
          repeat (go_big_quiet_step (fail))
          refine wpQuiet_nil ?_
          repeat (go_big_quiet_step (fail))
          refine wpQuiet_nil ?_
          intro w1 hw'
          obtain ⟨⟨_, hkw1⟩, rfl⟩ := hw'
          try dsimp only
          go_wp2_with fail
          refine (HP.out q2 _ 0 a b c d e [] _ (HA.out.kp0 (hkw1.trans ((Kp.refl _ _).alloc _))) HOK.out (by have := hkw1.size; simp; omega) (by exact RdI.made w1 [0, a, b, c, d, e] 6 _ rfl (by decide) (by decide) rfl)).mono ?_; rintro r w2 ⟨rfl, hA2, hk2⟩
          have HJ2 : Hid (PenL w p B R (fun q l => turnsP q true l) (.slice (some ⟨g, off + 4, none⟩) 1 (c2 - 4)) [e] w2) := ⟨_, (HX.out.drop 4 hcl (by omega)).pen (((KT.of_kp0 (hkw1.trans ((Kp.refl _ _).alloc _))).trans hk2)), hA2, okP_curve HOK.out _ _ _ _ _ _, HK.out.trans (((KT.of_kp0 (hkw1.trans ((Kp.refl _ _).alloc _))).trans hk2)), HR.out⟩
          clear hA2 hk2 qc0 qc1 qc2 qc3
          go_wp2_with fail
          refine QN.intro ?_
          go_wp2_with fail
          go_roundw
          case rel => first | exact ⟨[e], _, _, _, true, rfl, rfl, rfl, by omega, HJ2⟩ | ((repeat apply Exists.intro); exact ⟨⟨[e], _, _, _, true, rfl, rfl, rfl, by omega, HJ2⟩, rfl⟩)
          case measure => simp [lenOf]
        · have HR : Hid (turnsP (curveP q2 a 0 b c e d) false [e] = R) := HR5.out
          go_wp2_with fail
          refine wp_region_plan [0] [1, 2, 3, 4, 5, 6, 7, 8, 9, 10, 11, 12, 13] [14, 15] (by kernel_rfl) (by kernel_rfl) ?_
          simp only [pickAt_nil, pickAt_cons, List.getElem?_cons_zero, List.getElem?_cons_succ, Option.toList_some, List.cons_append, List.nil_append]
          repeat (go_big_quiet_step (fail))
          refine wpQuiet_nil ?_
          repeat (go_big_quiet_step (fail))
          refine wpQuiet_nil ?_
          intro w1 hw'
          obtain ⟨⟨_, hkw1⟩, rfl⟩ := hw'
          try dsimp only
          go_wp2_with fail
          refine (HP.out q2 _ a 0 b c e d [] _ (HA.out.kp0 (hkw1.trans ((Kp.refl _ _).alloc _))) HOK.out (by have := hkw1.size; simp; omega) (by exact RdI.made w1 [a, 0, b, c, e, d] 6 _ rfl (by decide) (by decide) rfl)).mono ?_; rintro r w2 ⟨rfl, hA2, hk2⟩
          have HJ2 : Hid (PenL w p B R (fun q l => turnsP q false l) (.slice (some ⟨g, off + 4, none⟩) 1 (c2 - 4)) [e] w2) := ⟨_, (HX.out.drop 4 hcl (by omega)).pen (((KT.of_kp0 (hkw1.trans ((Kp.refl _ _).alloc _))).trans hk2)), hA2, okP_curve HOK.out _ _ _ _ _ _, HK.out.trans (((KT.of_kp0 (hkw1.trans ((Kp.refl _ _).alloc _))).trans hk2)), HR.out⟩
          clear hA2 hk2 qc0 qc1 qc2 qc3
          go_wp2_with fail
          refine QN.intro ?_
          go_wp2_with fail
          go_roundw
          case rel => first | exact ⟨[e], _, _, _, false, rfl, rfl, rfl, by omega, HJ2⟩ | ((repeat apply Exists.intro); exact ⟨⟨[e], _, _, _, false, rfl, rfl, rfl, by omega, HJ2⟩, rfl⟩)
          case measure => simp [lenOf]
      · have HL0 := Lib.hid (lastP_no ht1)
        have HR5 : Hid (turnsP (if y then curveP q2 a 0 b c (lastP t) d else curveP q2 0 a b c d (lastP t)) (!y) t = R) := h5
        rw [HL0.out] at HR5
        have hm1 : t.length + 4 ≠ 5 := by omega
        obtain ⟨m, hm⟩ : ∃ m, t.length = m := ⟨_, rfl⟩
        have hl2 : (a :: b :: c :: d :: t).length = m + 4 := by rw [← hm]; rfl
        have HM := Lib.hid hm
        rw [hl2] at HX hc1 hnN ⊢
        rw [HM.out] at hm1
        clear ht1 h1 h2 h3 h4 h5 HJ hv hn hl2 hm HL
        unfold maxLen at hc2
        cases y
        · have HR : Hid (turnsP (curveP q2 0 a b c d 0) true t = R) := HR5.out
          by_cases hcap : c2 = 4
          · obtain rfl : m = 0 := by omega
            subst hcap
            go_wp2_with fail
            refine wp_region_plan [0] [1, 2, 3, 4, 5, 6, 7, 8, 9, 10, 11, 12, 13] [14, 15] (by kernel_rfl) (by kernel_rfl) ?_
            simp only [pickAt_nil, pickAt_cons, List.getElem?_cons_zero, List.getElem?_cons_succ, Option.toList_some, List.cons_append, List.nil_append]
            repeat (go_big_quiet_step (fail))
            refine wpQuiet_nil ?_
            repeat (go_big_quiet_step (fail))
            refine wpQuiet_nil ?_
            intro w1 hw'
            obtain ⟨⟨_, hkw1⟩, rfl⟩ := hw'
            try dsimp only
            go_wp2_with fail
            refine (HP.out q2 _ 0 a b c d 0 [] _ (HA.out.kp0 (hkw1.trans ((Kp.refl _ _).alloc _))) HOK.out (by have := hkw1.size; simp; omega) (by exact RdI.made w1 [0, a, b, c, d, 0] 6 _ rfl (by decide) (by decide) rfl)).mono ?_; rintro r w2 ⟨rfl, hA2, hk2⟩
            have HJ2 : Hid (PenL w p B R (fun q l => turnsP q true l) (.slice (some ⟨g, off, none⟩) 0 0) t w2) := ⟨_, by rw [List.eq_nil_of_length_eq_zero HM.out]; exact RdI.empty _ _ _, hA2, okP_curve HOK.out _ _ _ _ _ _, HK.out.trans (((KT.of_kp0 (hkw1.trans ((Kp.refl _ _).alloc _))).trans hk2)), HR.out⟩
            clear hA2 hk2 qc0 qc1 qc2 qc3
            go_wp2_with fail
            refine QN.intro ?_
            go_wp2_with fail
            go_roundw
            case rel => first | exact ⟨t, _, _, _, true, rfl, rfl, HM.out, by omega, HJ2⟩ | ((repeat apply Exists.intro); exact ⟨⟨t, _, _, _, true, rfl, rfl, HM.out, by omega, HJ2⟩, rfl⟩)
            case measure => simp [lenOf]
          · have hcl : 4 < c2 := by omega
            go_wp2_with fail
            refine wp_region_plan [0] [1, 2, 3, 4, 5, 6, 7, 8, 9, 10, 11, 12, 13] [14, 15] (by kernel_rfl) (by kernel_rfl) ?_
            simp only [pickAt_nil, pickAt_cons, List.getElem?_cons_zero, List.getElem?_cons_succ, Option.toList_some, List.cons_append, List.nil_append]
            repeat (go_big_quiet_step (fail))
            refine wpQuiet_nil ?_
            repeat (go_big_quiet_step (fail))
            refine wpQuiet_nil ?_
            intro w1 hw'
            obtain ⟨⟨_, hkw1⟩, rfl⟩ := hw'
            try dsimp only
            go_wp2_with fail
            refine (HP.out q2 _ 0 a b c d 0 [] _ (HA.out.kp0 (hkw1.trans ((Kp.refl _ _).alloc _))) HOK.out (by have := hkw1.size; simp; omega) (by exact RdI.made w1 [0, a, b, c, d, 0] 6 _ rfl (by decide) (by decide) rfl)).mono ?_; rintro r w2 ⟨rfl, hA2, hk2⟩
            have HJ2 : Hid (PenL w p B R (fun q l => turnsP q true l) (.slice (some ⟨g, off + 4, none⟩) m (c2 - 4)) t w2) := ⟨_, (HX.out.drop 4 hcl (by omega)).pen (((KT.of_kp0 (hkw1.trans ((Kp.refl _ _).alloc _))).trans hk2)), hA2, okP_curve HOK.out _ _ _ _ _ _, HK.out.trans (((KT.of_kp0 (hkw1.trans ((Kp.refl _ _).alloc _))).trans hk2)), HR.out⟩
            clear hA2 hk2 qc0 qc1 qc2 qc3
            go_wp2_with fail
            refine QN.intro ?_
            go_wp2_with fail
            go_roundw
            case rel => first | exact ⟨t, _, _, _, true, rfl, rfl, HM.out, by omega, HJ2⟩ | ((repeat apply Exists.intro); exact ⟨⟨t, _, _, _, true, rfl, rfl, HM.out, by omega, HJ2⟩, rfl⟩)
            case measure => simp [lenOf]
        · have HR : Hid (turnsP (curveP q2 a 0 b c 0 d) false t = R) := HR5.out
          by_cases hcap : c2 = 4
          · obtain rfl : m = 0 := by omega
            subst hcap
            go_wp2_with fail
            refine wp_region_plan [0] [1, 2, 3, 4, 5, 6, 7, 8, 9, 10, 11, 12, 13] [14, 15] (by kernel_rfl) (by kernel_rfl) ?_
            simp only [pickAt_nil, pickAt_cons, List.getElem?_cons_zero, List.getElem?_cons_succ, Option.toList_some, List.cons_append, List.nil_append]
            repeat (go_big_quiet_step (fail))
            refine wpQuiet_nil ?_
            repeat (go_big_quiet_step (fail))
            refine wpQuiet_nil ?_
            intro w1 hw'
            obtain ⟨⟨_, hkw1⟩, rfl⟩ := hw'
            try dsimp only
            go_wp2_with fail
            refine (HP.out q2 _ a 0 b c 0 d [] _ (HA.out.kp0 (hkw1.trans ((Kp.refl _ _).alloc _))) HOK.out (by have := hkw1.size; simp; omega) (by exact RdI.made w1 [a, 0, b, c, 0, d] 6 _ rfl (by decide) (by decide) rfl)).mono ?_; rintro r w2 ⟨rfl, hA2, hk2⟩
            have HJ2 : Hid (PenL w p B R (fun q l => turnsP q false l) (.slice (some ⟨g, off, none⟩) 0 0) t w2) := ⟨_, by rw [List.eq_nil_of_length_eq_zero HM.out]; exact RdI.empty _ _ _, hA2, okP_curve HOK.out _ _ _ _ _ _, HK.out.trans (((KT.of_kp0 (hkw1.trans ((Kp.refl _ _).alloc _))).trans hk2)), HR.out⟩
            clear hA2 hk2 qc0 qc1 qc2 qc3
            go_wp2_with fail
            refine QN.intro ?_
            go_wp2_with fail
            go_roundw
            case rel => first | exact ⟨t, _, _, _, false, rfl, rfl, HM.out, by omega, HJ2⟩ | ((repeat apply Exists.intro); exact ⟨⟨t, _, _, _, false, rfl, rfl, HM.out, by omega, HJ2⟩, rfl⟩)
            case measure => simp [lenOf]
          · have hcl : 4 < c2 := by omega
            go_wp2_with fail
            refine wp_region_plan [0] [1, 2, 3, 4, 5, 6, 7, 8, 9, 10, 11, 12, 13] [14, 15] (by kernel_rfl) (by kernel_rfl) ?_
            simp only [pickAt_nil, pickAt_cons, List.getElem?_cons_zero, List.getElem?_cons_succ, Option.toList_some, List.cons_append, List.nil_append]
            repeat (go_big_quiet_step (fail))
            refine wpQuiet_nil ?_
            repeat (go_big_quiet_step (fail))
            refine wpQuiet_nil ?_
            intro w1 hw'
            obtain ⟨⟨_, hkw1⟩, rfl⟩ := hw'
            try dsimp only
            go_wp2_with fail
            refine (HP.out q2 _ a 0 b c 0 d [] _ (HA.out.kp0 (hkw1.trans ((Kp.refl _ _).alloc _))) HOK.out (by have := hkw1.size; simp; omega) (by exact RdI.made w1 [a, 0, b, c, 0, d] 6 _ rfl (by decide) (by decide) rfl)).mono ?_; rintro r w2 ⟨rfl, hA2, hk2⟩
            have HJ2 : Hid (PenL w p B R (fun q l => turnsP q false l) (.slice (some ⟨g, off + 4, none⟩) m (c2 - 4)) t w2) := ⟨_, (HX.out.drop 4 hcl (by omega)).pen (((KT.of_kp0 (hkw1.trans ((Kp.refl _ _).alloc _))).trans hk2)), hA2, okP_curve HOK.out _ _ _ _ _ _, HK.out.trans (((KT.of_kp0 (hkw1.trans ((Kp.refl _ _).alloc _))).trans hk2)), HR.out⟩
            clear hA2 hk2 qc0 qc1 qc2 qc3
            go_wp2_with fail
            refine QN.intro ?_
            go_wp2_with fail
            go_roundw
            case rel => first | exact ⟨t, _, _, _, false, rfl, rfl, HM.out, by omega, HJ2⟩ | ((repeat apply Exists.intro); exact ⟨⟨t, _, _, _, false, rfl, rfl, HM.out, by omega, HJ2⟩, rfl⟩)
            case measure => simp [lenOf]
    | [], hn, HJ =>
      obtain rfl : 0 = n := hn
      have HR : Hid (∃ q2, PenA wr p B q2 ∧ KT [] penTs B w wr ∧ q2 = R) := by obtain ⟨q2, h1, h2, h3, h4, h5⟩ := HJ.out; exact ⟨q2, h2, h4, h5⟩
      clear HJ HL
      go_wp2_with fail
      go_end0
      obtain ⟨q2, h1, h2, rfl⟩ := HR.out
      exact ⟨rfl, h1, h2⟩
    | [x], hn, HJ =>
      obtain rfl : 1 = n := hn
      have HR : Hid (∃ q2, PenA wr p B q2 ∧ KT [] penTs B w wr ∧ q2 = R) := by obtain ⟨q2, h1, h2, h3, h4, h5⟩ := HJ.out; exact ⟨q2, h2, h4, h5⟩
      clear HJ HL
      go_wp2_with fail
      go_end0
      obtain ⟨q2, h1, h2, rfl⟩ := HR.out
      exact ⟨rfl, h1, h2⟩
    | [x, z], hn, HJ =>
      obtain rfl : 2 = n := hn
      have HR : Hid (∃ q2, PenA wr p B q2 ∧ KT [] penTs B w wr ∧ q2 = R) := by obtain ⟨q2, h1, h2, h3, h4, h5⟩ := HJ.out; exact ⟨q2, h2, h4, h5⟩
      clear HJ HL
      go_wp2_with fail
      go_end0
      obtain ⟨q2, h1, h2, rfl⟩ := HR.out
      exact ⟨rfl, h1, h2⟩
    | [x, z, u], hn, HJ =>
      obtain rfl : 3 = n := hn
      have HR : Hid (∃ q2, PenA wr p B q2 ∧ KT [] penTs B w wr ∧ q2 = R) := by obtain ⟨q2, h1, h2, h3, h4, h5⟩ := HJ.out; exact ⟨q2, h2, h4, h5⟩
      clear HJ HL
      go_wp2_with fail
      go_end0
      obtain ⟨q2, h1, h2, rfl⟩ := HR.out
      exact ⟨rfl, h1, h2⟩
end Go.Proofs.YtfgpocpfapnkkaaGreat

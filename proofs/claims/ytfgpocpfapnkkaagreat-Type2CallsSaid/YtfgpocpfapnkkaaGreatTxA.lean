/- type2: the pen, in plain Lean and in memory; what an operation leaves of memory (KT); fail, to · type2: the pen's rows; move, put. (Merged by wip/tools/mergetpl.py out of TyA, TyB.) -/
import Derived.Test.YtfgpocpfapnkkaaGreatOmA
import Derived.Test.YtfgpocpfapnkkaaGreatStB
import Derived.Test.YtfgpocpfapnkkaaGreatFixC
import Derived.BigQuiet
import Derived.Deep.AppendLies
import Derived.Deep.RegionLaw
namespace Go.Proofs.YtfgpocpfapnkkaaGreat
open Go.RowKit
set_option linter.unusedVariables false
set_option linter.unusedSimpArgs false
/-- A pen: where it is, what was drawn, how many points, what was wrong first. -/
structure Pe where
  x : Int
  y : Int
  l : List (List Pn)
  n : Int
  e : Int
def failP (q : Pe) (e : Int) : Pe := if q.e = 0 then { q with e := e } else q
def sumV (a b : Int) : Int := opV (a + b) [a, b]
def sumE (a b : Int) : Int := opE (a + b) [a, b]
def toQ (q : Pe) (dx dy : Int) : Pe := { failP (failP q (sumE q.x dx)) (sumE q.y dy) with x := sumV q.x dx, y := sumV q.y dy, n := q.n + 1 }
def toP (q : Pe) (dx dy : Int) : Pe := if 4096 < q.n + 1 then failP (toQ q dx dy) 100 else toQ q dx dy
def toPt (q : Pe) (dx dy k : Int) : Pn := ⟨sumV q.x dx, sumV q.y dy, k⟩
def moveP (q : Pe) (dx dy : Int) : Pe := if q.e = 0 then { toP q dx dy with l := q.l ++ [[toPt q dx dy 1]] } else q
def putP (q : Pe) (dx dy k : Int) : Pe := if q.e = 0 then (if q.l = [] then failP q 180 else { toP q dx dy with l := q.l.dropLast ++ [q.l.getLastD [] ++ [toPt q dx dy k]] }) else q
theorem failP_l (q : Pe) (e : Int) : (failP q e).l = q.l ∧ (failP q e).x = q.x ∧ (failP q e).y = q.y ∧ (failP q e).n = q.n := by unfold failP; split <;> exact ⟨rfl, rfl, rfl, rfl⟩
theorem toQ_l (q : Pe) (dx dy : Int) : (toQ q dx dy).l = q.l := by
  show (failP (failP q (sumE q.x dx)) (sumE q.y dy)).l = q.l
  rw [(failP_l _ _).1, (failP_l _ _).1]
theorem toP_l (q : Pe) (dx dy : Int) : (toP q dx dy).l = q.l := by
  unfold toP; split
  · rw [(failP_l _ _).1, toQ_l]
  · exact toQ_l q dx dy
theorem toP_n (q : Pe) (dx dy : Int) : (toP q dx dy).n = q.n + 1 := by
  unfold toP; split
  · rw [(failP_l _ _).2.2.2]; rfl
  · rfl
/-- What holds of a pen at all times. -/
def okP (q : Pe) : Prop := 0 ≤ q.n ∧ q.n ≤ 4097 ∧ (q.e = 0 → q.n ≤ 4096) ∧ (q.l.length : Int) ≤ q.n ∧ ∀ c ∈ q.l, (c.length : Int) ≤ q.n
/-- What an operation leaves of memory: blocks below base, and such whose elements are of none of the types Ts, are as they were (but for those of S). -/
structure KT (S : List Nat) (Ts : List TypeId) (base : Nat) (w w' : World) : Prop where
  os : w'.os = w.os
  tape : w'.tape = w.tape
  output : w'.output = w.output
  size : w.heap.size ≤ w'.heap.size
  block : ∀ b o, w.heap[b]? = some o → b ∉ S → (b < base ∨ ∀ cur t z, o = .cells cur t z → t ∉ Ts) → w'.heap[b]? = some o
theorem KT.refl (S : List Nat) (Ts : List TypeId) (base : Nat) (w : World) : KT S Ts base w w := ⟨rfl, rfl, rfl, Nat.le_refl _, fun _ _ h _ _ => h⟩
theorem KT.trans {S : List Nat} {Ts : List TypeId} {base : Nat} {a b c : World} (h : KT S Ts base a b) (k : KT S Ts base b c) : KT S Ts base a c :=
  ⟨k.os.trans h.os, k.tape.trans h.tape, k.output.trans h.output, Nat.le_trans h.size k.size, fun i o ho hs ht => k.block i o (h.block i o ho hs ht) hs ht⟩
theorem KT.of_kp {S S' : List Nat} {Ts : List TypeId} {base : Nat} {w w' : World} (h : Kp S' w w') (hS : ∀ s ∈ S', s ∈ S ∨ w.heap.size ≤ s ∨ (base ≤ s ∧ ∃ cur t z, w.heap[s]? = some (.cells cur t z) ∧ t ∈ Ts)) : KT S Ts base w w' :=
  ⟨h.os, h.tape, h.output, h.size, fun b o ho hs ht => (h.block b (lt_of_block ho) (fun hb => by
    rcases hS b hb with g | g | ⟨g, cur, t, z, g1, g2⟩
    · exact hs g
    · have := lt_of_block ho; omega
    · rw [ho] at g1
      rcases ht with h1 | h1
      · omega
      · exact h1 cur t z (Option.some.inj g1) g2)).trans ho⟩
theorem KT.of_kp0 {S : List Nat} {Ts : List TypeId} {base : Nat} {w w' : World} (h : Kp [] w w') : KT S Ts base w w' := KT.of_kp h (fun s hs => nomatch hs)
theorem KT.mono {S S' : List Nat} {Ts Ts' : List TypeId} {base base' : Nat} {w w' : World} (h : KT S Ts base w w') (hS : ∀ s ∈ S, s ∈ S') (hT : ∀ t ∈ Ts, t ∈ Ts') (hb : base' ≤ base) : KT S' Ts' base' w w' :=
  ⟨h.os, h.tape, h.output, h.size, fun b o ho hs ht => h.block b o ho (fun g => hs (hS b g)) (ht.elim (fun g => .inl (by omega)) (fun g => .inr fun cur t z e ht' => g cur t z e (hT t ht')))⟩
theorem KT.heap {S : List Nat} {Ts : List TypeId} {base : Nat} {w w' : World} (h : KT S Ts base w w') {b : Nat} {cur : Array Value} {t : TypeId} {z : Nat × Nat} (hb : w.heap[b]? = some (.cells cur t z)) (hs : b ∉ S) (ht : b < base ∨ t ∉ Ts) : w'.heap[b]? = some (.cells cur t z) :=
  h.block b _ hb hs (ht.elim .inl fun g => .inr fun cur' t' z' e => by cases e; exact g)
theorem KT.kp {S : List Nat} {Ts : List TypeId} {base : Nat} {W0 w w' : World} (h : KT S Ts base w w') (hk : Kp [] W0 w) (hb : W0.heap.size ≤ base) (hS : ∀ s ∈ S, W0.heap.size ≤ s) : Kp [] W0 w' :=
  ⟨h.os.trans hk.os, h.tape.trans hk.tape, h.output.trans hk.output, Nat.le_trans hk.size h.size, fun k hkk _ => by
    have h1 := hk.block k hkk (by simp)
    obtain ⟨o, ho⟩ : ∃ o, W0.heap[k]? = some o := ⟨_, Array.getElem?_eq_getElem hkk⟩
    rw [ho] at h1 ⊢
    exact h.block k o h1 (fun hs => by have := hS k hs; omega) (.inl (by omega))⟩
theorem KT.ownsRow {S : List Nat} {Ts : List TypeId} {base b0 : Nat} {w w' : World} (h : KT S Ts base w w') {e : TypeId} {size n : Nat} {v : Value} {xs : List Value} (hr : w.ownsRow b0 e size v n xs) (hS : ∀ s ∈ S, v.ownBlock ≠ some s) (he : e ∉ Ts) : w'.ownsRow b0 e size v n xs := by
  refine ⟨hr.1, ?_⟩
  rcases hr.2 with hn | ⟨g, cap, cur, rfl, hb, hgg, rest⟩
  · exact .inl hn
  · exact .inr ⟨g, cap, cur, rfl, hb, h.heap hgg (fun hs => hS g hs rfl) (.inr he), rest⟩
theorem KT.ownC {S : List Nat} {Ts : List TypeId} {base b0 : Nat} {w w' : World} (h : KT S Ts base w w') {e : TypeId} {v : Value} {l : List Int} (hr : OwnC w b0 e v l) (hS : ∀ s ∈ S, v.ownBlock ≠ some s) (he : e ∉ Ts) : OwnC w' b0 e v l := by
  rcases hr with hn | ⟨g, cap, cur, rfl, hb, hgg, rest⟩
  · exact .inl hn
  · exact .inr ⟨g, cap, cur, rfl, hb, h.heap hgg (fun hs => hS g hs rfl) (.inr he), rest⟩
/-- A slice of numbers that a pen's operation does not change. -/
def RdI (w : World) (base : Nat) (v : Value) (xs : List Int) : Prop :=
  IsInts .i64 w v xs ∧ ∀ b, blockOf v = some b → ∃ cur z, w.heap[b]? = some (.cells cur 3 z)
theorem KT.cell {S : List Nat} {Ts : List TypeId} {base : Nat} {w w' : World} (h : KT S Ts base w w') {a : Addr} {u : Value} {cur : Array Value} {t : TypeId} {z : Nat × Nat} (hb : w.heap[a.block]? = some (.cells cur t z)) (hs : a.block ∉ S) (ht : t ∉ Ts) (hc : w.cell? a = some u) : w'.cell? a = some u :=
  (World.cell?_of_block ((h.heap hb hs (.inr ht)).trans hb.symm)).trans hc
theorem RdI.kt {S : List Nat} {Ts : List TypeId} {base b0 : Nat} {w w' : World} {v : Value} {xs : List Int} (h : RdI w b0 v xs) (k : KT S Ts base w w') (hS : ∀ s ∈ S, blockOf v ≠ some s) (he : 3 ∉ Ts) : RdI w' b0 v xs := by
  refine ⟨?_, fun b hb => ?_⟩
  · rcases h.1 with hn | ⟨g, off, cap, rfl, h1, h2, h3⟩
    · exact .inl hn
    · refine .inr ⟨g, off, cap, rfl, h1, h2, fun i hi => ?_⟩
      have hbl : blockOf (.slice (some ⟨g, off, none⟩) xs.length cap) = some g := (blockOf_some _ _ _ _ _ _).2 ⟨by omega, rfl⟩
      obtain ⟨cur, z, hg⟩ := h.2 g hbl
      exact k.cell (a := ⟨g, off + i, none⟩) hg (fun hs => hS g hs hbl) he (h3 i hi)
  · obtain ⟨cur, z, hg⟩ := h.2 b hb
    exact ⟨cur, z, k.heap hg (fun hs => hS b hs hb) (.inr he)⟩
/-- Where a pen lies in memory. -/
def PenC (w : World) (p : Nat) (lv : Value) (q : Pe) : Prop := w.heap[p]? = some (.cells #[.int .i64 q.x, .int .i64 q.y, lv, .int .i64 q.n, .int .i64 q.e] 51 (0, 0))
theorem PenC.kp {S : List Nat} {w w' : World} {p : Nat} {lv : Value} {q : Pe} (h : PenC w p lv q) (hk : Kp S w w') (hp : p ∉ S) : PenC w' p lv q := hk.heap h hp
theorem PenC.kp0 {w w' : World} {p : Nat} {lv : Value} {q : Pe} (h : PenC w p lv q) (hk : Kp [] w w') : PenC w' p lv q := h.kp hk (by simp)
theorem PenC.facts {w : World} {p : Nat} {lv : Value} {q : Pe} (h : PenC w p lv q) :
    w.cell? ⟨p, 0, none⟩ = some (.int .i64 q.x) ∧ w.cell? ⟨p, 1, none⟩ = some (.int .i64 q.y) ∧ w.cell? ⟨p, 2, none⟩ = some lv ∧ w.cell? ⟨p, 3, none⟩ = some (.int .i64 q.n) ∧ w.cell? ⟨p, 4, none⟩ = some (.int .i64 q.e) ∧ ∀ j, w.frozen? ⟨p, j, none⟩ = false :=
  ⟨by rw [cell_of_row w p _ _ _ _ h]; rfl, by rw [cell_of_row w p _ _ _ _ h]; rfl, by rw [cell_of_row w p _ _ _ _ h]; rfl, by rw [cell_of_row w p _ _ _ _ h]; rfl, by rw [cell_of_row w p _ _ _ _ h]; rfl, fun j => frozen_of_row w p j _ _ h⟩
theorem PenC.setE {w : World} {p : Nat} {lv : Value} {q : Pe} (h : PenC w p lv q) (e : Int) : PenC (w.setCell ⟨p, 4, none⟩ (.int .i64 e)) p lv { q with e := e } := heap_setCell_same w p 4 _ _ _ h
theorem PenC.setX {w : World} {p : Nat} {lv : Value} {q : Pe} (h : PenC w p lv q) (x : Int) : PenC (w.setCell ⟨p, 0, none⟩ (.int .i64 x)) p lv { q with x := x } := heap_setCell_same w p 0 _ _ _ h
theorem PenC.setY {w : World} {p : Nat} {lv : Value} {q : Pe} (h : PenC w p lv q) (y : Int) : PenC (w.setCell ⟨p, 1, none⟩ (.int .i64 y)) p lv { q with y := y } := heap_setCell_same w p 1 _ _ _ h
theorem PenC.setN {w : World} {p : Nat} {lv : Value} {q : Pe} (h : PenC w p lv q) (n : Int) : PenC (w.setCell ⟨p, 3, none⟩ (.int .i64 n)) p lv { q with n := n } := heap_setCell_same w p 3 _ _ _ h
theorem PenC.setL {w : World} {p : Nat} {lv : Value} {q : Pe} (h : PenC w p lv q) (v : Value) (l : List (List Pn)) : PenC (w.setCell ⟨p, 2, none⟩ v) p v { q with l := l } := heap_setCell_same w p 2 _ _ _ h
theorem pfail_calls (p : Nat) (lv : Value) (q : Pe) (e : Int) (w : World) (h : PenC w p lv q) :
    Calls Tryz.prog 117 #[.pointer (some ⟨p, 0, none⟩), .int .i64 e] w fun r w' => r = .returned (.tuple #[]) ∧ PenC w' p lv (failP q e) ∧ Kp [p] w w' := by
  obtain ⟨c0, c1, c2, c3, c4, f⟩ := h.facts
  have f4 := f 4
  by_cases he : q.e = 0
  · have hb : (q.e == 0) = true := by simpa using he
    have hP := Lib.hid (h.setE e)
    have hF : Hid (failP q e = { q with e := e }) := if_pos he
    rw [he] at c4
    clear h f c0 c1 c2 c3
    go_enter Tryz.func117, Tryz.ntmps117
    go_wp2_with fail
    go_end0
    exact ⟨rfl, by rw [hF.out]; exact hP.out, by (repeat (first | exact Kp.refl _ _ | assumption | refine Kp.drew ?_ | refine Kp.drewN ?_ _ | refine Kp.alloc ?_ _ | (refine Kp.setCell ?_ (by first | (left; simp; done) | (right; simp; try omega)) _) | (refine Kp.trans' ?_ (by assumption) (by simp; try omega))))⟩
  · have hb : (q.e == 0) = false := by simpa using he
    have hF : Hid (failP q e = q) := if_neg he
    have hP := Lib.hid h
    clear h f c0 c1 c2 c3
    go_enter Tryz.func117, Tryz.ntmps117
    go_wp2_with fail
    go_end0
    exact ⟨rfl, by rw [hF.out]; exact hP.out, Kp.refl _ _⟩
set_option maxRecDepth 100000 in
set_option maxHeartbeats 4000000 in
theorem pto_calls (p : Nat) (lv : Value) (q : Pe) (dx dy k : Int) (w : World) (h : PenC w p lv q) (hn : 0 ≤ q.n ∧ q.n ≤ 100000) :
    Calls Tryz.prog 95 #[.pointer (some ⟨p, 0, none⟩), .int .i64 dx, .int .i64 dy, .int .i64 k] w fun r w' => r = .returned (.agg #[.int .i64 (sumV q.x dx), .int .i64 (sumV q.y dy), .int .i64 k]) ∧ PenC w' p lv (toP q dx dy) ∧ Kp [p] w w' := by
  have hlt : p < w.heap.size := lt_of_block h
  obtain ⟨c0, c1, c2, c3, c4, f⟩ := h.facts
  have H := Lib.hid h
  have HQ : Hid (toP q dx dy = if 4096 < q.n + 1 then failP (toQ q dx dy) 100 else toQ q dx dy) := rfl
  have HQ2 : Hid (toQ q dx dy = { failP (failP q (sumE q.x dx)) (sumE q.y dy) with x := sumV q.x dx, y := sumV q.y dy, n := q.n + 1 }) := rfl
  have hn1 : (failP (failP q (sumE q.x dx)) (sumE q.y dy)).n = q.n := by rw [(failP_l _ _).2.2.2, (failP_l _ _).2.2.2]
  have HN1 := Lib.hid hn1
  obtain ⟨hn2, hn3⟩ := hn
  clear f c1 c2 c3 c4 h hn1
  go_enter Tryz.func95, Tryz.ntmps95
  go_wp2_with fail
  obtain ⟨B, hB⟩ : ∃ B, w.heap.size = B := ⟨_, rfl⟩
  have HB0 : Hid ((w.alloc (.cells #[.int .i64 0, .int .i64 0, .int .i64 0] 38)).heap[B]? = some (.cells #[.int .i64 0, .int .i64 0, .int .i64 0] 38 (0, 0))) := by show _ = _; rw [← hB]; exact heap_alloc_new w _
  rw [hB]
  have hpB : p ≠ B := by omega
  refine (add_calls q.x dx _).mono ?_; rintro e w1 ⟨rfl, hb1⟩
  have HB1 : Hid (w1.heap[B]? = _) := (Kp.of_below hb1).heap HB0.out (by simp)
  have HK1 : Hid (Kp [] w w1) := Kp.trans ((Kp.refl _ _).alloc _) (Kp.of_below hb1)
  have H1 := Lib.hid (H.out.kp0 HK1.out)
  obtain ⟨_, c1, _⟩ := H1.out.facts
  clear hb1 c0 H HB0
  go_wp2_with fail
  refine (add_calls q.y dy _).mono ?_; rintro e w2 ⟨rfl, hb2⟩
  have HB2 : Hid (w2.heap[B]? = _) := (Kp.of_below hb2).heap HB1.out (by simp)
  have HK2 : Hid (Kp [] w w2) := HK1.out.trans (Kp.of_below hb2)
  have H2 := Lib.hid (H1.out.kp0 (Kp.of_below hb2))
  clear hb2 c1 H1 HB1 HK1
  rw [show opV (q.x + dx) [q.x, dx] = sumV q.x dx from rfl, show opE (q.x + dx) [q.x, dx] = sumE q.x dx from rfl, show opV (q.y + dy) [q.y, dy] = sumV q.y dy from rfl, show opE (q.y + dy) [q.y, dy] = sumE q.y dy from rfl]
  generalize hX : sumV q.x dx = X at *
  have HX := Lib.hid hX
  clear hX
  generalize hEX : sumE q.x dx = EX at *
  have HEX := Lib.hid hEX
  clear hEX
  generalize hY : sumV q.y dy = Y at *
  have HY := Lib.hid hY
  clear hY
  generalize hEY : sumE q.y dy = EY at *
  have HEY := Lib.hid hEY
  clear hEY
  go_wp2_with fail
  refine (pfail_calls p lv q EX w2 H2.out).mono ?_; rintro e w3 ⟨rfl, h3, hk3⟩
  have HB3 : Hid (w3.heap[B]? = _) := hk3.heap HB2.out (by simp; omega)
  have HK3 : Hid (Kp [p] w w3) := (HK2.out.more (by simp)).trans hk3
  have H3 := Lib.hid h3
  clear h3 hk3 H2 HB2 HK2
  go_wp2_with fail
  refine (pfail_calls p lv _ EY w3 H3.out).mono ?_; rintro e w4 ⟨rfl, h4, hk4⟩
  have HB4 : Hid (w4.heap[B]? = _) := hk4.heap HB3.out (by simp; omega)
  have HK4 : Hid (Kp [p] w w4) := HK3.out.trans hk4
  obtain ⟨_, _, _, c3, _, f⟩ := h4.facts
  rw [HN1.out] at c3
  have f0 := f 0
  have f1 := f 1
  have f3 := f 3
  have H4 := Lib.hid (((h4.setX X).setY Y).setN (q.n + 1))
  have hk5 : Kp [p] w4 (((w4.setCell ⟨p, 0, none⟩ (.int .i64 X)).setCell ⟨p, 1, none⟩ (.int .i64 Y)).setCell ⟨p, 3, none⟩ (.int .i64 (q.n + 1))) := (((Kp.refl _ _).setCell (.inl (by simp)) _).setCell (.inl (by simp)) _).setCell (.inl (by simp)) _
  have HB5 := Lib.hid (hk5.heap HB4.out (by simp; omega))
  have HK5 : Hid (Kp [p] w _) := HK4.out.trans hk5
  clear h4 hk4 H3 HB3 HK3 hk5 HK4 HB4 f
  by_cases h6 : 4096 < q.n + 1
  · rw [if_pos h6, HQ2.out] at HQ
    go_wp2_with fail
    refine (pfail_calls p lv _ 100 _ H4.out).mono ?_; rintro e w6 ⟨rfl, h6', hk6⟩
    have hB6 := hk6.heap HB5.out (by simp; omega)
    have HK6 : Hid (Kp [p] w w6) := HK5.out.trans hk6
    have H6 := Lib.hid h6'
    have hBr := Lib.hid hB6
    have b0 := cell_of_row _ B 0 _ _ _ hB6
    have b1 := cell_of_row _ B 1 _ _ _ hB6
    have b2 := cell_of_row _ B 2 _ _ _ hB6
    have g0 := frozen_of_row _ B 0 _ _ hB6
    have g1 := frozen_of_row _ B 1 _ _ hB6
    have g2 := frozen_of_row _ B 2 _ _ hB6
    clear h6' hk6 hB6
    go_wp2_with fail
    refine bodyPost_ret (v := .agg #[.int .i64 X, .int .i64 Y, .int .i64 k]) (by simp [results, Tryz.results95, go_sem, *]) rfl ⟨by rw [HX.out, HY.out], by rw [HQ.out]; exact (H6.out.kp ((((Kp.refl [B] _).setCell (.inl (by simp)) _).setCell (.inl (by simp)) _).setCell (.inl (by simp)) _) (by simp; omega)), ((HK6.out.setCell (.inr (by simp; omega)) _).setCell (.inr (by simp; omega)) _).setCell (.inr (by simp; omega)) _⟩
  · rw [if_neg h6, HQ2.out] at HQ
    have hB6 := HB5.out
    have hBr := Lib.hid hB6
    have b0 := cell_of_row _ B 0 _ _ _ hB6
    have b1 := cell_of_row _ B 1 _ _ _ hB6
    have b2 := cell_of_row _ B 2 _ _ _ hB6
    have g0 := frozen_of_row _ B 0 _ _ hB6
    have g1 := frozen_of_row _ B 1 _ _ hB6
    have g2 := frozen_of_row _ B 2 _ _ hB6
    clear hB6
    go_wp2_with fail
    refine bodyPost_ret (v := .agg #[.int .i64 X, .int .i64 Y, .int .i64 k]) (by simp [results, Tryz.results95, go_sem, *]) rfl ⟨by rw [HX.out, HY.out], by rw [HQ.out]; exact (H4.out.kp ((((Kp.refl [B] _).setCell (.inl (by simp)) _).setCell (.inl (by simp)) _).setCell (.inl (by simp)) _) (by simp; omega)), ((HK5.out.setCell (.inr (by simp; omega)) _).setCell (.inr (by simp; omega)) _).setCell (.inr (by simp; omega)) _⟩
end Go.Proofs.YtfgpocpfapnkkaaGreat
namespace Go.Proofs.YtfgpocpfapnkkaaGreat
open Go.RowKit
set_option linter.unusedVariables false
set_option linter.unusedSimpArgs false
def penTs : List TypeId := [51, 36, 38]
def nilV : Value := .slice none 0 0
/-- The contours of a pen, each a row of its own. -/
structure PenR (w : World) (B : Nat) (lv : Value) (vs : List Value) (l : List (List Pn)) : Prop where
  row : w.ownsRow B 36 1 lv l.length vs
  each : ∀ i, i < l.length → w.ownsRow B 38 3 (vs.getD i nilV) (l.getD i []).length (psCells (l.getD i []))
  apart : ∀ i j, i < j → j < l.length → ∀ b, (vs.getD i nilV).ownBlock = some b → (vs.getD j nilV).ownBlock ≠ some b
theorem ownsRow_tag {w : World} {B : Nat} {e : TypeId} {sz n : Nat} {v : Value} {xs : List Value} (h : w.ownsRow B e sz v n xs) (b : Nat) (hb : v.ownBlock = some b) : B ≤ b ∧ ∃ cur z, w.heap[b]? = some (.cells cur e z) := by
  rcases h.2 with ⟨rfl, _⟩ | ⟨g, cap, cur, rfl, h1, h2, _⟩
  · cases hb
  · cases hb; exact ⟨h1, cur, _, h2⟩
theorem PenR.kp {S : List Nat} {w w' : World} {B : Nat} {lv : Value} {vs : List Value} {l : List (List Pn)} (h : PenR w B lv vs l) (hk : Kp S w w') (hS : ∀ s ∈ S, w.heap.size ≤ s ∨ ∃ cur t z, w.heap[s]? = some (.cells cur t z) ∧ t ≠ 36 ∧ t ≠ 38) : PenR w' B lv vs l := by
  refine ⟨hk.row h.row (fun s hs e => ?_), fun i hi => hk.row (h.each i hi) (fun s hs e => ?_), h.apart⟩
  · obtain ⟨_, cur, z, g⟩ := ownsRow_tag h.row s e
    rcases hS s hs with k | ⟨c2, t, z2, k1, k2, k3⟩
    · have := lt_of_block g; omega
    · rw [g] at k1; cases k1; exact k2 rfl
  · obtain ⟨_, cur, z, g⟩ := ownsRow_tag (h.each i hi) s e
    rcases hS s hs with k | ⟨c2, t, z2, k1, k2, k3⟩
    · have := lt_of_block g; omega
    · rw [g] at k1; cases k1; exact k3 rfl
theorem PenR.kp0 {w w' : World} {B : Nat} {lv : Value} {vs : List Value} {l : List (List Pn)} (h : PenR w B lv vs l) (hk : Kp [] w w') : PenR w' B lv vs l := h.kp hk (fun s hs => nomatch hs)
def PenS (w : World) (p B : Nat) (lv : Value) (vs : List Value) (q : Pe) : Prop := PenC w p lv q ∧ B ≤ p ∧ PenR w B lv vs q.l
/-- A pen in one word. -/
def PenA (w : World) (p B : Nat) (q : Pe) : Prop := ∃ lv vs, PenS w p B lv vs q
theorem PenA.kt {S : List Nat} {Ts : List TypeId} {base : Nat} {w w' : World} {p B : Nat} {q : Pe} (h : PenA w p B q) (k : KT S Ts base w w') (hS : ∀ s ∈ S, ∃ cur t z, w.heap[s]? = some (.cells cur t z) ∧ t ∉ penTs) (hT : ∀ t ∈ Ts, t ∉ penTs) : PenA w' p B q := by
  obtain ⟨lv, vs, h1, h2, h3⟩ := h
  have key : ∀ (b : Nat) cur t z, w.heap[b]? = some (.cells cur t z) → t ∈ penTs → b ∉ S ∧ t ∉ Ts := fun b cur t z hb ht => ⟨fun hs => by
    obtain ⟨c2, t2, z2, g1, g2⟩ := hS b hs
    rw [hb] at g1; cases g1; exact g2 ht, fun h => hT t h ht⟩
  refine ⟨lv, vs, ?_, h2, ?_, fun i hi => ?_, h3.apart⟩
  · obtain ⟨a, b⟩ := key p _ _ _ h1 (by simp [penTs])
    exact k.heap h1 a (.inr b)
  · refine k.ownsRow h3.row (fun s hs e => ?_) (fun hh => hT _ hh (by simp [penTs]))
    obtain ⟨_, cur, z, g⟩ := ownsRow_tag h3.row s e
    exact (key s _ _ _ g (by simp [penTs])).1 hs
  · refine k.ownsRow (h3.each i hi) (fun s hs e => ?_) (fun hh => hT _ hh (by simp [penTs]))
    obtain ⟨_, cur, z, g⟩ := ownsRow_tag (h3.each i hi) s e
    exact (key s _ _ _ g (by simp [penTs])).1 hs
theorem infoPsT : (Tryz.prog.info? 36).map (fun i => (i.zero, i.size, i.bytes)) = some (some (.slice none 0 0), 1, 24) := by kernel_rfl
theorem getD_left {α : Type} {a b : List α} {d : α} {i : Nat} (h : i < a.length) : (a ++ b).getD i d = a.getD i d := by
  rw [List.getD_eq_getElem?_getD, List.getElem?_append_left h, ← List.getD_eq_getElem?_getD]
theorem getD_end {α : Type} {a : List α} {x d : α} {i : Nat} (h : i = a.length) : (a ++ [x]).getD i d = x := by
  subst h; rw [List.getD_eq_getElem?_getD, List.getElem?_append_right (Nat.le_refl _), Nat.sub_self]; rfl
theorem own_tag_ne {w : World} {B1 : Nat} {e1 : TypeId} {s1 n1 : Nat} {v1 : Value} {x1 : List Value} (h1 : w.ownsRow B1 e1 s1 v1 n1 x1) {b : Nat} {cur : Array Value} {t : TypeId} {z : Nat × Nat} (hb : w.heap[b]? = some (.cells cur t z)) (hne : t ≠ e1) : v1.ownBlock ≠ some b := fun e => by
  obtain ⟨_, c, z', g⟩ := ownsRow_tag h1 b e
  rw [hb] at g; cases g; exact hne rfl
theorem own_rows_ne {w : World} {B1 B2 : Nat} {e1 e2 : TypeId} {s1 n1 s2 n2 : Nat} {v1 v2 : Value} {x1 x2 : List Value} (h1 : w.ownsRow B1 e1 s1 v1 n1 x1) (h2 : w.ownsRow B2 e2 s2 v2 n2 x2) (hne : e2 ≠ e1) : ∀ s ∈ v2.ownBlock.toList, v1.ownBlock ≠ some s := fun s hs => by
  obtain ⟨_, c, z, g⟩ := ownsRow_tag h2 s (own_mem hs)
  exact own_tag_ne h1 g hne
theorem ne_pp : (51 : TypeId) ≠ 36 := by decide
theorem ne_pq : (51 : TypeId) ≠ 38 := by decide
theorem ne_rq : (36 : TypeId) ≠ 38 := by decide
theorem kt_row {S : List Nat} {Ts : List TypeId} {base B : Nat} {w w' : World} {e : TypeId} {sz n : Nat} {v : Value} {xs : List Value} (hr : w.ownsRow B e sz v n xs) (hb : base ≤ B) (he : e ∈ Ts) (hk : Kp v.ownBlock.toList w w') : KT S Ts base w w' :=
  KT.of_kp hk (fun s hs => .inr (.inr (by obtain ⟨g1, cur, z, g2⟩ := ownsRow_tag hr s (own_mem hs); exact ⟨by omega, cur, e, z, g2, he⟩)))
theorem PenR.grow {x1 W2 w5 : World} {p B : Nat} {lv : Value} {vs : List Value} {q1 : Pe} {l : List (List Pn)} {pt : Pn} {g4 c4 : Nat}
    (C : PenC x1 p lv q1) (hBp : B ≤ p) (R : PenR x1 B lv vs l) (hB : B ≤ x1.heap.size)
    (hW : W2 = (x1.alloc (.cells (pnCells pt) 38)).alloc (.cells #[.slice (some ⟨x1.heap.size, 0, none⟩) 1 1] 36))
    (hown : w5.ownsRow B 36 1 (.slice (some ⟨g4, 0, none⟩) (l.length + 1) c4) (l.length + 1) (vs ++ [.slice (some ⟨x1.heap.size, 0, none⟩) 1 1]))
    (hgr : W2.grownBy w5 lv.ownBlock) :
    PenA (w5.setCell ⟨p, 2, none⟩ (.slice (some ⟨g4, 0, none⟩) (l.length + 1) c4)) p B { q1 with l := l ++ [[pt]] } ∧ KT [] penTs B x1 (w5.setCell ⟨p, 2, none⟩ (.slice (some ⟨g4, 0, none⟩) (l.length + 1) c4)) ∧ PenC w5 p lv q1 := by
  have hvl : vs.length = l.length := by have := R.row.1; omega
  have hk2 : Kp [] x1 W2 := by rw [hW]; (repeat (first | exact Kp.refl _ _ | assumption | refine Kp.drew ?_ | refine Kp.drewN ?_ _ | refine Kp.alloc ?_ _ | (refine Kp.setCell ?_ (by first | (left; simp; done) | (right; simp; try omega)) _) | (refine Kp.trans' ?_ (by assumption) (by simp; try omega))))
  have hN : W2.heap[x1.heap.size]? = some (.cells (pnCells pt) 38 (0, 0)) := by
    rw [hW]; exact (Below.heap_alloc _ _ _ (by simp)).trans (heap_alloc_new x1 _)
  have hrow2 := hk2.row R.row (by simp)
  have hk5 : Kp lv.ownBlock.toList W2 w5 := Kp.grown (Kp.refl _ _) hgr (fun k hk => .inl (by rw [hk]; simp))
  have C2 := C.kp0 hk2
  have C5 : PenC w5 p lv q1 := C2.kp hk5 (fun hp => own_tag_ne hrow2 C2 ne_pp (own_mem hp))
  have C6 := C5.setL (.slice (some ⟨g4, 0, none⟩) (l.length + 1) c4) (l ++ [[pt]])
  have hk6 : Kp [p] w5 (w5.setCell ⟨p, 2, none⟩ (.slice (some ⟨g4, 0, none⟩) (l.length + 1) c4)) := (Kp.refl _ _).setCell (.inl (by simp)) _
  have hN5 : w5.heap[x1.heap.size]? = some (.cells (pnCells pt) 38 (0, 0)) := hk5.heap hN (fun hs => own_tag_ne hrow2 hN ne_rq.symm (own_mem hs))
  refine ⟨⟨_, vs ++ [.slice (some ⟨x1.heap.size, 0, none⟩) 1 1], C6, hBp, ?_, fun i hi => ?_, fun i j hij hj b hb => ?_⟩, ?_, C5⟩
  · show World.ownsRow _ _ _ _ _ (l ++ [[pt]]).length _
    rw [List.length_append]
    exact hk6.row hown (fun s hs => by simp at hs; subst hs; exact own_tag_ne hown C5 ne_pp)
  · have hi' : i < l.length + 1 := by simpa using hi
    by_cases e : i < l.length
    · show World.ownsRow _ _ _ _ _ ((l ++ [[pt]]).getD i []).length (psCells ((l ++ [[pt]]).getD i []))
      rw [getD_left (by omega), getD_left e]
      have r2 := hk2.row (R.each i e) (by simp)
      have r5 := hk5.row r2 (own_rows_ne r2 hrow2 ne_rq)
      exact hk6.row r5 (fun s hs => by simp at hs; subst hs; exact own_tag_ne r5 C5 ne_pq)
    · obtain rfl : i = l.length := by omega
      show World.ownsRow _ _ _ _ _ ((l ++ [[pt]]).getD l.length []).length (psCells ((l ++ [[pt]]).getD l.length []))
      rw [getD_end hvl.symm, getD_end rfl]
      have r5 : w5.ownsRow B 38 3 (.slice (some ⟨x1.heap.size, 0, none⟩) 1 1) [pt].length (psCells [pt]) :=
        ⟨by simp [psCells, pnCells], .inr ⟨x1.heap.size, 1, pnCells pt, rfl, hB, hN5, Nat.le_refl _, by decide, rfl, rfl⟩⟩
      exact hk6.row r5 (fun s hs => by simp at hs; subst hs; exact own_tag_ne r5 C5 ne_pq)
  · have hj' : j < l.length + 1 := by simpa using hj
    rw [getD_left (by omega)] at hb
    by_cases e : j < l.length
    · rw [getD_left (by omega)]; exact R.apart i j hij e b hb
    · rw [getD_end (by omega)]
      intro he
      have := ((R.each i (by omega)).lt b hb).2
      simp [Value.ownBlock] at he
      omega
  · exact (KT.of_kp0 hk2).trans ((kt_row hrow2 (Nat.le_refl _) (by simp [penTs]) hk5).trans (KT.of_kp hk6 (fun s hs => by simp at hs; subst hs; exact .inr (.inr ⟨hBp, _, _, _, C5, by simp [penTs]⟩))))
theorem take_set_row {cur : List Value} {vp : List Value} {u x : Value} (h : cur.take (vp.length + 1) = vp ++ [u]) : (cur.set vp.length x).take (vp.length + 1) = vp ++ [x] := by
  rw [List.take_set, h, List.set_append_right _ _ (Nat.le_refl _), Nat.sub_self]; rfl
theorem PenR.set {x1 W2 w5 : World} {p B gl cl : Nat} {vp : List Value} {u : Value} {q1 : Pe} {pre : List (List Pn)} {c : List Pn} {pt : Pn} {g4 c4 N : Nat} (hN : N = pre.length + 1)
    (C : PenC x1 p (.slice (some ⟨gl, 0, none⟩) N cl) q1) (hBp : B ≤ p) (R : PenR x1 B (.slice (some ⟨gl, 0, none⟩) N cl) (vp ++ [u]) (pre ++ [c])) (hB : B ≤ x1.heap.size)
    (hW : W2 = x1.alloc (.cells (pnCells pt) 38))
    (hown : w5.ownsRow B 38 3 (.slice (some ⟨g4, 0, none⟩) (c.length + 1) c4) (c.length + 1) (psCells (c ++ [pt])))
    (hgr : W2.grownBy w5 u.ownBlock) (hat : u.ownBlock = some g4 ∨ g4 = W2.heap.size) :
    PenA (w5.setCell ⟨gl, pre.length, none⟩ (.slice (some ⟨g4, 0, none⟩) (c.length + 1) c4)) p B { q1 with l := pre ++ [c ++ [pt]] } ∧ KT [] penTs B x1 (w5.setCell ⟨gl, pre.length, none⟩ (.slice (some ⟨g4, 0, none⟩) (c.length + 1) c4)) ∧ w5.cell? ⟨gl, pre.length, none⟩ = some u ∧ w5.frozen? ⟨gl, pre.length, none⟩ = false ∧ PenC w5 p (.slice (some ⟨gl, 0, none⟩) N cl) q1 := by
  have hvl : vp.length = pre.length := by have := R.row.1; simp at this; omega
  have hk2 : Kp [] x1 W2 := by rw [hW]; (repeat (first | exact Kp.refl _ _ | assumption | refine Kp.drew ?_ | refine Kp.drewN ?_ _ | refine Kp.alloc ?_ _ | (refine Kp.setCell ?_ (by first | (left; simp; done) | (right; simp; try omega)) _) | (refine Kp.trans' ?_ (by assumption) (by simp; try omega))))
  have hrow2 := hk2.row R.row (by simp)
  have hu : x1.ownsRow B 38 3 u c.length (psCells c) := by
    have := R.each pre.length (by simp)
    rw [getD_end hvl.symm, getD_end rfl] at this; exact this
  have hu2 := hk2.row hu (by simp)
  have hk5 : Kp u.ownBlock.toList W2 w5 := Kp.grown (Kp.refl _ _) hgr (fun k hk => .inl (by rw [hk]; simp))
  have C2 := C.kp0 hk2
  have C5 : PenC w5 p _ q1 := C2.kp hk5 (fun hp => own_tag_ne hu2 C2 ne_pq (own_mem hp))
  have hrow5 := hk5.row hrow2 (own_rows_ne hrow2 hu2 ne_rq.symm)
  have hk6 : Kp [gl] w5 (w5.setCell ⟨gl, pre.length, none⟩ (.slice (some ⟨g4, 0, none⟩) (c.length + 1) c4)) := (Kp.refl _ _).setCell (.inl (by simp)) _
  obtain ⟨_, hr5⟩ := hrow5
  rcases hr5 with ⟨hno, _⟩ | ⟨g', cap', cur, hv', hb', hg', hc1, hc2, hc3, hc4⟩
  · cases hno
  obtain ⟨rfl, _, rfl⟩ : gl = g' ∧ N = pre.length + 1 ∧ cl = cap' := by simpa using hv'
  have hglp : p ≠ gl := fun e => by
    have C5' : w5.heap[p]? = _ := C5
    rw [e, hg'] at C5'; cases C5'
  have C6 : PenC _ p (.slice (some ⟨gl, 0, none⟩) N cl) q1 := C5.kp hk6 (by simp; omega)
  have hset := heap_setCell_same w5 gl pre.length _ _ (.slice (some ⟨g4, 0, none⟩) (c.length + 1) c4) hg'
  refine ⟨⟨.slice (some ⟨gl, 0, none⟩) N cl, vp ++ [.slice (some ⟨g4, 0, none⟩) (c.length + 1) c4], C6, hBp, ⟨by simp; omega, .inr ⟨gl, cl, _, by simp; omega, hb', hset, by simp at hc1 ⊢; omega, hc2, by simp; simpa using hc3, ?_⟩⟩, fun i hi => ?_, fun i j hij hj b hb => ?_⟩, ?_, ?_, frozen_of_row w5 gl _ _ _ hg', C5⟩
  · simp only [Array.toList_setIfInBounds, List.length_append, List.length_singleton, Nat.mul_one] at hc4 ⊢
    rw [← hvl] at hc4 ⊢
    exact take_set_row hc4
  · have hi' : i < pre.length + 1 := by simpa using hi
    by_cases e : i < pre.length
    · show World.ownsRow _ _ _ _ _ ((pre ++ [c ++ [pt]]).getD i []).length (psCells ((pre ++ [c ++ [pt]]).getD i []))
      rw [getD_left (by omega), getD_left e]
      have r1 := R.each i (by simp; omega)
      rw [getD_left (by omega), getD_left e] at r1
      have r2 := hk2.row r1 (by simp)
      have r5 := hk5.row r2 (fun s hs e2 => by
        have h3 := R.apart i pre.length e (by simp) s (by rw [getD_left (by omega)]; exact e2)
        rw [getD_end hvl.symm] at h3
        exact h3 (own_mem hs))
      exact hk6.row r5 (fun s hs => by simp at hs; subst hs; exact own_tag_ne r5 hg' ne_rq)
    · obtain rfl : i = pre.length := by omega
      show World.ownsRow _ _ _ _ _ ((pre ++ [c ++ [pt]]).getD pre.length []).length (psCells ((pre ++ [c ++ [pt]]).getD pre.length []))
      rw [getD_end hvl.symm, getD_end rfl, List.length_append]
      exact hk6.row hown (fun s hs => by simp at hs; subst hs; exact own_tag_ne hown hg' ne_rq)
  · have hj' : j < pre.length + 1 := by simpa using hj
    rw [getD_left (by omega)] at hb
    by_cases e : j < pre.length
    · rw [getD_left (by omega)]
      have h3 := R.apart i j hij (by simp; omega) b (by rw [getD_left (by omega)]; exact hb)
      rw [getD_left (by omega)] at h3; exact h3
    · rw [getD_end (by omega)]
      intro he
      have r1 := R.each i (by simp; omega)
      rw [getD_left (by omega), getD_left (show i < pre.length by omega)] at r1
      have hlt := (r1.lt b hb).2
      have hbg : b = g4 := by simp [Value.ownBlock] at he; omega
      rcases hat with h1 | h1
      · have h3 := R.apart i pre.length (by omega) (by simp) b (by rw [getD_left (by omega)]; exact hb)
        rw [getD_end hvl.symm, hbg] at h3
        exact h3 h1
      · have := hk2.size; omega
  · exact (KT.of_kp0 hk2).trans ((kt_row hu2 (Nat.le_refl _) (by simp [penTs]) hk5).trans (KT.of_kp hk6 (fun s hs => by simp at hs; subst hs; exact .inr (.inr ⟨hb', _, _, _, hg', by simp [penTs]⟩))))
  · rw [cell_of_row w5 gl pre.length _ _ _ hg', ← Array.getElem?_toList]
    simp only [List.length_append, List.length_singleton, Nat.mul_one] at hc4
    have h5 : (cur.toList.take (pre.length + 1))[pre.length]? = (vp ++ [u])[pre.length]? := by rw [hc4]
    rw [List.getElem?_take_of_lt (by omega)] at h5
    rw [h5, ← hvl, List.getElem?_append_right (Nat.le_refl _), Nat.sub_self]; rfl
set_option maxRecDepth 100000 in
set_option maxHeartbeats 4000000 in
theorem pmove_calls (p B : Nat) (q : Pe) (dx dy : Int) (w : World) (h : PenA w p B q) (ok : okP q) (hBw : B ≤ w.heap.size) :
    Calls Tryz.prog 69 #[.pointer (some ⟨p, 0, none⟩), .int .i64 dx, .int .i64 dy] w fun r w' => r = .returned (.tuple #[]) ∧ PenA w' p B (moveP q dx dy) ∧ KT [] penTs B w w' := by
  have HA := Lib.hid h
  obtain ⟨lv, vs, h1, h2, h3⟩ := h
  obtain ⟨_, _, c2, _, c4, f⟩ := h1.facts
  have H1 := Lib.hid h1
  have H3 := Lib.hid h3
  have f2 := f 2
  obtain ⟨pl, cl, hl⟩ := slice_own h3.row
  subst hl
  by_cases he : q.e = 0
  · have hb : (q.e == 0) = true := by simpa using he
    rw [he] at c4
    have HM : Hid (moveP q dx dy = { toP q dx dy with l := q.l ++ [[toPt q dx dy 1]] }) := if_pos he
    have HPT : Hid (pnCells (toPt q dx dy 1) = #[.int .i64 (sumV q.x dx), .int .i64 (sumV q.y dy), .int .i64 1]) := rfl
    obtain ⟨ok1, ok2, ok3, ok4, ok5⟩ := ok
    obtain ⟨N, hN⟩ : ∃ N, q.l.length = N := ⟨_, rfl⟩
    have HN := Lib.hid hN
    have hNn : (N : Int) ≤ q.n := by omega
    rw [hN] at c2 H1 H3
    have HTO := Lib.hid (fun lv W (h : PenC W p lv q) => pto_calls p lv q dx dy 1 W h ⟨ok1, by omega⟩)
    have hplt : p < w.heap.size := lt_of_block h1
    have HB2 := Lib.hid h2
    obtain ⟨i0, hi0, hz0, hz1, hz2⟩ := info_parts infoPsT
    generalize toPt q dx dy 1 = pt at *
    generalize sumV q.x dx = X at *
    generalize sumV q.y dy = Y at *
    generalize toP q dx dy = q1 at *
    generalize hL : q.l = L at *
    clear h1 h3 f ok5 ok4 h2
    go_enter Tryz.func69, Tryz.ntmps69
    go_wp2_with fail
    have c2d : w.drew.cell? ⟨p, 2, none⟩ = _ := c2
    go_region_law ((first
      | (go_simp
         go_at_call 95
         refine (HTO.out _ _ (H1.out.kp0 ((Kp.refl _ _).drew))).mono ?_; rintro e x1 ⟨rfl, g1, hk1⟩
         have G1 := Lib.hid g1
         have HKX : Hid (Kp [p] w x1) := ((Kp.refl _ _).drew).trans' hk1 (by simp)
         have R1 : Hid (PenR x1 B (.slice pl N cl) vs L) := H3.out.kp HKX.out (fun s hs => by simp at hs; subst hs; exact .inr ⟨_, _, _, H1.out, ne_pp, ne_pq⟩)
         obtain ⟨_, _, d2, _, _, df⟩ := g1.facts
         have df2 := df 2
         have hx1 : B ≤ x1.heap.size := Nat.le_trans hBw HKX.out.size
         have d2a : (x1.alloc (.cells #[.int .i64 X, .int .i64 Y, .int .i64 1] 38)).cell? ⟨p, 2, none⟩ = _ := ((Kp.refl [] x1).alloc _).cell d2 (by simp)
         have d2b : ((x1.alloc (.cells #[.int .i64 X, .int .i64 Y, .int .i64 1] 38)).alloc (.cells #[.slice (some ⟨x1.heap.size, 0, none⟩) 1 1] 36)).cell? ⟨p, 2, none⟩ = _ := (((Kp.refl [] x1).alloc _).alloc _).cell d2 (by simp)
         clear g1 hk1 df)
      | (refine step_append_lies _ (by rfl) _ _ 29 (by rfl) B 36 i0 (.slice none 0 0) 1 24 Tryz.underlying29 hi0 hz0 hz1 hz2 rfl (by decide) (.slice pl N cl) N vs (by rfl) (by have := R1.out.row; rw [HN.out] at this; exact Kp.row (S := []) (by (repeat (first | exact Kp.refl _ _ | assumption | refine Kp.drew ?_ | refine Kp.drewN ?_ _ | refine Kp.alloc ?_ _ | (refine Kp.setCell ?_ (by first | (left; simp; done) | (right; simp; try omega)) _) | (refine Kp.trans' ?_ (by assumption) (by simp; try omega))))) this (by simp)) ⟨x1.heap.size + 1, 0, none⟩ 1 1 [.slice (some ⟨x1.heap.size, 0, none⟩) 1 1] (by rfl) rfl (World.news_of_block (by first | exact heap_alloc_new _ _ | (rw [show x1.heap.size + 1 = (x1.alloc (.cells #[.int .i64 X, .int .i64 Y, .int .i64 1] 38)).heap.size by simp]; exact heap_alloc_new _ _))) (by intro u hu; simp at hu; subst hu; rfl) (by decide) (by unfold maxLen; omega) (by omega) (by simp; omega) _ rfl ?_
         intro g4 c4 w4 hown hgr hat hlt4
         obtain ⟨hG1, hG2, hG3⟩ := PenR.grow (pt := pt) (q1 := q1) (l := L) (B := B) (vs := vs) (by have := G1.out; exact this) HB2.out (by have := R1.out; exact this) hx1 (by rw [HPT.out]) (by rw [HN.out]; exact hown) hgr
         have HG1 := Lib.hid hG1
         have HG2 := Lib.hid hG2
         obtain ⟨_, _, e2, _, _, ef⟩ := hG3.facts
         have ef2 := ef 2
         clear hG1 hG2 hG3 ef hown hgr hat hlt4)))
    all_goals
      go_wp2_with fail
      go_end0
      exact ⟨rfl, by have hg := HG1.out; rw [HN.out] at hg; rw [HM.out]; exact hg, by have hg := HG2.out; rw [HN.out] at hg; exact (KT.of_kp HKX.out (fun s hs => by simp at hs; subst hs; exact .inr (.inr ⟨HB2.out, _, _, _, H1.out, by simp [penTs]⟩))).trans hg⟩
  · have hb : (q.e == 0) = false := by simpa using he
    have HM : Hid (moveP q dx dy = q) := if_neg he
    clear h1 h3 f
    go_enter Tryz.func69, Tryz.ntmps69
    go_wp2_with fail
    go_end0
    exact ⟨rfl, by rw [HM.out]; exact HA.out, KT.refl _ _ _ _⟩
set_option maxRecDepth 100000 in
set_option maxHeartbeats 8000000 in
theorem pput_calls (p B : Nat) (q : Pe) (dx dy k : Int) (w : World) (h : PenA w p B q) (ok : okP q) (hBw : B ≤ w.heap.size) :
    Calls Tryz.prog 118 #[.pointer (some ⟨p, 0, none⟩), .int .i64 dx, .int .i64 dy, .int .i64 k] w fun r w' => r = .returned (.tuple #[]) ∧ PenA w' p B (putP q dx dy k) ∧ KT [] penTs B w w' := by
  have HA := Lib.hid h
  obtain ⟨lv, vs, h1, h2, h3⟩ := h
  obtain ⟨_, _, c2, _, c4, f⟩ := h1.facts
  have H1 := Lib.hid h1
  have H3 := Lib.hid h3
  obtain ⟨pl, cl, hl⟩ := slice_own h3.row
  subst hl
  obtain ⟨ok1, ok2, ok3, ok4, ok5⟩ := ok
  by_cases he : q.e = 0
  · have hb : (q.e != 0) = false := by simpa using he
    rw [he] at c4
    rcases List.eq_nil_or_concat q.l with hL | ⟨pre, c, hL⟩
    · have HM : Hid (putP q dx dy k = failP q 180) := by show _ = _; unfold putP; rw [if_pos he, if_pos hL]
      have HF := Lib.hid (pfail_calls p (.slice pl q.l.length cl) q 180 w h1)
      have hLl : q.l.length = 0 := by rw [hL]; rfl
      rw [hLl] at c2 HF H1 H3
      clear h1 h3 f ok5 ok4
      go_enter Tryz.func118, Tryz.ntmps118
      go_wp2_with fail
      refine HF.out.mono ?_; rintro e w1 ⟨rfl, g1, hk1⟩
      go_wp2_with fail
      go_end0
      refine ⟨rfl, ?_, KT.of_kp hk1 (fun s hs => by simp at hs; subst hs; exact .inr (.inr ⟨h2, _, _, _, H1.out, by simp [penTs]⟩))⟩
      rw [HM.out]
      exact ⟨_, vs, g1, h2, by rw [(failP_l q 180).1]; have h9 := H3.out.kp hk1 (fun s hs => by simp at hs; subst hs; exact .inr ⟨_, _, _, H1.out, ne_pp, ne_pq⟩); exact h9⟩
    · rw [List.concat_eq_append] at hL
      have hPL : q.l.length = pre.length + 1 := by rw [hL]; simp
      have hne : q.l ≠ [] := by rw [hL]; simp
      have HM : Hid (putP q dx dy k = { toP q dx dy with l := pre ++ [c ++ [toPt q dx dy k]] }) := by show _ = _; unfold putP; rw [if_pos he, if_neg hne, hL, List.dropLast_concat, show (pre ++ [c]).getLastD [] = c by simp]
      have HPT : Hid (pnCells (toPt q dx dy k) = #[.int .i64 (sumV q.x dx), .int .i64 (sumV q.y dy), .int .i64 k]) := rfl
      have hclen : (c.length : Int) ≤ q.n := ok5 c (by rw [hL]; simp)
      rw [hPL] at c2 H1 H3 ok4 h3
      rw [hL] at H3 h3
      obtain ⟨vp, u, rfl⟩ : ∃ vp u, vs = vp ++ [u] := by
        have h0 : vs ≠ [] := fun e => by have := h3.row.1; rw [e] at this; simp at this
        exact ⟨_, _, (List.dropLast_concat_getLast h0).symm⟩
      have hvl : vp.length = pre.length := by have := h3.row.1; simp at this; omega
      have hur : w.ownsRow B 38 3 u c.length (psCells c) := by
        have := h3.each pre.length (by simp)
        rw [getD_end hvl.symm, getD_end rfl] at this; exact this
      obtain ⟨gl, rfl⟩ : ∃ gl, pl = some ⟨gl, 0, none⟩ := by
        rcases h3.row.2 with ⟨_, h0⟩ | ⟨g, cap, cur, hv, _⟩
        · simp at h0
        · exact ⟨g, by simpa using (Value.slice.inj hv).1⟩
      obtain ⟨pu, cu, rfl⟩ := slice_own hur
      have hcu : w.cell? ⟨gl, pre.length, none⟩ = some (.slice pu c.length cu) := by
        have := h3.row.cells (g := gl) rfl pre.length (.slice pu c.length cu) (by rw [← hvl, List.getElem?_append_right (Nat.le_refl _), Nat.sub_self]; rfl)
        have hadd : (⟨gl, 0, none⟩ : Addr).add pre.length = ⟨gl, 0 + pre.length, none⟩ := by unfold Addr.add; split <;> simp_all
        rw [hadd, Nat.zero_add] at this; exact this
      obtain ⟨hgB, gcur, gz, hgl⟩ := ownsRow_tag h3.row gl rfl
      have hglp : gl ≠ p := fun e => by
        have h9 : w.heap[p]? = _ := h1
        rw [← e, hgl] at h9; cases h9
      have HTO := Lib.hid (fun lv W (h : PenC W p lv q) => pto_calls p lv q dx dy k W h ⟨ok1, by omega⟩)
      have HB2 := Lib.hid h2
      have HUR := Lib.hid hur
      obtain ⟨i0, hi0, hz0, hz1, hz2⟩ := info_parts infoPn
      have hwl : IntKind.i64.wrap ((pre.length : Int) + 1 - 1) = (pre.length : Int) := by rw [IntKind.wrap_i64]; omega
      have hwl2 : ((pre.length : Int) + 1 - 1) = (pre.length : Int) := by omega
      have hix : (pre.length : Int) < (pre.length : Int) + 1 := by omega
      have hplt : p < w.heap.size := lt_of_block h1
      have hglt : gl < w.heap.size := lt_of_block hgl
      generalize toPt q dx dy k = pt at *
      generalize sumV q.x dx = X at *
      generalize sumV q.y dy = Y at *
      generalize toP q dx dy = q1 at *
      clear h1 h3 f ok5 hvl hur hgl hL hPL hne h2
      go_enter Tryz.func118, Tryz.ntmps118
      go_wp2_with fail
      have c2d : w.drew.cell? ⟨p, 2, none⟩ = _ := c2
      have hcud : w.drew.cell? ⟨gl, pre.length, none⟩ = _ := hcu
      go_region_law ((first
        | (go_simp
           go_at_call 95
           refine (HTO.out _ _ (H1.out.kp0 ((Kp.refl _ _).drew))).mono ?_; rintro e x1 ⟨rfl, g1, hk1⟩
           have G1 := Lib.hid g1
           have HKX : Hid (Kp [p] w x1) := ((Kp.refl _ _).drew).trans' hk1 (by simp)
           have R1 : Hid (PenR x1 B (.slice (some ⟨gl, 0, none⟩) (pre.length + 1) cl) (vp ++ [.slice pu c.length cu]) (pre ++ [c])) := H3.out.kp HKX.out (fun s hs => by simp at hs; subst hs; exact .inr ⟨_, _, _, H1.out, ne_pp, ne_pq⟩)
           have U1 : Hid (x1.ownsRow B 38 3 (.slice pu c.length cu) c.length (psCells c)) := HKX.out.row HUR.out (fun s hs => by simp at hs; subst hs; exact own_tag_ne HUR.out H1.out ne_pq)
           obtain ⟨_, _, d2, _, _, df⟩ := g1.facts
           have du : x1.cell? ⟨gl, pre.length, none⟩ = _ := HKX.out.cell hcu (by simp; exact hglp)
           have hx1 : B ≤ x1.heap.size := Nat.le_trans hBw HKX.out.size
           have d2a : (x1.alloc (.cells #[.int .i64 X, .int .i64 Y, .int .i64 k] 38)).cell? ⟨p, 2, none⟩ = _ := ((Kp.refl [] x1).alloc _).cell d2 (by simp)
           have dua : (x1.alloc (.cells #[.int .i64 X, .int .i64 Y, .int .i64 k] 38)).cell? ⟨gl, pre.length, none⟩ = _ := ((Kp.refl [] x1).alloc _).cell du (by simp)
           clear g1 hk1 df)
        | (refine step_append_lies _ (by rfl) _ _ 36 (by rfl) B 38 i0 (.agg #[.int .i64 0, .int .i64 0, .int .i64 0]) 3 24 Tryz.underlying36 hi0 hz0 hz1 hz2 rfl (by decide) (.slice pu c.length cu) c.length (psCells c) (by rfl) (Kp.row (S := []) (by (repeat (first | exact Kp.refl _ _ | assumption | refine Kp.drew ?_ | refine Kp.drewN ?_ _ | refine Kp.alloc ?_ _ | (refine Kp.setCell ?_ (by first | (left; simp; done) | (right; simp; try omega)) _) | (refine Kp.trans' ?_ (by assumption) (by simp; try omega))))) U1.out (by simp)) ⟨x1.heap.size, 0, none⟩ 1 1 [.int .i64 X, .int .i64 Y, .int .i64 k] (by rfl) rfl (World.news_of_block (by exact heap_alloc_new _ _)) (by intro u hu; simp at hu; rcases hu with rfl | rfl | rfl <;> rfl) (by decide) (by unfold maxLen; omega) (by omega) (by simp; omega) _ rfl ?_
           intro g4 c4 w4 hown hgr hat hlt4
           obtain ⟨hG1, hG2, hG3, hG4, hG5⟩ := PenR.set (pt := pt) (q1 := q1) (B := B) (vp := vp) rfl (by have := G1.out; exact this) HB2.out (by have := R1.out; exact this) hx1 (by rw [HPT.out]) (by rw [psCells_snoc, HPT.out]; exact hown) hgr hat
           have HG1 := Lib.hid hG1
           have HG2 := Lib.hid hG2
           obtain ⟨_, _, e2, _⟩ := hG5.facts
           clear hG1 hG2 hG5 hown hgr hat hlt4)))
      all_goals
        go_wp2_with fail
        go_end0
        exact ⟨rfl, by rw [HM.out]; exact HG1.out, (KT.of_kp HKX.out (fun s hs => by simp at hs; subst hs; exact .inr (.inr ⟨HB2.out, _, _, _, H1.out, by simp [penTs]⟩))).trans HG2.out⟩
  · have hb : (q.e != 0) = true := by simpa using he
    have HM : Hid (putP q dx dy k = q) := if_neg he
    have hwl : IntKind.i64.wrap ((q.l.length : Int) - 1) = (q.l.length : Int) - 1 := by rw [IntKind.wrap_i64]; omega
    clear h1 h3 f
    generalize q.l.length = N at *
    go_enter Tryz.func118, Tryz.ntmps118
    go_wp2_with fail
    go_end0
    exact ⟨rfl, by rw [HM.out]; exact HA.out, KT.refl _ _ _ _⟩
end Go.Proofs.YtfgpocpfapnkkaaGreat

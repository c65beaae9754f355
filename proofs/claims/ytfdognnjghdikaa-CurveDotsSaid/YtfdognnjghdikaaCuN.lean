/- The walk of the statement CurveDots. (Written by wip/curve/gencun.py.) -/
import Derived.Test.YtfdognnjghdikaaCuM
namespace Go.Proofs.Ytfdognnjghdikaa
open Go.RowKit Go.Shelf
set_option linter.unusedVariables false
set_option linter.unusedSimpArgs false
attribute [local go_sem] Oper.semAt_some
theorem eql_func (f : Fn) (g : Array Value) (cs : Array Value) (w : World) : (binOp .eql 36 (.func f g cs) .nilFunc).run Try.prog w = .ok (.bool false) w := by
  rfl
theorem BowAt.kp {W W' : World} {B : Nat} {q : Bw} (h : BowAt W B q) (hk : Kp [] W W') : BowAt W' B q := hk.heap h (by simp)
theorem BowAt.lt {W : World} {B : Nat} {q : Bw} (h : BowAt W B q) : B < W.heap.size := (Array.getElem?_eq_some_iff.1 h).1
theorem BowAt.cells {W : World} {B : Nat} {q : Bw} (h : BowAt W B q) : W.cell? ⟨B, 0, none⟩ = some (.int .i64 q.k) ∧ W.cell? ⟨B, 1, none⟩ = some (.int .i64 q.a.1) ∧ W.cell? ⟨B, 2, none⟩ = some (.int .i64 q.a.2) ∧ W.cell? ⟨B, 3, none⟩ = some (.int .i64 q.b.1) ∧ W.cell? ⟨B, 4, none⟩ = some (.int .i64 q.b.2) ∧ W.cell? ⟨B, 5, none⟩ = some (.int .i64 q.c.1) ∧ W.cell? ⟨B, 6, none⟩ = some (.int .i64 q.c.2) ∧ W.cell? ⟨B, 7, none⟩ = some (.int .i64 q.d.1) ∧ W.cell? ⟨B, 8, none⟩ = some (.int .i64 q.d.2) := by
  refine ⟨?_, ?_, ?_, ?_, ?_, ?_, ?_, ?_, ?_⟩ <;> (rw [cell_of_row W B _ _ _ _ h]; rfl)
theorem Boxed.kp {W W' : World} {B : Nat} {t : TypeId} {v : Value} (h : Boxed W B t v) (hk : Kp [] W W') : Boxed W' B t v := hk.heap h (by simp)
theorem pieces_bnd (needs : Int) : 1 ≤ piecesQ needs ∧ piecesQ needs ≤ 256 := by
  have h : ∀ (f n : Nat), n ≤ 256 → n ≤ piecesFrom needs f n ∧ piecesFrom needs f n ≤ 256 := by
    intro f
    induction f with
    | zero => intro n hn; exact ⟨Nat.le_refl _, hn⟩
    | succ f ih =>
      intro n hn
      unfold piecesFrom
      split
      · rename_i hc; have := ih (n + 1) (by omega); omega
      · omega
  exact h 256 1 (by decide)
/-- Where CurveDots keeps its things: the bow, stop, the result, and Dots' own bow. -/
def DtSt (w W : World) (A : Nat) (q : Bw) (stop : Int) : Prop := A = w.heap.size ∧ BowAt W A q ∧ Boxed W (A + 1) 3 (.int .i64 stop) ∧ Boxed W (A + 2) 4 (.bool false) ∧ BowAt W (A + 3) q ∧ Kp [] w W
theorem DtSt.kp {w W W' : World} {A : Nat} {q : Bw} {stop : Int} (h : DtSt w W A q stop) (hk : Kp [] W W') : DtSt w W' A q stop := ⟨h.1, h.2.1.kp hk, Boxed.kp h.2.2.1 hk, Boxed.kp h.2.2.2.1 hk, h.2.2.2.2.1.kp hk, h.2.2.2.2.2.trans hk⟩
theorem DtSt.made {w w1 : World} {q : Bw} {stop : Int} (hk1 : Kp [] (((w.alloc (.cells #[.int .i64 q.k, .int .i64 q.a.1, .int .i64 q.a.2, .int .i64 q.b.1, .int .i64 q.b.2, .int .i64 q.c.1, .int .i64 q.c.2, .int .i64 q.d.1, .int .i64 q.d.2] 25)).alloc (.cells #[.int .i64 stop] 3)).alloc (.cells #[.bool false] 4)) w1)
    (hb1 : BowAt w1 (((w.alloc (.cells #[.int .i64 q.k, .int .i64 q.a.1, .int .i64 q.a.2, .int .i64 q.b.1, .int .i64 q.b.2, .int .i64 q.c.1, .int .i64 q.c.2, .int .i64 q.d.1, .int .i64 q.d.2] 25)).alloc (.cells #[.int .i64 stop] 3)).alloc (.cells #[.bool false] 4)).heap.size q) : DtSt w w1 w.heap.size q stop := by
  have k0 : Kp [] w (w.alloc (.cells #[.int .i64 q.k, .int .i64 q.a.1, .int .i64 q.a.2, .int .i64 q.b.1, .int .i64 q.b.2, .int .i64 q.c.1, .int .i64 q.c.2, .int .i64 q.d.1, .int .i64 q.d.2] 25)) := (Kp.refl _ _).alloc _
  have k1 : Kp [] (w.alloc (.cells #[.int .i64 q.k, .int .i64 q.a.1, .int .i64 q.a.2, .int .i64 q.b.1, .int .i64 q.b.2, .int .i64 q.c.1, .int .i64 q.c.2, .int .i64 q.d.1, .int .i64 q.d.2] 25)) ((w.alloc (.cells #[.int .i64 q.k, .int .i64 q.a.1, .int .i64 q.a.2, .int .i64 q.b.1, .int .i64 q.b.2, .int .i64 q.c.1, .int .i64 q.c.2, .int .i64 q.d.1, .int .i64 q.d.2] 25)).alloc (.cells #[.int .i64 stop] 3)) := (Kp.refl _ _).alloc _
  have k2 : Kp [] ((w.alloc (.cells #[.int .i64 q.k, .int .i64 q.a.1, .int .i64 q.a.2, .int .i64 q.b.1, .int .i64 q.b.2, .int .i64 q.c.1, .int .i64 q.c.2, .int .i64 q.d.1, .int .i64 q.d.2] 25)).alloc (.cells #[.int .i64 stop] 3)) (((w.alloc (.cells #[.int .i64 q.k, .int .i64 q.a.1, .int .i64 q.a.2, .int .i64 q.b.1, .int .i64 q.b.2, .int .i64 q.c.1, .int .i64 q.c.2, .int .i64 q.d.1, .int .i64 q.d.2] 25)).alloc (.cells #[.int .i64 stop] 3)).alloc (.cells #[.bool false] 4)) := (Kp.refl _ _).alloc _
  have b0 : BowAt (w.alloc (.cells #[.int .i64 q.k, .int .i64 q.a.1, .int .i64 q.a.2, .int .i64 q.b.1, .int .i64 q.b.2, .int .i64 q.c.1, .int .i64 q.c.2, .int .i64 q.d.1, .int .i64 q.d.2] 25)) w.heap.size q := heap_alloc_new w _
  have b1 := Boxed.new (w.alloc (.cells #[.int .i64 q.k, .int .i64 q.a.1, .int .i64 q.a.2, .int .i64 q.b.1, .int .i64 q.b.2, .int .i64 q.c.1, .int .i64 q.c.2, .int .i64 q.d.1, .int .i64 q.d.2] 25)) 3 (.int .i64 stop)
  have b2 := Boxed.new ((w.alloc (.cells #[.int .i64 q.k, .int .i64 q.a.1, .int .i64 q.a.2, .int .i64 q.b.1, .int .i64 q.b.2, .int .i64 q.c.1, .int .i64 q.c.2, .int .i64 q.d.1, .int .i64 q.d.2] 25)).alloc (.cells #[.int .i64 stop] 3)) 4 (.bool false)
  simp only [World.size_alloc] at b1 b2 hb1
  exact ⟨rfl, b0.kp (k1.trans (k2.trans hk1)), Boxed.kp b1 (k2.trans hk1), Boxed.kp b2 hk1, hb1, k0.trans (k1.trans (k2.trans hk1))⟩
theorem DtSt.own {w : World} {A B : Nat} {q : Bw} {stop : Int} (hB : w.heap.size ≤ B) : OwnFrom (β := List (Int × Int)) B (fun _ W => DtSt w W A q stop) := by
  intro s W W' row hs hg hr
  have hne : ∀ (k : Nat) (cs : Array Value) (t : TypeId), W.heap[k]? = some (.cells cs t (0, 0)) → some k ≠ row := by
    intro k cs t hk e
    obtain ⟨_, o, ho, hc⟩ := hr k e.symm
    rw [hk] at ho; cases ho; simp [Obj.isCells] at hc
  obtain ⟨h1, h2, h3, h4, h5, h6⟩ := hs
  exact ⟨h1, (hg.block _ h2.lt (hne _ _ _ h2)).trans h2, (hg.block _ h3.lt (hne _ _ _ h3)).trans h3, (hg.block _ h4.lt (hne _ _ _ h4)).trans h4, (hg.block _ h5.lt (hne _ _ _ h5)).trans h5, Kp.grown h6 hg (fun k hk => .inr (Nat.le_trans hB (hr k hk).1))⟩
theorem Kp.ended {w W : World} {b D : Nat} {v : Value} (h : Kp [] w W) (hb : w.heap.size ≤ b) (hD : w.heap.size ≤ D) : Kp [] w ((W.setCell ⟨b, 0, none⟩ v).putObj D (.deferred none)) :=
  Kp.grown (h.setCell (.inr hb) _) (grownBy_putObj' _ D (.deferred none)) (fun k hk => .inr (by cases hk; exact hD))
def LpSt (w W : World) (A E : Nat) (q : Bw) (stop : Int) (M : Nat) (pre : List (Int × Int)) : Prop :=
  DtSt w W A q stop ∧ Boxed W E 3 (.int .i64 M) ∧ Boxed W (E + 1) 3 (.int .i64 pre.length) ∧ (∀ k, k < pre.length → pre.getD k (0, 0) = atQ q ((k : Int) + 1) M) ∧ A + 4 ≤ E
def LxSt (w W : World) (A M : Nat) (q : Bw) (pre : List (Int × Int)) : Prop :=
  w.heap.size = A ∧ Kp [] w W ∧ (Boxed W (A + 2) 4 (.bool true) ∨ ¬ (pre <+: uptoF (fun k => atQ q ((k : Int) + 1) M) M))
def DotAt (W : World) (B : Nat) (x : Int × Int) : Prop := W.heap[B]? = some (.cells #[.int .i64 x.1, .int .i64 x.2] 23 (0, 0))
theorem notCells {W W' : World} {row : Option Nat} {B : Nat} (hr : ∀ r, row = some r → B ≤ r ∧ ∃ o : Obj, W.heap[r]? = some o ∧ o.isCells = false) {k : Nat} {cs : Array Value} {t : TypeId} (hk : W.heap[k]? = some (.cells cs t (0, 0))) : some k ≠ row := by
  intro e
  obtain ⟨_, o, ho, hc⟩ := hr k e.symm
  rw [hk] at ho; cases ho; simp [Obj.isCells] at hc
theorem blkKept {W W' : World} {row : Option Nat} {B : Nat} (hg : W.grownBy W' row) (hr : ∀ r, row = some r → B ≤ r ∧ ∃ o : Obj, W.heap[r]? = some o ∧ o.isCells = false) {k : Nat} {cs : Array Value} {t : TypeId} (hk : W.heap[k]? = some (.cells cs t (0, 0))) : W'.heap[k]? = some (.cells cs t (0, 0)) :=
  (hg.block _ (Array.getElem?_eq_some_iff.1 hk).1 (notCells (W' := W') hr hk)).trans hk
theorem LpSt.own {w : World} {A E B M : Nat} {q : Bw} {stop : Int} (hB : w.heap.size ≤ B) : OwnFrom B (fun pre W => LpSt w W A E q stop M pre) := by
  intro s W W' row hs hg hr
  obtain ⟨h1, h2, h3, h4, h5⟩ := hs
  exact ⟨DtSt.own hB s W W' row h1 hg hr, blkKept hg hr h2, blkKept hg hr h3, h4, h5⟩
theorem LxSt.own {w : World} {A B M : Nat} {q : Bw} (hB : w.heap.size ≤ B) (c : Code) : OwnFrom B (fun pre W => c = .ret ∧ LxSt w W A M q pre) := by
  intro s W W' row hs hg hr
  obtain ⟨h0, h1, h2, h3⟩ := hs
  refine ⟨h0, h1, Kp.grown h2 hg (fun k hk => .inr (Nat.le_trans hB (hr k hk).1)), ?_⟩
  rcases h3 with h | h
  · exact .inl (blkKept hg hr h)
  · exact .inr h
theorem LpSt.alloc {w W : World} {A E M : Nat} {q : Bw} {stop : Int} {pre : List (Int × Int)} (h : LpSt w W A E q stop M pre) (o : Obj) : LpSt w (W.alloc o) A E q stop M pre := by
  have hk : Kp [] W (W.alloc o) := (Kp.refl _ _).alloc _
  exact ⟨h.1.kp hk, Boxed.kp h.2.1 hk, Boxed.kp h.2.2.1 hk, h.2.2.2⟩
theorem Kp.keeps {w w' : World} (h : Kp [] w w') : KeepsOthers w w' := ⟨h.size, fun k o ho _ => h.heap ho (by simp)⟩
theorem pre_not {f : Nat → Int × Int} {M : Nat} {pre : List (Int × Int)} {x : Int × Int} (hlt : pre.length < M) (hx : x ≠ f pre.length) : ¬ (pre ++ [x] <+: uptoF f M) := by
  intro h
  obtain ⟨t, ht⟩ := h
  have h1 := congrArg (fun l => l[pre.length]?) ht
  simp [uptoF, List.getElem?_range hlt] at h1
  exact hx h1
theorem pre_more {q : Bw} {M : Nat} {pre : List (Int × Int)} {x : Int × Int} (h : ∀ k, k < pre.length → pre.getD k (0, 0) = atQ q ((k : Int) + 1) M) (hx : x = atQ q ((pre.length : Int) + 1) M) : ∀ k, k < (pre ++ [x]).length → (pre ++ [x]).getD k (0, 0) = atQ q ((k : Int) + 1) M := by
  intro k hk
  by_cases e : k < pre.length
  · rw [List.getD_eq_getElem?_getD, List.getElem?_append_left e, ← List.getD_eq_getElem?_getD]; exact h k e
  · obtain rfl : k = pre.length := by simp at hk; omega
    rw [List.getD_eq_getElem?_getD, List.getElem?_append_right (Nat.le_refl _)]; simpa using hx
set_option maxRecDepth 100000 in
set_option maxHeartbeats 4000000 in
theorem dots_no (q : Bw) (stop : Int) (w : World) (hm : mayW q = false) : Calls Try.prog 5 #[bowV q, .int .i64 stop] w fun e w' => e = .returned (.bool true) ∧ Kp [] w w' := by
  have HD : Hid (∀ W, Calls Try.prog 19 #[.agg #[.int .i64 q.k, .int .i64 q.a.1, .int .i64 q.a.2, .int .i64 q.b.1, .int .i64 q.b.2, .int .i64 q.c.1, .int .i64 q.c.2, .int .i64 q.d.1, .int .i64 q.d.2]] W fun e w' => e = .returned (.func (.func 30) #[] #[.pointer (some ⟨W.heap.size, 0, none⟩)]) ∧ Kp [] W w' ∧ BowAt w' W.heap.size q) := fun W => (cdots_calls q W).mono fun e w' ⟨h1, h2⟩ => ⟨h1, by rw [h2]; exact (Kp.refl _ _).alloc _, by rw [h2]; exact heap_alloc_new W _⟩
  have HM : Hid (∀ W, Calls Try.prog 12 #[.agg #[.int .i64 q.k, .int .i64 q.a.1, .int .i64 q.a.2, .int .i64 q.b.1, .int .i64 q.b.2, .int .i64 q.c.1, .int .i64 q.c.2, .int .i64 q.d.1, .int .i64 q.d.2]] W fun e w' => e = .returned (.bool false) ∧ Kp [] W w') := fun W => by have h := rmayw_calls q W; rw [hm] at h; exact h
  have hef := eql_func (.func 30) #[]
  show Calls Try.prog 5 #[.agg #[.int .i64 q.k, .int .i64 q.a.1, .int .i64 q.a.2, .int .i64 q.b.1, .int .i64 q.b.2, .int .i64 q.c.1, .int .i64 q.c.2, .int .i64 q.d.1, .int .i64 q.d.2], .int .i64 stop] w _
  refine (callsIn_wide (n := 5)).1 ?_
  refine callsIn_of_wp_marks Try.func5 rfl trivial ?_ rfl
  simp only [Try.ntmps5, List.size_toArray, List.length_cons, List.length_nil, Nat.reduceAdd, Nat.reduceSub, Array.replicate_succ, Array.replicate_zero, List.push_toArray, List.append_toArray, List.nil_append, List.cons_append]
  gi_wp2_with (refine ⟨trivial, ?_⟩; gi_at_call 19; refine (callsIn_wide.2 (HD.out _)).mono ?_; rintro e w1 ⟨rfl, hk1, hb1⟩)
  have HS1 := Lib.hid (DtSt.made hk1 hb1)
  clear hk1 hb1
  generalize hA : w.heap.size = A at *
  have HA := Lib.hid hA
  clear hA
  gi_wp2_with (refine ⟨trivial, ?_⟩; gi_at_call 10; refine (callsIn_wide.2 (lives20_calls _)).mono ?_; rintro e w2 ⟨rfl, hk2⟩; obtain ⟨b0, b1, b2, b3, b4, b5, b6, b7, b8⟩ := (HS1.out.kp hk2).2.1.cells)
  have HS2 := Lib.hid (HS1.out.kp hk2)
  clear hk2 HS1
  gi_wp2_with (refine ⟨trivial, ?_⟩; gi_at_call 12; refine (callsIn_wide.2 (HM.out _)).mono ?_; rintro e w3 ⟨rfl, hk3⟩)
  have HS3 := Lib.hid (HS2.out.kp hk3)
  clear hk3 HS2 b0 b1 b2 b3 b4 b5 b6 b7 b8 hef
  gi_wp2
  have hsz : w.heap.size + 4 ≤ w3.heap.size := by have := HS3.out.2.2.2.2.1.lt; have := HA.out; omega
  refine wpIn_rangeFunc_ownF rfl (by decide) (gf := 30) (lb := #[.pointer (some ⟨A + 1 + 1 + 1, 0, none⟩)]) rfl trivial (enters_of Try.func30 (by kernel_rfl) rfl)
    (dots_stops 4 (by decide) (A + 3) (A + 4) q 0 (by decide) (fun _ => (0, 0)) (fun W => cpieces_no q hm W) (by intro k hk; omega) w3 (by omega) (by have := HA.out; omega) HS3.out.2.2.2.2.1) belowK_t (belowK_b (by have := HA.out; omega)) (Below.refl _ _) (fun _ => rfl)
    (fun _ W => DtSt w W A q stop) (fun _ _ _ => False) (DtSt.own (by omega)) (fun _ => fun _ _ _ _ h => h.elim) HS3.out
    (fun x => { tmps := #[.agg #[.int .i64 q.k, .int .i64 q.a.1, .int .i64 q.a.2, .int .i64 q.b.1, .int .i64 q.b.2, .int .i64 q.c.1, .int .i64 q.c.2, .int .i64 q.d.1, .int .i64 q.d.2], .int .i64 stop, .pointer (some ⟨A, 0, none⟩), .pointer (some ⟨A + 1, 0, none⟩), .pointer (some ⟨A + 1 + 1, 0, none⟩), .func (.func 30) #[] #[.pointer (some ⟨A + 1 + 1 + 1, 0, none⟩)], undef, undef, undef, .agg #[.int .i64 q.k, .int .i64 q.a.1, .int .i64 q.a.2, .int .i64 q.b.1, .int .i64 q.b.2, .int .i64 q.c.1, .int .i64 q.c.2, .int .i64 q.d.1, .int .i64 q.d.2], .func (.func 30) #[] #[.pointer (some ⟨A + 1 + 1 + 1, 0, none⟩)], .bool true, .bool false, .bool false, .func (.func 30) #[] #[.pointer (some ⟨A + 1 + 1 + 1, 0, none⟩)], .bool false, .bool false, .agg #[.int .i64 q.k, .int .i64 q.a.1, .int .i64 q.a.2, .int .i64 q.b.1, .int .i64 q.b.2, .int .i64 q.c.1, .int .i64 q.c.2, .int .i64 q.d.1, .int .i64 q.d.2], .bool false, .bool true, .func (.func 30) #[] #[.pointer (some ⟨A + 1 + 1 + 1, 0, none⟩)], dotV x, undef, undef, undef, undef, undef, undef, undef, undef, undef, undef, undef, undef, undef, undef, undef, undef, undef, undef, undef, undef, undef, undef, undef, undef, undef, undef, undef, undef, undef, undef, undef, undef, undef, undef], defers := [] }) ?assign ?body ?done ?stop
  case assign =>
    intro l x W K hK
    gi_wp2
    exact hK
  case body =>
    intro l pre x W hI hlt
    omega
  case done =>
    rintro D ys W hD _ hI hK
    have hc := hI.2.2.2.1.cell
    have hf := hI.2.2.2.1.frozen
    have HI := Lib.hid hI
    have hK' := (KeepsOthers.setCell W ⟨A + 1 + 1, 0, none⟩ (.bool true)).same D _ hK rfl
    clear hI hK
    gi_wp2
    refine ⟨by simp, .inl ⟨_, _, rfl, run_takeDeferred hK', ?_⟩⟩
    have hc5 := cell_kept (World.cell?_setCell_same' W ⟨A + 1 + 1, 0, none⟩ (.bool true) (by rw [hc]; rfl)) (grownBy_putObj' _ D (.deferred none)) (fun r e => by cases e; exact ⟨_, hK', rfl⟩)
    refine ⟨.bool true, ?_, rfl, HI.out.2.2.2.2.2.ended (by have := HA.out; omega) (by omega)⟩
    simp [results, Try.f5, go_sem, hc5]
  case stop =>
    rintro D c pre W _ _ h _
    exact h.elim
set_option maxRecDepth 100000 in
set_option maxHeartbeats 4000000 in
theorem dots_yes (q : Bw) (stop : Int) (w : World) (hm : mayW q = true) : Calls Try.prog 5 #[bowV q, .int .i64 stop] w fun e w' => e = .returned (.bool true) ∧ Kp [] w w' := by
  have HD : Hid (∀ W, Calls Try.prog 19 #[.agg #[.int .i64 q.k, .int .i64 q.a.1, .int .i64 q.a.2, .int .i64 q.b.1, .int .i64 q.b.2, .int .i64 q.c.1, .int .i64 q.c.2, .int .i64 q.d.1, .int .i64 q.d.2]] W fun e w' => e = .returned (.func (.func 30) #[] #[.pointer (some ⟨W.heap.size, 0, none⟩)]) ∧ Kp [] W w' ∧ BowAt w' W.heap.size q) := fun W => (cdots_calls q W).mono fun e w' ⟨h1, h2⟩ => ⟨h1, by rw [h2]; exact (Kp.refl _ _).alloc _, by rw [h2]; exact heap_alloc_new W _⟩
  have HM : Hid (∀ W, Calls Try.prog 12 #[.agg #[.int .i64 q.k, .int .i64 q.a.1, .int .i64 q.a.2, .int .i64 q.b.1, .int .i64 q.b.2, .int .i64 q.c.1, .int .i64 q.c.2, .int .i64 q.d.1, .int .i64 q.d.2]] W fun e w' => e = .returned (.bool true) ∧ Kp [] W w') := fun W => by have h := rmayw_calls q W; rw [hm] at h; exact h
  have hef := eql_func (.func 30) #[]
  show Calls Try.prog 5 #[.agg #[.int .i64 q.k, .int .i64 q.a.1, .int .i64 q.a.2, .int .i64 q.b.1, .int .i64 q.b.2, .int .i64 q.c.1, .int .i64 q.c.2, .int .i64 q.d.1, .int .i64 q.d.2], .int .i64 stop] w _
  refine (callsIn_wide (n := 5)).1 ?_
  refine callsIn_of_wp_marks Try.func5 rfl trivial ?_ rfl
  simp only [Try.ntmps5, List.size_toArray, List.length_cons, List.length_nil, Nat.reduceAdd, Nat.reduceSub, Array.replicate_succ, Array.replicate_zero, List.push_toArray, List.append_toArray, List.nil_append, List.cons_append]
  gi_wp2_with (refine ⟨trivial, ?_⟩; gi_at_call 19; refine (callsIn_wide.2 (HD.out _)).mono ?_; rintro e w1 ⟨rfl, hk1, hb1⟩)
  have HS1 := Lib.hid (DtSt.made hk1 hb1)
  clear hk1 hb1
  generalize hA : w.heap.size = A at *
  have HA := Lib.hid hA
  clear hA
  gi_wp2_with (refine ⟨trivial, ?_⟩; gi_at_call 10; refine (callsIn_wide.2 (lives20_calls _)).mono ?_; rintro e w2 ⟨rfl, hk2⟩; obtain ⟨b0, b1, b2, b3, b4, b5, b6, b7, b8⟩ := (HS1.out.kp hk2).2.1.cells)
  have HS2 := Lib.hid (HS1.out.kp hk2)
  clear hk2 HS1
  gi_wp2_with (refine ⟨trivial, ?_⟩; gi_at_call 12; refine (callsIn_wide.2 (HM.out _)).mono ?_; rintro e w3 ⟨rfl, hk3⟩; obtain ⟨d0, d1, d2, d3, d4, d5, d6, d7, d8⟩ := (HS2.out.kp hk3).2.1.cells)
  have HS3 := Lib.hid (HS2.out.kp hk3)
  clear hk3 HS2 b0 b1 b2 b3 b4 b5 b6 b7 b8 hef
  have HPI : Hid (∀ W, Calls Try.prog 16 #[.agg #[.int .i64 q.k, .int .i64 q.a.1, .int .i64 q.a.2, .int .i64 q.b.1, .int .i64 q.b.2, .int .i64 q.c.1, .int .i64 q.c.2, .int .i64 q.d.1, .int .i64 q.d.2]] W fun e w' => e = .returned (.int .i64 (piecesQ (needsQ q))) ∧ Kp [] W w') := fun W => rpieces_calls q hm W
  have HPC : Hid (∀ W, Calls Try.prog 9 #[bowV q] W fun e w' => e = .returned (.int .i64 (piecesQ (needsQ q))) ∧ Kp [] W w') := fun W => cpieces_calls q hm W
  obtain ⟨hM1, hM2⟩ := pieces_bnd (needsQ q)
  generalize piecesQ (needsQ q) = M at *
  gi_wp2_with (refine ⟨trivial, ?_⟩; gi_at_call 16; refine (callsIn_wide.2 (HPI.out _)).mono ?_; rintro e w4 ⟨rfl, hk4⟩)
  have HS4 := Lib.hid (HS3.out.kp hk4)
  clear hk4 HS3 d0 d1 d2 d3 d4 d5 d6 d7 d8
  have hA4 : A + 4 ≤ w4.heap.size := by have := HS4.out.2.2.2.2.1.lt; omega
  have hAw : w.heap.size = A := HA.out
  have HRA : Hid (∀ i : Int, 0 ≤ i → i ≤ M → ∀ W, Calls Try.prog 18 #[.agg #[.int .i64 q.k, .int .i64 q.a.1, .int .i64 q.a.2, .int .i64 q.b.1, .int .i64 q.b.2, .int .i64 q.c.1, .int .i64 q.c.2, .int .i64 q.d.1, .int .i64 q.d.2], .int .i64 i, .int .i64 M] W fun e w' => e = .returned (.agg #[.int .i64 (atQ q i M).1, .int .i64 (atQ q i M).2]) ∧ Kp [] W w') := fun i h0 h1 W => rat_calls q hm i M (by omega) (by omega) h0 h1 W
  have HCA : Hid (∀ k, k < M → ∀ W, Calls Try.prog 28 #[bowV q, .int .i64 ((k : Int) + 1), .int .i64 M] W fun e w' => e = .returned (dotV (atQ q ((k : Int) + 1) M)) ∧ Kp [] W w') := fun k hk W => cat_calls q hm _ _ (by omega) (by omega) (by omega) (by omega) W
  have HEND := Lib.hid (at_n q M (by omega))
  have HK5 : Hid (Kp [] w4 ((w4.alloc (.cells #[.int .i64 M] 3)).alloc (.cells #[.int .i64 0] 3))) := ((Kp.refl _ _).alloc _).alloc _
  have HL5 : Hid (LpSt w ((w4.alloc (.cells #[.int .i64 M] 3)).alloc (.cells #[.int .i64 0] 3)) A w4.heap.size q stop M []) := by
    have b1 := Boxed.new w4 3 (.int .i64 M)
    have b2 := Boxed.new (w4.alloc (.cells #[.int .i64 M] 3)) 3 (.int .i64 0)
    simp only [World.size_alloc] at b2
    exact ⟨HS4.out.kp HK5.out, Boxed.kp b1 ((Kp.refl _ _).alloc _), b2, by simp, hA4⟩
  have hs5 : ((w4.alloc (.cells #[.int .i64 M] 3)).alloc (.cells #[.int .i64 0] 3)).heap.size = w4.heap.size + 2 := by simp
  generalize (w4.alloc (.cells #[.int .i64 M] 3)).alloc (.cells #[.int .i64 0] 3) = w5 at *
  refine wpIn_rangeFunc_ownH rfl (by decide) (gf := 30) (lb := #[.pointer (some ⟨A + 1 + 1 + 1, 0, none⟩)]) rfl trivial (enters_of Try.func30 (by kernel_rfl) rfl)
    (dots_stops 4 (by decide) (A + 3) (A + 4) q M (by omega) (fun k => atQ q ((k : Int) + 1) M) HPC.out HCA.out w5 (by omega) (by omega) HL5.out.1.2.2.2.2.1) belowK_t (belowK_b (by omega)) (Below.refl _ _) (fun _ => rfl)
    (fun pre W => LpSt w W A w4.heap.size q stop M pre) (fun c pre W => c = .ret ∧ LxSt w W A M q pre) (LpSt.own (by omega)) (fun c => LxSt.own (by omega) c) HL5.out
    (fun x a' W => ∃ Bx, w5.heap.size ≤ Bx ∧ DotAt W Bx x ∧ a' = { tmps := #[.agg #[.int .i64 q.k, .int .i64 q.a.1, .int .i64 q.a.2, .int .i64 q.b.1, .int .i64 q.b.2, .int .i64 q.c.1, .int .i64 q.c.2, .int .i64 q.d.1, .int .i64 q.d.2], .int .i64 stop, .pointer (some ⟨A, 0, none⟩), .pointer (some ⟨A + 1, 0, none⟩), .pointer (some ⟨A + 1 + 1, 0, none⟩), .func (.func 30) #[] #[.pointer (some ⟨A + 1 + 1 + 1, 0, none⟩)], .pointer (some ⟨w4.heap.size, 0, none⟩), .pointer (some ⟨w4.heap.size + 1, 0, none⟩), .pointer (some ⟨Bx, 0, none⟩), .agg #[.int .i64 q.k, .int .i64 q.a.1, .int .i64 q.a.2, .int .i64 q.b.1, .int .i64 q.b.2, .int .i64 q.c.1, .int .i64 q.c.2, .int .i64 q.d.1, .int .i64 q.d.2], .func (.func 30) #[] #[.pointer (some ⟨A + 1 + 1 + 1, 0, none⟩)], .bool true, .bool false, .bool false, .func (.func 30) #[] #[.pointer (some ⟨A + 1 + 1 + 1, 0, none⟩)], .bool false, .bool false, .agg #[.int .i64 q.k, .int .i64 q.a.1, .int .i64 q.a.2, .int .i64 q.b.1, .int .i64 q.b.2, .int .i64 q.c.1, .int .i64 q.c.2, .int .i64 q.d.1, .int .i64 q.d.2], .bool true, .bool false, undef, undef, .agg #[.int .i64 q.k, .int .i64 q.a.1, .int .i64 q.a.2, .int .i64 q.b.1, .int .i64 q.b.2, .int .i64 q.c.1, .int .i64 q.c.2, .int .i64 q.d.1, .int .i64 q.d.2], .int .i64 M, .func (.func 30) #[] #[.pointer (some ⟨A + 1 + 1 + 1, 0, none⟩)], .agg #[.int .i64 x.1, .int .i64 x.2], undef, undef, undef, undef, undef, undef, undef, undef, undef, undef, undef, undef, undef, undef, undef, undef, undef, undef, undef, undef, undef, undef, undef, undef, undef, undef, undef, undef, undef, undef], defers := [] })
    (fun x a' s W W' row hs hg hr => by obtain ⟨Bx, h1, h2, h3⟩ := hs; exact ⟨Bx, h1, blkKept hg hr h2, h3⟩) ?assign ?body ?done ?stop
  case assign =>
    intro l pre x W K hi hK
    have HI := Lib.hid hi
    have hszW : w5.heap.size ≤ W.heap.size := by have := hi.2.2.1.lt; omega
    clear hi
    simp only [dotV]
    gi_wp2
    exact hK _ _ ((KeepsOthers.alloc _ _).from _) ((Below.refl _ W).alloc (by omega) _) (HI.out.alloc _) ⟨W.heap.size, hszW, heap_alloc_new W _, rfl⟩
  case body =>
    rintro l pre x a' W hl ⟨rr, hr⟩ hI ⟨Bx, hBx, hD, rfl⟩ hlt
    obtain ⟨x1, x2⟩ := x
    have HI := Lib.hid hI
    have ci := hI.2.2.1.cell
    have fi := hI.2.2.1.frozen
    have hXY := HRA.out ((pre.length : Int) + 1) (by omega) (by omega)
    have hbi := hI.2.2.1
    obtain ⟨K, hKK⟩ : ∃ K, pre.length = K := ⟨_, rfl⟩
    have HKK := Lib.hid hKK
    rw [hKK] at ci hXY hlt hbi
    obtain ⟨y, hy⟩ : ∃ y, atQ q ((K : Int) + 1) M = y := ⟨_, rfl⟩
    have HY := Lib.hid hy
    rw [hy] at hXY
    obtain ⟨y1, y2⟩ := y
    have HXY := Lib.hid hXY
    have hk1 : Kp [w4.heap.size + 1] W (W.setCell ⟨w4.heap.size + 1, 0, none⟩ (.int .i64 ((K : Int) + 1))) := (Kp.refl _ _).setCell (.inl (by simp)) _
    have HBX := Lib.hid (hk1.heap hD (by simp; omega))
    have HBW := Lib.hid (hk1.heap hI.1.2.1 (by simp; omega))
    have BS := Lib.hid (show Boxed _ (A + 1) _ _ from hk1.heap hI.1.2.2.1 (by simp; omega))
    have BR := Lib.hid (show Boxed _ (A + 2) _ _ from hk1.heap hI.1.2.2.2.1 (by simp; omega))
    have BN := Lib.hid (show Boxed _ w4.heap.size _ _ from hk1.heap hI.2.1 (by simp))
    have BI : Hid (Boxed (W.setCell ⟨w4.heap.size + 1, 0, none⟩ (.int .i64 ((K : Int) + 1))) (w4.heap.size + 1) 3 (.int .i64 ((K : Int) + 1))) := heap_setCell_same W (w4.heap.size + 1) 0 _ _ _ hbi
    have HB3 := Lib.hid (hk1.heap hI.1.2.2.2.2.1 (by simp; omega))
    have HKW : Hid (Kp [] w (W.setCell ⟨w4.heap.size + 1, 0, none⟩ (.int .i64 ((K : Int) + 1)))) := hI.1.2.2.2.2.2.setCell (.inr (by show _ ≤ w4.heap.size + 1; omega)) _
    have HDT : Hid (DtSt w (W.setCell ⟨w4.heap.size + 1, 0, none⟩ (.int .i64 ((K : Int) + 1))) A q stop) := ⟨hAw.symm, HBW.out, BS.out, BR.out, HB3.out, HKW.out⟩
    have HKF : Hid (KeepsFrom w5.heap.size W (W.setCell ⟨w4.heap.size + 1, 0, none⟩ (.int .i64 ((K : Int) + 1)))) := (KeepsOthers.setCell _ _ _).from _
    have HBL : Hid (Below (A + 4) W (W.setCell ⟨w4.heap.size + 1, 0, none⟩ (.int .i64 ((K : Int) + 1)))) := (Below.refl _ W).setCell (p := ⟨w4.heap.size + 1, 0, none⟩) (by show _ ≤ w4.heap.size + 1; omega) _
    have hszW : A + 4 ≤ (W.setCell ⟨w4.heap.size + 1, 0, none⟩ (.int .i64 ((K : Int) + 1))).heap.size := by have := hI.2.2.1.lt; simp [World.setCell]; omega
    have HLEN : Hid ((((pre ++ [(x1, x2)]).length : Nat) : Int) = (K : Int) + 1) := by show _ = _; rw [List.length_append, hKK]; rfl
    have HW0 : Hid (HEq W W) := HEq.rfl
    clear hI hD hr hKK hy hXY hbi hk1
    gi_wp2
    generalize W.setCell ⟨w4.heap.size + 1, 0, none⟩ (.int .i64 ((K : Int) + 1)) = W1 at *
    clear ci fi
    have qs := fun n : KW W1 => KW.cell BS.out.cell n
    have qi := fun n : KW W1 => KW.cell BI.out.cell n
    have qn := fun n : KW W1 => KW.cell BN.out.cell n
    obtain ⟨b0, b1, b2, b3, b4, b5, b6, b7, b8⟩ := (show BowAt W1 A q from HBW.out).cells
    have q0 := fun n : KW W1 => KW.cell b0 n
    have q1 := fun n : KW W1 => KW.cell b1 n
    have q2 := fun n : KW W1 => KW.cell b2 n
    have q3 := fun n : KW W1 => KW.cell b3 n
    have q4 := fun n : KW W1 => KW.cell b4 n
    have q5 := fun n : KW W1 => KW.cell b5 n
    have q6 := fun n : KW W1 => KW.cell b6 n
    have q7 := fun n : KW W1 => KW.cell b7 n
    have q8 := fun n : KW W1 => KW.cell b8 n
    clear b0 b1 b2 b3 b4 b5 b6 b7 b8
    have qd1 : ∀ n : KW W1, n.w.cell? ⟨Bx, 0, none⟩ = some (.int .i64 x1) := fun n => KW.cell (by rw [cell_of_row W1 Bx _ _ _ _ HBX.out]; rfl) n
    have qd2 : ∀ n : KW W1, n.w.cell? ⟨Bx, 1, none⟩ = some (.int .i64 x2) := fun n => KW.cell (by rw [cell_of_row W1 Bx _ _ _ _ HBX.out]; rfl) n
    have hgt : decide ((M : Int) < (K : Int) + 1) = false := decide_eq_false (by omega)
    by_cases hx1 : x1 = y1
    · subst hx1
      by_cases hx2 : x2 = y2
      · subst hx2
        by_cases hl : K + 1 = M
        · have hle : ((K : Int) + 1 == (M : Int)) = true := by simp; omega
          have hQ : atQ q ((K : Int) + 1) M = q.d := by rw [show (K : Int) + 1 = M by omega]; exact HEND.out
          have hd : (x1, x2) = q.d := by rw [← hQ, HY.out]
          have hd1 : x1 = q.d.1 := by rw [← hd]
          have hd2 : x2 = q.d.2 := by rw [← hd]
          clear hQ hd
          refine wpIn_region_kqr (by kernel_rfl) (by kernel_rfl) (by kernel_rfl) ?_
          repeat (gi_big_quiet_step (fail))
          refine wpQuietIn_step (fun _ _ _ _ => trivial) (fun K' hK' => ?_)
          go_simp
          apply Exists.intro
          refine ⟨fun _ => ?_, hK' _ ?_⟩
          · exact CallsIn.kq (callsIn_wide.2 (HXY.out _))
          clear hK' K'
          repeat (gi_big_quiet_step (fail))
          refine wpQuietIn_nil ?_
          intro W2 hw'
          obtain ⟨⟨_, hk2⟩, rfl⟩ := hw'
          clear qs q0 q1 q2 q3 q4 q5 q6 q7 q8 qi qn qd1 qd2
          by_cases hst : (K : Int) + 1 = stop
          · have hse : ((K : Int) + 1 == stop) = true := by simp [hst]
            clear hst
            have HK2 : Hid (Kp [] W1 W2) := hk2
            have gi := (Boxed.kp BI.out hk2).cell
            have gs := (Boxed.kp BS.out hk2).cell
            have gr := (Boxed.kp BR.out hk2).cell
            have gf := (Boxed.kp BR.out hk2).frozen
            clear hk2
            gi_wp2
            exact ⟨HKF.out.trans ((HK2.out.keeps.trans (KeepsOthers.setCell _ _ _)).from _), rfl, hAw, (HKW.out.trans HK2.out).setCell (.inr (by show _ ≤ A + 1 + 1; omega)) _, .inl (heap_setCell_same W2 (A + 2) 0 _ _ _ (Boxed.kp BR.out HK2.out))⟩
          · have hse : ((K : Int) + 1 == stop) = false := by simp [hst]
            clear hst
            have HK2 : Hid (Kp [] W1 W2) := hk2
            have gi := (Boxed.kp BI.out hk2).cell
            have gs := (Boxed.kp BS.out hk2).cell
            have gr := (Boxed.kp BR.out hk2).cell
            have gf := (Boxed.kp BR.out hk2).frozen
            clear hk2
            gi_wp2
            exact ⟨HKF.out.trans (HK2.out.keeps.from _), HBL.out.trans (HK2.out.bel0.mono (by omega)), ⟨HDT.out.kp HK2.out, Boxed.kp BN.out HK2.out, by rw [HLEN.out]; exact Boxed.kp BI.out HK2.out, pre_more HI.out.2.2.2.1 (by rw [HKK.out, HY.out]), hA4⟩⟩
        · have hle : ((K : Int) + 1 == (M : Int)) = false := by simp; omega
          refine wpIn_region_kqr (by kernel_rfl) (by kernel_rfl) (by kernel_rfl) ?_
          repeat (gi_big_quiet_step (fail))
          refine wpQuietIn_step (fun _ _ _ _ => trivial) (fun K' hK' => ?_)
          go_simp
          apply Exists.intro
          refine ⟨fun _ => ?_, hK' _ ?_⟩
          · exact CallsIn.kq (callsIn_wide.2 (HXY.out _))
          clear hK' K'
          repeat (gi_big_quiet_step (fail))
          refine wpQuietIn_nil ?_
          intro W2 hw'
          obtain ⟨⟨_, hk2⟩, rfl⟩ := hw'
          clear qs q0 q1 q2 q3 q4 q5 q6 q7 q8 qi qn qd1 qd2
          by_cases hst : (K : Int) + 1 = stop
          · have hse : ((K : Int) + 1 == stop) = true := by simp [hst]
            clear hst
            have HK2 : Hid (Kp [] W1 W2) := hk2
            have gi := (Boxed.kp BI.out hk2).cell
            have gs := (Boxed.kp BS.out hk2).cell
            have gr := (Boxed.kp BR.out hk2).cell
            have gf := (Boxed.kp BR.out hk2).frozen
            clear hk2
            gi_wp2
            exact ⟨HKF.out.trans ((HK2.out.keeps.trans (KeepsOthers.setCell _ _ _)).from _), rfl, hAw, (HKW.out.trans HK2.out).setCell (.inr (by show _ ≤ A + 1 + 1; omega)) _, .inl (heap_setCell_same W2 (A + 2) 0 _ _ _ (Boxed.kp BR.out HK2.out))⟩
          · have hse : ((K : Int) + 1 == stop) = false := by simp [hst]
            clear hst
            have HK2 : Hid (Kp [] W1 W2) := hk2
            have gi := (Boxed.kp BI.out hk2).cell
            have gs := (Boxed.kp BS.out hk2).cell
            have gr := (Boxed.kp BR.out hk2).cell
            have gf := (Boxed.kp BR.out hk2).frozen
            clear hk2
            gi_wp2
            exact ⟨HKF.out.trans (HK2.out.keeps.from _), HBL.out.trans (HK2.out.bel0.mono (by omega)), ⟨HDT.out.kp HK2.out, Boxed.kp BN.out HK2.out, by rw [HLEN.out]; exact Boxed.kp BI.out HK2.out, pre_more HI.out.2.2.2.1 (by rw [HKK.out, HY.out]), hA4⟩⟩
      · have hne : ((x1, x2) : Int × Int) ≠ (x1, y2) := fun h => hx2 (by simpa using h)
        refine wpIn_region_kqr (by kernel_rfl) (by kernel_rfl) (by kernel_rfl) ?_
        repeat (gi_big_quiet_step (fail))
        refine wpQuietIn_step (fun _ _ _ _ => trivial) (fun K' hK' => ?_)
        go_simp
        apply Exists.intro
        refine ⟨fun _ => ?_, hK' _ ?_⟩
        · exact CallsIn.kq (callsIn_wide.2 (HXY.out _))
        clear hK' K'
        repeat (gi_big_quiet_step (fail))
        refine wpQuietIn_nil ?_
        intro W2 hw'
        obtain ⟨⟨_, hk2⟩, rfl⟩ := hw'
        clear qs q0 q1 q2 q3 q4 q5 q6 q7 q8 qi qn qd1 qd2
        have HK2 : Hid (Kp [] W1 W2) := hk2
        have gi := (Boxed.kp BI.out hk2).cell
        have gs := (Boxed.kp BS.out hk2).cell
        have gr := (Boxed.kp BR.out hk2).cell
        have gf := (Boxed.kp BR.out hk2).frozen
        clear hk2
        gi_wp2
        exact ⟨HKF.out.trans ((HK2.out.keeps.trans (KeepsOthers.setCell _ _ _)).from _), rfl, hAw, (HKW.out.trans HK2.out).setCell (.inr (by show _ ≤ A + 1 + 1; omega)) _, .inr (pre_not (f := fun k => atQ q ((k : Int) + 1) M) (by rw [HKK.out]; exact hlt) (by show _ ≠ atQ q _ M; rw [HKK.out, HY.out]; exact hne))⟩
    · have hne : ((x1, x2) : Int × Int) ≠ (y1, y2) := fun h => hx1 (by simp at h; exact h.1)
      refine wpIn_region_kqr (by kernel_rfl) (by kernel_rfl) (by kernel_rfl) ?_
      repeat (gi_big_quiet_step (fail))
      refine wpQuietIn_step (fun _ _ _ _ => trivial) (fun K' hK' => ?_)
      go_simp
      apply Exists.intro
      refine ⟨fun _ => ?_, hK' _ ?_⟩
      · exact CallsIn.kq (callsIn_wide.2 (HXY.out _))
      clear hK' K'
      repeat (gi_big_quiet_step (fail))
      refine wpQuietIn_nil ?_
      intro W2 hw'
      obtain ⟨⟨_, hk2⟩, rfl⟩ := hw'
      clear qs q0 q1 q2 q3 q4 q5 q6 q7 q8 qi qn qd1 qd2
      have HK2 : Hid (Kp [] W1 W2) := hk2
      have gi := (Boxed.kp BI.out hk2).cell
      have gs := (Boxed.kp BS.out hk2).cell
      have gr := (Boxed.kp BR.out hk2).cell
      have gf := (Boxed.kp BR.out hk2).frozen
      clear hk2
      gi_wp2
      exact ⟨HKF.out.trans ((HK2.out.keeps.trans (KeepsOthers.setCell _ _ _)).from _), rfl, hAw, (HKW.out.trans HK2.out).setCell (.inr (by show _ ≤ A + 1 + 1; omega)) _, .inr (pre_not (f := fun k => atQ q ((k : Int) + 1) M) (by rw [HKK.out]; exact hlt) (by show _ ≠ atQ q _ M; rw [HKK.out, HY.out]; exact hne))⟩
  case done =>
    rintro D ys W hD hS hI hK
    have hlen : ys.length = M := by rw [hS, uptoF_length]
    have HI := Lib.hid hI
    have cn := hI.2.1.cell
    have ci := hI.2.2.1.cell
    have cr := hI.1.2.2.2.1.cell
    have fr := hI.1.2.2.2.1.frozen
    rw [hlen] at ci
    have hK' := (KeepsOthers.setCell W ⟨A + 1 + 1, 0, none⟩ (.bool true)).same D _ hK rfl
    clear hI hK hS
    gi_wp2
    refine ⟨by simp, .inl ⟨_, _, rfl, run_takeDeferred hK', ?_⟩⟩
    have hc5 := cell_kept (World.cell?_setCell_same' W ⟨A + 1 + 1, 0, none⟩ (.bool true) (by rw [cr]; rfl)) (grownBy_putObj' _ D (.deferred none)) (fun r e => by cases e; exact ⟨_, hK', rfl⟩)
    refine ⟨.bool true, ?_, rfl, HI.out.1.2.2.2.2.2.ended (by omega) (by omega)⟩
    simp [results, Try.f5, go_sem, hc5]
  case stop =>
    rintro D c pre W hD hpre ⟨rfl, h1, h2, h3⟩ hK
    have hb : Boxed W (A + 2) 4 (.bool true) := h3.resolve_right (fun h => h hpre)
    have H2 := Lib.hid h2
    clear h2 h3
    gi_wp2
    refine ⟨by simp, .inl ⟨_, _, rfl, run_takeDeferred hK, ?_⟩⟩
    have hc5 := cell_kept (show W.cell? ⟨A + 1 + 1, 0, none⟩ = some (.bool true) from hb.cell) (grownBy_putObj' _ D (.deferred none)) (fun r e => by cases e; exact ⟨_, hK, rfl⟩)
    refine ⟨.bool true, ?_, rfl, Kp.grown H2.out (grownBy_putObj' _ D (.deferred none)) (fun k hk => .inr (by cases hk; omega))⟩
    simp [results, Try.f5, go_sem, hc5]
theorem law_CurveDots (q : Bw) (stop : Int) (w : World) : Calls Try.prog 5 #[bowV q, .int .i64 stop] w fun e w' => e = .returned (.bool true) ∧ Kp [] w w' := by
  cases hm : mayW q
  · exact dots_no q stop w hm
  · exact dots_yes q stop w hm
end Go.Proofs.Ytfdognnjghdikaa

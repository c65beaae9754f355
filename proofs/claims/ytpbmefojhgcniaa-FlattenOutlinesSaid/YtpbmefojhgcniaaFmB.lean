/- flatten: the box of a flat outline · flatten: what Box answers; the area · flatten: the reference's Same, Count and May · flatten: the reference's May and Area · flatten: the reference's Area. (Merged by wip/tools/mergetpl.py out of FlH, FlI, FlJ, FlK, FlL.) -/
import Derived.Test.YtpbmefojhgcniaaFmA
import Derived.Test.YtpbmefojhgcniaaTwo
import Derived.Test.YtpbmefojhgcniaaInvIn
import Derived.Test.YtpbmefojhgcniaaOmE
import Derived.Deep.DeepCutAuto
import Derived.Test.YtpbmefojhgcniaaOmA
import Derived.BigQuiet
import Derived.Deep.RegionHeld3
namespace Go.Proofs.Ytpbmefojhgcniaa
open Go.RowKit Go.Shelf
set_option linter.unusedVariables false
set_option linter.unusedSimpArgs false
attribute [local go_sem] Oper.semAt_some
def fX (l : List (Int × Int)) : List Int := l.map (·.1)
def fY (l : List (Int × Int)) : List Int := l.map (·.2)
/-- A world keeps what is told of w. -/
def KeepW (w A B : World) : Prop := Kp [] w A → Kp [] w B
/-- What Box keeps: its result, the rows' boxes, the rows. -/
def BoSt (w W : World) (A X : Nat) (T : List (Int × Int)) : Prop :=
  A = w.heap.size ∧ BxAt W A ⟨0, 0, 0, 0⟩ ∧ A < X ∧ (∃ vx vy, Boxed W X 81 vx ∧ Boxed W (X + 1) 81 vy ∧ TwoR 3 W (X + 1 + 1 + 1) vx (fX T) vy (fY T)) ∧ X + 1 + 1 + 1 ≤ W.heap.size ∧ Kp [] w W
theorem rowKept {W W' : World} {row : Option Nat} {B base : Nat} {e : TypeId} {size n : Nat} {v : Value} {xs : List Value} (hg : W.grownBy W' row) (hr : ∀ r, row = some r → B ≤ r ∧ ∃ o : Obj, W.heap[r]? = some o ∧ o.isCells = false) (h : W.ownsRow base e size v n xs) : W'.ownsRow base e size v n xs := by
  have hk : Kp row.toList W W' := Kp.grown (Kp.refl _ _) hg (fun k hk => .inl (by rw [hk]; simp))
  refine hk.row h (fun t ht e => ?_)
  obtain ⟨_, o, ho, hc⟩ := hr t (by simpa using ht)
  rcases h.2 with ⟨rfl, _⟩ | ⟨g, cap, cur, rfl, hb, hgg, _⟩
  · simp [Value.ownBlock] at e
  · simp [Value.ownBlock] at e
    subst e
    rw [hgg] at ho
    cases ho; simp [Obj.isCells] at hc
theorem BoSt.own {w : World} {A X B : Nat} (hB : w.heap.size ≤ B) : OwnFrom (β := List (Int × Int)) B (fun pre W => BoSt w W A X pre) := by
  intro s W W' row hs hg hr
  obtain ⟨h1, h2, h3, ⟨vx, vy, h4, h5, h6, h7, h8⟩, h10, h9⟩ := hs
  exact ⟨h1, blkKept hg hr h2, h3, ⟨vx, vy, blkKept hg hr h4, blkKept hg hr h5, rowKept hg hr h6, rowKept hg hr h7, h8⟩, Nat.le_trans h10 hg.size, Kp.grown h9 hg (fun k hk => .inr (Nat.le_trans hB (hr k hk).1))⟩
theorem BoSt.kp {w W W' : World} {A X : Nat} {T : List (Int × Int)} (h : BoSt w W A X T) (hk : Kp [] W W') : BoSt w W' A X T := by
  obtain ⟨h1, h2, h3, ⟨vx, vy, h4, h5, h6⟩, h10, h9⟩ := h
  exact ⟨h1, h2.kp hk (by simp), h3, ⟨vx, vy, Boxed.kp h4 hk, Boxed.kp h5 hk, h6.kp0 hk⟩, Nat.le_trans h10 hk.size, h9.trans hk⟩
theorem mayF_facts {L : List (List (Int × Int))} (h : mayF L = 0) : (flTo L L.length).length ≤ 65536 ∧ ∀ q ∈ flTo L L.length, dotQ q = true := by
  unfold mayF at h
  by_cases h1 : 65536 < fcnt L
  · rw [if_pos h1] at h; cases h
  · rw [if_neg h1] at h
    by_cases h2 : (flTo L L.length).all dotQ = true
    · refine ⟨?_, List.all_eq_true.1 h2⟩
      have : ∀ j, j ≤ L.length → (flTo L j).length = fcntTo L j := by
        intro j
        induction j with
        | zero => intro _; rfl
        | succ j ih => intro hj; rw [flTo_succ L j (by omega), List.length_append, ih (by omega), fcntTo]
      rw [this _ (Nat.le_refl _)]
      unfold fcnt at h1; omega
    · rw [if_neg h2] at h; cases h
def boxH (h : Bx) : Bx := ⟨h.x0 / 64, h.y0 / 64, ceil64 h.x1, ceil64 h.y1⟩
def emptyB (b : Bx) : Bool := decide (b.x1 ≤ b.x0) || decide (b.y1 ≤ b.y0)
def boxF (L : List (List (Int × Int))) : Bx × Int := if mayF L ≠ 0 then (⟨0, 0, 0, 0⟩, mayF L) else
  (if emptyB (boxH (hullB (fX (flTo L L.length)) (fY (flTo L L.length)) (fX (flTo L L.length)).length)) = true then ⟨0, 0, 0, 0⟩ else boxH (hullB (fX (flTo L L.length)) (fY (flTo L L.length)) (fX (flTo L L.length)).length), 0)
theorem boxF_ok (L : List (List (Int × Int))) (h : mayF L = 0) : boxF L = (if emptyB (boxH (hullB (fX (flTo L L.length)) (fY (flTo L L.length)) (fX (flTo L L.length)).length)) = true then ⟨0, 0, 0, 0⟩ else boxH (hullB (fX (flTo L L.length)) (fY (flTo L L.length)) (fX (flTo L L.length)).length), 0) := by
  unfold boxF; rw [if_neg (by simp [h])]
section
variable {P : Program} {w : World} {ops : Array Oper} {o : Oper} {a : Act} {Q : Exit → Act → World → Prop}
theorem step_appJ {K : Act → World → Prop} {E : Prop} (hgd : o.guard = none) (s x : Operand) (t : TypeId)
    (ho : o.op = .call { callee := .builtin .append, args := #[s, x], argTypes := #[t, t] })
    (base : Nat) (e : TypeId) (ht : P.underlying t = some (.slice e)) (hinfo : (P.info? e).map (fun i => (i.zero, i.size, i.bytes)) = some (some (.int .i64 0), 1, 8))
    (v : Value) (xs : List Int) (n : Nat) (hn : xs.length = n) (hs : a.eval s = v) (hown : w.ownsRow base e 1 v n (intsV xs))
    (G C : Nat) (z : Int) (hx : a.eval x = .slice (some ⟨G, 0, none⟩) 1 C) (hc : w.cell? ⟨G, 0, none⟩ = some (.int .i64 z))
    (hbytes : (n + 1) * 8 ≤ 140737488355328) (hbase : base ≤ w.heap.size)
    (h : ∀ g c w', (∀ vy ys, TwoR e w base v xs vy ys → TwoR e w' base (.slice (some ⟨g, 0, none⟩) (n + 1) c) (xs ++ [z]) vy ys) → (∀ w0, w0.heap.size ≤ base → Kp [] w0 w → Kp [] w0 w') → Kp v.ownBlock.toList w w' → (v.ownBlock = some g ∨ w.heap.size ≤ g) → K (a.put o.dst (.slice (some ⟨g, 0, none⟩) (n + 1) c)) w') :
    if Region.wanted o (yielded ops a.tmps) = true then Oper.wp P o a w K Q else E := by
  obtain ⟨i, hi, hz, hsize, hby⟩ := info_parts hinfo
  subst hn
  refine step_append_lies w hgd s x t ho base e i (.int .i64 0) 1 8 ht hi hz hsize hby rfl (by decide) v xs.length (intsV xs) hs hown ⟨G, 0, none⟩ 1 C [.int .i64 z] hx rfl (by
    intro j u hu
    rcases j with _ | j
    · rw [add_lit]; cases hu; exact hc
    · simp at hu) (by intro u hu; simp at hu; subst hu; rfl) (by decide) (by unfold maxLen; omega) hbytes hbase w.heap.size rfl ?_
  intro g c w' h1 h2 h3 h4
  have hk : Kp v.ownBlock.toList w w' := Kp.grown (Kp.refl _ _) h2 (fun k hk => .inl (by rw [hk]; simp))
  refine h g c w' (fun vy ys hT => ⟨by simpa [intsV] using h1, hk.row hT.2.1 (fun s hs e => ?_), fun k hk2 e => ?_⟩) (fun w0 h0 hk0 => Kp.grown hk0 h2 (fun k hk' => .inr (by have := own_ge hown k hk'; omega))) hk (h3.imp_right (fun e => by rw [e]; exact Nat.le_refl _))
  · exact hT.2.2 s (by simpa using hs) e
  · have e2 : g = k := by simpa [Value.ownBlock] using hk2
    subst e2
    rcases h3 with h3 | h3
    · exact hT.2.2 g h3 e
    · have := (hT.2.1.lt g e).2; omega
end
/-- A literal of one integer that no row lies in. -/
def LitAt (W : World) (X : Nat) (t : Value) (z : Int) (cx cy : Value) : Prop := ∃ G, t = .slice (some ⟨G, 0, none⟩) 1 1 ∧ X + 1 + 1 + 1 ≤ G ∧ W.heap[G]? = some (.cells #[.int .i64 z] 3 (0, 0)) ∧ cx.ownBlock ≠ some G ∧ cy.ownBlock ≠ some G
theorem LitAt.kp {S : List Nat} {W W' : World} {X : Nat} {t : Value} {z : Int} {cx cy : Value} (h : LitAt W X t z cx cy) (hk : Kp S W W') (hS : ∀ s ∈ S, s < X + 1 + 1 + 1) : LitAt W' X t z cx cy := by
  obtain ⟨G, h1, h2, h3, h4⟩ := h
  exact ⟨G, h1, h2, hk.heap h3 (fun hs => by have := hS G hs; omega), h4⟩
theorem LitAt.swap {W : World} {X : Nat} {t : Value} {z : Int} {cx cy : Value} (h : LitAt W X t z cx cy) : LitAt W X t z cy cx := by
  obtain ⟨G, h1, h2, h3, h4, h5⟩ := h; exact ⟨G, h1, h2, h3, h5, h4⟩
theorem LitAt.app {W W' : World} {X g n c : Nat} {t : Value} {z : Int} {cx cy : Value} (h : LitAt W X t z cx cy) (hk : Kp cx.ownBlock.toList W W') (hb : cx.ownBlock = some g ∨ W.heap.size ≤ g) : LitAt W' X t z (.slice (some ⟨g, 0, none⟩) n c) cy := by
  obtain ⟨G, h1, h2, h3, h4, h5⟩ := h
  refine ⟨G, h1, h2, hk.heap h3 (fun hs => h4 (by simpa using hs)), fun e => ?_, h5⟩
  have hlt := lt_of_block h3
  have e2 : g = G := by simpa [Value.ownBlock] using e
  subst e2
  rcases hb with hb | hb
  · exact h4 hb
  · omega
theorem LitAt.new {W : World} {X base : Nat} {z : Int} {cx cy : Value} {xs ys : List Int} (hT : TwoR 3 W base cx xs cy ys) (hX : X + 1 + 1 + 1 ≤ W.heap.size) : LitAt (W.alloc (.cells #[.int .i64 z] 3)) X (.slice (some ⟨W.heap.size, 0, none⟩) 1 1) z cx cy :=
  ⟨_, rfl, hX, heap_alloc_new W _, fun e => by have := (hT.1.lt _ e).2; omega, fun e => by have := (hT.2.1.lt _ e).2; omega⟩
/-- A row of integers does not lie where a dot lies. -/
theorem own_not_dot {W : World} {base n Bx : Nat} {v : Value} {xs : List Value} {q : Int × Int} (h : W.ownsRow base 3 1 v n xs) (hd : DotAt W Bx q) : v.ownBlock ≠ some Bx := by
  intro e
  rcases h.2 with ⟨rfl, _⟩ | ⟨g, cap, cur, rfl, hb, hgg, _⟩
  · simp [Value.ownBlock] at e
  · simp [Value.ownBlock] at e
    subst e
    have h2 : W.heap[g]? = _ := hd
    rw [h2] at hgg
    simp at hgg
structure BoI (w W0 : World) (A X Bx : Nat) (vx vy : Value) (xs ys : List Int) (x1 x2 : Int) (D : Nat → Prop) (W : World) (t20 t21 t22 t23 t24 t25 t26 t27 t28 t29 : Value) (cx : Value) (xs' : List Int) (cy : Value) (ys' : List Int) : Prop where
  e20 : D 0 → t20 = vx
  e21 : D 1 → t21 = .pointer (some ⟨Bx, 0, none⟩)
  e22 : D 2 → t22 = .int .i64 x1
  e25 : D 5 → t25 = vy
  e26 : D 6 → t26 = .pointer (some ⟨Bx, 1, none⟩)
  e27 : D 7 → t27 = .int .i64 x2
  two : TwoR 3 W (X + 1 + 1 + 1) cx xs' cy ys'
  x4 : D 4 → cx = t24 ∧ xs' = xs ++ [x1]
  x4n : ¬ D 4 → cx = vx ∧ xs' = xs
  y9 : D 9 → cy = t29 ∧ ys' = ys ++ [x2]
  y9n : ¬ D 9 → cy = vy ∧ ys' = ys
  l3 : D 3 → ¬ D 4 → LitAt W X t23 x1 cx cy
  l8 : D 8 → ¬ D 9 → LitAt W X t28 x2 cx cy
  b10 : D 10 → Boxed W X 81 t24
  b10n : ¬ D 10 → Boxed W X 81 vx
  b11 : D 11 → Boxed W (X + 1) 81 t29
  b11n : ¬ D 11 → Boxed W (X + 1) 81 vy
  p4 : D 4 → D 0
  p9 : D 9 → D 5
  p10 : D 10 → D 0 ∧ D 4
  p11 : D 11 → D 5 ∧ D 9
  dot : DotAt W Bx (x1, x2)
  res : BxAt W A ⟨0, 0, 0, 0⟩
  keep : KeepsOthers W0 W
  kp : Kp [] w W
  size : X + 1 + 1 + 1 ≤ W.heap.size
theorem keepsOwn {S : List Nat} {W W' : World} (h : Kp S W W') (hS : ∀ s ∈ S, ∀ o, W.heap[s]? = some o → o.isCells = true) : KeepsOthers W W' :=
  ⟨h.size, fun k o ho hc => h.heap ho (fun hs => by rw [hS k hs o ho] at hc; cases hc)⟩
theorem own_cells {W : World} {base size n : Nat} {e : TypeId} {v : Value} {xs : List Value} (h : W.ownsRow base e size v n xs) : ∀ s ∈ v.ownBlock.toList, ∀ o, W.heap[s]? = some o → o.isCells = true := by
  intro s hs o ho
  rcases h.2 with ⟨rfl, _⟩ | ⟨g, cap, cur, rfl, hb, hgg, _⟩
  · simp [Value.ownBlock] at hs
  · simp [Value.ownBlock] at hs
    subst hs
    rw [hgg] at ho; cases ho; rfl
theorem infoIntB : (Try.prog.info? 3).map (fun i => (i.zero, i.size, i.bytes)) = some (some (.int .i64 0), 1, 8) := by kernel_rfl
theorem op_loadS {ρ : Operand → Value} {o : Oper} {x : Operand} {w : World} {B off : Nat} {v : Value} (h : o.op = .load 81 x) (hx : ρ x = .pointer (some ⟨B, off, none⟩)) (hc : w.cell? ⟨B, off, none⟩ = some v) : (execOp ρ o).run Try.prog w = .ok (.value v) w := by
  simp only [execOp, h, hx]
  simp [go_sem, hc]
theorem op_loadI {ρ : Operand → Value} {o : Oper} {x : Operand} {w : World} {B off : Nat} {v : Value} (h : o.op = .load 3 x) (hx : ρ x = .pointer (some ⟨B, off, none⟩)) (hc : w.cell? ⟨B, off, none⟩ = some v) : (execOp ρ o).run Try.prog w = .ok (.value v) w := by
  simp only [execOp, h, hx]
  simp [go_sem, hc]
theorem op_field0 {ρ : Operand → Value} {o : Oper} {x : Operand} {w : World} {B : Nat} (h : o.op = .fieldAddr 27 x 0) (hx : ρ x = .pointer (some ⟨B, 0, none⟩)) : (execOp ρ o).run Try.prog w = .ok (.value (.pointer (some ⟨B, 0, none⟩))) w := by
  simp only [execOp, h, hx]
  simp [go_sem]
theorem op_field1 {ρ : Operand → Value} {o : Oper} {x : Operand} {w : World} {B : Nat} (h : o.op = .fieldAddr 27 x 1) (hx : ρ x = .pointer (some ⟨B, 0, none⟩)) : (execOp ρ o).run Try.prog w = .ok (.value (.pointer (some ⟨B, 1, none⟩))) w := by
  simp only [execOp, h, hx]
  simp [go_sem]
theorem op_lit {ρ : Operand → Value} {o : Oper} {x : Operand} {w : World} {z : Int} (h : o.op = .buildSlice 81 1 #[(0, x)]) (hx : ρ x = .int .i64 z) : (execOp ρ o).run Try.prog w = .ok (.value (.slice (some ⟨w.heap.size, 0, none⟩) 1 1)) (w.alloc (.cells #[.int .i64 z] 3)) := by
  simp only [execOp, h]
  simp [go_sem, hx]
theorem op_storeS {ρ : Operand → Value} {o : Oper} {x y : Operand} {w : World} {B n c : Nat} {p : Option Addr} {v v0 : Value} (h : o.op = .store 81 x y) (hx : ρ x = .pointer (some ⟨B, 0, none⟩)) (hv : v = .slice p n c) (hy : ρ y = v) (hc : w.cell? ⟨B, 0, none⟩ = some v0) (hf : w.frozen? ⟨B, 0, none⟩ = false) : (execOp ρ o).run Try.prog w = .ok .skip (w.setCell ⟨B, 0, none⟩ v) := by
  subst hv
  simp only [execOp, h, hx, hy]
  simp [go_sem, hc, hf]
theorem emptyA_calls (b : Bx) (w : World) : Calls Try.prog 48 #[bxV b] w fun e w' => e = .returned (.bool (emptyB b)) ∧ Kp [] w w' := by
  rw [show bxV b = .agg #[.int .i64 b.x0, .int .i64 b.y0, .int .i64 b.x1, .int .i64 b.y1] from rfl]
  cases h1 : decide (b.x1 ≤ b.x0) with
  | true =>
    have HE : Hid (emptyB b = true) := by show _ = _; unfold emptyB; rw [h1]; rfl
    rw [HE.out]
    go_enter Try.func48, Try.ntmps48
    go_wp2_with fail
    go_ret
    exact ⟨rfl, by (repeat (first | exact Kp.refl _ _ | assumption | refine Kp.drew ?_ | refine Kp.drewN ?_ _ | refine Kp.alloc ?_ _ | (refine Kp.setCell ?_ (by first | (left; simp; done) | (right; simp; try omega)) _) | (refine Kp.trans' ?_ (by assumption) (by simp; try omega))))⟩
  | false =>
    have HE : Hid (emptyB b = decide (b.y1 ≤ b.y0)) := by show _ = _; unfold emptyB; rw [h1]; rfl
    rw [HE.out]
    go_enter Try.func48, Try.ntmps48
    go_wp2_with fail
    go_ret
    exact ⟨rfl, by (repeat (first | exact Kp.refl _ _ | assumption | refine Kp.drew ?_ | refine Kp.drewN ?_ _ | refine Kp.alloc ?_ _ | (refine Kp.setCell ?_ (by first | (left; simp; done) | (right; simp; try omega)) _) | (refine Kp.trans' ?_ (by assumption) (by simp; try omega))))⟩
theorem putKp (W : World) (D : Nat) (o : Obj) : Kp [D] W (W.putObj D o) := Kp.grown (Kp.refl _ _) (grownBy_putObj' _ D o) (fun k hk => .inl (by cases hk; simp))
theorem BxAt.set {W : World} {B : Nat} {b : Bx} (h : BxAt W B b) (c : Bx) : BxAt ((((W.setCell ⟨B, 0, none⟩ (.int .i64 c.x0)).setCell ⟨B, 1, none⟩ (.int .i64 c.y0)).setCell ⟨B, 2, none⟩ (.int .i64 c.x1)).setCell ⟨B, 3, none⟩ (.int .i64 c.y1)) B c :=
  heap_setCell_same _ B 3 _ _ _ (heap_setCell_same _ B 2 _ _ _ (heap_setCell_same _ B 1 _ _ _ (heap_setCell_same W B 0 _ _ _ h)))
theorem set4Kp (W : World) (B : Nat) (a b c d : Value) : Kp [B] W ((((W.setCell ⟨B, 0, none⟩ a).setCell ⟨B, 1, none⟩ b).setCell ⟨B, 2, none⟩ c).setCell ⟨B, 3, none⟩ d) :=
  ((((Kp.refl _ _).setCell (.inl (by simp)) _).setCell (.inl (by simp)) _).setCell (.inl (by simp)) _).setCell (.inl (by simp)) _
theorem op_fieldB {ρ : Operand → Value} {o : Oper} {x : Operand} {w : World} {B : Nat} (k : Nat) (hk : k < 4) (h : o.op = .fieldAddr 48 x k) (hx : ρ x = .pointer (some ⟨B, 0, none⟩)) : (execOp ρ o).run Try.prog w = .ok (.value (.pointer (some ⟨B, k, none⟩))) w := by
  simp only [execOp, h, hx]
  rcases k with _ | _ | _ | _ | k
  · simp [go_sem]
  · simp [go_sem]
  · simp [go_sem]
  · simp [go_sem]
  · omega
theorem op_buildB {ρ : Operand → Value} {o : Oper} {x0 x1 x2 x3 : Operand} {w : World} {a b c d : Int} (h : o.op = .build 48 #[(0, x0), (1, x1), (2, x2), (3, x3)]) (h0 : ρ x0 = .int .i64 a) (h1 : ρ x1 = .int .i64 b) (h2 : ρ x2 = .int .i64 c) (h3 : ρ x3 = .int .i64 d) : (execOp ρ o).run Try.prog w = .ok (.value (.agg #[.int .i64 a, .int .i64 b, .int .i64 c, .int .i64 d])) w := by
  simp only [execOp, h]
  simp [go_sem, h0, h1, h2, h3]
theorem op_allocB {ρ : Operand → Value} {o : Oper} {w : World} (h : o.op = .alloc 48) : (execOp ρ o).run Try.prog w = .ok (.value (.pointer (some ⟨w.heap.size, 0, none⟩))) (w.alloc (.cells #[.int .i64 0, .int .i64 0, .int .i64 0, .int .i64 0] 48)) := by
  simp only [execOp, h]
  simp [go_sem]
theorem op_storeB {ρ : Operand → Value} {o : Oper} {x y : Operand} {w : World} {B : Nat} {c b : Bx} (h : o.op = .store 48 x y) (hx : ρ x = .pointer (some ⟨B, 0, none⟩)) (hy : ρ y = .agg #[.int .i64 c.x0, .int .i64 c.y0, .int .i64 c.x1, .int .i64 c.y1]) (hb : BxAt w B b) : (execOp ρ o).run Try.prog w = .ok .skip ((((w.setCell ⟨B, 0, none⟩ (.int .i64 c.x0)).setCell ⟨B, 1, none⟩ (.int .i64 c.y0)).setCell ⟨B, 2, none⟩ (.int .i64 c.x1)).setCell ⟨B, 3, none⟩ (.int .i64 c.y1)) := by
  obtain ⟨c0, c1, c2, c3⟩ := hb.cells
  have hb' : w.heap[B]? = _ := hb
  have f0 := frozen_of_row w B 0 _ _ hb'
  have f1 := frozen_of_row w B 1 _ _ hb'
  have f2 := frozen_of_row w B 2 _ _ hb'
  have f3 := frozen_of_row w B 3 _ _ hb'
  simp only [execOp, h, hx, hy]
  simp [go_sem, c0, c1, c2, c3, f0, f1, f2, f3]
theorem op_call1 {ρ : Operand → Value} {o : Oper} {x : Operand} {t : TypeId} {w : World} {k : Nat} {v : Value} (h : o.op = .call { callee := .value (.func k), args := #[x], argTypes := #[t] }) (hx : ρ x = v) (hf : ρ (.func k) = .func (.func k) #[] #[]) (he : ∀ args w, (callFunc k args).run Try.prog w = .ok (.enter k args) w) : (execOp ρ o).run Try.prog w = .ok (.enter k #[v]) w := by
  simp only [execOp, h, resolve, hf]
  simp [Deferred.ofValue, invoke, he, hx, go_sem]
structure BoJ (w : World) (A H Dd : Nat) (h : Bx) (D : Nat → Prop) (W : World) (t10 t40 t41 t42 t43 t44 t45 t46 t47 t48 t49 t50 t51 t52 : Value) (Bq : Nat) : Prop where
  e40 : D 0 → t40 = .pointer (some ⟨H, 0, none⟩)
  e41 : D 1 → t41 = .int .i64 h.x0
  e42 : D 2 → t42 = .int .i64 (boxH h).x0
  e43 : D 3 → t43 = .pointer (some ⟨H, 1, none⟩)
  e44 : D 4 → t44 = .int .i64 h.y0
  e45 : D 5 → t45 = .int .i64 (boxH h).y0
  e46 : D 6 → t46 = .pointer (some ⟨H, 2, none⟩)
  e47 : D 7 → t47 = .int .i64 h.x1
  e48 : D 8 → t48 = .int .i64 (boxH h).x1
  e49 : D 9 → t49 = .pointer (some ⟨H, 3, none⟩)
  e50 : D 10 → t50 = .int .i64 h.y1
  e51 : D 11 → t51 = .int .i64 (boxH h).y1
  e52 : D 12 → t52 = bxV (boxH h)
  a13 : D 13 → t10 = .pointer (some ⟨Bq, 0, none⟩) ∧ A ≠ Bq ∧ H ≠ Bq ∧ Dd ≠ Bq ∧ w.heap.size ≤ Bq
  b0 : D 13 → ¬ D 14 → BxAt W Bq ⟨0, 0, 0, 0⟩
  b1 : D 14 → BxAt W Bq (boxH h)
  p14 : D 14 → D 13
  hb : BxAt W H h
  res : BxAt W A ⟨0, 0, 0, 0⟩
  dfr : W.heap[Dd]? = some (.deferred (some []))
  kp : Kp [] w W
def fnumB4 (b : Bx) : Prop := numF b.x0 = true ∧ numF b.y0 = true ∧ numF b.x1 = true ∧ numF b.y1 = true
theorem fnumF_min {a b : Int} (h1 : numF a = true) (h2 : numF b = true) : numF (min a b) = true := by rw [numF_iff] at *; omega
theorem fnumF_max {a b : Int} (h1 : numF a = true) (h2 : numF b = true) : numF (max a b) = true := by rw [numF_iff] at *; omega
theorem fhullB_num (xs ys : List Int) (nx : numsI xs) (ny : numsI ys) (hl : xs.length = ys.length) : ∀ n, n ≤ xs.length → fnumB4 (hullB xs ys n) := by
  intro n
  induction n with
  | zero => intro _; exact ⟨rfl, rfl, rfl, rfl⟩
  | succ n ih =>
    intro h
    have hx := nx n (by omega)
    have hy := ny n (by omega)
    by_cases h0 : n = 0
    · subst h0
      rw [hullB_one]
      exact ⟨hx, hy, hx, hy⟩
    · obtain ⟨a, b, c, d⟩ := ih (by omega)
      rw [hullB_succ _ _ _ h0]
      exact ⟨fnumF_min a hx, fnumF_min b hy, fnumF_max c hx, fnumF_max d hy⟩
set_option maxRecDepth 100000 in
set_option maxHeartbeats 4000000 in
theorem fbox_ok (v : Value) (L : List (List (Int × Int))) (w : World) (hv : IsFl w v L) (hs : smF L) (hm : mayF L = 0) : Calls Try.prog 21 #[v] w fun e w' => e = .returned (.tuple #[bxV (boxF L).1, .int .i64 (boxF L).2]) ∧ Kp [] w w' := by
  have HMY := Lib.hid (fun W (hk : Kp [] w W) => fmay_flat v L W (hv.kp0 hk) hs)
  rw [hm] at HMY
  have HV := Lib.hid hv
  have HST := Lib.hid (fun Bc W (hk : Kp [] w W) (hB : W.cell? ⟨Bc, 0, none⟩ = some v) => all_stopsR 4 (by decide) Bc v L w W hv hk hB (KeepW w) (fun A B h k => k h))
  have HTL := Lib.hid (mayF_facts hm)
  obtain ⟨pa, ca, rfl⟩ := hv.form
  have HBF := Lib.hid (boxF_ok L hm)
  generalize boxF L = RES at *
  obtain ⟨T, hT⟩ : ∃ T, flTo L L.length = T := ⟨_, rfl⟩
  rw [hT] at HST HTL HBF
  obtain ⟨N, hN⟩ : ∃ N, L.length = N := ⟨_, rfl⟩
  rw [hN] at HV HST HMY ⊢
  clear hv hs hm hT hN
  refine (callsIn_wide (n := 5)).1 ?_
  refine callsIn_of_wp_marks Try.func21 rfl trivial ?_ rfl
  simp only [Try.ntmps21, List.size_toArray, List.length_cons, List.length_nil, Nat.reduceAdd, Nat.reduceSub, Array.replicate_succ, Array.replicate_zero, List.push_toArray, List.append_toArray, List.nil_append, List.cons_append]
  gi_wp2_with (refine ⟨trivial, ?_⟩; gi_at_call 19; refine (callsIn_wide.2 (HMY.out _ (by (repeat (first | exact Kp.refl _ _ | assumption | refine Kp.drew ?_ | refine Kp.drewN ?_ _ | refine Kp.alloc ?_ _ | (refine Kp.setCell ?_ (by first | (left; simp; done) | (right; simp; try omega)) _) | (refine Kp.trans' ?_ (by assumption) (by simp; try omega))))))).mono ?_; rintro e w1 ⟨rfl, hk1⟩; have HK1 := Lib.hid hk1; clear hk1)
  have HB1 : Hid (BxAt w1 w.heap.size ⟨0, 0, 0, 0⟩) := HK1.out.heap (heap_alloc_new w _) (by simp)
  have HKW : Hid (Kp [] w w1) := Kp.trans (by (repeat (first | exact Kp.refl _ _ | assumption | refine Kp.drew ?_ | refine Kp.drewN ?_ _ | refine Kp.alloc ?_ _ | (refine Kp.setCell ?_ (by first | (left; simp; done) | (right; simp; try omega)) _) | (refine Kp.trans' ?_ (by assumption) (by simp; try omega))))) HK1.out
  clear HK1 HMY
  gi_wp2_with (refine ⟨trivial, ?_⟩; gi_at_call 44; refine (callsIn_wide.2 (all_calls _ _ _ _ _ rfl)).mono ?_; rintro e w2 ⟨rfl, hw2⟩; have HW2 := Lib.hid hw2; clear hw2)
  have hw2 := HW2.out
  obtain ⟨q1, q2, q3⟩ := three_heap (w := w1) (A := .cells #[.slice none 0 0] 81) (B := .cells #[.slice none 0 0] 81) (C := .cells #[.slice pa N ca] 39) rfl
  rw [← hw2] at q1 q2 q3
  have hk2 : Kp [] w1 w2 := by rw [hw2]; (repeat (first | exact Kp.refl _ _ | assumption | refine Kp.drew ?_ | refine Kp.drewN ?_ _ | refine Kp.alloc ?_ _ | (refine Kp.setCell ?_ (by first | (left; simp; done) | (right; simp; try omega)) _) | (refine Kp.trans' ?_ (by assumption) (by simp; try omega))))
  have hsz2 : w2.heap.size = w1.heap.size + 1 + 1 + 1 := by rw [hw2]; simp
  have hAX : w.heap.size < w1.heap.size := lt_of_block HB1.out
  have HI0 : Hid (BoSt w w2 w.heap.size w1.heap.size []) := ⟨rfl, hk2.heap HB1.out (by simp), hAX, ⟨_, _, q1, q2, TwoR.nil _ _ _⟩, by omega, HKW.out.trans hk2⟩
  have HST1 := Lib.hid (HST.out (w1.heap.size + 1 + 1) w2 HI0.out.2.2.2.2.2 (by rw [cell_of_row w2 _ 0 _ _ _ q3]; rfl))
  clear hw2 HW2 q1 q2 q3 hk2 HST HV HB1 HKW
  generalize hA : w.heap.size = A at *
  have HA := Lib.hid hA
  generalize w1.heap.size = X at *
  have HAX := Lib.hid hAX
  refine wpIn_rangeFunc_ownH rfl (by decide) (gf := 65) (lb := #[.pointer (some ⟨X + 1 + 1, 0, none⟩)]) rfl trivial (enters_of Try.func65 (by kernel_rfl) rfl)
    HST1.out (fun h1 h2 k => h2 (h1 k)) (fun W l o o' hl ho hc hw k => Kp.grown k (grownBy_putObj' _ l o') (fun r hr => .inr (by cases hr; omega))) (Below.refl _ _) (fun _ => rfl)
    (fun pre W => BoSt w W A X pre) (fun _ _ _ => False) (BoSt.own (by omega)) (fun _ => fun _ _ _ _ h => h.elim) HI0.out
    (fun x a' W => ∃ Bx, w2.heap.size ≤ Bx ∧ DotAt W Bx x ∧ a' = { tmps := #[.slice pa N ca, undef, .pointer (some ⟨A, 0, none⟩), .int .i64 0, .int .i64 0, .pointer (some ⟨X, 0, none⟩), .pointer (some ⟨X + 1, 0, none⟩), .pointer (some ⟨Bx, 0, none⟩), undef, undef, undef, .slice pa N ca, .int .i64 0, .int .i64 0, .bool false, undef, undef, .slice pa N ca, .func (.func 65) #[] #[.pointer (some ⟨X + 1 + 1, 0, none⟩)], .agg #[.int .i64 x.1, .int .i64 x.2], undef, undef, undef, undef, undef, undef, undef, undef, undef, undef, undef, undef, undef, undef, undef, undef, undef, undef, undef, undef, undef, undef, undef, undef, undef, undef, undef, undef, undef, undef, undef, undef, undef, undef, undef, undef, undef], defers := [] })
    (fun x a' s W W' row hs hg hr => by obtain ⟨Bx, h1, h2, h3⟩ := hs; exact ⟨Bx, h1, blkKept hg hr h2, h3⟩) ?assign ?body ?done ?stop
  case assign =>
    intro l pre x W K hi hK
    have HI := Lib.hid hi
    have hszW : w2.heap.size ≤ W.heap.size := by
      have := hi.2.2.2.2.1
      omega
    clear hi
    simp only [dotV]
    gi_wp2
    exact hK _ _ ((KeepsOthers.alloc _ _).from _) (fun k => k.alloc _) (HI.out.kp ((Kp.refl _ _).alloc _)) ⟨W.heap.size, hszW, heap_alloc_new W _, rfl⟩
  case body =>
    rintro l pre x a' W hl ⟨rr, hr⟩ hI ⟨Bx, hBx, hD, rfl⟩ hlt
    obtain ⟨x1, x2⟩ := x
    obtain ⟨i1, i2, i3, ⟨vx, vy, i4, i5, i6⟩, i10, i9⟩ := hI
    have hBX : X + 1 + 1 + 1 ≤ Bx := by omega
    have HLN : Hid (pre.length ≤ 65536) := by have := HTL.out.1; show _ ≤ _; omega
    obtain ⟨xs, hxs⟩ : ∃ xs, fX pre = xs := ⟨_, rfl⟩
    obtain ⟨ys, hys⟩ : ∃ ys, fY pre = ys := ⟨_, rfl⟩
    have HXS : Hid (fX (pre ++ [(x1, x2)]) = xs ++ [x1] ∧ xs.length ≤ 65536) := ⟨by rw [← hxs]; simp [fX], by rw [← hxs]; have := HLN.out; simpa [fX] using this⟩
    have HYS : Hid (fY (pre ++ [(x1, x2)]) = ys ++ [x2] ∧ ys.length ≤ 65536) := ⟨by rw [← hys]; simp [fY], by rw [← hys]; have := HLN.out; simpa [fY] using this⟩
    rw [hxs, hys] at i6
    have HB0 : Hid (BoI w W A X Bx vx vy xs ys x1 x2 (fun _ => False) W.drew undef undef undef undef undef undef undef undef undef undef vx xs vy ys) := by
      have hkd : Kp [] W W.drew := (Kp.refl _ _).drew
      exact ⟨fun h => h.elim, fun h => h.elim, fun h => h.elim, fun h => h.elim, fun h => h.elim, fun h => h.elim, i6.kp0 hkd, fun h => h.elim, fun _ => ⟨rfl, rfl⟩, fun h => h.elim, fun _ => ⟨rfl, rfl⟩, fun h => h.elim, fun h => h.elim, fun h => h.elim, fun _ => i4, fun h => h.elim, fun _ => i5, fun h => h.elim, fun h => h.elim, fun h => h.elim, fun h => h.elim, hD, i2, hkd.keeps, i9.trans hkd, i10⟩
    have i1' := i1
    clear hxs hys i1 i4 i5 i6 hD hr hlt HLN
    gi_wp2
    refine wpIn_region_invG (by kernel_rfl) (by kernel_rfl) (fun D a W' => ∃ t20 t21 t22 t23 t24 t25 t26 t27 t28 t29 cx xs2 cy ys2, a = { tmps := ((.slice pa N ca : Value) :: (undef) :: (.pointer (some ⟨A, 0, none⟩)) :: (.int .i64 0) :: (.int .i64 0) :: (.pointer (some ⟨X, 0, none⟩)) :: (.pointer (some ⟨X + 1, 0, none⟩)) :: (.pointer (some ⟨Bx, 0, none⟩)) :: (undef) :: (undef) :: (undef) :: (.slice pa N ca) :: (.int .i64 0) :: (.int .i64 0) :: (.bool false) :: (undef) :: (undef) :: (.slice pa N ca) :: (.func (.func 65) #[] #[.pointer (some ⟨X + 1 + 1, 0, none⟩)]) :: (.agg #[.int .i64 x1, .int .i64 x2]) :: (t20) :: (t21) :: (t22) :: (t23) :: (t24) :: (t25) :: (t26) :: (t27) :: (t28) :: (t29) :: (undef) :: (undef) :: (undef) :: (undef) :: (undef) :: (undef) :: (undef) :: (undef) :: (undef) :: (undef) :: (undef) :: (undef) :: (undef) :: (undef) :: (undef) :: (undef) :: (undef) :: (undef) :: (undef) :: (undef) :: (undef) :: (undef) :: (undef) :: (undef) :: (undef) :: (undef) :: (undef) :: []).toArray, defers := [] } ∧ BoI w W A X Bx vx vy xs ys x1 x2 D W' t20 t21 t22 t23 t24 t25 t26 t27 t28 t29 cx xs2 cy ys2) ?_ ?_ ?_
    · exact ⟨_, _, _, _, _, _, _, _, _, _, _, _, _, _, rfl, HB0.out⟩
    · rintro D a' W' j o ho ⟨t20, t21, t22, t23, t24, t25, t26, t27, t28, t29, cx, xs2, cy, ys2, rfl, hB⟩ hn hd
      rcases j with _ | _ | _ | _ | _ | _ | _ | _ | _ | _ | _ | _ | j
      · obtain rfl := Option.some.inj ho
        have c0 := (hB.b10n (fun h => hn (hB.p10 h).1)).cell
        refine wpOpIn_of_plainG rfl (plain_load _ _ rfl) ?_
        refine wpOp_value rfl rfl (op_loadS rfl rfl c0) ?_
        exact ⟨vx, t21, t22, t23, t24, t25, t26, t27, t28, t29, cx, xs2, cy, ys2, rfl, ⟨fun _ => rfl, fun h => hB.e21 (h.resolve_left (by decide)), fun h => hB.e22 (h.resolve_left (by decide)), fun h => hB.e25 (h.resolve_left (by decide)), fun h => hB.e26 (h.resolve_left (by decide)), fun h => hB.e27 (h.resolve_left (by decide)), hB.two, fun h => hB.x4 (h.resolve_left (by decide)), fun h => hB.x4n (fun h1 => h (.inr h1)), fun h => hB.y9 (h.resolve_left (by decide)), fun h => hB.y9n (fun h1 => h (.inr h1)), fun h h2 => hB.l3 (h.resolve_left (by decide)) (fun h1 => h2 (.inr h1)), fun h h2 => hB.l8 (h.resolve_left (by decide)) (fun h1 => h2 (.inr h1)), fun h => hB.b10 (h.resolve_left (by decide)), fun h => hB.b10n (fun h1 => h (.inr h1)), fun h => hB.b11 (h.resolve_left (by decide)), fun h => hB.b11n (fun h1 => h (.inr h1)), fun h => .inr (hB.p4 (h.resolve_left (by decide))), fun h => .inr (hB.p9 (h.resolve_left (by decide))), fun h => ⟨.inr (hB.p10 (h.resolve_left (by decide))).1, .inr (hB.p10 (h.resolve_left (by decide))).2⟩, fun h => ⟨.inr (hB.p11 (h.resolve_left (by decide))).1, .inr (hB.p11 (h.resolve_left (by decide))).2⟩, hB.dot, hB.res, hB.keep, hB.kp, hB.size⟩⟩
      · obtain rfl := Option.some.inj ho
        refine wpOpIn_of_plainG rfl (plain_field _ _ _ rfl) ?_
        refine wpOp_value rfl rfl (op_field0 rfl rfl) ?_
        exact ⟨t20, .pointer (some ⟨Bx, 0, none⟩), t22, t23, t24, t25, t26, t27, t28, t29, cx, xs2, cy, ys2, rfl, ⟨fun h => hB.e20 (h.resolve_left (by decide)), fun _ => rfl, fun h => hB.e22 (h.resolve_left (by decide)), fun h => hB.e25 (h.resolve_left (by decide)), fun h => hB.e26 (h.resolve_left (by decide)), fun h => hB.e27 (h.resolve_left (by decide)), hB.two, fun h => hB.x4 (h.resolve_left (by decide)), fun h => hB.x4n (fun h1 => h (.inr h1)), fun h => hB.y9 (h.resolve_left (by decide)), fun h => hB.y9n (fun h1 => h (.inr h1)), fun h h2 => hB.l3 (h.resolve_left (by decide)) (fun h1 => h2 (.inr h1)), fun h h2 => hB.l8 (h.resolve_left (by decide)) (fun h1 => h2 (.inr h1)), fun h => hB.b10 (h.resolve_left (by decide)), fun h => hB.b10n (fun h1 => h (.inr h1)), fun h => hB.b11 (h.resolve_left (by decide)), fun h => hB.b11n (fun h1 => h (.inr h1)), fun h => .inr (hB.p4 (h.resolve_left (by decide))), fun h => .inr (hB.p9 (h.resolve_left (by decide))), fun h => ⟨.inr (hB.p10 (h.resolve_left (by decide))).1, .inr (hB.p10 (h.resolve_left (by decide))).2⟩, fun h => ⟨.inr (hB.p11 (h.resolve_left (by decide))).1, .inr (hB.p11 (h.resolve_left (by decide))).2⟩, hB.dot, hB.res, hB.keep, hB.kp, hB.size⟩⟩
      · obtain rfl := Option.some.inj ho
        have e1 := hB.e21 (hd ⟨1, .data⟩ (by simp) rfl)
        subst e1
        obtain ⟨c0, c1, _, _⟩ := DtAt.cells (show DtAt W' Bx x1 x2 from hB.dot)
        refine wpOpIn_of_plainG rfl (plain_load _ _ rfl) ?_
        refine wpOp_value rfl rfl (op_loadI rfl rfl c0) ?_
        exact ⟨t20, .pointer (some ⟨Bx, 0, none⟩), .int .i64 x1, t23, t24, t25, t26, t27, t28, t29, cx, xs2, cy, ys2, rfl, ⟨fun h => hB.e20 (h.resolve_left (by decide)), fun h => hB.e21 (h.resolve_left (by decide)), fun _ => rfl, fun h => hB.e25 (h.resolve_left (by decide)), fun h => hB.e26 (h.resolve_left (by decide)), fun h => hB.e27 (h.resolve_left (by decide)), hB.two, fun h => hB.x4 (h.resolve_left (by decide)), fun h => hB.x4n (fun h1 => h (.inr h1)), fun h => hB.y9 (h.resolve_left (by decide)), fun h => hB.y9n (fun h1 => h (.inr h1)), fun h h2 => hB.l3 (h.resolve_left (by decide)) (fun h1 => h2 (.inr h1)), fun h h2 => hB.l8 (h.resolve_left (by decide)) (fun h1 => h2 (.inr h1)), fun h => hB.b10 (h.resolve_left (by decide)), fun h => hB.b10n (fun h1 => h (.inr h1)), fun h => hB.b11 (h.resolve_left (by decide)), fun h => hB.b11n (fun h1 => h (.inr h1)), fun h => .inr (hB.p4 (h.resolve_left (by decide))), fun h => .inr (hB.p9 (h.resolve_left (by decide))), fun h => ⟨.inr (hB.p10 (h.resolve_left (by decide))).1, .inr (hB.p10 (h.resolve_left (by decide))).2⟩, fun h => ⟨.inr (hB.p11 (h.resolve_left (by decide))).1, .inr (hB.p11 (h.resolve_left (by decide))).2⟩, hB.dot, hB.res, hB.keep, hB.kp, hB.size⟩⟩
      · obtain rfl := Option.some.inj ho
        have e1 := hB.e22 (hd ⟨2, .data⟩ (by simp) rfl)
        subst e1
        have hk0 : Kp [] W' (W'.alloc (.cells #[.int .i64 x1] 3)) := (Kp.refl _ _).alloc _
        refine wpOpIn_of_plainG rfl (plain_buildSlice _ _ _ rfl) ?_
        refine wpOp_value rfl rfl (op_lit rfl rfl) ?_
        exact ⟨t20, t21, .int .i64 x1, .slice (some ⟨W'.heap.size, 0, none⟩) 1 1, t24, t25, t26, t27, t28, t29, cx, xs2, cy, ys2, rfl, ⟨fun h => hB.e20 (h.resolve_left (by decide)), fun h => hB.e21 (h.resolve_left (by decide)), fun h => hB.e22 (h.resolve_left (by decide)), fun h => hB.e25 (h.resolve_left (by decide)), fun h => hB.e26 (h.resolve_left (by decide)), fun h => hB.e27 (h.resolve_left (by decide)), (hB.two).kp0 hk0, fun h => hB.x4 (h.resolve_left (by decide)), fun h => hB.x4n (fun h1 => h (.inr h1)), fun h => hB.y9 (h.resolve_left (by decide)), fun h => hB.y9n (fun h1 => h (.inr h1)), fun _ _ => LitAt.new hB.two hB.size, fun h h2 => (hB.l8 (h.resolve_left (by decide)) (fun h1 => h2 (.inr h1))).kp hk0 (by simp), fun h => Boxed.kp (hB.b10 (h.resolve_left (by decide))) hk0, fun h => Boxed.kp (hB.b10n (fun h1 => h (.inr h1))) hk0, fun h => Boxed.kp (hB.b11 (h.resolve_left (by decide))) hk0, fun h => Boxed.kp (hB.b11n (fun h1 => h (.inr h1))) hk0, fun h => .inr (hB.p4 (h.resolve_left (by decide))), fun h => .inr (hB.p9 (h.resolve_left (by decide))), fun h => ⟨.inr (hB.p10 (h.resolve_left (by decide))).1, .inr (hB.p10 (h.resolve_left (by decide))).2⟩, fun h => ⟨.inr (hB.p11 (h.resolve_left (by decide))).1, .inr (hB.p11 (h.resolve_left (by decide))).2⟩, hk0.heap hB.dot (by simp), hB.res.kp hk0 (by simp), hB.keep.trans hk0.keeps, hB.kp.trans hk0, Nat.le_trans hB.size hk0.size⟩⟩
      · obtain rfl := Option.some.inj ho
        obtain ⟨e1, e2⟩ := hB.x4n hn
        subst e1; subst e2
        have e3 := hB.e20 (hd ⟨0, .data⟩ (by simp) rfl)
        subst e3
        obtain ⟨G, e4, hG, hGc, hG1, hG2⟩ := hB.l3 (hd ⟨3, .data⟩ (by simp) rfl) hn
        subst e4
        have hgc : W'.cell? ⟨G, 0, none⟩ = some (.int .i64 x1) := by rw [cell_of_row W' G 0 _ _ _ hGc]; rfl
        have hln := HXS.out.2
        have hsz := hB.size
        have hOW0 := own_cells (hB.two.1)
        have hND := own_not_dot (hB.two.1) hB.dot
        have hOG := own_ge (hB.two.1)
        refine wpOpIn_of_plainG rfl (plain_append _ _ rfl) ?_
        refine wpOp_step rfl (fun K' hK' => ?_)
        refine step_appJ rfl _ _ 81 rfl (X + 1 + 1 + 1) 3 Try.underlying81 infoIntB t20 xs2 _ rfl rfl (hB.two.1) G 1 x1 rfl hgc (by omega) (by omega) ?_
        intro g c w' htw hkw hk hb
        exact hK' _ _ ⟨_, _, _, _, _, _, _, _, _, _, _, _, cy, ys2, rfl, ⟨fun h => hB.e20 (h.resolve_left (by decide)), fun h => hB.e21 (h.resolve_left (by decide)), fun h => hB.e22 (h.resolve_left (by decide)), fun h => hB.e25 (h.resolve_left (by decide)), fun h => hB.e26 (h.resolve_left (by decide)), fun h => hB.e27 (h.resolve_left (by decide)), htw _ _ hB.two, fun _ => ⟨rfl, rfl⟩, fun h => absurd (.inl rfl) h, fun h => hB.y9 (h.resolve_left (by decide)), fun h => hB.y9n (fun h1 => h (.inr h1)), fun _ h2 => absurd (.inl rfl) h2, fun h h2 => (hB.l8 (h.resolve_left (by decide)) (fun h1 => h2 (.inr h1))).app hk hb, fun h => absurd (hB.p10 (h.resolve_left (by decide))).2 hn, fun h => hk.heap (hB.b10n (fun h1 => h (.inr h1))) (fun hs => by have := hOG _ (by simpa using hs); omega), fun h => hk.heap (hB.b11 (h.resolve_left (by decide))) (fun hs => by have := hOG _ (by simpa using hs); omega), fun h => hk.heap (hB.b11n (fun h1 => h (.inr h1))) (fun hs => by have := hOG _ (by simpa using hs); omega), fun _ => .inr (hd ⟨0, .data⟩ (by simp) rfl), fun h => .inr (hB.p9 (h.resolve_left (by decide))), fun h => ⟨.inr (hB.p10 (h.resolve_left (by decide))).1, .inr (hB.p10 (h.resolve_left (by decide))).2⟩, fun h => ⟨.inr (hB.p11 (h.resolve_left (by decide))).1, .inr (hB.p11 (h.resolve_left (by decide))).2⟩, hk.heap hB.dot (fun hs => hND (by simpa using hs)), hB.res.kp hk (fun hs => by have := hOG _ (by simpa using hs); omega), hB.keep.trans (keepsOwn hk hOW0), hkw w (by omega) hB.kp, Nat.le_trans hB.size hk.size⟩⟩
      · obtain rfl := Option.some.inj ho
        have c0 := (hB.b11n (fun h => hn (hB.p11 h).1)).cell
        refine wpOpIn_of_plainG rfl (plain_load _ _ rfl) ?_
        refine wpOp_value rfl rfl (op_loadS rfl rfl c0) ?_
        exact ⟨t20, t21, t22, t23, t24, vy, t26, t27, t28, t29, cx, xs2, cy, ys2, rfl, ⟨fun h => hB.e20 (h.resolve_left (by decide)), fun h => hB.e21 (h.resolve_left (by decide)), fun h => hB.e22 (h.resolve_left (by decide)), fun _ => rfl, fun h => hB.e26 (h.resolve_left (by decide)), fun h => hB.e27 (h.resolve_left (by decide)), hB.two, fun h => hB.x4 (h.resolve_left (by decide)), fun h => hB.x4n (fun h1 => h (.inr h1)), fun h => hB.y9 (h.resolve_left (by decide)), fun h => hB.y9n (fun h1 => h (.inr h1)), fun h h2 => hB.l3 (h.resolve_left (by decide)) (fun h1 => h2 (.inr h1)), fun h h2 => hB.l8 (h.resolve_left (by decide)) (fun h1 => h2 (.inr h1)), fun h => hB.b10 (h.resolve_left (by decide)), fun h => hB.b10n (fun h1 => h (.inr h1)), fun h => hB.b11 (h.resolve_left (by decide)), fun h => hB.b11n (fun h1 => h (.inr h1)), fun h => .inr (hB.p4 (h.resolve_left (by decide))), fun h => .inr (hB.p9 (h.resolve_left (by decide))), fun h => ⟨.inr (hB.p10 (h.resolve_left (by decide))).1, .inr (hB.p10 (h.resolve_left (by decide))).2⟩, fun h => ⟨.inr (hB.p11 (h.resolve_left (by decide))).1, .inr (hB.p11 (h.resolve_left (by decide))).2⟩, hB.dot, hB.res, hB.keep, hB.kp, hB.size⟩⟩
      · obtain rfl := Option.some.inj ho
        refine wpOpIn_of_plainG rfl (plain_field _ _ _ rfl) ?_
        refine wpOp_value rfl rfl (op_field1 rfl rfl) ?_
        exact ⟨t20, t21, t22, t23, t24, t25, .pointer (some ⟨Bx, 1, none⟩), t27, t28, t29, cx, xs2, cy, ys2, rfl, ⟨fun h => hB.e20 (h.resolve_left (by decide)), fun h => hB.e21 (h.resolve_left (by decide)), fun h => hB.e22 (h.resolve_left (by decide)), fun h => hB.e25 (h.resolve_left (by decide)), fun _ => rfl, fun h => hB.e27 (h.resolve_left (by decide)), hB.two, fun h => hB.x4 (h.resolve_left (by decide)), fun h => hB.x4n (fun h1 => h (.inr h1)), fun h => hB.y9 (h.resolve_left (by decide)), fun h => hB.y9n (fun h1 => h (.inr h1)), fun h h2 => hB.l3 (h.resolve_left (by decide)) (fun h1 => h2 (.inr h1)), fun h h2 => hB.l8 (h.resolve_left (by decide)) (fun h1 => h2 (.inr h1)), fun h => hB.b10 (h.resolve_left (by decide)), fun h => hB.b10n (fun h1 => h (.inr h1)), fun h => hB.b11 (h.resolve_left (by decide)), fun h => hB.b11n (fun h1 => h (.inr h1)), fun h => .inr (hB.p4 (h.resolve_left (by decide))), fun h => .inr (hB.p9 (h.resolve_left (by decide))), fun h => ⟨.inr (hB.p10 (h.resolve_left (by decide))).1, .inr (hB.p10 (h.resolve_left (by decide))).2⟩, fun h => ⟨.inr (hB.p11 (h.resolve_left (by decide))).1, .inr (hB.p11 (h.resolve_left (by decide))).2⟩, hB.dot, hB.res, hB.keep, hB.kp, hB.size⟩⟩
      · obtain rfl := Option.some.inj ho
        have e1 := hB.e26 (hd ⟨6, .data⟩ (by simp) rfl)
        subst e1
        obtain ⟨c0, c1, _, _⟩ := DtAt.cells (show DtAt W' Bx x1 x2 from hB.dot)
        refine wpOpIn_of_plainG rfl (plain_load _ _ rfl) ?_
        refine wpOp_value rfl rfl (op_loadI rfl rfl c1) ?_
        exact ⟨t20, t21, t22, t23, t24, t25, .pointer (some ⟨Bx, 1, none⟩), .int .i64 x2, t28, t29, cx, xs2, cy, ys2, rfl, ⟨fun h => hB.e20 (h.resolve_left (by decide)), fun h => hB.e21 (h.resolve_left (by decide)), fun h => hB.e22 (h.resolve_left (by decide)), fun h => hB.e25 (h.resolve_left (by decide)), fun h => hB.e26 (h.resolve_left (by decide)), fun _ => rfl, hB.two, fun h => hB.x4 (h.resolve_left (by decide)), fun h => hB.x4n (fun h1 => h (.inr h1)), fun h => hB.y9 (h.resolve_left (by decide)), fun h => hB.y9n (fun h1 => h (.inr h1)), fun h h2 => hB.l3 (h.resolve_left (by decide)) (fun h1 => h2 (.inr h1)), fun h h2 => hB.l8 (h.resolve_left (by decide)) (fun h1 => h2 (.inr h1)), fun h => hB.b10 (h.resolve_left (by decide)), fun h => hB.b10n (fun h1 => h (.inr h1)), fun h => hB.b11 (h.resolve_left (by decide)), fun h => hB.b11n (fun h1 => h (.inr h1)), fun h => .inr (hB.p4 (h.resolve_left (by decide))), fun h => .inr (hB.p9 (h.resolve_left (by decide))), fun h => ⟨.inr (hB.p10 (h.resolve_left (by decide))).1, .inr (hB.p10 (h.resolve_left (by decide))).2⟩, fun h => ⟨.inr (hB.p11 (h.resolve_left (by decide))).1, .inr (hB.p11 (h.resolve_left (by decide))).2⟩, hB.dot, hB.res, hB.keep, hB.kp, hB.size⟩⟩
      · obtain rfl := Option.some.inj ho
        have e1 := hB.e27 (hd ⟨7, .data⟩ (by simp) rfl)
        subst e1
        have hk0 : Kp [] W' (W'.alloc (.cells #[.int .i64 x2] 3)) := (Kp.refl _ _).alloc _
        refine wpOpIn_of_plainG rfl (plain_buildSlice _ _ _ rfl) ?_
        refine wpOp_value rfl rfl (op_lit rfl rfl) ?_
        exact ⟨t20, t21, t22, t23, t24, t25, t26, .int .i64 x2, .slice (some ⟨W'.heap.size, 0, none⟩) 1 1, t29, cx, xs2, cy, ys2, rfl, ⟨fun h => hB.e20 (h.resolve_left (by decide)), fun h => hB.e21 (h.resolve_left (by decide)), fun h => hB.e22 (h.resolve_left (by decide)), fun h => hB.e25 (h.resolve_left (by decide)), fun h => hB.e26 (h.resolve_left (by decide)), fun h => hB.e27 (h.resolve_left (by decide)), (hB.two).kp0 hk0, fun h => hB.x4 (h.resolve_left (by decide)), fun h => hB.x4n (fun h1 => h (.inr h1)), fun h => hB.y9 (h.resolve_left (by decide)), fun h => hB.y9n (fun h1 => h (.inr h1)), fun h h2 => (hB.l3 (h.resolve_left (by decide)) (fun h1 => h2 (.inr h1))).kp hk0 (by simp), fun _ _ => LitAt.new hB.two hB.size, fun h => Boxed.kp (hB.b10 (h.resolve_left (by decide))) hk0, fun h => Boxed.kp (hB.b10n (fun h1 => h (.inr h1))) hk0, fun h => Boxed.kp (hB.b11 (h.resolve_left (by decide))) hk0, fun h => Boxed.kp (hB.b11n (fun h1 => h (.inr h1))) hk0, fun h => .inr (hB.p4 (h.resolve_left (by decide))), fun h => .inr (hB.p9 (h.resolve_left (by decide))), fun h => ⟨.inr (hB.p10 (h.resolve_left (by decide))).1, .inr (hB.p10 (h.resolve_left (by decide))).2⟩, fun h => ⟨.inr (hB.p11 (h.resolve_left (by decide))).1, .inr (hB.p11 (h.resolve_left (by decide))).2⟩, hk0.heap hB.dot (by simp), hB.res.kp hk0 (by simp), hB.keep.trans hk0.keeps, hB.kp.trans hk0, Nat.le_trans hB.size hk0.size⟩⟩
      · obtain rfl := Option.some.inj ho
        obtain ⟨e1, e2⟩ := hB.y9n hn
        subst e1; subst e2
        have e3 := hB.e25 (hd ⟨5, .data⟩ (by simp) rfl)
        subst e3
        obtain ⟨G, e4, hG, hGc, hG1, hG2⟩ := hB.l8 (hd ⟨8, .data⟩ (by simp) rfl) hn
        subst e4
        have hgc : W'.cell? ⟨G, 0, none⟩ = some (.int .i64 x2) := by rw [cell_of_row W' G 0 _ _ _ hGc]; rfl
        have hln := HYS.out.2
        have hsz := hB.size
        have hOW0 := own_cells (hB.two.2.1)
        have hND := own_not_dot (hB.two.2.1) hB.dot
        have hOG := own_ge (hB.two.2.1)
        refine wpOpIn_of_plainG rfl (plain_append _ _ rfl) ?_
        refine wpOp_step rfl (fun K' hK' => ?_)
        refine step_appJ rfl _ _ 81 rfl (X + 1 + 1 + 1) 3 Try.underlying81 infoIntB t25 ys2 _ rfl rfl (hB.two.2.1) G 1 x2 rfl hgc (by omega) (by omega) ?_
        intro g c w' htw hkw hk hb
        exact hK' _ _ ⟨_, _, _, _, _, _, _, _, _, _, cx, xs2, _, _, rfl, ⟨fun h => hB.e20 (h.resolve_left (by decide)), fun h => hB.e21 (h.resolve_left (by decide)), fun h => hB.e22 (h.resolve_left (by decide)), fun h => hB.e25 (h.resolve_left (by decide)), fun h => hB.e26 (h.resolve_left (by decide)), fun h => hB.e27 (h.resolve_left (by decide)), (htw _ _ hB.two.swap).swap, fun h => hB.x4 (h.resolve_left (by decide)), fun h => hB.x4n (fun h1 => h (.inr h1)), fun _ => ⟨rfl, rfl⟩, fun h => absurd (.inl rfl) h, fun h h2 => ((hB.l3 (h.resolve_left (by decide)) (fun h1 => h2 (.inr h1))).swap.app hk hb).swap, fun _ h2 => absurd (.inl rfl) h2, fun h => hk.heap (hB.b10 (h.resolve_left (by decide))) (fun hs => by have := hOG _ (by simpa using hs); omega), fun h => hk.heap (hB.b10n (fun h1 => h (.inr h1))) (fun hs => by have := hOG _ (by simpa using hs); omega), fun h => absurd (hB.p11 (h.resolve_left (by decide))).2 hn, fun h => hk.heap (hB.b11n (fun h1 => h (.inr h1))) (fun hs => by have := hOG _ (by simpa using hs); omega), fun h => .inr (hB.p4 (h.resolve_left (by decide))), fun _ => .inr (hd ⟨5, .data⟩ (by simp) rfl), fun h => ⟨.inr (hB.p10 (h.resolve_left (by decide))).1, .inr (hB.p10 (h.resolve_left (by decide))).2⟩, fun h => ⟨.inr (hB.p11 (h.resolve_left (by decide))).1, .inr (hB.p11 (h.resolve_left (by decide))).2⟩, hk.heap hB.dot (fun hs => hND (by simpa using hs)), hB.res.kp hk (fun hs => by have := hOG _ (by simpa using hs); omega), hB.keep.trans (keepsOwn hk hOW0), hkw w (by omega) hB.kp, Nat.le_trans hB.size hk.size⟩⟩
      · obtain rfl := Option.some.inj ho
        have hq := hB.b10n hn
        have c0 := hq.cell
        have f0 := hq.frozen
        have hk : Kp [X] W' (W'.setCell ⟨X, 0, none⟩ t24) := (Kp.refl _ _).setCell (.inl (by simp)) _
        have hsz := hB.size
        obtain ⟨pp, cc, hfm⟩ := slice_own hB.two.1
        have hfm2 := (hB.x4 (hd ⟨4, .data⟩ (by simp) rfl)).1.symm.trans hfm
        refine wpOpIn_of_plainG rfl (plain_store _ _ _ rfl) ?_
        refine wpOp_skip rfl rfl (op_storeS rfl rfl hfm2 rfl c0 f0) ?_
        exact ⟨t20, t21, t22, t23, t24, t25, t26, t27, t28, t29, cx, xs2, cy, ys2, rfl, ⟨fun h => hB.e20 (h.resolve_left (by decide)), fun h => hB.e21 (h.resolve_left (by decide)), fun h => hB.e22 (h.resolve_left (by decide)), fun h => hB.e25 (h.resolve_left (by decide)), fun h => hB.e26 (h.resolve_left (by decide)), fun h => hB.e27 (h.resolve_left (by decide)), ⟨hk.row hB.two.1 (fun s hs e => by simp at hs; subst hs; have := own_ge hB.two.1 _ e; omega), hk.row hB.two.2.1 (fun s hs e => by simp at hs; subst hs; have := own_ge hB.two.2.1 _ e; omega), hB.two.2.2⟩, fun h => hB.x4 (h.resolve_left (by decide)), fun h => hB.x4n (fun h1 => h (.inr h1)), fun h => hB.y9 (h.resolve_left (by decide)), fun h => hB.y9n (fun h1 => h (.inr h1)), fun h h2 => (hB.l3 (h.resolve_left (by decide)) (fun h1 => h2 (.inr h1))).kp hk (fun s hs => by simp at hs; omega), fun h h2 => (hB.l8 (h.resolve_left (by decide)) (fun h1 => h2 (.inr h1))).kp hk (fun s hs => by simp at hs; omega), fun _ => heap_setCell_same W' (X) 0 _ _ _ hq, fun h => absurd (.inl rfl) h, fun h => hk.heap (hB.b11 (h.resolve_left (by decide))) (by simp), fun h => hk.heap (hB.b11n (fun h1 => h (.inr h1))) (by simp), fun h => .inr (hB.p4 (h.resolve_left (by decide))), fun h => .inr (hB.p9 (h.resolve_left (by decide))), fun _ => ⟨.inr (hB.p4 (hd ⟨4, .data⟩ (by simp) rfl)), .inr (hd ⟨4, .data⟩ (by simp) rfl)⟩, fun h => ⟨.inr (hB.p11 (h.resolve_left (by decide))).1, .inr (hB.p11 (h.resolve_left (by decide))).2⟩, hk.heap hB.dot (by simp; omega), hB.res.kp hk (by simp; omega), hB.keep.trans (KeepsOthers.setCell _ _ _), hB.kp.setCell (.inr (by show _ ≤ X; omega)) _, Nat.le_trans hB.size hk.size⟩⟩
      · obtain rfl := Option.some.inj ho
        have hq := hB.b11n hn
        have c0 := hq.cell
        have f0 := hq.frozen
        have hk : Kp [X + 1] W' (W'.setCell ⟨X + 1, 0, none⟩ t29) := (Kp.refl _ _).setCell (.inl (by simp)) _
        have hsz := hB.size
        obtain ⟨pp, cc, hfm⟩ := slice_own hB.two.2.1
        have hfm2 := (hB.y9 (hd ⟨9, .data⟩ (by simp) rfl)).1.symm.trans hfm
        refine wpOpIn_of_plainG rfl (plain_store _ _ _ rfl) ?_
        refine wpOp_skip rfl rfl (op_storeS rfl rfl hfm2 rfl c0 f0) ?_
        exact ⟨t20, t21, t22, t23, t24, t25, t26, t27, t28, t29, cx, xs2, cy, ys2, rfl, ⟨fun h => hB.e20 (h.resolve_left (by decide)), fun h => hB.e21 (h.resolve_left (by decide)), fun h => hB.e22 (h.resolve_left (by decide)), fun h => hB.e25 (h.resolve_left (by decide)), fun h => hB.e26 (h.resolve_left (by decide)), fun h => hB.e27 (h.resolve_left (by decide)), ⟨hk.row hB.two.1 (fun s hs e => by simp at hs; subst hs; have := own_ge hB.two.1 _ e; omega), hk.row hB.two.2.1 (fun s hs e => by simp at hs; subst hs; have := own_ge hB.two.2.1 _ e; omega), hB.two.2.2⟩, fun h => hB.x4 (h.resolve_left (by decide)), fun h => hB.x4n (fun h1 => h (.inr h1)), fun h => hB.y9 (h.resolve_left (by decide)), fun h => hB.y9n (fun h1 => h (.inr h1)), fun h h2 => (hB.l3 (h.resolve_left (by decide)) (fun h1 => h2 (.inr h1))).kp hk (fun s hs => by simp at hs; omega), fun h h2 => (hB.l8 (h.resolve_left (by decide)) (fun h1 => h2 (.inr h1))).kp hk (fun s hs => by simp at hs; omega), fun h => hk.heap (hB.b10 (h.resolve_left (by decide))) (by simp), fun h => hk.heap (hB.b10n (fun h1 => h (.inr h1))) (by simp), fun _ => heap_setCell_same W' (X + 1) 0 _ _ _ hq, fun h => absurd (.inl rfl) h, fun h => .inr (hB.p4 (h.resolve_left (by decide))), fun h => .inr (hB.p9 (h.resolve_left (by decide))), fun h => ⟨.inr (hB.p10 (h.resolve_left (by decide))).1, .inr (hB.p10 (h.resolve_left (by decide))).2⟩, fun _ => ⟨.inr (hB.p9 (hd ⟨9, .data⟩ (by simp) rfl)), .inr (hd ⟨9, .data⟩ (by simp) rfl)⟩, hk.heap hB.dot (by simp; omega), hB.res.kp hk (by simp; omega), hB.keep.trans (KeepsOthers.setCell _ _ _), hB.kp.setCell (.inr (by show _ ≤ X + 1; omega)) _, Nat.le_trans hB.size hk.size⟩⟩
      · simp at ho
    · rintro D a' W' ⟨t20, t21, t22, t23, t24, t25, t26, t27, t28, t29, cx, xs2, cy, ys2, rfl, hB⟩ hall
      obtain ⟨e1, e2⟩ := hB.x4 (hall 4 (by decide))
      obtain ⟨e3, e4⟩ := hB.y9 (hall 9 (by decide))
      subst e1; subst e2; subst e3; subst e4
      gi_wp2
      refine ⟨hB.keep.from _, fun _ => hB.kp, i1', hB.res, i3, ⟨_, _, hB.b10 (hall 10 (by decide)), hB.b11 (hall 11 (by decide)), ?_⟩, hB.size, hB.kp⟩
      rw [HXS.out.1, HYS.out.1]; exact hB.two
  case done =>
    rintro D ys W hD rfl hI hK
    obtain ⟨i1, i2, i3, ⟨vx, vy, i4, i5, i6⟩, i10, i9⟩ := hI
    have c0 := i4.cell
    have c1 := i5.cell
    have HXI := Lib.hid (IsInts.owned (k := .i64) i6.1)
    have HYI := Lib.hid (IsInts.owned (k := .i64) i6.2.1)
    obtain ⟨px, cx, hvx⟩ := slice_own i6.1
    obtain ⟨py, cy, hvy⟩ := slice_own i6.2.1
    subst hvx; subst hvy
    have HLL : Hid ((fX ys).length = (fY ys).length) := by show _ = _; simp [fX, fY]
    have HNX : Hid (numsI (fX ys)) := fun i hi => by
      have hi2 : i < ys.length := by simpa [fX] using hi
      have h := dotQ_iff.1 (HTL.out.2 _ (List.getElem_mem hi2))
      rw [numF_iff]
      simp only [fX, List.getD_eq_getElem?_getD, List.getElem?_map, List.getElem?_eq_getElem hi2, Option.map_some, Option.getD_some]
      omega
    have HNY : Hid (numsI (fY ys)) := fun i hi => by
      have hi2 : i < ys.length := by simpa [fY] using hi
      have h := dotQ_iff.1 (HTL.out.2 _ (List.getElem_mem hi2))
      rw [numF_iff]
      simp only [fY, List.getD_eq_getElem?_getD, List.getElem?_map, List.getElem?_eq_getElem hi2, Option.map_some, Option.getD_some]
      omega
    have HHU := Lib.hid (fun (W2 : World) (hk : Kp [] W W2) => ahull_calls _ _ (fX ys) (fY ys) W2 (HXI.out.kp hk (by simp)) (HYI.out.kp hk (by simp)) HLL.out HNX.out HNY.out)
    have HHB := Lib.hid (fhullB_num (fX ys) (fY ys) HNX.out HNY.out HLL.out (fX ys).length (Nat.le_refl _))
    have HBF2 := HBF
    generalize hullB (fX ys) (fY ys) (fX ys).length = h at *
    generalize (fX ys).length = NX at *
    generalize (fY ys).length = NY at *
    have HR0 := Lib.hid i2
    have HDF := Lib.hid hK
    have HK9 := Lib.hid i9
    have hDA : D ≠ A := by intro e; subst e; have h1 : W.heap[D]? = _ := i2; rw [hK] at h1; cases h1
    clear i1 i2 i4 i5 i6 i9 i10 hK HXI HYI HLL HNX HNY
    gi_wp2_with (refine ⟨trivial, ?_⟩; gi_at_call 45; refine (callsIn_wide.2 (HHU.out _ (by (repeat (first | exact Kp.refl _ _ | assumption | refine Kp.drew ?_ | refine Kp.drewN ?_ _ | refine Kp.alloc ?_ _ | (refine Kp.setCell ?_ (by first | (left; simp; done) | (right; simp; try omega)) _) | (refine Kp.trans' ?_ (by assumption) (by simp; try omega))))))).mono ?_; rintro e w3 ⟨rfl, hk3⟩; have HK3 := Lib.hid hk3; clear hk3; rw [show bxV h = .agg #[.int .i64 h.x0, .int .i64 h.y0, .int .i64 h.x1, .int .i64 h.y1] from rfl])
    have HKW : Hid (Kp [] W w3) := Kp.trans (by (repeat (first | exact Kp.refl _ _ | assumption | refine Kp.drew ?_ | refine Kp.drewN ?_ _ | refine Kp.alloc ?_ _ | (refine Kp.setCell ?_ (by first | (left; simp; done) | (right; simp; try omega)) _) | (refine Kp.trans' ?_ (by assumption) (by simp; try omega))))) HK3.out
    have HB3 : Hid (BxAt w3 A ⟨0, 0, 0, 0⟩) := HR0.out.kp HKW.out (by simp)
    have HD3 : Hid (w3.heap[D]? = some (.deferred (some []))) := HKW.out.heap HDF.out (by simp)
    have HK4 : Hid (Kp [] w w3) := HK9.out.trans HKW.out
    have hA3 : A < w3.heap.size := lt_of_block HB3.out
    have hD3 : D < w3.heap.size := lt_of_block HD3.out
    clear HK3 HKW HR0 HDF HK9 HHU c0 c1
    have HB0 : Hid (BoJ w A w3.heap.size D h (fun _ => False) (w3.alloc (.cells #[.int .i64 h.x0, .int .i64 h.y0, .int .i64 h.x1, .int .i64 h.y1] 48)).drew undef undef undef undef undef undef undef undef undef undef undef undef undef undef 0) := by
      have hka : Kp [] w3 (w3.alloc (.cells #[.int .i64 h.x0, .int .i64 h.y0, .int .i64 h.x1, .int .i64 h.y1] 48)).drew := by (repeat (first | exact Kp.refl _ _ | assumption | refine Kp.drew ?_ | refine Kp.drewN ?_ _ | refine Kp.alloc ?_ _ | (refine Kp.setCell ?_ (by first | (left; simp; done) | (right; simp; try omega)) _) | (refine Kp.trans' ?_ (by assumption) (by simp; try omega))))
      exact ⟨fun h => h.elim, fun h => h.elim, fun h => h.elim, fun h => h.elim, fun h => h.elim, fun h => h.elim, fun h => h.elim, fun h => h.elim, fun h => h.elim, fun h => h.elim, fun h => h.elim, fun h => h.elim, fun h => h.elim, fun h => h.elim, fun h => h.elim, fun h => h.elim, fun h => h.elim, heap_alloc_new w3 _, HB3.out.kp hka (by simp), hka.heap HD3.out (by simp), HK4.out.trans hka⟩
    generalize hw4 : w3.alloc (.cells #[.int .i64 h.x0, .int .i64 h.y0, .int .i64 h.x1, .int .i64 h.y1] 48) = w4 at *
    have HAH : Hid (A < w3.heap.size ∧ D < w3.heap.size) := ⟨hA3, hD3⟩
    generalize w3.heap.size = H at *
    clear HB3 HD3 HK4 hw4 hA3 hD3
    refine wpIn_region_invG (by kernel_rfl) (by kernel_rfl) (fun D' a W' => ∃ t10 t40 t41 t42 t43 t44 t45 t46 t47 t48 t49 t50 t51 t52 Bq, a = { tmps := ((.slice pa N ca : Value) :: (undef) :: (.pointer (some ⟨A, 0, none⟩)) :: (.int .i64 0) :: (.int .i64 0) :: (.pointer (some ⟨X, 0, none⟩)) :: (.pointer (some ⟨X + 1, 0, none⟩)) :: (undef) :: (.pointer (some ⟨H, 0, none⟩)) :: (.int .i64 0) :: (t10) :: (.slice pa N ca) :: (.int .i64 0) :: (.int .i64 0) :: (.bool false) :: (undef) :: (undef) :: (.slice pa N ca) :: (.func (.func 65) #[] #[.pointer (some ⟨X + 1 + 1, 0, none⟩)]) :: (undef) :: (undef) :: (undef) :: (undef) :: (undef) :: (undef) :: (undef) :: (undef) :: (undef) :: (undef) :: (undef) :: (.tuple #[.agg #[.int .i64 h.x0, .int .i64 h.y0, .int .i64 h.x1, .int .i64 h.y1], .int .i64 0]) :: (.slice px NX cx) :: (.slice py NY cy) :: (.tuple #[.agg #[.int .i64 h.x0, .int .i64 h.y0, .int .i64 h.x1, .int .i64 h.y1], .int .i64 0]) :: (.agg #[.int .i64 h.x0, .int .i64 h.y0, .int .i64 h.x1, .int .i64 h.y1]) :: (.int .i64 0) :: (.int .i64 0) :: (.bool false) :: (undef) :: (undef) :: (t40) :: (t41) :: (t42) :: (t43) :: (t44) :: (t45) :: (t46) :: (t47) :: (t48) :: (t49) :: (t50) :: (t51) :: (t52) :: (undef) :: (undef) :: (undef) :: (undef) :: []).toArray, defers := [{ target := .collected D, args := #[] }] } ∧ BoJ w A H D h D' W' t10 t40 t41 t42 t43 t44 t45 t46 t47 t48 t49 t50 t51 t52 Bq) ?_ ?_ ?_
    · exact ⟨_, _, _, _, _, _, _, _, _, _, _, _, _, _, 0, rfl, HB0.out⟩
    · rintro D' a' W' j o ho ⟨t10, t40, t41, t42, t43, t44, t45, t46, t47, t48, t49, t50, t51, t52, Bq, rfl, hB⟩ hn hd
      obtain ⟨hbx0, hbx1, hbx2, hbx3⟩ := hB.hb.cells
      rcases j with _ | _ | _ | _ | _ | _ | _ | _ | _ | _ | _ | _ | _ | _ | _ | j
      · obtain rfl := Option.some.inj ho
        refine wpOpIn_of_plainG rfl (plain_field _ _ _ rfl) (wpOp_value rfl rfl (op_fieldB 0 (by decide) rfl rfl) ?_)
        exact ⟨t10, .pointer (some ⟨H, 0, none⟩), t41, t42, t43, t44, t45, t46, t47, t48, t49, t50, t51, t52, Bq, rfl, ⟨fun _ => rfl, fun h => hB.e41 (h.resolve_left (by decide)), fun h => hB.e42 (h.resolve_left (by decide)), fun h => hB.e43 (h.resolve_left (by decide)), fun h => hB.e44 (h.resolve_left (by decide)), fun h => hB.e45 (h.resolve_left (by decide)), fun h => hB.e46 (h.resolve_left (by decide)), fun h => hB.e47 (h.resolve_left (by decide)), fun h => hB.e48 (h.resolve_left (by decide)), fun h => hB.e49 (h.resolve_left (by decide)), fun h => hB.e50 (h.resolve_left (by decide)), fun h => hB.e51 (h.resolve_left (by decide)), fun h => hB.e52 (h.resolve_left (by decide)), fun h => hB.a13 (h.resolve_left (by decide)), fun h h2 => hB.b0 (h.resolve_left (by decide)) (fun h1 => h2 (.inr h1)), fun h => hB.b1 (h.resolve_left (by decide)), fun h => .inr (hB.p14 (h.resolve_left (by decide))), hB.hb, hB.res, hB.dfr, hB.kp⟩⟩
      · obtain rfl := Option.some.inj ho
        have e1 := hB.e40 (hd ⟨0, .data⟩ (by simp) rfl)
        subst e1
        refine wpOpIn_of_plainG rfl (plain_load _ _ rfl) (wpOp_value rfl rfl (op_loadI rfl rfl hbx0) ?_)
        exact ⟨t10, .pointer (some ⟨H, 0, none⟩), .int .i64 h.x0, t42, t43, t44, t45, t46, t47, t48, t49, t50, t51, t52, Bq, rfl, ⟨fun h => hB.e40 (h.resolve_left (by decide)), fun _ => rfl, fun h => hB.e42 (h.resolve_left (by decide)), fun h => hB.e43 (h.resolve_left (by decide)), fun h => hB.e44 (h.resolve_left (by decide)), fun h => hB.e45 (h.resolve_left (by decide)), fun h => hB.e46 (h.resolve_left (by decide)), fun h => hB.e47 (h.resolve_left (by decide)), fun h => hB.e48 (h.resolve_left (by decide)), fun h => hB.e49 (h.resolve_left (by decide)), fun h => hB.e50 (h.resolve_left (by decide)), fun h => hB.e51 (h.resolve_left (by decide)), fun h => hB.e52 (h.resolve_left (by decide)), fun h => hB.a13 (h.resolve_left (by decide)), fun h h2 => hB.b0 (h.resolve_left (by decide)) (fun h1 => h2 (.inr h1)), fun h => hB.b1 (h.resolve_left (by decide)), fun h => .inr (hB.p14 (h.resolve_left (by decide))), hB.hb, hB.res, hB.dfr, hB.kp⟩⟩
      · obtain rfl := Option.some.inj ho
        have e1 := hB.e41 (hd ⟨1, .data⟩ (by simp) rfl)
        subst e1
        obtain ⟨r0, r1, r2, r3⟩ := HHB.out
        rw [numF_iff] at r0 r1 r2 r3
        refine wpOpIn_enter rfl rfl (by simp) (fun _ _ => trivial) (op_call1 rfl rfl rfl (enters_of Try.func46 (by kernel_rfl) rfl)) (fun _ => by decide) ?_
        refine (callsIn_wide.2 (floor26_calls h.x0 W')).mono ?_
        rintro e W2 ⟨rfl, hwe⟩
        subst hwe
        exact ⟨_, rfl, ⟨t10, t40, .int .i64 h.x0, .int .i64 (boxH h).x0, t43, t44, t45, t46, t47, t48, t49, t50, t51, t52, Bq, rfl, ⟨fun h => hB.e40 (h.resolve_left (by decide)), fun h => hB.e41 (h.resolve_left (by decide)), fun _ => rfl, fun h => hB.e43 (h.resolve_left (by decide)), fun h => hB.e44 (h.resolve_left (by decide)), fun h => hB.e45 (h.resolve_left (by decide)), fun h => hB.e46 (h.resolve_left (by decide)), fun h => hB.e47 (h.resolve_left (by decide)), fun h => hB.e48 (h.resolve_left (by decide)), fun h => hB.e49 (h.resolve_left (by decide)), fun h => hB.e50 (h.resolve_left (by decide)), fun h => hB.e51 (h.resolve_left (by decide)), fun h => hB.e52 (h.resolve_left (by decide)), fun h => hB.a13 (h.resolve_left (by decide)), fun h h2 => hB.b0 (h.resolve_left (by decide)) (fun h1 => h2 (.inr h1)), fun h => hB.b1 (h.resolve_left (by decide)), fun h => .inr (hB.p14 (h.resolve_left (by decide))), hB.hb, hB.res, hB.dfr, hB.kp⟩⟩⟩
      · obtain rfl := Option.some.inj ho
        refine wpOpIn_of_plainG rfl (plain_field _ _ _ rfl) (wpOp_value rfl rfl (op_fieldB 1 (by decide) rfl rfl) ?_)
        exact ⟨t10, t40, t41, t42, .pointer (some ⟨H, 1, none⟩), t44, t45, t46, t47, t48, t49, t50, t51, t52, Bq, rfl, ⟨fun h => hB.e40 (h.resolve_left (by decide)), fun h => hB.e41 (h.resolve_left (by decide)), fun h => hB.e42 (h.resolve_left (by decide)), fun _ => rfl, fun h => hB.e44 (h.resolve_left (by decide)), fun h => hB.e45 (h.resolve_left (by decide)), fun h => hB.e46 (h.resolve_left (by decide)), fun h => hB.e47 (h.resolve_left (by decide)), fun h => hB.e48 (h.resolve_left (by decide)), fun h => hB.e49 (h.resolve_left (by decide)), fun h => hB.e50 (h.resolve_left (by decide)), fun h => hB.e51 (h.resolve_left (by decide)), fun h => hB.e52 (h.resolve_left (by decide)), fun h => hB.a13 (h.resolve_left (by decide)), fun h h2 => hB.b0 (h.resolve_left (by decide)) (fun h1 => h2 (.inr h1)), fun h => hB.b1 (h.resolve_left (by decide)), fun h => .inr (hB.p14 (h.resolve_left (by decide))), hB.hb, hB.res, hB.dfr, hB.kp⟩⟩
      · obtain rfl := Option.some.inj ho
        have e1 := hB.e43 (hd ⟨3, .data⟩ (by simp) rfl)
        subst e1
        refine wpOpIn_of_plainG rfl (plain_load _ _ rfl) (wpOp_value rfl rfl (op_loadI rfl rfl hbx1) ?_)
        exact ⟨t10, t40, t41, t42, .pointer (some ⟨H, 1, none⟩), .int .i64 h.y0, t45, t46, t47, t48, t49, t50, t51, t52, Bq, rfl, ⟨fun h => hB.e40 (h.resolve_left (by decide)), fun h => hB.e41 (h.resolve_left (by decide)), fun h => hB.e42 (h.resolve_left (by decide)), fun h => hB.e43 (h.resolve_left (by decide)), fun _ => rfl, fun h => hB.e45 (h.resolve_left (by decide)), fun h => hB.e46 (h.resolve_left (by decide)), fun h => hB.e47 (h.resolve_left (by decide)), fun h => hB.e48 (h.resolve_left (by decide)), fun h => hB.e49 (h.resolve_left (by decide)), fun h => hB.e50 (h.resolve_left (by decide)), fun h => hB.e51 (h.resolve_left (by decide)), fun h => hB.e52 (h.resolve_left (by decide)), fun h => hB.a13 (h.resolve_left (by decide)), fun h h2 => hB.b0 (h.resolve_left (by decide)) (fun h1 => h2 (.inr h1)), fun h => hB.b1 (h.resolve_left (by decide)), fun h => .inr (hB.p14 (h.resolve_left (by decide))), hB.hb, hB.res, hB.dfr, hB.kp⟩⟩
      · obtain rfl := Option.some.inj ho
        have e1 := hB.e44 (hd ⟨4, .data⟩ (by simp) rfl)
        subst e1
        obtain ⟨r0, r1, r2, r3⟩ := HHB.out
        rw [numF_iff] at r0 r1 r2 r3
        refine wpOpIn_enter rfl rfl (by simp) (fun _ _ => trivial) (op_call1 rfl rfl rfl (enters_of Try.func46 (by kernel_rfl) rfl)) (fun _ => by decide) ?_
        refine (callsIn_wide.2 (floor26_calls h.y0 W')).mono ?_
        rintro e W2 ⟨rfl, hwe⟩
        subst hwe
        exact ⟨_, rfl, ⟨t10, t40, t41, t42, t43, .int .i64 h.y0, .int .i64 (boxH h).y0, t46, t47, t48, t49, t50, t51, t52, Bq, rfl, ⟨fun h => hB.e40 (h.resolve_left (by decide)), fun h => hB.e41 (h.resolve_left (by decide)), fun h => hB.e42 (h.resolve_left (by decide)), fun h => hB.e43 (h.resolve_left (by decide)), fun h => hB.e44 (h.resolve_left (by decide)), fun _ => rfl, fun h => hB.e46 (h.resolve_left (by decide)), fun h => hB.e47 (h.resolve_left (by decide)), fun h => hB.e48 (h.resolve_left (by decide)), fun h => hB.e49 (h.resolve_left (by decide)), fun h => hB.e50 (h.resolve_left (by decide)), fun h => hB.e51 (h.resolve_left (by decide)), fun h => hB.e52 (h.resolve_left (by decide)), fun h => hB.a13 (h.resolve_left (by decide)), fun h h2 => hB.b0 (h.resolve_left (by decide)) (fun h1 => h2 (.inr h1)), fun h => hB.b1 (h.resolve_left (by decide)), fun h => .inr (hB.p14 (h.resolve_left (by decide))), hB.hb, hB.res, hB.dfr, hB.kp⟩⟩⟩
      · obtain rfl := Option.some.inj ho
        refine wpOpIn_of_plainG rfl (plain_field _ _ _ rfl) (wpOp_value rfl rfl (op_fieldB 2 (by decide) rfl rfl) ?_)
        exact ⟨t10, t40, t41, t42, t43, t44, t45, .pointer (some ⟨H, 2, none⟩), t47, t48, t49, t50, t51, t52, Bq, rfl, ⟨fun h => hB.e40 (h.resolve_left (by decide)), fun h => hB.e41 (h.resolve_left (by decide)), fun h => hB.e42 (h.resolve_left (by decide)), fun h => hB.e43 (h.resolve_left (by decide)), fun h => hB.e44 (h.resolve_left (by decide)), fun h => hB.e45 (h.resolve_left (by decide)), fun _ => rfl, fun h => hB.e47 (h.resolve_left (by decide)), fun h => hB.e48 (h.resolve_left (by decide)), fun h => hB.e49 (h.resolve_left (by decide)), fun h => hB.e50 (h.resolve_left (by decide)), fun h => hB.e51 (h.resolve_left (by decide)), fun h => hB.e52 (h.resolve_left (by decide)), fun h => hB.a13 (h.resolve_left (by decide)), fun h h2 => hB.b0 (h.resolve_left (by decide)) (fun h1 => h2 (.inr h1)), fun h => hB.b1 (h.resolve_left (by decide)), fun h => .inr (hB.p14 (h.resolve_left (by decide))), hB.hb, hB.res, hB.dfr, hB.kp⟩⟩
      · obtain rfl := Option.some.inj ho
        have e1 := hB.e46 (hd ⟨6, .data⟩ (by simp) rfl)
        subst e1
        refine wpOpIn_of_plainG rfl (plain_load _ _ rfl) (wpOp_value rfl rfl (op_loadI rfl rfl hbx2) ?_)
        exact ⟨t10, t40, t41, t42, t43, t44, t45, .pointer (some ⟨H, 2, none⟩), .int .i64 h.x1, t48, t49, t50, t51, t52, Bq, rfl, ⟨fun h => hB.e40 (h.resolve_left (by decide)), fun h => hB.e41 (h.resolve_left (by decide)), fun h => hB.e42 (h.resolve_left (by decide)), fun h => hB.e43 (h.resolve_left (by decide)), fun h => hB.e44 (h.resolve_left (by decide)), fun h => hB.e45 (h.resolve_left (by decide)), fun h => hB.e46 (h.resolve_left (by decide)), fun _ => rfl, fun h => hB.e48 (h.resolve_left (by decide)), fun h => hB.e49 (h.resolve_left (by decide)), fun h => hB.e50 (h.resolve_left (by decide)), fun h => hB.e51 (h.resolve_left (by decide)), fun h => hB.e52 (h.resolve_left (by decide)), fun h => hB.a13 (h.resolve_left (by decide)), fun h h2 => hB.b0 (h.resolve_left (by decide)) (fun h1 => h2 (.inr h1)), fun h => hB.b1 (h.resolve_left (by decide)), fun h => .inr (hB.p14 (h.resolve_left (by decide))), hB.hb, hB.res, hB.dfr, hB.kp⟩⟩
      · obtain rfl := Option.some.inj ho
        have e1 := hB.e47 (hd ⟨7, .data⟩ (by simp) rfl)
        subst e1
        obtain ⟨r0, r1, r2, r3⟩ := HHB.out
        rw [numF_iff] at r0 r1 r2 r3
        refine wpOpIn_enter rfl rfl (by simp) (fun _ _ => trivial) (op_call1 rfl rfl rfl (enters_of Try.func47 (by kernel_rfl) rfl)) (fun _ => by decide) ?_
        refine (callsIn_wide.2 (ceil26_calls h.x1 (by omega) (by omega) W')).mono ?_
        rintro e W2 ⟨rfl, hwe⟩
        subst hwe
        exact ⟨_, rfl, ⟨t10, t40, t41, t42, t43, t44, t45, t46, .int .i64 h.x1, .int .i64 (boxH h).x1, t49, t50, t51, t52, Bq, rfl, ⟨fun h => hB.e40 (h.resolve_left (by decide)), fun h => hB.e41 (h.resolve_left (by decide)), fun h => hB.e42 (h.resolve_left (by decide)), fun h => hB.e43 (h.resolve_left (by decide)), fun h => hB.e44 (h.resolve_left (by decide)), fun h => hB.e45 (h.resolve_left (by decide)), fun h => hB.e46 (h.resolve_left (by decide)), fun h => hB.e47 (h.resolve_left (by decide)), fun _ => rfl, fun h => hB.e49 (h.resolve_left (by decide)), fun h => hB.e50 (h.resolve_left (by decide)), fun h => hB.e51 (h.resolve_left (by decide)), fun h => hB.e52 (h.resolve_left (by decide)), fun h => hB.a13 (h.resolve_left (by decide)), fun h h2 => hB.b0 (h.resolve_left (by decide)) (fun h1 => h2 (.inr h1)), fun h => hB.b1 (h.resolve_left (by decide)), fun h => .inr (hB.p14 (h.resolve_left (by decide))), hB.hb, hB.res, hB.dfr, hB.kp⟩⟩⟩
      · obtain rfl := Option.some.inj ho
        refine wpOpIn_of_plainG rfl (plain_field _ _ _ rfl) (wpOp_value rfl rfl (op_fieldB 3 (by decide) rfl rfl) ?_)
        exact ⟨t10, t40, t41, t42, t43, t44, t45, t46, t47, t48, .pointer (some ⟨H, 3, none⟩), t50, t51, t52, Bq, rfl, ⟨fun h => hB.e40 (h.resolve_left (by decide)), fun h => hB.e41 (h.resolve_left (by decide)), fun h => hB.e42 (h.resolve_left (by decide)), fun h => hB.e43 (h.resolve_left (by decide)), fun h => hB.e44 (h.resolve_left (by decide)), fun h => hB.e45 (h.resolve_left (by decide)), fun h => hB.e46 (h.resolve_left (by decide)), fun h => hB.e47 (h.resolve_left (by decide)), fun h => hB.e48 (h.resolve_left (by decide)), fun _ => rfl, fun h => hB.e50 (h.resolve_left (by decide)), fun h => hB.e51 (h.resolve_left (by decide)), fun h => hB.e52 (h.resolve_left (by decide)), fun h => hB.a13 (h.resolve_left (by decide)), fun h h2 => hB.b0 (h.resolve_left (by decide)) (fun h1 => h2 (.inr h1)), fun h => hB.b1 (h.resolve_left (by decide)), fun h => .inr (hB.p14 (h.resolve_left (by decide))), hB.hb, hB.res, hB.dfr, hB.kp⟩⟩
      · obtain rfl := Option.some.inj ho
        have e1 := hB.e49 (hd ⟨9, .data⟩ (by simp) rfl)
        subst e1
        refine wpOpIn_of_plainG rfl (plain_load _ _ rfl) (wpOp_value rfl rfl (op_loadI rfl rfl hbx3) ?_)
        exact ⟨t10, t40, t41, t42, t43, t44, t45, t46, t47, t48, .pointer (some ⟨H, 3, none⟩), .int .i64 h.y1, t51, t52, Bq, rfl, ⟨fun h => hB.e40 (h.resolve_left (by decide)), fun h => hB.e41 (h.resolve_left (by decide)), fun h => hB.e42 (h.resolve_left (by decide)), fun h => hB.e43 (h.resolve_left (by decide)), fun h => hB.e44 (h.resolve_left (by decide)), fun h => hB.e45 (h.resolve_left (by decide)), fun h => hB.e46 (h.resolve_left (by decide)), fun h => hB.e47 (h.resolve_left (by decide)), fun h => hB.e48 (h.resolve_left (by decide)), fun h => hB.e49 (h.resolve_left (by decide)), fun _ => rfl, fun h => hB.e51 (h.resolve_left (by decide)), fun h => hB.e52 (h.resolve_left (by decide)), fun h => hB.a13 (h.resolve_left (by decide)), fun h h2 => hB.b0 (h.resolve_left (by decide)) (fun h1 => h2 (.inr h1)), fun h => hB.b1 (h.resolve_left (by decide)), fun h => .inr (hB.p14 (h.resolve_left (by decide))), hB.hb, hB.res, hB.dfr, hB.kp⟩⟩
      · obtain rfl := Option.some.inj ho
        have e1 := hB.e50 (hd ⟨10, .data⟩ (by simp) rfl)
        subst e1
        obtain ⟨r0, r1, r2, r3⟩ := HHB.out
        rw [numF_iff] at r0 r1 r2 r3
        refine wpOpIn_enter rfl rfl (by simp) (fun _ _ => trivial) (op_call1 rfl rfl rfl (enters_of Try.func47 (by kernel_rfl) rfl)) (fun _ => by decide) ?_
        refine (callsIn_wide.2 (ceil26_calls h.y1 (by omega) (by omega) W')).mono ?_
        rintro e W2 ⟨rfl, hwe⟩
        subst hwe
        exact ⟨_, rfl, ⟨t10, t40, t41, t42, t43, t44, t45, t46, t47, t48, t49, .int .i64 h.y1, .int .i64 (boxH h).y1, t52, Bq, rfl, ⟨fun h => hB.e40 (h.resolve_left (by decide)), fun h => hB.e41 (h.resolve_left (by decide)), fun h => hB.e42 (h.resolve_left (by decide)), fun h => hB.e43 (h.resolve_left (by decide)), fun h => hB.e44 (h.resolve_left (by decide)), fun h => hB.e45 (h.resolve_left (by decide)), fun h => hB.e46 (h.resolve_left (by decide)), fun h => hB.e47 (h.resolve_left (by decide)), fun h => hB.e48 (h.resolve_left (by decide)), fun h => hB.e49 (h.resolve_left (by decide)), fun h => hB.e50 (h.resolve_left (by decide)), fun _ => rfl, fun h => hB.e52 (h.resolve_left (by decide)), fun h => hB.a13 (h.resolve_left (by decide)), fun h h2 => hB.b0 (h.resolve_left (by decide)) (fun h1 => h2 (.inr h1)), fun h => hB.b1 (h.resolve_left (by decide)), fun h => .inr (hB.p14 (h.resolve_left (by decide))), hB.hb, hB.res, hB.dfr, hB.kp⟩⟩⟩
      · obtain rfl := Option.some.inj ho
        have e0 := hB.e42 (hd ⟨2, .data⟩ (by simp) rfl)
        subst e0
        have e1 := hB.e45 (hd ⟨5, .data⟩ (by simp) rfl)
        subst e1
        have e2 := hB.e48 (hd ⟨8, .data⟩ (by simp) rfl)
        subst e2
        have e3 := hB.e51 (hd ⟨11, .data⟩ (by simp) rfl)
        subst e3
        refine wpOpIn_of_plainG rfl (plain_build _ _ rfl) (wpOp_value rfl rfl (op_buildB rfl rfl rfl rfl rfl) ?_)
        exact ⟨t10, t40, t41, .int .i64 (boxH h).x0, t43, t44, .int .i64 (boxH h).y0, t46, t47, .int .i64 (boxH h).x1, t49, t50, .int .i64 (boxH h).y1, _, Bq, rfl, ⟨fun h => hB.e40 (h.resolve_left (by decide)), fun h => hB.e41 (h.resolve_left (by decide)), fun h => hB.e42 (h.resolve_left (by decide)), fun h => hB.e43 (h.resolve_left (by decide)), fun h => hB.e44 (h.resolve_left (by decide)), fun h => hB.e45 (h.resolve_left (by decide)), fun h => hB.e46 (h.resolve_left (by decide)), fun h => hB.e47 (h.resolve_left (by decide)), fun h => hB.e48 (h.resolve_left (by decide)), fun h => hB.e49 (h.resolve_left (by decide)), fun h => hB.e50 (h.resolve_left (by decide)), fun h => hB.e51 (h.resolve_left (by decide)), fun _ => rfl, fun h => hB.a13 (h.resolve_left (by decide)), fun h h2 => hB.b0 (h.resolve_left (by decide)) (fun h1 => h2 (.inr h1)), fun h => hB.b1 (h.resolve_left (by decide)), fun h => .inr (hB.p14 (h.resolve_left (by decide))), hB.hb, hB.res, hB.dfr, hB.kp⟩⟩
      · obtain rfl := Option.some.inj ho
        have hk0 : Kp [] W' (W'.alloc (.cells #[.int .i64 0, .int .i64 0, .int .i64 0, .int .i64 0] 48)) := (Kp.refl _ _).alloc _
        have hlA := lt_of_block hB.res
        have hlH := lt_of_block hB.hb
        have hlD := lt_of_block hB.dfr
        have hsz := hB.kp.size
        have hn14 : ¬ D' 14 := fun h => hn (hB.p14 h)
        refine wpOpIn_of_plainG rfl (plain_alloc _ rfl) (wpOp_value rfl rfl (op_allocB rfl) ?_)
        exact ⟨_, t40, t41, t42, t43, t44, t45, t46, t47, t48, t49, t50, t51, t52, W'.heap.size, rfl, ⟨fun h => hB.e40 (h.resolve_left (by decide)), fun h => hB.e41 (h.resolve_left (by decide)), fun h => hB.e42 (h.resolve_left (by decide)), fun h => hB.e43 (h.resolve_left (by decide)), fun h => hB.e44 (h.resolve_left (by decide)), fun h => hB.e45 (h.resolve_left (by decide)), fun h => hB.e46 (h.resolve_left (by decide)), fun h => hB.e47 (h.resolve_left (by decide)), fun h => hB.e48 (h.resolve_left (by decide)), fun h => hB.e49 (h.resolve_left (by decide)), fun h => hB.e50 (h.resolve_left (by decide)), fun h => hB.e51 (h.resolve_left (by decide)), fun h => hB.e52 (h.resolve_left (by decide)), fun _ => ⟨rfl, by omega, by omega, by omega, hsz⟩, fun _ _ => heap_alloc_new W' _, fun h => absurd (h.resolve_left (by decide)) hn14, fun h => .inr (hB.p14 (h.resolve_left (by decide))), hB.hb.kp hk0 (by simp), hB.res.kp hk0 (by simp), hk0.heap hB.dfr (by simp), hB.kp.trans hk0⟩⟩
      · obtain rfl := Option.some.inj ho
        have e1 := hB.e52 (hd ⟨12, .data⟩ (by simp) rfl)
        subst e1
        obtain ⟨e2, hq1, hq2, hq3, hq4⟩ := hB.a13 (hd ⟨13, .data⟩ (by simp) rfl)
        subst e2
        have hb0 := hB.b0 (hd ⟨13, .data⟩ (by simp) rfl) hn
        have hk := set4Kp W' Bq (.int .i64 (boxH h).x0) (.int .i64 (boxH h).y0) (.int .i64 (boxH h).x1) (.int .i64 (boxH h).y1)
        refine wpOpIn_of_plainG rfl (plain_store _ _ _ rfl) (wpOp_skip rfl rfl (op_storeB (c := boxH h) rfl rfl rfl hb0) ?_)
        exact ⟨.pointer (some ⟨Bq, 0, none⟩), t40, t41, t42, t43, t44, t45, t46, t47, t48, t49, t50, t51, bxV (boxH h), Bq, rfl, ⟨fun h => hB.e40 (h.resolve_left (by decide)), fun h => hB.e41 (h.resolve_left (by decide)), fun h => hB.e42 (h.resolve_left (by decide)), fun h => hB.e43 (h.resolve_left (by decide)), fun h => hB.e44 (h.resolve_left (by decide)), fun h => hB.e45 (h.resolve_left (by decide)), fun h => hB.e46 (h.resolve_left (by decide)), fun h => hB.e47 (h.resolve_left (by decide)), fun h => hB.e48 (h.resolve_left (by decide)), fun h => hB.e49 (h.resolve_left (by decide)), fun h => hB.e50 (h.resolve_left (by decide)), fun h => hB.e51 (h.resolve_left (by decide)), fun h => hB.e52 (h.resolve_left (by decide)), fun h => hB.a13 (h.resolve_left (by decide)), fun _ h2 => absurd (.inl rfl) h2, fun _ => hb0.set _, fun _ => .inr (hd ⟨13, .data⟩ (by simp) rfl), hB.hb.kp hk (by simp; exact hq2), hB.res.kp hk (by simp; exact hq1), hk.heap hB.dfr (by simp; exact hq3), hB.kp.trans' hk (fun t ht => by simp at ht; subst ht; exact .inr hq4)⟩⟩
      · simp at ho
    · rintro D' a' W' ⟨t10, t40, t41, t42, t43, t44, t45, t46, t47, t48, t49, t50, t51, t52, Bq, rfl, hB⟩ hall
      obtain ⟨e2, hq1, hq2, hq3, hq4⟩ := hB.a13 (hall 13 (by decide))
      subst e2
      have hbq := hB.b1 (hall 14 (by decide))
      obtain ⟨c0, c1, c2, c3⟩ := hbq.cells
      have HRS := Lib.hid hB.res
      have HDF := Lib.hid hB.dfr
      have HKP := Lib.hid hB.kp
      have HBQ := Lib.hid hbq
      have HEM := Lib.hid (fun W => emptyA_calls (boxH h) W)
      clear hB hall hbq
      cases hem : emptyB (boxH h) with
      | true =>
        rw [hem] at HEM HBF
        clear hem
        have HR : Hid (RES = (⟨0, 0, 0, 0⟩, 0)) := HBF.out
        gi_wp2_with (refine ⟨trivial, ?_⟩; gi_at_call 48; refine (callsIn_wide.2 (HEM.out _)).mono ?_; rintro e w5 ⟨rfl, hk5⟩; have HK5 := Lib.hid hk5; obtain ⟨r0, r1, r2, r3⟩ := (HRS.out.kp hk5 (by simp)).cells; obtain ⟨f0, f1, f2, f3⟩ := (HRS.out.kp hk5 (by simp)).frozen; clear hk5)
        have hk := set4Kp w5 A (.int .i64 (⟨0, 0, 0, 0⟩ : Bx).x0) (.int .i64 (⟨0, 0, 0, 0⟩ : Bx).y0) (.int .i64 (⟨0, 0, 0, 0⟩ : Bx).x1) (.int .i64 (⟨0, 0, 0, 0⟩ : Bx).y1)
        have hK' := hk.heap (HK5.out.heap HDF.out (by simp)) (by simp; exact hDA)
        have hs5 := (HRS.out.kp HK5.out (by simp)).set (⟨0, 0, 0, 0⟩)
        have hs6 := hs5.kp (putKp _ D (.deferred none)) (by simp; exact fun e => hDA e.symm)
        obtain ⟨z0, z1, z2, z3⟩ := hs6.cells
        refine ⟨by simp, .inl ⟨_, _, rfl, run_takeDeferred hK', ?_⟩⟩
        refine ⟨.tuple #[.agg #[.int .i64 (⟨0, 0, 0, 0⟩ : Bx).x0, .int .i64 (⟨0, 0, 0, 0⟩ : Bx).y0, .int .i64 (⟨0, 0, 0, 0⟩ : Bx).x1, .int .i64 (⟨0, 0, 0, 0⟩ : Bx).y1], .int .i64 0], ?_, by rw [HR.out]; rfl, Kp.ended0 ((HKP.out.trans HK5.out).trans' hk (fun t ht => by simp at ht; subst ht; exact .inr (by have := HA.out; omega))) (by have := HA.out; omega)⟩
        simp [results, Try.f21, go_sem, z0, z1, z2, z3]
      | false =>
        rw [hem] at HEM HBF
        clear hem
        have HR : Hid (RES = (boxH h, 0)) := HBF.out
        gi_wp2_with (refine ⟨trivial, ?_⟩; gi_at_call 48; refine (callsIn_wide.2 (HEM.out _)).mono ?_; rintro e w5 ⟨rfl, hk5⟩; have HK5 := Lib.hid hk5; obtain ⟨r0, r1, r2, r3⟩ := (HRS.out.kp hk5 (by simp)).cells; obtain ⟨f0, f1, f2, f3⟩ := (HRS.out.kp hk5 (by simp)).frozen; obtain ⟨g0, g1, g2, g3⟩ := (HBQ.out.kp hk5 (by simp)).cells; clear hk5)
        have hk := set4Kp w5 A (.int .i64 (boxH h : Bx).x0) (.int .i64 (boxH h : Bx).y0) (.int .i64 (boxH h : Bx).x1) (.int .i64 (boxH h : Bx).y1)
        have hK' := hk.heap (HK5.out.heap HDF.out (by simp)) (by simp; exact hDA)
        have hs5 := (HRS.out.kp HK5.out (by simp)).set (boxH h)
        have hs6 := hs5.kp (putKp _ D (.deferred none)) (by simp; exact fun e => hDA e.symm)
        obtain ⟨z0, z1, z2, z3⟩ := hs6.cells
        refine ⟨by simp, .inl ⟨_, _, rfl, run_takeDeferred hK', ?_⟩⟩
        refine ⟨.tuple #[.agg #[.int .i64 (boxH h : Bx).x0, .int .i64 (boxH h : Bx).y0, .int .i64 (boxH h : Bx).x1, .int .i64 (boxH h : Bx).y1], .int .i64 0], ?_, by rw [HR.out]; rfl, Kp.ended0 ((HKP.out.trans HK5.out).trans' hk (fun t ht => by simp at ht; subst ht; exact .inr (by have := HA.out; omega))) (by have := HA.out; omega)⟩
        simp [results, Try.f21, go_sem, z0, z1, z2, z3]
  case stop =>
    rintro D c pre W _ _ h _
    exact h.elim
end Go.Proofs.Ytpbmefojhgcniaa
namespace Go.Proofs.Ytpbmefojhgcniaa
open Go.RowKit
set_option linter.unusedVariables false
set_option linter.unusedSimpArgs false
set_option maxRecDepth 100000 in
set_option maxHeartbeats 4000000 in
theorem fbox_no (v : Value) (L : List (List (Int × Int))) (w : World) (hv : IsFl w v L) (hs : smF L) (E : Int) (hm : mayF L = E) (hE : E ≠ 0) : Calls Try.prog 21 #[v] w fun e w' => e = .returned (.tuple #[bxV ⟨0, 0, 0, 0⟩, .int .i64 E]) ∧ Kp [] w w' := by
  have HMY := Lib.hid (fun W (hk : Kp [] w W) => fmay_flat v L W (hv.kp0 hk) hs)
  rw [hm] at HMY
  obtain ⟨pa, ca, rfl⟩ := hv.form
  generalize L.length = N at *
  have hb : (E != 0) = true := by simpa using hE
  clear hv hs hm
  refine (callsIn_wide (n := 5)).1 ?_
  refine callsIn_of_wp_marks Try.func21 rfl trivial ?_ rfl
  simp only [Try.ntmps21, List.size_toArray, List.length_cons, List.length_nil, Nat.reduceAdd, Nat.reduceSub, Array.replicate_succ, Array.replicate_zero, List.push_toArray, List.append_toArray, List.nil_append, List.cons_append]
  gi_wp2_with (refine ⟨trivial, ?_⟩; gi_at_call 19; refine (callsIn_wide.2 (HMY.out _ (by (repeat (first | exact Kp.refl _ _ | assumption | refine Kp.drew ?_ | refine Kp.drewN ?_ _ | refine Kp.alloc ?_ _ | (refine Kp.setCell ?_ (by first | (left; simp; done) | (right; simp; try omega)) _) | (refine Kp.trans' ?_ (by assumption) (by simp; try omega))))))).mono ?_; rintro e w1 ⟨rfl, hk1⟩; have HK1 := Lib.hid hk1; have hq := hk1.heap (heap_alloc_new w _) (by simp); obtain ⟨r0, r1, r2, r3⟩ := (show BxAt w1 w.heap.size ⟨0, 0, 0, 0⟩ from hq).cells; obtain ⟨f0, f1, f2, f3⟩ := (show BxAt w1 w.heap.size ⟨0, 0, 0, 0⟩ from hq).frozen; have HBX : Hid (BxAt w1 w.heap.size ⟨0, 0, 0, 0⟩) := hq; clear hk1 hq)
  obtain ⟨z0, z1, z2, z3⟩ := (HBX.out.set ⟨0, 0, 0, 0⟩).cells
  refine ⟨.tuple #[bxV ⟨0, 0, 0, 0⟩, .int .i64 E], ?_, rfl, ?_⟩
  · simp [results, Try.f21, go_sem, bxV, z0, z1, z2, z3]
  · exact Kp.trans' (Kp.trans (by (repeat (first | exact Kp.refl _ _ | assumption | refine Kp.drew ?_ | refine Kp.drewN ?_ _ | refine Kp.alloc ?_ _ | (refine Kp.setCell ?_ (by first | (left; simp; done) | (right; simp; try omega)) _) | (refine Kp.trans' ?_ (by assumption) (by simp; try omega))))) HK1.out) (set4Kp w1 w.heap.size _ _ _ _) (fun t ht => by simp at ht; subst ht; exact .inr (Nat.le_refl _))
theorem fbox_calls (v : Value) (L : List (List (Int × Int))) (w : World) (hv : IsFl w v L) (hs : smF L) : Calls Try.prog 21 #[v] w fun e w' => e = .returned (.tuple #[bxV (boxF L).1, .int .i64 (boxF L).2]) ∧ Kp [] w w' := by
  by_cases hm : mayF L = 0
  · exact fbox_ok v L w hv hs hm
  · have he : boxF L = (⟨0, 0, 0, 0⟩, mayF L) := by unfold boxF; rw [if_pos hm]
    rw [he]
    exact fbox_no v L w hv hs _ rfl hm
/-- The area, contour by contour. -/
def crossP (a b : Int × Int) : Int := a.1 * b.2 - b.1 * a.2
def chS (c : List (Int × Int)) : Nat → Int
  | 0 => 0
  | j + 1 => chS c j + crossP (c.getD j (0, 0)) (c.getD (j + 1) (0, 0))
def areaC (c : List (Int × Int)) : Int := if c.length = 0 then 0 else chS c (c.length - 1) + crossP (c.getD (c.length - 1) (0, 0)) (c.getD 0 (0, 0))
def areaTo (L : List (List (Int × Int))) : Nat → Int
  | 0 => 0
  | j + 1 => areaTo L j + areaC (L.getD j [])
def areaF (L : List (List (Int × Int))) : Int × Int := if mayF L ≠ 0 then (0, mayF L) else (areaTo L L.length, 0)
/-- The program's sum at dot m. -/
def pS (c : List (Int × Int)) : Nat → Int
  | 0 => 0
  | m + 1 => crossP (c.getD (c.length - 1) (0, 0)) (c.getD 0 (0, 0)) + chS c m
def lastP (c : List (Int × Int)) : Nat → Int × Int
  | 0 => c.getD (c.length - 1) (0, 0)
  | m + 1 => c.getD m (0, 0)
theorem pS_succ (c : List (Int × Int)) (m : Nat) : pS c (m + 1) = pS c m + crossP (lastP c m) (c.getD m (0, 0)) := by
  cases m with
  | zero => simp [pS, lastP, chS]
  | succ m => simp only [pS, lastP, chS]; omega
theorem pS_end (c : List (Int × Int)) (h : 0 < c.length) : pS c c.length = areaC c := by
  obtain ⟨n, hn⟩ : ∃ n, c.length = n + 1 := ⟨c.length - 1, by omega⟩
  unfold areaC
  rw [if_neg (by omega), hn]
  simp only [pS, hn, Nat.add_sub_cancel]
  omega
theorem dot_mul {a b : Int} (ha : -1048576 ≤ a ∧ a ≤ 1048576) (hb : -1048576 ≤ b ∧ b ≤ 1048576) : -1099511627776 ≤ a * b ∧ a * b ≤ 1099511627776 := by
  have key : ∀ x y : Int, 0 ≤ x → x ≤ 1048576 → 0 ≤ y → y ≤ 1048576 → 0 ≤ x * y ∧ x * y ≤ 1099511627776 := fun x y h1 h2 h3 h4 => ⟨Int.mul_nonneg h1 h3, by have := Int.mul_le_mul h2 h4 h3 (by omega : (0 : Int) ≤ 1048576); omega⟩
  by_cases h1 : 0 ≤ a
  · by_cases h2 : 0 ≤ b
    · have := key a b h1 ha.2 h2 hb.2; omega
    · have := key a (-b) h1 ha.2 (by omega) (by omega); rw [Int.mul_neg] at this; omega
  · by_cases h2 : 0 ≤ b
    · have := key (-a) b (by omega) (by omega) h2 hb.2; rw [Int.neg_mul] at this; omega
    · have := key (-a) (-b) (by omega) (by omega) (by omega) (by omega); rw [Int.neg_mul_neg] at this; omega
theorem cross_le {p q : Int × Int} (hp : dotQ p = true) (hq : dotQ q = true) : -2199023255552 ≤ crossP p q ∧ crossP p q ≤ 2199023255552 := by
  obtain ⟨p1, p2⟩ := dotQ_iff.1 hp
  obtain ⟨q1, q2⟩ := dotQ_iff.1 hq
  have a := dot_mul p1 q2
  have b := dot_mul q1 p2
  unfold crossP; omega
theorem getD_dot {c : List (Int × Int)} (h : ∀ q ∈ c, dotQ q = true) (i : Nat) : dotQ (c.getD i (0, 0)) = true := by
  rw [List.getD_eq_getElem?_getD]
  cases hc : c[i]? with
  | none => rfl
  | some q => obtain ⟨hi, e⟩ := List.getElem?_eq_some_iff.1 hc; exact h q (e ▸ List.getElem_mem hi)
theorem lastP_dot {c : List (Int × Int)} (h : ∀ q ∈ c, dotQ q = true) (m : Nat) : dotQ (lastP c m) = true := by
  cases m <;> exact getD_dot h _
theorem pS_le {c : List (Int × Int)} (h : ∀ q ∈ c, dotQ q = true) : ∀ m : Nat, -((m : Int) * 2199023255552) ≤ pS c m ∧ pS c m ≤ (m : Int) * 2199023255552 := by
  intro m
  induction m with
  | zero => simp [pS]
  | succ m ih =>
    have := cross_le (lastP_dot h m) (getD_dot h m)
    rw [pS_succ]; push_cast; omega
theorem chS_le {c : List (Int × Int)} (h : ∀ q ∈ c, dotQ q = true) : ∀ m : Nat, -((m : Int) * 2199023255552) ≤ chS c m ∧ chS c m ≤ (m : Int) * 2199023255552 := by
  intro m
  induction m with
  | zero => simp [chS]
  | succ m ih =>
    have := cross_le (getD_dot h m) (getD_dot h (m + 1))
    rw [chS]; push_cast; omega
theorem areaC_le {c : List (Int × Int)} (h : ∀ q ∈ c, dotQ q = true) : -((c.length : Int) * 2199023255552) ≤ areaC c ∧ areaC c ≤ (c.length : Int) * 2199023255552 := by
  by_cases h0 : c.length = 0
  · unfold areaC; rw [if_pos h0, h0]; simp
  · rw [← pS_end c (by omega)]; exact pS_le h _
theorem mem_flTo {L : List (List (Int × Int))} {j : Nat} (hj : j < L.length) : ∀ q ∈ L.getD j [], q ∈ flTo L L.length := by
  intro q hq
  unfold flTo
  rw [List.take_length, List.mem_flatten]
  refine ⟨L.getD j [], ?_, hq⟩
  rw [List.getD_eq_getElem?_getD, List.getElem?_eq_getElem hj]; exact List.getElem_mem hj
theorem areaTo_le {L : List (List (Int × Int))} (h : ∀ q ∈ flTo L L.length, dotQ q = true) : ∀ j, j ≤ L.length → -((fcntTo L j : Int) * 2199023255552) ≤ areaTo L j ∧ areaTo L j ≤ (fcntTo L j : Int) * 2199023255552 := by
  intro j
  induction j with
  | zero => intro _; simp [areaTo, fcntTo]
  | succ j ih =>
    intro hj
    have a := ih (by omega)
    have b := areaC_le (c := L.getD j []) (fun q hq => h q (mem_flTo (by omega) q hq))
    rw [areaTo, fcntTo]; push_cast; omega
theorem mayF_cnt {L : List (List (Int × Int))} (h : mayF L = 0) : fcnt L ≤ 65536 := by
  unfold mayF at h
  by_cases h1 : 65536 < fcnt L
  · rw [if_pos h1] at h; cases h
  · omega
/-- One step of the sum stays within 64 bits. -/
theorem area_step {S : Int} {p q : Int × Int} (hp : dotQ p = true) (hq : dotQ q = true) (hS : -288230376151711744 ≤ S ∧ S ≤ 288230376151711744) :
    IntKind.i64.wrap (p.1 * q.2) = p.1 * q.2 ∧ IntKind.i64.wrap (q.1 * p.2) = q.1 * p.2 ∧ IntKind.i64.wrap (p.1 * q.2 - q.1 * p.2) = p.1 * q.2 - q.1 * p.2 ∧ IntKind.i64.wrap (S + (p.1 * q.2 - q.1 * p.2)) = S + (p.1 * q.2 - q.1 * p.2) := by
  obtain ⟨p1, p2⟩ := dotQ_iff.1 hp
  obtain ⟨q1, q2⟩ := dotQ_iff.1 hq
  have a := dot_mul p1 q2
  have b := dot_mul q1 p2
  exact ⟨wrI _ (by omega) (by omega), wrI _ (by omega) (by omega), wrI _ (by omega) (by omega), wrI _ (by omega) (by omega)⟩
set_option maxRecDepth 100000 in
set_option maxHeartbeats 4000000 in
theorem farea_no (v : Value) (L : List (List (Int × Int))) (w : World) (hv : IsFl w v L) (hs : smF L) (E : Int) (hm : mayF L = E) (hE : E ≠ 0) : Calls Try.prog 22 #[v] w fun e w' => e = .returned (.tuple #[.int .i64 0, .int .i64 E]) ∧ Kp [] w w' := by
  have HMY := Lib.hid (fmay_flat v L w hv hs)
  rw [hm] at HMY
  obtain ⟨pa, ca, rfl⟩ := hv.form
  generalize L.length = N at *
  have hb : (E != 0) = true := by simpa using hE
  clear hv hs hm
  go_enter Try.func22, Try.ntmps22
  go_wp2_with fail
  refine HMY.out.mono ?_; rintro e w1 ⟨rfl, hk1⟩
  clear HMY
  go_wp2_with fail
  go_ret2
  exact ⟨rfl, by (repeat (first | exact Kp.refl _ _ | assumption | refine Kp.drew ?_ | refine Kp.drewN ?_ _ | refine Kp.alloc ?_ _ | (refine Kp.setCell ?_ (by first | (left; simp; done) | (right; simp; try omega)) _) | (refine Kp.trans' ?_ (by assumption) (by simp; try omega))))⟩
set_option maxRecDepth 100000 in
set_option maxHeartbeats 4000000 in
theorem farea_ok (v : Value) (L : List (List (Int × Int))) (w : World) (hv : IsFl w v L) (hs : smF L) (hm : mayF L = 0) : Calls Try.prog 22 #[v] w fun e w' => e = .returned (.tuple #[.int .i64 (areaTo L L.length), .int .i64 0]) ∧ Kp [] w w' := by
  have HMY := Lib.hid (fmay_flat v L w hv hs)
  rw [hm] at HMY
  have hle := hv.le
  unfold maxLen at hle
  have HV := Lib.hid hv
  have HTL := (mayF_facts hm).2
  have HAB := Lib.hid (areaTo_le HTL)
  have HDT : Hid (∀ j, j < L.length → ∀ q ∈ L.getD j [], dotQ q = true) := fun j hj q hq => HTL q (mem_flTo hj q hq)
  have HCT : Hid (∀ j, j ≤ L.length → fcntTo L j ≤ 65536) := fun j hj => Nat.le_trans (fcntTo_le L hj) (mayF_cnt hm)
  obtain ⟨pa, ca, rfl⟩ := hv.form
  obtain ⟨N, hN⟩ : ∃ N, L.length = N := ⟨_, rfl⟩
  have HN := Lib.hid hN
  rw [hN] at HV HMY HAB HDT HCT hle ⊢
  clear hv hs hm HTL hN
  go_enter Try.func22, Try.ntmps22
  go_wp2_with fail
  refine HMY.out.mono ?_; rintro e w1 ⟨rfl, hk1⟩
  have HK1 := Lib.hid hk1
  have HV1 := Lib.hid (HV.out.kp0 hk1)
  clear hk1 HMY HV
  go_wp2_with fail
  go_loopw [5, 7, 8, 10, 18] (fun s _ _ _ i wr => ∃ j : Nat, j ≤ N ∧ i = .int .i64 j ∧ s = .int .i64 (areaTo L j) ∧ Hid (Kp [] w1 wr)) (fun _ _ _ _ i _ => N - (intOf i).toNat)
  case atStart => exact ⟨0, by omega, rfl, rfl, Kp.refl _ _⟩
  case round =>
    obtain ⟨j, hj, rfl, rfl, HK⟩ := hrel
    by_cases hlt : j < N
    · have hjo : j < L.length := by rw [HN.out]; exact hlt
      obtain ⟨g1, o1, cc, p1, cv, e1, _, _, h1, hp⟩ := (HV1.out.kp0 HK.out).row hjo
      rw [HN.out] at e1
      cases e1
      have HD := Lib.hid (HDT.out j hlt)
      have HA1 := Lib.hid (HAB.out j hj)
      have HC : Hid (fcntTo L (j + 1) = fcntTo L j + (L.getD j []).length ∧ fcntTo L (j + 1) ≤ 65536) := ⟨rfl, HCT.out (j + 1) (by omega)⟩
      have HS : Hid (areaTo L (j + 1) = areaTo L j + areaC (L.getD j [])) := rfl
      have HP : Hid (∀ W, Kp [] wr W → IsPairs W (.slice p1 (L.getD j []).length cv) (L.getD j [])) := fun W hW => hp.kp0 hW
      have HPE := Lib.hid (pS_end (L.getD j []))
      generalize L.getD j [] = c at *
      obtain ⟨K, hK⟩ : ∃ K, c.length = K := ⟨_, rfl⟩
      have HKK := Lib.hid hK
      rw [hK] at h1 HC HP HPE
      have hK65 : K ≤ 65536 := by have := HC.out; omega
      by_cases hK0 : K = 0
      · have HZ : Hid (areaTo L (j + 1) = areaTo L j) := by show _ = _; rw [HS.out]; unfold areaC; rw [if_pos (by omega)]; omega
        subst hK0
        clear hp hK HD HA1 HC HS HP HPE HAB HDT HCT
        go_wp2_with fail
        go_roundw
        case rel => first | exact ⟨j + 1, by omega, int_eq' (by omega), int_eq' HZ.out.symm, HK⟩ | ((repeat apply Exists.intro); exact ⟨⟨j + 1, by omega, int_eq' (by omega), int_eq' HZ.out.symm, HK⟩, rfl⟩)
        case measure => simp [intOf]; omega
      · have hKp : 0 < K := by omega
        have hKz : ((K : Int) == 0) = false := by rw [beq_eq_false_iff_ne]; omega
        obtain ⟨g2, o2, c2, e2, _, _, x9, y9⟩ := (HP.out wr (Kp.refl _ _)).row (i := K - 1) (by rw [HKK.out]; omega)
        rw [HKK.out] at e2
        cases e2
        have HLP : Hid (c.getD (K - 1) (0, 0) = lastP c 0) := by show _ = _; rw [← HKK.out]; rfl
        rw [HLP.out] at x9 y9
        have hk1' : ((K : Int) - 1).toNat = K - 1 := by omega
        have hk2' : ((K - 1 : Nat) : Int) = (K : Int) - 1 := by omega
        have HX := Lib.hid x9
        have HY := Lib.hid y9
        clear hp hK
        go_wp2_with fail
        refine wp_gen ?_; intro W0 hW0
        have hB0 : DtAt W0 wr.heap.size (lastP c 0).1 (lastP c 0).2 := by rw [hW0]; exact heap_alloc_new wr _
        have hK0 : Kp [] wr W0 := by rw [hW0]; (repeat (first | exact Kp.refl _ _ | assumption | refine Kp.drew ?_ | refine Kp.drewN ?_ _ | refine Kp.alloc ?_ _ | (refine Kp.setCell ?_ (by first | (left; simp; done) | (right; simp; try omega)) _) | (refine Kp.trans' ?_ (by assumption) (by simp; try omega))))
        obtain ⟨B, hB⟩ : ∃ B, wr.heap.size = B := ⟨_, rfl⟩
        have HB := Lib.hid hB
        rw [hB] at hB0 ⊢
        have HI0 : Hid (DtAt W0 B (lastP c 0).1 (lastP c 0).2 ∧ Kp [] wr W0) := ⟨hB0, hK0⟩
        clear hW0 hB0 hK0 hB x9 y9 HX HY HLP hk1' hk2'
        obtain ⟨wA, hwA⟩ : ∃ wA, wA = wr := ⟨_, rfl⟩
        subst hwA
        go_loopw [5, 10, 33] (fun s _ i wr => ∃ m : Nat, m ≤ K ∧ i = .int .i64 m ∧ s = .int .i64 (areaTo L j + pS c m) ∧ Hid (DtAt wr B (lastP c m).1 (lastP c m).2 ∧ Kp [] wA wr)) (fun _ _ i _ => K - (intOf i).toNat)
        case atStart => exact ⟨0, by omega, rfl, by simp [pS], HI0.out⟩
        case round =>
          obtain ⟨m, hm, rfl, rfl, HI⟩ := hrel
          clear HI0
          by_cases hml : m < K
          · obtain ⟨g3, o3, c3, e3, _, _, x1, y1⟩ := (HP.out _ HI.out.2).row (i := m) (by rw [HKK.out]; exact hml)
            rw [HKK.out] at e3
            cases e3
            have hS : -288230376151711744 ≤ areaTo L j + pS c m ∧ areaTo L j + pS c m ≤ 288230376151711744 := by
              have a := HA1.out
              have b := pS_le HD.out m
              have d := HC.out
              omega
            have HST := Lib.hid (area_step (S := areaTo L j + pS c m) (lastP_dot HD.out m) (getD_dot HD.out m) hS)
            have HNX : Hid (areaTo L j + pS c (m + 1) = areaTo L j + pS c m + ((lastP c m).1 * (c.getD m (0, 0)).2 - (c.getD m (0, 0)).1 * (lastP c m).2)) := by show _ = _; rw [pS_succ]; unfold crossP; omega
            have HLN : Hid (lastP c (m + 1) = c.getD m (0, 0)) := rfl
            generalize areaTo L j + pS c m = Sm at *
            generalize lastP c m = lp at *
            generalize c.getD m (0, 0) = q at *
            obtain ⟨l1, l2⟩ := lp
            obtain ⟨q1, q2⟩ := q
            have hka : Kp [] wr (wr.alloc (.cells #[.int .i64 q1, .int .i64 q2] 27)) := (Kp.refl _ _).alloc _
            have HBA := Lib.hid (HI.out.1.kp0 hka)
            obtain ⟨b0, b1, f0, f1⟩ := HBA.out.cells
            have HKA : Hid (Kp [] wA (wr.alloc (.cells #[.int .i64 q1, .int .i64 q2] 27))) := HI.out.2.trans hka
            obtain ⟨s1, s2, s3, s4⟩ := HST.out
            dsimp only at s1 s2 s3 s4 b0 b1
            clear hka hS HI
            go_wp2_with fail
            have HFN : Hid (DtAt (((wr.alloc (.cells #[.int .i64 q1, .int .i64 q2] 27)).setCell ⟨B, 0, none⟩ (.int .i64 q1)).setCell ⟨B, 1, none⟩ (.int .i64 q2)) B (lastP c (m + 1)).1 (lastP c (m + 1)).2 ∧ Kp [] wA (((wr.alloc (.cells #[.int .i64 q1, .int .i64 q2] 27)).setCell ⟨B, 0, none⟩ (.int .i64 q1)).setCell ⟨B, 1, none⟩ (.int .i64 q2))) := by
              rw [HLN.out]
              exact ⟨HBA.out.set _ _, (HKA.out.setCell (.inr (by show _ ≤ B; rw [HB.out]; exact Nat.le_refl _)) _).setCell (.inr (by show _ ≤ B; rw [HB.out]; exact Nat.le_refl _)) _⟩
            clear s1 s2 s3 s4 HST
            go_roundw
            case rel => first | exact ⟨m + 1, by omega, int_eq' (by omega), int_eq' HNX.out.symm, HFN.out⟩ | ((repeat apply Exists.intro); exact ⟨⟨m + 1, by omega, int_eq' (by omega), int_eq' HNX.out.symm, HFN.out⟩, rfl⟩)
            case measure => simp [intOf]; omega
          · obtain rfl : m = K := by omega
            have HZ : Hid (areaTo L (j + 1) = areaTo L j + pS c m) := by show _ = _; rw [HS.out, HPE.out hKp]
            have HKF : Hid (Kp [] w1 wr) := HK.out.trans HI.out.2
            clear HI HA1 HC HS HP HPE HD
            go_wp2_with fail
            go_roundw
            case rel => first | exact ⟨j + 1, by omega, int_eq' (by omega), int_eq' HZ.out.symm, HKF⟩ | ((repeat apply Exists.intro); exact ⟨⟨j + 1, by omega, int_eq' (by omega), int_eq' HZ.out.symm, HKF⟩, rfl⟩)
            case measure => simp [intOf] <;> omega
    · obtain rfl : j = N := by omega
      clear HAB HDT HCT
      go_wp2_with fail
      go_ret2
      exact ⟨rfl, HK1.out.trans HK.out⟩
theorem farea_calls (v : Value) (L : List (List (Int × Int))) (w : World) (hv : IsFl w v L) (hs : smF L) : Calls Try.prog 22 #[v] w fun e w' => e = .returned (.tuple #[.int .i64 (areaF L).1, .int .i64 (areaF L).2]) ∧ Kp [] w w' := by
  by_cases hm : mayF L = 0
  · have he : areaF L = (areaTo L L.length, 0) := by unfold areaF; rw [if_neg (by simp [hm])]
    rw [he]; exact farea_ok v L w hv hs hm
  · have he : areaF L = (0, mayF L) := by unfold areaF; rw [if_pos hm]
    rw [he]; exact farea_no v L w hv hs _ rfl hm
end Go.Proofs.Ytpbmefojhgcniaa
namespace Go.Proofs.Ytpbmefojhgcniaa
open Go.RowKit
set_option linter.unusedVariables false
set_option linter.unusedSimpArgs false
theorem dt_ne {p q : Int × Int} (h : ¬ p = q) : p.1 ≠ q.1 ∨ (p.1 = q.1 ∧ p.2 ≠ q.2) := by
  by_cases h1 : p.1 = q.1
  · exact .inr ⟨h1, fun h2 => h (Prod.ext h1 h2)⟩
  · exact .inl h1
set_option maxRecDepth 100000 in
set_option maxHeartbeats 4000000 in
theorem fsame_calls (va vb : Value) (a b : List (List (Int × Int))) (w : World) (ha : IsFl w va a) (hb : IsFl w vb b) :
    Calls Try.prog 18 #[va, vb] w fun e w' => e = .returned (.bool (decide (a = b))) ∧ Kp [] w w' := by
  have hla := ha.le
  have hlb := hb.le
  unfold maxLen at hla hlb
  obtain ⟨pa, ca, rfl⟩ := ha.form
  obtain ⟨pb, cb, rfl⟩ := hb.form
  have HA := Lib.hid ha
  have HB := Lib.hid hb
  clear ha hb
  by_cases hl : a.length = b.length
  · obtain ⟨N, hN⟩ : ∃ N, b.length = N := ⟨_, rfl⟩
    have HN1 : Hid (a.length = N) := by show _ = _; rw [hl, hN]
    have HN2 := Lib.hid hN
    have HQ : Hid (eqTo [] a b N → decide (a = b) = true) := fun h => decide_eq_true (eq_of_all [] a b hl (by rw [hl, hN]; exact h))
    have HR : Hid (∀ t, a.getD t [] ≠ b.getD t [] → decide (a = b) = false) := fun t h => decide_eq_false (ne_of_at [] a b t h)
    rw [hl, hN] at HA
    rw [hl, hN]
    rw [hN] at HB hlb
    generalize decide (a = b) = R at *
    clear hl hN hla
    go_enter Try.func18, Try.ntmps18
    go_wp2_with fail
    go_loopw [5, 6] (fun i _ wr => ∃ j : Nat, j ≤ N ∧ i = .int .i64 j ∧ Hid (eqTo [] a b j ∧ Kp [] w wr)) (fun i _ _ => N - (intOf i).toNat)
    case atStart => exact ⟨0, by omega, rfl, fun t ht => absurd ht (by omega), Kp.refl _ _⟩
    case round =>
      obtain ⟨j, hj, rfl, HJ⟩ := hrel
      by_cases hlt : j < N
      · obtain ⟨g1, o1, c1, p1, cv1, e1, _, _, h1, hp1⟩ := (HA.out.kp0 HJ.out.2).row (i := j) (by rw [HN1.out]; exact hlt)
        obtain ⟨g2, o2, c2, p2, cv2, e2, _, _, h2, hp2⟩ := (HB.out.kp0 HJ.out.2).row (i := j) (by rw [HN2.out]; exact hlt)
        rw [HN1.out] at e1
        rw [HN2.out] at e2
        cases e1; cases e2
        have HP1 := Lib.hid hp1
        have HP2 := Lib.hid hp2
        have HR2 := Lib.hid (HR.out j)
        have HSU : Hid (a.getD j [] = b.getD j [] → eqTo [] a b (j + 1)) := fun h => eqTo_succ HJ.out.1 h
        have hm1 := hp1.le
        have hm2 := hp2.le
        unfold maxLen at hm1 hm2
        clear hp1 hp2
        generalize a.getD j [] = A at *
        generalize b.getD j [] = B at *
        by_cases hL : A.length = B.length
        · have HQ2 : Hid (eqTo (0, 0) A B B.length → A = B) := fun h => eq_of_all (0, 0) A B hL (by rw [hL]; exact h)
          have HR3 : Hid (∀ t, A.getD t (0, 0) ≠ B.getD t (0, 0) → R = false) := fun t h => HR2.out (ne_of_at (0, 0) A B t h)
          obtain ⟨L, hBL⟩ : ∃ L, B.length = L := ⟨_, rfl⟩
          have HL1 : Hid (A.length = L) := by show _ = _; rw [hL, hBL]
          have HL2 := Lib.hid hBL
          rw [hL, hBL] at h1 HP1
          rw [hBL] at h2 HP2 HQ2 hm2
          clear hL hBL HR2 hm1
          go_wp2_with fail
          go_quiet (fail)
          go_wp2_with fail
          go_loopw [6] (fun i wq => ∃ k : Nat, k ≤ L ∧ i = .int .i64 k ∧ Hid (eqTo (0, 0) A B k ∧ Kp [] wr wq)) (fun i _ => L - (intOf i).toNat)
          case atStart => exact ⟨0, by omega, rfl, fun t ht => absurd ht (by omega), by (repeat (first | exact Kp.refl _ _ | assumption | refine Kp.drew ?_ | refine Kp.drewN ?_ _ | refine Kp.alloc ?_ _ | (refine Kp.setCell ?_ (by first | (left; simp; done) | (right; simp; try omega)) _) | (refine Kp.trans' ?_ (by assumption) (by simp; try omega))))⟩
          case round =>
            obtain ⟨k, hk, rfl, HJ2⟩ := hrel
            have hr1 := HJ2.out.2.cell h1 (by simp)
            have hr2 := HJ2.out.2.cell h2 (by simp)
            by_cases hk2 : k < L
            · obtain ⟨g3, o3, c3, e3, _, _, x1, y1⟩ := (HP1.out.kp0 HJ2.out.2).row (i := k) (by rw [HL1.out]; exact hk2)
              obtain ⟨g4, o4, c4, e4, _, _, x2, y2⟩ := (HP2.out.kp0 HJ2.out.2).row (i := k) (by rw [HL2.out]; exact hk2)
              rw [HL1.out] at e3
              rw [HL2.out] at e4
              cases e3; cases e4
              by_cases hpq : A.getD k (0, 0) = B.getD k (0, 0)
              · have HT := Lib.hid (eqTo_succ HJ2.out.1 hpq)
                rw [hpq] at x1 y1
                generalize B.getD k (0, 0) = p at *
                clear hpq
                go_wp2_with fail
                go_quiet (fail)
                go_wp2_with fail
                go_roundw
                case rel => first | exact ⟨k + 1, by omega, int_eq' (by omega), HT.out, HJ2.out.2.trans (by (repeat (first | exact Kp.refl _ _ | assumption | refine Kp.drew ?_ | refine Kp.drewN ?_ _ | refine Kp.alloc ?_ _ | (refine Kp.setCell ?_ (by first | (left; simp; done) | (right; simp; try omega)) _) | (refine Kp.trans' ?_ (by assumption) (by simp; try omega)))))⟩ | ((repeat apply Exists.intro); exact ⟨⟨k + 1, by omega, int_eq' (by omega), HT.out, HJ2.out.2.trans (by (repeat (first | exact Kp.refl _ _ | assumption | refine Kp.drew ?_ | refine Kp.drewN ?_ _ | refine Kp.alloc ?_ _ | (refine Kp.setCell ?_ (by first | (left; simp; done) | (right; simp; try omega)) _) | (refine Kp.trans' ?_ (by assumption) (by simp; try omega)))))⟩, rfl⟩)
                case measure => simp [intOf]; omega
              · have HF := Lib.hid (HR3.out k hpq)
                have hne := dt_ne hpq
                clear hpq
                generalize B.getD k (0, 0) = p at *
                generalize A.getD k (0, 0) = q at *
                obtain ⟨qx, qy⟩ := q
                obtain ⟨px, py⟩ := p
                dsimp only at hne x1 y1 x2 y2
                rcases hne with h9 | ⟨rfl, h9⟩
                all_goals
                  go_wp2_with fail
                  go_quiet (fail)
                  go_wp2_with fail
                  go_ret
                  exact ⟨by rw [HF.out]; rfl, HJ.out.2.trans (HJ2.out.2.trans (by (repeat (first | exact Kp.refl _ _ | assumption | refine Kp.drew ?_ | refine Kp.drewN ?_ _ | refine Kp.alloc ?_ _ | (refine Kp.setCell ?_ (by first | (left; simp; done) | (right; simp; try omega)) _) | (refine Kp.trans' ?_ (by assumption) (by simp; try omega))))))⟩
            · obtain rfl : k = L := by omega
              have HT := Lib.hid (HSU.out (HQ2.out HJ2.out.1))
              have HK := Lib.hid (HJ.out.2.trans HJ2.out.2)
              go_wp2_with fail
              go_roundw
              case rel => first | exact ⟨j + 1, by omega, int_eq' (by omega), HT.out, HK.out⟩ | ((repeat apply Exists.intro); exact ⟨⟨j + 1, by omega, int_eq' (by omega), HT.out, HK.out⟩, rfl⟩)
              case measure => simp [intOf]; omega
        · have HF := Lib.hid (HR2.out (fun h => hL (by rw [h])))
          have hl2 : ((A.length : Int) != (B.length : Int)) = true := by simp; omega
          go_wp2_with fail
          go_quiet (fail)
          go_wp2_with fail
          go_ret
          exact ⟨by rw [HF.out]; rfl, HJ.out.2.trans (by (repeat (first | exact Kp.refl _ _ | assumption | refine Kp.drew ?_ | refine Kp.drewN ?_ _ | refine Kp.alloc ?_ _ | (refine Kp.setCell ?_ (by first | (left; simp; done) | (right; simp; try omega)) _) | (refine Kp.trans' ?_ (by assumption) (by simp; try omega)))))⟩
      · obtain rfl : j = N := by omega
        have HT := Lib.hid (HQ.out HJ.out.1)
        go_wp2_with fail
        go_ret
        exact ⟨by rw [HT.out]; rfl, HJ.out.2⟩
  · have HF : Hid (decide (a = b) = false) := decide_eq_false (fun h => hl (by rw [h]))
    generalize decide (a = b) = R at *
    have hl2 : ((a.length : Int) != (b.length : Int)) = true := by simp; omega
    go_enter Try.func18, Try.ntmps18
    go_wp2_with fail
    go_ret
    exact ⟨by rw [HF.out]; rfl, Kp.refl _ _⟩

set_option maxRecDepth 100000 in
set_option maxHeartbeats 4000000 in
theorem rfcount_few (v : Value) (L : List (List (Int × Int))) (w : World) (hv : IsFl w v L) (hs : smF L) (hN5 : L.length ≤ 5000) : Calls Try.prog 20 #[v] w fun e w' => e = .returned (.int .i64 (fcnt L : Nat)) ∧ Kp [] w w' := by
  have hle := hv.le
  unfold maxLen at hle
  have HV := Lib.hid hv
  have HS := Lib.hid hs
  have HB : Hid (∀ j, j ≤ L.length → fcntTo L j ≤ j * 1125899906842624) := by
    intro j
    induction j with
    | zero => intro _; simp [fcntTo]
    | succ j ih => intro hj; have a := ih (by omega); have b := hs j (by omega); rw [fcntTo]; omega
  have HE : Hid (fcntTo L L.length = fcnt L) := rfl
  obtain ⟨pa, ca, rfl⟩ := hv.form
  obtain ⟨N, hN⟩ : ∃ N, L.length = N := ⟨_, rfl⟩
  have HN := Lib.hid hN
  rw [hN] at HV HB HE hle hN5 ⊢
  clear hv hs hN
  go_enter Try.func20, Try.ntmps20
  go_wp2_with fail
  go_loopw [3, 4] (fun n i wr => ∃ j : Nat, j ≤ N ∧ i = .int .i64 j ∧ n = .int .i64 (fcntTo L j : Nat) ∧ Hid (Kp [] w wr)) (fun _ i _ => N - (intOf i).toNat)
  case atStart => exact ⟨0, by omega, rfl, rfl, Kp.refl _ _⟩
  case round =>
    obtain ⟨j, hj, rfl, rfl, HK⟩ := hrel
    by_cases hlt : j < N
    · obtain ⟨g1, o1, cc, p1, cv, e1, _, _, h1, hp⟩ := (HV.out.kp0 HK.out).row (i := j) (by rw [HN.out]; exact hlt)
      rw [HN.out] at e1
      cases e1
      have hb := HB.out j hj
      have hb2 := HS.out j (by rw [HN.out]; exact hlt)
      have HC : Hid (fcntTo L (j + 1) = fcntTo L j + (L.getD j []).length) := rfl
      generalize (L.getD j []).length = K at *
      generalize fcntTo L j = C at *
      have hC : C ≤ 5629499534213120000 := by omega
      clear hp hb
      go_wp2_with fail
      go_roundw
      case rel => first | exact ⟨j + 1, by omega, int_eq' (by omega), int_eq' (by rw [HC.out]; push_cast; rfl), HK⟩ | ((repeat apply Exists.intro); exact ⟨⟨j + 1, by omega, int_eq' (by omega), int_eq' (by rw [HC.out]; push_cast; rfl), HK⟩, rfl⟩)
      case measure => simp [intOf]; omega
    · obtain rfl : j = N := by omega
      rw [HE.out]
      go_wp2_with fail
      go_ret
      exact ⟨rfl, HK.out⟩
set_option maxRecDepth 100000 in
set_option maxHeartbeats 4000000 in
theorem rfcount_any (v : Value) (L : List (List (Int × Int))) (w : World) (hv : IsFl w v L) : Calls Try.prog 20 #[v] w fun e w' => (∃ n : Int, e = .returned (.int .i64 n)) ∧ Kp [] w w' := by
  have hle := hv.le
  unfold maxLen at hle
  have HV := Lib.hid hv
  obtain ⟨pa, ca, rfl⟩ := hv.form
  obtain ⟨N, hN⟩ : ∃ N, L.length = N := ⟨_, rfl⟩
  have HN := Lib.hid hN
  rw [hN] at HV hle ⊢
  clear hv hN
  go_enter Try.func20, Try.ntmps20
  go_wp2_with fail
  go_loopw [3, 4] (fun n i wr => ∃ (j : Nat) (k : Int), j ≤ N ∧ i = .int .i64 j ∧ n = .int .i64 k ∧ Hid (Kp [] w wr)) (fun _ i _ => N - (intOf i).toNat)
  case atStart => exact ⟨0, 0, by omega, rfl, rfl, Kp.refl _ _⟩
  case round =>
    obtain ⟨j, k, hj, rfl, rfl, HK⟩ := hrel
    by_cases hlt : j < N
    · obtain ⟨g1, o1, cc, p1, cv, e1, _, _, h1, hp⟩ := (HV.out.kp0 HK.out).row (i := j) (by rw [HN.out]; exact hlt)
      rw [HN.out] at e1
      cases e1
      generalize (L.getD j []).length = K at *
      obtain ⟨S, hS⟩ : ∃ S, IntKind.i64.wrap (k + (K : Int)) = S := ⟨_, rfl⟩
      clear hp
      go_wp2_with fail
      go_roundw
      case rel => first | exact ⟨j + 1, _, by omega, int_eq' (by omega), rfl, HK⟩ | ((repeat apply Exists.intro); exact ⟨⟨j + 1, _, by omega, int_eq' (by omega), rfl, HK⟩, rfl⟩)
      case measure => simp [intOf]; omega
    · obtain rfl : j = N := by omega
      go_wp2_with fail
      go_ret
      exact ⟨⟨_, rfl⟩, HK.out⟩
end Go.Proofs.Ytpbmefojhgcniaa
namespace Go.Proofs.Ytpbmefojhgcniaa
open Go.RowKit
set_option linter.unusedVariables false
set_option linter.unusedSimpArgs false
theorem flTo_at (L : List (List (Int × Int))) : ∀ j, j < L.length → ∀ m, m < (L.getD j []).length → (flTo L L.length).getD (fcntTo L j + m) (0, 0) = (L.getD j []).getD m (0, 0) := by
  have hlen : ∀ j, j ≤ L.length → (flTo L j).length = fcntTo L j := by
    intro j
    induction j with
    | zero => intro _; rfl
    | succ j ih => intro hj; rw [flTo_succ L j (by omega), List.length_append, ih (by omega), fcntTo]
  intro j hj m hm
  obtain ⟨t, ht⟩ := flTo_pre L j (L.getD j []).length hj (Nat.le_refl _)
  rw [List.take_length] at ht
  rw [← ht, List.append_assoc, List.getD_eq_getElem?_getD, List.getElem?_append_right (by rw [hlen j (by omega)]; omega), hlen j (by omega), Nat.add_sub_cancel_left, List.getElem?_append_left hm, ← List.getD_eq_getElem?_getD]
theorem all_at {T : List (Int × Int)} {n : Nat} (hn : n < T.length) (h : dotQ (T.getD n (0, 0)) = false) : T.all dotQ = false := by
  rw [List.all_eq_false]
  refine ⟨T.getD n (0, 0), ?_, by rw [h]; decide⟩
  rw [List.getD_eq_getElem?_getD, List.getElem?_eq_getElem hn]; exact List.getElem_mem hn
theorem flTo_len (L : List (List (Int × Int))) : (flTo L L.length).length = fcnt L := by
  have hlen : ∀ j, j ≤ L.length → (flTo L j).length = fcntTo L j := by
    intro j
    induction j with
    | zero => intro _; rfl
    | succ j ih => intro hj; rw [flTo_succ L j (by omega), List.length_append, ih (by omega), fcntTo]
  exact hlen _ (Nat.le_refl _)
set_option maxRecDepth 100000 in
set_option maxHeartbeats 4000000 in
theorem rflmay_calls (v : Value) (L : List (List (Int × Int))) (w : World) (hv : IsFl w v L) (hs : smF L) (hN5 : L.length ≤ 5000) : Calls Try.prog 23 #[v] w fun e w' => e = .returned (.int .i64 (mayF L)) ∧ Kp [] w w' := by
  have HC := Lib.hid (rfcount_few v L w hv hs hN5)
  have hle := hv.le
  unfold maxLen at hle
  have HV := Lib.hid hv
  have HS := Lib.hid hs
  have HLE : Hid (∀ j, j < L.length → (L.getD j []).length ≤ 1125899906842624) := hs
  have HT := Lib.hid (flTo_at L)
  have HLN := Lib.hid (flTo_len L)
  have HCM : Hid (∀ j, j ≤ L.length → fcntTo L j ≤ fcnt L) := fun j hj => fcntTo_le L hj
  have HML : Hid (65536 < fcnt L → mayF L = 3) := fun h => if_pos h
  have HM0 : Hid (¬ 65536 < fcnt L → (flTo L L.length).all dotQ = true → mayF L = 0) := fun h h2 => by unfold mayF; rw [if_neg h, if_pos h2]
  have HM1 : Hid (¬ 65536 < fcnt L → (flTo L L.length).all dotQ = false → mayF L = 10) := fun h h2 => by unfold mayF; rw [if_neg h, if_neg (by simp [h2])]
  obtain ⟨pa, ca, rfl⟩ := hv.form
  generalize mayF L = RES at *
  generalize flTo L L.length = T at *
  obtain ⟨N, hN⟩ : ∃ N, L.length = N := ⟨_, rfl⟩
  have HN := Lib.hid hN
  have HCE : Hid (fcntTo L N = fcnt L) := by show _ = _; rw [← hN]; rfl
  rw [hN] at HV HC HCM HT HLE hle ⊢
  clear hv hs hN
  by_cases hc : 65536 < fcnt L
  · have HR := Lib.hid (HML.out hc)
    have hd : decide (65536 < fcnt L) = true := decide_eq_true hc
    have hd2 : decide ((65536 : Int) < (fcnt L : Int)) = true := decide_eq_true (by omega)
    generalize fcnt L = C at *
    go_enter Try.func23, Try.ntmps23
    go_wp2_with fail
    refine HC.out.mono ?_; rintro e w1 ⟨rfl, hk1⟩
    go_wp2_with fail
    go_ret
    exact ⟨by rw [HR.out]; first | done | rfl | simp, by (repeat (first | exact Kp.refl _ _ | assumption | refine Kp.drew ?_ | refine Kp.drewN ?_ _ | refine Kp.alloc ?_ _ | (refine Kp.setCell ?_ (by first | (left; simp; done) | (right; simp; try omega)) _) | (refine Kp.trans' ?_ (by assumption) (by simp; try omega))))⟩
  · have HR0 := Lib.hid (HM0.out hc)
    have HR1 := Lib.hid (HM1.out hc)
    have hd : decide (65536 < fcnt L) = false := decide_eq_false hc
    have hd2 : decide ((65536 : Int) < (fcnt L : Int)) = false := decide_eq_false (by omega)
    generalize fcnt L = C at *
    go_enter Try.func23, Try.ntmps23
    go_wp2_with fail
    refine HC.out.mono ?_; rintro e w1 ⟨rfl, hk1⟩
    have HK1 := Lib.hid hk1
    have HV1 := Lib.hid (HV.out.kp0 hk1)
    clear hk1 HC HV HM0 HM1 HML
    go_wp2_with fail
    go_loopw [3, 4] (fun i _ wr => ∃ j : Nat, j ≤ N ∧ i = .int .i64 j ∧ Hid ((∀ t, t < fcntTo L j → dotQ (T.getD t (0, 0)) = true) ∧ Kp [] w1 wr)) (fun i _ _ => N - (intOf i).toNat)
    case atStart => exact ⟨0, by omega, rfl, fun t ht => absurd ht (by simp [fcntTo]), Kp.refl _ _⟩
    case round =>
      obtain ⟨j, hj, rfl, HJ⟩ := hrel
      by_cases hlt : j < N
      · obtain ⟨g1, o1, cc, p1, cv, e1, _, _, h1, hp⟩ := (HV1.out.kp0 HJ.out.2).row (i := j) (by rw [HN.out]; exact hlt)
        rw [HN.out] at e1
        cases e1
        have HP := Lib.hid hp
        have hL := HLE.out j hlt
        have HTJ := Lib.hid (HT.out j hlt)
        have HCJ : Hid (fcntTo L (j + 1) = fcntTo L j + (L.getD j []).length ∧ fcntTo L (j + 1) ≤ C) := ⟨rfl, HCM.out (j + 1) (by omega)⟩
        generalize L.getD j [] = c at *
        obtain ⟨K, hK⟩ : ∃ K, c.length = K := ⟨_, rfl⟩
        have HKK := Lib.hid hK
        rw [hK] at h1 HP HTJ HCJ hL
        clear hp hK
        obtain ⟨wA, hwA⟩ : ∃ wA, wA = wr := ⟨_, rfl⟩
        subst hwA
        go_wp2_with fail
        go_loopw [4] (fun i wr => ∃ m : Nat, m ≤ K ∧ i = .int .i64 m ∧ Hid ((∀ t, t < fcntTo L j + m → dotQ (T.getD t (0, 0)) = true) ∧ Kp [] wA wr)) (fun i _ => K - (intOf i).toNat)
        case atStart => exact ⟨0, by omega, rfl, fun t ht => HJ.out.1 t (by omega), Kp.refl _ _⟩
        case round =>
          obtain ⟨m, hm, rfl, HI⟩ := hrel
          have h1r := HI.out.2.cell h1 (by simp)
          by_cases hml : m < K
          · obtain ⟨g3, o3, c3, e3, _, _, x1, y1⟩ := (HP.out.kp0 HI.out.2).row (i := m) (by rw [HKK.out]; exact hml)
            rw [HKK.out] at e3
            cases e3
            have htm := HTJ.out m hml
            have HTM := Lib.hid htm
            have htl : fcntTo L j + m < T.length := by rw [HLN.out]; have := HCJ.out; omega
            have HALL : Hid (dotQ (c.getD m (0, 0)) = false → T.all dotQ = false) := fun h => all_at htl (by rw [htm]; exact h)
            have HSU : Hid (dotQ (c.getD m (0, 0)) = true → ∀ t, t < fcntTo L j + (m + 1) → dotQ (T.getD t (0, 0)) = true) := fun h t ht => by
              by_cases e : t < fcntTo L j + m
              · exact HI.out.1 t e
              · obtain rfl : t = fcntTo L j + m := by omega
                rw [htm]; exact h
            clear htm htl HTM
            generalize c.getD m (0, 0) = q at *
            obtain ⟨q1, q2⟩ := q
            dsimp only at x1 y1
            have HQ1 := Lib.hid (fun W => rfits_calls q1 W)
            have HQ2 := Lib.hid (fun W => rfits_calls q2 W)
            have HKF : Hid (Kp [] w wr) := HK1.out.trans (HJ.out.2.trans HI.out.2)
            cases hq1 : inD q1 with
            | false =>
              have HF := Lib.hid (HR1.out (HALL.out (by unfold dotQ; rw [hq1]; rfl)))
              rw [hq1] at HQ1
              clear hq1 HALL HSU
              go_wp2_with fail
              refine (HQ1.out _).mono ?_; rintro e w2 ⟨rfl, hk2⟩
              go_wp2_with fail
              go_ret
              exact ⟨by rw [HF.out]; first | done | rfl | simp, HKF.out.trans (Kp.trans (by (repeat (first | exact Kp.refl _ _ | assumption | refine Kp.drew ?_ | refine Kp.drewN ?_ _ | refine Kp.alloc ?_ _ | (refine Kp.setCell ?_ (by first | (left; simp; done) | (right; simp; try omega)) _) | (refine Kp.trans' ?_ (by assumption) (by simp; try omega))))) hk2)⟩
            | true =>
              rw [hq1] at HQ1
              cases hq2 : inD q2 with
              | false =>
                have HF := Lib.hid (HR1.out (HALL.out (by unfold dotQ; rw [hq1, hq2]; rfl)))
                rw [hq2] at HQ2
                clear hq1 hq2 HALL HSU
                go_wp2_with fail
                refine (HQ1.out _).mono ?_; rintro e w2 ⟨rfl, hk2⟩
                have HK2 := Lib.hid hk2
                replace h1r := hk2.cell h1r (by simp)
                replace x1 := hk2.cell x1 (by simp)
                replace y1 := hk2.cell y1 (by simp)
                clear hk2
                go_wp2_with fail
                refine (HQ2.out _).mono ?_; rintro e w3 ⟨rfl, hk3⟩
                go_wp2_with fail
                go_ret
                exact ⟨by rw [HF.out]; first | done | rfl | simp, HKF.out.trans (HK2.out.trans hk3)⟩
              | true =>
                rw [hq2] at HQ2
                have HSN := Lib.hid (HSU.out (by unfold dotQ; rw [hq1, hq2]; rfl))
                clear hq1 hq2 HALL HSU
                go_wp2_with fail
                refine (HQ1.out _).mono ?_; rintro e w2 ⟨rfl, hk2⟩
                have HK2 := Lib.hid hk2
                replace h1r := hk2.cell h1r (by simp)
                replace x1 := hk2.cell x1 (by simp)
                replace y1 := hk2.cell y1 (by simp)
                clear hk2
                go_wp2_with fail
                refine (HQ2.out _).mono ?_; rintro e w3 ⟨rfl, hk3⟩
                have HK3 : Hid (Kp [] wA w3) := HI.out.2.trans (HK2.out.trans hk3)
                clear hk3 h1r x1 y1
                go_wp2_with fail
                go_roundw
                case rel => first | exact ⟨m + 1, by omega, int_eq' (by omega), HSN.out, HK3.out⟩ | ((repeat apply Exists.intro); exact ⟨⟨m + 1, by omega, int_eq' (by omega), HSN.out, HK3.out⟩, rfl⟩)
                case measure => simp [intOf]; omega
          · obtain rfl : m = K := by omega
            have HZ : Hid ((∀ t, t < fcntTo L (j + 1) → dotQ (T.getD t (0, 0)) = true) ∧ Kp [] w1 wr) := ⟨fun t ht => HI.out.1 t (by have := HCJ.out.1; omega), HJ.out.2.trans HI.out.2⟩
            clear HI
            go_wp2_with fail
            go_roundw
            case rel => first | exact ⟨j + 1, by omega, int_eq' (by omega), HZ.out⟩ | ((repeat apply Exists.intro); exact ⟨⟨j + 1, by omega, int_eq' (by omega), HZ.out⟩, rfl⟩)
            case measure => simp [intOf] <;> omega
      · obtain rfl : j = N := by omega
        have HF : Hid (RES = 0) := HR0.out (by
          rw [List.all_eq_true]
          intro q hq
          obtain ⟨i, hi, rfl⟩ := List.mem_iff_getElem.1 hq
          have := HJ.out.1 i (by rw [HCE.out, ← HLN.out]; exact hi)
          rwa [List.getD_eq_getElem?_getD, List.getElem?_eq_getElem hi] at this)
        go_wp2_with fail
        go_ret
        exact ⟨by rw [HF.out]; first | done | rfl | simp, HK1.out.trans HJ.out.2⟩
end Go.Proofs.Ytpbmefojhgcniaa
namespace Go.Proofs.Ytpbmefojhgcniaa
open Go.RowKit
set_option linter.unusedVariables false
set_option linter.unusedSimpArgs false
/-- The reference's sum of a contour. -/
def rS (c : List (Int × Int)) : Nat → Int
  | 0 => 0
  | k + 1 => rS c k + crossP (c.getD k (0, 0)) (c.getD ((k + 1) % c.length) (0, 0))
theorem rS_ch (c : List (Int × Int)) : ∀ k, k < c.length → rS c k = chS c k := by
  intro k
  induction k with
  | zero => intro _; rfl
  | succ k ih => intro h; rw [rS, chS, ih (by omega), Nat.mod_eq_of_lt h]
theorem rS_end (c : List (Int × Int)) : rS c c.length = areaC c := by
  by_cases h : c.length = 0
  · unfold areaC; rw [if_pos h, h]; rfl
  · obtain ⟨n, hn⟩ : ∃ n, c.length = n + 1 := ⟨c.length - 1, by omega⟩
    unfold areaC
    rw [if_neg h, ← rS_ch c _ (by omega)]
    rw [hn, rS, Nat.add_sub_cancel, hn, Nat.mod_self]
theorem rS_le {c : List (Int × Int)} (h : ∀ q ∈ c, dotQ q = true) : ∀ m : Nat, -((m : Int) * 2199023255552) ≤ rS c m ∧ rS c m ≤ (m : Int) * 2199023255552 := by
  intro m
  induction m with
  | zero => simp [rS]
  | succ m ih =>
    have := cross_le (getD_dot h m) (getD_dot h ((m + 1) % c.length))
    rw [rS]; push_cast; omega
theorem rarea_step {S : Int} {p q : Int × Int} (hp : dotQ p = true) (hq : dotQ q = true) (hS : -288230376151711744 ≤ S ∧ S ≤ 288230376151711744) :
    IntKind.i64.wrap (p.1 * q.2) = p.1 * q.2 ∧ IntKind.i64.wrap (q.1 * p.2) = q.1 * p.2 ∧ IntKind.i64.wrap (S + p.1 * q.2) = S + p.1 * q.2 ∧ IntKind.i64.wrap (S + p.1 * q.2 - q.1 * p.2) = S + p.1 * q.2 - q.1 * p.2 := by
  obtain ⟨p1, p2⟩ := dotQ_iff.1 hp
  obtain ⟨q1, q2⟩ := dotQ_iff.1 hq
  have a := dot_mul p1 q2
  have b := dot_mul q1 p2
  exact ⟨wrI _ (by omega) (by omega), wrI _ (by omega) (by omega), wrI _ (by omega) (by omega), wrI _ (by omega) (by omega)⟩
theorem wrapFn (q : Nat) (h : q ≤ 1048576) : wrap64 (q : Int) = (q : Int) := by unfold wrap64; omega
theorem wrapFd1 (m : Nat) (h : m ≤ 1048576) : IntKind.i64.wrap ((m : Int) + 1) = (m : Int) + 1 := by rw [IntKind.wrap_i64]; omega
theorem wrapFd2 (m : Nat) (h : m ≤ 1048576) : wrap64 ((m : Int) + 1) = (m : Int) + 1 := by unfold wrap64; omega
set_option maxRecDepth 100000 in
set_option maxHeartbeats 4000000 in
theorem rfarea_calls (v : Value) (L : List (List (Int × Int))) (w : World) (hv : IsFl w v L) (hm : mayF L = 0) : Calls Try.prog 25 #[v] w fun e w' => e = .returned (.int .i64 (areaTo L L.length)) ∧ Kp [] w w' := by
  have hle := hv.le
  unfold maxLen at hle
  have HV := Lib.hid hv
  have HTL := (mayF_facts hm).2
  have HAB := Lib.hid (areaTo_le HTL)
  have HDT : Hid (∀ j, j < L.length → ∀ q ∈ L.getD j [], dotQ q = true) := fun j hj q hq => HTL q (mem_flTo hj q hq)
  have HCT : Hid (∀ j, j ≤ L.length → fcntTo L j ≤ 65536) := fun j hj => Nat.le_trans (fcntTo_le L hj) (mayF_cnt hm)
  obtain ⟨pa, ca, rfl⟩ := hv.form
  obtain ⟨N, hN⟩ : ∃ N, L.length = N := ⟨_, rfl⟩
  have HN := Lib.hid hN
  rw [hN] at HV HAB HDT HCT hle ⊢
  clear hv hm HTL hN
  go_enter Try.func25, Try.ntmps25
  go_wp2_with fail
  go_loopw [3, 4] (fun s i wr => ∃ j : Nat, j ≤ N ∧ i = .int .i64 j ∧ s = .int .i64 (areaTo L j) ∧ Hid (Kp [] w wr)) (fun _ i _ => N - (intOf i).toNat)
  case atStart => exact ⟨0, by omega, rfl, rfl, Kp.refl _ _⟩
  case round =>
    obtain ⟨j, hj, rfl, rfl, HK⟩ := hrel
    by_cases hlt : j < N
    · have hjo : j < L.length := by rw [HN.out]; exact hlt
      obtain ⟨g1, o1, cc, p1, cv, e1, _, _, h1, hp⟩ := (HV.out.kp0 HK.out).row hjo
      rw [HN.out] at e1
      cases e1
      have HD := Lib.hid (HDT.out j hlt)
      have HA1 := Lib.hid (HAB.out j hj)
      have HC : Hid (fcntTo L (j + 1) = fcntTo L j + (L.getD j []).length ∧ fcntTo L (j + 1) ≤ 65536) := ⟨rfl, HCT.out (j + 1) (by omega)⟩
      have HS : Hid (areaTo L (j + 1) = areaTo L j + areaC (L.getD j [])) := rfl
      have HP : Hid (∀ W, Kp [] wr W → IsPairs W (.slice p1 (L.getD j []).length cv) (L.getD j [])) := fun W hW => hp.kp0 hW
      have HPE := Lib.hid (rS_end (L.getD j []))
      generalize L.getD j [] = c at *
      obtain ⟨K, hK⟩ : ∃ K, c.length = K := ⟨_, rfl⟩
      have HKK := Lib.hid hK
      rw [hK] at h1 HC HP HPE
      have hK65 : K ≤ 65536 := by have := HC.out; omega
      have H1 := Lib.hid h1
      clear hp hK
      obtain ⟨wA, hwA⟩ : ∃ wA, wA = wr := ⟨_, rfl⟩
      subst hwA
      go_wp2_with fail
      go_loopw [3, 5] (fun s i wr => ∃ m : Nat, m ≤ K ∧ i = .int .i64 m ∧ s = .int .i64 (areaTo L j + rS c m) ∧ Hid (Kp [] wA wr)) (fun _ i _ => K - (intOf i).toNat)
      case atStart => exact ⟨0, by omega, rfl, by simp [rS], Kp.refl _ _⟩
      case round =>
        obtain ⟨m, hm, rfl, rfl, HI⟩ := hrel
        have h1r := HI.out.cell H1.out (by simp)
        by_cases hml : m < K
        · obtain ⟨g3, o3, c3, e3, _, _, x1, y1⟩ := (HP.out _ HI.out).row (i := m) (by rw [HKK.out]; exact hml)
          have hm2 : (m + 1) % K < K := Nat.mod_lt _ (by omega)
          obtain ⟨g4, o4, c4, e4, _, _, x2, y2⟩ := (HP.out _ HI.out).row (i := (m + 1) % K) (by rw [HKK.out]; exact hm2)
          rw [HKK.out] at e3 e4
          cases e3
          cases e4
          have hS : -288230376151711744 ≤ areaTo L j + rS c m ∧ areaTo L j + rS c m ≤ 288230376151711744 := by
            have a := HA1.out
            have b := rS_le HD.out m
            have d := HC.out
            omega
          have HST := Lib.hid (rarea_step (S := areaTo L j + rS c m) (getD_dot HD.out m) (getD_dot HD.out ((m + 1) % K)) hS)
          have HNX : Hid (areaTo L j + rS c (m + 1) = areaTo L j + rS c m + (c.getD m (0, 0)).1 * (c.getD ((m + 1) % K) (0, 0)).2 - (c.getD ((m + 1) % K) (0, 0)).1 * (c.getD m (0, 0)).2) := by show _ = _; rw [rS, HKK.out]; unfold crossP; omega
          have hkz : ((K : Int) == 0) = false := by rw [beq_eq_false_iff_ne]; omega
          obtain ⟨M, hM⟩ : ∃ M, (m + 1) % K = M := ⟨_, rfl⟩
          have hMi : ((m : Int) + 1).tmod K = (M : Int) := by rw [← hM, Int.tmod_eq_emod_of_nonneg (by omega)]; norm_cast
          rw [hM] at hm2 x2 y2 HST HNX
          generalize areaTo L j + rS c m = Sm at *
          generalize c.getD M (0, 0) = r at *
          generalize c.getD m (0, 0) = q at *
          obtain ⟨q1, q2⟩ := q
          obtain ⟨r1, r2⟩ := r
          dsimp only at x1 y1 x2 y2
          have hMK : (M : Int) < (K : Int) := by omega
          have HMK := Lib.hid hMi
          have d0 : (0 : Int) ≤ (j : Int) := by omega
          have d1 : (j : Int) < (N : Int) := by omega
          have d2 : (0 : Int) ≤ (M : Int) := by omega
          have d6 : (K : Int) ≠ 0 := by omega
          have d7 : ¬ (K = 0) := by omega
          have d9 : (0 : Int) ≤ (m : Int) := by omega
          have d10 : (m : Int) < (K : Int) := by omega
          clear hS hM hMi HA1 HAB HDT HCT HD HC
          have d8 : wrap64 (M : Int) = (M : Int) := wrapFn M (by omega)
          have d4 : IntKind.i64.wrap ((m : Int) + 1) = (m : Int) + 1 := wrapFd1 m (by omega)
          have d5 : wrap64 ((m : Int) + 1) = (m : Int) + 1 := wrapFd2 m (by omega)
          have hMi := HMK.out
          go_upto_region 8 with fail
          go_region_held3 (fun w' => w'.cell? ⟨g1, o1 + j, none⟩ = some (.slice (some ⟨g3, o3, none⟩) K cv) ∧ w'.cell? ⟨g3, o3 + m * 2, none⟩ = some (.int .i64 q1) ∧ w'.cell? ⟨g3, o3 + m * 2 + 1, none⟩ = some (.int .i64 q2) ∧ w'.cell? ⟨g3, o3 + M * 2, none⟩ = some (.int .i64 r1) ∧ w'.cell? ⟨g3, o3 + M * 2 + 1, none⟩ = some (.int .i64 r2)) (first | go_keep | exact ⟨h1r, x1, y1, x2, y2⟩) (fail)
          · clear hMi HMK d0 d1 d2 d6 d7 d9 d10 d8 d4 d5 x1 y1 x2 y2 h1r
            obtain ⟨s1, s2, s3, s4⟩ := HST.out
            dsimp only at s1 s2 s3 s4
            clear HST
            go_wp2_with fail
            clear s1 s2 s3 s4
            have HFN : Hid (Kp [] wA (((wr.alloc (Obj.cells #[Value.int IntKind.i64 q1, Value.int IntKind.i64 q2] 27)).alloc (Obj.cells #[Value.int IntKind.i64 r1, Value.int IntKind.i64 r2] 27)).drew)) := HI.out.trans (by (repeat (first | exact Kp.refl _ _ | assumption | refine Kp.drew ?_ | refine Kp.drewN ?_ _ | refine Kp.alloc ?_ _ | (refine Kp.setCell ?_ (by first | (left; simp; done) | (right; simp; try omega)) _) | (refine Kp.trans' ?_ (by assumption) (by simp; try omega)))))
            go_roundw
            case rel => first | exact ⟨m + 1, by omega, int_eq' (by omega), int_eq' HNX.out.symm, HFN.out⟩ | ((repeat apply Exists.intro); exact ⟨⟨m + 1, by omega, int_eq' (by omega), int_eq' HNX.out.symm, HFN.out⟩, rfl⟩)
            case measure => simp [intOf]; omega
          · clear hMi HMK d0 d1 d2 d6 d7 d9 d10 d8 d4 d5 x1 y1 x2 y2 h1r
            obtain ⟨s1, s2, s3, s4⟩ := HST.out
            dsimp only at s1 s2 s3 s4
            clear HST
            go_wp2_with fail
            clear s1 s2 s3 s4
            have HFN : Hid (Kp [] wA (((wr.alloc (Obj.cells #[Value.int IntKind.i64 r1, Value.int IntKind.i64 r2] 27)).alloc (Obj.cells #[Value.int IntKind.i64 q1, Value.int IntKind.i64 q2] 27)).drew)) := HI.out.trans (by (repeat (first | exact Kp.refl _ _ | assumption | refine Kp.drew ?_ | refine Kp.drewN ?_ _ | refine Kp.alloc ?_ _ | (refine Kp.setCell ?_ (by first | (left; simp; done) | (right; simp; try omega)) _) | (refine Kp.trans' ?_ (by assumption) (by simp; try omega)))))
            go_roundw
            case rel => first | exact ⟨m + 1, by omega, int_eq' (by omega), int_eq' HNX.out.symm, HFN.out⟩ | ((repeat apply Exists.intro); exact ⟨⟨m + 1, by omega, int_eq' (by omega), int_eq' HNX.out.symm, HFN.out⟩, rfl⟩)
            case measure => simp [intOf]; omega
        · obtain rfl : m = K := by omega
          have HZ : Hid (areaTo L (j + 1) = areaTo L j + rS c m) := by show _ = _; rw [HS.out, HPE.out]
          have HKF : Hid (Kp [] w wr) := HK.out.trans HI.out
          clear HI HA1 HC HS HP HPE HD
          go_wp2_with fail
          go_roundw
          case rel => first | exact ⟨j + 1, by omega, int_eq' (by omega), int_eq' HZ.out.symm, HKF⟩ | ((repeat apply Exists.intro); exact ⟨⟨j + 1, by omega, int_eq' (by omega), int_eq' HZ.out.symm, HKF⟩, rfl⟩)
          case measure => simp [intOf] <;> omega
    · obtain rfl : j = N := by omega
      clear HAB HDT HCT
      go_wp2_with fail
      go_ret
      exact ⟨rfl, HK.out⟩
end Go.Proofs.Ytpbmefojhgcniaa

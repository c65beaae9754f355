/- outline: Hull. (Written by wip/outline/genova.py.) · outline: the reference's Hull. (Written by wip/outline/genovb.py.). (Merged by wip/tools/mergetpl.py out of OvA, OvB.) -/
import Derived.Test.YtpbmefojhgcniaaOmD
import Derived.Test.YtpbmefojhgcniaaTwo
import Derived.Deep.RegionHeld3
namespace Go.Proofs.Ytpbmefojhgcniaa
open Go.RowKit
set_option linter.unusedVariables false
set_option linter.unusedSimpArgs false
/-- The points of the first j contours. -/
def flatTo (o : List (List Pn)) (j : Nat) : List Pn := (o.take j).flatten
theorem flatTo_succ (o : List (List Pn)) (j : Nat) (h : j < o.length) : flatTo o (j + 1) = flatTo o j ++ o.getD j [] := by
  unfold flatTo
  rw [List.take_succ_eq_append_getElem h, List.flatten_append, List.getD_eq_getElem?_getD, List.getElem?_eq_getElem h]
  simp
theorem flatTo_len (o : List (List Pn)) : ∀ j, j ≤ o.length → (flatTo o j).length = cntTo o j := by
  intro j
  induction j with
  | zero => intro _; rfl
  | succ j ih => intro h; rw [flatTo_succ o j (by omega), List.length_append, ih (by omega), cntTo]
def xsP (l : List Pn) : List Int := l.map (·.x)
def ysP (l : List Pn) : List Int := l.map (·.y)
/-- The hull of an outline. -/
def hullO (o : List (List Pn)) : Bx := hullB (xsP (flatTo o o.length)) (ysP (flatTo o o.length)) (cnt o)
theorem infoInt : (Try.prog.info? 3).map (fun i => (i.zero, i.size, i.bytes)) = some (some (.int .i64 0), 1, 8) := by kernel_rfl
/-- Where the loops of Hull stand. -/
def HlSt (W1 W : World) (vx vy : Value) (l : List Pn) : Prop := TwoR 3 W W1.heap.size vx (xsP l) vy (ysP l) ∧ Kp [] W1 W
theorem HlSt.kp0 {W1 W W' : World} {vx vy : Value} {l : List Pn} (h : HlSt W1 W vx vy l) (hk : Kp [] W W') : HlSt W1 W' vx vy l := ⟨h.1.kp0 hk, h.2.trans hk⟩
theorem xsP_len (l : List Pn) : (xsP l).length = l.length := by simp [xsP]
theorem ysP_len (l : List Pn) : (ysP l).length = l.length := by simp [ysP]
theorem numsI_x {l : List Pn} (h : ∀ p ∈ l, numF p.x = true ∧ numF p.y = true) : numsI (xsP l) ∧ numsI (ysP l) := by
  refine ⟨fun i hi => ?_, fun i hi => ?_⟩
  · rw [xsP_len] at hi
    unfold xsP
    rw [List.getD_eq_getElem?_getD, List.getElem?_map, List.getElem?_eq_getElem hi]
    exact (h _ (List.getElem_mem hi)).1
  · rw [ysP_len] at hi
    unfold ysP
    rw [List.getD_eq_getElem?_getD, List.getElem?_map, List.getElem?_eq_getElem hi]
    exact (h _ (List.getElem_mem hi)).2
theorem flat_nums {o : List (List Pn)} (h : ∀ j, j < o.length → mayCo (o.getD j []) = true) : ∀ p ∈ flatTo o o.length, numF p.x = true ∧ numF p.y = true := by
  intro p hp
  unfold flatTo at hp
  rw [List.take_length, List.mem_flatten] at hp
  obtain ⟨c, hc, hpc⟩ := hp
  obtain ⟨i, hi, rfl⟩ := List.mem_iff_getElem.1 hc
  have := h i hi
  rw [List.getD_eq_getElem?_getD, List.getElem?_eq_getElem hi] at this
  exact numsP_mem (mayCo_facts this).2.1 p hpc
theorem HlSt.two {W1 Wa Wb wx wy : World} {vx vy vx' vy' : Value} {l : List Pn} {p : Pn} (h : HlSt W1 Wa vx vy l)
    (hX : ∀ vy ys, TwoR 3 Wa W1.heap.size vx (xsP l) vy ys → TwoR 3 wx W1.heap.size vx' (xsP l ++ [p.x]) vy ys) (hkx : ∀ w0, w0.heap.size ≤ W1.heap.size → Kp [] w0 Wa → Kp [] w0 wx) (hk : Kp [] wx Wb)
    (hY : ∀ vx xs, TwoR 3 Wb W1.heap.size vy (ysP l) vx xs → TwoR 3 wy W1.heap.size vy' (ysP l ++ [p.y]) vx xs) (hky : ∀ w0, w0.heap.size ≤ W1.heap.size → Kp [] w0 Wb → Kp [] w0 wy) : HlSt W1 wy vx' vy' (l ++ [p]) := by
  have h1 := (hY _ _ ((hX _ _ h.1).kp0 hk).swap).swap
  refine ⟨?_, hky _ (Nat.le_refl _) ((hkx _ (Nat.le_refl _) h.2).trans hk)⟩
  simpa [xsP, ysP] using h1
theorem HlSt.two' {W1 Wa Wb wx wy : World} {vx vy vx' vy' : Value} {l : List Pn} {p : Pn} (h : HlSt W1 Wa vx vy l)
    (hY : ∀ vx xs, TwoR 3 Wa W1.heap.size vy (ysP l) vx xs → TwoR 3 wy W1.heap.size vy' (ysP l ++ [p.y]) vx xs) (hky : ∀ w0, w0.heap.size ≤ W1.heap.size → Kp [] w0 Wa → Kp [] w0 wy) (hk : Kp [] wy Wb)
    (hX : ∀ vy ys, TwoR 3 Wb W1.heap.size vx (xsP l) vy ys → TwoR 3 wx W1.heap.size vx' (xsP l ++ [p.x]) vy ys) (hkx : ∀ w0, w0.heap.size ≤ W1.heap.size → Kp [] w0 Wb → Kp [] w0 wx) : HlSt W1 wx vx' vy' (l ++ [p]) := by
  have h1 := hX _ _ ((hY _ _ h.1.swap).kp0 hk).swap
  refine ⟨?_, hkx _ (Nat.le_refl _) ((hky _ (Nat.le_refl _) h.2).trans hk)⟩
  simpa [xsP, ysP] using h1
theorem HlSt.rowX {W1 Wa Wb wy : World} {vx vy vy' : Value} {l : List Pn} {n : Nat} {p : Int} (hn : (xsP l).length = n) (h : HlSt W1 Wa vx vy l)
    (hY : ∀ vx xs, TwoR 3 Wa W1.heap.size vy (ysP l) vx xs → TwoR 3 wy W1.heap.size vy' (ysP l ++ [p]) vx xs) (hk : Kp [] wy Wb) : Wb.ownsRow W1.heap.size 3 1 vx n (intsV (xsP l)) := by
  have h1 := ((hY _ _ h.1.swap).kp0 hk).2.1
  rwa [hn] at h1
theorem HlSt.rowY {W1 Wa Wb wx : World} {vx vy vx' : Value} {l : List Pn} {n : Nat} {p : Int} (hn : (ysP l).length = n) (h : HlSt W1 Wa vx vy l)
    (hX : ∀ vy ys, TwoR 3 Wa W1.heap.size vx (xsP l) vy ys → TwoR 3 wx W1.heap.size vx' (xsP l ++ [p]) vy ys) (hk : Kp [] wx Wb) : Wb.ownsRow W1.heap.size 3 1 vy n (intsV (ysP l)) := by
  have h1 := ((hX _ _ h.1).kp0 hk).2.1
  rwa [hn] at h1
end Go.Proofs.Ytpbmefojhgcniaa
namespace Go.Proofs.Ytpbmefojhgcniaa
open Go.RowKit
set_option linter.unusedVariables false
set_option linter.unusedSimpArgs false
end Go.Proofs.Ytpbmefojhgcniaa

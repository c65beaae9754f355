/- A region that draws its order, walked as a tree: forced stretches as lists, a branch where more than one operation may come up. -/
import Derived.Test.YtafkhnlmipddmaaGreatPlan
namespace Go.Proofs.YtafkhnlmipddmaaGreat
open Go.RowKit
set_option linter.unusedVariables false
section
variable {P : Program} {md : Region.Mode} {Q : Exit → Act → World → Prop}
/-- What holds behind a stretch; no panic. -/
def QF (R : Act → World → Prop) : Exit → Act → World → Prop
  | .normal, a, w => R a w
  | _, _, _ => False
theorem QF.intro {R : Act → World → Prop} {a : Act} {w : World} (h : R a w) : QF R .normal a w := h
theorem QF.lets {R : Act → World → Prop} (h : LetsOut (QF R)) : False := by
  obtain ⟨a, w, h⟩ := h
  exact h
theorem Oper.wp_QF {R : Act → World → Prop} {o : Oper} {a : Act} {w : World} {K : Act → World → Prop} (hh : o.wp P a w K (QF R)) : o.wp P a w K Q := by
  unfold Oper.wp at *
  generalize (execOp a.eval o).run P w = r at *
  cases r with
  | ok n w' =>
    cases n <;> simp only [Oper.upon] at hh ⊢ <;>
      first
        | exact hh
        | exact Calls.mono hh (fun e w'' he => by cases e <;> first | exact he | exact (he : False).elim | exact (QF.lets he).elim)
  | halt x w' => cases x <;> simp only [Oper.upon] at hh ⊢ <;> first | exact hh | exact (hh : False).elim
theorem wpOp_QF {R : Act → World → Prop} {ops : Array Oper} {i : Nat} {a : Act} {w : World} {K : Act → World → Prop} (hh : wpOp P ops (QF R) i K a w) : wpOp P ops Q i K a w := by
  unfold wpOp at *
  split
  · simpa [*] using hh
  · rename_i o ho
    simp only [ho] at hh
    split
    · rename_i hw; simp only [hw, if_true] at hh; exact hh.imp Oper.wp_QF (fun h => (QF.lets h.2).elim)
    · rename_i hw; simp only [hw] at hh; exact hh
def markI : List Nat → Array Bool → Array Bool
  | [], listed => listed
  | t :: tl, listed => markI tl (listed.setIfInBounds t true)
/-- One order for so many. -/
def seqK (md : Region.Mode) (ops : Array Oper) : List Nat → Array Bool → Bool
  | [], _ => true
  | t :: tl, listed => decide (Region.ready md ops listed = [t]) && seqK md ops tl (listed.setIfInBounds t true)
theorem any_seqK {l : List Oper} (g : Nat) : ∀ (tl : List Nat) (listed : Array Bool) (a : Act) (w : World), seqK md l.toArray tl listed = true →
    wpList P l.toArray (QF (wpAny P md l.toArray Q g (markI tl listed))) (pickAt l tl) a w → wpAny P md l.toArray Q (tl.length + g) listed a w := by
  intro tl
  induction tl with
  | nil => intro listed a w _ h; rw [List.length_nil, Nat.zero_add]; exact h
  | cons t tl ih =>
    intro listed a w hB h
    simp only [seqK, Bool.and_eq_true, decide_eq_true_eq] at hB
    rw [List.length_cons, show tl.length + 1 + g = (tl.length + g) + 1 by omega]
    refine ⟨fun h1 => (by rw [hB.1] at h1; cases h1), fun i hi => ?_⟩
    have hir := hi
    rw [hB.1] at hi
    have hik : i = t := by simpa using hi
    subst hik
    obtain ⟨_, o, ho, _⟩ := mem_ready.1 hir
    have h0 : l[i]? = some o := by simpa using ho
    have e : pickAt l (i :: tl) = o :: pickAt l tl := by unfold pickAt; rw [List.filterMap_cons, h0]
    rw [e] at h
    have hw : wpOp P l.toArray (QF (wpAny P md l.toArray Q g (markI (i :: tl) listed))) i (wpList P l.toArray (QF (wpAny P md l.toArray Q g (markI (i :: tl) listed))) (pickAt l tl)) a w := by unfold wpOp; simp only [ho]; exact h
    exact wpOp_QF (wpOp_mono (fun a' w' h' => ih _ a' w' hB.2 h') hw)
/-- A branch. -/
theorem any_branch {l : List Oper} {g : Nat} (rs : List Nat) {listed : Array Bool} {a : Act} {w : World} (hr : Region.ready md l.toArray listed = rs) (hne : rs ≠ [])
    (h : ∀ i ∈ rs, wpList P l.toArray (QF (wpAny P md l.toArray Q g (listed.setIfInBounds i true))) (pickAt l [i]) a w) : wpAny P md l.toArray Q (g + 1) listed a w := by
  refine ⟨fun h0 => absurd (hr ▸ h0) hne, fun i hi => ?_⟩
  obtain ⟨_, o, ho, _⟩ := mem_ready.1 hi
  rw [hr] at hi
  have h1 := h i hi
  have h0 : l[i]? = some o := by simpa using ho
  have e : pickAt l [i] = [o] := by unfold pickAt; rw [List.filterMap_cons, h0]; rfl
  rw [e] at h1
  have hw : wpOp P l.toArray (QF (wpAny P md l.toArray Q g (listed.setIfInBounds i true))) i (wpList P l.toArray (QF (wpAny P md l.toArray Q g (listed.setIfInBounds i true))) []) a w := by unfold wpOp; simp only [ho]; exact h1
  exact wpOp_QF (wpOp_mono (fun a' w' h' => h') hw)
theorem any_branch2 {l : List Oper} {g : Nat} (i j : Nat) {listed : Array Bool} {a : Act} {w : World} (hr : Region.ready md l.toArray listed = [i, j])
    (h1 : wpList P l.toArray (QF (wpAny P md l.toArray Q g (listed.setIfInBounds i true))) (pickAt l [i]) a w)
    (h2 : wpList P l.toArray (QF (wpAny P md l.toArray Q g (listed.setIfInBounds j true))) (pickAt l [j]) a w) : wpAny P md l.toArray Q (g + 1) listed a w :=
  any_branch [i, j] hr (by simp) (fun k hk => by
    rcases List.mem_cons.1 hk with rfl | hk
    · exact h1
    · obtain rfl : k = j := by simpa using hk
      exact h2)
/-- A forced stretch; what is done then, in a form of one's own. -/
theorem any_stretch {l : List Oper} (g : Nat) (tl : List Nat) (Lf : Array Bool) {listed : Array Bool} {a : Act} {w : World} (hB : seqK md l.toArray tl listed = true) (hL : markI tl listed = Lf)
    (h : wpList P l.toArray (QF (wpAny P md l.toArray Q g Lf)) (pickAt l tl) a w) : wpAny P md l.toArray Q (tl.length + g) listed a w := by
  subst hL
  exact any_seqK g tl listed a w hB h
/-- Where the branches meet again: the rest is walked once. -/
theorem any_meet {l : List Oper} {g' : Nat} (g : Nat) {F : Option Addr → Nat → Act} (Lf : Array Bool) (R : World → Prop) {listed : Array Bool} {a : Act} {w : World}
    (k : Hid (∀ p c w', R w' → wpAny P md l.toArray Q g Lf (F p c) w') → wpAny P md l.toArray Q g' listed a w) (h : ∀ p c w', R w' → wpAny P md l.toArray Q g Lf (F p c) w') : wpAny P md l.toArray Q g' listed a w := k h
/-- The last stretch. -/
theorem any_last {l : List Oper} (tl : List Nat) {listed : Array Bool} {a : Act} {w : World} (hB : seqI md l.toArray tl listed = true) (h : wpList P l.toArray Q (pickAt l tl) a w) : wpAny P md l.toArray Q tl.length listed a w :=
  any_of_seqI tl listed a w hB h
theorem region_tree {id : Nat} {a : Act} {w : World} {l : List Oper} (g : Nat) (tl : List Nat) (hm : P.follows .mixedOrders = true) (hg : l.length = tl.length + g) (hB : seqK .any l.toArray tl (Array.replicate l.toArray.size false) = true)
    (h : wpList P l.toArray (QF (wpAny P .any l.toArray Q g (markI tl (Array.replicate l.toArray.size false)))) (pickAt l tl) a w.drew) : (Code.region id l.toArray true).wp P Q a w := by
  refine wp_region_any hm ?_
  have h1 := any_seqK (Q := Q) g tl _ a _ hB h
  rw [← hg] at h1
  simpa using h1
end
end Go.Proofs.YtafkhnlmipddmaaGreat

/- A region that draws its order, walked by a plan: the operations 'mv' (pure ones: they may come at any time) first, then the quiet ones 'idx' (loads, calls that only make new memory) in the order of the plan, then the others 'tl' in the one order in which they can come · A region that draws its order INSIDE A ROUND of a range over a function: one walk in the order of the text (the kit's quiet theorem inside a fence asks for no round; here a round, and no 'defer' among the operations) · outline: curves in rows; the program's curve in one word · outline: the reference's Curves. (Written by wip/outline/genovo.py.) · outline: the iterator of Curves · outline: the curves of an explicit outline go round, contour by contour (plain) · outline: what the law OutlineCurves keeps in memory. (Merged by wip/tools/mergetpl.py out of Plan, Rnd, OvN, OvO, OvP, OvQ, OvS.) -/
import Derived.Test.YtodjohoonbkklaaQuiet
import Derived.Sort.QuietIn
import Derived.RangeFuncCalls
import Derived.TacticsIn
import Derived.Test.YtodjohoonbkklaaOvM
import Derived.Deep.RegionHeld3
import Derived.RangeFuncNested
import Derived.RangeFuncBound
import Derived.RangeFuncLeaves
import Derived.RangeFuncBox
import Derived.RangeFuncFrom
import Derived.Shelf.Abstract
import Derived.WalkKit
import Derived.OwnWalkIn
import Derived.TacticsInMore
import Derived.LoopNIn
import Derived.LoopIn
import Derived.Test.YtodjohoonbkklaaOvL
import Derived.Test.YtodjohoonbkklaaOvI
namespace Go.Proofs.Ytodjohoonbkklaa
open Go.RowKit
set_option linter.unusedVariables false
section
variable {P : Program} {ops : Array Oper} {md : Region.Mode} {C : World → Prop}
/-- Does operation t wait for i, directly or through others? -/
def needsB (md : Region.Mode) (ops : Array Oper) : Nat → Nat → Nat → Bool
  | 0, _, _ => false
  | f + 1, t, i => match ops[t]? with
    | some o => o.after.any fun e => Region.binds md e && (e.on == i || needsB md ops f e.on i)
    | none => false
/-- What is done is closed under what it waits for. -/
structure PInv (md : Region.Mode) (ops : Array Oper) (D : List Nat) (listed : Array Bool) : Prop where
  given : ∀ j ∈ D, listed.getD j true = true
  size : listed.size = ops.size
  closed : ∀ j oj, ops[j]? = some oj → listed.getD j false = true → ∀ e ∈ oj.after, Region.binds md e = true → listed.getD e.on false = true
theorem getD_set_tt {listed : Array Bool} {i j : Nat} (h : listed.getD j true = true) : (listed.setIfInBounds i true).getD j true = true := by
  by_cases e : i = j
  · subst e
    rw [Array.getD_eq_getD_getElem?]
    cases hh : (listed.setIfInBounds i true)[i]? with
    | none => rfl
    | some b =>
      obtain ⟨hlt, hb⟩ := Array.getElem?_eq_some_iff.1 hh
      rw [← hb]; simp
  · rwa [getD_set_ne true e]
theorem getD_set_self {listed : Array Bool} {i : Nat} : (listed.setIfInBounds i true).getD i true = true := by
  rw [Array.getD_eq_getD_getElem?]
  cases hh : (listed.setIfInBounds i true)[i]? with
  | none => rfl
  | some b =>
    obtain ⟨hlt, hb⟩ := Array.getElem?_eq_some_iff.1 hh
    rw [← hb]; simp
theorem PInv.set {D : List Nat} {i : Nat} {listed : Array Bool} (inv : PInv md ops D listed) (hi : i ∈ Region.ready md ops listed) : PInv md ops D (listed.setIfInBounds i true) := by
  obtain ⟨_, oi, hoi, hall⟩ := mem_ready.1 hi
  refine ⟨fun j hj => getD_set_tt (inv.given j hj), by simp [inv.size], fun j oj hj hl e he hb => ?_⟩
  by_cases hij : i = j
  · subst hij
    have : oj = oi := Option.some.inj (hj.symm.trans hoi)
    subst this
    exact getD_set_true (hall e he hb)
  · rw [getD_set_ne false hij] at hl
    exact getD_set_true (inv.closed j oj hj hl e he hb)
theorem needs_done {D : List Nat} {listed : Array Bool} (inv : PInv md ops D listed) {i : Nat} : ∀ (f t : Nat) (ot : Oper), ops[t]? = some ot → (∀ e ∈ ot.after, Region.binds md e = true → listed.getD e.on false = true) → needsB md ops f t i = true → listed.getD i false = true := by
  intro f
  induction f with
  | zero => intro t ot _ _ h; cases h
  | succ f ih =>
    intro t ot hot hall h
    unfold needsB at h
    rw [hot] at h
    obtain ⟨e, he, hb⟩ := Array.any_eq_true'.1 h
    simp only [Bool.and_eq_true, Bool.or_eq_true, beq_iff_eq] at hb
    obtain ⟨hb1, hb2⟩ := hb
    have hd := hall e he hb1
    rcases hb2 with rfl | hb2
    · exact hd
    · have hlt : e.on < ops.size := by
        have : e.on < listed.size := by
          rcases Nat.lt_or_ge e.on listed.size with h' | h'
          · exact h'
          · simp [Array.getElem?_eq_none h'] at hd
        rw [← inv.size]; exact this
      exact ih e.on ops[e.on] (Array.getElem?_eq_getElem hlt) (inv.closed e.on _ (Array.getElem?_eq_getElem hlt) hd) hb2
/-- So many of the operations of H, in whatever order; then L. -/
def headP (P : Program) (md : Region.Mode) (ops : Array Oper) (C : World → Prop) (H : Nat → Bool) (L : Array Bool → Act → Prop) : Nat → Array Bool → Act → Prop
  | 0, listed, a => L listed a
  | f + 1, listed, a => Region.ready md ops listed ≠ [] ∧ ∀ i ∈ Region.ready md ops listed, H i = true ∧ qOp P ops C i (headP P md ops C H L f (listed.setIfInBounds i true)) a
theorem any_of_headP {H : Nat → Bool} {g : Nat} {L : Array Bool → Act → Prop} {Q : Exit → Act → World → Prop} (hL : ∀ listed a w, C w → L listed a → wpAny P md ops Q g listed a w) (f : Nat) :
    ∀ (listed : Array Bool) (a : Act) (w : World), C w → headP P md ops C H L f listed a → wpAny P md ops Q (f + g) listed a w := by
  induction f with
  | zero => intro listed a w hw h; rw [Nat.zero_add]; exact hL _ _ _ hw h
  | succ f ih =>
    intro listed a w hw h
    rw [Nat.succ_add]
    exact ⟨fun h0 => absurd h0 h.1, fun i hi => wpOp_of_qOp hw (fun a' w' hw' => ih _ a' w' hw') (h.2 i hi).2⟩
theorem headP_first {H : Nat → Bool} {D : List Nat} {i : Nat} {oi : Oper} {v : Value} {L : Array Bool → Act → Prop} (hi : ops[i]? = some oi) (hsel : ∀ (j : Nat) (o : Oper) cs b, ops[j]? = some o → o.op ≠ .select cs b)
    (hwait : ∀ listed, PInv md ops D listed → listed.getD i true = false → ∀ t ∈ Region.ready md ops listed, H t = true) (hdone : ∀ listed a, L listed a → ∀ j ∈ Region.ready md ops listed, H j = false) (f : Nat) :
    ∀ (listed : Array Bool) (a : Act), PInv md ops D listed →
      (∀ j oj, ops[j]? = some oj → j ≠ i → listed.getD j true = false → (∀ e ∈ oj.after, Region.binds md e = true → e.on ≠ i) → oi.apart ops oj = true) →
      i ∈ Region.ready md ops listed → YieldsIn P ops C oi v a → headP P md ops C H L f (listed.setIfInBounds i true) (a.put oi.dst v) → headP P md ops C H L (f + 1) listed a := by
  induction f with
  | zero =>
    intro listed a inv _ hr hy HH
    refine ⟨fun h => (by rw [h] at hr; cases hr), fun j hj => ?_⟩
    have hjn : H j = true := hwait listed inv (mem_ready.1 hr).1 j hj
    by_cases e : j = i
    · subst e; exact ⟨hjn, hy.qOp hi HH⟩
    · have := hdone _ _ HH j (ready_mono hj e)
      rw [hjn] at this; cases this
  | succ f ih =>
    intro listed a inv hfree hr hy HH
    have hun := (mem_ready.1 hr).1
    refine ⟨fun h => (by rw [h] at hr; cases hr), fun j hj => ?_⟩
    have hjn : H j = true := hwait listed inv hun j hj
    by_cases e : j = i
    · subst e; exact ⟨hjn, hy.qOp hi HH⟩
    · obtain ⟨hjun, oj, hoj, hall⟩ := mem_ready.1 hj
      have hnot : ∀ x ∈ oj.after, Region.binds md x = true → x.on ≠ i := fun x hx hb he => by
        have h1 := hall x hx hb
        rw [he, getD_both hun] at h1; cases h1
      have h2 := qOp_put hoj (hfree j oj hoj e hjun hnot) (fun cs b => hsel i oi cs b hi) (fun cs b => hsel j oj cs b hoj) hy (HH.2 j (ready_mono hj e)).2
      refine ⟨hjn, qOp_mono (fun a' h3 => ih (listed.setIfInBounds j true) a' (inv.set hj) (fun k ok hk hki hku hno => ?_) (ready_mono hr (Ne.symm e)) h3.1 ?_) h2⟩
      · refine hfree k ok hk hki ?_ hno
        by_cases hjk : j = k
        · subst hjk; exact hjun
        · rwa [getD_set_ne true hjk] at hku
      · rw [Array.setIfInBounds_comm _ _ e]; exact h3.2
/-- The operations at places. -/
def pickAt (l : List Oper) (idx : List Nat) : List Oper := idx.filterMap (l[·]?)
theorem pickAt_nil (l : List Oper) : pickAt l [] = [] := rfl
theorem pickAt_cons (l : List Oper) (i : Nat) (idx : List Nat) : pickAt l (i :: idx) = (l[i]?).toList ++ pickAt l idx := by
  unfold pickAt; rw [List.filterMap_cons]; cases l[i]? <;> rfl
/-- The one order that is left. -/
def seqI (md : Region.Mode) (ops : Array Oper) : List Nat → Array Bool → Bool
  | [], listed => (Region.ready md ops listed).isEmpty
  | t :: tl, listed => decide (Region.ready md ops listed = [t]) && seqI md ops tl (listed.setIfInBounds t true)
/-- The quiet operations, one by one. -/
def lexI (md : Region.Mode) (ops : Array Oper) (tl : List Nat) : List Nat → Array Bool → Bool
  | [], listed => seqI md ops tl listed
  | i :: idx, listed => (Region.ready md ops listed).contains i && Region.free md ops listed i && lexI md ops tl idx (listed.setIfInBounds i true)
def pureB (o : Oper) : Bool := o.guard.isNone && match o.op with
  | .move _ | .assign _ | .binOp .. | .unOp .. | .convert .. | .fieldAddr .. | .indexAddr .. | .field .. | .index .. | .build .. | .extract .. => true
  | _ => false
/-- The pure operations, one by one. -/
def lexM (md : Region.Mode) (ops : Array Oper) (tl idx : List Nat) : List Nat → Array Bool → Bool
  | [], listed => lexI md ops tl idx listed
  | i :: mv, listed => (match ops[i]? with | some o => pureB o | none => false) && (Region.ready md ops listed).contains i && Region.free md ops listed i && lexM md ops tl idx mv (listed.setIfInBounds i true)
def planB (md : Region.Mode) (ops : Array Oper) (mv idx tl : List Nat) : Bool :=
  Region.noSelect ops && decide (mv.length + (idx.length + tl.length) = ops.size) && ((List.range ops.size).all fun t => mv.contains t || (idx.contains t || idx.all (needsB md ops ops.size t ·))) && lexM md ops tl idx mv (Array.replicate ops.size false)
theorem any_of_seqI {l : List Oper} {Q : Exit → Act → World → Prop} : ∀ (tl : List Nat) (listed : Array Bool) (a : Act) (w : World), seqI md l.toArray tl listed = true → wpList P l.toArray Q (pickAt l tl) a w → wpAny P md l.toArray Q tl.length listed a w := by
  intro tl
  induction tl with
  | nil => intro listed a w hB h; exact ⟨by simpa [seqI] using hB, h⟩
  | cons t tl ih =>
    intro listed a w hB h
    simp only [seqI, Bool.and_eq_true, decide_eq_true_eq] at hB
    refine ⟨fun h1 => (by rw [hB.1] at h1; cases h1), fun i hi => ?_⟩
    have hir := hi
    rw [hB.1] at hi
    have hik : i = t := by simpa using hi
    subst hik
    obtain ⟨_, o, ho, _⟩ := mem_ready.1 hir
    have h0 : l[i]? = some o := by simpa using ho
    have e : pickAt l (i :: tl) = o :: pickAt l tl := by unfold pickAt; rw [List.filterMap_cons, h0]
    rw [e] at h
    have hw : wpOp P l.toArray Q i (wpList P l.toArray Q (pickAt l tl)) a w := by unfold wpOp; simp only [ho]; exact h
    exact wpOp_mono (fun a' w' h' => ih _ a' w' hB.2 h') hw
theorem seqI_ready {tl : List Nat} {listed : Array Bool} (h : seqI md ops tl listed = true) : ∀ j ∈ Region.ready md ops listed, j ∈ tl := by
  cases tl with
  | nil => intro j hj; simp only [seqI, List.isEmpty_iff] at h; rw [h] at hj; cases hj
  | cons t tl =>
    intro j hj
    simp only [seqI, Bool.and_eq_true, decide_eq_true_eq] at h
    rw [h.1] at hj
    have : j = t := by simpa using hj
    subst this; simp
theorem seqI_undone {tl : List Nat} : ∀ {listed : Array Bool}, seqI md ops tl listed = true → ∀ j ∈ tl, listed.getD j true = false := by
  induction tl with
  | nil => intro _ _ j hj; cases hj
  | cons t tl ih =>
    intro listed h j hj
    simp only [seqI, Bool.and_eq_true, decide_eq_true_eq] at h
    have ht : listed.getD t true = false := by
      have : t ∈ Region.ready md ops listed := by rw [h.1]; simp
      exact (mem_ready.1 this).1
    rcases List.mem_cons.1 hj with rfl | hj
    · exact ht
    · have := ih h.2 j hj
      by_cases e : t = j
      · subst e; exact ht
      · rwa [getD_set_ne true e] at this
theorem lexI_undone {tl : List Nat} : ∀ (idx : List Nat) {listed : Array Bool}, lexI md ops tl idx listed = true → ∀ j ∈ tl, j ∉ idx ∧ listed.getD j true = false := by
  intro idx
  induction idx with
  | nil => intro listed h j hj; exact ⟨by simp, seqI_undone h j hj⟩
  | cons i idx ih =>
    intro listed h j hj
    simp only [lexI, Bool.and_eq_true] at h
    obtain ⟨h1, h2⟩ := ih h.2 j hj
    have hne : i ≠ j := fun e => by
      subst e
      rw [getD_set_self] at h2; cases h2
    refine ⟨fun hm => ?_, by rwa [getD_set_ne true hne] at h2⟩
    rcases List.mem_cons.1 hm with rfl | hm
    · exact hne rfl
    · exact h1 hm
theorem headP_lex {l : List Oper} {tl D : List Nat} {H : Nat → Bool} {T : Act → Prop} (hsel : Region.noSelect l.toArray = true)
    (hwait : ∀ i, H i = true → ∀ listed, PInv md l.toArray D listed → listed.getD i true = false → ∀ t ∈ Region.ready md l.toArray listed, H t = true)
    (htl : ∀ t ∈ tl, H t = false) : ∀ (idx : List Nat) (listed : Array Bool) (a : Act), (∀ i ∈ idx, H i = true) → PInv md l.toArray D listed → lexI md l.toArray tl idx listed = true →
    wpQuiet P l.toArray C T (pickAt l idx) a → headP P md l.toArray C H (fun listed' a' => seqI md l.toArray tl listed' = true ∧ T a') idx.length listed a := by
  intro idx
  induction idx with
  | nil => intro listed a _ _ hB h; exact ⟨by simpa [lexI] using hB, h⟩
  | cons i idx ih =>
    intro listed a hH inv hB h
    simp only [lexI, Bool.and_eq_true] at hB
    have hr : i ∈ Region.ready md l.toArray listed := by simpa using hB.1.1
    obtain ⟨_, o, h0, _⟩ := mem_ready.1 hr
    have h0' : l[i]? = some o := by simpa using h0
    have e : pickAt l (i :: idx) = o :: pickAt l idx := by unfold pickAt; rw [List.filterMap_cons, h0']
    rw [e] at h
    have hst : qOp P l.toArray C i (wpQuiet P l.toArray C T (pickAt l idx)) a := by unfold qOp; simp only [h0]; exact h
    obtain ⟨v, hy, hK⟩ := yieldsIn_of_qOp h0 hst
    exact headP_first h0 (Region.noSelect_spec hsel) (hwait i (hH i (by simp))) (fun listed' a' hL j hj => htl j (seqI_ready hL.1 j hj)) idx.length listed a inv (Region.free_spec h0 hB.1.2) hr hy (ih _ _ (fun j hj => hH j (List.mem_cons_of_mem _ hj)) (inv.set hr) hB.2 hK)
/-- What a pure operation that yields in every world is. -/
theorem yields_of_pure {o : Oper} {v : Value} {a : Act} (hp : pureB o = true) (h : YieldsIn P ops (fun _ => True) o v a) : Yields P ops o v a := by
  unfold pureB at hp
  simp only [Bool.and_eq_true] at hp
  obtain ⟨hg, hop⟩ := hp
  rcases h with ⟨hw, hv⟩ | ⟨hw, _⟩
  · refine .inl ⟨hw, fun w => ?_⟩
    have h1 := hv w trivial
    unfold Oper.quietAt at h1
    have key : ∀ (n : Next) (w' : World), (execOp a.eval o).run P w = .ok n w' → ∃ u, n = .value u := by
      intro n w' hr
      have bind : ∀ s : Sem Value, ((do pure (.value (← s))) : Sem Next).run P w = .ok n w' → ∃ u, n = .value u := by
        intro s hs
        rw [Sem.run_bind] at hs
        cases hq : s.run P w with
        | ok u w2 => rw [hq] at hs; simp [go_sem, Result.andThen] at hs; exact ⟨u, hs.1.symm⟩
        | halt x w2 => rw [hq] at hs; simp [Result.andThen] at hs
      unfold execOp at hr
      revert hop hr
      cases o.op <;> intro hop hr <;> first | (cases hop; done) | exact bind _ hr | (simp [go_sem] at hr; exact ⟨_, hr.1.symm⟩)
    cases hr : (execOp a.eval o).run P w with
    | ok n w' =>
      obtain ⟨u, rfl⟩ := key n w' hr
      rw [hr] at h1
      simp only [Oper.quietUpon] at h1
      rw [h1.1, h1.2]
    | halt x w' => rw [hr] at h1; simp only [Oper.quietUpon] at h1
  · unfold Region.wanted at hw
    have : o.guard = none := by simpa using hg
    rw [this] at hw; cases hw
end
/-- The same post, at a panic false. -/
def QN (Q : Exit → Act → World → Prop) : Exit → Act → World → Prop
  | .panic _, _, _ => False
  | .normal, a, w => Q .normal a w
  | e, a, w => Q e a w
theorem QN.to {Q : Exit → Act → World → Prop} : ∀ (e : Exit) (a : Act) (w : World), QN Q e a w → Q e a w := by
  intro e a w h
  cases e <;> first | exact h | exact h.elim
theorem QN.intro {Q : Exit → Act → World → Prop} {a : Act} {w : World} (h : Q .normal a w) : QN Q .normal a w := h
theorem QN.lets {Q : Exit → Act → World → Prop} (h : LetsOut (QN Q)) : LetsOut Q := by
  obtain ⟨a, w, h⟩ := h
  exact ⟨a, w, QN.to _ _ _ h⟩
theorem Oper.wp_QN {P : Program} {o : Oper} {a : Act} {w : World} {K : Act → World → Prop} {Q : Exit → Act → World → Prop} (hh : o.wp P a w K (QN Q)) : o.wp P a w K Q := by
  unfold Oper.wp at *
  generalize (execOp a.eval o).run P w = r at *
  cases r with
  | ok n w' =>
    cases n <;> simp only [Oper.upon] at hh ⊢ <;>
      first
        | exact hh
        | exact Calls.mono hh (fun e w'' he => by cases e <;> first | exact he | exact QN.to _ _ _ he | exact QN.lets he)
  | halt x w' => cases x <;> simp only [Oper.upon] at hh ⊢ <;> first | exact hh | exact QN.to _ _ _ hh
theorem wpOp_QN {P : Program} {ops : Array Oper} {Q : Exit → Act → World → Prop} {i : Nat} {a : Act} {w : World} {K : Act → World → Prop} (hh : wpOp P ops (QN Q) i K a w) : wpOp P ops Q i K a w := by
  unfold wpOp at *
  split
  · simpa [*] using hh
  · rename_i o ho
    simp only [ho] at hh
    split
    · rename_i hw; simp only [hw, if_true] at hh; exact hh.imp Oper.wp_QN (fun h => ⟨h.1, QN.lets h.2⟩)
    · rename_i hw; simp only [hw] at hh; exact hh
theorem wpAny_QN {P : Program} {md : Region.Mode} {ops : Array Oper} {Q : Exit → Act → World → Prop} : ∀ (fuel : Nat) (listed : Array Bool) (a : Act) (w : World), wpAny P md ops (QN Q) fuel listed a w → wpAny P md ops Q fuel listed a w := by
  intro fuel
  induction fuel with
  | zero => intro listed a w h; exact h
  | succ fuel ih => intro listed a w h; exact ⟨h.1, fun i hi => wpOp_mono (fun a' w' h' => ih _ a' w' h') (wpOp_QN (h.2 i hi))⟩
theorem wp_region_plan {P : Program} {id : Nat} {Q : Exit → Act → World → Prop} {a : Act} {w : World} {l : List Oper} (mv idx tl : List Nat) (hm : P.follows .mixedOrders = true) (hB : planB .any l.toArray mv idx tl = true)
    (h : wpQuiet P l.toArray (fun _ => True) (wpQuiet P l.toArray (fun w' => ∃ m : KW w, w' = m.w) (fun a' => ∀ w', (∃ m : KW w, w' = m.w) → wpList P l.toArray (QN Q) (pickAt l tl) a' w') (pickAt l idx)) (pickAt l mv) a) : (Code.region id l.toArray true).wp P Q a w := by
  refine wp_region_any hm (wpAny_QN _ _ _ _ ?_)
  simp only [planB, Bool.and_eq_true, decide_eq_true_eq] at hB
  obtain ⟨⟨⟨hsel, hlen⟩, hwt⟩, hlex⟩ := hB
  rw [show ({ w with drawn := w.drawn + 1 } : World) = w.drew from rfl]
  have inv0 : PInv .any l.toArray [] (Array.replicate l.toArray.size false) :=
    ⟨by simp, by simp, fun j oj _ hl => (by rw [getD_replicate_false] at hl; cases hl)⟩
  -- the moves: each is taken first
  have main : ∀ (mv' : List Nat) (listed : Array Bool) (a : Act), PInv .any l.toArray [] listed → (∀ j ∈ mv, j ∈ mv' ∨ listed.getD j true = true) → lexM .any l.toArray tl idx mv' listed = true →
      wpQuiet P l.toArray (fun _ => True) (wpQuiet P l.toArray (fun w' => ∃ m : KW w, w' = m.w) (fun a' => ∀ w', (∃ m : KW w, w' = m.w) → wpList P l.toArray (QN Q) (pickAt l tl) a' w') (pickAt l idx)) (pickAt l mv') a →
      wpAny P .any l.toArray (QN Q) (mv'.length + (idx.length + tl.length)) listed a w.drew := by
    intro mv'
    induction mv' with
    | nil =>
      intro listed a inv hdone hB h
      rw [List.length_nil, Nat.zero_add]
      have hlexI : lexI .any l.toArray tl idx listed = true := hB
      have inv2 : PInv .any l.toArray mv listed := ⟨fun j hj => (hdone j hj).resolve_left (by simp), inv.size, inv.closed⟩
      have HH2 : headP P .any l.toArray (fun w' => ∃ m : KW w, w' = m.w) (fun i => idx.contains i) (fun listed' a' => seqI .any l.toArray tl listed' = true ∧ ∀ w', (∃ m : KW w, w' = m.w) → wpList P l.toArray (QN Q) (pickAt l tl) a' w') idx.length listed a := by
        refine headP_lex hsel (D := mv) (fun i hi listed' inv' hun t ht => ?_) (fun t ht => by simpa using (lexI_undone idx hlexI t ht).1) idx listed a (fun i hi => by simpa using hi) inv2 hlexI h
        obtain ⟨hut, ot, hot, hall⟩ := mem_ready.1 ht
        have hts : t < l.toArray.size := (Array.getElem?_eq_some_iff.1 hot).1
        have h3 := List.all_eq_true.1 hwt t (List.mem_range.2 hts)
        simp only [Bool.or_eq_true] at h3
        rcases h3 with h3 | h3 | h3
        · have := inv'.given t (by simpa using h3)
          rw [hut] at this; cases this
        · exact h3
        · have h4 := List.all_eq_true.1 h3 i (by simpa using hi)
          have h5 := needs_done inv' _ t ot hot hall h4
          rw [getD_both hun] at h5; cases h5
      exact any_of_headP (Q := QN Q) (g := tl.length) (fun listed a' w' hw hL => any_of_seqI tl listed a' w' hL.1 (hL.2 w' hw)) _ _ _ w.drew ⟨⟨_, (Kp.refl [] w).drew⟩, rfl⟩ HH2
    | cons i mv' ih =>
      intro listed a inv hdone hB h
      simp only [lexM, Bool.and_eq_true] at hB
      obtain ⟨⟨⟨hp, hr⟩, hf⟩, hB2⟩ := hB
      have hr2 : i ∈ Region.ready .any l.toArray listed := by simpa using hr
      obtain ⟨_, o, h0, _⟩ := mem_ready.1 hr2
      rw [h0] at hp
      have h0' : l[i]? = some o := by simpa using h0
      have e : pickAt l (i :: mv') = o :: pickAt l mv' := by unfold pickAt; rw [List.filterMap_cons, h0']
      rw [e] at h
      have hst : qOp P l.toArray (fun _ => True) i (wpQuiet P l.toArray (fun _ => True) (wpQuiet P l.toArray (fun w' => ∃ m : KW w, w' = m.w) (fun a' => ∀ w', (∃ m : KW w, w' = m.w) → wpList P l.toArray (QN Q) (pickAt l tl) a' w') (pickAt l idx)) (pickAt l mv')) a := by unfold qOp; simp only [h0]; exact h
      obtain ⟨v, hy, hK⟩ := yieldsIn_of_qOp h0 hst
      have := ih _ _ (inv.set hr2) (fun j hj => by
        rcases hdone j hj with h | h
        · rcases List.mem_cons.1 h with rfl | h
          · exact .inr getD_set_self
          · exact .inl h
        · exact .inr (getD_set_tt h)) hB2 hK
      rw [List.length_cons, show mv'.length + 1 + (idx.length + tl.length) = (mv'.length + (idx.length + tl.length)) + 1 by omega]
      exact wpAny_take h0 hsel hf hr (fun c a' w' h => h) (yields_of_pure hp hy) this
  have := main mv _ a inv0 (fun j hj => .inl hj) hlex h
  rw [hlen] at this
  exact this
end Go.Proofs.Ytodjohoonbkklaa
namespace Go.Proofs.Ytodjohoonbkklaa
open Go.RowKit
set_option linter.unusedVariables false
section
variable {F : Fence} {n l : Nat} {P : Program} {ops : Array Oper} {md : Region.Mode} {C : World → Prop}
/-- No operation is a 'defer'. -/
def noDefer (ops : Array Oper) : Bool := ops.all fun o => match o.op with | .defer _ => false | _ => true
theorem noDefer_at {i : Nat} {o : Oper} (h : noDefer ops = true) (ho : ops[i]? = some o) : ∀ c, o.op ≠ .defer c := by
  intro c hc
  obtain ⟨hi, rfl⟩ := Array.getElem?_eq_some_iff.1 ho
  have := (Array.all_eq_true.1 h) i hi
  rw [hc] at this; simp at this
theorem wpIn_of_quiet_round {o : Oper} {a : Act} {K : Act → Prop} {K' : Act → World → Prop} {Q' : Exit → Act → World → Prop} {w : World} (hd : ∀ c, o.op ≠ .defer c) (hw : C w) (h : ∀ a w', C w' → K a → K' a w')
    (ha : o.askedIn F P a C) (hh : o.quietIn F n P a C K) : o.wpIn (F.inRound l) n P a w K' Q' := by
  obtain ⟨v, h1, h2⟩ := hh
  have h3 := h1 w hw
  unfold Oper.quietAtIn at h3
  unfold Oper.wpIn
  refine ⟨ha w hw, ?_⟩
  rw [Fence.inRound_round, Oper.semAt_some _ _ _ hd]
  generalize (execOp a.eval o).run P w = r at *
  cases r with
  | halt x w' => simp only [Oper.quietUponIn] at h3
  | ok x w' =>
    cases x
    case value u => simp only [Oper.quietUponIn] at h3; obtain ⟨rfl, rfl⟩ := h3; exact h _ _ hw h2
    case skip => simp only [Oper.quietUponIn] at h3; obtain ⟨rfl, rfl⟩ := h3; exact h _ _ hw h2
    case enter f args =>
      simp only [Oper.quietUponIn] at h3
      obtain ⟨rfl, hd, hc⟩ := h3
      exact ⟨hd, CallsIn.inRound l (hc.mono fun e w'' ⟨he, hw''⟩ => by subst he; exact h _ _ hw'' h2)⟩
    all_goals (simp only [Oper.quietUponIn] at h3)
theorem wpOpIn_round {i : Nat} {a : Act} {K : Act → Prop} {K' : Act → World → Prop} {Q' : Exit → Act → World → Prop} {w : World} (hnd : noDefer ops = true) (hC : C w) (h : ∀ a w', C w' → K a → K' a w')
    (hh : qOpIn F n P ops C i K a) : wpOpIn (F.inRound l) n P ops Q' i K' a w := by
  unfold qOpIn at hh
  unfold wpOpIn
  split
  · rename_i ho; simp only [ho] at hh; exact h _ _ hC hh
  · rename_i o ho
    simp only [ho] at hh
    obtain ⟨ha, hh⟩ := hh
    split
    · rename_i hw; simp only [hw, if_true] at hh; exact wpIn_of_quiet_round (noDefer_at hnd ho) hC h ha hh
    · rename_i hw; simp only [hw] at hh; exact ⟨ha w hC, h _ _ hC hh⟩
theorem wpAnyIn_round {Q : Act → Prop} {Q' : Exit → Act → World → Prop} (hnd : noDefer ops = true) (hQ : ∀ a w, C w → Q a → Q' .normal a w) : ∀ (fuel : Nat) (listed : Array Bool) (a : Act) (w : World), C w →
    wpAnyQIn F n P md ops C Q fuel listed a → wpAnyIn (F.inRound l) n P md ops Q' fuel listed a w := by
  intro fuel
  induction fuel with
  | zero => intro _ _ _ hw h; exact ⟨h.1, hQ _ _ hw h.2⟩
  | succ fuel ih => intro _ _ _ hw h; exact ⟨fun h0 => hQ _ _ hw (h.1 h0), fun i hi => wpOpIn_round hnd hw (fun a' w' hw' => ih _ a' w' hw') (h.2 i hi)⟩
/-- ONE WALK IN THE ORDER OF THE TEXT, at the class 'nothing that was there has changed'. -/
theorem wpIn_region_kqr {id : Nat} {Q : Exit → Act → World → Prop} {a : Act} {w : World} {l : Nat} {L : List Oper} (hm : P.follows .mixedOrders = true) (hB : Region.lexB .any L.toArray = true) (hnd : noDefer L.toArray = true)
    (h : wpQuietIn F n P L.toArray (fun w' => ∃ m : KW w, w' = m.w) (fun a' => ∀ w', (∃ m : KW w, w' = m.w) → Q .normal a' w') L a) : (Code.region id L.toArray true).wpIn (F.inRound l) n P Q a w := by
  simp only [Region.lexB, Bool.and_eq_true] at hB
  refine wpIn_region_any hm (wpAnyIn_round (F := F) (C := fun w' => ∃ m : KW w, w' = m.w) (Q := fun a' => ∀ w', (∃ m : KW w, w' = m.w) → Q .normal a' w') hnd (fun _ w' hw' h => h w' hw') _ _ _ _ ⟨⟨_, (Kp.refl [] w).drew⟩, rfl⟩ ?_)
  have := wpAnyQIn_lex (F := F) (n := n) (C := fun w' => ∃ m : KW w, w' = m.w) (md := .any) hB.1 L 0 (Array.replicate L.toArray.size false) a (by simp) (by simpa using hB.2) h
  simpa using this
end
theorem CallsIn.kq {F : Fence} {n : Nat} {P : Program} {f : FuncId} {args : Array Value} {w : World} {m : KW w} {v : Value}
    (h : CallsIn F n P f args m.w fun e w' => e = .returned v ∧ Kp [] m.w w') : CallsIn F n P f args m.w fun e w'' => e = .returned v ∧ ∃ k : KW w, w'' = k.w :=
  h.mono fun _ w' ⟨he, hk⟩ => ⟨he, ⟨w', m.h.trans hk⟩, rfl⟩
end Go.Proofs.Ytodjohoonbkklaa
namespace Go.Proofs.Ytodjohoonbkklaa
open Go.RowKit
set_option linter.unusedVariables false
set_option linter.unusedSimpArgs false
theorem ocurve_calls (v : Value) (e : List Pn) (i : Nat) (w : World) (hv : IsPs w v e) (hi : i < e.length) (hl : e.length ≤ 1048576) (hk : (ringAt e ((i : Int) + 1)).k = 1 ∨ (ringAt e ((i : Int) + 1)).k = 2 ∨ (ringAt e ((i : Int) + 1)).k = 3) :
    Calls Try.prog 87 #[v, .int .i64 i] w fun r w' => r = .returned (.tuple #[cvV (cvAt e i), .int .i64 (stepN e i : Nat)]) ∧ Kp [] w w' := by
  unfold cvAt stepN
  rcases hk with h | h | h
  · rw [if_neg (by rw [h]; decide), if_neg (by rw [h]; decide), if_neg (by rw [h]; decide), if_neg (by rw [h]; decide)]
    exact curve1_calls v e i _ _ _ _ rfl rfl rfl rfl w hv hi hl h
  · rw [if_pos h, if_pos h]
    exact curve2_calls v e i _ _ _ _ rfl rfl rfl rfl w hv hi hl h
  · rw [if_neg (by rw [h]; decide), if_pos h, if_neg (by rw [h]; decide), if_pos h]
    exact curve3_calls v e i _ _ _ _ rfl rfl rfl rfl w hv hi hl h
/-- Curves as cells. -/
def cvsCells (l : List Cv) : List Value := l.flatMap fun q => (cvCells q).toList
theorem cvsCells_length (l : List Cv) : (cvsCells l).length = l.length * 13 := by
  induction l with
  | nil => rfl
  | cons p l ih => simp [cvsCells, cvCells] at ih ⊢; omega
theorem cvsCells_app (l r : List Cv) : cvsCells (l ++ r) = cvsCells l ++ cvsCells r := by simp [cvsCells]
theorem cvsCells_at (l : List Cv) (i : Nat) (h : i < l.length) : ∀ j, j < 13 → (cvsCells l)[i * 13 + j]? = (cvCells (l.getD i cv0))[j]? := by
  induction l generalizing i with
  | nil => simp at h
  | cons p l ih =>
    intro j hj
    have e : cvsCells (p :: l) = (cvCells p).toList ++ cvsCells l := by simp [cvsCells]
    have hl : (cvCells p).toList.length = 13 := rfl
    cases i with
    | zero =>
      rw [e, List.getElem?_append_left (by omega)]
      simp
    | succ i =>
      have := ih i (by simpa using h) j hj
      rw [e, List.getElem?_append_right (by omega), hl, show (i + 1) * 13 + j - 13 = i * 13 + j by omega, this]
      simp
/-- A slice of curves that can be read. -/
def IsCvs (w : World) (v : Value) (l : List Cv) : Prop := Reads 13 w v l.length (cvsCells l)
theorem IsCvs.kp0 {w w' : World} {v : Value} {l : List Cv} (h : IsCvs w v l) (hk : Kp [] w w') : IsCvs w' v l := Reads.kp h hk (by simp)
theorem IsCvs.nil (w : World) (a : Option Addr) : IsCvs w (.slice a 0 0) [] := ⟨rfl, .inl ⟨⟨a, rfl⟩, rfl⟩⟩
theorem IsCvs.owned {w : World} {base : Nat} {e : TypeId} {v : Value} {n : Nat} {l : List Cv} (hn : n = l.length) (h : w.ownsRow base e 13 v n (cvsCells l)) : IsCvs w v l := by
  subst hn; exact Reads.owned h
theorem IsCvs.form {w : World} {v : Value} {l : List Cv} (h : IsCvs w v l) : ∃ p c, v = .slice p l.length c := by
  rcases h.2 with ⟨⟨ad, rfl⟩, h0⟩ | ⟨g, off, c, rfl, _⟩
  · exact ⟨_, 0, by rw [h0]⟩
  · exact ⟨_, c, rfl⟩
/-- A curve of a row lies in thirteen cells. -/
theorem IsCvs.row {w : World} {v : Value} {l : List Cv} (h : IsCvs w v l) {i : Nat} (hi : i < l.length) : ∃ g off c, v = .slice (some ⟨g, off, none⟩) l.length c ∧ l.length ≤ c ∧ c ≤ maxLen ∧ ∀ j u, (cvCells (l.getD i cv0))[j]? = some u → w.cell? ⟨g, off + i * 13 + j, none⟩ = some u := by
  rcases h.2 with ⟨⟨ad, rfl⟩, h0⟩ | ⟨g, off, c, rfl, h1, h2, h3⟩
  · omega
  · refine ⟨g, off, c, rfl, h1, h2, fun j u hu => ?_⟩
    have hj : j < 13 := (Array.getElem?_eq_some_iff.1 hu).1
    have := h3 (i * 13 + j) u (by rw [cvsCells_at l i hi j hj]; exact hu)
    rwa [← Nat.add_assoc] at this
theorem infoCv : (Try.prog.info? 63).map (fun i => (i.zero, i.size, i.bytes)) = some (some (cvV cv0), 13, 104) := by kernel_rfl
theorem oneCell_cv (q : Cv) : ∀ u ∈ cvsCells [q], u.oneCell' = true := by
  intro u hu
  simp only [cvsCells, cvCells, List.flatMap_cons, List.flatMap_nil, List.append_nil, List.mem_cons, List.not_mem_nil, or_false] at hu
  rcases hu with rfl | rfl | rfl | rfl | rfl | rfl | rfl | rfl | rfl | rfl | rfl | rfl | rfl <;> rfl
section
variable {w : World} {ops : Array Oper} {o : Oper} {a : Act} {Q : Exit → Act → World → Prop}
/-- One curve more, onto a row of the call's own, inside a region that draws its order. -/
theorem step_pushC {K : Act → World → Prop} {E : Prop} (hgd : o.guard = none) (s x : Operand) (ho : o.op = .call { callee := .builtin .append, args := #[s, x], argTypes := #[58, 58] })
    (base : Nat) (v : Value) (l : List Cv) (n : Nat) (hn : l.length = n) (hs : a.eval s = v) (hown : w.ownsRow base 63 13 v n (cvsCells l)) (G C : Nat) (q : Cv)
    (hx : a.eval x = .slice (some ⟨G, 0, none⟩) 1 C) (hc : ∀ j u, (cvsCells [q])[j]? = some u → w.cell? ⟨G, 0 + j, none⟩ = some u)
    (hl : (n + 1) * 104 ≤ 140737488355328) (hbase : base ≤ w.heap.size)
    (h : ∀ v' w', w'.ownsRow base 63 13 v' (n + 1) (cvsCells (l ++ [q])) → (∀ w0, w0.heap.size ≤ base → Kp [] w0 w → Kp [] w0 w') → Kp v.ownBlock.toList w w' → K (a.put o.dst v') w') :
    if Region.wanted o (yielded ops a.tmps) = true then Oper.wp Try.prog o a w K Q else E := by
  have hw : Region.wanted o (yielded ops a.tmps) = true := by simp [Region.wanted, hgd]
  rw [if_pos hw]
  obtain ⟨i, hi, hz, hsize, hby⟩ := info_parts infoCv
  subst hn
  have hll : (cvsCells l).length = l.length * 13 := cvsCells_length l
  refine wp_append_own w s x _ ho base 63 i (cvV cv0) 13 104 Try.underlying58 hi hz hsize hby rfl (by decide) v l.length (cvsCells l) hs hown ⟨G, 0, none⟩ 1 C (cvsCells [q]) hx rfl (by intro j u hj; rw [add_lit]; exact hc j u hj) (oneCell_cv q) (by unfold maxLen; omega) hl hbase ?_
  intro v' w' r1 r2 _
  exact h v' w' (by rw [cvsCells_app]; exact r1) (fun w0 h0 hk => Kp.grown hk r2 (fun k hk' => .inr (by have := own_ge hown k hk'; omega))) (Kp.grown (Kp.refl _ _) r2 (fun k hk => .inl (by rw [hk]; simp)))
end
/-- A curve that has just been laid. -/
theorem litC {w W : World} {q : Cv} {G : Nat} (hk : Kp [] (w.alloc (.cells (cvCells q) 63)) W) (hG : G = w.heap.size) : ∀ j u, (cvsCells [q])[j]? = some u → W.cell? ⟨G, 0 + j, none⟩ = some u := by
  subst hG
  intro j u hu
  have h := hk.heap (heap_alloc_new w _) (by simp)
  rw [Nat.zero_add, cell_of_row W _ j _ _ (0, 0) h]
  simpa [cvsCells] using hu
end Go.Proofs.Ytodjohoonbkklaa
namespace Go.Proofs.Ytodjohoonbkklaa
open Go.RowKit
set_option linter.unusedVariables false
set_option linter.unusedSimpArgs false
section
variable {w : World} {ops : Array Oper} {o : Oper} {rest : List Oper} {a : Act} {Q : Exit → Act → World → Prop}
/-- One curve more, onto a row of the call's own, in order. -/
theorem wpList_pushC (hgd : o.guard = none) (s x : Operand) (ho : o.op = .call { callee := .builtin .append, args := #[s, x], argTypes := #[58, 58] })
    (base : Nat) (v : Value) (l : List Cv) (n : Nat) (hn : l.length = n) (hs : a.eval s = v) (hown : w.ownsRow base 63 13 v n (cvsCells l)) (G C : Nat) (q : Cv)
    (hx : a.eval x = .slice (some ⟨G, 0, none⟩) 1 C) (hc : ∀ j u, (cvsCells [q])[j]? = some u → w.cell? ⟨G, 0 + j, none⟩ = some u)
    (hl : (n + 1) * 104 ≤ 140737488355328) (hbase : base ≤ w.heap.size)
    (h : ∀ v' w', w'.ownsRow base 63 13 v' (n + 1) (cvsCells (l ++ [q])) → (∀ w0, w0.heap.size ≤ base → Kp [] w0 w → Kp [] w0 w') → Kp v.ownBlock.toList w w' → wpList Try.prog ops Q rest (a.put o.dst v') w') :
    wpList Try.prog ops Q (o :: rest) a w := by
  refine wpList_plain hgd (fun K hK => ?_)
  have := step_pushC (ops := ops) (K := K) (E := False) (Q := Q) hgd s x ho base v l n hn hs hown G C q hx hc hl hbase (fun v' w' a1 a2 a3 => hK _ _ (h v' w' a1 a2 a3))
  have hw : Region.wanted o (yielded ops a.tmps) = true := by simp [Region.wanted, hgd]
  rwa [if_pos hw] at this
end
theorem refTo_len (e : List Pn) (k : Nat) : (refTo e k).length ≤ k := by
  induction k with
  | zero => simp [refTo]
  | succ k ih => unfold refTo; rw [List.length_append]; split <;> simp <;> omega
theorem curvesTo_len (o : List (List Pn)) (B : Nat) (h : ∀ j, j < o.length → (o.getD j []).length ≤ B) : ∀ j, j ≤ o.length → (curvesTo o j).length ≤ j * B := by
  intro j
  induction j with
  | zero => intro _; simp [curvesTo]
  | succ j ih =>
    intro hj
    have h1 := ih (by omega)
    have h2 := h j (by omega)
    have h3 := refTo_len (o.getD j []) (o.getD j []).length
    rw [curvesTo, List.length_append, Nat.add_mul]; omega
theorem refTo_on (e : List Pn) (k : Nat) (h : (e.getD k pn0).k = 1) : refTo e (k + 1) = refTo e k ++ [cvAt e k] := by rw [refTo, if_pos h]
theorem refTo_off (e : List Pn) (k : Nat) (h : (e.getD k pn0).k ≠ 1) : refTo e (k + 1) = refTo e k := by rw [refTo, if_neg h, List.append_nil]
set_option maxRecDepth 100000 in
set_option maxHeartbeats 8000000 in
theorem rcurves_calls (v : Value) (o : List (List Pn)) (w : World) (hv : IsOut w v o) (hE : checkO o = 0) :
    Calls Try.prog 38 #[v] w fun r w' => ∃ v', r = .returned v' ∧ IsCvs w' v' (curvesTo (expO o) o.length) ∧ Kp [] w w' ∧ ∀ b, blockOf v' = some b → w.heap.size ≤ b ∧ b < w'.heap.size := by
  have HRX := Lib.hid (roexplicit_calls v o w hv hE)
  obtain ⟨hz1, hz2, hz3⟩ := checkO_zero hE
  obtain ⟨pa, ca, rfl⟩ := hv.form
  have hlX : (expO o).length = o.length := by unfold expO; rw [List.length_map]
  have HOK : Hid (∀ j, j < o.length → okE 0 ((expO o).getD j []) = true ∧ ((expO o).getD j []).length ≤ 8193) := fun j hj => by
    rw [expO_at o j hj]
    have a := (expC_len _ (mayCo_facts (hz3 j hj)).1).2
    have b := len_le_cnt o hj
    exact ⟨okE_expC (hz3 j hj), by omega⟩
  have HCL : Hid (∀ j, j ≤ o.length → (curvesTo (expO o) j).length ≤ j * 8193) := fun j hj => curvesTo_len (expO o) 8193 (fun i hi => (HOK.out i (by omega)).2) j (by omega)
  obtain ⟨X, hX⟩ : ∃ X, expO o = X := ⟨_, rfl⟩
  rw [hX] at HRX HOK HCL hlX ⊢
  obtain ⟨N, hN⟩ : ∃ N, o.length = N := ⟨_, rfl⟩
  rw [hN] at HRX HOK HCL hlX hz1 ⊢
  have HXN := Lib.hid hlX
  clear hN hX hv hE hz2 hz3 hlX
  go_enter Try.func38, Try.ntmps38
  go_wp2_with fail
  refine HRX.out.mono ?_; rintro r w1 ⟨v1, rfl, hw1, hk1⟩
  have ho1 := hw1.out
  obtain ⟨p1, c1, rfl⟩ := ho1.form
  have HO1 := Lib.hid ho1
  have HK1 := Lib.hid hk1
  rw [HXN.out] at HO1 ⊢
  clear hw1 ho1 hk1 HRX
  go_wp2_with fail
  go_loopw [3, 5, 6, 7, 8] (fun u i _ _ _ wr => ∃ (j : Nat) (l : Value), j ≤ N ∧ i = .int .i64 j ∧ l = u ∧ Hid (wr.ownsRow w1.heap.size 63 13 l (curvesTo X j).length (cvsCells (curvesTo X j)) ∧ Kp [] w1 wr)) (fun _ i _ _ _ _ => N - (intOf i).toNat)
  case atStart => exact ⟨0, _, by omega, rfl, rfl, World.ownsRow_nil _ _ _ _, Kp.refl _ _⟩
  case round =>
    obtain ⟨j, l, hj, rfl, rfl, HJ⟩ := hrel
    by_cases hlt : j < N
    · have hjo : j < X.length := by rw [HXN.out]; exact hlt
      obtain ⟨g1, o1, cc, pe, ce, e1, _, _, h1, hp⟩ := HO1.out.row hjo
      rw [HXN.out] at e1
      cases e1
      have HP : Hid (∀ W, Kp [] w1 W → IsPs W (.slice pe (X.getD j []).length ce) (X.getD j [])) := fun W hW => hp.kp0 hW
      replace h1 := HJ.out.2.cell h1 (by simp)
      obtain ⟨hok, hL⟩ := HOK.out j hlt
      have HOKJ := Lib.hid hok
      have HST : Hid (curvesTo X (j + 1) = curvesTo X j ++ refTo (X.getD j []) (X.getD j []).length) := rfl
      have hB : (curvesTo X j).length ≤ 2097408 := by have := HCL.out j hj; have : j * 8193 ≤ 256 * 8193 := Nat.mul_le_mul_right _ (by omega); omega
      have HJ0 : Hid (wr.ownsRow w1.heap.size 63 13 l (curvesTo X j ++ refTo (X.getD j []) 0).length (cvsCells (curvesTo X j ++ refTo (X.getD j []) 0)) ∧ Kp [] w1 wr) := by
        show _ ∧ _
        rw [show refTo (X.getD j []) 0 = [] from rfl, List.append_nil]; exact HJ.out
      generalize curvesTo X j = A at *
      generalize X.getD j [] = e at *
      clear hp HJ hok hjo
      obtain ⟨L, hcl⟩ : ∃ L, e.length = L := ⟨_, rfl⟩
      have HEL := Lib.hid hcl
      rw [hcl] at h1 hL HP HST
      clear hcl
      go_wp2_with fail
      go_loopw [3, 7, 8] (fun u k _ wr2 => ∃ (m : Nat) (l2 : Value), m ≤ L ∧ k = .int .i64 m ∧ l2 = u ∧ Hid (wr2.ownsRow w1.heap.size 63 13 l2 (A ++ refTo e m).length (cvsCells (A ++ refTo e m)) ∧ Kp [] w1 wr2)) (fun _ k _ _ => L - (intOf k).toNat)
      case atStart => exact ⟨0, _, by omega, rfl, rfl, HJ0.out⟩
      case round =>
        obtain ⟨m, l2, hm, rfl, rfl, HI⟩ := hrel
        clear HJ0 h1
        by_cases hml : m < L
        · obtain ⟨g2, o2, q2, e2, _, _, x0, y0, z0⟩ := (HP.out w1 (Kp.refl _ _)).row (i := m) (by rw [HEL.out]; exact hml)
          rw [HEL.out] at e2
          cases e2
          have hg2 : g2 < w1.heap.size := World.block_lt_of_cell? w1 _ x0
          have HON := Lib.hid (refTo_on e m)
          have HOFF := Lib.hid (refTo_off e m)
          have HAT : Hid (∀ (i : Int) W, Kp [] w1 W → -(L : Int) ≤ i → i ≤ 1048580 → Calls Try.prog 88 #[.slice (some ⟨g2, o2, none⟩) L ce, .int .i64 i] W fun r w' => r = .returned (pnV (ringAt e i)) ∧ Kp [] W w') := fun i W hW a b => by
            have := rat10_calls (.slice (some ⟨g2, o2, none⟩) L ce) e i W (HP.out W hW) (by rw [HEL.out]; omega) (by rw [HEL.out]; omega) (by rw [HEL.out]; omega) (by omega)
            exact this
          have hSF := fun hk => (step_facts HOKJ.out (i := m) (by rw [HEL.out]; exact hml) hk).2.2.2
          have HSF := Lib.hid hSF
          have HCV : Hid (cvAt e m = if (ringAt e ((m : Int) + 1)).k = 2 then ⟨2, e.getD m pn0, ringAt e ((m : Int) + 1), pn0, ringAt e ((m : Int) + 2)⟩
            else if (ringAt e ((m : Int) + 1)).k = 3 then ⟨3, e.getD m pn0, ringAt e ((m : Int) + 1), ringAt e ((m : Int) + 2), ringAt e ((m : Int) + 3)⟩
            else ⟨1, e.getD m pn0, pn0, pn0, ringAt e ((m : Int) + 1)⟩) := rfl
          have hBL : (A ++ refTo e m).length ≤ 2105601 := by rw [List.length_append]; have := refTo_len e m; omega
          have hk1r : Kp [] w1 wr := HI.out.2
          have hr2 := HI.out.1
          obtain ⟨p2, c2, el⟩ := slice_own hr2
          subst el
          have HRO := Lib.hid hr2
          have HKO := Lib.hid hk1r
          have hsq : w1.heap.size ≤ wr.heap.size := hk1r.size
          obtain ⟨O, hO⟩ : ∃ O, A ++ refTo e m = O := ⟨_, rfl⟩
          have HON2 : Hid ((e.getD m pn0).k = 1 → A ++ refTo e (m + 1) = O ++ [cvAt e m]) := fun h => by rw [HON.out h, ← List.append_assoc, hO]
          have HOFF2 : Hid ((e.getD m pn0).k ≠ 1 → A ++ refTo e (m + 1) = O) := fun h => by rw [HOFF.out h, hO]
          rw [hO] at HRO hBL ⊢
          obtain ⟨OL, hOL⟩ : ∃ OL, O.length = OL := ⟨_, rfl⟩
          have HOL := Lib.hid hOL
          rw [hOL] at HRO hBL ⊢
          clear hr2 HI hSF HON HOFF hO hOL
          have HC : Hid (∀ W, Kp [] w1 W → W.cell? ⟨g2, o2 + m * 3, none⟩ = some (.int .i64 (e.getD m pn0).x) ∧ W.cell? ⟨g2, o2 + m * 3 + 1, none⟩ = some (.int .i64 (e.getD m pn0).y) ∧ W.cell? ⟨g2, o2 + m * 3 + 2, none⟩ = some (.int .i64 (e.getD m pn0).k)) := fun W hW => ⟨hW.cell x0 (by simp), hW.cell y0 (by simp), hW.cell z0 (by simp)⟩
          clear x0 y0 z0
          obtain ⟨P, hP⟩ : ∃ P, e.getD m pn0 = P := ⟨_, rfl⟩
          rw [hP] at HC HON2 HOFF2 HSF HCV
          clear hP
          obtain ⟨px, py, pk⟩ := P
          dsimp only at HC HON2 HOFF2 HSF
          by_cases hpk : pk = 1
          · subst hpk
            have HEX := Lib.hid (HON2.out rfl)
            have hkinds := HSF.out rfl
            obtain ⟨x0, y0, z0⟩ := HC.out wr HKO.out
            have HA1 := Lib.hid (HAT.out ((m : Int) + 1) wr HKO.out (by omega) (by omega))
            have HA2 := Lib.hid (fun W hW => HAT.out ((m : Int) + 2) W hW (by omega) (by omega))
            have HA3 := Lib.hid (fun W hW => HAT.out ((m : Int) + 3) W hW (by omega) (by omega))
            obtain ⟨q, hq⟩ : ∃ q, ringAt e ((m : Int) + 1) = q := ⟨_, rfl⟩
            obtain ⟨q2, hq2⟩ : ∃ q, ringAt e ((m : Int) + 2) = q := ⟨_, rfl⟩
            obtain ⟨q3, hq3⟩ : ∃ q, ringAt e ((m : Int) + 3) = q := ⟨_, rfl⟩
            rw [hq] at hkinds HA1 HCV
            rw [hq2] at HA2 HCV
            rw [hq3] at HA3 HCV
            obtain ⟨qx, qy, qk⟩ := q
            obtain ⟨rx, ry, rk⟩ := q2
            obtain ⟨sx, sy, sk⟩ := q3
            rw [show pnV ⟨qx, qy, qk⟩ = .agg #[.int .i64 qx, .int .i64 qy, .int .i64 qk] from rfl] at HA1
            rw [show pnV ⟨rx, ry, rk⟩ = .agg #[.int .i64 rx, .int .i64 ry, .int .i64 rk] from rfl] at HA2
            rw [show pnV ⟨sx, sy, sk⟩ = .agg #[.int .i64 sx, .int .i64 sy, .int .i64 sk] from rfl] at HA3
            dsimp only at hkinds HCV
            have HGN : Hid (g2 ∉ (Value.slice p2 OL c2).ownBlock.toList) := fun h => by have := (HRO.out.lt g2 (by simpa using h)).1; omega
            have HOB : Hid (∀ s ∈ (Value.slice p2 OL c2).ownBlock.toList, s < wr.heap.size) := fun s hs => (HRO.out.lt s (by simpa using hs)).2
            have H24 : Hid ((OL + 1) * 104 ≤ 140737488355328) := by show _ ≤ _; omega
            clear hq hq2 hq3 HON2 HOFF2 HSF HAT hk1r
            have n0 : (0 : Int) ≤ (m : Int) := by omega
            have n1 : (m : Int) < (L : Int) := by omega
            rcases hkinds with rfl | rfl | rfl
            · have HC1 : Hid (A ++ refTo e (m + 1) = O ++ [⟨1, ⟨px, py, 1⟩, pn0, pn0, ⟨qx, qy, 1⟩⟩]) := by
                show _ = _
                rw [HEX.out, HCV.out]; rfl
              clear HEX HCV
              go_wp2_with fail
              refine HA1.out.mono ?_; rintro r w2 ⟨rfl, hk2⟩
              go_wp2_with fail
              refine wp_gen ?_; intro W0 hW0
              have hk0 : Kp [] wr W0 := by rw [hW0]; exact Kp.alloc hk2 _
              have hA := heap_alloc_new w2 (.cells #[.int .i64 qx, .int .i64 qy, .int .i64 1] 61)
              rw [← hW0] at hA
              obtain ⟨⟨b0, b1, b2⟩, _⟩ := box_kept (Kp.refl [] W0) hA
              have hbs : wr.heap.size ≤ w2.heap.size := hk2.size
              have hbn : w2.heap.size ∉ (Value.slice p2 OL c2).ownBlock.toList := fun h => by have := HOB.out _ h; omega
              have hgn := HGN.out
              clear hA hW0 x0 y0 z0
              obtain ⟨x1, y1, z1⟩ := HC.out W0 (HKO.out.trans hk0)
              have hws : wr.heap.size ≤ W0.heap.size := hk0.size
              go_region_held3 (fun w' => (w'.cell? ⟨g2, o2 + m * 3, none⟩ = some (.int .i64 px) ∧ w'.cell? ⟨g2, o2 + m * 3 + 1, none⟩ = some (.int .i64 py) ∧ w'.cell? ⟨g2, o2 + m * 3 + 2, none⟩ = some (.int .i64 1)) ∧ w'.cell? ⟨w2.heap.size, 0, none⟩ = some (.int .i64 qx) ∧ w'.cell? ⟨w2.heap.size, 1, none⟩ = some (.int .i64 qy) ∧ w'.cell? ⟨w2.heap.size, 2, none⟩ = some (.int .i64 1))
                (first | go_keep | exact ⟨⟨hX0.cell x1 hgn, hX0.cell y1 hgn, hX0.cell z1 hgn⟩, hX0.cell b0 hbn, hX0.cell b1 hbn, hX0.cell b2 hbn⟩ | exact ⟨⟨hkc.cell x1 (by simp), hkc.cell y1 (by simp), hkc.cell z1 (by simp)⟩, hkc.cell b0 (by simp), hkc.cell b1 (by simp), hkc.cell b2 (by simp)⟩)
                ((first
                | (refine step_pushC rfl _ _ rfl w1.heap.size (.slice p2 OL c2) O OL HOL.out (by rfl) (Kp.row (S := []) (Kp.trans hk0 (by ((repeat (first | exact Kp.refl _ _ | assumption | refine Kp.drew ?_ | refine Kp.drewN ?_ _ | refine Kp.alloc ?_ _)); done))) HRO.out (by simp)) _ 1 ⟨1, ⟨px, py, 1⟩, pn0, pn0, ⟨qx, qy, 1⟩⟩ rfl (litC (w := W0) (by ((repeat (first | exact Kp.refl _ _ | assumption | refine Kp.drew ?_ | refine Kp.drewN ?_ _ | refine Kp.alloc ?_ _)); done)) (by simp)) H24.out (Nat.le_trans hsq (Nat.le_trans hws (by simp))) ?_
                   intro v6 w6 hown6 hgr6 hkb6
                   have hX0 : Kp (Value.slice p2 OL c2).ownBlock.toList W0 w6 := Kp.trans (by ((repeat (first | exact Kp.refl _ _ | assumption | refine Kp.drew ?_ | refine Kp.drewN ?_ _ | refine Kp.alloc ?_ _)); done)) hkb6)))
              obtain ⟨p6, q6, rfl⟩ := slice_own hown6
              have HF : Hid (w6.ownsRow w1.heap.size 63 13 (.slice p6 (OL + 1) q6) (A ++ refTo e (m + 1)).length (cvsCells (A ++ refTo e (m + 1))) ∧ Kp [] w1 w6) := by
                show _ ∧ _
                rw [HC1.out, List.length_append, HOL.out]
                exact ⟨hown6, hgr6 w1 (Nat.le_refl _) (HKO.out.trans (Kp.trans hk0 (by ((repeat (first | exact Kp.refl _ _ | assumption | refine Kp.drew ?_ | refine Kp.drewN ?_ _ | refine Kp.alloc ?_ _)); done))))⟩
              clear hown6 hgr6 hkb6 hX0 x1 y1 z1 b0 b1 b2 hbn hgn
              go_wp2_with fail
              go_roundw
              case rel => first | exact ⟨m + 1, _, by omega, int_eq' (by omega), rfl, HF⟩ | ((repeat apply Exists.intro); exact ⟨⟨m + 1, _, by omega, int_eq' (by omega), rfl, HF⟩, rfl⟩)
              case measure => simp [intOf] <;> omega
            · have HC1 : Hid (A ++ refTo e (m + 1) = O ++ [⟨2, ⟨px, py, 1⟩, ⟨qx, qy, 2⟩, pn0, ⟨rx, ry, rk⟩⟩]) := by
                show _ = _
                rw [HEX.out, HCV.out]; rfl
              clear HEX HCV
              go_wp2_with fail
              refine HA1.out.mono ?_; rintro r w2 ⟨rfl, hk2⟩
              go_wp2_with fail
              refine wp_gen ?_; intro W0 hW0
              have hk0 : Kp [] wr W0 := by rw [hW0]; exact Kp.alloc hk2 _
              have hA := heap_alloc_new w2 (.cells #[.int .i64 qx, .int .i64 qy, .int .i64 2] 61)
              rw [← hW0] at hA
              obtain ⟨⟨b0, b1, b2⟩, _⟩ := box_kept (Kp.refl [] W0) hA
              clear hA hW0 x0 y0 z0
              obtain ⟨x1, y1, z1⟩ := HC.out W0 (HKO.out.trans hk0)
              have hws : wr.heap.size ≤ W0.heap.size := hk0.size
              have u0 := KW.cell x1
              have u1 := KW.cell y1
              have u2 := KW.cell z1
              have u3 := KW.cell b0
              have u4 := KW.cell b1
              have u5 := KW.cell b2
              clear x1 y1 z1 b0 b1 b2
              have hk0w := HKO.out.trans hk0
              refine wp_region_plan [0] [1, 2, 3, 4, 5, 6, 7, 8, 9, 10] [11, 12, 13] (by kernel_rfl) (by kernel_rfl) ?_
              simp only [pickAt_nil, pickAt_cons, List.getElem?_cons_zero, List.getElem?_cons_succ, Option.toList_some, List.cons_append, List.nil_append]
              repeat (go_big_quiet_step ((go_at_call 88; exact Calls.kq (HA2.out _ (hk0w.trans (KW.h _))))))
              refine wpQuiet_nil ?_
              repeat (go_big_quiet_step ((go_at_call 88; exact Calls.kq (HA2.out _ (hk0w.trans (KW.h _))))))
              refine wpQuiet_nil ?_
              intro w3 hw'
              obtain ⟨⟨_, hkw3⟩, rfl⟩ := hw'
              try dsimp only
              clear u0 u1 u2 u3 u4 u5
              have HKL : Hid (Kp [] wr (w3.alloc (.cells (cvCells ⟨2, ⟨px, py, 1⟩, ⟨qx, qy, 2⟩, pn0, ⟨rx, ry, rk⟩⟩) 63))) := (hk0.trans hkw3).alloc _
              have HROW := Lib.hid (Kp.row (S := []) HKL.out HRO.out (by simp))
              have HSZ : Hid (w1.heap.size ≤ (w3.alloc (.cells (cvCells ⟨2, ⟨px, py, 1⟩, ⟨qx, qy, 2⟩, pn0, ⟨rx, ry, rk⟩⟩) 63)).heap.size) := Nat.le_trans hsq HKL.out.size
              clear hk0 hkw3 hk0w
              go_wp2_with (at_builtin; refine wpList_pushC rfl _ _ rfl w1.heap.size (.slice p2 OL c2) O OL HOL.out (by rfl) ?hrow _ 1 ⟨2, ⟨px, py, 1⟩, ⟨qx, qy, 2⟩, pn0, ⟨rx, ry, rk⟩⟩ rfl (litC (w := w3) ?hkz rfl) H24.out ?hsz ?hk)
              case hrow => exact HROW.out
              case hkz => exact Kp.refl _ _
              case hsz => exact HSZ.out
              case hk =>
              have hkl := HKL.out
              intro v6 w6 hown6 hgr6 hkb6
              obtain ⟨p6, q6, rfl⟩ := slice_own hown6
              have HF : Hid (w6.ownsRow w1.heap.size 63 13 (.slice p6 (OL + 1) q6) (A ++ refTo e (m + 1)).length (cvsCells (A ++ refTo e (m + 1))) ∧ Kp [] w1 w6) := by
                show _ ∧ _
                rw [HC1.out, List.length_append, HOL.out]
                exact ⟨hown6, hgr6 w1 (Nat.le_refl _) (HKO.out.trans hkl)⟩
              clear hown6 hgr6 hkb6 hkl HKL HROW HSZ
              go_wp2_with fail
              refine QN.intro ?_
              go_wp2_with fail
              go_roundw
              case rel => first | exact ⟨m + 1, _, by omega, int_eq' (by omega), rfl, HF⟩ | ((repeat apply Exists.intro); exact ⟨⟨m + 1, _, by omega, int_eq' (by omega), rfl, HF⟩, rfl⟩)
              case measure => simp [intOf] <;> omega
            · have HC1 : Hid (A ++ refTo e (m + 1) = O ++ [⟨3, ⟨px, py, 1⟩, ⟨qx, qy, 3⟩, ⟨rx, ry, rk⟩, ⟨sx, sy, sk⟩⟩]) := by
                show _ = _
                rw [HEX.out, HCV.out]; rfl
              clear HEX HCV
              go_wp2_with fail
              refine HA1.out.mono ?_; rintro r w2 ⟨rfl, hk2⟩
              go_wp2_with fail
              refine wp_gen ?_; intro W0 hW0
              have hk0 : Kp [] wr W0 := by rw [hW0]; exact Kp.alloc hk2 _
              have hA := heap_alloc_new w2 (.cells #[.int .i64 qx, .int .i64 qy, .int .i64 3] 61)
              rw [← hW0] at hA
              obtain ⟨⟨b0, b1, b2⟩, _⟩ := box_kept (Kp.refl [] W0) hA
              clear hA hW0 x0 y0 z0
              obtain ⟨x1, y1, z1⟩ := HC.out W0 (HKO.out.trans hk0)
              have hws : wr.heap.size ≤ W0.heap.size := hk0.size
              have u0 := KW.cell x1
              have u1 := KW.cell y1
              have u2 := KW.cell z1
              have u3 := KW.cell b0
              have u4 := KW.cell b1
              have u5 := KW.cell b2
              clear x1 y1 z1 b0 b1 b2
              have hk0w := HKO.out.trans hk0
              refine wp_region_plan [0] [1, 2, 3, 4, 5, 6, 7, 8, 9, 10, 11, 12, 13, 14] [15, 16, 17] (by kernel_rfl) (by kernel_rfl) ?_
              simp only [pickAt_nil, pickAt_cons, List.getElem?_cons_zero, List.getElem?_cons_succ, Option.toList_some, List.cons_append, List.nil_append]
              repeat (go_big_quiet_step ((first | (go_at_call 88; with_reducible exact Calls.kq (HA2.out _ (hk0w.trans (KW.h _)))) | (go_at_call 88; with_reducible exact Calls.kq (HA3.out _ (hk0w.trans (KW.h _)))))))
              refine wpQuiet_nil ?_
              repeat (go_big_quiet_step ((first | (go_at_call 88; with_reducible exact Calls.kq (HA2.out _ (hk0w.trans (KW.h _)))) | (go_at_call 88; with_reducible exact Calls.kq (HA3.out _ (hk0w.trans (KW.h _)))))))
              refine wpQuiet_nil ?_
              intro w3 hw'
              obtain ⟨⟨_, hkw3⟩, rfl⟩ := hw'
              try dsimp only
              clear u0 u1 u2 u3 u4 u5
              have HKL : Hid (Kp [] wr (w3.alloc (.cells (cvCells ⟨3, ⟨px, py, 1⟩, ⟨qx, qy, 3⟩, ⟨rx, ry, rk⟩, ⟨sx, sy, sk⟩⟩) 63))) := (hk0.trans hkw3).alloc _
              have HROW := Lib.hid (Kp.row (S := []) HKL.out HRO.out (by simp))
              have HSZ : Hid (w1.heap.size ≤ (w3.alloc (.cells (cvCells ⟨3, ⟨px, py, 1⟩, ⟨qx, qy, 3⟩, ⟨rx, ry, rk⟩, ⟨sx, sy, sk⟩⟩) 63)).heap.size) := Nat.le_trans hsq HKL.out.size
              clear hk0 hkw3 hk0w
              go_wp2_with (at_builtin; refine wpList_pushC rfl _ _ rfl w1.heap.size (.slice p2 OL c2) O OL HOL.out (by rfl) ?hrow _ 1 ⟨3, ⟨px, py, 1⟩, ⟨qx, qy, 3⟩, ⟨rx, ry, rk⟩, ⟨sx, sy, sk⟩⟩ rfl (litC (w := w3) ?hkz rfl) H24.out ?hsz ?hk)
              case hrow => exact HROW.out
              case hkz => exact Kp.refl _ _
              case hsz => exact HSZ.out
              case hk =>
              have hkl := HKL.out
              intro v6 w6 hown6 hgr6 hkb6
              obtain ⟨p6, q6, rfl⟩ := slice_own hown6
              have HF : Hid (w6.ownsRow w1.heap.size 63 13 (.slice p6 (OL + 1) q6) (A ++ refTo e (m + 1)).length (cvsCells (A ++ refTo e (m + 1))) ∧ Kp [] w1 w6) := by
                show _ ∧ _
                rw [HC1.out, List.length_append, HOL.out]
                exact ⟨hown6, hgr6 w1 (Nat.le_refl _) (HKO.out.trans hkl)⟩
              clear hown6 hgr6 hkb6 hkl HKL HROW HSZ
              go_wp2_with fail
              refine QN.intro ?_
              go_wp2_with fail
              go_roundw
              case rel => first | exact ⟨m + 1, _, by omega, int_eq' (by omega), rfl, HF⟩ | ((repeat apply Exists.intro); exact ⟨⟨m + 1, _, by omega, int_eq' (by omega), rfl, HF⟩, rfl⟩)
              case measure => simp [intOf] <;> omega
          · have hpb : (pk == 1) = false := by simpa using hpk
            have HEX := Lib.hid (HOFF2.out hpk)
            obtain ⟨x0, y0, z0⟩ := HC.out wr HKO.out
            have HF : Hid (wr.ownsRow w1.heap.size 63 13 (.slice p2 OL c2) (A ++ refTo e (m + 1)).length (cvsCells (A ++ refTo e (m + 1))) ∧ Kp [] w1 wr) := by
              show _ ∧ _
              rw [HEX.out, HOL.out]; exact ⟨HRO.out, HKO.out⟩
            clear HON2 HOFF2 HSF HCV
            go_wp2_with fail
            go_roundw
            case rel => first | exact ⟨m + 1, _, by omega, int_eq' (by omega), rfl, HF⟩ | ((repeat apply Exists.intro); exact ⟨⟨m + 1, _, by omega, int_eq' (by omega), rfl, HF⟩, rfl⟩)
            case measure => simp [intOf] <;> omega
        · obtain rfl : m = L := by omega
          have HF : Hid (wr.ownsRow w1.heap.size 63 13 l2 (curvesTo X (j + 1)).length (cvsCells (curvesTo X (j + 1))) ∧ Kp [] w1 wr) := by
            show _ ∧ _
            rw [HST.out]; exact HI.out
          clear HI
          go_wp2_with fail
          go_roundw
          case rel => first | exact ⟨j + 1, _, by omega, int_eq' (by omega), rfl, HF⟩ | ((repeat apply Exists.intro); exact ⟨⟨j + 1, _, by omega, int_eq' (by omega), rfl, HF⟩, rfl⟩)
          case measure => simp [intOf] <;> omega
    · obtain rfl : j = N := by omega
      have HF : Hid (IsCvs wr l (curvesTo X j) ∧ Kp [] w wr ∧ ∀ b, blockOf l = some b → w.heap.size ≤ b ∧ b < wr.heap.size) := ⟨IsCvs.owned rfl HJ.out.1, HK1.out.trans HJ.out.2, fun b hb => by
        rcases HJ.out.1.2 with ⟨rfl, _⟩ | ⟨g, cap, cur, rfl, h1, h2, _⟩
        · simp at hb
        · obtain ⟨_, rfl⟩ := (blockOf_some _ _ _ _ _ _).1 hb
          exact ⟨Nat.le_trans HK1.out.size h1, lt_of_block h2⟩⟩
      clear HJ
      go_wp2_with fail
      go_ret
      exact ⟨_, rfl, HF.out.1, HF.out.2.1, HF.out.2.2⟩
end Go.Proofs.Ytodjohoonbkklaa
namespace Go.Proofs.Ytodjohoonbkklaa
open Go.RowKit Go.Shelf
set_option linter.unusedVariables false
set_option linter.unusedSimpArgs false
attribute [local go_sem] Oper.semAt_some
/-- The cells at or above n₀ lie as they lay. -/
structure KA (n₀ : Nat) (W W' : World) : Prop where
  size : W.heap.size ≤ W'.heap.size
  keep : ∀ k o, n₀ ≤ k → W.heap[k]? = some o → o.isCells = true → W'.heap[k]? = W.heap[k]?
theorem KA.refl (n₀ : Nat) (W : World) : KA n₀ W W := ⟨Nat.le_refl _, fun _ _ _ _ _ => rfl⟩
theorem KA.trans {n₀ : Nat} {A B C : World} (h : KA n₀ A B) (k : KA n₀ B C) : KA n₀ A C :=
  ⟨Nat.le_trans h.size k.size, fun i o hi ho hc => (k.keep i o hi ((h.keep i o hi ho hc).trans ho) hc).trans (h.keep i o hi ho hc)⟩
theorem Kp.ka {w w' : World} (h : Kp [] w w') (n₀ : Nat) : KA n₀ w w' := ⟨h.size, fun k o _ ho _ => h.block k (lt_of_block ho) (by simp)⟩
theorem Kp.kaS {S : List Nat} {w w' : World} (h : Kp S w w') {n₀ : Nat} (hS : ∀ s ∈ S, s < n₀) : KA n₀ w w' := ⟨h.size, fun k o hk ho _ => h.block k (lt_of_block ho) (fun hs => by have := hS k hs; omega)⟩
theorem KA.cell {n₀ : Nat} {W W' : World} (h : KA n₀ W W') {a : Addr} {v : Value} (ha : W.cell? a = some v) (hb : n₀ ≤ a.block) : W'.cell? a = some v := by
  obtain ⟨o, ho, hc⟩ := cells_of_cell ha
  exact (World.cell?_of_block (h.keep _ o hb ho hc)).trans ha
theorem KA.row {n₀ : Nat} {w w' : World} {base : Nat} {e : TypeId} {size : Nat} {v : Value} {n : Nat} {xs : List Value} (h : KA n₀ w w') (ho : w.ownsRow base e size v n xs) (hb : n₀ ≤ base) : w'.ownsRow base e size v n xs := by
  refine ⟨ho.1, ?_⟩
  rcases ho.2 with hn | ⟨g, cap, cur, rfl, hb2, hgg, rest⟩
  · exact .inl hn
  · exact .inr ⟨g, cap, cur, rfl, hb2, (h.keep g _ (by omega) hgg rfl).trans hgg, rest⟩
theorem KA.reads {n₀ : Nat} {w w' : World} {size : Nat} {v : Value} {n : Nat} {cs : List Value} (hk : KA n₀ w w') (h : Reads size w v n cs) (hb : ∀ b, blockOf v = some b → n₀ ≤ b) : Reads size w' v n cs := by
  refine ⟨h.1, ?_⟩
  rcases h.2 with h2 | ⟨g, off, cap, rfl, h1, h2, h3⟩
  · exact .inl h2
  · refine .inr ⟨g, off, cap, rfl, h1, h2, fun j u hu => hk.cell (h3 j u hu) (hb g ((blockOf_some _ _ _ _ _ _).2 ⟨fun hc => ?_, rfl⟩))⟩
    have hn : n = 0 := by omega
    have hl := h.1
    rw [hn, Nat.zero_mul] at hl
    rw [List.eq_nil_of_length_eq_zero hl] at hu
    simp at hu
theorem KA.wout {n₀ : Nat} {w w' : World} {base : Nat} {v : Value} {o : List (List Pn)} (hk : KA n₀ w w') (h : WOut w base v o) (hb : n₀ ≤ base) : WOut w' base v o := by
  obtain ⟨vs, h1, h2⟩ := h
  exact ⟨vs, hk.row h1 hb, fun i hi => ⟨hk.reads (h2 i hi).1 (fun b hbb => by have := ((h2 i hi).2 b hbb).2.2; omega), fun b hbb => ⟨((h2 i hi).2 b hbb).1, Nat.lt_of_lt_of_le ((h2 i hi).2 b hbb).2.1 hk.size, ((h2 i hi).2 b hbb).2.2⟩⟩⟩
theorem Kp.grow0 {w w' : World} (h : Kp [] w w') : w.grownBy w' none := ⟨h.os, h.tape, h.output, h.size, fun k hk _ => h.block k hk (by simp)⟩
theorem abides0 {β : Type} {B : Nat} {J : β → World → Prop} (hJ : AbidesFrom B J) {s : β} {w w' : World} (h : J s w) (hk : Kp [] w w') : J s w' := hJ s w w' none h hk.grow0 (by simp)
theorem refTo_pre (e : List Pn) (k : Nat) : ∀ d, refTo e k <+: refTo e (k + d) := by
  intro d
  induction d with
  | zero => exact List.prefix_refl _
  | succ d ih => rw [← Nat.add_assoc, refTo]; exact ih.trans (List.prefix_append _ _)
theorem curvesTo_pre (X : List (List Pn)) (k : Nat) : ∀ d, curvesTo X k <+: curvesTo X (k + d) := by
  intro d
  induction d with
  | zero => exact List.prefix_refl _
  | succ d ih => rw [← Nat.add_assoc, curvesTo]; exact ih.trans (List.prefix_append _ _)
theorem cur_pre (X : List (List Pn)) {j m N : Nat} (hj : j < N) (hm : m ≤ (X.getD j []).length) : curvesTo X j ++ refTo (X.getD j []) m <+: curvesTo X N := by
  obtain ⟨d, rfl⟩ : ∃ d, N = j + 1 + d := ⟨N - (j + 1), by omega⟩
  obtain ⟨c, hc⟩ : ∃ c, (X.getD j []).length = m + c := ⟨_, (Nat.add_sub_cancel' hm).symm⟩
  refine List.IsPrefix.trans ?_ (curvesTo_pre X (j + 1) d)
  rw [curvesTo, hc]
  exact (List.prefix_append_right_inj _).2 (refTo_pre _ _ _)
theorem okE_head {e : List Pn} (h : okE 0 e = true) (h0 : 0 < e.length) : (e.getD 0 pn0).k = 1 := by
  match e, h, h0 with
  | p :: l, h, _ =>
    simp only [okE, Bool.and_eq_true, beq_iff_eq] at h
    exact h.1
set_option maxRecDepth 100000 in
set_option maxHeartbeats 4000000 in
/-- The closure of Curves at an outline that may be. -/
theorem curves1_in (m : Nat) (hm : 1 ≤ m) (l Bc n₀ : Nat) (v : Value) (o : List (List Pn)) (hE : checkO o = 0) (J Jx : List Cv → World → Prop) (W : World) (hn₀ : n₀ ≤ W.heap.size) (hJ : AbidesFrom W.heap.size J)
    (hY : ∀ pre x W, J pre W → pre.length < (curvesTo (expO o) o.length).length → YieldAt Fence.wide (m - 1) Try.prog l #[cvV x] W fun e W' =>
      (e = .returned (.bool true) ∧ J (pre ++ [x]) W' ∧ KA n₀ W W') ∨ (e = .returned (.bool false) ∧ Jx (pre ++ [x]) W'))
    (hB : W.cell? ⟨Bc, 0, none⟩ = some v) (hv : IsOut W v o) (h0 : J [] W) :
    CallsIn Fence.wide m Try.prog 86 #[.func (.yield l) #[] #[], .pointer (some ⟨Bc, 0, none⟩)] W fun e W' => (∃ v, e = .returned v) ∧
      (J (curvesTo (expO o) o.length) W' ∨ (∃ pre, pre <+: curvesTo (expO o) o.length ∧ Jx pre W')) := by
  have HRX := Lib.hid (oexplicit_ok v o W hv hE)
  obtain ⟨hz1, hz2, hz3⟩ := checkO_zero hE
  obtain ⟨pa, ca, rfl⟩ := hv.form
  have hlX : (expO o).length = o.length := by unfold expO; rw [List.length_map]
  have HOK : Hid (∀ j, j < o.length → okE 0 ((expO o).getD j []) = true ∧ ((expO o).getD j []).length ≤ 8193) := fun j hj => by
    rw [expO_at o j hj]
    have a := (expC_len _ (mayCo_facts (hz3 j hj)).1).2
    have b := len_le_cnt o hj
    exact ⟨okE_expC (hz3 j hj), by omega⟩
  obtain ⟨X, hX⟩ : ∃ X, expO o = X := ⟨_, rfl⟩
  rw [hX] at HRX HOK hlX hY ⊢
  obtain ⟨N, hN⟩ : ∃ N, o.length = N := ⟨_, rfl⟩
  rw [hN] at HRX HOK hlX hz1 hY hB ⊢
  have HXN := Lib.hid hlX
  have HJ := Lib.hid hJ
  have HY := Lib.hid hY
  have H0 := Lib.hid h0
  clear hN hX hv hE hz2 hz3 hlX hJ hY h0
  refine callsIn_of_wp Try.func86 rfl trivial ?_ rfl
  simp only [Try.ntmps86, List.size_toArray, List.length_cons, List.length_nil, Nat.reduceAdd, Nat.reduceSub, Array.replicate_succ, Array.replicate_zero, List.push_toArray, List.append_toArray, List.nil_append, List.cons_append]
  gi_wp2_with (refine ⟨trivial, ?_⟩; gi_at_call 34; refine (callsIn_wide.2 HRX.out).mono ?_; rintro e w1 ⟨v1, rfl, hw1, hk1⟩; obtain ⟨p1, c1, rfl⟩ := hw1.out.form)
  have HJ1 := Lib.hid (abides0 HJ.out H0.out hk1)
  have HW1 := Lib.hid hw1
  rw [HXN.out] at HW1 ⊢
  clear hw1 hk1 HRX hB H0
  gi_wp2
  gi_loopw [6, 7, 8, 9, 17] (fun _ _ _ _ i wr => ∃ j : Nat, j ≤ N ∧ i = .int .i64 j ∧ Hid (J (curvesTo X j) wr ∧ KA n₀ w1 wr)) (fun _ _ _ _ i _ => N - (intOf i).toNat)
  case atStart => exact ⟨0, Nat.zero_le _, rfl, HJ1.out, KA.refl _ _⟩
  case round =>
    obtain ⟨j, hj, rfl, HR⟩ := hrel
    clear HJ1
    by_cases hlt : j < N
    · have hjo : j < X.length := by rw [HXN.out]; exact hlt
      obtain ⟨g1, o1, cc, pe, ce, e1, _, _, h1w, hp⟩ := HW1.out.out.row hjo
      rw [HXN.out] at e1
      cases e1
      have hblk : n₀ ≤ g1 := by
        obtain ⟨vs, hv1, hv2⟩ := HW1.out
        rcases hv1.2 with ⟨h, _⟩ | ⟨g, cap, cur, h, hb, _⟩
        · cases h
        · cases h; omega
      have h1 := HR.out.2.cell h1w hblk
      obtain ⟨hok, hL⟩ := HOK.out j hlt
      have HOKJ := Lib.hid hok
      have HPRE : Hid (∀ m, m ≤ (X.getD j []).length → curvesTo X j ++ refTo (X.getD j []) m <+: curvesTo X N) := fun m hm => cur_pre X hlt hm
      have HST : Hid (curvesTo X (j + 1) = curvesTo X j ++ refTo (X.getD j []) (X.getD j []).length) := rfl
      have HP : Hid (∀ W', KA n₀ w1 W' → IsPs W' (.slice pe (X.getD j []).length ce) (X.getD j [])) := fun W' hW' => by
        obtain ⟨g2, o2, cc2, pe2, ce2, e2, _, _, h2, hp2⟩ := (hW'.wout HW1.out hn₀).out.row hjo
        rw [HXN.out] at e2
        cases e2
        have := hW'.cell h1w hblk
        rw [this] at h2
        cases h2
        exact hp2
      have HJ0 : Hid (J (curvesTo X j ++ refTo (X.getD j []) 0) wr ∧ KA n₀ w1 wr) := by
        show _ ∧ _
        rw [show refTo (X.getD j []) 0 = [] from rfl, List.append_nil]; exact HR.out
      generalize curvesTo X j = A at *
      generalize X.getD j [] = e at *
      clear hp HR hok hjo h1w hblk
      obtain ⟨L, hcl⟩ : ∃ L, e.length = L := ⟨_, rfl⟩
      have HEL := Lib.hid hcl
      rw [hcl] at h1 hL HP HST HPRE
      clear hcl
      gi_wp2
      gi_loopw [7, 8, 9] (fun k _ _ wr2 => ∃ m : Nat, m ≤ L ∧ k = .int .i64 m ∧ Hid ((m < L → (e.getD m pn0).k = 1) ∧ J (A ++ refTo e m) wr2 ∧ KA n₀ w1 wr2)) (fun k _ _ _ => L - (intOf k).toNat)
      case atStart => exact ⟨0, by omega, rfl, fun h => okE_head HOKJ.out (by rw [HEL.out]; exact h), HJ0.out.1, HJ0.out.2⟩
      case round =>
        obtain ⟨m2, hm2, rfl, HI⟩ := hrel
        clear HJ0 h1
        by_cases hml : m2 < L
        · have hkk := HI.out.1 hml
          obtain ⟨s1, s2, s3, s4⟩ := step_facts HOKJ.out (i := m2) (by rw [HEL.out]; exact hml) hkk
          have s5 : 1 ≤ stepN e m2 := by unfold stepN; split <;> (try split) <;> omega
          have hst := refTo_step HOKJ.out (i := m2) (by rw [HEL.out]; exact hml) hkk
          have HC := Lib.hid (ocurve_calls (.slice pe L ce) e m2 wr (HP.out _ HI.out.2.2) (by rw [HEL.out]; exact hml) (by rw [HEL.out]; omega) s4)
          rw [HEL.out] at s1 s3
          have HNX : Hid (A ++ refTo e (m2 + stepN e m2) = A ++ refTo e m2 ++ [cvAt e m2]) := by show _ = _; rw [hst, List.append_assoc]
          have HLT : Hid ((A ++ refTo e m2).length < (curvesTo X N).length) := by
            have h5 := (HPRE.out _ s1).length_le
            rw [HNX.out, List.length_append] at h5
            have h6 : ([cvAt e m2] : List Cv).length = 1 := rfl
            show _ < _
            omega
          have HN3 := Lib.hid s3
          generalize stepN e m2 = sn at *
          generalize cvAt e m2 = q at *
          clear hkk s2 s3 s4 hst
          obtain ⟨qk, ⟨ax, ay, ak⟩, ⟨bx, b_y, bk⟩, ⟨cx, cy, ck⟩, ⟨dx, dy, dk⟩⟩ := q
          rw [show cvV ⟨qk, ⟨ax, ay, ak⟩, ⟨bx, b_y, bk⟩, ⟨cx, cy, ck⟩, ⟨dx, dy, dk⟩⟩ = .agg #[.int .i64 qk, .int .i64 ax, .int .i64 ay, .int .i64 ak, .int .i64 bx, .int .i64 b_y, .int .i64 bk, .int .i64 cx, .int .i64 cy, .int .i64 ck, .int .i64 dx, .int .i64 dy, .int .i64 dk] from rfl] at HC
          gi_wp2_with (refine ⟨trivial, ?_⟩; gi_at_call 87; refine (callsIn_wide.2 HC.out).mono ?_; rintro e w2 ⟨rfl, hk2⟩)
          have HJ2 := Lib.hid (abides0 HJ.out HI.out.2.1 hk2)
          have HK2 := Lib.hid hk2
          have HKW := Lib.hid HI.out.2.2
          clear hk2 HI HC
          have hk3 : Kp [] w2 (w2.alloc (.cells (cvCells ⟨qk, ⟨ax, ay, ak⟩, ⟨bx, b_y, bk⟩, ⟨cx, cy, ck⟩, ⟨dx, dy, dk⟩⟩) 63)) := (Kp.refl _ _).alloc _
          have HK3 := Lib.hid hk3
          obtain ⟨fn, tmps, assign, body, hy, hR⟩ := HY.out _ ⟨qk, ⟨ax, ay, ak⟩, ⟨bx, b_y, bk⟩, ⟨cx, cy, ck⟩, ⟨dx, dy, dk⟩⟩ _ (abides0 HJ.out HJ2.out hk3) HLT.out
          rw [show cvV ⟨qk, ⟨ax, ay, ak⟩, ⟨bx, b_y, bk⟩, ⟨cx, cy, ck⟩, ⟨dx, dy, dk⟩⟩ = .agg #[.int .i64 qk, .int .i64 ax, .int .i64 ay, .int .i64 ak, .int .i64 bx, .int .i64 b_y, .int .i64 bk, .int .i64 cx, .int .i64 cy, .int .i64 ck, .int .i64 dx, .int .i64 dy, .int .i64 dk] from rfl] at hy
          clear hk3
          gi_wp2
          rw [show (cvCells ⟨qk, ⟨ax, ay, ak⟩, ⟨bx, b_y, bk⟩, ⟨cx, cy, ck⟩, ⟨dx, dy, dk⟩⟩) = #[.int .i64 qk, .int .i64 ax, .int .i64 ay, .int .i64 ak, .int .i64 bx, .int .i64 b_y, .int .i64 bk, .int .i64 cx, .int .i64 cy, .int .i64 ck, .int .i64 dx, .int .i64 dy, .int .i64 dk] from rfl] at hy
          rw [hy]
          gi_wp2
          refine hR.mono ?_
          rintro e3 W3 (⟨rfl, hJ3, hk3⟩ | ⟨rfl, hJx3⟩)
          · have H3 : Hid ((m2 + sn < L → (e.getD (m2 + sn) pn0).k = 1) ∧ J (A ++ refTo e (m2 + sn)) W3 ∧ KA n₀ w1 W3) := ⟨HN3.out, by rw [HNX.out]; exact hJ3, HKW.out.trans ((HK2.out.trans HK3.out).ka n₀ |>.trans hk3)⟩
            clear hJ3 hk3 hy hR
            gi_wp2
            go_roundw
            case rel => first | exact ⟨m2 + sn, by omega, by simp, H3⟩ | ((repeat apply Exists.intro); exact ⟨⟨m2 + sn, by omega, by simp, H3⟩, rfl⟩)
            case measure => simp [intOf]; omega
          · have H3 : Hid (∃ pre, pre <+: curvesTo X N ∧ Jx pre W3) := ⟨_, by rw [← HNX.out]; exact HPRE.out _ s1, hJx3⟩
            clear hJx3 hy hR
            gi_wp2
            refine bodyPost_ret (results_none rfl _ _ _) rfl ?_
            exact ⟨⟨_, rfl⟩, .inr H3.out⟩
        · obtain rfl : m2 = L := by omega
          have HF : Hid (J (curvesTo X (j + 1)) wr ∧ KA n₀ w1 wr) := by
            show _ ∧ _
            rw [HST.out]; exact ⟨HI.out.2.1, HI.out.2.2⟩
          clear HI
          gi_wp2
          go_roundw
          case rel => first | exact ⟨j + 1, by omega, by simp, HF⟩ | ((repeat apply Exists.intro); exact ⟨⟨j + 1, by omega, by simp, HF⟩, rfl⟩)
          case measure => simp [intOf] <;> omega
    · obtain rfl : j = N := by omega
      gi_wp2
      go_end0
      exact ⟨⟨_, rfl⟩, .inl HR.out.1⟩
set_option maxRecDepth 100000 in
set_option maxHeartbeats 4000000 in
/-- The same at an outline that may not be: no round. -/
theorem curves1_no (m : Nat) (hm : 1 ≤ m) (l Bc : Nat) (v : Value) (o : List (List Pn)) (E : Int) (hE : checkO o = E) (hE0 : E ≠ 0) (hs : smallO o) (hc : cnt o ≤ 4611686018427387904) (J : List Cv → World → Prop) (W : World) (hJ : AbidesFrom W.heap.size J)
    (hB : W.cell? ⟨Bc, 0, none⟩ = some v) (hv : IsOut W v o) (h0 : J [] W) :
    CallsIn Fence.wide m Try.prog 86 #[.func (.yield l) #[] #[], .pointer (some ⟨Bc, 0, none⟩)] W fun e W' => (∃ v, e = .returned v) ∧ J [] W' := by
  have HRX := Lib.hid (oexplicit_no v o W hv hs hc E hE hE0)
  obtain ⟨pa, ca, rfl⟩ := hv.form
  generalize o.length = N at *
  have HJ := Lib.hid hJ
  have H0 := Lib.hid h0
  clear hv hE hs hc hJ h0
  refine callsIn_of_wp Try.func86 rfl trivial ?_ rfl
  simp only [Try.ntmps86, List.size_toArray, List.length_cons, List.length_nil, Nat.reduceAdd, Nat.reduceSub, Array.replicate_succ, Array.replicate_zero, List.push_toArray, List.append_toArray, List.nil_append, List.cons_append]
  gi_wp2_with (refine ⟨trivial, ?_⟩; gi_at_call 34; refine (callsIn_wide.2 HRX.out).mono ?_; rintro e w1 ⟨rfl, hk1⟩)
  have HJ1 := Lib.hid (abides0 HJ.out H0.out hk1)
  clear hk1 HRX hB H0
  gi_wp2
  gi_loopw [6, 7, 8, 9, 17] (fun _ _ _ _ i wr => i = .int .i64 0 ∧ Hid (J [] wr)) (fun _ _ _ _ i _ => 0 - (intOf i).toNat)
  case atStart => exact ⟨rfl, HJ1.out⟩
  case round =>
    obtain ⟨rfl, HR⟩ := hrel
    clear HJ1
    gi_wp2
    go_end0
    exact ⟨⟨_, rfl⟩, HR.out⟩
/-- Curves hands back a value that goes over these curves, or over a beginning of them. -/
theorem curves_stops (m : Nat) (hm : 1 ≤ m) (Bc : Nat) (v : Value) (o : List (List Pn)) (hE : checkO o = 0) (w : World) (hB : w.cell? ⟨Bc, 0, none⟩ = some v) (hv : IsOut w v o) :
    SeqStopsK Fence.wide m Try.prog 86 #[.pointer (some ⟨Bc, 0, none⟩)] (fun x : Cv => #[cvV x]) (KA w.heap.size) (fun ys => ys = curvesTo (expO o) o.length) (fun pre => pre <+: curvesTo (expO o) o.length) (curvesTo (expO o) o.length).length w := fun l J Jx W hW hJ _ hY h0 => by
  have hk : Kp [] w W := Kp.of_below hW
  refine (curves1_in m hm l Bc w.heap.size v o hE J Jx W hW.size hJ hY (hk.cell hB (by simp)) (hv.kp0 hk) h0).mono ?_
  rintro e W' ⟨he, hj | ⟨pre, hp, hj⟩⟩
  · exact ⟨he, .inl ⟨_, rfl, hj⟩⟩
  · exact ⟨he, .inr ⟨_, hp, hj⟩⟩
theorem curves_stops_no (m : Nat) (hm : 1 ≤ m) (Bc : Nat) (v : Value) (o : List (List Pn)) (E : Int) (hE : checkO o = E) (hE0 : E ≠ 0) (hs : smallO o) (hc : cnt o ≤ 4611686018427387904) (w : World) (hB : w.cell? ⟨Bc, 0, none⟩ = some v) (hv : IsOut w v o) :
    SeqStopsK Fence.wide m Try.prog 86 #[.pointer (some ⟨Bc, 0, none⟩)] (fun x : Cv => #[cvV x]) (KA w.heap.size) (fun ys => ys = []) (fun pre => pre = []) 0 w := fun l J Jx W hW hJ _ hY h0 => by
  have hk : Kp [] w W := Kp.of_below hW
  refine (curves1_no m hm l Bc v o E hE hE0 hs hc J W hJ (hk.cell hB (by simp)) (hv.kp0 hk) h0).mono ?_
  rintro e W' ⟨he, hj⟩
  exact ⟨he, .inl ⟨_, rfl, hj⟩⟩
end Go.Proofs.Ytodjohoonbkklaa
namespace Go.Proofs.Ytodjohoonbkklaa
open Go.RowKit
set_option linter.unusedVariables false
set_option linter.unusedSimpArgs false
/-- What the law looks at: curves follow one another, and come back to where they began. -/
def goesR : Bool → Pn → Pn → List Cv → Prop
  | em, f, l, [] => em = true ∨ l = f
  | em, f, l, c :: cs => (em = true ∨ c.a = l ∨ l = f) ∧ goesR false (if em = true ∨ c.a ≠ l then c.a else f) c.d cs
def chainTo (s : Pn) : Pn → List Cv → Prop
  | l, [] => l = s
  | l, c :: cs => c.a = l ∧ chainTo s c.d cs
theorem goes_chain (s : Pn) (R : List Cv) (hR : goesR false s s R) : ∀ (C : List Cv) (l : Pn), chainTo s l C → goesR false s l (C ++ R) := by
  intro C
  induction C with
  | nil => intro l h; rw [show l = s from h]; exact hR
  | cons c cs ih =>
    intro l h
    obtain ⟨h1, h2⟩ := h
    rw [List.cons_append]
    refine ⟨.inr (.inl h1), ?_⟩
    rw [if_neg (by simp [h1])]
    exact ih _ h2
theorem goes_contour (s : Pn) (em : Bool) (f l : Pn) (c : Cv) (cs R : List Cv) (h : em = true ∨ l = f) (hc : c.a = s) (hcs : chainTo s c.d cs) (hR : goesR false s s R) : goesR em f l (c :: cs ++ R) := by
  rw [List.cons_append]
  refine ⟨h.imp id .inr, ?_⟩
  have : (if em = true ∨ c.a ≠ l then c.a else f) = s := by
    split
    · exact hc
    · rename_i hn
      rcases h with h | h
      · exact absurd (.inl h) hn
      · have : c.a = l := by
          apply Classical.byContradiction; intro x; exact hn (.inr x)
        rw [← h, ← this, hc]
  rw [this]
  exact goes_chain s R hR cs _ hcs
theorem ring_len (e : List Pn) (h0 : 0 < e.length) : ringAt e ((e.length : Nat) : Int) = e.getD 0 pn0 := by
  have := ringAt_wrap e e.length (Nat.le_refl _) (by omega)
  rw [this, Nat.sub_self]
theorem chain_from {e : List Pn} (h : okE 0 e = true) : ∀ (d m : Nat), e.length - m = d → m ≤ e.length → (m < e.length → (e.getD m pn0).k = 1) → ∃ D, refTo e e.length = refTo e m ++ D ∧ (0 < e.length → chainTo (e.getD 0 pn0) (ringAt e ((m : Nat) : Int)) D) ∧ (m < e.length → ∃ cs, D = cvAt e m :: cs ∧ chainTo (e.getD 0 pn0) (cvAt e m).d cs) := by
  intro d
  induction d using Nat.strongRecOn with
  | _ d ih =>
    intro m hd hm hk
    by_cases hlt : m < e.length
    · obtain ⟨s1, s2, s3, s4⟩ := step_facts h hlt (hk hlt)
      have hst := refTo_step h hlt (hk hlt)
      have h1 : 1 ≤ stepN e m := by unfold stepN; split <;> (try split) <;> omega
      obtain ⟨D, hD, hc, _⟩ := ih (e.length - (m + stepN e m)) (by omega) (m + stepN e m) rfl s1 s3
      have hc2 := hc (by omega)
      have hdd : (cvAt e m).d = ringAt e (((m + stepN e m : Nat)) : Int) := by rw [cvAt_d, Int.natCast_add]
      refine ⟨cvAt e m :: D, by rw [hD, hst, List.append_assoc]; rfl, fun _ => ⟨?_, ?_⟩, fun _ => ⟨D, rfl, ?_⟩⟩
      · rw [cvAt_a, ringAt_lt e m hlt]
      · rw [hdd]; exact hc2
      · rw [hdd]; exact hc2
    · obtain rfl : m = e.length := by omega
      exact ⟨[], by simp, fun h0 => ring_len e h0, fun h => absurd h hlt⟩
theorem refTo_goes {e : List Pn} (h : okE 0 e = true) (h0 : 0 < e.length) : ∃ c cs, refTo e e.length = c :: cs ∧ c.a = e.getD 0 pn0 ∧ chainTo (e.getD 0 pn0) c.d cs := by
  have hh : (e.getD 0 pn0).k = 1 := by
    match e, h, h0 with
    | p :: l, h, _ =>
      simp only [okE, Bool.and_eq_true, beq_iff_eq] at h
      exact h.1
  obtain ⟨D, hD, _, h2⟩ := chain_from h (e.length - 0) 0 rfl (Nat.zero_le _) (fun _ => hh)
  obtain ⟨cs, rfl, h3⟩ := h2 h0
  exact ⟨cvAt e 0, cs, by rw [hD]; rfl, cvAt_a e 0, h3⟩
/-- The curves of the contours from j on. -/
def curvesFrom (X : List (List Pn)) : Nat → Nat → List Cv
  | 0, _ => []
  | d + 1, j => refTo (X.getD j []) (X.getD j []).length ++ curvesFrom X d (j + 1)
theorem curvesTo_from (X : List (List Pn)) : ∀ d j, curvesTo X (j + d) = curvesTo X j ++ curvesFrom X d j := by
  intro d
  induction d with
  | zero => intro j; simp [curvesFrom]
  | succ d ih =>
    intro j
    rw [show j + (d + 1) = (j + 1) + d by omega, ih (j + 1), curvesTo, curvesFrom, List.append_assoc]
theorem from_goes (X : List (List Pn)) (N : Nat) (hX : ∀ j, j < N → okE 0 (X.getD j []) = true ∧ 0 < (X.getD j []).length) : ∀ (d j : Nat) (em : Bool) (f l : Pn), j + d ≤ N → (em = true ∨ l = f) → goesR em f l (curvesFrom X d j) := by
  intro d
  induction d with
  | zero => intro j em f l _ h; exact h
  | succ d ih =>
    intro j em f l hj h
    obtain ⟨h1, h2⟩ := hX j (by omega)
    obtain ⟨c, cs, e1, e2, e3⟩ := refTo_goes h1 h2
    rw [curvesFrom, e1]
    exact goes_contour _ em f l c cs _ h e2 e3 (ih (j + 1) false _ _ (by omega) (.inr rfl))
theorem curves_goes (X : List (List Pn)) (hX : ∀ j, j < X.length → okE 0 (X.getD j []) = true ∧ 0 < (X.getD j []).length) : goesR true pn0 pn0 (curvesTo X X.length) := by
  have h := curvesTo_from X X.length 0
  rw [Nat.zero_add] at h
  rw [h]
  exact from_goes X X.length hX X.length 0 true pn0 pn0 (by omega) (.inl rfl)
def cvZ : Cv := ⟨0, pn0, pn0, pn0, pn0⟩
theorem goes_step {em : Bool} {f l : Pn} {Y : List Cv} {k : Nat} (h : goesR em f l (Y.drop k)) (hk : k < Y.length) : (em = true ∨ (Y.getD k cvZ).a = l ∨ l = f) ∧ goesR false (if em = true ∨ (Y.getD k cvZ).a ≠ l then (Y.getD k cvZ).a else f) (Y.getD k cvZ).d (Y.drop (k + 1)) := by
  rw [List.drop_eq_getElem_cons hk] at h
  have e : Y.getD k cvZ = Y[k] := by rw [List.getD_eq_getElem?_getD, List.getElem?_eq_getElem hk]; rfl
  rw [e]; exact h
end Go.Proofs.Ytodjohoonbkklaa
namespace Go.Proofs.Ytodjohoonbkklaa
open Go.RowKit Go.Shelf
set_option linter.unusedVariables false
set_option linter.unusedSimpArgs false
def PnAt (W : World) (B : Nat) (p : Pn) : Prop := W.heap[B]? = some (.cells (pnCells p) 61)
theorem PnAt.cells {W : World} {B : Nat} {p : Pn} (h : PnAt W B p) : W.cell? ⟨B, 0, none⟩ = some (.int .i64 p.x) ∧ W.cell? ⟨B, 1, none⟩ = some (.int .i64 p.y) ∧ W.cell? ⟨B, 2, none⟩ = some (.int .i64 p.k) :=
  ⟨by rw [cell_of_row W B 0 _ _ (0, 0) h]; rfl, by rw [cell_of_row W B 1 _ _ (0, 0) h]; rfl, by rw [cell_of_row W B 2 _ _ (0, 0) h]; rfl⟩
theorem PnAt.frozen {W : World} {B : Nat} {p : Pn} (h : PnAt W B p) : W.frozen? ⟨B, 0, none⟩ = false ∧ W.frozen? ⟨B, 1, none⟩ = false ∧ W.frozen? ⟨B, 2, none⟩ = false :=
  ⟨frozen_of_row W B 0 _ _ h, frozen_of_row W B 1 _ _ h, frozen_of_row W B 2 _ _ h⟩
/-- The boxes of the law: stop, the result, want, n, first, last. -/
structure CsSt (w W : World) (Y : List Cv) (stop : Int) (vw : Value) (Wb Nb Fb Lb : Nat) (k : Nat) (f l : Pn) : Prop where
  kp : Kp [] w W
  b0 : Boxed W w.heap.size 3 (.int .i64 stop)
  b1 : Boxed W (w.heap.size + 1) 4 (.bool false)
  bw : Boxed W Wb 58 vw
  cv : IsCvs W vw Y
  bn : Boxed W Nb 3 (.int .i64 k)
  bf : PnAt W Fb f
  bl : PnAt W Lb l
  o1 : w.heap.size + 1 < Wb
  o2 : Wb < Nb
  o3 : Nb < Fb
  o4 : Fb < Lb
  ov : ∀ b, blockOf vw = some b → b < Nb
theorem CsSt.kp0 {w W W' : World} {Y : List Cv} {stop : Int} {vw : Value} {Wb Nb Fb Lb k : Nat} {f l : Pn} (h : CsSt w W Y stop vw Wb Nb Fb Lb k f l) (hk : Kp [] W W') : CsSt w W' Y stop vw Wb Nb Fb Lb k f l :=
  ⟨h.kp.trans hk, hk.heap h.b0 (by simp), hk.heap h.b1 (by simp), hk.heap h.bw (by simp), h.cv.kp0 hk, hk.heap h.bn (by simp), hk.heap h.bf (by simp), hk.heap h.bl (by simp), h.o1, h.o2, h.o3, h.o4, h.ov⟩
theorem CsSt.setN {w W : World} {Y : List Cv} {stop : Int} {vw : Value} {Wb Nb Fb Lb k : Nat} {f l : Pn} (h : CsSt w W Y stop vw Wb Nb Fb Lb k f l) (m : Nat) (x : Int) (hx : x = m) : CsSt w (W.setCell ⟨Nb, 0, none⟩ (.int .i64 x)) Y stop vw Wb Nb Fb Lb m f l := by
  subst hx
  have o1 := h.o1; have o2 := h.o2; have o3 := h.o3; have o4 := h.o4
  have hk : Kp [Nb] W (W.setCell ⟨Nb, 0, none⟩ (.int .i64 (m : Nat))) := (Kp.refl _ _).setCell (.inl (by simp)) _
  exact ⟨h.kp.setCell (.inr (by show _ ≤ Nb; omega)) _, hk.heap h.b0 (by simp; omega), hk.heap h.b1 (by simp; omega), hk.heap h.bw (by simp; omega), Reads.kp h.cv hk (fun s hs e => by simp at hs; subst hs; have := h.ov _ e; omega), heap_setCell_same W Nb 0 _ _ _ h.bn, hk.heap h.bf (by simp; omega), hk.heap h.bl (by simp; omega), h.o1, h.o2, h.o3, h.o4, h.ov⟩
theorem CsSt.setF {w W : World} {Y : List Cv} {stop : Int} {vw : Value} {Wb Nb Fb Lb k : Nat} {f l : Pn} (h : CsSt w W Y stop vw Wb Nb Fb Lb k f l) (x y z : Int) : CsSt w (((W.setCell ⟨Fb, 0, none⟩ (.int .i64 x)).setCell ⟨Fb, 1, none⟩ (.int .i64 y)).setCell ⟨Fb, 2, none⟩ (.int .i64 z)) Y stop vw Wb Nb Fb Lb k ⟨x, y, z⟩ l := by
  have o1 := h.o1; have o2 := h.o2; have o3 := h.o3; have o4 := h.o4
  have hk : Kp [Fb] W (((W.setCell ⟨Fb, 0, none⟩ (.int .i64 x)).setCell ⟨Fb, 1, none⟩ (.int .i64 y)).setCell ⟨Fb, 2, none⟩ (.int .i64 z)) := (((Kp.refl _ _).setCell (.inl (by simp)) _).setCell (.inl (by simp)) _).setCell (.inl (by simp)) _
  exact ⟨put3_kp h.kp (by omega) _ _ _, hk.heap h.b0 (by simp; omega), hk.heap h.b1 (by simp; omega), hk.heap h.bw (by simp; omega), Reads.kp h.cv hk (fun s hs e => by simp at hs; subst hs; have := h.ov _ e; omega), hk.heap h.bn (by simp; omega), put3 h.bf x y z, hk.heap h.bl (by simp; omega), h.o1, h.o2, h.o3, h.o4, h.ov⟩
theorem CsSt.setL {w W : World} {Y : List Cv} {stop : Int} {vw : Value} {Wb Nb Fb Lb k : Nat} {f l : Pn} (h : CsSt w W Y stop vw Wb Nb Fb Lb k f l) (x y z : Int) : CsSt w (((W.setCell ⟨Lb, 0, none⟩ (.int .i64 x)).setCell ⟨Lb, 1, none⟩ (.int .i64 y)).setCell ⟨Lb, 2, none⟩ (.int .i64 z)) Y stop vw Wb Nb Fb Lb k f ⟨x, y, z⟩ := by
  have o1 := h.o1; have o2 := h.o2; have o3 := h.o3; have o4 := h.o4
  have hk : Kp [Lb] W (((W.setCell ⟨Lb, 0, none⟩ (.int .i64 x)).setCell ⟨Lb, 1, none⟩ (.int .i64 y)).setCell ⟨Lb, 2, none⟩ (.int .i64 z)) := (((Kp.refl _ _).setCell (.inl (by simp)) _).setCell (.inl (by simp)) _).setCell (.inl (by simp)) _
  exact ⟨put3_kp h.kp (by omega) _ _ _, hk.heap h.b0 (by simp; omega), hk.heap h.b1 (by simp; omega), hk.heap h.bw (by simp; omega), Reads.kp h.cv hk (fun s hs e => by simp at hs; subst hs; have := h.ov _ e; omega), hk.heap h.bn (by simp; omega), hk.heap h.bf (by simp; omega), put3 h.bl x y z, h.o1, h.o2, h.o3, h.o4, h.ov⟩
theorem CsSt.lt {w W : World} {Y : List Cv} {stop : Int} {vw : Value} {Wb Nb Fb Lb k : Nat} {f l : Pn} (h : CsSt w W Y stop vw Wb Nb Fb Lb k f l) : Lb < W.heap.size := lt_of_block h.bl
theorem notCellsR {W : World} {row : Option Nat} {B : Nat} (hr : ∀ r, row = some r → B ≤ r ∧ ∃ o : Obj, W.heap[r]? = some o ∧ o.isCells = false) {k : Nat} {o : Obj} (hk : W.heap[k]? = some o) (hc : o.isCells = true) : some k ≠ row := by
  intro e
  obtain ⟨_, o2, ho, hc2⟩ := hr k e.symm
  rw [hk] at ho; cases ho; rw [hc] at hc2; cases hc2
theorem heapKept {W W' : World} {row : Option Nat} {B : Nat} (hg : W.grownBy W' row) (hr : ∀ r, row = some r → B ≤ r ∧ ∃ o : Obj, W.heap[r]? = some o ∧ o.isCells = false) {k : Nat} {o : Obj} (hk : W.heap[k]? = some o) (hc : o.isCells = true) : W'.heap[k]? = some o :=
  (hg.block _ (lt_of_block hk) (notCellsR hr hk hc)).trans hk
theorem readsKept {W W' : World} {row : Option Nat} {B size n : Nat} {v : Value} {cs : List Value} (hg : W.grownBy W' row) (hr : ∀ r, row = some r → B ≤ r ∧ ∃ o : Obj, W.heap[r]? = some o ∧ o.isCells = false) (h : Reads size W v n cs) : Reads size W' v n cs := by
  refine ⟨h.1, h.2.imp_right fun ⟨g, off, cap, a, b, c, d⟩ => ⟨g, off, cap, a, b, c, fun j u hu => cell_kept (d j u hu) hg (fun r e => (hr r e).2)⟩⟩
theorem CsSt.own {w : World} {B : Nat} (hB : w.heap.size ≤ B) {β : Type} (Y : β → List Cv) (stop : Int) (vw : Value) (Wb Nb Fb Lb : Nat) (k : β → Nat) (f l : β → Pn) : OwnFrom B (fun (s : β) W => CsSt w W (Y s) stop vw Wb Nb Fb Lb (k s) (f s) (l s)) := by
  intro s W W' row h hg hr
  exact ⟨Kp.grown h.kp hg (fun k hk => .inr (Nat.le_trans hB (hr k hk).1)), heapKept hg hr h.b0 rfl, heapKept hg hr h.b1 rfl, heapKept hg hr h.bw rfl, readsKept hg hr h.cv, heapKept hg hr h.bn rfl, heapKept hg hr h.bf rfl, heapKept hg hr h.bl rfl, h.o1, h.o2, h.o3, h.o4, h.ov⟩
/-- What holds ahead of a round. -/
def CsI (w : World) (Y : List Cv) (stop : Int) (vw : Value) (Wb Nb Fb Lb : Nat) (pre : List Cv) (W : World) : Prop :=
  ∃ f l, CsSt w W Y stop vw Wb Nb Fb Lb pre.length f l ∧ goesR (decide (pre.length = 0)) f l (Y.drop pre.length)
theorem CsI.own {w : World} {B : Nat} (hB : w.heap.size ≤ B) (Y : List Cv) (stop : Int) (vw : Value) (Wb Nb Fb Lb : Nat) : OwnFrom B (CsI w Y stop vw Wb Nb Fb Lb) := by
  intro s W W' row h hg hr
  obtain ⟨f, l, h1, h2⟩ := h
  exact ⟨f, l, CsSt.own hB (fun _ : Unit => Y) stop vw Wb Nb Fb Lb (fun _ => s.length) (fun _ => f) (fun _ => l) () W W' row h1 hg hr, h2⟩
/-- What holds where the body returns. -/
def CsX (w : World) (Y : List Cv) (c : Code) (pre : List Cv) (W : World) : Prop :=
  c = .ret ∧ Kp [] w W ∧ (Boxed W (w.heap.size + 1) 4 (.bool true) ∨ ¬ pre <+: Y)
theorem CsX.own {w : World} {B : Nat} (hB : w.heap.size ≤ B) (Y : List Cv) (c : Code) : OwnFrom B (CsX w Y c) := by
  intro s W W' row h hg hr
  obtain ⟨h1, h2, h3⟩ := h
  refine ⟨h1, Kp.grown h2 hg (fun k hk => .inr (Nat.le_trans hB (hr k hk).1)), ?_⟩
  rcases h3 with h | h
  · exact .inl (heapKept hg hr h rfl)
  · exact .inr h
theorem Kp.keepsS {S : List Nat} {W W' : World} (h : Kp S W W') (hS : ∀ s ∈ S, ∃ o : Obj, W.heap[s]? = some o ∧ o.isCells = true) : KeepsOthers W W' :=
  ⟨h.size, fun k o ho hc => h.heap ho (fun hs => by
    obtain ⟨o2, h1, h2⟩ := hS k hs
    rw [ho] at h1; cases h1; rw [hc] at h2; cases h2)⟩
theorem KA.putObj {n₀ : Nat} (W : World) (l : Nat) (o o' : Obj) (h : W.heap[l]? = some o) (hc : o.isCells = false) : KA n₀ W (W.putObj l o') :=
  ⟨(grownBy_putObj' W l o').size, fun k o2 hk ho hc2 => (grownBy_putObj' W l o').block k (lt_of_block ho) (fun e => by
    cases e
    rw [h] at ho; cases ho; rw [hc] at hc2; cases hc2)⟩
theorem pre_notY {Y : List Cv} {pre : List Cv} {x : Cv} (hlt : pre.length < Y.length) (hx : x ≠ Y.getD pre.length cvZ) : ¬ (pre ++ [x] <+: Y) := by
  rintro ⟨t, ht⟩
  have h1 := congrArg (fun l => l.getD pre.length cvZ) ht
  simp [List.getD_eq_getElem?_getD] at h1
  exact hx (by rw [List.getD_eq_getElem?_getD]; exact h1)
theorem CsSt.made {w w7 : World} {Y : List Cv} {stop : Int} {vw : Value} {Wb : Nat} (h7 : Kp [] w w7) (b0 : Boxed w7 w.heap.size 3 (.int .i64 stop)) (b1 : Boxed w7 (w.heap.size + 1) 4 (.bool false)) (bw : Boxed w7 Wb 58 (.slice none 0 0))
    (cv : IsCvs w7 vw Y) (ov : ∀ b, blockOf vw = some b → Wb < b ∧ b < w7.heap.size) (o1 : w.heap.size + 1 < Wb) :
    CsSt w ((((w7.setCell ⟨Wb, 0, none⟩ vw).alloc (.cells #[.int .i64 0] 3)).alloc (.cells #[.int .i64 0, .int .i64 0, .int .i64 0] 61)).alloc (.cells #[.int .i64 0, .int .i64 0, .int .i64 0] 61)) Y stop vw Wb w7.heap.size (w7.heap.size + 1) (w7.heap.size + 1 + 1) 0 pn0 pn0 := by
  have o2 : Wb < w7.heap.size := lt_of_block bw
  have hk : Kp [Wb] w7 (w7.setCell ⟨Wb, 0, none⟩ vw) := (Kp.refl _ _).setCell (.inl (by simp)) _
  have hz : (w7.setCell ⟨Wb, 0, none⟩ vw).heap.size = w7.heap.size := by simp [World.setCell]
  obtain ⟨wa, ha⟩ : ∃ wa, w7.setCell ⟨Wb, 0, none⟩ vw = wa := ⟨_, rfl⟩
  have hbw : Boxed wa Wb 58 vw := by rw [← ha]; exact heap_setCell_same w7 Wb 0 _ _ _ bw
  have hkw : Kp [] w wa := by rw [← ha]; exact h7.setCell (.inr (by show _ ≤ Wb; omega)) _
  rw [ha] at hk hz ⊢
  have k1 : Kp [] wa (wa.alloc (.cells #[.int .i64 0] 3)) := (Kp.refl _ _).alloc _
  have z1 : (wa.alloc (.cells #[.int .i64 0] 3)).heap.size = w7.heap.size + 1 := by simp [hz]
  have n1 : Boxed (wa.alloc (.cells #[.int .i64 0] 3)) w7.heap.size 3 (.int .i64 0) := by rw [← hz]; exact heap_alloc_new wa _
  generalize wa.alloc (.cells #[.int .i64 0] 3) = wb at *
  have k2 : Kp [] wb (wb.alloc (.cells #[.int .i64 0, .int .i64 0, .int .i64 0] 61)) := (Kp.refl _ _).alloc _
  have z2 : (wb.alloc (.cells #[.int .i64 0, .int .i64 0, .int .i64 0] 61)).heap.size = w7.heap.size + 1 + 1 := by simp [z1]
  have n2 : PnAt (wb.alloc (.cells #[.int .i64 0, .int .i64 0, .int .i64 0] 61)) (w7.heap.size + 1) pn0 := by rw [← z1]; exact heap_alloc_new wb _
  generalize wb.alloc (.cells #[.int .i64 0, .int .i64 0, .int .i64 0] 61) = wc at *
  have k3 : Kp [] wc (wc.alloc (.cells #[.int .i64 0, .int .i64 0, .int .i64 0] 61)) := (Kp.refl _ _).alloc _
  have n3 : PnAt (wc.alloc (.cells #[.int .i64 0, .int .i64 0, .int .i64 0] 61)) (w7.heap.size + 1 + 1) pn0 := by rw [← z2]; exact heap_alloc_new wc _
  generalize wc.alloc (.cells #[.int .i64 0, .int .i64 0, .int .i64 0] 61) = wd at *
  have kk : Kp [] wa wd := (k1.trans k2).trans k3
  have hks : Kp [Wb] w7 wd := hk.trans0 kk
  exact ⟨hkw.trans kk, hks.heap b0 (by simp; omega), hks.heap b1 (by simp; omega), kk.heap hbw (by simp), Reads.kp cv hks (fun s hs e => by simp at hs; subst hs; have := ov _ e; omega), (k2.trans k3).heap n1 (by simp), k3.heap n2 (by simp), n3, o1, o2, by omega, by omega, fun b hb => (ov b hb).2⟩
theorem CsN.made {w w7 : World} {stop : Int} {Wb : Nat} (h7 : Kp [] w w7) (b0 : Boxed w7 w.heap.size 3 (.int .i64 stop)) (b1 : Boxed w7 (w.heap.size + 1) 4 (.bool false)) (bw : Boxed w7 Wb 58 (.slice none 0 0))
    (o1 : w.heap.size + 1 < Wb) :
    CsSt w (((w7.alloc (.cells #[.int .i64 0] 3)).alloc (.cells #[.int .i64 0, .int .i64 0, .int .i64 0] 61)).alloc (.cells #[.int .i64 0, .int .i64 0, .int .i64 0] 61)) [] stop (.slice none 0 0) Wb w7.heap.size (w7.heap.size + 1) (w7.heap.size + 1 + 1) 0 pn0 pn0 := by
  have o2 : Wb < w7.heap.size := lt_of_block bw
  have k1 : Kp [] w7 (w7.alloc (.cells #[.int .i64 0] 3)) := (Kp.refl _ _).alloc _
  have z1 : (w7.alloc (.cells #[.int .i64 0] 3)).heap.size = w7.heap.size + 1 := by simp
  have n1 : Boxed (w7.alloc (.cells #[.int .i64 0] 3)) w7.heap.size 3 (.int .i64 0) := heap_alloc_new w7 _
  generalize w7.alloc (.cells #[.int .i64 0] 3) = wb at *
  have k2 : Kp [] wb (wb.alloc (.cells #[.int .i64 0, .int .i64 0, .int .i64 0] 61)) := (Kp.refl _ _).alloc _
  have z2 : (wb.alloc (.cells #[.int .i64 0, .int .i64 0, .int .i64 0] 61)).heap.size = w7.heap.size + 1 + 1 := by simp [z1]
  have n2 : PnAt (wb.alloc (.cells #[.int .i64 0, .int .i64 0, .int .i64 0] 61)) (w7.heap.size + 1) pn0 := by rw [← z1]; exact heap_alloc_new wb _
  generalize wb.alloc (.cells #[.int .i64 0, .int .i64 0, .int .i64 0] 61) = wc at *
  have k3 : Kp [] wc (wc.alloc (.cells #[.int .i64 0, .int .i64 0, .int .i64 0] 61)) := (Kp.refl _ _).alloc _
  have n3 : PnAt (wc.alloc (.cells #[.int .i64 0, .int .i64 0, .int .i64 0] 61)) (w7.heap.size + 1 + 1) pn0 := by rw [← z2]; exact heap_alloc_new wc _
  generalize wc.alloc (.cells #[.int .i64 0, .int .i64 0, .int .i64 0] 61) = wd at *
  have kk : Kp [] w7 wd := (k1.trans k2).trans k3
  exact ⟨h7.trans kk, kk.heap b0 (by simp), kk.heap b1 (by simp), kk.heap bw (by simp), IsCvs.nil _ _, (k2.trans k3).heap n1 (by simp), k3.heap n2 (by simp), n3, o1, o2, by omega, by omega, fun b hb => by simp at hb⟩
theorem cv_ne13 {yk xk yax xax yay xay yak xak ybx xbx yby xby ybk xbk ycx xcx ycy xcy yck xck ydx xdx ydy xdy ydk xdk : Int} (h : (⟨yk, ⟨yax, yay, yak⟩, ⟨ybx, yby, ybk⟩, ⟨ycx, ycy, yck⟩, ⟨ydx, ydy, ydk⟩⟩ : Cv) ≠ ⟨xk, ⟨xax, xay, xak⟩, ⟨xbx, xby, xbk⟩, ⟨xcx, xcy, xck⟩, ⟨xdx, xdy, xdk⟩⟩) : (yk ≠ xk) ∨ (yk = xk ∧ ((yax ≠ xax) ∨ (yax = xax ∧ ((yay ≠ xay) ∨ (yay = xay ∧ ((yak ≠ xak) ∨ (yak = xak ∧ ((ybx ≠ xbx) ∨ (ybx = xbx ∧ ((yby ≠ xby) ∨ (yby = xby ∧ ((ybk ≠ xbk) ∨ (ybk = xbk ∧ ((ycx ≠ xcx) ∨ (ycx = xcx ∧ ((ycy ≠ xcy) ∨ (ycy = xcy ∧ ((yck ≠ xck) ∨ (yck = xck ∧ ((ydx ≠ xdx) ∨ (ydx = xdx ∧ ((ydy ≠ xdy) ∨ (ydy = xdy ∧ ((ydk ≠ xdk))))))))))))))))))))))))) := by
  by_cases h0 : yk = xk
  case neg => exact .inl h0
  refine .inr ⟨h0, ?_⟩
  by_cases h1 : yax = xax
  case neg => exact .inl h1
  refine .inr ⟨h1, ?_⟩
  by_cases h2 : yay = xay
  case neg => exact .inl h2
  refine .inr ⟨h2, ?_⟩
  by_cases h3 : yak = xak
  case neg => exact .inl h3
  refine .inr ⟨h3, ?_⟩
  by_cases h4 : ybx = xbx
  case neg => exact .inl h4
  refine .inr ⟨h4, ?_⟩
  by_cases h5 : yby = xby
  case neg => exact .inl h5
  refine .inr ⟨h5, ?_⟩
  by_cases h6 : ybk = xbk
  case neg => exact .inl h6
  refine .inr ⟨h6, ?_⟩
  by_cases h7 : ycx = xcx
  case neg => exact .inl h7
  refine .inr ⟨h7, ?_⟩
  by_cases h8 : ycy = xcy
  case neg => exact .inl h8
  refine .inr ⟨h8, ?_⟩
  by_cases h9 : yck = xck
  case neg => exact .inl h9
  refine .inr ⟨h9, ?_⟩
  by_cases h10 : ydx = xdx
  case neg => exact .inl h10
  refine .inr ⟨h10, ?_⟩
  by_cases h11 : ydy = xdy
  case neg => exact .inl h11
  refine .inr ⟨h11, ?_⟩
  intro h12
  subst h0 h1 h2 h3 h4 h5 h6 h7 h8 h9 h10 h11 h12
  exact h rfl
theorem KA.setCell {n₀ : Nat} {W X : World} {p : Addr} (h : KA n₀ W X) (hp : p.block < n₀) (v : Value) : KA n₀ W (X.setCell p v) :=
  h.trans (Kp.kaS (S := [p.block]) ((Kp.refl _ _).setCell (.inl (by simp)) v) (fun s hs => by simp at hs; omega))
theorem Kp.keeps {w w' : World} (h : Kp [] w w') : KeepsOthers w w' := ⟨h.size, fun k o ho _ => h.heap ho (by simp)⟩
theorem Kp.ended {w W : World} {b D : Nat} {v : Value} (h : Kp [] w W) (hb : w.heap.size ≤ b) (hD : w.heap.size ≤ D) : Kp [] w ((W.setCell ⟨b, 0, none⟩ v).putObj D (.deferred none)) :=
  Kp.grown (h.setCell (.inr hb) _) (grownBy_putObj' _ D (.deferred none)) (fun k hk => .inr (by cases hk; exact hD))
end Go.Proofs.Ytodjohoonbkklaa

/- A region that draws its order, walked by a plan: the operations 'mv' (pure ones: they may come at any time) first, then the quiet ones 'idx' (loads, calls that only make new memory) in the order of the plan, then the others 'tl' in the one order in which they can come. -/
import Derived.Test.YtlhkaoccnpgkeaaGreatQuiet
namespace Go.Proofs.YtlhkaoccnpgkeaaGreat
open Go.RowKit
set_option linter.unusedVariables false
section
variable {P : Program} {ops : Array Oper} {md : Region.Mode} {C : World → Prop}
/-- Does operation t wait for i, directly or through others? -/
def needsB (md : Region.Mode) (ops : Array Oper) : Nat → Nat → Nat → Bool
  | 0, _, _ => false
  | f + 1, t, i => match ops[t]? with
    | some o => o.after.any fun e => Region.binds md e && (e.on == i || needsB md ops f e.on i)
    | none => false
/-- What is done is closed under what it waits for. -/
structure PInv (md : Region.Mode) (ops : Array Oper) (D : List Nat) (listed : Array Bool) : Prop where
  given : ∀ j ∈ D, listed.getD j true = true
  size : listed.size = ops.size
  closed : ∀ j oj, ops[j]? = some oj → listed.getD j false = true → ∀ e ∈ oj.after, Region.binds md e = true → listed.getD e.on false = true
theorem getD_set_tt {listed : Array Bool} {i j : Nat} (h : listed.getD j true = true) : (listed.setIfInBounds i true).getD j true = true := by
  by_cases e : i = j
  · subst e
    rw [Array.getD_eq_getD_getElem?]
    cases hh : (listed.setIfInBounds i true)[i]? with
    | none => rfl
    | some b =>
      obtain ⟨hlt, hb⟩ := Array.getElem?_eq_some_iff.1 hh
      rw [← hb]; simp
  · rwa [getD_set_ne true e]
theorem getD_set_self {listed : Array Bool} {i : Nat} : (listed.setIfInBounds i true).getD i true = true := by
  rw [Array.getD_eq_getD_getElem?]
  cases hh : (listed.setIfInBounds i true)[i]? with
  | none => rfl
  | some b =>
    obtain ⟨hlt, hb⟩ := Array.getElem?_eq_some_iff.1 hh
    rw [← hb]; simp
theorem PInv.set {D : List Nat} {i : Nat} {listed : Array Bool} (inv : PInv md ops D listed) (hi : i ∈ Region.ready md ops listed) : PInv md ops D (listed.setIfInBounds i true) := by
  obtain ⟨_, oi, hoi, hall⟩ := mem_ready.1 hi
  refine ⟨fun j hj => getD_set_tt (inv.given j hj), by simp [inv.size], fun j oj hj hl e he hb => ?_⟩
  by_cases hij : i = j
  · subst hij
    have : oj = oi := Option.some.inj (hj.symm.trans hoi)
    subst this
    exact getD_set_true (hall e he hb)
  · rw [getD_set_ne false hij] at hl
    exact getD_set_true (inv.closed j oj hj hl e he hb)
theorem needs_done {D : List Nat} {listed : Array Bool} (inv : PInv md ops D listed) {i : Nat} : ∀ (f t : Nat) (ot : Oper), ops[t]? = some ot → (∀ e ∈ ot.after, Region.binds md e = true → listed.getD e.on false = true) → needsB md ops f t i = true → listed.getD i false = true := by
  intro f
  induction f with
  | zero => intro t ot _ _ h; cases h
  | succ f ih =>
    intro t ot hot hall h
    unfold needsB at h
    rw [hot] at h
    obtain ⟨e, he, hb⟩ := Array.any_eq_true'.1 h
    simp only [Bool.and_eq_true, Bool.or_eq_true, beq_iff_eq] at hb
    obtain ⟨hb1, hb2⟩ := hb
    have hd := hall e he hb1
    rcases hb2 with rfl | hb2
    · exact hd
    · have hlt : e.on < ops.size := by
        have : e.on < listed.size := by
          rcases Nat.lt_or_ge e.on listed.size with h' | h'
          · exact h'
          · simp [Array.getElem?_eq_none h'] at hd
        rw [← inv.size]; exact this
      exact ih e.on ops[e.on] (Array.getElem?_eq_getElem hlt) (inv.closed e.on _ (Array.getElem?_eq_getElem hlt) hd) hb2
/-- So many of the operations of H, in whatever order; then L. -/
def headP (P : Program) (md : Region.Mode) (ops : Array Oper) (C : World → Prop) (H : Nat → Bool) (L : Array Bool → Act → Prop) : Nat → Array Bool → Act → Prop
  | 0, listed, a => L listed a
  | f + 1, listed, a => Region.ready md ops listed ≠ [] ∧ ∀ i ∈ Region.ready md ops listed, H i = true ∧ qOp P ops C i (headP P md ops C H L f (listed.setIfInBounds i true)) a
theorem any_of_headP {H : Nat → Bool} {g : Nat} {L : Array Bool → Act → Prop} {Q : Exit → Act → World → Prop} (hL : ∀ listed a w, C w → L listed a → wpAny P md ops Q g listed a w) (f : Nat) :
    ∀ (listed : Array Bool) (a : Act) (w : World), C w → headP P md ops C H L f listed a → wpAny P md ops Q (f + g) listed a w := by
  induction f with
  | zero => intro listed a w hw h; rw [Nat.zero_add]; exact hL _ _ _ hw h
  | succ f ih =>
    intro listed a w hw h
    rw [Nat.succ_add]
    exact ⟨fun h0 => absurd h0 h.1, fun i hi => wpOp_of_qOp hw (fun a' w' hw' => ih _ a' w' hw') (h.2 i hi).2⟩
theorem headP_first {H : Nat → Bool} {D : List Nat} {i : Nat} {oi : Oper} {v : Value} {L : Array Bool → Act → Prop} (hi : ops[i]? = some oi) (hsel : ∀ (j : Nat) (o : Oper) cs b, ops[j]? = some o → o.op ≠ .select cs b)
    (hwait : ∀ listed, PInv md ops D listed → listed.getD i true = false → ∀ t ∈ Region.ready md ops listed, H t = true) (hdone : ∀ listed a, L listed a → ∀ j ∈ Region.ready md ops listed, H j = false) (f : Nat) :
    ∀ (listed : Array Bool) (a : Act), PInv md ops D listed →
      (∀ j oj, ops[j]? = some oj → j ≠ i → listed.getD j true = false → (∀ e ∈ oj.after, Region.binds md e = true → e.on ≠ i) → oi.apart ops oj = true) →
      i ∈ Region.ready md ops listed → YieldsIn P ops C oi v a → headP P md ops C H L f (listed.setIfInBounds i true) (a.put oi.dst v) → headP P md ops C H L (f + 1) listed a := by
  induction f with
  | zero =>
    intro listed a inv _ hr hy HH
    refine ⟨fun h => (by rw [h] at hr; cases hr), fun j hj => ?_⟩
    have hjn : H j = true := hwait listed inv (mem_ready.1 hr).1 j hj
    by_cases e : j = i
    · subst e; exact ⟨hjn, hy.qOp hi HH⟩
    · have := hdone _ _ HH j (ready_mono hj e)
      rw [hjn] at this; cases this
  | succ f ih =>
    intro listed a inv hfree hr hy HH
    have hun := (mem_ready.1 hr).1
    refine ⟨fun h => (by rw [h] at hr; cases hr), fun j hj => ?_⟩
    have hjn : H j = true := hwait listed inv hun j hj
    by_cases e : j = i
    · subst e; exact ⟨hjn, hy.qOp hi HH⟩
    · obtain ⟨hjun, oj, hoj, hall⟩ := mem_ready.1 hj
      have hnot : ∀ x ∈ oj.after, Region.binds md x = true → x.on ≠ i := fun x hx hb he => by
        have h1 := hall x hx hb
        rw [he, getD_both hun] at h1; cases h1
      have h2 := qOp_put hoj (hfree j oj hoj e hjun hnot) (fun cs b => hsel i oi cs b hi) (fun cs b => hsel j oj cs b hoj) hy (HH.2 j (ready_mono hj e)).2
      refine ⟨hjn, qOp_mono (fun a' h3 => ih (listed.setIfInBounds j true) a' (inv.set hj) (fun k ok hk hki hku hno => ?_) (ready_mono hr (Ne.symm e)) h3.1 ?_) h2⟩
      · refine hfree k ok hk hki ?_ hno
        by_cases hjk : j = k
        · subst hjk; exact hjun
        · rwa [getD_set_ne true hjk] at hku
      · rw [Array.setIfInBounds_comm _ _ e]; exact h3.2
/-- The operations at places. -/
def pickAt (l : List Oper) (idx : List Nat) : List Oper := idx.filterMap (l[·]?)
theorem pickAt_nil (l : List Oper) : pickAt l [] = [] := rfl
theorem pickAt_cons (l : List Oper) (i : Nat) (idx : List Nat) : pickAt l (i :: idx) = (l[i]?).toList ++ pickAt l idx := by
  unfold pickAt; rw [List.filterMap_cons]; cases l[i]? <;> rfl
/-- The one order that is left. -/
def seqI (md : Region.Mode) (ops : Array Oper) : List Nat → Array Bool → Bool
  | [], listed => (Region.ready md ops listed).isEmpty
  | t :: tl, listed => decide (Region.ready md ops listed = [t]) && seqI md ops tl (listed.setIfInBounds t true)
/-- The quiet operations, one by one. -/
def lexI (md : Region.Mode) (ops : Array Oper) (tl : List Nat) : List Nat → Array Bool → Bool
  | [], listed => seqI md ops tl listed
  | i :: idx, listed => (Region.ready md ops listed).contains i && Region.free md ops listed i && lexI md ops tl idx (listed.setIfInBounds i true)
def pureB (o : Oper) : Bool := o.guard.isNone && match o.op with
  | .move _ | .assign _ | .binOp .. | .unOp .. | .convert .. | .fieldAddr .. | .indexAddr .. | .field .. | .index .. | .build .. | .extract .. => true
  | _ => false
/-- The pure operations, one by one. -/
def lexM (md : Region.Mode) (ops : Array Oper) (tl idx : List Nat) : List Nat → Array Bool → Bool
  | [], listed => lexI md ops tl idx listed
  | i :: mv, listed => (match ops[i]? with | some o => pureB o | none => false) && (Region.ready md ops listed).contains i && Region.free md ops listed i && lexM md ops tl idx mv (listed.setIfInBounds i true)
def planB (md : Region.Mode) (ops : Array Oper) (mv idx tl : List Nat) : Bool :=
  Region.noSelect ops && decide (mv.length + (idx.length + tl.length) = ops.size) && ((List.range ops.size).all fun t => mv.contains t || (idx.contains t || idx.all (needsB md ops ops.size t ·))) && lexM md ops tl idx mv (Array.replicate ops.size false)
theorem any_of_seqI {l : List Oper} {Q : Exit → Act → World → Prop} : ∀ (tl : List Nat) (listed : Array Bool) (a : Act) (w : World), seqI md l.toArray tl listed = true → wpList P l.toArray Q (pickAt l tl) a w → wpAny P md l.toArray Q tl.length listed a w := by
  intro tl
  induction tl with
  | nil => intro listed a w hB h; exact ⟨by simpa [seqI] using hB, h⟩
  | cons t tl ih =>
    intro listed a w hB h
    simp only [seqI, Bool.and_eq_true, decide_eq_true_eq] at hB
    refine ⟨fun h1 => (by rw [hB.1] at h1; cases h1), fun i hi => ?_⟩
    have hir := hi
    rw [hB.1] at hi
    have hik : i = t := by simpa using hi
    subst hik
    obtain ⟨_, o, ho, _⟩ := mem_ready.1 hir
    have h0 : l[i]? = some o := by simpa using ho
    have e : pickAt l (i :: tl) = o :: pickAt l tl := by unfold pickAt; rw [List.filterMap_cons, h0]
    rw [e] at h
    have hw : wpOp P l.toArray Q i (wpList P l.toArray Q (pickAt l tl)) a w := by unfold wpOp; simp only [ho]; exact h
    exact wpOp_mono (fun a' w' h' => ih _ a' w' hB.2 h') hw
theorem seqI_ready {tl : List Nat} {listed : Array Bool} (h : seqI md ops tl listed = true) : ∀ j ∈ Region.ready md ops listed, j ∈ tl := by
  cases tl with
  | nil => intro j hj; simp only [seqI, List.isEmpty_iff] at h; rw [h] at hj; cases hj
  | cons t tl =>
    intro j hj
    simp only [seqI, Bool.and_eq_true, decide_eq_true_eq] at h
    rw [h.1] at hj
    have : j = t := by simpa using hj
    subst this; simp
theorem seqI_undone {tl : List Nat} : ∀ {listed : Array Bool}, seqI md ops tl listed = true → ∀ j ∈ tl, listed.getD j true = false := by
  induction tl with
  | nil => intro _ _ j hj; cases hj
  | cons t tl ih =>
    intro listed h j hj
    simp only [seqI, Bool.and_eq_true, decide_eq_true_eq] at h
    have ht : listed.getD t true = false := by
      have : t ∈ Region.ready md ops listed := by rw [h.1]; simp
      exact (mem_ready.1 this).1
    rcases List.mem_cons.1 hj with rfl | hj
    · exact ht
    · have := ih h.2 j hj
      by_cases e : t = j
      · subst e; exact ht
      · rwa [getD_set_ne true e] at this
theorem lexI_undone {tl : List Nat} : ∀ (idx : List Nat) {listed : Array Bool}, lexI md ops tl idx listed = true → ∀ j ∈ tl, j ∉ idx ∧ listed.getD j true = false := by
  intro idx
  induction idx with
  | nil => intro listed h j hj; exact ⟨by simp, seqI_undone h j hj⟩
  | cons i idx ih =>
    intro listed h j hj
    simp only [lexI, Bool.and_eq_true] at h
    obtain ⟨h1, h2⟩ := ih h.2 j hj
    have hne : i ≠ j := fun e => by
      subst e
      rw [getD_set_self] at h2; cases h2
    refine ⟨fun hm => ?_, by rwa [getD_set_ne true hne] at h2⟩
    rcases List.mem_cons.1 hm with rfl | hm
    · exact hne rfl
    · exact h1 hm
theorem headP_lex {l : List Oper} {tl D : List Nat} {H : Nat → Bool} {T : Act → Prop} (hsel : Region.noSelect l.toArray = true)
    (hwait : ∀ i, H i = true → ∀ listed, PInv md l.toArray D listed → listed.getD i true = false → ∀ t ∈ Region.ready md l.toArray listed, H t = true)
    (htl : ∀ t ∈ tl, H t = false) : ∀ (idx : List Nat) (listed : Array Bool) (a : Act), (∀ i ∈ idx, H i = true) → PInv md l.toArray D listed → lexI md l.toArray tl idx listed = true →
    wpQuiet P l.toArray C T (pickAt l idx) a → headP P md l.toArray C H (fun listed' a' => seqI md l.toArray tl listed' = true ∧ T a') idx.length listed a := by
  intro idx
  induction idx with
  | nil => intro listed a _ _ hB h; exact ⟨by simpa [lexI] using hB, h⟩
  | cons i idx ih =>
    intro listed a hH inv hB h
    simp only [lexI, Bool.and_eq_true] at hB
    have hr : i ∈ Region.ready md l.toArray listed := by simpa using hB.1.1
    obtain ⟨_, o, h0, _⟩ := mem_ready.1 hr
    have h0' : l[i]? = some o := by simpa using h0
    have e : pickAt l (i :: idx) = o :: pickAt l idx := by unfold pickAt; rw [List.filterMap_cons, h0']
    rw [e] at h
    have hst : qOp P l.toArray C i (wpQuiet P l.toArray C T (pickAt l idx)) a := by unfold qOp; simp only [h0]; exact h
    obtain ⟨v, hy, hK⟩ := yieldsIn_of_qOp h0 hst
    exact headP_first h0 (Region.noSelect_spec hsel) (hwait i (hH i (by simp))) (fun listed' a' hL j hj => htl j (seqI_ready hL.1 j hj)) idx.length listed a inv (Region.free_spec h0 hB.1.2) hr hy (ih _ _ (fun j hj => hH j (List.mem_cons_of_mem _ hj)) (inv.set hr) hB.2 hK)
/-- What a pure operation that yields in every world is. -/
theorem yields_of_pure {o : Oper} {v : Value} {a : Act} (hp : pureB o = true) (h : YieldsIn P ops (fun _ => True) o v a) : Yields P ops o v a := by
  unfold pureB at hp
  simp only [Bool.and_eq_true] at hp
  obtain ⟨hg, hop⟩ := hp
  rcases h with ⟨hw, hv⟩ | ⟨hw, _⟩
  · refine .inl ⟨hw, fun w => ?_⟩
    have h1 := hv w trivial
    unfold Oper.quietAt at h1
    have key : ∀ (n : Next) (w' : World), (execOp a.eval o).run P w = .ok n w' → ∃ u, n = .value u := by
      intro n w' hr
      have bind : ∀ s : Sem Value, ((do pure (.value (← s))) : Sem Next).run P w = .ok n w' → ∃ u, n = .value u := by
        intro s hs
        rw [Sem.run_bind] at hs
        cases hq : s.run P w with
        | ok u w2 => rw [hq] at hs; simp [go_sem, Result.andThen] at hs; exact ⟨u, hs.1.symm⟩
        | halt x w2 => rw [hq] at hs; simp [Result.andThen] at hs
      unfold execOp at hr
      revert hop hr
      cases o.op <;> intro hop hr <;> first | (cases hop; done) | exact bind _ hr | (simp [go_sem] at hr; exact ⟨_, hr.1.symm⟩)
    cases hr : (execOp a.eval o).run P w with
    | ok n w' =>
      obtain ⟨u, rfl⟩ := key n w' hr
      rw [hr] at h1
      simp only [Oper.quietUpon] at h1
      rw [h1.1, h1.2]
    | halt x w' => rw [hr] at h1; simp only [Oper.quietUpon] at h1
  · unfold Region.wanted at hw
    have : o.guard = none := by simpa using hg
    rw [this] at hw; cases hw
end
/-- The same post, at a panic false. -/
def QN (Q : Exit → Act → World → Prop) : Exit → Act → World → Prop
  | .panic _, _, _ => False
  | .normal, a, w => Q .normal a w
  | e, a, w => Q e a w
theorem QN.to {Q : Exit → Act → World → Prop} : ∀ (e : Exit) (a : Act) (w : World), QN Q e a w → Q e a w := by
  intro e a w h
  cases e <;> first | exact h | exact h.elim
theorem QN.intro {Q : Exit → Act → World → Prop} {a : Act} {w : World} (h : Q .normal a w) : QN Q .normal a w := h
theorem QN.lets {Q : Exit → Act → World → Prop} (h : LetsOut (QN Q)) : LetsOut Q := by
  obtain ⟨a, w, h⟩ := h
  exact ⟨a, w, QN.to _ _ _ h⟩
theorem Oper.wp_QN {P : Program} {o : Oper} {a : Act} {w : World} {K : Act → World → Prop} {Q : Exit → Act → World → Prop} (hh : o.wp P a w K (QN Q)) : o.wp P a w K Q := by
  unfold Oper.wp at *
  generalize (execOp a.eval o).run P w = r at *
  cases r with
  | ok n w' =>
    cases n <;> simp only [Oper.upon] at hh ⊢ <;>
      first
        | exact hh
        | exact Calls.mono hh (fun e w'' he => by cases e <;> first | exact he | exact QN.to _ _ _ he | exact QN.lets he)
  | halt x w' => cases x <;> simp only [Oper.upon] at hh ⊢ <;> first | exact hh | exact QN.to _ _ _ hh
theorem wpOp_QN {P : Program} {ops : Array Oper} {Q : Exit → Act → World → Prop} {i : Nat} {a : Act} {w : World} {K : Act → World → Prop} (hh : wpOp P ops (QN Q) i K a w) : wpOp P ops Q i K a w := by
  unfold wpOp at *
  split
  · simpa [*] using hh
  · rename_i o ho
    simp only [ho] at hh
    split
    · rename_i hw; simp only [hw, if_true] at hh; exact hh.imp Oper.wp_QN (fun h => ⟨h.1, QN.lets h.2⟩)
    · rename_i hw; simp only [hw] at hh; exact hh
theorem wpAny_QN {P : Program} {md : Region.Mode} {ops : Array Oper} {Q : Exit → Act → World → Prop} : ∀ (fuel : Nat) (listed : Array Bool) (a : Act) (w : World), wpAny P md ops (QN Q) fuel listed a w → wpAny P md ops Q fuel listed a w := by
  intro fuel
  induction fuel with
  | zero => intro listed a w h; exact h
  | succ fuel ih => intro listed a w h; exact ⟨h.1, fun i hi => wpOp_mono (fun a' w' h' => ih _ a' w' h') (wpOp_QN (h.2 i hi))⟩
theorem wp_region_plan {P : Program} {id : Nat} {Q : Exit → Act → World → Prop} {a : Act} {w : World} {l : List Oper} (mv idx tl : List Nat) (hm : P.follows .mixedOrders = true) (hB : planB .any l.toArray mv idx tl = true)
    (h : wpQuiet P l.toArray (fun _ => True) (wpQuiet P l.toArray (fun w' => ∃ m : KW w, w' = m.w) (fun a' => ∀ w', (∃ m : KW w, w' = m.w) → wpList P l.toArray (QN Q) (pickAt l tl) a' w') (pickAt l idx)) (pickAt l mv) a) : (Code.region id l.toArray true).wp P Q a w := by
  refine wp_region_any hm (wpAny_QN _ _ _ _ ?_)
  simp only [planB, Bool.and_eq_true, decide_eq_true_eq] at hB
  obtain ⟨⟨⟨hsel, hlen⟩, hwt⟩, hlex⟩ := hB
  rw [show ({ w with drawn := w.drawn + 1 } : World) = w.drew from rfl]
  have inv0 : PInv .any l.toArray [] (Array.replicate l.toArray.size false) :=
    ⟨by simp, by simp, fun j oj _ hl => (by rw [getD_replicate_false] at hl; cases hl)⟩
  -- the moves: each is taken first
  have main : ∀ (mv' : List Nat) (listed : Array Bool) (a : Act), PInv .any l.toArray [] listed → (∀ j ∈ mv, j ∈ mv' ∨ listed.getD j true = true) → lexM .any l.toArray tl idx mv' listed = true →
      wpQuiet P l.toArray (fun _ => True) (wpQuiet P l.toArray (fun w' => ∃ m : KW w, w' = m.w) (fun a' => ∀ w', (∃ m : KW w, w' = m.w) → wpList P l.toArray (QN Q) (pickAt l tl) a' w') (pickAt l idx)) (pickAt l mv') a →
      wpAny P .any l.toArray (QN Q) (mv'.length + (idx.length + tl.length)) listed a w.drew := by
    intro mv'
    induction mv' with
    | nil =>
      intro listed a inv hdone hB h
      rw [List.length_nil, Nat.zero_add]
      have hlexI : lexI .any l.toArray tl idx listed = true := hB
      have inv2 : PInv .any l.toArray mv listed := ⟨fun j hj => (hdone j hj).resolve_left (by simp), inv.size, inv.closed⟩
      have HH2 : headP P .any l.toArray (fun w' => ∃ m : KW w, w' = m.w) (fun i => idx.contains i) (fun listed' a' => seqI .any l.toArray tl listed' = true ∧ ∀ w', (∃ m : KW w, w' = m.w) → wpList P l.toArray (QN Q) (pickAt l tl) a' w') idx.length listed a := by
        refine headP_lex hsel (D := mv) (fun i hi listed' inv' hun t ht => ?_) (fun t ht => by simpa using (lexI_undone idx hlexI t ht).1) idx listed a (fun i hi => by simpa using hi) inv2 hlexI h
        obtain ⟨hut, ot, hot, hall⟩ := mem_ready.1 ht
        have hts : t < l.toArray.size := (Array.getElem?_eq_some_iff.1 hot).1
        have h3 := List.all_eq_true.1 hwt t (List.mem_range.2 hts)
        simp only [Bool.or_eq_true] at h3
        rcases h3 with h3 | h3 | h3
        · have := inv'.given t (by simpa using h3)
          rw [hut] at this; cases this
        · exact h3
        · have h4 := List.all_eq_true.1 h3 i (by simpa using hi)
          have h5 := needs_done inv' _ t ot hot hall h4
          rw [getD_both hun] at h5; cases h5
      exact any_of_headP (Q := QN Q) (g := tl.length) (fun listed a' w' hw hL => any_of_seqI tl listed a' w' hL.1 (hL.2 w' hw)) _ _ _ w.drew ⟨⟨_, (Kp.refl [] w).drew⟩, rfl⟩ HH2
    | cons i mv' ih =>
      intro listed a inv hdone hB h
      simp only [lexM, Bool.and_eq_true] at hB
      obtain ⟨⟨⟨hp, hr⟩, hf⟩, hB2⟩ := hB
      have hr2 : i ∈ Region.ready .any l.toArray listed := by simpa using hr
      obtain ⟨_, o, h0, _⟩ := mem_ready.1 hr2
      rw [h0] at hp
      have h0' : l[i]? = some o := by simpa using h0
      have e : pickAt l (i :: mv') = o :: pickAt l mv' := by unfold pickAt; rw [List.filterMap_cons, h0']
      rw [e] at h
      have hst : qOp P l.toArray (fun _ => True) i (wpQuiet P l.toArray (fun _ => True) (wpQuiet P l.toArray (fun w' => ∃ m : KW w, w' = m.w) (fun a' => ∀ w', (∃ m : KW w, w' = m.w) → wpList P l.toArray (QN Q) (pickAt l tl) a' w') (pickAt l idx)) (pickAt l mv')) a := by unfold qOp; simp only [h0]; exact h
      obtain ⟨v, hy, hK⟩ := yieldsIn_of_qOp h0 hst
      have := ih _ _ (inv.set hr2) (fun j hj => by
        rcases hdone j hj with h | h
        · rcases List.mem_cons.1 h with rfl | h
          · exact .inr getD_set_self
          · exact .inl h
        · exact .inr (getD_set_tt h)) hB2 hK
      rw [List.length_cons, show mv'.length + 1 + (idx.length + tl.length) = (mv'.length + (idx.length + tl.length)) + 1 by omega]
      exact wpAny_take h0 hsel hf hr (fun c a' w' h => h) (yields_of_pure hp hy) this
  have := main mv _ a inv0 (fun j hj => .inl hj) hlex h
  rw [hlen] at this
  exact this
end Go.Proofs.YtlhkaoccnpgkeaaGreat

/- A region that draws its order, by an invariant: no order is walked; each operation is shown once, whatever has been done before it. -/
import Derived.Test.YtpbmefojhgcniaaQuiet
import Derived.RegionTactic
namespace Go.Proofs.Ytpbmefojhgcniaa
open Go.RowKit
set_option linter.unusedVariables false
section
variable {P : Program} {ops : Array Oper} {Q : Exit → Act → World → Prop}
/-- Which operations are done. -/
def doneL (listed : Array Bool) (k : Nat) : Prop := listed.getD k false = true
theorem doneL_set {listed : Array Bool} {j : Nat} (hj : j < listed.size) : doneL (listed.setIfInBounds j true) = fun k => k = j ∨ doneL listed k := by
  funext k
  unfold doneL
  by_cases h : k = j
  · subst h
    simp [Array.getD, hj]
  · simp only [h, false_or]
    rw [Array.getD_eq_getD_getElem?, Array.getD_eq_getD_getElem?, Array.getElem?_setIfInBounds_ne (by omega)]
theorem inv_any (I : (Nat → Prop) → Act → World → Prop)
    (hstep : ∀ (L : Nat → Prop) a w j o, ops[j]? = some o → I L a w → ¬ L j → (∀ e ∈ o.after, Region.binds .any e = true → L e.on) → wpOp P ops Q j (fun a' w' => I (fun k => k = j ∨ L k) a' w') a w)
    (hend : ∀ L a w, I L a w → (∀ j, j < ops.size → L j) → Q .normal a w) (hacy : ∀ listed : Array Bool, listed.size = ops.size → Region.ready .any ops listed = [] → ∀ j, j < ops.size → doneL listed j) :
    ∀ (fuel : Nat) (listed : Array Bool) (a : Act) (w : World), listed.size = ops.size → listed.toList.count false ≤ fuel → I (doneL listed) a w → wpAny P .any ops Q fuel listed a w := by
  intro fuel
  induction fuel with
  | zero =>
    intro listed a w hs hc hI
    have hall : ∀ j, j < ops.size → doneL listed j := fun j hj => by
      unfold doneL
      have h1 : listed[j]'(by omega) ≠ false := fun h => by
        have : false ∈ listed.toList := by rw [← h]; exact Array.getElem_mem_toList _
        have := List.count_pos_iff.2 this
        omega
      have h2 : listed[j]'(by omega) = true := by simpa using h1
      rw [Array.getD_eq_getD_getElem?, Array.getElem?_eq_getElem (by omega), h2]; rfl
    refine ⟨?_, hend _ _ _ hI hall⟩
    rw [List.eq_nil_iff_forall_not_mem]
    intro j hj
    obtain ⟨hu, oj, hoj, _⟩ := mem_ready.1 hj
    have hjs : j < ops.size := (Array.getElem?_eq_some_iff.1 hoj).1
    have := hall j hjs
    unfold doneL at this
    rw [Array.getD_eq_getD_getElem?, Array.getElem?_eq_getElem (by omega)] at this hu
    simp only [Option.getD_some] at this hu
    rw [this] at hu; cases hu
  | succ fuel ih =>
    intro listed a w hs hc hI
    refine ⟨fun h => hend _ _ _ hI (hacy listed hs h), fun j hj => ?_⟩
    obtain ⟨hu, oj, hoj, hall⟩ := mem_ready.1 hj
    have hjs : j < ops.size := (Array.getElem?_eq_some_iff.1 hoj).1
    have hjl : j < listed.size := by omega
    have hlj : listed[j]'hjl = false := by
      rw [Array.getD_eq_getD_getElem?, Array.getElem?_eq_getElem hjl] at hu
      simpa using hu
    have hnl : ¬ doneL listed j := by
      unfold doneL
      rw [Array.getD_eq_getD_getElem?, Array.getElem?_eq_getElem hjl, hlj]; simp
    refine wpOp_mono (fun a' w' h => ih _ a' w' (by simpa using hs) ?_ (by rw [doneL_set hjl]; exact h)) (hstep _ a w j oj hoj hI hnl hall)
    have hcnt : (listed.setIfInBounds j true).toList.count false + 1 = listed.toList.count false := by
      rw [Array.toList_setIfInBounds]
      have hlt : j < listed.toList.length := by simpa using hjl
      have e1 : listed.toList = listed.toList.take j ++ listed.toList[j] :: listed.toList.drop (j + 1) := by
        rw [← List.drop_eq_getElem_cons hlt, List.take_append_drop]
      have e2 : listed.toList[j] = false := by simpa using hlj
      rw [List.set_eq_take_append_cons_drop, if_pos hlt]
      conv => rhs; rw [e1, e2]
      simp
      omega
    omega
/-- No operation waits for a later one. -/
def acyB (ops : Array Oper) : Bool := (List.range ops.size).all fun j => match ops[j]? with
  | some o => o.after.all fun e => decide (e.on < j)
  | none => true
theorem acy_done {ops : Array Oper} (h : acyB ops = true) (listed : Array Bool) (hs : listed.size = ops.size) (hr : Region.ready .any ops listed = []) : ∀ j, j < ops.size → doneL listed j := by
  intro j
  induction j using Nat.strongRecOn with
  | _ j ih =>
    intro hj
    apply Classical.byContradiction
    intro hn
    unfold acyB at h
    rw [List.all_eq_true] at h
    have hj2 := h j (by simpa using hj)
    rw [Array.getElem?_eq_getElem hj] at hj2
    simp only [Array.all_eq_true_iff_forall_mem, decide_eq_true_eq] at hj2
    have hjl : j < listed.size := by omega
    have hmem : j ∈ Region.ready .any ops listed := by
      rw [mem_ready]
      refine ⟨?_, ops[j], Array.getElem?_eq_getElem hj, fun e he _ => ?_⟩
      · unfold doneL at hn
        rw [Array.getD_eq_getD_getElem?, Array.getElem?_eq_getElem hjl] at hn ⊢
        simpa using hn
      · have h1 := hj2 e he
        exact ih e.on h1 (by omega)
    rw [hr] at hmem; cases hmem
theorem wp_region_inv {id : Nat} {a : Act} {w : World} {l : List Oper} (hm : P.follows .mixedOrders = true) (hacy : acyB l.toArray = true) (I : (Nat → Prop) → Act → World → Prop)
    (h0 : I (fun _ => False) a w.drew)
    (hstep : ∀ (L : Nat → Prop) a w j o, l.toArray[j]? = some o → I L a w → ¬ L j → (∀ e ∈ o.after, Region.binds .any e = true → L e.on) → wpOp P l.toArray Q j (fun a' w' => I (fun k => k = j ∨ L k) a' w') a w)
    (hend : ∀ L a w, I L a w → (∀ j, j < l.toArray.size → L j) → Q .normal a w) : (Code.region id l.toArray true).wp P Q a w := by
  refine wp_region_any hm (inv_any I hstep hend (acy_done hacy) _ _ _ _ (by simp) (by simp) ?_)
  have e : doneL (Array.replicate l.toArray.size false) = fun _ => False := by
    funext k
    unfold doneL
    rw [getD_replicate_false]; simp
  rw [e]; exact h0
/-- An act, so many of its slots filled anew. -/
def setMany (a : Act) : List Nat → List Value → Act
  | s :: ss, v :: vs => setMany { a with tmps := a.tmps.setIfInBounds s v } ss vs
  | _, _ => a
/-- The same where only the slots 'slots' change: the act ahead of the region need not be written. -/
theorem wp_region_invS {id : Nat} {a : Act} {w : World} {l : List Oper} (hm : P.follows .mixedOrders = true) (hacy : acyB l.toArray = true) (slots : List Nat) (I : (Nat → Prop) → List Value → World → Prop)
    (vs0 : List Value) (h0 : I (fun _ => False) vs0 w.drew) (ha : setMany a slots vs0 = a)
    (hstep : ∀ (L : Nat → Prop) vs w j o, l.toArray[j]? = some o → I L vs w → ¬ L j → (∀ e ∈ o.after, Region.binds .any e = true → L e.on) → wpOp P l.toArray Q j (fun a' w' => ∃ vs', a' = setMany a slots vs' ∧ I (fun k => k = j ∨ L k) vs' w') (setMany a slots vs) w)
    (hend : ∀ L vs w, I L vs w → (∀ j, j < l.toArray.size → L j) → Q .normal (setMany a slots vs) w) : (Code.region id l.toArray true).wp P Q a w := by
  refine wp_region_inv hm hacy (fun L a' w' => ∃ vs, a' = setMany a slots vs ∧ I L vs w') ⟨vs0, ha.symm, h0⟩ ?_ ?_
  · rintro L a' w' j o ho ⟨vs, rfl, hI⟩ hn hd
    exact hstep L vs w' j o ho hI hn hd
  · rintro L a' w' ⟨vs, rfl, hI⟩ hall
    exact hend L vs w' hI hall
theorem setMany_self (a : Act) : ∀ slots : List Nat, setMany a slots (slots.map fun s => a.tmps.getD s undef) = a := by
  intro slots
  induction slots with
  | nil => rfl
  | cons s ss ih =>
    have e : a.tmps.setIfInBounds s (a.tmps.getD s undef) = a.tmps := by
      apply Array.ext
      · simp
      · intro k h1 h2
        rw [Array.getElem_setIfInBounds]
        split
        · rename_i h; subst h
          rw [Array.getD_eq_getD_getElem?, Array.getElem?_eq_getElem h2]; rfl
        · rfl
    show setMany { a with tmps := a.tmps.setIfInBounds s (a.tmps.getD s undef) } ss _ = a
    rw [e]; exact ih
theorem wp_region_invT {id : Nat} {a : Act} {w : World} {l : List Oper} (hm : P.follows .mixedOrders = true) (hacy : acyB l.toArray = true) (slots : List Nat) (I : (Nat → Prop) → List Value → World → Prop)
    (h0 : ∀ vs : List Value, vs.length = slots.length → I (fun _ => False) vs w.drew)
    (hstep : ∀ (L : Nat → Prop) vs w j o, l.toArray[j]? = some o → I L vs w → ¬ L j → (∀ e ∈ o.after, Region.binds .any e = true → L e.on) → wpOp P l.toArray Q j (fun a' w' => ∃ vs', a' = setMany a slots vs' ∧ I (fun k => k = j ∨ L k) vs' w') (setMany a slots vs) w)
    (hend : ∀ L vs w, I L vs w → (∀ j, j < l.toArray.size → L j) → Q .normal (setMany a slots vs) w) : (Code.region id l.toArray true).wp P Q a w :=
  wp_region_invS hm hacy slots I _ (h0 _ (by simp)) (setMany_self a slots) hstep hend
end
end Go.Proofs.Ytpbmefojhgcniaa

/- A region that draws its order INSIDE A ROUND of a range over a function, by an invariant (as wp_region_inv): its operations call no Go function; each is shown by the plain walk's own words. -/
import Derived.Test.YtpbmefojhgcniaaInv
import Derived.Sort.QuietIn
import Derived.RangeFuncCalls
import Derived.TacticsIn
import Derived.OwnWalkIn
namespace Go.Proofs.Ytpbmefojhgcniaa
open Go.RowKit
set_option linter.unusedVariables false
section
variable {F : Fence} {n l : Nat} {P : Program} {ops : Array Oper} {md : Region.Mode} {Q : Exit → Act → World → Prop}
/-- It comes back with a value, or it halts: it enters nothing. -/
def PlainAt (P : Program) (o : Oper) : Prop := ∀ (ρ : Operand → Value) (w : World), o.about P w ρ = none ∧ (∀ c, o.op ≠ .defer c) ∧ ((∃ s : Sem Value, (execOp ρ o).run P w = (s.run P w).andThen (fun x w' => .ok (.value x) w')) ∨ (∃ s : Sem Unit, (execOp ρ o).run P w = (s.run P w).andThen (fun _ w' => .ok .skip w')))
theorem wpIn_of_plain {o : Oper} {a : Act} {w : World} {K : Act → World → Prop} (hp : PlainAt P o) (h : o.wp P a w K (fun _ _ _ => False)) : o.wpIn (F.inRound l) n P a w K Q := by
  obtain ⟨h1, h2, h3⟩ := hp a.eval w
  unfold Oper.wp at h
  unfold Oper.wpIn
  refine ⟨fun f hf => (by rw [h1] at hf; cases hf), ?_⟩
  rw [Fence.inRound_round, Oper.semAt_some _ _ _ h2]
  rcases h3 with ⟨s, hs⟩ | ⟨s, hs⟩
  · rw [hs] at h ⊢
    cases hr : s.run P w with
    | ok x w' => rw [hr] at h; exact h
    | halt e w' =>
      rw [hr] at h
      cases e <;> first | exact h.elim | exact h
  · rw [hs] at h ⊢
    cases hr : s.run P w with
    | ok x w' => rw [hr] at h; exact h
    | halt e w' =>
      rw [hr] at h
      cases e <;> first | exact h.elim | exact h
theorem wpOpIn_of_plain {i : Nat} {a : Act} {w : World} {K : Act → World → Prop} (hp : ∀ o, ops[i]? = some o → PlainAt P o) (h : wpOp P ops (fun _ _ _ => False) i K a w) : wpOpIn (F.inRound l) n P ops Q i K a w := by
  unfold wpOp at h
  unfold wpOpIn
  split
  · rename_i ho; simp only [ho] at h; exact h
  · rename_i o ho
    simp only [ho] at h
    split
    · rename_i hw
      rw [if_pos hw] at h
      rcases h with h | ⟨_, a0, w0, h⟩
      · exact wpIn_of_plain (hp o ho) h
      · exact h.elim
    · rename_i hw
      rw [if_neg hw] at h
      refine ⟨fun f hf => ?_, h⟩
      rw [(hp o ho a.eval w).1] at hf; cases hf
theorem invIn_any (hp : ∀ (j : Nat) o, ops[j]? = some o → PlainAt P o) (I : (Nat → Prop) → Act → World → Prop)
    (hstep : ∀ (L : Nat → Prop) a w j o, ops[j]? = some o → I L a w → ¬ L j → (∀ e ∈ o.after, Region.binds .any e = true → L e.on) → wpOp P ops (fun _ _ _ => False) j (fun a' w' => I (fun k => k = j ∨ L k) a' w') a w)
    (hend : ∀ L a w, I L a w → (∀ j, j < ops.size → L j) → Q .normal a w) (hacy : ∀ listed : Array Bool, listed.size = ops.size → Region.ready .any ops listed = [] → ∀ j, j < ops.size → doneL listed j) :
    ∀ (fuel : Nat) (listed : Array Bool) (a : Act) (w : World), listed.size = ops.size → listed.toList.count false ≤ fuel → I (doneL listed) a w → wpAnyIn (F.inRound l) n P .any ops Q fuel listed a w := by
  intro fuel
  induction fuel with
  | zero =>
    intro listed a w hs hc hI
    have hall : ∀ j, j < ops.size → doneL listed j := fun j hj => by
      unfold doneL
      have h1 : listed[j]'(by omega) ≠ false := fun h => by
        have : false ∈ listed.toList := by rw [← h]; exact Array.getElem_mem_toList _
        have := List.count_pos_iff.2 this
        omega
      have h2 : listed[j]'(by omega) = true := by simpa using h1
      rw [Array.getD_eq_getD_getElem?, Array.getElem?_eq_getElem (by omega), h2]; rfl
    refine ⟨?_, hend _ _ _ hI hall⟩
    rw [List.eq_nil_iff_forall_not_mem]
    intro j hj
    obtain ⟨hu, oj, hoj, _⟩ := mem_ready.1 hj
    have hjs : j < ops.size := (Array.getElem?_eq_some_iff.1 hoj).1
    have := hall j hjs
    unfold doneL at this
    rw [Array.getD_eq_getD_getElem?, Array.getElem?_eq_getElem (by omega)] at this hu
    simp only [Option.getD_some] at this hu
    rw [this] at hu; cases hu
  | succ fuel ih =>
    intro listed a w hs hc hI
    refine ⟨fun h => hend _ _ _ hI (hacy listed hs h), fun j hj => ?_⟩
    obtain ⟨hu, oj, hoj, hall⟩ := mem_ready.1 hj
    have hjs : j < ops.size := (Array.getElem?_eq_some_iff.1 hoj).1
    have hjl : j < listed.size := by omega
    have hlj : listed[j]'hjl = false := by
      rw [Array.getD_eq_getD_getElem?, Array.getElem?_eq_getElem hjl] at hu
      simpa using hu
    have hnl : ¬ doneL listed j := by
      unfold doneL
      rw [Array.getD_eq_getD_getElem?, Array.getElem?_eq_getElem hjl, hlj]; simp
    refine wpOpIn_of_plain (hp j) (wpOp_mono (fun a' w' h => ih _ a' w' (by simpa using hs) ?_ (by rw [doneL_set hjl]; exact h)) (hstep _ a w j oj hoj hI hnl hall))
    have hcnt : (listed.setIfInBounds j true).toList.count false + 1 = listed.toList.count false := by
      rw [Array.toList_setIfInBounds]
      have hlt : j < listed.toList.length := by simpa using hjl
      have e1 : listed.toList = listed.toList.take j ++ listed.toList[j] :: listed.toList.drop (j + 1) := by
        rw [← List.drop_eq_getElem_cons hlt, List.take_append_drop]
      have e2 : listed.toList[j] = false := by simpa using hlj
      rw [List.set_eq_take_append_cons_drop, if_pos hlt]
      conv => rhs; rw [e1, e2]
      simp
      omega
    omega
theorem wpIn_region_inv {id : Nat} {a : Act} {w : World} {L : List Oper} (hm : P.follows .mixedOrders = true) (hacy : acyB L.toArray = true) (hp : ∀ (j : Nat) o, L.toArray[j]? = some o → PlainAt P o) (I : (Nat → Prop) → Act → World → Prop)
    (h0 : I (fun _ => False) a w.drew)
    (hstep : ∀ (D : Nat → Prop) a w j o, L.toArray[j]? = some o → I D a w → ¬ D j → (∀ e ∈ o.after, Region.binds .any e = true → D e.on) → wpOp P L.toArray (fun _ _ _ => False) j (fun a' w' => I (fun k => k = j ∨ D k) a' w') a w)
    (hend : ∀ D a w, I D a w → (∀ j, j < L.toArray.size → D j) → Q .normal a w) : (Code.region id L.toArray true).wpIn (F.inRound l) n P Q a w := by
  refine wpIn_region_any hm (invIn_any hp I hstep hend (acy_done hacy) _ _ _ _ (by simp) (by simp) ?_)
  have e : doneL (Array.replicate L.toArray.size false) = fun _ => False := by
    funext k
    unfold doneL
    rw [getD_replicate_false]; simp
  rw [e]; exact h0
/-- The same in whatever fence. -/
theorem wpIn_of_plainG {o : Oper} {a : Act} {w : World} {K : Act → World → Prop} (hp : PlainAt P o) (h : o.wp P a w K (fun _ _ _ => False)) : o.wpIn F n P a w K Q := by
  obtain ⟨h1, h2, h3⟩ := hp a.eval w
  unfold Oper.wp at h
  unfold Oper.wpIn
  refine ⟨fun f hf => (by rw [h1] at hf; cases hf), ?_⟩
  rw [Oper.semAt_plain F _ _ h2]
  rcases h3 with ⟨s, hs⟩ | ⟨s, hs⟩
  · rw [hs] at h ⊢
    cases hr : s.run P w with
    | ok x w' => rw [hr] at h; exact h
    | halt e w' =>
      rw [hr] at h
      cases e <;> first | exact h.elim | exact h
  · rw [hs] at h ⊢
    cases hr : s.run P w with
    | ok x w' => rw [hr] at h; exact h
    | halt e w' =>
      rw [hr] at h
      cases e <;> first | exact h.elim | exact h
theorem wpOpIn_of_plainG {i : Nat} {o : Oper} {a : Act} {w : World} {K : Act → World → Prop} (ho : ops[i]? = some o) (hp : PlainAt P o) (h : wpOp P ops (fun _ _ _ => False) i K a w) : wpOpIn F n P ops Q i K a w := by
  unfold wpOp at h
  unfold wpOpIn
  rw [ho] at h ⊢
  show if Region.wanted o (yielded ops a.tmps) = true then _ else _
  have h' : if Region.wanted o (yielded ops a.tmps) = true then (o.wp P a w K (fun _ _ _ => False) ∨ (o.asks P a w ∧ LetsOut (fun _ _ _ => False))) else K (a.put o.dst undef) w := h
  split
  · rename_i hw
    rw [if_pos hw] at h'
    rcases h' with h' | ⟨_, a0, w0, h'⟩
    · exact wpIn_of_plainG hp h'
    · exact h'.elim
  · rename_i hw
    rw [if_neg hw] at h'
    refine ⟨fun f hf => ?_, h'⟩
    rw [(hp a.eval w).1] at hf; cases hf
/-- A call of a Go function that comes back. -/
theorem wpOpIn_enter {i : Nat} {o : Oper} {a : Act} {w : World} {K : Act → World → Prop} {f : FuncId} {args : Array Value} (ho : ops[i]? = some o) (hg : o.guard = none) (hd : ∀ c, o.op ≠ .defer c) (habout : ∀ g, o.about P w a.eval = some g → F.fn g)
    (hrun : (execOp a.eval o).run P w = .ok (.enter f args) w) (hn : F.depth.isSome = true → 1 ≤ n) (hc : CallsIn F (n - 1) P f args w (fun e w' => ∃ v, e = .returned v ∧ K (a.put o.dst v) w')) : wpOpIn F n P ops Q i K a w := by
  unfold wpOpIn
  rw [ho]
  show if Region.wanted o (yielded ops a.tmps) = true then _ else _
  rw [if_pos (by simp [Region.wanted, hg])]
  unfold Oper.wpIn
  refine ⟨habout, ?_⟩
  rw [Oper.semAt_plain F _ _ hd, hrun]
  refine ⟨hn, hc.mono ?_⟩
  rintro e w' ⟨v, rfl, h⟩
  exact h
theorem invIn_anyG (I : (Nat → Prop) → Act → World → Prop)
    (hstep : ∀ (L : Nat → Prop) a w j o, ops[j]? = some o → I L a w → ¬ L j → (∀ e ∈ o.after, Region.binds .any e = true → L e.on) → wpOpIn F n P ops Q j (fun a' w' => I (fun k => k = j ∨ L k) a' w') a w)
    (hend : ∀ L a w, I L a w → (∀ j, j < ops.size → L j) → Q .normal a w) (hacy : ∀ listed : Array Bool, listed.size = ops.size → Region.ready .any ops listed = [] → ∀ j, j < ops.size → doneL listed j) :
    ∀ (fuel : Nat) (listed : Array Bool) (a : Act) (w : World), listed.size = ops.size → listed.toList.count false ≤ fuel → I (doneL listed) a w → wpAnyIn F n P .any ops Q fuel listed a w := by
  intro fuel
  induction fuel with
  | zero =>
    intro listed a w hs hc hI
    have hall : ∀ j, j < ops.size → doneL listed j := fun j hj => by
      unfold doneL
      have h1 : listed[j]'(by omega) ≠ false := fun h => by
        have : false ∈ listed.toList := by rw [← h]; exact Array.getElem_mem_toList _
        have := List.count_pos_iff.2 this
        omega
      have h2 : listed[j]'(by omega) = true := by simpa using h1
      rw [Array.getD_eq_getD_getElem?, Array.getElem?_eq_getElem (by omega), h2]; rfl
    refine ⟨?_, hend _ _ _ hI hall⟩
    rw [List.eq_nil_iff_forall_not_mem]
    intro j hj
    obtain ⟨hu, oj, hoj, _⟩ := mem_ready.1 hj
    have hjs : j < ops.size := (Array.getElem?_eq_some_iff.1 hoj).1
    have := hall j hjs
    unfold doneL at this
    rw [Array.getD_eq_getD_getElem?, Array.getElem?_eq_getElem (by omega)] at this hu
    simp only [Option.getD_some] at this hu
    rw [this] at hu; cases hu
  | succ fuel ih =>
    intro listed a w hs hc hI
    refine ⟨fun h => hend _ _ _ hI (hacy listed hs h), fun j hj => ?_⟩
    obtain ⟨hu, oj, hoj, hall⟩ := mem_ready.1 hj
    have hjs : j < ops.size := (Array.getElem?_eq_some_iff.1 hoj).1
    have hjl : j < listed.size := by omega
    have hlj : listed[j]'hjl = false := by
      rw [Array.getD_eq_getD_getElem?, Array.getElem?_eq_getElem hjl] at hu
      simpa using hu
    have hnl : ¬ doneL listed j := by
      unfold doneL
      rw [Array.getD_eq_getD_getElem?, Array.getElem?_eq_getElem hjl, hlj]; simp
    refine wpOpIn_mono (fun a' w' h => ih _ a' w' (by simpa using hs) ?_ (by rw [doneL_set hjl]; exact h)) (hstep _ a w j oj hoj hI hnl hall)
    have hcnt : (listed.setIfInBounds j true).toList.count false + 1 = listed.toList.count false := by
      rw [Array.toList_setIfInBounds]
      have hlt : j < listed.toList.length := by simpa using hjl
      have e1 : listed.toList = listed.toList.take j ++ listed.toList[j] :: listed.toList.drop (j + 1) := by
        rw [← List.drop_eq_getElem_cons hlt, List.take_append_drop]
      have e2 : listed.toList[j] = false := by simpa using hlj
      rw [List.set_eq_take_append_cons_drop, if_pos hlt]
      conv => rhs; rw [e1, e2]
      simp
      omega
    omega
theorem wpIn_region_invG {id : Nat} {a : Act} {w : World} {L : List Oper} (hm : P.follows .mixedOrders = true) (hacy : acyB L.toArray = true) (I : (Nat → Prop) → Act → World → Prop)
    (h0 : I (fun _ => False) a w.drew)
    (hstep : ∀ (D : Nat → Prop) a w j o, L.toArray[j]? = some o → I D a w → ¬ D j → (∀ e ∈ o.after, Region.binds .any e = true → D e.on) → wpOpIn F n P L.toArray Q j (fun a' w' => I (fun k => k = j ∨ D k) a' w') a w)
    (hend : ∀ D a w, I D a w → (∀ j, j < L.toArray.size → D j) → Q .normal a w) : (Code.region id L.toArray true).wpIn F n P Q a w := by
  refine wpIn_region_any hm (invIn_anyG I hstep hend (acy_done hacy) _ _ _ _ (by simp) (by simp) ?_)
  have e : doneL (Array.replicate L.toArray.size false) = fun _ => False := by
    funext k
    unfold doneL
    rw [getD_replicate_false]; simp
  rw [e]; exact h0
theorem wpOp_value {i : Nat} {o : Oper} {a : Act} {w w' : World} {K : Act → World → Prop} {v : Value} (ho : ops[i]? = some o) (hg : o.guard = none) (hrun : (execOp a.eval o).run P w = .ok (.value v) w') (h : K (a.put o.dst v) w') : wpOp P ops Q i K a w := by
  unfold wpOp
  rw [ho]
  show if Region.wanted o (yielded ops a.tmps) = true then _ else _
  rw [if_pos (by simp [Region.wanted, hg])]
  exact .inl (by unfold Oper.wp; rw [hrun]; exact h)
theorem wpOp_skip {i : Nat} {o : Oper} {a : Act} {w w' : World} {K : Act → World → Prop} (ho : ops[i]? = some o) (hg : o.guard = none) (hrun : (execOp a.eval o).run P w = .ok .skip w') (h : K (a.put o.dst undef) w') : wpOp P ops Q i K a w := by
  unfold wpOp
  rw [ho]
  show if Region.wanted o (yielded ops a.tmps) = true then _ else _
  rw [if_pos (by simp [Region.wanted, hg])]
  exact .inl (by unfold Oper.wp; rw [hrun]; exact h)
/-- Which operations enter nothing. -/
theorem plain_load {o : Oper} (t : TypeId) (x : Operand) (h : o.op = .load t x) : PlainAt P o := fun ρ w => ⟨by simp [Oper.about, h], by rw [h]; simp, .inl ⟨Instr.loadAt t (ρ x), by simp only [execOp, h, Sem.run_bind, Sem.run_pure]⟩⟩
theorem plain_field {o : Oper} (t : TypeId) (x : Operand) (f : Nat) (h : o.op = .fieldAddr t x f) : PlainAt P o := fun ρ w => ⟨by simp [Oper.about, h], by rw [h]; simp, .inl ⟨Instr.fieldAt t (ρ x) f, by simp only [execOp, h, Sem.run_bind, Sem.run_pure]⟩⟩
theorem plain_index {o : Oper} (t : TypeId) (x i : Operand) (h : o.op = .indexAddr t x i) : PlainAt P o := fun ρ w => ⟨by simp [Oper.about, h], by rw [h]; simp, .inl ⟨Instr.indexAt t (ρ x) (ρ i), by simp only [execOp, h, Sem.run_bind, Sem.run_pure]⟩⟩
theorem plain_buildSlice {o : Oper} (t : TypeId) (n : Nat) (ps : Array (Nat × Operand)) (h : o.op = .buildSlice t n ps) : PlainAt P o := fun ρ w => ⟨by simp [Oper.about, h], by rw [h]; simp, .inl ⟨Instr.buildSlice t n (ps.map fun (i, x) => (i, ρ x)), by simp only [execOp, h, Sem.run_bind, Sem.run_pure]⟩⟩
theorem plain_build {o : Oper} (t : TypeId) (ps : Array (Nat × Operand)) (h : o.op = .build t ps) : PlainAt P o := fun ρ w => ⟨by simp [Oper.about, h], by rw [h]; simp, .inl ⟨Instr.build t (ps.map fun (i, x) => (i, ρ x)), by simp only [execOp, h, Sem.run_bind, Sem.run_pure]⟩⟩
theorem plain_store {o : Oper} (t : TypeId) (x y : Operand) (h : o.op = .store t x y) : PlainAt P o := fun ρ w => ⟨by simp [Oper.about, h], by rw [h]; simp, .inr ⟨Instr.storeAt t (ρ x) (ρ y), by simp only [execOp, h, Sem.run_bind, Sem.run_pure]⟩⟩
theorem plain_alloc {o : Oper} (t : TypeId) (h : o.op = .alloc t) : PlainAt P o := fun ρ w => ⟨by simp [Oper.about, h], by rw [h]; simp, .inl ⟨Instr.alloc t true (.tuple #[]), by simp only [execOp, h, Sem.run_bind, Sem.run_pure]⟩⟩
theorem plain_append {o : Oper} (args : Array Operand) (ts : Array TypeId) (h : o.op = .call { callee := .builtin .append, args := args, argTypes := ts }) : PlainAt P o := fun ρ w => ⟨by simp [Oper.about, h, resolve, Target.leads], by rw [h]; simp, .inl ⟨Builtin.append_ ts o.type (args.map ρ), by simp only [execOp, h, resolve, invoke, builtin, Sem.run_bind, Sem.run_pure, Result.andThen_ok]⟩⟩
end
end Go.Proofs.Ytpbmefojhgcniaa

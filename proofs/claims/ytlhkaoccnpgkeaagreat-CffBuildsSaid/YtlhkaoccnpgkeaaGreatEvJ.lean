/- eval: conversions, calls; every operation. -/
import Derived.Test.YtlhkaoccnpgkeaaGreatEvI
namespace Go.Proofs.YtlhkaoccnpgkeaaGreat.Ev
open Go
set_option linter.unusedVariables false
set_option linter.unusedSimpArgs false
variable {α : Type} {β : Type}
section
variable {P : Program} {E : Env} {σ : Sg} {ρ ρ' : Operand → Value} {o : Oper} {eff : Eff}
theorem push_modify {γ : Type} (l : Array γ) (x : γ) (f : γ → γ) : (l.push x).modify l.size f = l.push (f x) := by
  apply Array.ext
  · simp
  · intro k h1 h2
    simp only [Array.getElem_modify, Array.getElem_push]
    split
    · rename_i e; subst e; simp
    · rename_i e
      have hk : k < l.size := by simp at h2; omega
      simp [hk]
theorem run_s2b (e : TypeId) (b : ByteArray) (w : World) : ∃ x w', w'.heap = w.heap.push (.cells ((⟨bytesV b⟩ : Array Value) ++ Array.replicate x (.int .u8 0)) e (b.size + x, b.size + x + 1)) ∧ w'.os = w.os ∧ w'.tape = w.tape ∧ w'.output = w.output ∧ (Conv.stringToBytes e b).run P w = .ok (.slice (some ⟨w.heap.size, 0, none⟩) b.size (b.size + x)) w' := by
  have hbv : (b.data.map fun b => Value.int .u8 b.toNat) = ⟨bytesV b⟩ := by
    apply Array.toList_inj.1
    simp [bytesV]
  have hsz : (⟨bytesV b⟩ : Array Value).size = b.size := by simp [bytesV]
  let x := w.tape w.drawn (.appendCap b.size 0 e) % (2 ^ 63 - b.size)
  refine ⟨x, { w.drew with heap := w.heap.push (.cells ((⟨bytesV b⟩ : Array Value) ++ Array.replicate x (.int .u8 0)) e (b.size + x, b.size + x + 1)) }, rfl, rfl, rfl, rfl, ?_⟩
  have hc : (choose (.appendCap b.size 0 e)).run P w = .ok (b.size + x) w.drew := by
    rw [run_choose, if_neg (by simp [Question.forced])]
    rfl
  have hsh : ∀ cs : Array Value, (w.drew.alloc (.cells cs e)).shape? w.heap.size = some (e, cs.size) := fun cs => by
    show (match (w.heap.push (.cells cs e))[w.heap.size]? with | some (.cells c elem _) => some (elem, c.size) | _ => none) = _
    rw [Array.getElem?_push_size]
  simp only [Conv.stringToBytes, Sem.run_bind, hc, Result.andThen_ok, hbv, newRow, run_newObj, Sem.run_pure]
  rw [show b.size + x - b.size = x by omega]
  have hfr : ∀ cs : Array Value, cs.size = b.size + x → (markStringish ⟨w.heap.size, 0, none⟩).run P (w.drew.alloc (.cells cs e)) = .ok () { w.drew with heap := w.heap.push (.cells cs e (b.size + x, b.size + x + 1)) } := fun cs hcs => by
    simp only [markStringish, Sem.run_bind, run_shape, Result.andThen_ok, hsh, run_freeze, hcs]
    congr 1
    simp only [World.freeze, World.alloc, World.drew]
    rw [if_neg (by decide)]
    congr 1
    rw [push_modify]
    simp
  have := hfr ((⟨bytesV b⟩ : Array Value) ++ Array.replicate x (.int .u8 0)) (by simp [hsz])
  have e9 : ({ w.drew with heap := w.drew.heap.push (.cells ((⟨bytesV b⟩ : Array Value) ++ Array.replicate x (.int .u8 0)) e) } : World) = w.drew.alloc (.cells ((⟨bytesV b⟩ : Array Value) ++ Array.replicate x (.int .u8 0)) e) := rfl
  rw [e9]
  have e8 : w.drew.heap.size = w.heap.size := rfl
  rw [e8, this]
  rfl
theorem convert_spec (hE : EnvOk P E) {s d : TypeId} {x x' : Value} (h : oConvert E s d x = some eff) (hx : VR σ x x') : EffS P σ (do pure (.value (← convert s d x'))) eff := by
  unfold oConvert at h
  split at h
  · rename_i i is hi his
    have hd0 := (hE.ty d i hi).1
    have hs0 := (hE.ty s is his).1
    split at h
    · rename_i k n
      rw [hx.iint]
      split at h
      · rename_i k2 hd
        rw [hd] at hd0
        cases h
        intro w
        refine ⟨_, ?_, .int k2 (wrapF k2 n)⟩
        rw [wrapF_eq]
        cases hu : is.und <;> rw [hu] at hs0 <;> simp [convert, run_underlying hs0, run_underlying hd0, Conv.intToInt]
      · cases h
    · rename_i a n c
      split at h
      · rename_i hd
        rw [hd] at hd0
        split at h
        · cases h
        · rename_i a
          split at h
          · rename_i e j he
            obtain ⟨hu, hq, h0⟩ := elem_some hE he
            have hje := (hE.ty e j hq).1
            split at h
            · rename_i k hk
              rw [hk] at hje
              split at h
              · have key : ∀ a' n' c' w, (convert s d (.slice (some a') n' c')).run P w = (Conv.bytesToString (.slice (some a') n' c')).run P w := fun a' n' c' w => by
                  simp [convert, run_underlying hu, run_underlying hd0, run_underlying hje]
                split at h
                · cases h
                  intro w
                  have e0 : ∀ a' c', (Conv.bytesToString (.slice (some a') 0 c')).run P w = .ok (.string ByteArray.empty) w := fun a' c' => by
                    simp [Conv.bytesToString, loadCells, loadCellsFrom]
                  refine ⟨.string ByteArray.empty, ?_, .string _⟩
                  rcases hx.isl with ⟨b, hs, hb, rfl⟩ | ⟨b, hs, hb, rfl⟩ | ⟨b, o', c', hs, _, _, rfl⟩
                  · rw [Sem.run_bind, key, e0]; rfl
                  · rw [Sem.run_bind, key, e0]; rfl
                  · rw [Sem.run_bind, key, e0]; rfl
                · rename_i hn0
                  cases h
                  rcases hx.isl with ⟨b, hs, hb, rfl⟩ | ⟨b, hs, hb, rfl⟩ | ⟨b, o', c', hs, h9, _⟩
                  · exact ⟨b, _, hb, fun w => by rw [Sem.run_bind, key]; rfl⟩
                  · exact ⟨b, _, hb, fun w => by rw [Sem.run_bind, key]; rfl⟩
                  · exact absurd h9 (fun e => hn0 e)
              · cases h
            · cases h
          · cases h
      · rename_i e hd
        rw [hd] at hd0
        split at h
        · rename_i a
          split at h
          · rename_i j hb1 hj
            have hje := (hE.ty e j hj).1
            rw [Bool.and_eq_true, nbeq, decide_eq_true_eq] at hb1
            obtain ⟨hsl, rfl⟩ := hb1
            split at h
            · rename_i k hk
              rw [hk] at hje
              split at h
              · cases h
                intro hns
                have key : ∀ a' n' c' w, (convert s s (.slice (some a') n' c')).run P w = ((markStringish a').run P w).andThen fun _ w => .ok (.slice (some a') n' c') w := fun a' n' c' w => by
                  simp [convert, run_underlying hd0, run_underlying hje]
                have key2 : ∀ a' n' c' w, (do pure (.value (← convert s s (.slice (some a') n' c'))) : Sem Next).run P w = ((markStringish a').run P w).andThen fun _ w => .ok (.value (.slice (some a') n' c')) w := fun a' n' c' w => by
                  rw [Sem.run_bind, key]
                  cases (markStringish a').run P w <;> rfl
                rcases hx.isl with ⟨b, hs, hb, rfl⟩ | ⟨b, hs, hb, rfl⟩ | ⟨b, o', c', hs, _⟩
                · exact ⟨b, _, hb, by obtain ⟨B, off, sp⟩ := a; dsimp only at hs; subst hs; exact .sl _ _ _ hb, fun w => key2 _ _ _ w⟩
                · exact ⟨b, _, hb, by obtain ⟨B, off, sp⟩ := a; dsimp only at hs; subst hs; exact .sl0 _ _ _ hb, fun w => key2 _ _ _ w⟩
                · rw [noSpot, hs] at hns; simp at hns
              · cases h
            · cases h
          · cases h
        · cases h
      · cases h
    · rename_i b
      rw [hx.istr]
      split at h
      · rename_i e hd
        rw [hd] at hd0
        split at h
        · rename_i j hj
          obtain ⟨hje, ji, z, a1, a2, _⟩ := hE.ty e j hj
          split at h
          · rename_i k hk
            rw [hk] at hje
            split at h
            · rw [nbeq] at h
              split at h
              · rename_i h1
                cases h
                have h1' : j.size = 1 := by simpa using h1
                refine ⟨rfl, VL.gr (List.all_eq_true.2 (fun v hv => ?_)), by simp [Program.cellsOf, a1, a2, h1'], fun w => ?_⟩
                · unfold bytesV at hv
                  obtain ⟨q, _, rfl⟩ := List.mem_map.1 hv
                  rfl
                · have hcv : (convert s d (.string b)).run P w = (Conv.stringToBytes e b).run P w := by
                    cases hu : is.und <;> rw [hu] at hs0 <;> simp [convert, run_underlying hs0, run_underlying hd0, run_underlying hje]
                  have hl : (bytesV b).length = b.size := by simp [bytesV]
                  obtain ⟨x, w', e1, e2, e3, e4, e5⟩ := run_s2b (P := P) e b w
                  refine ⟨x, w', ?_, e2, e3, e4, ?_⟩
                  · rw [hl]; exact e1
                  · rw [Sem.run_bind, hcv, e5, hl]; rfl
              · cases h
            · cases h
          · cases h
        · cases h
      · rename_i hd
        rw [hd] at hd0
        cases h
        intro w
        refine ⟨.string b, ?_, .string _⟩
        cases hu : is.und <;> rw [hu] at hs0 <;> simp [convert, run_underlying hs0, run_underlying hd0]
      · cases h
    · cases h
  · cases h
theorem args_VL (hρ : ∀ x, VR σ (ρ x) (ρ' x)) (l : List Operand) : VL σ (l.map ρ) (l.map ρ') := VL.map ρ ρ' hρ l
theorem guard_ok {op : BinOp} {t : TypeId} {x y : Operand} {u v : Value} (h1 : u ≠ .nilIface) (h2 : ∀ a, u ≠ .agg a) (w : World) : (eqGuard op t x y u v).run P w = .ok () w := by
  unfold eqGuard
  cases op <;> simp
  all_goals
    cases u <;> first | rfl | exact absurd rfl h1 | exact absurd rfl (h2 _)
theorem guard_spec (hE : EnvOk P E) {t : TypeId} {op : BinOp} {x y : Operand} {u v u' v' r : Value} (h : aBin E t op u v = some r) (hu : VR σ u u') (hv : VR σ v v') (w : World) : (eqGuard op t x y u' v').run P w = .ok () w := by
  have bad : ∀ u, (∀ k n, u ≠ .int k n) → (∀ s, u ≠ .string s) → (∀ b, u ≠ .bool b) → (∀ a n c, u ≠ .slice a n c) → (∀ a, u ≠ .pointer a) → (∀ f a b, u ≠ .func f a b) → u ≠ .nilFunc → (∀ l, u ≠ .agg l) → aBin E t op u v ≠ some r := by
    intro u h1 h2 h3 h4 h5 h6 h7 h8 e
    unfold aBin at e
    split at e
    · exact h1 _ _ rfl
    · unfold bOther at e
      split at e
      · exact h2 _ rfl
      · exact h8 _ rfl
      · split at e
        · split at e
          · split at e
            · exact h3 _ rfl
            · cases e
          · split at e
            · exact h4 _ _ _ rfl
            · cases e
          · split at e
            · exact h5 _ rfl
            · cases e
          · split at e
            · exact h7 rfl
            · exact h6 _ _ _ rfl
            · cases e
          · cases e
        · cases e
  cases hu with
  | int k n => exact guard_ok (by simp) (by simp) w
  | string s => exact guard_ok (by simp) (by simp) w
  | bool b => exact guard_ok (by simp) (by simp) w
  | nilFunc => exact guard_ok (by simp) (by simp) w
  | pnil => exact guard_ok (by simp) (by simp) w
  | ptr o h => exact guard_ok (by simp) (by simp) w
  | snil n c => exact guard_ok (by simp) (by simp) w
  | sl o n c h => exact guard_ok (by simp) (by simp) w
  | sl0 o n c h => exact guard_ok (by simp) (by simp) w
  | sl1 B o b o' c => exact guard_ok (by simp) (by simp) w
  | func k h h' => exact guard_ok (by simp) (by simp) w
  | yield h => exact guard_ok (by simp) (by simp) w
  | agg hl =>
    have h' : bOther E t op (.agg _) v = some r := h
    unfold bOther at h'
    dsimp only at h'
    split at h'
    · split at h'
      · rename_i i hi
        split at h'
        · rename_i l hl2
          obtain ⟨fs, k1, k2, k3, _⟩ := hE.eqs t i l hi hl2
          cases hv with
          | agg hl3 =>
            unfold eqGuard
            cases op <;> simp [k3]
        · cases h'
      · cases h'
    · cases h'
  | _ => exact absurd h (bad _ (by simp [Ev.top, Ev.top1]) (by simp [Ev.top, Ev.top1]) (by simp [Ev.top, Ev.top1]) (by simp [Ev.top, Ev.top1]) (by simp [Ev.top, Ev.top1]) (by simp [Ev.top, Ev.top1]) (by simp [Ev.top, Ev.top1]) (by simp [Ev.top, Ev.top1]))
/-- What is appended, and how it is found. -/
inductive SrcK (P : Program) (e : TypeId) (ji : TypeInfo) (z : Array Value) (u : TypeId) (x : Value) (m : Nat) : (World → List Value → Prop) → Prop
  | zeros (k k' : IntKind) (hu : P.underlying u = some (.int k)) (hx : x = .int k' (m : Nat)) (hm : m * (ji.bytes + 1) ≤ 1099511627776) : SrcK P e ji z u x m (fun _ l => l = repL z.toList m)
  | none (e' : TypeId) (a : Option Addr) (c : Nat) (hu : P.underlying u = some (.slice e')) (hx : x = .slice a 0 c) (hm : m = 0) : SrcK P e ji z u x m (fun _ l => l = [])
  | sl (e' : TypeId) (a : Addr) (c : Nat) (hu : P.underlying u = some (.slice e')) (hx : x = .slice (some a) m c) : SrcK P e ji z u x m (fun w l => l.length = m * ji.size ∧ ∀ j v, l[j]? = some v → w.cell? (a.add j) = some v)
  | str (b : ByteArray) (hu : P.underlying u = some .string) (hx : x = .string b) (hm : m = b.size) : SrcK P e ji z u x m (fun _ l => l = bytesV b)
theorem store_nil (a : Addr) (w : World) : (storeCells a []).run P w = .ok () w := rfl
theorem wrapN {m : Nat} (h : m ≤ 1099511627776) : IntKind.i64.wrap (m : Int) = (m : Int) := by
  unfold IntKind.wrap
  simp [IntKind.bits, IntKind.signed]
  omega
theorem src_zero {e : TypeId} {ji : TypeInfo} {z : Value} (hi : P.info? e = some ji) (hz : ji.zero = some z) (hzs : z.cells.size = ji.size) (m : Nat) (w : World) : (if m * ji.size = 0 then pure #[] else do pure (Builtin.zeroCells (← zeroValue e).cells m) : Sem (Array Value)).run P w = .ok (repL z.cells.toList m).toArray w := by
  have e0 : (repL z.cells.toList m).toArray = Builtin.zeroCells z.cells m := by
    rw [← zeroCells_eq]
  by_cases h : m * ji.size = 0
  · rw [if_pos h, e0]
    have : Builtin.zeroCells z.cells m = #[] := by simp [Builtin.zeroCells, hzs, h]
    rw [this]; rfl
  · rw [if_neg h, e0]
    simp [zeroValue, typeInfo, hi, hz]
theorem app_room {t u ty e : TypeId} {ji : TypeInfo} {z : Value} (ht : P.underlying t = some (.slice e)) (hi : P.info? e = some ji) (hz : ji.zero = some z) {base : Option Addr} {n c m : Nat} {x : Value} {NW : World → List Value → Prop} (hk : SrcK P e ji z.cells u x m NW) {w : World} {l : List Value} (hl : NW w l) (hr : n + m ≤ c) (hzs : z.cells.size = ji.size) (h0 : ji.size ≠ 0) :
    (Builtin.append_ #[t, u] ty #[.slice base n c, x]).run P w = ((match base with | none => pure () | some a => storeCells (a.add (n * ji.size)) l : Sem Unit).run P w).andThen fun _ w => .ok (.slice base (n + m) c) w := by
  cases hk with
  | zeros k k' hu hx hm =>
    subst hl; subst hx
    have hm1 : m ≤ 1099511627776 := by rw [Nat.mul_add] at hm; omega
    have hmb : m * ji.bytes ≤ 1099511627776 := by rw [Nat.mul_add] at hm; omega
    have h1 : ¬ ((m : Int) * (ji.bytes : Int) > 281474976710656) := by
      have : ((m * ji.bytes : Nat) : Int) ≤ 1099511627776 := by omega
      rw [Int.natCast_mul] at this
      omega
    have hs := src_zero (P := P) hi hz hzs m
    have hneg : ¬ ((m : Int) < 0) := by omega
    have h2 : ¬ (281474976710656 < (m : Int) * (ji.bytes : Int)) := by omega
    have h3 : (asIntOf (.int k' (m : Nat))).run P w = .ok (k', (m : Int)) w := rfl
    by_cases h4 : m * ji.size = 0
    · have e0 : repL z.cells.toList m = [] := by
        have e1 := zeroCells_eq z.cells m
        have : Builtin.zeroCells z.cells m = #[] := by simp [Builtin.zeroCells, hzs, h4]
        rw [← e1, this]
      rw [e0]
      cases base <;> simp [Builtin.append_, run_underlying ht, run_underlying hu, sizeOf, typeInfo, hi, asInt, h3, wrapN hm1, hneg, h2, hr, h4, store_nil]
    · have e1 := zeroCells_eq z.cells m
      cases base <;> simp [Builtin.append_, run_underlying ht, run_underlying hu, sizeOf, typeInfo, hi, asInt, h3, wrapN hm1, hneg, h2, hr, h4, zeroValue, hz, e1]
  | none e' a c' hu hx hm =>
    subst hl; subst hx; subst hm
    have hr' : n ≤ c := by omega
    have hf : ∀ a, (Builtin.firstCells ji.size 0 (.slice a 0 c')).run P w = .ok #[] w := fun a => by
      cases a <;> simp [Builtin.firstCells, loadCells, loadCellsFrom]
    cases base <;> simp [Builtin.append_, run_underlying ht, run_underlying hu, sizeOf, typeInfo, hi, Builtin.lenOf, hr', hf, store_nil]
  | sl e' a c' hu hx =>
    subst hx
    obtain ⟨h1, h2⟩ := hl
    have hf := run_firstCells_some (P := P) w ji.size m a m c' l h1 h2
    cases base <;> simp [Builtin.append_, run_underlying ht, run_underlying hu, sizeOf, typeInfo, hi, Builtin.lenOf, hr, hf]
  | str b hu hx hm =>
    subst hl; subst hx; subst hm
    have hb : ((b.extract 0 b.size).data.map fun b => Value.int .u8 b.toNat) = (bytesV b).toArray := by
      apply Array.toList_inj.1
      simp [bytesV]
    have hf : (Builtin.firstCells ji.size b.size (.string b)).run P w = .ok (bytesV b).toArray w := by
      simp only [Builtin.firstCells, hb, Sem.run_pure]
    cases base <;> simp [Builtin.append_, run_underlying ht, run_underlying hu, sizeOf, typeInfo, hi, Builtin.lenOf, hr, hf]
theorem app_grow {t u ty e : TypeId} {ji : TypeInfo} {z : Value} (ht : P.underlying t = some (.slice e)) (hi : P.info? e = some ji) (hz : ji.zero = some z) {base : Option Addr} {n c m : Nat} {x : Value} {NW : World → List Value → Prop} (hk : SrcK P e ji z.cells u x m NW) {w : World} {l old : List Value} (hl : NW w l) (hr : c < n + m) (hb : (n + m) * (ji.bytes + 1) ≤ 1099511627776) (hzs : z.cells.size = ji.size) (h0 : ji.size ≠ 0)
    (hold : match base with | none => old = [] ∧ n = 0 | some a => old.length = n * ji.size ∧ ∀ j v, old[j]? = some v → w.cell? (a.add j) = some v) :
    (Builtin.append_ #[t, u] ty #[.slice base n c, x]).run P w = .ok (.slice (some ⟨w.heap.size, 0, none⟩) (n + m) (grownCap w (n + m) c e)) (w.drew.alloc (.cells (old.toArray ++ l.toArray ++ Builtin.zeroCells z.cells (grownCap w (n + m) c e - (n + m))) e)) := by
  have hn : ¬ (n + m ≤ c) := by omega
  have hnm : n + m ≤ 1099511627776 := by rw [Nat.mul_add] at hb; omega
  have hnb : (n + m) * ji.bytes ≤ 1099511627776 := by rw [Nat.mul_add] at hb; omega
  have h63 : ¬ (9223372036854775807 < ((n : Int) + (m : Int))) := by omega
  have hfit := growslice_fits (bytes := ji.bytes) hr (by omega)
  have hfit' : ¬ (281474976710656 < Builtin.nextslicecap (n + m) c * ji.bytes) := by omega
  have hold' : ∀ c', (Builtin.firstCells ji.size n (.slice base n c')).run P w.drew = .ok old.toArray w.drew := by
    intro c'
    cases base with
    | none => obtain ⟨rfl, _⟩ := hold; rfl
    | some a =>
      obtain ⟨h1, h2⟩ := hold
      have := run_loadCells_list (P := P) w.drew a old (fun j v hv => h2 j v hv)
      rw [h1] at this
      simpa [Builtin.firstCells] using this
  have hforced : (Question.appendCap (n + m) c e).forced = false := by rfl
  have fin : ∀ (A B C : Array Value), A ++ (B ++ C) = A ++ B ++ C := fun A B C => by rw [Array.append_assoc]
  have hzm : Builtin.zeroCells z.cells m = (repL z.cells.toList m).toArray := by
    apply Array.toList_inj.1
    rw [zeroCells_eq]
  cases hk with
  | zeros k k' hu hx hm =>
    subst hl; subst hx
    have hm1 : m ≤ 1099511627776 := by omega
    have hmb : m * ji.bytes ≤ 1099511627776 := by rw [Nat.mul_add] at hm; omega
    have h1 : ¬ ((m : Int) * (ji.bytes : Int) > 281474976710656) := by
      have : ((m * ji.bytes : Nat) : Int) ≤ 1099511627776 := by omega
      rw [Int.natCast_mul] at this
      omega
    have hneg : ¬ ((m : Int) < 0) := by omega
    have h2 : ¬ (281474976710656 < (m : Int) * (ji.bytes : Int)) := by omega
    have h3 : (asIntOf (.int k' (m : Nat))).run P w = .ok (k', (m : Int)) w := rfl
    have h63b : ¬ (9223372036854775807 < ((n : Int) + max (m : Int) 0)) := by omega
    by_cases h4 : m * ji.size = 0
    · have e0 : (repL z.cells.toList m).toArray = #[] := by
        rw [← hzm]
        simp [Builtin.zeroCells, hzs, h4]
      rw [e0]
      simp [Builtin.append_, run_underlying ht, run_underlying hu, sizeOf, typeInfo, hi, asInt, h3, wrapN hm1, hneg, h2, hn, h4, h63, h63b, hfit', hforced, hold', zeroValue, hz, newRow, grownCap]
      all_goals (congr 2; apply Array.ext'; simp [List.append_assoc])
    · simp [Builtin.append_, run_underlying ht, run_underlying hu, sizeOf, typeInfo, hi, asInt, h3, wrapN hm1, hneg, h2, hn, h4, h63, h63b, hfit', hforced, hold', zeroValue, hz, newRow, grownCap, hzm]
      all_goals (congr 2; apply Array.ext'; simp [List.append_assoc])
  | none e' a c' hu hx hm =>
    subst hl; subst hx; subst hm
    have hf : ∀ a w, (Builtin.firstCells ji.size 0 (.slice a 0 c')).run P w = .ok #[] w := fun a w => by
      cases a <;> simp [Builtin.firstCells, loadCells, loadCellsFrom]
    have hn0 : ¬ (n ≤ c) := by omega
    have h630 : ¬ (9223372036854775807 < (n : Int)) := by omega
    have hfit0 : ¬ (281474976710656 < Builtin.nextslicecap n c * ji.bytes) := by simpa using hfit'
    have hforced0 : (Question.appendCap n c e).forced = false := rfl
    simp [Builtin.append_, run_underlying ht, run_underlying hu, sizeOf, typeInfo, hi, Builtin.lenOf, hn0, h630, hfit0, hforced0, hold', hf, zeroValue, hz, newRow, grownCap]
  | sl e' a c' hu hx =>
    subst hx
    obtain ⟨h1, h2⟩ := hl
    have hf := run_firstCells_some (P := P) w.drew ji.size m a m c' l h1 h2
    simp [Builtin.append_, run_underlying ht, run_underlying hu, sizeOf, typeInfo, hi, Builtin.lenOf, hn, h63, hfit', hforced, hold', hf, zeroValue, hz, newRow, grownCap]
    all_goals (congr 2; apply Array.ext'; simp [List.append_assoc])
  | str b hu hx hm =>
    subst hl; subst hx; subst hm
    have hbb : ((b.extract 0 b.size).data.map fun b => Value.int .u8 b.toNat) = (bytesV b).toArray := by
      apply Array.toList_inj.1
      simp [bytesV]
    have hf : (Builtin.firstCells ji.size b.size (.string b)).run P w.drew = .ok (bytesV b).toArray w.drew := by
      simp only [Builtin.firstCells, hbb, Sem.run_pure]
    simp [Builtin.append_, run_underlying ht, run_underlying hu, sizeOf, typeInfo, hi, Builtin.lenOf, hn, h63, hfit', hforced, hold', hf, zeroValue, hz, newRow, grownCap]
    all_goals (congr 2; apply Array.ext'; simp [List.append_assoc])
theorem append_fin {t u e ty : TypeId} {q : TI} {j : TypeInfo} {z : Value} (hu : P.underlying t = some (.slice e)) (h0 : q.size ≠ 0) (h1 : P.info? e = some j) (h2 : j.size = q.size) (h3 : j.bytes = q.bytes) (h4 : j.zero = some z) (hzs : z.cells.size = j.size) (hce : P.cellsOf e = q.size)
    {base base' : Option Addr} {n cap capR : Nat} (hs : VR σ (.slice base n cap) (.slice base' n capR)) {x' : Value} (m : Nat) (src : List Value ⊕ Addr) (NW : World → List Value → Prop) (hk : SrcK P e j z.cells u x' m NW)
    (hsrc : match src with
            | .inl l => ∃ l', VL σ l l' ∧ l'.length = m * q.size ∧ ∀ w, NW w l'
            | .inr a => ∃ b, σ.blk a.block = some b ∧ ∀ (w : World) (l' : List Value), l'.length = m * q.size → (∀ j v, l'[j]? = some v → w.cell? ⟨b, a.off + j, none⟩ = some v) → NW w l') :
            EffS P σ (do pure (.value (← Builtin.append_ ⟨[t, u]⟩ ty ⟨[.slice base' n capR, x']⟩))) (.append q.size q.bytes e base n cap m src) := by
  refine ⟨base', capR, z.cells, NW, hs, h0, by rw [hzs, h2], hce, hsrc, fun w l hl hr => ?_, fun w l old hl hr hb hold => ?_⟩
  · have := app_room (ty := ty) (base := base') hu h1 h4 hk hl hr hzs (by rw [h2]; exact h0)
    rw [h2] at this
    rw [Sem.run_bind]
    erw [this]
    cases base' with
    | none => rfl
    | some a =>
      show ((Sem.run P (storeCells (a.add (n * q.size)) l) w).andThen _).andThen _ = (Sem.run P (storeCells (a.add (n * q.size)) l) w).andThen _
      cases Sem.run P (storeCells (a.add (n * q.size)) l) w <;> rfl
  · have := app_grow (ty := ty) (base := base') (old := old) hu h1 h4 hk hl hr (by rw [h3]; exact hb) hzs (by rw [h2]; exact h0) (by rw [h2]; cases base' <;> exact hold)
    rw [Sem.run_bind]
    erw [this]
    rfl
theorem append_spec (hE : EnvOk P E) {ts : List TypeId} {l l' : List Value} (hl : VL σ l l') (h : oAppend E ts l = some eff) (ty : TypeId) : EffS P σ (do pure (.value (← Builtin.append_ ⟨ts⟩ ty ⟨l'⟩))) eff := by
  unfold oAppend at h
  split at h
  · rename_i sv x
    obtain ⟨s', x', rfl, hs, hx⟩ : ∃ s' x', l' = [s', x'] ∧ VR σ sv s' ∧ VR σ x x' := by
      cases hl with
      | cons h h' => cases h' with
        | cons h2 h3 => cases h3; exact ⟨_, _, rfl, h, h2⟩
    split at h
    · rename_i t u
      split at h
      · rename_i e q base n cap he
        obtain ⟨hu, hq, h0⟩ := elem_some hE he
        obtain ⟨j, z, h1, h2, h3, h4, h5, h6, h7⟩ := hE.zero (σ := σ) hq
        have hzs : z.cells.size = j.size := by rw [h2, ← h7, ← h5]; simp
        have hce : P.cellsOf e = q.size := by simp [Program.cellsOf, h1, h2]
        obtain ⟨base', capR, rfl⟩ : ∃ base' capR, s' = .slice base' n capR := by
          cases base with
          | none => exact ⟨none, cap, hs.isn⟩
          | some a =>
            rcases hs.isl with ⟨b, _, _, e⟩ | ⟨b, _, _, e⟩ | ⟨b, o, c', _, e1, _, e⟩
            · exact ⟨_, _, e⟩
            · exact ⟨_, _, e⟩
            · subst e1; exact ⟨_, _, e⟩
        have fin := append_fin (ty := ty) (u := u) (x' := x') hu h0 h1 h2 h3 h4 hzs hce hs
        split at h
        · rename_i i hi
          have hu2 := (hE.ty u i hi).1
          split at h
          · rename_i k hd
            rw [hd] at hu2
            split at h
            · rename_i k2 zz
              split at h
              · rename_i m
                rw [nble] at h
                split at h
                · rename_i hm
                  cases h
                  have hm' : m * (q.bytes + 1) ≤ 1099511627776 := by simpa using hm
                  refine fin m _ _ (.zeros k k2 hu2 (by rw [hx.iint]; rfl) (by rw [h3]; exact hm')) ?_
                  refine ⟨repL q.zero m, h6.rep m, ?_, fun w => by rw [h5]⟩
                  have := zeroCells_eq z.cells m
                  rw [h5] at this
                  rw [← this]
                  simp [Builtin.zeroCells, hzs, h2]
                · cases h
              · cases h
            · cases h
          · rename_i e2 hd
            rw [hd] at hu2
            split at h
            · rename_i a m c
              split at h
              · rename_i a
                split at h
                · cases h
                  obtain ⟨a', c', rfl⟩ : ∃ a' c', x' = .slice a' 0 c' := by
                    rcases hx.isl with ⟨b, _, _, e⟩ | ⟨b, _, _, e⟩ | ⟨b, o, c', _, _, _, e⟩
                    · exact ⟨_, _, e⟩
                    · exact ⟨_, _, e⟩
                    · exact ⟨_, _, e⟩
                  exact fin 0 _ _ (.none e2 a' c' hu2 rfl rfl) ⟨[], .nil, by simp, fun w => rfl⟩
                · rename_i hm0
                  cases h
                  rcases hx.isl with ⟨b, _, hb, e⟩ | ⟨b, _, hb, e⟩ | ⟨b, o, c', _, e1, _, e⟩
                  · refine fin m _ _ (.sl e2 ⟨b, a.off, none⟩ _ hu2 e) ⟨b, hb, fun w l' k1 k2 => ⟨by rw [h2]; exact k1, fun j v hv => ?_⟩⟩
                    have e9 : (⟨b, a.off, none⟩ : Addr).add j = ⟨b, a.off + j, none⟩ := by unfold Addr.add; split <;> simp_all
                    rw [e9]; exact k2 j v hv
                  · refine fin m _ _ (.sl e2 ⟨b, a.off, none⟩ _ hu2 e) ⟨b, hb, fun w l' k1 k2 => ⟨by rw [h2]; exact k1, fun j v hv => ?_⟩⟩
                    have e9 : (⟨b, a.off, none⟩ : Addr).add j = ⟨b, a.off + j, none⟩ := by unfold Addr.add; split <;> simp_all
                    rw [e9]; exact k2 j v hv
                  · exact absurd e1 (by simpa using hm0)
              · split at h
                · cases h
                  exact fin 0 _ _ (.none e2 none c hu2 hx.isn rfl) ⟨[], .nil, by simp, fun w => rfl⟩
                · cases h
            · cases h
          · rename_i hd
            rw [hd] at hu2
            split at h
            · rename_i b
              rw [nbeq] at h
              split at h
              · rename_i h8
                cases h
                have h8' : q.size = 1 := by simpa using h8
                have hbl : (bytesV b).length = b.size := by simp [bytesV]
                have hbg : (bytesV b).all gr = true := List.all_eq_true.2 (fun v hv => by
                  unfold bytesV at hv
                  obtain ⟨y, _, rfl⟩ := List.mem_map.1 hv
                  rfl)
                exact fin b.size _ _ (.str b hu2 hx.istr rfl) ⟨bytesV b, VL.gr hbg, by rw [hbl, h8']; omega, fun w => rfl⟩
              · cases h
            · cases h
          · cases h
        · cases h
      · cases h
    · cases h
  · cases h
theorem copy_spec (hE : EnvOk P E) {ts : List TypeId} {l l' : List Value} (hl : VL σ l l') (h : oCopy E ts l = some eff) (ty : TypeId) : EffS P σ (do pure (.value (← Builtin.copy_ ⟨ts⟩ ty ⟨l'⟩))) eff := by
  unfold oCopy at h
  split at h
  · rename_i sv x
    obtain ⟨s', x', rfl, hs, hx⟩ : ∃ s' x', l' = [s', x'] ∧ VR σ sv s' ∧ VR σ x x' := by
      cases hl with
      | cons h h' => cases h' with
        | cons h2 h3 => cases h3; exact ⟨_, _, rfl, h, h2⟩
    split at h
    · rename_i t ts
      split at h
      · rename_i e q a n c b m c2 he
        obtain ⟨hu, hq, h0⟩ := elem_some hE he
        have hsz := fun w => sizeOf_run (P := P) hE hq w
        split at h
        · rename_i a b
          split at h
          · rename_i hmin
            cases h
            intro w
            have hmin' : Nat.min m n = 0 := hmin
            refine ⟨.int .i64 0, ?_, .int _ _⟩
            obtain ⟨a', c', rfl⟩ : ∃ a' c', s' = .slice (some a') n c' := by
              rcases hs.isl with ⟨b, _, _, e⟩ | ⟨b, _, _, e⟩ | ⟨b, o, c', _, e1, _, e⟩
              · exact ⟨_, _, e⟩
              · exact ⟨_, _, e⟩
              · subst e1; exact ⟨_, _, e⟩
            obtain ⟨b', d', rfl⟩ : ∃ a' c', x' = .slice (some a') m c' := by
              rcases hx.isl with ⟨b, _, _, e⟩ | ⟨b, _, _, e⟩ | ⟨b, o, c', _, e1, _, e⟩
              · exact ⟨_, _, e⟩
              · exact ⟨_, _, e⟩
              · subst e1; exact ⟨_, _, e⟩
            have hf : (Builtin.firstCells q.size 0 (.slice (some b') m d')).run P w = .ok #[] w := by
              simp [Builtin.firstCells, loadCells, loadCellsFrom]
            simp [Builtin.copy_, run_underlying hu, Builtin.lenOf, hmin', hsz, hf, store_nil, goInt]
          · rename_i k hmin
            cases h
            obtain ⟨k, hmin'⟩ : ∃ k, Nat.min m n = k := ⟨_, rfl⟩
            rw [hmin']
            have hk0 : k ≠ 0 := fun e0 => hmin (by rw [hmin', e0])
            have hn0 : n ≠ 0 := by
              intro e0; subst e0
              have : Nat.min m 0 = 0 := Nat.min_zero m
              omega
            have hm0 : m ≠ 0 := by
              intro e0; subst e0
              have : Nat.min 0 n = 0 := Nat.zero_min n
              omega
            have conc : ∀ (ab bb dc sc : Nat) (w : World) (l' : List Value), l'.length = k * q.size → (∀ j v, l'[j]? = some v → w.cell? ⟨bb, b.off + j, none⟩ = some v) →
                (do pure (.value (← Builtin.copy_ ⟨t :: ts⟩ ty ⟨[.slice (some ⟨ab, a.off, none⟩) n dc, .slice (some ⟨bb, b.off, none⟩) m sc]⟩)) : Sem Next).run P w = ((storeCells ⟨ab, a.off, none⟩ l').run P w).andThen fun _ w => .ok (.value (.int .i64 (k : Nat))) w := by
              intro ab bb dc sc w l' h1 h2
              have hf := run_firstCells_some (P := P) w q.size k ⟨bb, b.off, none⟩ m sc l' h1 (fun j v hv => by
                have e9 : (⟨bb, b.off, none⟩ : Addr).add j = ⟨bb, b.off + j, none⟩ := by unfold Addr.add; split <;> simp_all
                rw [e9]; exact h2 j v hv)
              simp [Builtin.copy_, run_underlying hu, Builtin.lenOf, hmin', hsz, hf, goInt]
              cases Sem.run P (storeCells ⟨ab, a.off, none⟩ l') w <;> rfl
            rcases hs.isl with ⟨ab, _, hab, e1⟩ | ⟨ab, _, hab, e1⟩ | ⟨_, _, _, _, e1, _⟩
            · rcases hx.isl with ⟨bb, _, hbb, e2⟩ | ⟨bb, _, hbb, e2⟩ | ⟨_, _, _, _, e2, _⟩
              · subst e1 e2; exact ⟨ab, bb, hab, hbb, conc ab bb _ _⟩
              · subst e1 e2; exact ⟨ab, bb, hab, hbb, conc ab bb _ _⟩
              · exact absurd e2 hm0
            · rcases hx.isl with ⟨bb, _, hbb, e2⟩ | ⟨bb, _, hbb, e2⟩ | ⟨_, _, _, _, e2, _⟩
              · subst e1 e2; exact ⟨ab, bb, hab, hbb, conc ab bb _ _⟩
              · subst e1 e2; exact ⟨ab, bb, hab, hbb, conc ab bb _ _⟩
              · exact absurd e2 hm0
            · exact absurd e1 hn0
        · cases h
      · cases h
    · cases h
  · cases h
theorem iface_spec (hE : EnvOk P E) {t : TypeId} {x x' : Value} (h : oIface E t x = some eff) (hx : VR σ x x') : EffS P σ (do pure (.value (← Instr.makeInterface t x'))) eff := by
  unfold oIface at h
  split at h
  · rename_i i hi
    have hu := (hE.ty t i hi).1
    split at h
    · rename_i hif
      cases h
      refine fun w => ⟨.iface t x', ?_, .iface t hx⟩
      cases hd : i.und <;> rw [hd] at hu hif <;> simp [isIfD] at hif <;> simp [Instr.makeInterface, run_underlying hu]
    · cases h
  · cases h
theorem assert_spec (hE : EnvOk P E) {t xt : TypeId} {x x' : Value} {ok : Bool} (h : oAssert E x t ok = some eff) (hx : VR σ x x') : EffS P σ (do pure (.value (← Instr.typeAssert x' xt t ok))) eff := by
  unfold oAssert at h
  split at h
  · rename_i i hi
    have hu := (hE.ty t i hi).1
    split at h
    · rename_i hif
      split at h
      · rename_i t' v
        obtain ⟨v', hv, rfl⟩ := hx.iiface
        split at h
        · rename_i ht
          have ht' : t' = t := Nat.eq_of_beq_eq_true ht
          subst ht'
          split at h
          · cases h
            refine fun w => ⟨.tuple ⟨[v', .bool true]⟩, ?_, .tuple (.cons hv (.cons (.bool _) .nil))⟩
            cases hd : i.und <;> rw [hd] at hu hif <;> simp [isIfD] at hif <;> simp [Instr.typeAssert, run_underlying hu]
          · cases h
            refine fun w => ⟨v', ?_, hv⟩
            cases hd : i.und <;> rw [hd] at hu hif <;> simp [isIfD] at hif <;> simp [Instr.typeAssert, run_underlying hu]
        · cases h
      · cases h
    · cases h
  · cases h
theorem range_spec (hE : EnvOk P E) {t : TypeId} {x x' : Value} (h : oRange E t x = some eff) (hx : VR σ x x') : EffS P σ (do pure (.value (← Instr.range t x'))) eff := by
  unfold oRange at h
  split at h
  · rename_i i hi
    have hu := (hE.ty t i hi).1
    split at h
    · rename_i hd
      rw [hd] at hu
      split at h
      · cases h
        rw [hx.istr]
        exact fun w => by simp [Instr.range, run_underlying hu]
      · cases h
    · cases h
  · cases h
theorem next_spec {it it' : Value} {str : Bool} {ty : TypeId} (h : oNext it str = some eff) (hx : VR σ it it') : EffS P σ (do pure (.value (← Instr.next it' str ty))) eff := by
  unfold oNext at h
  split at h
  · split at h
    · split at h
      · split at h
        rename_i B o sp
        split at h
        · cases h
          obtain ⟨b, hb, hs, rfl⟩ := hx.iptr
          refine ⟨b, hb, fun w str pos hw => ⟨fun hp => ?_, fun hp => ?_⟩⟩
          · have hg : (getObj b).run P w = .ok (.stringIter str pos) w := by simp [getObj, Sem.run, hw]
            have hset : ∀ o, (setObj b o).run P w = .ok () (w.putObj b o) := fun o => by simp [setObj, Sem.run, hw, World.putObj]
            simp [Instr.next, hg, hp, hset, goInt]
          · have hg : (getObj b).run P w = .ok (.stringIter str pos) w := by simp [getObj, Sem.run, hw]
            simp [Instr.next, hg, hp]
        · cases h
      · cases h
    · cases h
  · cases h
theorem clear_spec (hE : EnvOk P E) {ts : List TypeId} {l l' : List Value} (hl : VL σ l l') (h : oClear E ts l = some eff) (ty : TypeId) : EffS P σ (do pure (.value (← Builtin.clear_ ⟨ts⟩ ty ⟨l'⟩))) eff := by
  unfold oClear at h
  split at h
  · rename_i x t ts
    obtain ⟨x', rfl, hx⟩ : ∃ x', l' = [x'] ∧ VR σ x x' := by
      cases hl with
      | cons h h' => cases h'; exact ⟨_, rfl, h⟩
    split at h
    · rename_i e q he
      obtain ⟨hu, hq, h0⟩ := elem_some hE he
      obtain ⟨j, z, h1, h2, h3, h4, h5, h6, h7⟩ := hE.zero (σ := σ) hq
      split at h
      · rename_i a n c
        split at h
        · cases h
          rw [hx.isn]
          exact fun w => ⟨_, by simp [Builtin.clear_, run_underlying hu], .tuple .nil⟩
        · rename_i a
          split at h
          · cases h
            intro w
            obtain ⟨a', c', rfl⟩ : ∃ a' c', x' = .slice (some a') 0 c' := by
              rcases hx.isl with ⟨b, _, _, e⟩ | ⟨b, _, _, e⟩ | ⟨b, o, c', _, _, _, e⟩
              · exact ⟨_, _, e⟩
              · exact ⟨_, _, e⟩
              · exact ⟨_, _, e⟩
            exact ⟨_, by simp [Builtin.clear_, run_underlying hu], .tuple .nil⟩
          · rename_i hn0
            cases h
            have hn1 : n ≠ 0 := by simpa using hn0
            obtain ⟨b, c', hb, rfl⟩ : ∃ b c', σ.blk a.block = some b ∧ x' = .slice (some ⟨b, a.off, none⟩) n c' := by
              rcases hx.isl with ⟨b, _, hb, e⟩ | ⟨b, _, hb, e⟩ | ⟨b, o, c', _, e1, _, _⟩
              · exact ⟨_, _, hb, e⟩
              · exact ⟨_, _, hb, e⟩
              · exact absurd e1 hn1
            refine ⟨b, repL q.zero n, hb, h6.rep n, fun w => ?_⟩
            have hz : (Builtin.zeroCells z.cells n).toList = repL q.zero n := by rw [zeroCells_eq, h5]
            obtain ⟨m, rfl⟩ : ∃ m, n = m + 1 := ⟨n - 1, by omega⟩
            have e5 : (Builtin.clear_ ⟨t :: ts⟩ ty ⟨[.slice (some ⟨b, a.off, none⟩) (m + 1) c']⟩).run P w = ((storeCells ⟨b, a.off, none⟩ (repL q.zero (m + 1))).run P w).andThen fun _ w => .ok (.tuple #[]) w := by
              simp [Builtin.clear_, run_underlying hu, zeroValue, typeInfo, h1, h4, hz]
            rw [Sem.run_bind, e5]
            cases Sem.run P (storeCells ⟨b, a.off, none⟩ (repL q.zero (m + 1))) w <;> rfl
      · cases h
    · cases h
  · cases h
theorem checkKey_leaf {t : TypeId} {d : TypeDesc} (hu : P.underlying t = some d) (hd : isLeafD d = true) (v : Value) (e : Bool) (n : Nat) (w : World) : (Instr.checkKey e (n + 1) t v).run P w = .ok () w := by
  unfold Instr.checkKey
  cases d <;> simp [isLeafD] at hd <;> simp [run_underlying hu]
theorem checkKey_fields {xs : List Value} (e : Bool) (n : Nat) : ∀ (fs : List Field), (∀ f ∈ fs, f.name ≠ "_" ∧ (∃ d, P.underlying f.type = some d ∧ isLeafD d = true) ∧ (xs[f.offset]?).isSome = true) → ∀ w,
    (forIn fs () (fun f (_ : Unit) => if f.name ≠ "_" then do
        let a ← Go.part f.type ⟨xs⟩ f.offset
        Instr.checkKey e (n + 1) f.type a
        pure (.yield ())
      else pure (.yield ())) : Sem Unit).run P w = .ok () w
  | [], _, w => by simp
  | f :: fs, h, w => by
    obtain ⟨h1, ⟨d, h2, h3⟩, h4⟩ := h f (by simp)
    obtain ⟨v, hv⟩ := Option.isSome_iff_exists.1 h4
    rw [List.forIn_cons, if_pos h1]
    simp only [Sem.run_bind, part_leaf h2 h3 hv w, checkKey_leaf h2 h3 v e n w, Result.andThen_ok, Sem.run_pure]
    exact checkKey_fields e n fs (fun g hg => h g (by simp [hg])) w
theorem checkKey_ok (hE : EnvOk P E) {t : TypeId} {k : Value} (h : keyT E t k = true) (e : Bool) (w : World) : (Instr.checkKey e 10000 t k).run P w = .ok () w := by
  unfold keyT at h
  split at h
  · rename_i i hi
    have hu := (hE.ty t i hi).1
    split at h
    · rename_i l hl
      obtain ⟨fs, h1, h2, h3, rfl, h5⟩ := hE.eqs t i l hi hl
      rw [h1] at hu
      split at h
      · rename_i xs
        have hf := checkKey_fields (P := P) (xs := xs.toList) e 9998 fs.toList (fun f hf => ⟨(h5 f hf).1, (h5 f hf).2, by
          have := List.all_eq_true.1 h (f.offset, f.type) (List.mem_map.2 ⟨f, hf, rfl⟩)
          rw [nth_eq] at this
          exact this⟩) w
        show (Instr.checkKey e (9999 + 1) t (.agg xs)).run P w = _
        unfold Instr.checkKey
        simp only [Sem.run_bind, run_underlying hu, Result.andThen_ok]
        rw [← Array.forIn_toList]
        have e1 : (⟨xs.toList⟩ : Array Value) = xs := rfl
        rw [e1] at hf
        rw [hf]
        rfl
      · cases h
    · rw [Bool.and_eq_true] at h
      exact checkKey_leaf hu h.1 k e 9999 w
  · cases h
theorem sameBits_key {k : Value} (h : keyOk k = true) : Instr.sameBits 10000 k k = true := by
  have hl : ∀ n (v : Value), leafKey v = true → Instr.sameBits (n + 1) v v = true := fun n v hv => by cases v <;> first | (simp [leafKey] at hv; done) | (simp [Instr.sameBits]; done) | (simp only [Instr.sameBits]; rw [← baEq]; simp)
  unfold keyOk at h
  split at h
  · rename_i l
    show Instr.sameBits (9999 + 1) (.agg l) (.agg l) = true
    simp only [Instr.sameBits, beq_self_eq_true, Bool.true_and]
    rw [List.all_eq_true]
    intro p hp
    obtain ⟨a, b⟩ := p
    have hab : a = b ∧ a ∈ l.toList := by
      have h1 := List.of_mem_zip hp
      have h2 : ∀ (l : List Value) (a b : Value), (a, b) ∈ l.zip l → a = b := by
        intro l
        induction l with
        | nil => intro a b h; simp at h
        | cons x l ih =>
          intro a b h
          rw [List.zip_cons_cons] at h
          rcases List.mem_cons.1 h with h | h
          · cases h; rfl
          · exact ih a b h
      exact ⟨h2 _ _ _ hp, h1.1⟩
    obtain ⟨rfl, hm⟩ := hab
    exact hl 9998 a (List.all_eq_true.1 h a hm)
  · exact hl 9999 k h
theorem keyT_und (hE : EnvOk P E) {t : TypeId} {k : Value} (h : keyT E t k = true) : ∃ d, P.underlying t = some d := by
  unfold keyT at h
  split at h
  · rename_i i hi
    exact ⟨_, (hE.ty t i hi).1⟩
  · cases h
theorem look_spec (hE : EnvOk P E) {t : TypeId} {x x' k k' : Value} {ok : Bool} (h : oLook E t x k ok = some eff) (hx : VR σ x x') (hk : VR σ k k') : EffS P σ (do pure (.value (← Instr.lookup t x' k' ok))) eff := by
  unfold oLook at h
  split at h
  · rename_i i hi
    have hu := (hE.ty t i hi).1
    split at h
    · rename_i kt el hd
      rw [hd] at hu
      split at h
      · rename_i j hj
        split at h
        · rename_i z hz
          obtain ⟨hzg, j', h1, h4⟩ := hE.z1 el j z hj hz
          split at h
          · rename_i hkk
            rw [Bool.and_eq_true] at hkk
            split at h
            · split at h
              · rename_i B
                cases h
                obtain ⟨b, hb, rfl⟩ := hx.imap
                have hk' := VR.key hkk.1 hk
                subst hk'
                refine ⟨⟨hkk.1, keyT_und hE hkk.2⟩, b, z, hb, .gr hzg, fun w es clock r hw hf => ?_⟩
                have hg : (getObj b).run P w = .ok (.map es clock) w := by simp [getObj, Sem.run, hw]
                have hc := checkKey_ok (P := P) hE hkk.2 es.isEmpty w
                cases r with
                | none => cases ok <;> simp [Instr.lookup, run_underlying hu, hg, hc, hf, zeroValue, typeInfo, h1, h4]
                | some p => cases ok <;> simp [Instr.lookup, run_underlying hu, hg, hc, hf]
              · cases h
            · cases h
          · cases h
        · cases h
      · cases h
    · cases h
  · cases h
theorem upd_spec (hE : EnvOk P E) {t : TypeId} {x x' k k' v v' : Value} (h : oUpd E t x k v = some eff) (hx : VR σ x x') (hk : VR σ k k') (hv : VR σ v v') : EffS P σ (do Instr.mapUpdate t x' k' v'; pure .skip) eff := by
  unfold oUpd at h
  split at h
  · rename_i i hi
    have hu := (hE.ty t i hi).1
    split at h
    · rename_i kt el hd
      rw [hd] at hu
      split at h
      · rename_i hkk
        rw [Bool.and_eq_true] at hkk
        split at h
        · split at h
          · rename_i B
            cases h
            obtain ⟨b, hb, rfl⟩ := hx.imap
            have hk' := VR.key hkk.1 hk
            subst hk'
            refine ⟨⟨hkk.1, keyT_und hE hkk.2⟩, b, v', hb, hv, fun w es clock hw => ?_⟩
            have hg : (getObj b).run P w = .ok (.map es clock) w := by simp [getObj, Sem.run, hw]
            have hset : ∀ o, (setObj b o).run P w = .ok () (w.putObj b o) := fun o => by simp [setObj, Sem.run, hw, World.putObj]
            have hc := checkKey_ok (P := P) hE hkk.2 false w
            refine ⟨fun hf => ?_, fun i e u hf he hek => ?_⟩
            · simp [Instr.mapUpdate, run_underlying hu, hg, hc, hf, hset]
            · have hs := sameBits_key hkk.1
              simp [Instr.mapUpdate, run_underlying hu, hg, hc, hf, hset, he, hek, Instr.keyThatStays, hs]
          · cases h
        · cases h
      · cases h
    · cases h
  · cases h
theorem run_wrapChk (ts : Array TypeId) (ty : TypeId) (a : Addr) (x y : ByteArray) (w : World) : (Builtin.ssaWrapNilChk_ ts ty #[.pointer (some a), .string x, .string y]).run P w = .ok (.pointer (some a)) w := rfl
theorem meth_spec (hE : EnvOk P E) {t : TypeId} {name : String} {v v' : Value} {args args' : List Value} (h : oMeth E t name v args = some eff) (hv : VR σ v v') (ha : VL σ args args') : EffS P σ (callMethod (.iface t v') name ⟨args'⟩) eff := by
  unfold oMeth at h
  split at h
  · rename_i i hi
    have hu := (hE.ty t i hi).1
    obtain ⟨j, hj, hjm⟩ := hE.meths t i hi
    obtain ⟨q, hq⟩ : ∃ q, P.types.size + Made.depth = q + 1 := ⟨P.types.size + 99, rfl⟩
    have eargs : ∀ v : Value, (#[v] ++ (⟨args'⟩ : Array Value)) = ⟨v :: args'⟩ := fun v => by
      apply Array.toList_inj.1
      simp
    split at h
    · rename_i m hm
      rw [← hjm] at hm
      split at h
      · rename_i f pr hp hfn
        have hp2 : m.path = #[] := by simpa using hp
        have hpath : m.path.toList = [] := by rw [hp2]
        split at h
        · rename_i el hd
          rw [hd] at hu
          split at h
          · cases h
            refine ⟨v' :: args', .cons hv ha, fun w => ?_⟩
            simp [callMethod, run_program, hq, method, typeInfo, hj, hm, hpath, follow, hfn, receiverAt, run_underlying hu, Place.get]
          · split at h
            · rename_i j2 hj2
              split at h
              · split at h
                · rename_i a
                  cases h
                  obtain ⟨b, hb, hs, rfl⟩ := hv.iptr
                  refine ⟨b, args', hb, ha, fun w u hl1 hl2 => ?_⟩
                  have hju := (hE.ty el j2 hj2).1
                  have hload : (loadVar el ⟨b, a.off, none⟩).run P w = .ok u w := by
                    cases hag : isAggD j2.und with
                    | true =>
                      obtain ⟨cs, rfl, hL⟩ := hl1 hag
                      cases hd2 : j2.und <;> rw [hd2] at hju hag <;> simp [isAggD] at hag <;> simp [loadVar, isAgg, run_underlying hju, sizeOf_run hE hj2, hL]
                    | false =>
                      have hc := hl2 hag
                      have hv' : (load ⟨b, a.off, none⟩).run P w = .ok u w := by simp [hc]
                      cases hd2 : j2.und <;> rw [hd2] at hju hag <;> simp [isAggD] at hag <;> simp [loadVar, isAgg, run_underlying hju, hc]
                  have hap : (asAddr (.pointer (some ⟨b, a.off, none⟩))).run P w = .ok ⟨b, a.off, none⟩ w := rfl
                  simp [callMethod, run_program, hq, method, typeInfo, hj, hm, follow, hfn, receiverAt, run_underlying hu, Place.get, hp2, run_wrapChk, strVal, hload, hap]
                · cases h
              · cases h
            · cases h
        · rename_i hnp
          split at h
          · cases h
          · cases h
            refine ⟨v' :: args', .cons hv ha, fun w => ?_⟩
            have hrec : (receiverAt t (.val v') false (if m.path.isEmpty then some ((name.splitOn ".").getLastD name) else none)).run P w = .ok v' w := by
              cases hd : i.und <;> rw [hd] at hu <;> first | (exact absurd hd (hnp _)) | simp [receiverAt, run_underlying hu, Place.get]
            simp [callMethod, run_program, hq, method, typeInfo, hj, hm, hpath, follow, hfn]
            simp at hrec
            rw [hrec]
            simp
      · cases h
    · cases h
  · cases h
theorem call_spec (hE : EnvOk P E) {c : Call} (ho : o.op = .call c) (hρ : ∀ x, VR σ (ρ x) (ρ' x)) (h : oCall E ρ c = some eff) : EffS P σ (execOp ρ' o) eff := by
  unfold oCall at h
  split at h
  · rename_i g hg
    have h1 := hρ g
    split at h
    · rename_i fn a b hf
      rw [hf] at h1
      split at h
      · rename_i k
        cases h
        obtain ⟨a', b', e1, e2, e3⟩ := h1.ifun
        refine ⟨a' ++ (c.args.toList.map ρ' ++ b'), e1.append ((args_VL hρ _).append e2), fun w => ?_⟩
        have e4 : (⟨a' ++ (c.args.toList.map ρ' ++ b')⟩ : Array Value) = (⟨a'⟩ ++ c.args.map ρ') ++ ⟨b'⟩ := by
          apply Array.toList_inj.1
          simp
        simp only [execOp, ho, resolve, hg, Deferred.ofValue, e3, Sem.run_bind, Sem.run_pure, Result.andThen_ok, invoke, e4]
      · rename_i l
        split at h
        · rename_i ha
          cases h
          obtain ⟨b', hb, e3⟩ := h1.iyield
          refine ⟨b', c.args.toList.map ρ', hb, args_VL hρ _, fun w => ?_⟩
          have e4 : (⟨c.args.toList.map ρ'⟩ : Array Value) = #[] ++ c.args.map ρ' := by
            apply Array.toList_inj.1
            simp
          simp only [execOp, ho, resolve, hg, Deferred.ofValue, e3, Sem.run_bind, Sem.run_pure, Result.andThen_ok, invoke, e4]
        · cases h
      · cases h
    · cases h
  rotate_left
  · rename_i r name hg
    split at h
    · rename_i t v hv
      have h1 := hρ r
      rw [hv] at h1
      obtain ⟨v', hv', e3⟩ := h1.iiface
      refine EffS.congr (fun w => ?_) (meth_spec hE h hv' (args_VL hρ c.args.toList))
      have e4 : (#[.iface t v'] ++ c.args.map ρ' : Array Value).extract 1 (#[.iface t v'] ++ c.args.map ρ' : Array Value).size = ⟨c.args.toList.map ρ'⟩ := by
        apply Array.toList_inj.1
        simp
        exact List.take_of_length_le (by simp)
      have e5 : (#[.iface t v'] ++ c.args.map ρ' : Array Value)[0]? = some (.iface t v') := by
        rw [Array.getElem?_append_left (by simp)]
        rfl
      simp only [execOp, ho, resolve, hg, e3, Sem.run_bind, Sem.run_pure, Result.andThen_ok, invoke, e5, e4]
    · cases h
  · rename_i b hb
    have key : ∀ s : Array TypeId → TypeId → Array Value → Sem Value, (∀ w, (builtin b c.argTypes o.type (c.args.map fun | .const _ => true | _ => false) (c.args.map ρ')).run P w = (do pure (.value (← s c.argTypes o.type (c.args.map ρ'))) : Sem Next).run P w) → ∀ w, (execOp ρ' o).run P w = (do pure (.value (← s ⟨c.argTypes.toList⟩ o.type ⟨c.args.toList.map ρ'⟩)) : Sem Next).run P w := by
      intro s hs w
      have e4 : (⟨c.args.toList.map ρ'⟩ : Array Value) = c.args.map ρ' := by
        apply Array.toList_inj.1
        simp
      rw [e4]
      have e5 : (execOp ρ' o).run P w = (builtin b c.argTypes o.type (c.args.map fun | .const _ => true | _ => false) (c.args.map ρ')).run P w := by
        simp only [execOp, ho, resolve, hb, Sem.run_bind, Sem.run_pure, Result.andThen_ok, invoke]
        try rfl
      rw [e5]
      exact hs w
    have hl := args_VL (σ := σ) hρ c.args.toList
    unfold oBuiltin at h
    cases b with
    | len => exact EffS.congr (key Builtin.len_ (fun w => rfl)) (len_spec hE hl h _)
    | cap => exact EffS.congr (key Builtin.cap_ (fun w => rfl)) (cap_spec hE hl h _)
    | max => exact EffS.congr (key Builtin.max_ (fun w => rfl)) (max_spec hl h _ _)
    | min => exact EffS.congr (key Builtin.min_ (fun w => rfl)) (min_spec hl h _ _)
    | append => exact EffS.congr (key Builtin.append_ (fun w => rfl)) (append_spec hE hl h _)
    | copy => exact EffS.congr (key Builtin.copy_ (fun w => rfl)) (copy_spec hE hl h _)
    | clear => exact EffS.congr (key Builtin.clear_ (fun w => rfl)) (clear_spec hE hl h _)
    | _ => cases h
theorem aOp_spec (hE : EnvOk P E) (hρ : ∀ x, VR σ (ρ x) (ρ' x)) (h : aOp E ρ o.op = some eff) : EffS P σ (execOp ρ' o) eff := by
  cases ho : o.op with
  | move x =>
    rw [ho] at h; cases h
    exact fun w => ⟨ρ' x, by simp [execOp, ho], hρ x⟩
  | assign x =>
    rw [ho] at h; cases h
    exact fun w => ⟨ρ' x, by simp [execOp, ho], hρ x⟩
  | pick c a b =>
    rw [ho] at h
    simp only [aOp] at h
    split at h
    · rename_i t ht
      have hc := hρ c
      rw [ht] at hc
      have hc' := hc.ibool
      split at h
      · cases h
        exact fun w => ⟨ρ' a, by simp [execOp, ho, hc', asBool], hρ a⟩
      · cases h
        exact fun w => ⟨ρ' b, by simp [execOp, ho, hc', asBool], hρ b⟩
    · cases h
  | alloc e =>
    rw [ho] at h
    simp only [aOp] at h
    split at h
    · rename_i i hi
      cases h
      exact EffS.congr (fun w => by simp only [execOp, ho]) (alloc_spec hE hi)
    · cases h
  | box e x =>
    rw [ho] at h
    simp only [aOp] at h
    split at h
    · rename_i hc
      cases h
      exact EffS.congr (fun w => by simp only [execOp, ho]) (box_spec hc (hρ x))
    · cases h
  | build t ps =>
    rw [ho] at h
    exact EffS.congr (fun w => by simp only [execOp, ho]) (build_spec hE hρ h)
  | buildSlice t len ps =>
    rw [ho] at h
    exact EffS.congr (fun w => by simp only [execOp, ho]) (buildSlice_spec hE hρ h)
  | load t a =>
    rw [ho] at h
    exact EffS.congr (fun w => by simp only [execOp, ho]) (load_spec hE h (hρ a))
  | store t a x =>
    rw [ho] at h
    exact EffS.congr (fun w => by simp only [execOp, ho]) (store_spec hE h (hρ a) (hρ x))
  | nilCheck x =>
    rw [ho] at h
    exact nilCheck_spec ho h hρ
  | binOp op t x y yt =>
    rw [ho] at h
    simp only [aOp] at h
    have hp : ∀ v, aBin E t op (ρ x) (ρ y) = some v → PureS P σ (do eqGuard op t x y (ρ' x) (ρ' y); binOp op t (ρ' x) (ρ' y)) v := by
      intro v hv w
      obtain ⟨v', h1, h2⟩ := aBin_spec hE hv (hρ x) (hρ y) w
      refine ⟨v', ?_, h2⟩
      have hg : (eqGuard op t x y (ρ' x) (ρ' y)).run P w = .ok () w := guard_spec hE hv (hρ x) (hρ y) w
      rw [Sem.run_bind, hg]
      exact h1
    exact EffS.congr (fun w => by simp only [execOp, ho]) (sV_spec h hp)
  | unOp op t x =>
    rw [ho] at h
    simp only [aOp] at h
    exact EffS.congr (fun w => by simp only [execOp, ho]) (sV_spec h (fun v hv => unop_spec hv (hρ x)))
  | convert s d x =>
    rw [ho] at h
    exact EffS.congr (fun w => by simp only [execOp, ho]) (convert_spec hE h (hρ x))
  | makeFunc fn a b =>
    rw [ho] at h
    simp only [aOp] at h
    split at h
    · rename_i k
      cases h
      refine fun w => ⟨.func (.func k) ⟨a.toList.map ρ'⟩ ⟨b.toList.map ρ'⟩, ?_, .func k (args_VL hρ _) (args_VL hρ _)⟩
      have e4 : ∀ l : Array Operand, (⟨l.toList.map ρ'⟩ : Array Value) = l.map ρ' := fun l => by
        apply Array.toList_inj.1
        simp
      rw [e4, e4]
      simp [execOp, ho, Instr.makeFunc]
    · cases h
  | makeSlice t l c =>
    rw [ho] at h
    exact EffS.congr (fun w => by simp only [execOp, ho]) (makeSlice_spec hE h (hρ l) (hρ c))
  | slice t x lo hi mx =>
    rw [ho] at h
    exact EffS.congr (fun w => by simp only [execOp, ho]) (slice_spec hE hρ h (hρ x))
  | fieldAddr s x k =>
    rw [ho] at h
    exact EffS.congr (fun w => by simp only [execOp, ho]) (fieldAddr_spec hE h (hρ x))
  | field t x k =>
    rw [ho] at h
    exact EffS.congr (fun w => by simp only [execOp, ho]) (field_spec hE h (hρ x))
  | indexAddr t x i =>
    rw [ho] at h
    exact EffS.congr (fun w => by simp only [execOp, ho]) (indexAddr_spec hE h (hρ x) (hρ i))
  | index t x i =>
    rw [ho] at h
    exact EffS.congr (fun w => by simp only [execOp, ho]) (index_spec hE h (hρ x) (hρ i))
  | extract x k =>
    rw [ho] at h
    exact EffS.congr (fun w => by simp only [execOp, ho]) (extract_spec h (hρ x))
  | call c =>
    have h' := h
    rw [ho] at h'
    exact call_spec hE ho hρ h'
  | makeInterface t x =>
    rw [ho] at h
    exact EffS.congr (fun w => by simp only [execOp, ho]) (iface_spec hE h (hρ x))
  | typeAssert x xt t ok =>
    rw [ho] at h
    exact EffS.congr (fun w => by simp only [execOp, ho]) (assert_spec (xt := xt) hE h (hρ x))
  | range t x =>
    rw [ho] at h
    exact EffS.congr (fun w => by simp only [execOp, ho]) (range_spec hE h (hρ x))
  | next it str =>
    rw [ho] at h
    exact EffS.congr (fun w => by simp only [execOp, ho]) (next_spec (ty := o.type) h (hρ it))
  | makeMap t r =>
    rw [ho] at h
    simp only [aOp] at h
    split at h
    · cases h
      exact fun w => by simp [execOp, ho, Instr.makeMap]
    · cases h
  | lookup t x k ok =>
    rw [ho] at h
    exact EffS.congr (fun w => by simp only [execOp, ho]) (look_spec hE h (hρ x) (hρ k))
  | mapUpdate t x k v =>
    rw [ho] at h
    exact EffS.congr (fun w => by simp only [execOp, ho]) (upd_spec hE h (hρ x) (hρ k) (hρ v))
  | insert t x k v =>
    rw [ho] at h
    exact EffS.congr (fun w => by simp only [execOp, ho]) (upd_spec hE h (hρ x) (hρ k) (hρ v))
  | _ => rw [ho] at h; cases h
end
end Go.Proofs.YtlhkaoccnpgkeaaGreat.Ev

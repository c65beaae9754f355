/- eval: new blocks, loads, stores, slices: what an operation comes to. -/
import Derived.Test.YtlhkaoccnpgkeaaGreatEvG
import Derived.Laws.MakeOwn
namespace Go.Proofs.YtlhkaoccnpgkeaaGreat.Ev
open Go
set_option linter.unusedVariables false
set_option linter.unusedSimpArgs false
variable {α : Type} {β : Type}
theorem rep_eq (l : List Value) (s : Nat) (hl : l.length = s) : ∀ m, (List.range (m * s)).map (fun i => (l.toArray[i % s]! : Value)) = repL l m
  | 0 => by simp [repL]
  | m + 1 => by
    rw [show (m + 1) * s = s + m * s by rw [Nat.add_mul]; omega, List.range_add, List.map_append, List.map_map]
    have h1 : (List.range s).map (fun i => (l.toArray[i % s]! : Value)) = l := by
      apply List.ext_getElem
      · simp [hl]
      · intro i h1 h2
        have hi : i < s := by simpa using h1
        simp [Nat.mod_eq_of_lt hi, getElem!_pos, h2]
    have h2 : (fun i => (l.toArray[i % s]! : Value)) ∘ (fun x => s + x) = fun i => (l.toArray[i % s]! : Value) := by
      funext i
      simp [Nat.add_mod_left]
    rw [h1, h2, rep_eq l s hl m]
    rfl
theorem zeroCells_eq (z : Array Value) (m : Nat) : (Builtin.zeroCells z m).toList = repL z.toList m := by
  have := rep_eq z.toList z.size (by simp) m
  simp only [Builtin.zeroCells, Array.toList_map, Array.toList_range]
  exact this
section
variable {P : Program} {E : Env} {σ : Sg} {ρ ρ' : Operand → Value} {o : Oper} {eff : Eff}
theorem EnvOk.zero (hE : EnvOk P E) {t : TypeId} {i : TI} (h : E.ty.get t = some i) : ∃ j z, P.info? t = some j ∧ j.size = i.size ∧ j.bytes = i.bytes ∧ j.zero = some z ∧ z.cells.toList = i.zero ∧ VL σ i.zero i.zero ∧ i.zero.length = i.size := by
  obtain ⟨_, j, z, h1, h2, h3, h4, h5, h6, h7⟩ := hE.ty t i h
  exact ⟨j, z, h1, h2, h3, h4, h5, VL.gr h6, h7⟩
theorem alloc_spec (hE : EnvOk P E) {e : TypeId} {i : TI} (h : E.ty.get e = some i) : EffS P σ (do pure (.value (← Instr.alloc e true (.tuple #[])))) (.new e i.size i.zero none) := by
  obtain ⟨j, z, h1, h2, h3, h4, h5, h6, h7⟩ := hE.zero (σ := σ) h
  refine ⟨i.zero, h6, fun w => ?_⟩
  have e1 : (⟨i.zero⟩ : Array Value) = z.cells := by rw [← h5]
  rw [e1]
  simp [Instr.alloc, zeroValue, typeInfo, h1, h4, newVar, newRow, newVal]
theorem box_spec {e : TypeId} {v v' : Value} (h : (cellsL v).all oneC = true) (hv : VR σ v v') : EffS P σ (do pure (.value (← Instr.box e v'))) (.new e (cellsL v).length (cellsL v) none) := by
  refine ⟨v'.cells.toList, cells_VL hv h, fun w => ?_⟩
  simp [Instr.box, newVar, newRow, newVal]
theorem set_seg (off : Nat) : ∀ (vs : List Value) (k : Nat) (cs : Array Value), off + k + vs.length ≤ cs.size → ((vs.zipIdx k).foldl (fun cs (x : Value × Nat) => cs.setIfInBounds (off + x.2) x.1) cs).toList = cs.toList.take (off + k) ++ (vs ++ cs.toList.drop (off + k + vs.length))
  | [], k, cs, _ => by simp
  | v :: vs, k, cs, h => by
    simp only [List.zipIdx_cons, List.foldl_cons]
    rw [set_seg off vs (k + 1) _ (by simp at h ⊢; omega)]
    have e := list_seg_step cs.toList (off + k) v vs (by simp at h ⊢; omega)
    simp only [Array.toList_setIfInBounds]
    simpa [Nat.add_assoc] using e
theorem fill_spec {pl : Nat → Option (Nat × Nat)} : ∀ (l : List (Nat × Value)) (l' : List (Nat × Value)) (cs cs' : List Value) (r : List Value), fillL pl cs l = some r → VL σ cs cs' → l.map (·.1) = l'.map (·.1) → VL σ (l.map (·.2)) (l'.map (·.2)) →
    ∃ r', Instr.fill pl ⟨cs'⟩ l' = some ⟨r'⟩ ∧ VL σ r r'
  | [], l', cs, cs', r, h, hc, hm, hv => by
    cases l' with
    | nil => cases h; exact ⟨cs', rfl, hc⟩
    | cons x l' => simp at hm
  | (i, v) :: l, l', cs, cs', r, h, hc, hm, hv => by
    cases l' with
    | nil => simp at hm
    | cons x l' =>
      obtain ⟨i', v'⟩ := x
      simp only [List.map_cons, List.cons.injEq] at hm
      obtain ⟨rfl, hm⟩ := hm
      simp only [List.map_cons] at hv
      cases hv with
      | cons hv hvs =>
        simp only [fillL] at h
        split at h
        · rename_i off size hp
          split at h
          · rename_i hsz
            rw [Bool.and_eq_true, nbeq, decide_eq_true_eq] at hsz
            split at h
            · rename_i hle
              rw [nble, decide_eq_true_eq] at hle
              have hcl := cells_VL hv hsz.2
              have hlen : v'.cells.size = size := by rw [← hsz.1]; simpa using hcl.length
              have hcsl : cs'.length = cs.length := hc.length
              have hle' : off + size ≤ cs'.length := by rw [hcsl]; exact hle
              have hnew : VL σ (cs.take off ++ (cellsL v ++ cs.drop (off + size))) (cs'.take off ++ (v'.cells.toList ++ cs'.drop (off + size))) := (hc.take off).append (hcl.append (hc.drop _))
              obtain ⟨r', h1, h2⟩ := fill_spec l l' _ _ r h hnew hm hvs
              refine ⟨r', ?_, h2⟩
              have hseg : v'.cells.zipIdx.foldl (fun cs (x : Value × Nat) => cs.setIfInBounds (off + x.2) x.1) (⟨cs'⟩ : Array Value) = ⟨cs'.take off ++ (v'.cells.toList ++ cs'.drop (off + size))⟩ := by
                apply Array.toList_inj.1
                rw [← Array.foldl_toList, Array.toList_zipIdx]
                have := set_seg off v'.cells.toList 0 (⟨cs'⟩ : Array Value) (by simp; omega)
                rw [this]
                simp [hlen]
              simp only [Instr.fill, hp]
              rw [if_neg (by simp [hlen]; omega)]
              have e2 : (v'.cells.zipIdx.foldl (fun cs x => match x with | (c, j) => cs.setIfInBounds (off + j) c) (⟨cs'⟩ : Array Value)) = v'.cells.zipIdx.foldl (fun cs (x : Value × Nat) => cs.setIfInBounds (off + x.2) x.1) (⟨cs'⟩ : Array Value) := rfl
              rw [e2, hseg]
              exact h1
            · cases h
          · cases h
        · cases h
theorem mapM_run {γ δ : Type} (f : γ → Sem δ) (g : γ → δ) : ∀ (l : List γ) (w : World), (∀ x ∈ l, (f x).run P w = .ok (g x) w) → (l.mapM f).run P w = .ok (l.map g) w
  | [], w, _ => by simp
  | x :: l, w, h => by
    rw [List.mapM_cons]
    simp [h x (by simp), mapM_run f g l w (fun y hy => h y (by simp [hy]))]
theorem mapMA_run {γ δ : Type} (f : γ → Sem δ) (g : γ → δ) (l : Array γ) (w : World) (h : ∀ x ∈ l.toList, (f x).run P w = .ok (g x) w) : (l.mapM f).run P w = .ok (l.map g) w := by
  rw [Array.mapM_eq_mapM_toList]
  simp [mapM_run f g l.toList w h]
  apply Array.toList_inj.1
  simp
theorem pρ_1 (ρ ρ' : Operand → Value) (ps : Array (Nat × Operand)) : (pρ ρ ps).map (·.1) = ((ps.map fun p => (p.1, ρ' p.2)).toList).map (·.1) := by
  simp [pρ, List.map_map, Function.comp_def]
theorem pρ_2 (hρ : ∀ x, VR σ (ρ x) (ρ' x)) (ps : Array (Nat × Operand)) : VL σ ((pρ ρ ps).map (·.2)) (((ps.map fun p => (p.1, ρ' p.2)).toList).map (·.2)) := by
  simp only [pρ, Array.toList_map, List.map_map, Function.comp_def]
  exact VL.map (fun p => ρ p.2) (fun p => ρ' p.2) (fun p => hρ p.2) ps.toList
theorem sizeOf_run (hE : EnvOk P E) {t : TypeId} {i : TI} (h : E.ty.get t = some i) (w : World) : (sizeOf t).run P w = .ok i.size w := by
  obtain ⟨j, h1, h2⟩ := hE.size h
  simp [sizeOf, typeInfo, h1, h2]
theorem build_spec (hE : EnvOk P E) {t : TypeId} {ps : Array (Nat × Operand)} (hρ : ∀ x, VR σ (ρ x) (ρ' x)) (h : oBuild E t (pρ ρ ps) = some eff) : EffS P σ (do pure (.value (← Instr.build t (ps.map fun p => (p.1, ρ' p.2))))) eff := by
  unfold oBuild at h
  split at h
  · rename_i i hi
    have hu := (hE.ty t i hi).1
    obtain ⟨j, z, h1, h2, h3, h4, h5, h6, h7⟩ := hE.zero (σ := σ) hi
    have ez : z.cells = ⟨i.zero⟩ := by rw [← h5]
    split at h
    · rename_i fs hd
      rw [hd] at hu
      split at h
      · rename_i hall
        split at h
        · rename_i cs hf
          cases h
          have hall' : ∀ g ∈ fs.toList, ∃ k, E.ty.get g.type = some k := fun g hg => Option.isSome_iff_exists.1 (List.all_eq_true.1 hall g hg)
          let sz : Field → Nat := fun g => match E.ty.get g.type with
            | some k => k.size
            | none => 0
          have hmap : ∀ w, (fs.mapM fun f => do pure (f.offset, ← sizeOf f.type) : Sem (Array (Nat × Nat))).run P w = .ok (fs.map fun f => (f.offset, sz f)) w := fun w => by
            refine mapMA_run _ _ fs w (fun g hg => ?_)
            obtain ⟨k, hk⟩ := hall' g hg
            simp [sizeOf_run hE hk, sz, hk]
          have hpl : fieldPl E fs.toList = fun k => (fs.map fun f => (f.offset, sz f))[k]? := by
            funext k
            unfold fieldPl
            rw [nth_eq, Array.getElem?_toList, Array.getElem?_map]
            cases hg : fs[k]? with
            | none => rfl
            | some g =>
              obtain ⟨q, hq⟩ := hall' g (by rw [← Array.getElem?_toList] at hg; exact List.mem_of_getElem? hg)
              simp [hq, sz]
          rw [hpl] at hf
          obtain ⟨r', k1, k2⟩ := fill_spec _ _ _ _ _ hf h6 (pρ_1 ρ ρ' ps) (pρ_2 hρ ps)
          intro w
          refine ⟨.agg ⟨r'⟩, ?_, .agg k2⟩
          simp only [Instr.build, Sem.run_bind, zeroValue, typeInfo, run_program, Result.andThen_ok, h1, Sem.run_pure, h4, run_underlying hu, hmap, ez, k1]
        · cases h
      · cases h
    · rename_i n e hd
      rw [hd] at hu
      split at h
      · rename_i q hq
        split at h
        · rename_i cs hf
          cases h
          obtain ⟨r', k1, k2⟩ := fill_spec _ _ _ _ _ hf h6 (pρ_1 ρ ρ' ps) (pρ_2 hρ ps)
          intro w
          refine ⟨.agg ⟨r'⟩, ?_, .agg k2⟩
          have k1' : Instr.fill (fun i => some (i * q.size, q.size)) ⟨i.zero⟩ (ps.map fun p => (p.1, ρ' p.2)).toList = some ⟨r'⟩ := k1
          simp only [Instr.build, Sem.run_bind, zeroValue, typeInfo, run_program, Result.andThen_ok, h1, Sem.run_pure, h4, run_underlying hu, sizeOf_run hE hq, ez, k1']
        · cases h
      · cases h
    · cases h
  · cases h
theorem elem_some (hE : EnvOk P E) {t e : TypeId} {j : TI} (h : E.elem t = some (e, j)) : P.underlying t = some (.slice e) ∧ E.ty.get e = some j ∧ j.size ≠ 0 := by
  unfold Env.elem at h
  split at h
  · rename_i i hi
    have hu := (hE.ty t i hi).1
    split at h
    · rename_i e' hd
      rw [hd] at hu
      split at h
      · rename_i q hq
        rw [nbeq] at h
        split at h
        · cases h
        · rename_i h0
          cases h
          exact ⟨hu, hq, by simpa using h0⟩
      · cases h
    · cases h
  · cases h
theorem buildSlice_spec (hE : EnvOk P E) {t : TypeId} {len : Nat} {ps : Array (Nat × Operand)} (hρ : ∀ x, VR σ (ρ x) (ρ' x)) (h : oBuildSlice E t len (pρ ρ ps) = some eff) : EffS P σ (do pure (.value (← Instr.buildSlice t len (ps.map fun p => (p.1, ρ' p.2))))) eff := by
  unfold oBuildSlice at h
  split at h
  · rename_i e q he
    obtain ⟨hu, hq, h0⟩ := elem_some hE he
    obtain ⟨j, z, h1, h2, h3, h4, h5, h6, h7⟩ := hE.zero (σ := σ) hq
    rw [nble] at h
    split at h
    · rename_i hle
      split at h
      · rename_i cs hf
        cases h
        have hle' : len * q.size ≤ 65536 := by simpa using hle
        obtain ⟨r', k1, k2⟩ := fill_spec _ _ _ _ _ hf (h6.rep len) (pρ_1 ρ ρ' ps) (pρ_2 hρ ps)
        have k1' : Instr.fill (fun i => some (i * q.size, q.size)) ⟨repL q.zero len⟩ (ps.map fun p => (p.1, ρ' p.2)).toList = some ⟨r'⟩ := k1
        refine ⟨r', k2, fun w => ?_⟩
        have hz : z.cells.size = q.size := by rw [← h7, ← h5]; simp
        have hle2 : ¬ (len * q.size > 2 ^ 24) := by
          have : (2 : Nat) ^ 24 = 16777216 := by decide
          omega
        have e1 : (Array.range (len * q.size)).map (fun x => (z.cells[x % z.cells.size]! : Value)) = ⟨repL q.zero len⟩ := by
          apply Array.toList_inj.1
          have := rep_eq q.zero q.size h7 len
          simp only [Array.toList_map, Array.toList_range]
          rw [← this, hz]
          congr 1
          funext x
          rw [← h5]
        by_cases hl : len * q.size = 0
        · have hl0 : len = 0 := by
            rcases Nat.mul_eq_zero.1 hl with h | h
            · exact h
            · exact absurd h h0
          subst hl0
          have k2' : Instr.fill (fun i => some (i * q.size, q.size)) ((Array.range (0 * q.size)).map fun x => ((#[] : Array Value)[x % (#[] : Array Value).size]! : Value)) (ps.map fun p => (p.1, ρ' p.2)).toList = some ⟨r'⟩ := by
            rw [← k1']
            congr 1
            simp [repL]
          simp only [Instr.buildSlice, Sem.run_bind, run_underlying hu, Result.andThen_ok, sizeOf_run hE hq, if_neg hle2, if_pos hl, Sem.run_pure, k2', newRow, run_newObj]
          rfl
        · simp only [Instr.buildSlice, Sem.run_bind, run_underlying hu, Result.andThen_ok, sizeOf_run hE hq, if_neg hle2, if_neg hl, zeroValue, typeInfo, run_program, h1, Sem.run_pure, h4, e1, k1', newRow, run_newObj]
          rfl
      · cases h
    · cases h
  · cases h
theorem makeSlice_spec (hE : EnvOk P E) {t : TypeId} {l c l' c' : Value} (h : oMakeSlice E t l c = some eff) (hl : VR σ l l') (hc : VR σ c c') : EffS P σ (do pure (.value (← Instr.makeSlice t l' c'))) eff := by
  unfold oMakeSlice at h
  split at h
  · rename_i e q he
    obtain ⟨hu, hq, h0⟩ := elem_some hE he
    obtain ⟨j, z, h1, h2, h3, h4, h5, h6, h7⟩ := hE.zero (σ := σ) hq
    split at h
    · rename_i kl zl
      rw [hl.iint]
      split at h
      · rename_i n
        split at h
        · rename_i kc zc
          rw [hc.iint]
          split at h
          · rename_i m
            rw [nble, nble] at h
            split at h
            · rename_i e1 e2
              cases h
              have hn : n ≤ m := by simpa using e1
              have hm : m * (q.bytes + q.size) ≤ 16777216 := by simpa using e2
              have hb : q.bytes * m ≤ 16777216 := by
                have := Nat.mul_le_mul_left m (Nat.le_add_right q.bytes q.size)
                rw [Nat.mul_comm] at this
                omega
              have hmm : m ≤ 16777216 := by
                have h8 : 1 ≤ q.bytes + q.size := by omega
                have := Nat.mul_le_mul_left m h8
                omega
              refine ⟨repL q.zero m, h6.rep m, fun w => ?_⟩
              have hb' : (j.bytes : Int) * (m : Int) ≤ 281474976710656 := by
                have h9 : ((q.bytes * m : Nat) : Int) ≤ 281474976710656 := by omega
                rw [h3]
                rwa [Int.natCast_mul] at h9
              have hr := run_make (P := P) w t e j z hu h1 h4 kl kc (n : Int) (m : Int) (Int.natCast_nonneg n) (by omega) hb' (by omega)
              have e3 : madeCells z.cells ((m : Int).toNat * j.size) = ⟨repL q.zero m⟩ := by
                apply Array.toList_inj.1
                rw [Int.toNat_natCast, h2]
                have hz : z.cells.size = q.size := by rw [← h7, ← h5]; simp
                have := rep_eq q.zero q.size h7 m
                simp only [madeCells, Array.toList_map, Array.toList_range]
                rw [← this, hz]
                congr 1
                funext x
                rw [← h5]
              rw [Sem.run_bind]
              erw [hr]
              rw [e3]
              rfl
            · cases h
          · cases h
        · cases h
      · cases h
    · cases h
  · cases h
theorem load_spec (hE : EnvOk P E) {t : TypeId} {a a' : Value} (h : oLoad E t a = some eff) (ha : VR σ a a') : EffS P σ (do pure (.value (← Instr.loadAt t a'))) eff := by
  unfold oLoad at h
  split at h
  · split at h
    · rename_i a
      split at h
      · rename_i i hi
        cases h
        have hu := (hE.ty t i hi).1
        obtain ⟨b, hb, hs, rfl⟩ := ha.iptr
        refine ⟨b, hb, fun hag w cs hl => ?_, fun hag w v hv => ?_⟩
        · cases hd : i.und <;> rw [hd] at hu hag <;> simp [isAggD] at hag <;> simp [Instr.loadAt, Instr.sureAddr, loadVar, isAgg, run_underlying hu, sizeOf_run hE hi, hl]
        · have hv' : (load ⟨b, a.off, none⟩).run P w = .ok v w := by simp [hv]
          cases hd : i.und <;> rw [hd] at hu hag <;> simp [isAggD] at hag <;> simp only [Instr.loadAt, Instr.sureAddr, loadVar, isAgg, Sem.run_bind, Sem.run_pure, Result.andThen_ok, run_underlying hu] <;> simp [hv]
      · cases h
    · cases h
  · cases h
theorem store_spec (hE : EnvOk P E) {t : TypeId} {a a' v v' : Value} (h : oStore E t a v = some eff) (ha : VR σ a a') (hv : VR σ v v') : EffS P σ (do Instr.storeAt t a' v'; pure .skip) eff := by
  unfold oStore at h
  split at h
  · split at h
    · rename_i a
      split at h
      · rename_i i hi
        cases h
        obtain ⟨b, hb, hs, rfl⟩ := ha.iptr
        refine ⟨b, v', hb, hv, fun w hsz => ?_⟩
        simp [Instr.storeAt, Instr.sureAddr, storeVar, sizeOf_run hE hi, hsz]
      · cases h
    · cases h
  · cases h
end
end Go.Proofs.YtlhkaoccnpgkeaaGreat.Ev

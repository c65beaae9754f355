/- eval: addresses, parts, new blocks, loads and stores: what an operation comes to. -/
import Derived.Test.YtlhkaoccnpgkeaaGreatEvF
namespace Go.Proofs.YtlhkaoccnpgkeaaGreat.Ev
open Go
set_option linter.unusedVariables false
set_option linter.unusedSimpArgs false
variable {α : Type} {β : Type}
section
variable {P : Program} {E : Env} {σ : Sg} {ρ ρ' : Operand → Value} {o : Oper} {eff : Eff}
theorem add_lit' (g off j : Nat) : (⟨g, off, none⟩ : Addr).add j = ⟨g, off + j, none⟩ := by unfold Addr.add; split <;> simp_all
theorem EnvOk.size (hE : EnvOk P E) {t : TypeId} {i : TI} (h : E.ty.get t = some i) : ∃ j, P.info? t = some j ∧ j.size = i.size := by
  obtain ⟨_, j, z, h1, h2, _⟩ := hE.ty t i h
  exact ⟨j, h1, h2⟩
theorem fieldPl_some {fs : List Field} {k off size : Nat} (h : fieldPl E fs k = some (off, size)) : ∃ g i, fs[k]? = some g ∧ E.ty.get g.type = some i ∧ off = g.offset ∧ size = i.size := by
  unfold fieldPl at h
  rw [nth_eq] at h
  split at h
  · rename_i g hg
    split at h
    · rename_i j hj
      cases h
      exact ⟨g, j, hg, hj, rfl, rfl⟩
    · cases h
  · cases h
theorem fieldAddr_spec (hE : EnvOk P E) {s : TypeId} {x x' : Value} {k : Nat} (h : oFieldAddr E s x k = some eff) (hx : VR σ x x') : EffS P σ (do pure (.value (← Instr.fieldAt s x' k))) eff := by
  unfold oFieldAddr at h
  split at h
  · split at h
    · rename_i a
      split at h
      · rename_i i hi
        have hu := (hE.ty s i hi).1
        split at h
        · rename_i fs hd
          rw [hd] at hu
          split at h
          · rename_i off size hp
            obtain ⟨g, j, h1, h2, rfl, rfl⟩ := fieldPl_some hp
            obtain ⟨j', h3, h4⟩ := hE.size h2
            rw [nbeq] at h
            split at h
            · cases h
            · rename_i h0
              cases h
              have h0' : j'.size ≠ 0 := by rw [h4]; simpa using h0
              obtain ⟨b, hb, hsp, rfl⟩ := hx.iptr
              have hf : fs[k]? = some g := by rw [← Array.getElem?_toList]; exact h1
              intro w
              refine ⟨.pointer (some ⟨b, a.off + g.offset, none⟩), ?_, ?_⟩
              · simp [Instr.fieldAt, run_underlying hu, hf, Instr.sureAddr, fieldPlace, sizeOf, typeInfo, h3, h0', add_lit']
              · obtain ⟨B, o, sp⟩ := a
                exact .ptr _ hb
          · cases h
        · cases h
      · cases h
    · cases h
  · cases h
theorem part_spec (hE : EnvOk P E) {t : TypeId} {cs cs' : List Value} {off : Nat} {v : Value} (h : part E t cs off = some v) (hc : VL σ cs cs') (w : World) : ∃ v', (Go.part t ⟨cs'⟩ off).run P w = .ok v' w ∧ VR σ v v' := by
  unfold Ev.part at h
  split at h
  · rename_i i hi
    have hu := (hE.ty t i hi).1
    obtain ⟨j, h3, h4⟩ := hE.size hi
    split at h
    · rename_i ha
      split at h
      · cases h
        refine ⟨.agg ⟨(cs'.drop off).take i.size⟩, ?_, .agg ((hc.drop off).take _)⟩
        have e : (⟨cs'⟩ : Array Value).extract off (off + j.size) = ⟨(cs'.drop off).take i.size⟩ := by
          apply Array.toList_inj.1
          simp [Array.toList_extract, List.extract_eq_take_drop, h4]
        cases hd : i.und <;> rw [hd] at hu ha <;> simp [isAggD] at ha <;> (simp [Go.part, isAgg, run_underlying hu, sizeOf, typeInfo, h3, e]; try rw [h4])
      · cases h
    · rename_i ha
      rw [nth_eq] at h
      obtain ⟨v', k1, k2⟩ := hc.get h
      refine ⟨v', ?_, k2⟩
      cases hd : i.und <;> rw [hd] at hu ha <;> simp [isAggD] at ha <;> simp [Go.part, isAgg, run_underlying hu, k1]
  · cases h
theorem field_spec (hE : EnvOk P E) {t : TypeId} {x x' : Value} {k : Nat} (h : oField E t x k = some eff) (hx : VR σ x x') : EffS P σ (do pure (.value (← Instr.field t x' k))) eff := by
  unfold oField at h
  split at h
  · rename_i cs
    obtain ⟨cs', hc, rfl⟩ := hx.iagg
    split at h
    · rename_i i hi
      have hu := (hE.ty t i hi).1
      split at h
      · rename_i fs hd
        rw [hd] at hu
        split at h
        · rename_i g hg
          rw [nth_eq, Array.getElem?_toList] at hg
          split at h
          · rename_i v hv
            cases h
            intro w
            obtain ⟨v', h1, h2⟩ := part_spec hE hv hc w
            exact ⟨v', by simp [Instr.field, run_underlying hu, hg, asAgg, h1], h2⟩
          · cases h
        · cases h
      · cases h
    · cases h
  · cases h
theorem indexAddr_spec (hE : EnvOk P E) {t : TypeId} {x x' i i' : Value} (h : oIndexAddr E t x i = some eff) (hx : VR σ x x') (hi : VR σ i i') : EffS P σ (do pure (.value (← Instr.indexAt t x' i'))) eff := by
  unfold oIndexAddr at h
  split at h
  · rename_i kk z
    rw [hi.iint]
    split at h
    · rename_i k
      split at h
      · rename_i ti hti
        have hu := (hE.ty t ti hti).1
        split at h
        · rename_i e hd
          rw [hd] at hu
          split at h
          · rename_i j hj
            obtain ⟨j', h3, h4⟩ := hE.size hj
            split at h
            · rename_i a n c
              split at h
              · rename_i a
                rw [nble] at h
                split at h
                · rename_i hn
                  cases h
                  have hn' : k < n := by have : ¬ (n ≤ k) := by simpa using hn
                                         omega
                  have hk0 : (0 : Int) ≤ Int.ofNat k ∧ Int.ofNat k < (n : Int) := ⟨Int.natCast_nonneg k, by show (k : Int) < n; omega⟩
                  have key : ∀ b c', ∀ w, (Instr.indexAt t (.slice (some ⟨b, a.off, none⟩) n c') (.int kk (Int.ofNat k))).run P w = .ok (.pointer (some ⟨b, a.off + k * j.size, none⟩)) w := by
                    intro b c' w
                    simp [Instr.indexAt, asIntOf, run_underlying hu, sizeOf, typeInfo, h3, add_lit', h4]
                    omega
                  rcases hx.isl with ⟨b, hs, hb, rfl⟩ | ⟨b, hs, hb, rfl⟩ | ⟨b, o, c', hs, h0, _⟩
                  · exact fun w => ⟨.pointer (some ⟨b, a.off + k * j.size, none⟩), by rw [Sem.run_bind, key]; rfl, by obtain ⟨B, o, sp⟩ := a; exact .ptr _ hb⟩
                  · exact fun w => ⟨.pointer (some ⟨b, a.off + k * j.size, none⟩), by rw [Sem.run_bind, key]; rfl, by obtain ⟨B, o, sp⟩ := a; exact .ptr _ hb⟩
                  · omega
                · cases h
              · cases h
            · cases h
          · cases h
        · rename_i n e hd
          rw [hd] at hu
          split at h
          · rename_i j hj
            obtain ⟨j', h3, h4⟩ := hE.size hj
            split at h
            · split at h
              · rename_i a
                rw [nble] at h
                split at h
                · rename_i hn
                  cases h
                  have hn' : k < n := by have : ¬ (n ≤ k) := by simpa using hn
                                         omega
                  obtain ⟨b, hb, hsp, rfl⟩ := hx.iptr
                  intro w
                  refine ⟨.pointer (some ⟨b, a.off + k * j.size, none⟩), ?_, by obtain ⟨B, o, sp⟩ := a; exact .ptr _ hb⟩
                  simp [Instr.indexAt, asIntOf, run_underlying hu, sizeOf, typeInfo, h3, add_lit', h4, Instr.sureAddr]
                  omega
                · cases h
              · cases h
            · cases h
          · cases h
        · cases h
      · cases h
    · cases h
  · cases h
end
end Go.Proofs.YtlhkaoccnpgkeaaGreat.Ev

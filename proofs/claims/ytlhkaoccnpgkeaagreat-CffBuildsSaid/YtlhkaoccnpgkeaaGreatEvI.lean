/- eval: slices, indices, conversions, calls: what an operation comes to. -/
import Derived.Test.YtlhkaoccnpgkeaaGreatEvH
namespace Go.Proofs.YtlhkaoccnpgkeaaGreat.Ev
open Go
set_option linter.unusedVariables false
set_option linter.unusedSimpArgs false
variable {α : Type} {β : Type}
section
variable {P : Program} {E : Env} {σ : Sg} {ρ ρ' : Operand → Value} {o : Oper} {eff : Eff}
theorem bnd_some {x : Option Operand} {d n : Nat} (h : bnd ρ x d = some n) (hρ : ∀ x, VR σ (ρ x) (ρ' x)) : (x = none ∧ n = d) ∨ ∃ k, x.map ρ' = some (.int k (n : Nat)) := by
  unfold bnd at h
  split at h
  · cases h; exact .inl ⟨rfl, rfl⟩
  · rename_i y
    split at h
    · rename_i k z hy
      split at h
      · rename_i q
        cases h
        have h1 := hρ y
        rw [hy] at h1
        exact .inr ⟨k, by rw [Option.map_some, h1.iint]; rfl⟩
      · cases h
    · cases h
theorem run_bound (k : IntKind) (n y : Nat) (code : BoundsCode) (h : n ≤ y) (w : World) : (Instr.sliceBound (.int k (n : Nat)) y code).run P w = .ok n w := by
  have h1 : (0 : Int) ≤ (n : Int) ∧ (n : Int) ≤ (y : Int) := by omega
  simp [Instr.sliceBound, asIntOf, h]
theorem run_bounds (isS : Bool) (len cap : Nat) {lo hi mx : Option Operand} {l h m : Nat} (hl : (lo = none ∧ l = 0) ∨ ∃ k, lo.map ρ' = some (.int k (l : Nat))) (hh : (hi = none ∧ h = len) ∨ ∃ k, hi.map ρ' = some (.int k (h : Nat)))
    (hm : (mx = none ∧ m = cap) ∨ ((∃ k, mx.map ρ' = some (.int k (m : Nat))) ∧ hi ≠ none)) (h1 : l ≤ h) (h2 : h ≤ m) (h3 : m ≤ cap) (w : World) : (Instr.sliceBounds isS len cap (lo.map ρ') (hi.map ρ') (mx.map ρ')).run P w = .ok (l, h, m) w := by
  rcases hl with ⟨rfl, rfl⟩ | ⟨kl, el⟩ <;> rcases hh with ⟨rfl, rfl⟩ | ⟨kh, eh⟩ <;> rcases hm with ⟨rfl, rfl⟩ | ⟨⟨km, em⟩, hn⟩
  all_goals try (exact absurd rfl hn)
  all_goals simp only [Option.map_none, *, Instr.sliceBounds, Sem.run_bind, Sem.run_pure, Result.andThen_ok, run_bound _ _ _ _ h2, run_bound _ _ _ _ h1, run_bound _ _ _ _ h3]
theorem slice_spec (hE : EnvOk P E) {t : TypeId} {x x' : Value} {lo hi mx : Option Operand} (hρ : ∀ x, VR σ (ρ x) (ρ' x)) (h : oSlice E ρ t x lo hi mx = some eff) (hx : VR σ x x') : EffS P σ (do pure (.value (← Instr.sliceAt t x' (lo.map ρ') (hi.map ρ') (mx.map ρ')))) eff := by
  unfold oSlice at h
  split at h
  · rename_i a n c
    split at h
    · rename_i e q he
      obtain ⟨hu, hq, h0⟩ := elem_some hE he
      split at h
      · rename_i m hm
        split at h
        · rename_i hh ehh
          split at h
          · rename_i ll ell
            rw [nble, nble, nble] at h
            split at h
            · rename_i e1 e2 e3
              have l1 : ll ≤ hh := by simpa using e1
              have l2 : hh ≤ m := by simpa using e2
              have l3 : m ≤ c := by simpa using e3
              have hmx : (mx = none ∧ m = c) ∨ ((∃ k, mx.map ρ' = some (.int k (m : Nat))) ∧ hi ≠ none) := by
                split at hm
                · rcases bnd_some hm hρ with h | h
                  · exact .inl h
                  · obtain ⟨k, hk⟩ := h; cases hk
                · split at hm
                  · rcases bnd_some hm hρ with h | h
                    · exact absurd h.1 (by simp)
                    · exact .inr ⟨h, by simp⟩
                  · cases hm
              have hhi := bnd_some ehh hρ
              have hlo := bnd_some ell hρ
              -- the concrete slice expression
              have key : ∀ (a' : Option Addr) (c' m' : Nat), ((mx = none ∧ m' = c') ∨ ((∃ k, mx.map ρ' = some (.int k (m' : Nat))) ∧ hi ≠ none)) → hh ≤ m' → m' ≤ c' → ∀ w, (Instr.sliceAt t (.slice a' n c') (lo.map ρ') (hi.map ρ') (mx.map ρ')).run P w = .ok (.slice (if m' = ll then a' else a'.map (·.add (ll * q.size))) (hh - ll) (m' - ll)) w := by
                intro a' c' m' hm' k1 k2 w
                simp only [Instr.sliceAt, Instr.slice, Sem.run_bind, run_underlying hu, Result.andThen_ok, run_bounds true n c' hlo hhi hm' l1 k1 k2, sizeOf_run hE hq, Sem.run_pure]
              have key2 : ∀ (s : Sem Value) w v, s.run P w = .ok v w → (do pure (Next.value (← s)) : Sem Next).run P w = .ok (.value v) w := fun s w v hs => by rw [Sem.run_bind, hs]; rfl
              split at h
              · cases h
                rw [hx.isn]
                intro w
                refine ⟨.slice none (hh - ll) (m - ll), key2 _ _ _ ?_, .snil _ _⟩
                rw [key none c m hmx l2 l3]
                split <;> rfl
              · rename_i a
                obtain ⟨B, off, sp⟩ := a
                dsimp only at h
                rw [nbeq] at h
                have hex : ∀ (a' : Addr) (k1 k2 : Nat), a'.spot = none → ∃ b o, (if k1 = k2 then some a' else (some a').map (·.add (k2 * q.size))) = some ⟨b, o, none⟩ := fun a' k1 k2 hs => by
                  obtain ⟨b, o, s⟩ := a'
                  dsimp only at hs; subst hs
                  split
                  · exact ⟨_, _, rfl⟩
                  · exact ⟨_, _, by rw [Option.map_some, add_lit']⟩
                split at h
                · -- nothing but that it is empty is told
                  rename_i hns
                  cases h
                  rcases hx.isl with ⟨b, hs, _⟩ | ⟨b, hs, _⟩ | ⟨b, o', c', hs, rfl, rfl, rfl⟩
                  · dsimp only at hs; subst hs; simp [noSpot] at hns
                  · dsimp only at hs; subst hs; simp [noSpot] at hns
                  · have hm0 : m = 0 := by omega
                    have hh0 : hh = 0 := by omega
                    have hl0 : ll = 0 := by omega
                    subst hm0 hh0 hl0
                    intro w
                    rcases hmx with ⟨rfl, _⟩ | hmx
                    · obtain ⟨b2, o2, e9⟩ := hex ⟨b, o', none⟩ c' 0 rfl
                      refine ⟨_, key2 _ _ _ (key (some ⟨b, o', none⟩) c' c' (.inl ⟨rfl, rfl⟩) (Nat.zero_le _) (Nat.le_refl _) w), ?_⟩
                      rw [e9]
                      exact .sl1 _ _ _ _ _
                    · obtain ⟨b2, o2, e9⟩ := hex ⟨b, o', none⟩ 0 0 rfl
                      refine ⟨_, key2 _ _ _ (key (some ⟨b, o', none⟩) c' 0 (.inr hmx) (Nat.le_refl _) (Nat.zero_le _) w), ?_⟩
                      rw [e9]
                      exact .sl1 _ _ _ _ _
                · -- the capacity is told, and used up
                  rename_i hns hmxs hml
                  cases h
                  have hml' : m = ll := by simpa using hml
                  rcases hmx with ⟨rfl, _⟩ | hmx
                  · simp at hmxs
                  · rcases hx.isl with ⟨b, hs, hb, rfl⟩ | ⟨b, hs, hb, rfl⟩ | ⟨b, o', c', hs, _⟩
                    · exact fun w => ⟨_, key2 _ _ _ (key _ _ m (.inr hmx) l2 (by omega) w), by rw [if_pos hml']; exact .sl0 _ _ _ hb⟩
                    · exact fun w => ⟨_, key2 _ _ _ (key _ _ m (.inr hmx) l2 (by omega) w), by rw [if_pos hml']; exact .sl0 _ _ _ hb⟩
                    · dsimp only at hs; subst hs; simp [noSpot] at hns
                · rename_i hns hmxs hml
                  cases h
                  have hml' : ¬ (m = ll) := by simpa using hml
                  rcases hmx with ⟨rfl, _⟩ | hmx
                  · simp at hmxs
                  · rcases hx.isl with ⟨b, hs, hb, rfl⟩ | ⟨b, hs, hb, rfl⟩ | ⟨b, o', c', hs, _⟩
                    · exact fun w => ⟨_, key2 _ _ _ (key _ _ m (.inr hmx) l2 (by omega) w), by rw [if_neg hml', Option.map_some, add_lit']; exact .sl0 _ _ _ hb⟩
                    · exact fun w => ⟨_, key2 _ _ _ (key _ _ m (.inr hmx) l2 (by omega) w), by rw [if_neg hml', Option.map_some, add_lit']; exact .sl0 _ _ _ hb⟩
                    · dsimp only at hs; subst hs; simp [noSpot] at hns
                · rename_i hns hmxs hml
                  cases h
                  have hml' : ¬ (m = ll) := by simpa using hml
                  rcases hmx with ⟨rfl, rfl⟩ | hmx
                  · rcases hx.isl with ⟨b, hs, hb, rfl⟩ | ⟨b, hs, hb, rfl⟩ | ⟨b, o', c', hs, _⟩
                    · dsimp only at hs; subst hs
                      refine fun w => ⟨_, key2 _ _ _ (key _ _ (m + σ.ext B) (.inl ⟨rfl, rfl⟩) (by omega) (Nat.le_refl _) w), ?_⟩
                      rw [if_neg (by omega), Option.map_some, add_lit', show m + σ.ext B - ll = m - ll + σ.ext B by omega]
                      exact .sl _ _ _ hb
                    · dsimp only at hs; subst hs
                      refine fun w => ⟨_, key2 _ _ _ (key _ _ m (.inl ⟨rfl, rfl⟩) l2 (Nat.le_refl _) w), ?_⟩
                      rw [if_neg hml', Option.map_some, add_lit']
                      exact .sl0 _ _ _ hb
                    · dsimp only at hs; subst hs; simp [noSpot] at hns
                  · obtain ⟨⟨k, hk⟩, _⟩ := hmx
                    cases mx with
                    | none => cases hk
                    | some y => simp at hmxs
                · rename_i hns hmxs hml
                  have hml' : m = ll := by simpa using hml
                  have hhl : hh = ll := by omega
                  rcases hmx with ⟨rfl, rfl⟩ | hmx
                  · split at h
                    · cases h
                      subst hml' hhl
                      rcases hx.isl with ⟨b, hs, hb, rfl⟩ | ⟨b, hs, hb, rfl⟩ | ⟨b, o', c', hs, _⟩
                      · dsimp only at hs; subst hs
                        refine fun w => ⟨_, key2 _ _ _ (key _ _ (0 + σ.ext B) (.inl ⟨rfl, rfl⟩) (by omega) (Nat.le_refl _) w), ?_⟩
                        have e9 : (if 0 + σ.ext B = 0 then some (⟨b, off, none⟩ : Addr) else (some (⟨b, off, none⟩ : Addr)).map (·.add (0 * q.size))) = some ⟨b, off, none⟩ := by
                          split
                          · rfl
                          · rw [Option.map_some, add_lit', Nat.zero_mul, Nat.add_zero]
                        rw [e9]
                        exact .sl _ _ _ hb
                      · dsimp only at hs; subst hs
                        refine fun w => ⟨_, key2 _ _ _ (key _ _ 0 (.inl ⟨rfl, rfl⟩) (by omega) (Nat.le_refl _) w), ?_⟩
                        rw [if_pos rfl]
                        exact .sl0 _ _ _ hb
                      · dsimp only at hs; subst hs; simp [noSpot] at hns
                    · cases h
                      have hd0 : hh - ll = 0 := by omega
                      rcases hx.isl with ⟨b, hs, hb, rfl⟩ | ⟨b, hs, hb, rfl⟩ | ⟨b, o', c', hs, _⟩
                      · obtain ⟨b2, o2, e9⟩ := hex ⟨b, off, none⟩ (m + σ.ext B) ll rfl
                        refine fun w => ⟨_, key2 _ _ _ (key _ _ (m + σ.ext B) (.inl ⟨rfl, rfl⟩) (by omega) (Nat.le_refl _) w), ?_⟩
                        rw [e9, hd0]
                        exact .sl1 _ _ _ _ _
                      · obtain ⟨b2, o2, e9⟩ := hex ⟨b, off, none⟩ m ll rfl
                        refine fun w => ⟨_, key2 _ _ _ (key _ _ m (.inl ⟨rfl, rfl⟩) l2 (Nat.le_refl _) w), ?_⟩
                        rw [e9, hd0]
                        exact .sl1 _ _ _ _ _
                      · dsimp only at hs; subst hs; simp [noSpot] at hns
                  · obtain ⟨⟨k, hk⟩, _⟩ := hmx
                    cases mx with
                    | none => cases hk
                    | some y => simp at hmxs
            · cases h
          · cases h
        · cases h
      · cases h
    · cases h
  · rename_i s
    rw [hx.istr]
    split at h
    · rename_i hh ll ehh ell
      rw [nble, nble] at h
      split at h
      · rename_i i e1 e2 hi2
        have hu := (hE.ty t i hi2).1
        split at h
        · rename_i hd
          rw [hd] at hu
          cases h
          have l1 : ll ≤ hh := by simpa using e1
          have l2 : hh ≤ s.size := by simpa using e2
          intro w
          refine ⟨.string (s.extract ll hh), ?_, .string _⟩
          have hb := run_bounds (P := P) (ρ' := ρ') (mx := none) false s.size s.size (bnd_some ell hρ) (bnd_some ehh hρ) (.inl ⟨rfl, rfl⟩) l1 l2 (Nat.le_refl _) w
          simp only [Option.map_none] at hb
          simp only [Instr.sliceAt, Instr.slice, Sem.run_bind, run_underlying hu, Result.andThen_ok, Option.map_none, Option.isSome_none, Bool.false_eq_true, if_false, Sem.run_pure, hb]
        · cases h
      · cases h
    · cases h
  · cases h
theorem EffS.congr {s s' : Sem Next} (h : ∀ w, s.run P w = s'.run P w) (k : EffS P σ s' eff) : EffS P σ s eff := by
  cases eff with
  | val v => exact fun w => by rw [h]; exact k w
  | load agg n a =>
    obtain ⟨b, h1, h2, h3⟩ := k
    exact ⟨b, h1, fun e w cs hc => by rw [h]; exact h2 e w cs hc, fun e w v hv => by rw [h]; exact h3 e w v hv⟩
  | str a n =>
    obtain ⟨b, c, h1, h2⟩ := k
    exact ⟨b, c, h1, fun w => by rw [h]; exact h2 w⟩
  | new e n cs sl =>
    obtain ⟨cs', h1, h2⟩ := k
    exact ⟨cs', h1, fun w => by rw [h]; exact h2 w⟩
  | newS e n cs =>
    obtain ⟨h1, h2, h3, h4⟩ := k
    refine ⟨h1, h2, h3, fun w => ?_⟩
    obtain ⟨x, w', a1, a2, a3, a4, a5⟩ := h4 w
    exact ⟨x, w', a1, a2, a3, a4, by rw [h]; exact a5⟩
  | store n a v =>
    obtain ⟨b, v', h1, h2, h3⟩ := k
    exact ⟨b, v', h1, h2, fun w hw => by rw [h]; exact h3 w hw⟩
  | append size bytes e base n cap m src =>
    obtain ⟨b', cR, z, NW, h1, h2, h3, h4, h5, h6, h7⟩ := k
    exact ⟨b', cR, z, NW, h1, h2, h3, h4, h5, fun w l' a b => by rw [h]; exact h6 w l' a b, fun w l' old a b c d => by rw [h]; exact h7 w l' old a b c d⟩
  | copy size a m b =>
    obtain ⟨ab, bb, h1, h2, h3⟩ := k
    exact ⟨ab, bb, h1, h2, fun w l' a b => by rw [h]; exact h3 w l' a b⟩
  | freeze a n c =>
    intro hns
    obtain ⟨b, c', h1, h2, h3⟩ := k hns
    exact ⟨b, c', h1, h2, fun w => by rw [h]; exact h3 w⟩
  | capOf B c =>
    obtain ⟨b, h1, h2⟩ := k
    exact ⟨b, h1, fun w => by rw [h]; exact h2 w⟩
  | newM => exact fun w => by rw [h]; exact k w
  | newI str => exact fun w => by rw [h]; exact k w
  | look kt B ky z ok =>
    obtain ⟨h0, b, z', h1, h2, h3⟩ := k
    exact ⟨h0, b, z', h1, h2, fun w es c r a b => by rw [h]; exact h3 w es c r a b⟩
  | upd kt B ky v =>
    obtain ⟨h0, b, v', h1, h2, h3⟩ := k
    refine ⟨h0, b, v', h1, h2, fun w es c a => ?_⟩
    rw [h]
    exact h3 w es c a
  | nxt B =>
    obtain ⟨b, h1, h2⟩ := k
    refine ⟨b, h1, fun w str pos a => ?_⟩
    rw [h]
    exact h2 w str pos a
  | fill a l =>
    obtain ⟨b, l', h1, h2, h3⟩ := k
    exact ⟨b, l', h1, h2, fun w => by rw [h]; exact h3 w⟩
  | enterM f agg n a args =>
    obtain ⟨b, l', h1, h2, h3⟩ := k
    exact ⟨b, l', h1, h2, fun w v' x y => by rw [h]; exact h3 w v' x y⟩
  | enter k args =>
    obtain ⟨a, h1, h2⟩ := k
    exact ⟨a, h1, fun w => by rw [h]; exact h2 w⟩
  | round l args =>
    obtain ⟨b, a, h1, h2, h3⟩ := k
    exact ⟨b, a, h1, h2, fun w => by rw [h]; exact h3 w⟩
theorem bytesV_get {s : ByteArray} {k : Nat} {v : Value} (h : (bytesV s)[k]? = some v) : ∃ b, s[k]? = some b ∧ v = .int .u8 b.toNat := by
  unfold bytesV at h
  rw [List.getElem?_map] at h
  cases hk : s.data.toList[k]? with
  | none => rw [hk] at h; cases h
  | some b =>
    rw [hk] at h
    refine ⟨b, ?_, by simpa using h.symm⟩
    have h1 : s.data[k]? = some b := by rw [← Array.getElem?_toList]; exact hk
    obtain ⟨hlt, hb⟩ := Array.getElem?_eq_some_iff.1 h1
    have hlt' : k < s.size := hlt
    rw [getElem?_pos s k hlt']
    congr 1
theorem index_spec (hE : EnvOk P E) {t : TypeId} {x x' i i' : Value} (h : oIndex E t x i = some eff) (hx : VR σ x x') (hi : VR σ i i') : EffS P σ (do pure (.value (← Instr.index t x' i'))) eff := by
  unfold oIndex at h
  split at h
  · rename_i kk z
    rw [hi.iint]
    split at h
    · rename_i k
      split at h
      · rename_i s
        rw [hx.istr]
        split at h
        · rename_i ti hti
          have hu := (hE.ty t ti hti).1
          split at h
          · rename_i hd
            rw [hd] at hu
            split at h
            · rename_i v hv
              cases h
              rw [nth_eq] at hv
              obtain ⟨b, hb, rfl⟩ := bytesV_get hv
              exact fun w => ⟨_, by simp [Instr.index, asIntOf, run_underlying hu, hb], .int _ _⟩
            · cases h
          · cases h
        · cases h
      · rename_i cs
        obtain ⟨cs', hc, rfl⟩ := hx.iagg
        split at h
        · rename_i ti hti
          have hu := (hE.ty t ti hti).1
          split at h
          · rename_i n e hd
            rw [hd] at hu
            split at h
            · rename_i j hj
              rw [nble] at h
              split at h
              · rename_i hn
                split at h
                · rename_i v hv
                  cases h
                  have hn' : k < n := by have : ¬ (n ≤ k) := by simpa using hn
                                         omega
                  intro w
                  obtain ⟨v', h1, h2⟩ := part_spec hE hv hc w
                  refine ⟨v', ?_, h2⟩
                  have hk : (0 : Int) ≤ Int.ofNat k ∧ Int.ofNat k < (n : Int) := ⟨Int.natCast_nonneg k, by show (k : Int) < n; omega⟩
                  simp only [Instr.index, asIntOf, Sem.run_bind, Sem.run_pure, Result.andThen_ok, run_underlying hu, if_pos hk, sizeOf_run hE hj, show (Int.ofNat k).toNat = k from rfl]
                  erw [h1]
                  rfl
                · cases h
              · cases h
            · cases h
          · cases h
        · cases h
      · cases h
    · cases h
  · cases h
end
end Go.Proofs.YtlhkaoccnpgkeaaGreat.Ev

/- Glyphs' bytes that came in, as the walks read them. -/
import Derived.Test.YtafkhnlmipddmaaGreatGlI
import Derived.Test.YtafkhnlmipddmaaGreatOmRow
import Derived.Deep.Slices
import Derived.Deep.Fields
import Derived.ProofKit
import Derived.OpenShut
import Derived.ChangeSame
import Derived.ChangeArms
import Derived.WideShapes
import Derived.SizedLaws
namespace Go.Proofs.YtafkhnlmipddmaaGreat
open Go.RowKit Go.ChangeShapes Go.WideShapes Go.Deep
set_option linter.unusedVariables false
set_option linter.unusedSimpArgs false
theorem list_ofI {P : Nat → Int → Prop} (n : Nat) (h : ∀ i, i < n → ∃ p, P i p) : ∃ l : List Int, l.length = n ∧ ∀ i, i < n → P i (l.getD i 0) := by
  induction n with
  | zero => exact ⟨[], rfl, fun i hi => by omega⟩
  | succ n ih =>
    obtain ⟨l, hl, hp⟩ := ih (fun i hi => h i (by omega))
    obtain ⟨p, hpp⟩ := h n (by omega)
    refine ⟨l ++ [p], by simp [hl], fun i hi => ?_⟩
    by_cases e : i = n
    · subst e; rw [List.getD_eq_getElem?_getD, List.getElem?_append_right (by omega), hl]; simpa using hpp
    · have := hp i (by omega)
      rwa [List.getD_eq_getElem?_getD, List.getElem?_append_left (by omega), ← List.getD_eq_getElem?_getD]
theorem list_ofVb {P : Nat → Value → List Int → Prop} (n : Nat) (h : ∀ i, i < n → ∃ v l, P i v l) : ∃ (vs : List Value) (o : List (List Int)), vs.length = n ∧ o.length = n ∧ ∀ i, i < n → P i (vs.getD i (.slice none 0 0)) (o.getD i []) := by
  induction n with
  | zero => exact ⟨[], [], rfl, rfl, fun i hi => by omega⟩
  | succ n ih =>
    obtain ⟨vs, o, hv, ho, hp⟩ := ih (fun i hi => h i (by omega))
    obtain ⟨v, l, hpp⟩ := h n (by omega)
    refine ⟨vs ++ [v], o ++ [l], by simp [hv], by simp [ho], fun i hi => ?_⟩
    by_cases e : i = n
    · subst e
      rw [List.getD_eq_getElem?_getD, List.getElem?_append_right (by omega), hv, List.getD_eq_getElem?_getD (l := o ++ [l]), List.getElem?_append_right (by omega), ho]; simpa using hpp
    · have := hp i (by omega)
      rwa [List.getD_eq_getElem?_getD, List.getElem?_append_left (by omega), ← List.getD_eq_getElem?_getD, List.getD_eq_getElem?_getD (l := o ++ [l]), List.getElem?_append_left (by omega), ← List.getD_eq_getElem?_getD]
section
variable {H : Type} {enc : TypeId × Value → H} {w : World} {base : Nat} {spare : Nat → Bool} {held : Bool}
set_option maxRecDepth 100000 in
theorem open_bs {fuel : Nat} {cs : List Value} {x : DataW H × List MemPlace} (h : DataW.trod enc Tryz.prog w base (fun _ => true) true fuel 25 cs = some x) (hw : ∀ n ∈ x.1.weights Tryz.prog 25, n ≤ reachBytes) :
    ∃ v l, cs = [v] ∧ IsInts .u8 w v l ∧ (∀ c ∈ l, 0 ≤ c ∧ c ≤ 255) ∧ l.length ≤ reachBytes := by
  rcases open_slice Tryz.underlying25 h with ⟨hcs, _⟩ | ⟨a, len, cap, m, n, D, Pl, hcs, hb, hl, hm, hmm, hx, hi⟩
  · exact ⟨_, [], hcs, .inl ⟨⟨_, rfl⟩, rfl⟩, by simp, by decide⟩
  · simp only [if_true] at hmm
    subst hmm
    have hC : Tryz.prog.cellsOf 5 = 1 := by kernel_rfl
    obtain ⟨l, hll, hp⟩ := list_ofI (P := fun i p => w.cell? (a.add i) = some (.int .u8 p) ∧ 0 ≤ p ∧ p ≤ 255) m (fun i hlt => by
      obtain ⟨cs', hc, ht'⟩ := hi i hlt
      rw [hC, Nat.mul_one] at hc
      obtain ⟨n0, rfl, _, hwf⟩ := DataW.trod_int (k := .u8) Tryz.underlying5 ht'
      exact ⟨n0, cell_of_cells?_one hc, Go.bounds_u8 hwf⟩)
    have hbound : len ≤ reachBytes := by
      have h1 := hw (((List.range len).map D).length * 1 + ((List.range (m - len)).map fun j => D (len + j)).length * 1) (by
        rw [hx]
        simp only [DataW.weights, Tryz.underlying25]
        rw [show Tryz.prog.bytesOf 5 = 1 from by kernel_rfl, Nat.add_mul]
        exact List.mem_cons_self)
      simp only [List.length_map, List.length_range] at h1
      omega
    by_cases hc : m = 0
    · subst hc
      obtain rfl : len = 0 := by omega
      exact ⟨_, [], hcs, .inl ⟨⟨_, rfl⟩, rfl⟩, by simp, by decide⟩
    · obtain ⟨b, off, spot⟩ := a
      have hs : spot = none := by simpa [Addr.add] using World.cell?_spot (hp 0 (by omega)).1
      subst hs
      have hlen : (l.take len).length = len := by simp; omega
      have hg : ∀ j, j < len → (l.take len).getD j 0 = l.getD j 0 := fun j hj => by
        rw [List.getD_eq_getElem?_getD, List.getD_eq_getElem?_getD, List.getElem?_take_of_lt hj]
      refine ⟨_, l.take len, hcs, .inr ⟨b, off, m, by rw [hlen], by omega, hm, fun j hj => ?_⟩, fun c hcm => ?_, by rw [hlen]; exact hbound⟩
      · rw [hlen] at hj
        have h5 := (hp j (by omega)).1
        rw [add_lit] at h5
        rw [hg j hj]; exact h5
      · obtain ⟨j, hj, rfl⟩ := List.mem_iff_getElem.1 hcm
        rw [hlen] at hj
        have h5 := (hp j (by omega)).2
        rw [← hg j hj, List.getD_eq_getElem?_getD, List.getElem?_eq_getElem (by omega)] at h5
        exact h5
set_option maxRecDepth 100000 in
theorem open_bytes {fuel : Nat} {a : Option Addr} {len cap : Nat} {x : DataW H × List MemPlace} (h : DataW.trod enc Tryz.prog w base (fun _ => true) true fuel 25 [.slice a len cap] = some x) (hw : ∀ n ∈ x.1.weights Tryz.prog 25, n ≤ reachBytes) :
    ∃ z, IsInts .u8 w (.slice a len cap) z ∧ (∀ c ∈ z, 0 ≤ c ∧ c ≤ 255) ∧ z.length ≤ reachBytes := by
  obtain ⟨v, l, h1, h2, h3, h4⟩ := open_bs h hw
  obtain rfl : Value.slice a len cap = v := by simpa using h1
  exact ⟨l, h2, h3, h4⟩
set_option maxRecDepth 100000 in
/-- No glyph is longer than memory can hold. -/
theorem open_rows {fuel : Nat} {a : Option Addr} {len cap : Nat} {x : DataW H × List MemPlace} (h : DataW.trod enc Tryz.prog w base (fun _ => true) true fuel 38 [.slice a len cap] = some x) (hw : ∀ n ∈ x.1.weights Tryz.prog 38, n ≤ reachBytes) :
    ∃ o, IsBs w (.slice a len cap) o ∧ (∀ j, j < o.length → (o.getD j []).length ≤ 1125899906842624) ∧ o.length = len := by
  rcases open_slice Tryz.underlying38 h with ⟨hcs, _⟩ | ⟨ad, len', cap', m, n, D, Pl, hcs, hb, hl, hm, hmm, hx, hi⟩
  · simp at hcs
    obtain ⟨rfl, rfl, rfl⟩ := hcs
    exact ⟨[], IsBs.nil _ _, fun j hj => by simp at hj, rfl⟩
  · simp at hcs
    obtain ⟨rfl, rfl, rfl⟩ := hcs
    simp only [if_true] at hmm
    subst hmm
    have hC : Tryz.prog.cellsOf 25 = 1 := by kernel_rfl
    obtain ⟨vs, o, hvl, hol, hp⟩ := list_ofVb (P := fun i v l => w.cell? (ad.add i) = some v ∧ IsInts .u8 w v l ∧ l.length ≤ reachBytes) len (fun i hlt => by
      obtain ⟨cs', hc, ht'⟩ := hi i (by omega)
      rw [hC, Nat.mul_one] at hc
      obtain ⟨v, l, rfl, hps, _, hbl⟩ := open_bs ht' (fun k hk => hw k (by
        rw [hx]
        simp only [DataW.weights, Tryz.underlying38]
        refine List.mem_cons_of_mem _ (List.mem_append_left _ (weights_all ?_ k hk))
        exact List.mem_map.2 ⟨i, by simpa using hlt, rfl⟩))
      exact ⟨v, l, cell_of_cells?_one hc, hps, hbl⟩)
    have hR : ∀ j, j < o.length → (o.getD j []).length ≤ 1125899906842624 := fun j hj => by
      have := (hp j (by omega)).2.2
      unfold reachBytes at this; omega
    by_cases hc : m = 0
    · subst hc
      obtain rfl : len = 0 := by omega
      obtain rfl : o = [] := List.eq_nil_of_length_eq_zero hol
      exact ⟨[], IsBs.nil _ _, fun j hj => by simp at hj, rfl⟩
    · obtain ⟨b, off, spot⟩ := ad
      have hs : spot = none := by
        obtain ⟨cs', hc', _⟩ := hi 0 (by omega)
        rw [hC] at hc'
        obtain ⟨_, hcl, hat⟩ := World.cells?_some hc'
        have h1 := hat 0 (by omega)
        have h2 : (cs'[0]?).isSome := by rw [List.getElem?_eq_getElem (by omega)]; rfl
        obtain ⟨u, hu⟩ := Option.isSome_iff_exists.1 h2
        rw [hu] at h1
        simpa [Addr.add] using World.cell?_spot h1
      subst hs
      refine ⟨o, ⟨vs, ⟨by rw [hvl, hol, Nat.mul_one], .inr ⟨b, off, m, by rw [hol], by omega, hm, fun j u hu => ?_⟩⟩, fun i hi2 => (hp i (by omega)).2.1⟩, hR, hol⟩
      have hj : j < len := by have := (List.getElem?_eq_some_iff.1 hu).1; omega
      have h1 := (hp j hj).1
      rw [add_lit, List.getD_eq_getElem?_getD, hu] at h1
      exact h1
end
end Go.Proofs.YtafkhnlmipddmaaGreat

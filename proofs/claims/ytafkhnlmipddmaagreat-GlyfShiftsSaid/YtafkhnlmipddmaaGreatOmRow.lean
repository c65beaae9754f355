/- An outline that came in, as the walks read it. -/
import Derived.Test.YtafkhnlmipddmaaGreatOmB
import Derived.Deep.Slices
import Derived.Deep.Fields
import Derived.ProofKit
import Derived.OpenShut
import Derived.ChangeSame
import Derived.ChangeArms
import Derived.WideShapes
import Derived.SizedLaws
namespace Go.Proofs.YtafkhnlmipddmaaGreat
open Go.RowKit Go.ChangeShapes Go.WideShapes Go.Deep
set_option linter.unusedVariables false
set_option linter.unusedSimpArgs false
section
variable {H : Type} {enc : TypeId × Value → H} {w : World} {base : Nat} {spare : Nat → Bool} {held : Bool}
set_option maxRecDepth 100000 in
theorem open_pt {fuel : Nat} {cs : List Value} {x : DataW H × List MemPlace} (hl : cs.length = 3) (h : DataW.trod enc Tryz.prog w base spare held fuel 46 cs = some x) : ∃ p : Pn, cs = (pnCells p).toList := by
  match cs, hl with
  | [c0, c1, c2], _ =>
    obtain ⟨xs, n, _, hx, _, hlen, hg⟩ := DataW.trod_struct Tryz.underlying46 h
    have hl : xs.length = 3 := hlen
    obtain ⟨y0, e0⟩ : ∃ y, xs[0]? = some y := ⟨_, List.getElem?_eq_getElem (by omega)⟩
    obtain ⟨y1, e1⟩ : ∃ y, xs[1]? = some y := ⟨_, List.getElem?_eq_getElem (by omega)⟩
    obtain ⟨y2, e2⟩ : ∃ y, xs[2]? = some y := ⟨_, List.getElem?_eq_getElem (by omega)⟩
    obtain ⟨n0, k0, _⟩ := DataW.trod_int (k := .i64) Tryz.underlying3 ((hg 0 _ rfl).trans e0)
    obtain ⟨n1, k1, _⟩ := DataW.trod_int (k := .i64) Tryz.underlying3 ((hg 1 _ rfl).trans e1)
    obtain ⟨n2, k2, _⟩ := DataW.trod_int (k := .i64) Tryz.underlying3 ((hg 2 _ rfl).trans e2)
    have k0' : [c0] = [Value.int .i64 n0] := k0
    have k1' : [c1] = [Value.int .i64 n1] := k1
    have k2' : [c2] = [Value.int .i64 n2] := k2
    simp at k0' k1' k2'
    subst k0' k1' k2'
    exact ⟨⟨n0, n1, n2⟩, rfl⟩
theorem list_ofPn {P : Nat → Pn → Prop} (n : Nat) (h : ∀ i, i < n → ∃ p, P i p) : ∃ l : List Pn, l.length = n ∧ ∀ i, i < n → P i (l.getD i pn0) := by
  induction n with
  | zero => exact ⟨[], rfl, fun i hi => by omega⟩
  | succ n ih =>
    obtain ⟨l, hl, hp⟩ := ih (fun i hi => h i (by omega))
    obtain ⟨p, hpp⟩ := h n (by omega)
    refine ⟨l ++ [p], by simp [hl], fun i hi => ?_⟩
    by_cases e : i = n
    · subst e; rw [List.getD_eq_getElem?_getD, List.getElem?_append_right (by omega), hl]; simpa using hpp
    · have := hp i (by omega)
      rwa [List.getD_eq_getElem?_getD, List.getElem?_append_left (by omega), ← List.getD_eq_getElem?_getD]
theorem list_ofVc {P : Nat → Value → List Pn → Prop} (n : Nat) (h : ∀ i, i < n → ∃ v l, P i v l) : ∃ (vs : List Value) (o : List (List Pn)), vs.length = n ∧ o.length = n ∧ ∀ i, i < n → P i (vs.getD i (.slice none 0 0)) (o.getD i []) := by
  induction n with
  | zero => exact ⟨[], [], rfl, rfl, fun i hi => by omega⟩
  | succ n ih =>
    obtain ⟨vs, o, hv, ho, hp⟩ := ih (fun i hi => h i (by omega))
    obtain ⟨v, l, hpp⟩ := h n (by omega)
    refine ⟨vs ++ [v], o ++ [l], by simp [hv], by simp [ho], fun i hi => ?_⟩
    by_cases e : i = n
    · subst e
      rw [List.getD_eq_getElem?_getD, List.getElem?_append_right (by omega), hv, List.getD_eq_getElem?_getD (l := o ++ [l]), List.getElem?_append_right (by omega), ho]; simpa using hpp
    · have := hp i (by omega)
      rwa [List.getD_eq_getElem?_getD, List.getElem?_append_left (by omega), ← List.getD_eq_getElem?_getD, List.getD_eq_getElem?_getD (l := o ++ [l]), List.getElem?_append_left (by omega), ← List.getD_eq_getElem?_getD]
set_option maxRecDepth 100000 in
theorem open_ps {fuel : Nat} {cs : List Value} {x : DataW H × List MemPlace} (h : DataW.trod enc Tryz.prog w base (fun _ => true) true fuel 23 cs = some x) (hw : ∀ n ∈ x.1.weights Tryz.prog 23, n ≤ reachBytes) :
    ∃ v l, cs = [v] ∧ IsPs w v l ∧ l.length * 24 ≤ reachBytes := by
  rcases open_slice Tryz.underlying23 h with ⟨hcs, _⟩ | ⟨a, len, cap, m, n, D, Pl, hcs, hb, hl, hm, hmm, hx, hi⟩
  · exact ⟨_, [], hcs, IsPs.nil _ _, by decide⟩
  · simp only [if_true] at hmm
    subst hmm
    have hC : Tryz.prog.cellsOf 46 = 3 := by kernel_rfl
    obtain ⟨l, hll, hp⟩ := list_ofPn (P := fun i p => ∀ j u, (pnCells p)[j]? = some u → w.cell? (a.add (i * 3 + j)) = some u) m (fun i hlt => by
      obtain ⟨cs', hc, ht'⟩ := hi i hlt
      rw [hC] at hc
      obtain ⟨_, hcl, hat⟩ := World.cells?_some hc
      obtain ⟨p, rfl⟩ := open_pt hcl ht'
      refine ⟨p, fun j u hu => ?_⟩
      have hj : j < 3 := by
        have := (Array.getElem?_eq_some_iff.1 hu).1
        simpa [pnCells] using this
      have h2 := hat j hj
      rw [Go.Deep.add_add] at h2
      rw [h2, Array.getElem?_toList]; exact hu)
    have hbound : len * 24 ≤ reachBytes := by
      have h1 := hw (((List.range len).map D).length * 24 + ((List.range (m - len)).map fun j => D (len + j)).length * 24) (by
        rw [hx]
        simp only [DataW.weights, Tryz.underlying23]
        rw [show Tryz.prog.bytesOf 46 = 24 from by kernel_rfl, Nat.add_mul]
        exact List.mem_cons_self)
      simp only [List.length_map, List.length_range] at h1
      omega
    by_cases hc : m = 0
    · subst hc
      obtain rfl : len = 0 := by omega
      exact ⟨_, [], hcs, IsPs.nil _ _, by decide⟩
    · obtain ⟨b, off, spot⟩ := a
      have hs : spot = none := by simpa [Addr.add] using World.cell?_spot (hp 0 (by omega) 0 _ rfl)
      subst hs
      have hlen : (l.take len).length = len := by simp; omega
      refine ⟨_, l.take len, hcs, ⟨psCells_length _, .inr ⟨b, off, m, by rw [hlen], by omega, hm, fun j u hu => ?_⟩⟩, by rw [hlen]; exact hbound⟩
      have hj : j < (psCells (l.take len)).length := (List.getElem?_eq_some_iff.1 hu).1
      rw [psCells_length, hlen] at hj
      have hpc := psCells_at (l.take len) (j / 3) (by rw [hlen]; omega) (j % 3) (by omega)
      have hg : (l.take len).getD (j / 3) pn0 = l.getD (j / 3) pn0 := by
        rw [List.getD_eq_getElem?_getD, List.getD_eq_getElem?_getD, List.getElem?_take_of_lt (by omega)]
      rw [hg, show j / 3 * 3 + j % 3 = j by omega] at hpc
      have h5 := hp (j / 3) (by omega) (j % 3) u (by rw [← hpc]; exact hu)
      rw [add_lit, show j / 3 * 3 + j % 3 = j by omega] at h5
      exact h5
theorem weights_all {e : TypeId} {l : List (DataW H)} {d : DataW H} (hd : d ∈ l) : ∀ n ∈ d.weights Tryz.prog e, n ∈ DataW.weightsAll Tryz.prog e l := by
  induction l with
  | nil => cases hd
  | cons d0 l ih =>
    intro n hn
    simp only [DataW.weightsAll, List.mem_append]
    rcases List.mem_cons.1 hd with rfl | hd
    · exact .inl hn
    · exact .inr (ih hd n hn)
set_option maxRecDepth 100000 in
/-- No contour is longer than memory can hold. -/
theorem open_out {fuel : Nat} {a : Option Addr} {len cap : Nat} {x : DataW H × List MemPlace} (h : DataW.trod enc Tryz.prog w base (fun _ => true) true fuel 22 [.slice a len cap] = some x) (hw : ∀ n ∈ x.1.weights Tryz.prog 22, n ≤ reachBytes) :
    ∃ o, IsOut w (.slice a len cap) o ∧ (∀ j, j < o.length → (o.getD j []).length ≤ 1125899906842624) ∧ o.length = len := by
  rcases open_slice Tryz.underlying22 h with ⟨hcs, _⟩ | ⟨ad, len', cap', m, n, D, Pl, hcs, hb, hl, hm, hmm, hx, hi⟩
  · simp at hcs
    obtain ⟨rfl, rfl, rfl⟩ := hcs
    exact ⟨[], IsOut.nil _ _, fun j hj => by simp at hj, rfl⟩
  · simp at hcs
    obtain ⟨rfl, rfl, rfl⟩ := hcs
    simp only [if_true] at hmm
    subst hmm
    have hC : Tryz.prog.cellsOf 23 = 1 := by kernel_rfl
    obtain ⟨vs, o, hvl, hol, hp⟩ := list_ofVc (P := fun i v l => w.cell? (ad.add i) = some v ∧ IsPs w v l ∧ l.length * 24 ≤ reachBytes) len (fun i hlt => by
      obtain ⟨cs', hc, ht'⟩ := hi i (by omega)
      rw [hC, Nat.mul_one] at hc
      obtain ⟨v, l, rfl, hps, hbl⟩ := open_ps ht' (fun k hk => hw k (by
        rw [hx]
        simp only [DataW.weights, Tryz.underlying22]
        refine List.mem_cons_of_mem _ (List.mem_append_left _ (weights_all ?_ k hk))
        exact List.mem_map.2 ⟨i, by simpa using hlt, rfl⟩))
      exact ⟨v, l, cell_of_cells?_one hc, hps, hbl⟩)
    have hR : ∀ j, j < o.length → (o.getD j []).length ≤ 1125899906842624 := fun j hj => by
      have := (hp j (by omega)).2.2
      unfold reachBytes at this; omega
    by_cases hc : m = 0
    · subst hc
      obtain rfl : len = 0 := by omega
      obtain rfl : o = [] := List.eq_nil_of_length_eq_zero hol
      exact ⟨[], IsOut.nil _ _, fun j hj => by simp at hj, rfl⟩
    · obtain ⟨b, off, spot⟩ := ad
      have hs : spot = none := by
        obtain ⟨cs', hc', _⟩ := hi 0 (by omega)
        rw [hC] at hc'
        obtain ⟨_, hcl, hat⟩ := World.cells?_some hc'
        have h1 := hat 0 (by omega)
        have h2 : (cs'[0]?).isSome := by rw [List.getElem?_eq_getElem (by omega)]; rfl
        obtain ⟨u, hu⟩ := Option.isSome_iff_exists.1 h2
        rw [hu] at h1
        simpa [Addr.add] using World.cell?_spot h1
      subst hs
      refine ⟨o, ⟨vs, ⟨by rw [hvl, hol, Nat.mul_one], .inr ⟨b, off, m, by rw [hol], by omega, hm, fun j u hu => ?_⟩⟩, fun i hi2 => (hp i (by omega)).2.1⟩, hR, hol⟩
      have hj : j < len := by have := (List.getElem?_eq_some_iff.1 hu).1; omega
      have h1 := (hp j hj).1
      rw [add_lit, List.getD_eq_getElem?_getD, hu] at h1
      exact h1
end
end Go.Proofs.YtafkhnlmipddmaaGreat

/- A flat outline that came in, as the walks read it; a scale and a point by value. -/
import Derived.Test.YtpbmefojhgcniaaFmA
import Derived.Deep.Slices
import Derived.Deep.Fields
import Derived.ProofKit
import Derived.OpenShut
import Derived.ChangeSame
import Derived.ChangeArms
import Derived.WideShapes
import Derived.SizedLaws
namespace Go.Proofs.Ytpbmefojhgcniaa
open Go.RowKit Go.ChangeShapes Go.WideShapes Go.Deep
set_option linter.unusedVariables false
set_option linter.unusedSimpArgs false
theorem pairCells_at2 (l : List (Int × Int)) (i : Nat) (h : i < l.length) (j : Nat) (hj : j < 2) : (pairCells l)[i * 2 + j]? = [Value.int .i64 (l.getD i (0, 0)).1, Value.int .i64 (l.getD i (0, 0)).2][j]? := by
  have := pairCells_at l i h
  rw [Nat.mul_comm]
  obtain rfl | rfl : j = 0 ∨ j = 1 := by omega
  · simpa using this.1
  · simpa using this.2
section
variable {H : Type} {enc : TypeId × Value → H} {w : World} {base : Nat} {spare : Nat → Bool} {held : Bool}
set_option maxRecDepth 100000 in
theorem open_dtF {fuel : Nat} {cs : List Value} {x : DataW H × List MemPlace} (hl : cs.length = 2) (h : DataW.trod enc Try.prog w base spare held fuel 27 cs = some x) : ∃ p : Int × Int, cs = [.int .i64 p.1, .int .i64 p.2] := by
  match cs, hl with
  | [c0, c1], _ =>
    obtain ⟨xs, n, _, hx, _, hlen, hg⟩ := DataW.trod_struct Try.underlying27 h
    have hl : xs.length = 2 := hlen
    obtain ⟨y0, e0⟩ : ∃ y, xs[0]? = some y := ⟨_, List.getElem?_eq_getElem (by omega)⟩
    obtain ⟨y1, e1⟩ : ∃ y, xs[1]? = some y := ⟨_, List.getElem?_eq_getElem (by omega)⟩
    obtain ⟨n0, k0, _⟩ := DataW.trod_int (k := .i64) Try.underlying3 ((hg 0 _ rfl).trans e0)
    obtain ⟨n1, k1, _⟩ := DataW.trod_int (k := .i64) Try.underlying3 ((hg 1 _ rfl).trans e1)
    have k0' : [c0] = [Value.int .i64 n0] := k0
    have k1' : [c1] = [Value.int .i64 n1] := k1
    simp at k0' k1'
    subst k0' k1'
    exact ⟨(n0, n1), rfl⟩
theorem list_ofDtF {P : Nat → (Int × Int) → Prop} (n : Nat) (h : ∀ i, i < n → ∃ p, P i p) : ∃ l : List (Int × Int), l.length = n ∧ ∀ i, i < n → P i (l.getD i (0, 0)) := by
  induction n with
  | zero => exact ⟨[], rfl, fun i hi => by omega⟩
  | succ n ih =>
    obtain ⟨l, hl, hp⟩ := ih (fun i hi => h i (by omega))
    obtain ⟨p, hpp⟩ := h n (by omega)
    refine ⟨l ++ [p], by simp [hl], fun i hi => ?_⟩
    by_cases e : i = n
    · subst e; rw [List.getD_eq_getElem?_getD, List.getElem?_append_right (by omega), hl]; simpa using hpp
    · have := hp i (by omega)
      rwa [List.getD_eq_getElem?_getD, List.getElem?_append_left (by omega), ← List.getD_eq_getElem?_getD]
theorem list_ofVcF {P : Nat → Value → List (Int × Int) → Prop} (n : Nat) (h : ∀ i, i < n → ∃ v l, P i v l) : ∃ (vs : List Value) (o : List (List (Int × Int))), vs.length = n ∧ o.length = n ∧ ∀ i, i < n → P i (vs.getD i (.slice none 0 0)) (o.getD i []) := by
  induction n with
  | zero => exact ⟨[], [], rfl, rfl, fun i hi => by omega⟩
  | succ n ih =>
    obtain ⟨vs, o, hv, ho, hp⟩ := ih (fun i hi => h i (by omega))
    obtain ⟨v, l, hpp⟩ := h n (by omega)
    refine ⟨vs ++ [v], o ++ [l], by simp [hv], by simp [ho], fun i hi => ?_⟩
    by_cases e : i = n
    · subst e
      rw [List.getD_eq_getElem?_getD, List.getElem?_append_right (by omega), hv, List.getD_eq_getElem?_getD (l := o ++ [l]), List.getElem?_append_right (by omega), ho]; simpa using hpp
    · have := hp i (by omega)
      rwa [List.getD_eq_getElem?_getD, List.getElem?_append_left (by omega), ← List.getD_eq_getElem?_getD, List.getD_eq_getElem?_getD (l := o ++ [l]), List.getElem?_append_left (by omega), ← List.getD_eq_getElem?_getD]
set_option maxRecDepth 100000 in
theorem open_dsF {fuel : Nat} {cs : List Value} {x : DataW H × List MemPlace} (h : DataW.trod enc Try.prog w base (fun _ => true) true fuel 61 cs = some x) (hw : ∀ n ∈ x.1.weights Try.prog 61, n ≤ reachBytes) :
    ∃ v l, cs = [v] ∧ IsPairs w v l ∧ l.length * 16 ≤ reachBytes := by
  rcases open_slice Try.underlying61 h with ⟨hcs, _⟩ | ⟨a, len, cap, m, n, D, Pl, hcs, hb, hl, hm, hmm, hx, hi⟩
  · exact ⟨_, [], hcs, IsPairs.nil _ _, by decide⟩
  · simp only [if_true] at hmm
    subst hmm
    have hC : Try.prog.cellsOf 27 = 2 := by kernel_rfl
    obtain ⟨l, hll, hp⟩ := list_ofDtF (P := fun i p => ∀ j u, [Value.int .i64 p.1, Value.int .i64 p.2][j]? = some u → w.cell? (a.add (i * 2 + j)) = some u) m (fun i hlt => by
      obtain ⟨cs', hc, ht'⟩ := hi i hlt
      rw [hC] at hc
      obtain ⟨_, hcl, hat⟩ := World.cells?_some hc
      obtain ⟨p, rfl⟩ := open_dtF hcl ht'
      refine ⟨p, fun j u hu => ?_⟩
      have hj : j < 2 := by
        have := (List.getElem?_eq_some_iff.1 hu).1
        simpa using this
      have h2 := hat j hj
      rw [Go.Deep.add_add] at h2
      rw [h2]; exact hu)
    have hbound : len * 16 ≤ reachBytes := by
      have h1 := hw (((List.range len).map D).length * 16 + ((List.range (m - len)).map fun j => D (len + j)).length * 16) (by
        rw [hx]
        simp only [DataW.weights, Try.underlying61]
        rw [show Try.prog.bytesOf 27 = 16 from by kernel_rfl, Nat.add_mul]
        exact List.mem_cons_self)
      simp only [List.length_map, List.length_range] at h1
      omega
    by_cases hc : m = 0
    · subst hc
      obtain rfl : len = 0 := by omega
      exact ⟨_, [], hcs, IsPairs.nil _ _, by decide⟩
    · obtain ⟨b, off, spot⟩ := a
      have hs : spot = none := by simpa [Addr.add] using World.cell?_spot (hp 0 (by omega) 0 _ rfl)
      subst hs
      have hlen : (l.take len).length = len := by simp; omega
      refine ⟨_, l.take len, hcs, ⟨pairCells_length _, .inr ⟨b, off, m, by rw [hlen], by omega, hm, fun j u hu => ?_⟩⟩, by rw [hlen]; exact hbound⟩
      have hj : j < (pairCells (l.take len)).length := (List.getElem?_eq_some_iff.1 hu).1
      rw [pairCells_length, hlen] at hj
      have hpc := pairCells_at2 (l.take len) (j / 2) (by rw [hlen]; omega) (j % 2) (by omega)
      have hg : (l.take len).getD (j / 2) (0, 0) = l.getD (j / 2) (0, 0) := by
        rw [List.getD_eq_getElem?_getD, List.getD_eq_getElem?_getD, List.getElem?_take_of_lt (by omega)]
      rw [hg, show j / 2 * 2 + j % 2 = j by omega] at hpc
      have h5 := hp (j / 2) (by omega) (j % 2) u (by rw [← hpc]; exact hu)
      rw [add_lit, show j / 2 * 2 + j % 2 = j by omega] at h5
      exact h5
theorem weights_allF {e : TypeId} {l : List (DataW H)} {d : DataW H} (hd : d ∈ l) : ∀ n ∈ d.weights Try.prog e, n ∈ DataW.weightsAll Try.prog e l := by
  induction l with
  | nil => cases hd
  | cons d0 l ih =>
    intro n hn
    simp only [DataW.weightsAll, List.mem_append]
    rcases List.mem_cons.1 hd with rfl | hd
    · exact .inl hn
    · exact .inr (ih hd n hn)
set_option maxRecDepth 100000 in
/-- No contour is longer than memory can hold. -/
theorem open_flF {fuel : Nat} {a : Option Addr} {len cap : Nat} {x : DataW H × List MemPlace} (h : DataW.trod enc Try.prog w base (fun _ => true) true fuel 39 [.slice a len cap] = some x) (hw : ∀ n ∈ x.1.weights Try.prog 39, n ≤ reachBytes) :
    ∃ o, IsFl w (.slice a len cap) o ∧ (∀ j, j < o.length → (o.getD j []).length ≤ 1125899906842624) ∧ o.length = len := by
  rcases open_slice Try.underlying39 h with ⟨hcs, _⟩ | ⟨ad, len', cap', m, n, D, Pl, hcs, hb, hl, hm, hmm, hx, hi⟩
  · simp at hcs
    obtain ⟨rfl, rfl, rfl⟩ := hcs
    exact ⟨[], IsFl.nil _ _, fun j hj => by simp at hj, rfl⟩
  · simp at hcs
    obtain ⟨rfl, rfl, rfl⟩ := hcs
    simp only [if_true] at hmm
    subst hmm
    have hC : Try.prog.cellsOf 61 = 1 := by kernel_rfl
    obtain ⟨vs, o, hvl, hol, hp⟩ := list_ofVcF (P := fun i v l => w.cell? (ad.add i) = some v ∧ IsPairs w v l ∧ l.length * 16 ≤ reachBytes) len (fun i hlt => by
      obtain ⟨cs', hc, ht'⟩ := hi i (by omega)
      rw [hC, Nat.mul_one] at hc
      obtain ⟨v, l, rfl, hps, hbl⟩ := open_dsF ht' (fun k hk => hw k (by
        rw [hx]
        simp only [DataW.weights, Try.underlying39]
        refine List.mem_cons_of_mem _ (List.mem_append_left _ (weights_allF ?_ k hk))
        exact List.mem_map.2 ⟨i, by simpa using hlt, rfl⟩))
      exact ⟨v, l, cell_of_cells?_one hc, hps, hbl⟩)
    have hR : ∀ j, j < o.length → (o.getD j []).length ≤ 1125899906842624 := fun j hj => by
      have := (hp j (by omega)).2.2
      unfold reachBytes at this; omega
    by_cases hc : m = 0
    · subst hc
      obtain rfl : len = 0 := by omega
      obtain rfl : o = [] := List.eq_nil_of_length_eq_zero hol
      exact ⟨[], IsFl.nil _ _, fun j hj => by simp at hj, rfl⟩
    · obtain ⟨b, off, spot⟩ := ad
      have hs : spot = none := by
        obtain ⟨cs', hc', _⟩ := hi 0 (by omega)
        rw [hC] at hc'
        obtain ⟨_, hcl, hat⟩ := World.cells?_some hc'
        have h1 := hat 0 (by omega)
        have h2 : (cs'[0]?).isSome := by rw [List.getElem?_eq_getElem (by omega)]; rfl
        obtain ⟨u, hu⟩ := Option.isSome_iff_exists.1 h2
        rw [hu] at h1
        simpa [Addr.add] using World.cell?_spot h1
      subst hs
      refine ⟨o, ⟨vs, ⟨by rw [hvl, hol, Nat.mul_one], .inr ⟨b, off, m, by rw [hol], by omega, hm, fun j u hu => ?_⟩⟩, fun i hi2 => (hp i (by omega)).2.1⟩, hR, hol⟩
      have hj : j < len := by have := (List.getElem?_eq_some_iff.1 hu).1; omega
      have h1 := (hp j hj).1
      rw [add_lit, List.getD_eq_getElem?_getD, hu] at h1
      exact h1
set_option maxRecDepth 100000 in
theorem open_scF {r : Reach} {b0 : Nat} {v : Value} {d : DataW H} {p : List MemPlace} (hv : Value.okWide Try.prog w r b0 23 v) (h : DataW.Trod enc Try.prog w base spare held 23 v d p) : ∃ q : Sc, v = scV q := by
  obtain ⟨cs, rfl, hsz⟩ := okWide_struct Try.underlying23 hv
  obtain ⟨l⟩ := cs
  have hs9 : l.length = 4 := hsz
  match l, hs9 with
  | [c0, c1, c2, c3], _ =>
    obtain ⟨fuel, hf⟩ := h
    obtain ⟨xs, n, _, hx, _, hlen, hg⟩ := DataW.trod_struct Try.underlying23 hf
    have hl : xs.length = 4 := hlen
    obtain ⟨y0, e0⟩ : ∃ y, xs[0]? = some y := ⟨_, List.getElem?_eq_getElem (by omega)⟩
    obtain ⟨y1, e1⟩ : ∃ y, xs[1]? = some y := ⟨_, List.getElem?_eq_getElem (by omega)⟩
    obtain ⟨y2, e2⟩ : ∃ y, xs[2]? = some y := ⟨_, List.getElem?_eq_getElem (by omega)⟩
    obtain ⟨y3, e3⟩ : ∃ y, xs[3]? = some y := ⟨_, List.getElem?_eq_getElem (by omega)⟩
    obtain ⟨n0, k0, _⟩ := DataW.trod_int (k := .i64) Try.underlying3 ((hg 0 _ rfl).trans e0)
    obtain ⟨n1, k1, _⟩ := DataW.trod_int (k := .i64) Try.underlying3 ((hg 1 _ rfl).trans e1)
    obtain ⟨n2, k2, _⟩ := DataW.trod_int (k := .i64) Try.underlying3 ((hg 2 _ rfl).trans e2)
    obtain ⟨n3, k3, _⟩ := DataW.trod_int (k := .i64) Try.underlying3 ((hg 3 _ rfl).trans e3)
    have k0' : [c0] = [Value.int .i64 n0] := k0
    have k1' : [c1] = [Value.int .i64 n1] := k1
    have k2' : [c2] = [Value.int .i64 n2] := k2
    have k3' : [c3] = [Value.int .i64 n3] := k3
    simp at k0' k1' k2' k3'
    subst k0' k1' k2' k3'
    exact ⟨⟨n0, n1, n2, n3⟩, rfl⟩
set_option maxRecDepth 100000 in
theorem open_pnF {r : Reach} {b0 : Nat} {v : Value} {d : DataW H} {p : List MemPlace} (hv : Value.okWide Try.prog w r b0 25 v) (h : DataW.Trod enc Try.prog w base spare held 25 v d p) : ∃ q : Pn, v = pnV q := by
  obtain ⟨cs, rfl, hsz⟩ := okWide_struct Try.underlying25 hv
  obtain ⟨l⟩ := cs
  have hs9 : l.length = 3 := hsz
  match l, hs9 with
  | [c0, c1, c2], _ =>
    obtain ⟨fuel, hf⟩ := h
    obtain ⟨xs, n, _, hx, _, hlen, hg⟩ := DataW.trod_struct Try.underlying25 hf
    have hl : xs.length = 3 := hlen
    obtain ⟨y0, e0⟩ : ∃ y, xs[0]? = some y := ⟨_, List.getElem?_eq_getElem (by omega)⟩
    obtain ⟨y1, e1⟩ : ∃ y, xs[1]? = some y := ⟨_, List.getElem?_eq_getElem (by omega)⟩
    obtain ⟨y2, e2⟩ : ∃ y, xs[2]? = some y := ⟨_, List.getElem?_eq_getElem (by omega)⟩
    obtain ⟨n0, k0, _⟩ := DataW.trod_int (k := .i64) Try.underlying3 ((hg 0 _ rfl).trans e0)
    obtain ⟨n1, k1, _⟩ := DataW.trod_int (k := .i64) Try.underlying3 ((hg 1 _ rfl).trans e1)
    obtain ⟨n2, k2, _⟩ := DataW.trod_int (k := .i64) Try.underlying3 ((hg 2 _ rfl).trans e2)
    have k0' : [c0] = [Value.int .i64 n0] := k0
    have k1' : [c1] = [Value.int .i64 n1] := k1
    have k2' : [c2] = [Value.int .i64 n2] := k2
    simp at k0' k1' k2'
    subst k0' k1' k2'
    exact ⟨⟨n0, n1, n2⟩, rfl⟩
end
end Go.Proofs.Ytpbmefojhgcniaa

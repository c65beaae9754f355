/- type2: a program that came in, as the walks read it. -/
import Derived.Test.YtfgpocpfapnkkaaGreatTzD
import Derived.Deep.Slices
import Derived.Deep.Fields
import Derived.ProofKit
import Derived.OpenShut
import Derived.ChangeSame
import Derived.ChangeArms
import Derived.WideShapes
import Derived.SizedLaws
namespace Go.Proofs.YtfgpocpfapnkkaaGreat
open Go.RowKit Go.ChangeShapes Go.WideShapes Go.Deep
set_option linter.unusedVariables false
set_option linter.unusedSimpArgs false
theorem list_ofI {P : Nat → Int → Prop} (n : Nat) (h : ∀ i, i < n → ∃ p, P i p) : ∃ l : List Int, l.length = n ∧ ∀ i, i < n → P i (l.getD i 0) := by
  induction n with
  | zero => exact ⟨[], rfl, fun i hi => by omega⟩
  | succ n ih =>
    obtain ⟨l, hl, hp⟩ := ih (fun i hi => h i (by omega))
    obtain ⟨p, hpp⟩ := h n (by omega)
    refine ⟨l ++ [p], by simp [hl], fun i hi => ?_⟩
    by_cases e : i = n
    · subst e; rw [List.getD_eq_getElem?_getD, List.getElem?_append_right (by omega), hl]; simpa using hpp
    · have := hp i (by omega)
      rwa [List.getD_eq_getElem?_getD, List.getElem?_append_left (by omega), ← List.getD_eq_getElem?_getD]
theorem list_ofVb {P : Nat → Value → List Int → Prop} (n : Nat) (h : ∀ i, i < n → ∃ v l, P i v l) : ∃ (vs : List Value) (o : List (List Int)), vs.length = n ∧ o.length = n ∧ ∀ i, i < n → P i (vs.getD i (.slice none 0 0)) (o.getD i []) := by
  induction n with
  | zero => exact ⟨[], [], rfl, rfl, fun i hi => by omega⟩
  | succ n ih =>
    obtain ⟨vs, o, hv, ho, hp⟩ := ih (fun i hi => h i (by omega))
    obtain ⟨v, l, hpp⟩ := h n (by omega)
    refine ⟨vs ++ [v], o ++ [l], by simp [hv], by simp [ho], fun i hi => ?_⟩
    by_cases e : i = n
    · subst e
      rw [List.getD_eq_getElem?_getD, List.getElem?_append_right (by omega), hv, List.getD_eq_getElem?_getD (l := o ++ [l]), List.getElem?_append_right (by omega), ho]; simpa using hpp
    · have := hp i (by omega)
      rwa [List.getD_eq_getElem?_getD, List.getElem?_append_left (by omega), ← List.getD_eq_getElem?_getD, List.getD_eq_getElem?_getD (l := o ++ [l]), List.getElem?_append_left (by omega), ← List.getD_eq_getElem?_getD]
section
variable {H : Type} {enc : TypeId × Value → H} {w : World} {base : Nat} {spare : Nat → Bool} {held : Bool}
theorem weights_all {e : TypeId} {l : List (DataW H)} {d : DataW H} (hd : d ∈ l) : ∀ n ∈ d.weights Tryz.prog e, n ∈ DataW.weightsAll Tryz.prog e l := by
  induction l with
  | nil => cases hd
  | cons d0 l ih =>
    intro n hn
    simp only [DataW.weightsAll, List.mem_append]
    rcases List.mem_cons.1 hd with rfl | hd
    · exact .inl hn
    · exact .inr (ih hd n hn)
set_option maxRecDepth 100000 in
theorem open_bs {fuel : Nat} {cs : List Value} {x : DataW H × List MemPlace} (h : DataW.trod enc Tryz.prog w base (fun _ => true) true fuel 22 cs = some x) (hw : ∀ n ∈ x.1.weights Tryz.prog 22, n ≤ reachBytes) :
    ∃ v l, cs = [v] ∧ BytesC w v l ∧ l.length ≤ reachBytes := by
  rcases open_slice Tryz.underlying22 h with ⟨hcs, _⟩ | ⟨a, len, cap, m, n, D, Pl, hcs, hb, hl, hm, hmm, hx, hi⟩
  · exact ⟨_, [], hcs, ⟨.inl ⟨⟨_, rfl⟩, rfl⟩, by simp, fun b e => by simp at e⟩, by decide⟩
  · simp only [if_true] at hmm
    subst hmm
    have hC : Tryz.prog.cellsOf 5 = 1 := by kernel_rfl
    obtain ⟨l, hll, hp⟩ := list_ofI (P := fun i p => w.cell? (a.add i) = some (.int .u8 p) ∧ 0 ≤ p ∧ p ≤ 255) m (fun i hlt => by
      obtain ⟨cs', hc, ht'⟩ := hi i hlt
      rw [hC, Nat.mul_one] at hc
      obtain ⟨n0, rfl, _, hwf⟩ := DataW.trod_int (k := .u8) Tryz.underlying5 ht'
      exact ⟨n0, cell_of_cells?_one hc, Go.bounds_u8 hwf⟩)
    have hbound : len ≤ reachBytes := by
      have h1 := hw (((List.range len).map D).length * 1 + ((List.range (m - len)).map fun j => D (len + j)).length * 1) (by
        rw [hx]
        simp only [DataW.weights, Tryz.underlying22]
        rw [show Tryz.prog.bytesOf 5 = 1 from by kernel_rfl, Nat.add_mul]
        exact List.mem_cons_self)
      simp only [List.length_map, List.length_range] at h1
      omega
    by_cases hc : m = 0
    · subst hc
      obtain rfl : len = 0 := by omega
      exact ⟨_, [], hcs, ⟨.inl ⟨⟨_, rfl⟩, rfl⟩, by simp, fun b e => by simp at e⟩, by decide⟩
    · obtain ⟨b, off, spot⟩ := a
      have hs : spot = none := by simpa [Addr.add] using World.cell?_spot (hp 0 (by omega)).1
      subst hs
      have hlen : (l.take len).length = len := by simp; omega
      have hg : ∀ j, j < len → (l.take len).getD j 0 = l.getD j 0 := fun j hj => by
        rw [List.getD_eq_getElem?_getD, List.getD_eq_getElem?_getD, List.getElem?_take_of_lt hj]
      refine ⟨_, l.take len, hcs, ⟨.inr ⟨b, off, m, by rw [hlen], by omega, hm, fun j hj => ?_⟩, fun c hcm => ?_, fun bb e => ?_⟩, by rw [hlen]; exact hbound⟩
      · rw [hlen] at hj
        have h5 := (hp j (by omega)).1
        rw [add_lit] at h5
        rw [hg j hj]; exact h5
      · obtain ⟨j, hj, rfl⟩ := List.mem_iff_getElem.1 hcm
        rw [hlen] at hj
        have h5 := (hp j (by omega)).2
        rw [← hg j hj, List.getD_eq_getElem?_getD, List.getElem?_eq_getElem (by omega)] at h5
        exact h5
      · obtain ⟨_, rfl⟩ := (blockOf_some _ _ _ _ _ _).1 e
        exact World.block_lt_of_cell? w _ (by have := (hp 0 (by omega)).1; rw [add_lit] at this; exact this)
set_option maxRecDepth 100000 in
theorem open_subs {fuel : Nat} {a : Option Addr} {len cap : Nat} {x : DataW H × List MemPlace} (h : DataW.trod enc Tryz.prog w base (fun _ => true) true fuel 23 [.slice a len cap] = some x) (hw : ∀ n ∈ x.1.weights Tryz.prog 23, n ≤ reachBytes) :
    ∃ o, IsSub w (.slice a len cap) o ∧ (∀ j, j < o.length → (o.getD j []).length ≤ 140737488355328) ∧ o.length = len ∧ len ≤ 140737488355328 := by
  rcases open_slice Tryz.underlying23 h with ⟨hcs, _⟩ | ⟨ad, len', cap', m, n, D, Pl, hcs, hb, hl, hm, hmm, hx, hi⟩
  · simp at hcs
    obtain ⟨rfl, rfl, rfl⟩ := hcs
    exact ⟨[], ⟨[], ⟨rfl, .inl ⟨⟨_, rfl⟩, rfl⟩⟩, fun i hi => by simp at hi⟩, fun j hj => by simp at hj, rfl, by omega⟩
  · simp at hcs
    obtain ⟨rfl, rfl, rfl⟩ := hcs
    simp only [if_true] at hmm
    subst hmm
    have hC : Tryz.prog.cellsOf 22 = 1 := by kernel_rfl
    obtain ⟨vs, o, hvl, hol, hp⟩ := list_ofVb (P := fun i v l => w.cell? (ad.add i) = some v ∧ BytesC w v l ∧ l.length ≤ reachBytes) len (fun i hlt => by
      obtain ⟨cs', hc, ht'⟩ := hi i (by omega)
      rw [hC, Nat.mul_one] at hc
      obtain ⟨v, l, rfl, hps, hbl⟩ := open_bs ht' (fun k hk => hw k (by
        rw [hx]
        simp only [DataW.weights, Tryz.underlying23]
        refine List.mem_cons_of_mem _ (List.mem_append_left _ (weights_all ?_ k hk))
        exact List.mem_map.2 ⟨i, by simpa using hlt, rfl⟩))
      exact ⟨v, l, cell_of_cells?_one hc, hps, hbl⟩)
    have hR : ∀ j, j < o.length → (o.getD j []).length ≤ 140737488355328 := fun j hj => by
      have := (hp j (by omega)).2.2
      unfold reachBytes at this; omega
    have hbound : len ≤ 140737488355328 := by
      have h1 := hw (((List.range len).map D).length * 24 + ((List.range (m - len)).map fun j => D (len + j)).length * 24) (by
        rw [hx]
        simp only [DataW.weights, Tryz.underlying23]
        rw [show Tryz.prog.bytesOf 22 = 24 from by kernel_rfl, Nat.add_mul]
        exact List.mem_cons_self)
      simp only [List.length_map, List.length_range] at h1
      unfold reachBytes at h1
      omega
    by_cases hc : m = 0
    · subst hc
      obtain rfl : len = 0 := by omega
      obtain rfl : o = [] := List.eq_nil_of_length_eq_zero hol
      exact ⟨[], ⟨[], ⟨rfl, .inl ⟨⟨_, rfl⟩, rfl⟩⟩, fun i hi => by simp at hi⟩, fun j hj => by simp at hj, rfl, by omega⟩
    · obtain ⟨b, off, spot⟩ := ad
      have hs : spot = none := by
        obtain ⟨cs', hc', _⟩ := hi 0 (by omega)
        rw [hC] at hc'
        obtain ⟨_, hcl, hat⟩ := World.cells?_some hc'
        have h1 := hat 0 (by omega)
        have h2 : (cs'[0]?).isSome := by rw [List.getElem?_eq_getElem (by omega)]; rfl
        obtain ⟨u, hu⟩ := Option.isSome_iff_exists.1 h2
        rw [hu] at h1
        simpa [Addr.add] using World.cell?_spot h1
      subst hs
      refine ⟨o, ⟨vs, ⟨by rw [hvl, hol, Nat.mul_one], .inr ⟨b, off, m, by rw [hol], by omega, hm, fun j u hu => ?_⟩⟩, fun i hi2 => (hp i (by omega)).2.1⟩, hR, hol, hbound⟩
      have hj : j < len := by have := (List.getElem?_eq_some_iff.1 hu).1; omega
      have h1 := (hp j hj).1
      rw [add_lit, List.getD_eq_getElem?_getD, hu] at h1
      exact h1
set_option maxRecDepth 100000 in
theorem open_is {fuel : Nat} {cs : List Value} {x : DataW H × List MemPlace} (h : DataW.trod enc Tryz.prog w base (fun _ => true) true fuel 24 cs = some x) (hw : ∀ n ∈ x.1.weights Tryz.prog 24, n ≤ reachBytes) :
    ∃ v l, cs = [v] ∧ IsInts .i64 w v l ∧ l.length ≤ reachBytes := by
  rcases open_slice Tryz.underlying24 h with ⟨hcs, _⟩ | ⟨a, len, cap, m, n, D, Pl, hcs, hb, hl, hm, hmm, hx, hi⟩
  · exact ⟨_, [], hcs, .inl ⟨⟨_, rfl⟩, rfl⟩, by decide⟩
  · simp only [if_true] at hmm
    subst hmm
    have hC : Tryz.prog.cellsOf 3 = 1 := by kernel_rfl
    obtain ⟨l, hll, hp⟩ := list_ofI (P := fun i p => w.cell? (a.add i) = some (.int .i64 p)) m (fun i hlt => by
      obtain ⟨cs', hc, ht'⟩ := hi i hlt
      rw [hC, Nat.mul_one] at hc
      obtain ⟨n0, rfl, _, hwf⟩ := DataW.trod_int (k := .i64) Tryz.underlying3 ht'
      exact ⟨n0, cell_of_cells?_one hc⟩)
    have hbound : len ≤ reachBytes := by
      have h1 := hw (((List.range len).map D).length * 8 + ((List.range (m - len)).map fun j => D (len + j)).length * 8) (by
        rw [hx]
        simp only [DataW.weights, Tryz.underlying24]
        rw [show Tryz.prog.bytesOf 3 = 8 from by kernel_rfl, Nat.add_mul]
        exact List.mem_cons_self)
      simp only [List.length_map, List.length_range] at h1
      omega
    by_cases hc : m = 0
    · subst hc
      obtain rfl : len = 0 := by omega
      exact ⟨_, [], hcs, .inl ⟨⟨_, rfl⟩, rfl⟩, by decide⟩
    · obtain ⟨b, off, spot⟩ := a
      have hs : spot = none := by simpa [Addr.add] using World.cell?_spot (hp 0 (by omega))
      subst hs
      have hlen : (l.take len).length = len := by simp; omega
      have hg : ∀ j, j < len → (l.take len).getD j 0 = l.getD j 0 := fun j hj => by
        rw [List.getD_eq_getElem?_getD, List.getD_eq_getElem?_getD, List.getElem?_take_of_lt hj]
      refine ⟨_, l.take len, hcs, .inr ⟨b, off, m, by rw [hlen], by omega, hm, fun j hj => ?_⟩, by rw [hlen]; exact hbound⟩
      rw [hlen] at hj
      have h5 := hp j (by omega)
      rw [add_lit] at h5
      rw [hg j hj]; exact h5
theorem IsInts.formT {k : IntKind} {v : Value} {l : List Int} (h : IsInts k w v l) : ∃ p c, v = .slice p l.length c := by
  rcases h with ⟨⟨a, rfl⟩, rfl⟩ | ⟨g, off, cap, rfl, _⟩
  · exact ⟨a, 0, rfl⟩
  · exact ⟨_, cap, rfl⟩
set_option maxRecDepth 100000 in
theorem open_pg {r : Reach} {b0 : Nat} {v : Value} {d : DataW H} {p : List MemPlace} (hv : Value.okWide Tryz.prog w r b0 26 v) (h : DataW.Trod enc Tryz.prog w base (fun _ => true) true 26 v d p) (hw : ∀ n ∈ d.weights Tryz.prog 26, n ≤ reachBytes) :
    ∃ (pc : Option Addr) (cc : Nat) (code : List Int) (gv lv : Value) (G L : List (List Int)) (de nm : Int) (pd : Option Addr) (cd : Nat) (dr : List Int),
      v = .agg #[.slice pc code.length cc, gv, lv, .int .i64 de, .int .i64 nm, .slice pd dr.length cd] ∧ BytesC w (.slice pc code.length cc) code ∧ IsSub w gv G ∧ IsSub w lv L ∧ IsInts .i64 w (.slice pd dr.length cd) dr ∧
      code.length ≤ 140737488355328 ∧ dr.length ≤ 140737488355328 ∧ (∀ j, j < G.length → (G.getD j []).length ≤ 140737488355328) ∧ (∀ j, j < L.length → (L.getD j []).length ≤ 140737488355328) ∧ G.length ≤ 140737488355328 ∧ L.length ≤ 140737488355328 := by
  obtain ⟨cs, rfl, hsz⟩ := okWide_struct Tryz.underlying26 hv
  obtain ⟨l⟩ := cs
  have hs9 : l.length = 6 := hsz
  match l, hs9 with
  | [c0, c1, c2, c3, c4, c5], _ =>
    obtain ⟨fuel, hf⟩ := h
    obtain ⟨xs, n, _, hx, _, hlen, hg⟩ := DataW.trod_struct Tryz.underlying26 hf
    have hl : xs.length = 6 := hlen
    match xs, hl with
    | [y0, y1, y2, y3, y4, y5], _ =>
      have hd : d = .agg [y0.1, y1.1, y2.1, y3.1, y4.1, y5.1] := by
        have := congrArg Prod.fst hx
        simpa using this
      subst hd
      have hw' : ∀ (j : Nat) (t : TypeId) (y : DataW H), [22, 23, 23, 3, 3, 24][j]? = some t → [y0.1, y1.1, y2.1, y3.1, y4.1, y5.1][j]? = some y → ∀ n ∈ y.weights Tryz.prog t, n ≤ reachBytes := by
        intro j t y ht hy n hn
        refine hw n ?_
        simp only [DataW.weights, Tryz.underlying26]
        exact DataW.weights_mem_each (j := j) ht hy n hn
      obtain ⟨va, code, k0, hB, hBl⟩ := open_bs ((hg 0 _ rfl).trans rfl) (hw' 0 _ _ rfl rfl)
      obtain ⟨n3, k3, _⟩ := DataW.trod_int (k := .i64) Tryz.underlying3 ((hg 3 _ rfl).trans rfl)
      obtain ⟨n4, k4, _⟩ := DataW.trod_int (k := .i64) Tryz.underlying3 ((hg 4 _ rfl).trans rfl)
      obtain ⟨vd, dr, k5, hI, hIl⟩ := open_is ((hg 5 _ rfl).trans rfl) (hw' 5 _ _ rfl rfl)
      have g1 := (hg 1 _ rfl).trans rfl
      have g2 := (hg 2 _ rfl).trans rfl
      obtain ⟨a1, l1, p1, k1⟩ : ∃ a l p, [c1] = [Value.slice a l p] := by
        rcases open_slice Tryz.underlying23 g1 with ⟨h, _⟩ | ⟨a, len, cap, _, _, _, _, h, _⟩
        · exact ⟨_, _, _, h⟩
        · exact ⟨_, _, _, h⟩
      obtain ⟨a2, l2, p2, k2⟩ : ∃ a l p, [c2] = [Value.slice a l p] := by
        rcases open_slice Tryz.underlying23 g2 with ⟨h, _⟩ | ⟨a, len, cap, _, _, _, _, h, _⟩
        · exact ⟨_, _, _, h⟩
        · exact ⟨_, _, _, h⟩
      have k0' : [c0] = [va] := k0
      have k3' : [c3] = [Value.int .i64 n3] := k3
      have k4' : [c4] = [Value.int .i64 n4] := k4
      have k5' : [c5] = [vd] := k5
      simp at k0' k1 k2 k3' k4' k5'
      subst k0' k1 k2 k3' k4' k5'
      obtain ⟨G, hG, hGr, hGl, hGb⟩ := open_subs g1 (hw' 1 _ _ rfl rfl)
      obtain ⟨L, hL, hLr, hLl, hLb⟩ := open_subs g2 (hw' 2 _ _ rfl rfl)
      obtain ⟨pc, cc, rfl⟩ := hB.1.formT
      obtain ⟨pd, cd, rfl⟩ := hI.formT
      unfold reachBytes at hBl hIl
      exact ⟨pc, cc, code, _, _, G, L, n3, n4, pd, cd, dr, rfl, hB, hG, hL, hI, by omega, by omega, hGr, hLr, by omega, by omega⟩
end
end Go.Proofs.YtfgpocpfapnkkaaGreat

/- cff: parts that came in, as the walks read them. (Merged by wip/tools/mergetpl.py out of CbRow.) -/
import Derived.Test.YtlhkaoccnpgkeaaGreatCdC
import Derived.Deep.Slices
import Derived.Deep.Fields
import Derived.ProofKit
import Derived.OpenShut
import Derived.ChangeSame
import Derived.ChangeArms
import Derived.WideShapes
import Derived.SizedLaws
namespace Go.Proofs.YtlhkaoccnpgkeaaGreat
open Go.RowKit Go.ChangeShapes Go.WideShapes Go.Deep
set_option linter.unusedVariables false
set_option linter.unusedSimpArgs false
theorem list_ofI {P : Nat → Int → Prop} (n : Nat) (h : ∀ i, i < n → ∃ p, P i p) : ∃ l : List Int, l.length = n ∧ ∀ i, i < n → P i (l.getD i 0) := by
  induction n with
  | zero => exact ⟨[], rfl, fun i hi => by omega⟩
  | succ n ih =>
    obtain ⟨l, hl, hp⟩ := ih (fun i hi => h i (by omega))
    obtain ⟨p, hpp⟩ := h n (by omega)
    refine ⟨l ++ [p], by simp [hl], fun i hi => ?_⟩
    by_cases e : i = n
    · subst e; rw [List.getD_eq_getElem?_getD, List.getElem?_append_right (by omega), hl]; simpa using hpp
    · have := hp i (by omega)
      rwa [List.getD_eq_getElem?_getD, List.getElem?_append_left (by omega), ← List.getD_eq_getElem?_getD]
theorem list_ofF {P : Nat → Fam → Prop} (n : Nat) (h : ∀ i, i < n → ∃ p, P i p) : ∃ l : List Fam, l.length = n ∧ ∀ i, i < n → P i (l.getD i fam0) := by
  induction n with
  | zero => exact ⟨[], rfl, fun i hi => by omega⟩
  | succ n ih =>
    obtain ⟨l, hl, hp⟩ := ih (fun i hi => h i (by omega))
    obtain ⟨p, hpp⟩ := h n (by omega)
    refine ⟨l ++ [p], by simp [hl], fun i hi => ?_⟩
    by_cases e : i = n
    · subst e; rw [List.getD_eq_getElem?_getD, List.getElem?_append_right (by omega), hl]; simpa using hpp
    · have := hp i (by omega)
      rwa [List.getD_eq_getElem?_getD, List.getElem?_append_left (by omega), ← List.getD_eq_getElem?_getD]
theorem list_ofVb {P : Nat → Value → List Int → Prop} (n : Nat) (h : ∀ i, i < n → ∃ v l, P i v l) : ∃ (vs : List Value) (o : List (List Int)), vs.length = n ∧ o.length = n ∧ ∀ i, i < n → P i (vs.getD i (.slice none 0 0)) (o.getD i []) := by
  induction n with
  | zero => exact ⟨[], [], rfl, rfl, fun i hi => by omega⟩
  | succ n ih =>
    obtain ⟨vs, o, hv, ho, hp⟩ := ih (fun i hi => h i (by omega))
    obtain ⟨v, l, hpp⟩ := h n (by omega)
    refine ⟨vs ++ [v], o ++ [l], by simp [hv], by simp [ho], fun i hi => ?_⟩
    by_cases e : i = n
    · subst e
      rw [List.getD_eq_getElem?_getD, List.getElem?_append_right (by omega), hv, List.getD_eq_getElem?_getD (l := o ++ [l]), List.getElem?_append_right (by omega), ho]; simpa using hpp
    · have := hp i (by omega)
      rwa [List.getD_eq_getElem?_getD, List.getElem?_append_left (by omega), ← List.getD_eq_getElem?_getD, List.getD_eq_getElem?_getD (l := o ++ [l]), List.getElem?_append_left (by omega), ← List.getD_eq_getElem?_getD]
section
variable {H : Type} {enc : TypeId × Value → H} {w : World} {base : Nat} {spare : Nat → Bool} {held : Bool}
set_option maxRecDepth 100000 in
theorem open_bs {fuel : Nat} {cs : List Value} {x : DataW H × List MemPlace} (h : DataW.trod enc Tryz.prog w base (fun _ => true) true fuel 29 cs = some x) :
    ∃ v l, cs = [v] ∧ IsInts .u8 w v l := by
  rcases open_slice Tryz.underlying29 h with ⟨hcs, _⟩ | ⟨a, len, cap, m, n, D, Pl, hcs, hb, hl, hm, hmm, hx, hi⟩
  · exact ⟨_, [], hcs, .inl ⟨⟨_, rfl⟩, rfl⟩⟩
  · simp only [if_true] at hmm
    subst hmm
    have hC : Tryz.prog.cellsOf 5 = 1 := by kernel_rfl
    obtain ⟨l, hll, hp⟩ := list_ofI (P := fun i p => w.cell? (a.add i) = some (.int .u8 p)) m (fun i hlt => by
      obtain ⟨cs', hc, ht'⟩ := hi i hlt
      rw [hC, Nat.mul_one] at hc
      obtain ⟨n0, rfl, _, hwf⟩ := DataW.trod_int (k := .u8) Tryz.underlying5 ht'
      exact ⟨n0, cell_of_cells?_one hc⟩)
    by_cases hc : m = 0
    · subst hc
      obtain rfl : len = 0 := by omega
      exact ⟨_, [], hcs, .inl ⟨⟨_, rfl⟩, rfl⟩⟩
    · obtain ⟨b, off, spot⟩ := a
      have hs : spot = none := by simpa [Addr.add] using World.cell?_spot (hp 0 (by omega))
      subst hs
      have hlen : (l.take len).length = len := by simp; omega
      have hg : ∀ j, j < len → (l.take len).getD j 0 = l.getD j 0 := fun j hj => by
        rw [List.getD_eq_getElem?_getD, List.getD_eq_getElem?_getD, List.getElem?_take_of_lt hj]
      refine ⟨_, l.take len, hcs, .inr ⟨b, off, m, by rw [hlen], by omega, hm, fun j hj => ?_⟩⟩
      rw [hlen] at hj
      have h5 := hp j (by omega)
      rw [add_lit] at h5
      rw [hg j hj]; exact h5
set_option maxRecDepth 100000 in
theorem open_rowsB {fuel : Nat} {cs : List Value} {x : DataW H × List MemPlace} (h : DataW.trod enc Tryz.prog w base (fun _ => true) true fuel 22 cs = some x) :
    ∃ v o, cs = [v] ∧ IsBs w v o := by
  rcases open_slice Tryz.underlying22 h with ⟨hcs, _⟩ | ⟨ad, len', cap', m, n, D, Pl, hcs, hb, hl, hm, hmm, hx, hi⟩
  · exact ⟨_, [], hcs, [], ⟨rfl, .inl ⟨⟨_, rfl⟩, rfl⟩⟩, fun i hi => by simp at hi⟩
  · simp only [if_true] at hmm
    subst hmm
    have hC : Tryz.prog.cellsOf 29 = 1 := by kernel_rfl
    obtain ⟨vs, o, hvl, hol, hp⟩ := list_ofVb (P := fun i v l => w.cell? (ad.add i) = some v ∧ IsInts .u8 w v l) len' (fun i hlt => by
      obtain ⟨cs', hc, ht'⟩ := hi i (by omega)
      rw [hC, Nat.mul_one] at hc
      obtain ⟨v, l, rfl, hps⟩ := open_bs ht'
      exact ⟨v, l, cell_of_cells?_one hc, hps⟩)
    by_cases hc : m = 0
    · subst hc
      obtain rfl : len' = 0 := by omega
      obtain rfl : o = [] := List.eq_nil_of_length_eq_zero hol
      exact ⟨_, [], hcs, [], ⟨rfl, .inl ⟨⟨_, rfl⟩, rfl⟩⟩, fun i hi => by simp at hi⟩
    · obtain ⟨b, off, spot⟩ := ad
      have hs : spot = none := by
        obtain ⟨cs', hc', _⟩ := hi 0 (by omega)
        rw [hC] at hc'
        obtain ⟨_, hcl, hat⟩ := World.cells?_some hc'
        have h1 := hat 0 (by omega)
        have h2 : (cs'[0]?).isSome := by rw [List.getElem?_eq_getElem (by omega)]; rfl
        obtain ⟨u, hu⟩ := Option.isSome_iff_exists.1 h2
        rw [hu] at h1
        simpa [Addr.add] using World.cell?_spot h1
      subst hs
      refine ⟨_, o, hcs, vs, ⟨by rw [hvl, hol, Nat.mul_one], .inr ⟨b, off, m, by rw [hol], by omega, hm, fun j u hu => ?_⟩⟩, fun i hi2 => (hp i (by omega)).2⟩
      have hj : j < len' := by have := (List.getElem?_eq_some_iff.1 hu).1; omega
      have h1 := (hp j hj).1
      rw [add_lit, List.getD_eq_getElem?_getD, hu] at h1
      exact h1
set_option maxRecDepth 100000 in
theorem open_is {fuel : Nat} {cs : List Value} {x : DataW H × List MemPlace} (h : DataW.trod enc Tryz.prog w base (fun _ => true) true fuel 24 cs = some x) (hw : ∀ n ∈ x.1.weights Tryz.prog 24, n ≤ reachBytes) :
    ∃ v l, cs = [v] ∧ IsInts .i64 w v l ∧ l.length ≤ reachBytes := by
  rcases open_slice Tryz.underlying24 h with ⟨hcs, _⟩ | ⟨a, len, cap, m, n, D, Pl, hcs, hb, hl, hm, hmm, hx, hi⟩
  · exact ⟨_, [], hcs, .inl ⟨⟨_, rfl⟩, rfl⟩, by decide⟩
  · simp only [if_true] at hmm
    subst hmm
    have hC : Tryz.prog.cellsOf 3 = 1 := by kernel_rfl
    obtain ⟨l, hll, hp⟩ := list_ofI (P := fun i p => w.cell? (a.add i) = some (.int .i64 p)) m (fun i hlt => by
      obtain ⟨cs', hc, ht'⟩ := hi i hlt
      rw [hC, Nat.mul_one] at hc
      obtain ⟨n0, rfl, _, hwf⟩ := DataW.trod_int (k := .i64) Tryz.underlying3 ht'
      exact ⟨n0, cell_of_cells?_one hc⟩)
    have hbound : len ≤ reachBytes := by
      have h1 := hw (((List.range len).map D).length * 8 + ((List.range (m - len)).map fun j => D (len + j)).length * 8) (by
        rw [hx]
        simp only [DataW.weights, Tryz.underlying24]
        rw [show Tryz.prog.bytesOf 3 = 8 from by kernel_rfl, Nat.add_mul]
        exact List.mem_cons_self)
      simp only [List.length_map, List.length_range] at h1
      omega
    by_cases hc : m = 0
    · subst hc
      obtain rfl : len = 0 := by omega
      exact ⟨_, [], hcs, .inl ⟨⟨_, rfl⟩, rfl⟩, by decide⟩
    · obtain ⟨b, off, spot⟩ := a
      have hs : spot = none := by simpa [Addr.add] using World.cell?_spot (hp 0 (by omega))
      subst hs
      have hlen : (l.take len).length = len := by simp; omega
      have hg : ∀ j, j < len → (l.take len).getD j 0 = l.getD j 0 := fun j hj => by
        rw [List.getD_eq_getElem?_getD, List.getD_eq_getElem?_getD, List.getElem?_take_of_lt hj]
      refine ⟨_, l.take len, hcs, .inr ⟨b, off, m, by rw [hlen], by omega, hm, fun j hj => ?_⟩, by rw [hlen]; exact hbound⟩
      rw [hlen] at hj
      have h5 := hp j (by omega)
      rw [add_lit] at h5
      rw [hg j hj]; exact h5
set_option maxRecDepth 100000 in
/-- A family's three cells. -/
theorem open_fam {fuel : Nat} {cs : List Value} {x : DataW H × List MemPlace} (h : DataW.trod enc Tryz.prog w base (fun _ => true) true fuel 54 cs = some x) :
    ∃ (lv : Value) (f : Fam), cs = [lv, .int .i64 f.d, .int .i64 f.n] ∧ IsBs w lv f.l ∧ I64 f.d ∧ I64 f.n := by
  obtain ⟨xs, n, _, hx, hn, hlen, hg⟩ := DataW.trod_struct Tryz.underlying54 h
  have hl : xs.length = 3 := hlen
  have hn3 : cs.length = 3 := hn
  match cs, hn3 with
  | [c0, c1, c2], _ =>
    match xs, hl with
    | [y0, y1, y2], _ =>
      obtain ⟨v, o, k0, hB⟩ := open_rowsB ((hg 0 _ rfl).trans rfl)
      obtain ⟨n1, k1, _, f1⟩ := DataW.trod_int (k := .i64) Tryz.underlying3 ((hg 1 _ rfl).trans rfl)
      obtain ⟨n2, k2, _, f2⟩ := DataW.trod_int (k := .i64) Tryz.underlying3 ((hg 2 _ rfl).trans rfl)
      have k0' : [c0] = [v] := k0
      have k1' : [c1] = [Value.int .i64 n1] := k1
      have k2' : [c2] = [Value.int .i64 n2] := k2
      simp at k0' k1' k2'
      subst k0' k1' k2'
      exact ⟨_, ⟨o, n1, n2⟩, rfl, hB, Go.bounds_i64 f1, Go.bounds_i64 f2⟩
set_option maxRecDepth 100000 in
theorem open_fams {fuel : Nat} {cs : List Value} {x : DataW H × List MemPlace} (h : DataW.trod enc Tryz.prog w base (fun _ => true) true fuel 23 cs = some x) :
    ∃ v fs, cs = [v] ∧ IsFams w v fs := by
  rcases open_slice Tryz.underlying23 h with ⟨hcs, _⟩ | ⟨ad, len, cap, m, n, D, Pl, hcs, hb, hl, hm, hmm, hx, hi⟩
  · exact ⟨_, [], hcs, .inl ⟨⟨_, rfl⟩, rfl⟩⟩
  · simp only [if_true] at hmm
    subst hmm
    have hC : Tryz.prog.cellsOf 54 = 3 := by kernel_rfl
    obtain ⟨fs, hfl, hp⟩ := list_ofF (P := fun i f => ∃ lv, w.cell? (ad.add (i * 3)) = some lv ∧ w.cell? ((ad.add (i * 3)).add 1) = some (.int .i64 f.d) ∧ w.cell? ((ad.add (i * 3)).add 2) = some (.int .i64 f.n) ∧ IsBs w lv f.l ∧ I64 f.d ∧ I64 f.n) len (fun i hlt => by
      obtain ⟨cs', hc, ht'⟩ := hi i (by omega)
      rw [hC] at hc
      obtain ⟨lv, f, rfl, hB, h1, h2⟩ := open_fam ht'
      obtain ⟨_, _, hat⟩ := World.cells?_some hc
      refine ⟨f, lv, ?_, (hat 1 (by decide)).trans rfl, (hat 2 (by decide)).trans rfl, hB, h1, h2⟩
      have := (hat 0 (by decide)).trans rfl
      rwa [show (ad.add (i * 3)).add 0 = ad.add (i * 3) by unfold Addr.add; cases ad; split <;> simp_all] at this)
    by_cases hc : len = 0
    · subst hc
      obtain rfl : fs = [] := List.eq_nil_of_length_eq_zero hfl
      by_cases hm0 : m = 0
      · subst hm0
        exact ⟨_, [], hcs, .inl ⟨⟨_, rfl⟩, rfl⟩⟩
      · obtain ⟨b, off, spot⟩ := ad
        have hs : spot = none := by
          obtain ⟨cs', hc', _⟩ := hi 0 (by omega)
          rw [hC] at hc'
          obtain ⟨_, hcl, hat⟩ := World.cells?_some hc'
          have h1 := hat 0 (by omega)
          have h2 : (cs'[0]?).isSome := by rw [List.getElem?_eq_getElem (by omega)]; rfl
          obtain ⟨u, hu⟩ := Option.isSome_iff_exists.1 h2
          rw [hu] at h1
          simpa [Addr.add] using World.cell?_spot h1
        subst hs
        exact ⟨_, [], hcs, .inr ⟨b, off, m, rfl, by simp, hm, fun i hi => by simp at hi⟩⟩
    · obtain ⟨b, off, spot⟩ := ad
      have hs : spot = none := by
        obtain ⟨lv, h1, _⟩ := hp 0 (by omega)
        simpa [Addr.add] using World.cell?_spot h1
      subst hs
      refine ⟨_, fs, hcs, .inr ⟨b, off, m, by rw [hfl], by omega, hm, fun i hi2 => ?_⟩⟩
      obtain ⟨lv, a1, a2, a3, a4⟩ := hp i (by omega)
      simp only [add_lit] at a1 a2 a3
      exact ⟨lv, a1, a2, a3, a4⟩
set_option maxRecDepth 100000 in
theorem open_cff {r : Reach} {b0 : Nat} {v : Value} {d : DataW H} {p : List MemPlace} (hv : Value.okWide Tryz.prog w r b0 26 v) (h : DataW.Trod enc Tryz.prog w base (fun _ => true) true 26 v d p) (hw : ∀ n ∈ d.weights Tryz.prog 26, n ≤ reachBytes) :
    ∃ (vc vg vf vs vn : Value) (q : CffP), v = .agg #[vc, vg, vf, vs, vn] ∧ CffIn w vc vg vf vs vn q ∧ q.names.length < 4611686018427387904 := by
  obtain ⟨cs, rfl, hsz⟩ := okWide_struct Tryz.underlying26 hv
  obtain ⟨l⟩ := cs
  have hs9 : l.length = 5 := hsz
  match l, hs9 with
  | [c0, c1, c2, c3, c4], _ =>
    obtain ⟨fuel, hf⟩ := h
    obtain ⟨xs, n, _, hx, _, hlen, hg⟩ := DataW.trod_struct Tryz.underlying26 hf
    have hl : xs.length = 5 := hlen
    match xs, hl with
    | [y0, y1, y2, y3, y4], _ =>
      have hd : d = .agg [y0.1, y1.1, y2.1, y3.1, y4.1] := by
        have := congrArg Prod.fst hx
        simpa using this
      subst hd
      have hw' : ∀ (j : Nat) (t : TypeId) (y : DataW H), [22, 22, 23, 24, 24][j]? = some t → [y0.1, y1.1, y2.1, y3.1, y4.1][j]? = some y → ∀ n ∈ y.weights Tryz.prog t, n ≤ reachBytes := by
        intro j t y ht hy n hn
        refine hw n ?_
        simp only [DataW.weights, Tryz.underlying26]
        exact DataW.weights_mem_each (j := j) ht hy n hn
      obtain ⟨v0, o0, k0, h0⟩ := open_rowsB ((hg 0 _ rfl).trans rfl)
      obtain ⟨v1, o1, k1, h1⟩ := open_rowsB ((hg 1 _ rfl).trans rfl)
      obtain ⟨v2, o2, k2, h2⟩ := open_fams ((hg 2 _ rfl).trans rfl)
      obtain ⟨v3, o3, k3, h3, _⟩ := open_is ((hg 3 _ rfl).trans rfl) (hw' 3 _ _ rfl rfl)
      obtain ⟨v4, o4, k4, h4, l4⟩ := open_is ((hg 4 _ rfl).trans rfl) (hw' 4 _ _ rfl rfl)
      have k0' : [c0] = [v0] := k0
      have k1' : [c1] = [v1] := k1
      have k2' : [c2] = [v2] := k2
      have k3' : [c3] = [v3] := k3
      have k4' : [c4] = [v4] := k4
      simp at k0' k1' k2' k3' k4'
      subst k0' k1' k2' k3' k4'
      exact ⟨_, _, _, _, _, ⟨o0, o1, o2, o3, o4⟩, rfl, ⟨h0, h1, h2, h3, h4⟩, by unfold reachBytes at l4; show o4.length < _; omega⟩
end
end Go.Proofs.YtlhkaoccnpgkeaaGreat

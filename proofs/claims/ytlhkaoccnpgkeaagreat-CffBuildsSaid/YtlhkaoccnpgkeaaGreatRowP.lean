/- A slice of pairs of integers that came in (a struct of two fields), as the walks read it. (The first theorem is extra-structs.md's block, to be copied.) -/
import Derived.Test.YtlhkaoccnpgkeaaGreatPair
import Derived.Deep.Slices
import Derived.Deep.Fields
import Derived.ChangeSame
import Derived.OpenShut
namespace Go.Proofs.YtlhkaoccnpgkeaaGreat
open Go.RowKit Go.ChangeShapes Go.WideShapes Go.Deep
set_option linter.unusedVariables false
section
variable {H : Type} {enc : TypeId × Value → H} {P : Program} {w : World} {base : Nat} {spare : Nat → Bool} {held : Bool}
theorem open_slice_fields {t e : TypeId} {fs : Array Field} {fuel : Nat} {cs : List Value} {x : DataW H × List MemPlace} (ht : P.underlying t = some (.slice e)) (he : P.underlying e = some (.struct fs))
    (hone : oneCellFields P fs = true) (hC : P.cellsOf e = fs.size) (h : DataW.trod enc P w base spare held fuel t cs = some x) :
    (cs = [.slice none 0 0] ∧ x = (.nil, [])) ∨
    ∃ (a : Addr) (len cap m : Nat) (D : Nat → DataW H) (Pl : Nat → List MemPlace), cs = [.slice (some a) len cap] ∧ base ≤ a.block ∧ len ≤ cap ∧ cap ≤ maxLen ∧ m = (if spare a.block then cap else len) ∧
      x = (.slice ((List.range len).map D) ((List.range (m - len)).map fun j => D (len + j)), MemPlace.row a (m * fs.size) ++ (List.range m).flatMap Pl) ∧
      ∀ i, i < m → ∃ (ys : List (DataW H × List MemPlace)) (n : Nat), D i = .agg (ys.map (·.1)) ∧ Pl i = ys.flatMap (·.2) ∧ ys.length = fs.size ∧
        ∀ (j : Nat) (f : Field), fs[j]? = some f → ∃ (v : Value) (y : DataW H × List MemPlace), w.cell? (a.add (i * fs.size + j)) = some v ∧ ys[j]? = some y ∧ DataW.trod enc P w base spare held n f.type [v] = some y := by
  rcases open_slice ht h with h0 | ⟨a, len, cap, m, n, D, Pl, hcs, hb, hl, hm, hmm, hx, hi⟩
  · exact .inl h0
  · refine .inr ⟨a, len, cap, m, D, Pl, hcs, hb, hl, hm, hmm, by rw [hC] at hx; exact hx, fun i him => ?_⟩
    obtain ⟨cs', hc, ht'⟩ := hi i him
    rw [hC] at hc
    obtain ⟨ys, n', hn', hy, hlen, hyl, hf⟩ := DataW.trod_struct he ht'
    obtain ⟨_, hcl, hat⟩ := World.cells?_some hc
    simp only [Prod.mk.injEq] at hy
    refine ⟨ys, n', hy.1, hy.2, hyl, fun j f hj => ?_⟩
    obtain ⟨ho, hk⟩ := hone_of hone j f hj
    have hjl : j < fs.size := (Array.getElem?_eq_some_iff.1 hj).1
    have hcell := hat j hjl
    have hv : cs'[j]? = some (cs'[j]'(by omega)) := List.getElem?_eq_getElem (by omega)
    have h1 := hf j f hj
    rw [ho, hk] at h1
    have hone' : (cs'.drop j).take 1 = [cs'[j]'(by omega)] := by
      rw [List.drop_eq_getElem_cons (by omega)]
      rfl
    rw [hone'] at h1
    have hys : ys[j]? = some (ys[j]'(by omega)) := List.getElem?_eq_getElem (by omega)
    refine ⟨_, _, ?_, hys, h1.trans hys⟩
    rw [← Go.Deep.add_add, hcell, hv]
end

/-- A slice of pairs that came in: nil, or a row of 'cap' pairs at an address. -/
def IsRowP (w : World) (a : Option Addr) (len cap : Nat) (l : List (Int × Int)) : Prop :=
  (a = none ∧ len = 0 ∧ cap = 0 ∧ l = []) ∨
  ∃ x, a = some x ∧ len ≤ cap ∧ cap ≤ maxLen ∧ l.length = cap ∧ ∀ i, i < cap → w.cell? (x.add (i * 2)) = some (.int .i64 (l.getD i (0, 0)).1) ∧ w.cell? (x.add (i * 2 + 1)) = some (.int .i64 (l.getD i (0, 0)).2)
theorem list_of {P : Nat → Int × Int → Prop} (n : Nat) (h : ∀ i, i < n → ∃ p, P i p) : ∃ l : List (Int × Int), l.length = n ∧ ∀ i, i < n → P i (l.getD i (0, 0)) := by
  induction n with
  | zero => exact ⟨[], rfl, fun i hi => by omega⟩
  | succ n ih =>
    obtain ⟨l, hl, hp⟩ := ih (fun i hi => h i (by omega))
    obtain ⟨p, hpp⟩ := h n (by omega)
    refine ⟨l ++ [p], by simp [hl], fun i hi => ?_⟩
    by_cases e : i = n
    · subst e; rw [List.getD_eq_getElem?_getD, List.getElem?_append_right (by omega), hl]; simpa using hpp
    · have := hp i (by omega)
      rwa [List.getD_eq_getElem?_getD, List.getElem?_append_left (by omega), ← List.getD_eq_getElem?_getD]
theorem open_pairs {H : Type} {enc : TypeId × Value → H} {P : Program} {w : World} {base : Nat} {t e : TypeId} {f g : Field} {fuel : Nat} {cs : List Value} {x : DataW H × List MemPlace} (ht : P.underlying t = some (.slice e)) (he : P.underlying e = some (.struct #[f, g]))
    (hone : oneCellFields P #[f, g] = true) (hC : P.cellsOf e = 2) (hf : P.underlying f.type = some (.int .i64)) (hg : P.underlying g.type = some (.int .i64)) (h : DataW.trod enc P w base (fun _ => true) true fuel t cs = some x) :
    (cs = [.slice none 0 0] ∧ x = (.nil, [])) ∨
    ∃ (a : Addr) (len cap : Nat) (l : List (Int × Int)) (A B : List (DataW H)), cs = [.slice (some a) len cap] ∧ len ≤ cap ∧ cap ≤ maxLen ∧ x.1 = .slice A B ∧ A.length + B.length = cap ∧ l.length = cap ∧ ∀ i, i < cap → w.cell? (a.add (i * 2)) = some (.int .i64 (l.getD i (0, 0)).1) ∧ w.cell? (a.add (i * 2 + 1)) = some (.int .i64 (l.getD i (0, 0)).2) := by
  rcases open_slice_fields ht he hone (by rw [hC]; rfl) h with h0 | ⟨a, len, cap, m, D, Pl, hcs, hb, hl, hm, hmm, hx, hi⟩
  · exact .inl h0
  · simp only [if_true] at hmm
    subst hmm
    obtain ⟨l, hll, hp⟩ := list_of (P := fun i p => w.cell? (a.add (i * 2)) = some (.int .i64 p.1) ∧ w.cell? (a.add (i * 2 + 1)) = some (.int .i64 p.2)) m (fun i hlt => by
      obtain ⟨ys, n, _, _, _, hfl⟩ := hi i hlt
      obtain ⟨v0, y0, c0, _, t0⟩ := hfl 0 f rfl
      obtain ⟨v1, y1, c1, _, t1⟩ := hfl 1 g rfl
      obtain ⟨n0, e0, _⟩ := DataW.trod_int hf t0
      obtain ⟨n1, e1, _⟩ := DataW.trod_int hg t1
      simp at e0 e1
      subst e0; subst e1
      exact ⟨(n0, n1), c0, c1⟩)
    refine .inr ⟨a, len, m, l, _, _, hcs, hl, hm, by rw [hx], by simp; omega, hll, hp⟩
theorem isrow_pairs {w : World} {a : Option Addr} {len cap : Nat} {l : List (Int × Int)} (h : IsRowP w a len cap l) :
    IsPairs w (.slice a len cap) (l.take len) ∧ (∀ b, blockOf (.slice a len cap) = some b → b < w.heap.size) ∧ (l.take len).length = len ∧ len ≤ cap := by
  rcases h with ⟨rfl, rfl, rfl, rfl⟩ | ⟨x, rfl, h1, h2, h3, h4⟩
  · exact ⟨⟨by simp [pairCells], .inl ⟨⟨_, rfl⟩, by simp⟩⟩, fun b hb => by simp at hb, rfl, Nat.le_refl _⟩
  · have hlen : (l.take len).length = len := by simp; omega
    by_cases hc : cap = 0
    · subst hc; obtain rfl : len = 0 := by omega
      exact ⟨⟨by simp [pairCells], .inl ⟨⟨_, rfl⟩, by simp⟩⟩, fun b hb => by simp at hb, hlen, Nat.le_refl _⟩
    · obtain ⟨b, off, spot⟩ := x
      have hs : spot = none := by simpa [Addr.add] using World.cell?_spot (h4 0 (by omega)).1
      subst hs
      have hadd : ∀ i, (⟨b, off, none⟩ : Addr).add i = ⟨b, off + i, none⟩ := add_lit b off
      refine ⟨⟨pairCells_length _, .inr ⟨b, off, cap, by rw [hlen], by omega, h2, fun j u hu => ?_⟩⟩, ?_, hlen, h1⟩
      · have hj : j < (pairCells (l.take len)).length := (List.getElem?_eq_some_iff.1 hu).1
        rw [pairCells_length, hlen] at hj
        have hpc := pairCells_at (l.take len) (j / 2) (by rw [hlen]; omega)
        have hg : (l.take len).getD (j / 2) (0, 0) = l.getD (j / 2) (0, 0) := by
          rw [List.getD_eq_getElem?_getD, List.getD_eq_getElem?_getD, List.getElem?_take_of_lt (by omega)]
        rw [hg] at hpc
        have h5 := h4 (j / 2) (by omega)
        rw [hadd, hadd] at h5
        rcases (show j = 2 * (j / 2) ∨ j = 2 * (j / 2) + 1 by omega) with e | e
        · rw [e, hpc.1] at hu; cases hu
          rw [show off + j = off + j / 2 * 2 by omega]; exact h5.1
        · rw [e, hpc.2] at hu; cases hu
          rw [show off + j = off + (j / 2 * 2 + 1) by omega]; exact h5.2
      · intro b' hb
        obtain ⟨_, rfl⟩ := (blockOf_some _ _ _ _ _ _).1 hb
        have := World.block_lt_of_cell? w _ (h4 0 (by omega)).1
        rw [hadd] at this; exact this
end Go.Proofs.YtlhkaoccnpgkeaaGreat

/- A slice of parts that came in, as the walks read it. -/
import Derived.Test.YtodjohoonbkklaaCpJ
import Derived.Deep.Slices
import Derived.Deep.Fields
import Derived.ProofKit
import Derived.OpenShut
import Derived.ChangeSame
import Derived.ChangeArms
import Derived.WideShapes
namespace Go.Proofs.Ytodjohoonbkklaa
open Go.RowKit Go.ChangeShapes Go.WideShapes Go.Deep
set_option linter.unusedVariables false
set_option linter.unusedSimpArgs false
section
variable {H : Type} {enc : TypeId × Value → H} {w : World} {base : Nat} {spare : Nat → Bool} {held : Bool}
set_option maxRecDepth 100000 in
theorem open_matrix {fuel : Nat} {c0 c1 c2 c3 : Value} {x : DataW H × List MemPlace} (h : DataW.trod enc Try.prog w base spare held fuel 34 [c0, c1, c2, c3] = some x) : ∃ a b c d : Int, c0 = .int .i64 a ∧ c1 = .int .i64 b ∧ c2 = .int .i64 c ∧ c3 = .int .i64 d := by
  obtain ⟨xs, n, _, hx, _, hlen, hg⟩ := DataW.trod_struct Try.underlying34 h
  have hl : xs.length = 4 := hlen
  obtain ⟨y0, e0⟩ : ∃ y, xs[0]? = some y := ⟨_, List.getElem?_eq_getElem (by omega)⟩
  obtain ⟨y1, e1⟩ : ∃ y, xs[1]? = some y := ⟨_, List.getElem?_eq_getElem (by omega)⟩
  obtain ⟨y2, e2⟩ : ∃ y, xs[2]? = some y := ⟨_, List.getElem?_eq_getElem (by omega)⟩
  obtain ⟨y3, e3⟩ : ∃ y, xs[3]? = some y := ⟨_, List.getElem?_eq_getElem (by omega)⟩
  obtain ⟨n0, k0, _⟩ := DataW.trod_int (k := .i64) Try.underlying3 ((hg 0 _ rfl).trans e0)
  obtain ⟨n1, k1, _⟩ := DataW.trod_int (k := .i64) Try.underlying3 ((hg 1 _ rfl).trans e1)
  obtain ⟨n2, k2, _⟩ := DataW.trod_int (k := .i64) Try.underlying3 ((hg 2 _ rfl).trans e2)
  obtain ⟨n3, k3, _⟩ := DataW.trod_int (k := .i64) Try.underlying3 ((hg 3 _ rfl).trans e3)
  have k0' : [c0] = [Value.int .i64 n0] := k0
  have k1' : [c1] = [Value.int .i64 n1] := k1
  have k2' : [c2] = [Value.int .i64 n2] := k2
  have k3' : [c3] = [Value.int .i64 n3] := k3
  simp at k0' k1' k2' k3'
  exact ⟨n0, n1, n2, n3, k0', k1', k2', k3'⟩
set_option maxRecDepth 100000 in
theorem open_part {fuel : Nat} {cs : List Value} {x : DataW H × List MemPlace} (hl : cs.length = 11) (h : DataW.trod enc Try.prog w base spare held fuel 36 cs = some x) : ∃ p : Pt, cs = (ptCells p).toList := by
  match cs, hl with
  | [c0, c1, c2, c3, c4, c5, c6, c7, c8, c9, c10], _ =>
    obtain ⟨xs, n, _, hx, _, hlen, hg⟩ := DataW.trod_struct Try.underlying36 h
    have hl : xs.length = 8 := hlen
    obtain ⟨y0, e0⟩ : ∃ y, xs[0]? = some y := ⟨_, List.getElem?_eq_getElem (by omega)⟩
    obtain ⟨y1, e1⟩ : ∃ y, xs[1]? = some y := ⟨_, List.getElem?_eq_getElem (by omega)⟩
    obtain ⟨y2, e2⟩ : ∃ y, xs[2]? = some y := ⟨_, List.getElem?_eq_getElem (by omega)⟩
    obtain ⟨y3, e3⟩ : ∃ y, xs[3]? = some y := ⟨_, List.getElem?_eq_getElem (by omega)⟩
    obtain ⟨y4, e4⟩ : ∃ y, xs[4]? = some y := ⟨_, List.getElem?_eq_getElem (by omega)⟩
    obtain ⟨y5, e5⟩ : ∃ y, xs[5]? = some y := ⟨_, List.getElem?_eq_getElem (by omega)⟩
    obtain ⟨y6, e6⟩ : ∃ y, xs[6]? = some y := ⟨_, List.getElem?_eq_getElem (by omega)⟩
    obtain ⟨y7, e7⟩ : ∃ y, xs[7]? = some y := ⟨_, List.getElem?_eq_getElem (by omega)⟩
    obtain ⟨g, k0, _⟩ := DataW.trod_int (k := .i64) Try.underlying3 ((hg 0 _ rfl).trans e0)
    obtain ⟨a, b, c, d, rfl, rfl, rfl, rfl⟩ := open_matrix (c0 := c1) (c1 := c2) (c2 := c3) (c3 := c4) ((hg 1 _ rfl).trans e1)
    obtain ⟨m, k2, _⟩ := DataW.trod_bool Try.underlying4 ((hg 2 _ rfl).trans e2)
    obtain ⟨dx, k3, _⟩ := DataW.trod_int (k := .i64) Try.underlying3 ((hg 3 _ rfl).trans e3)
    obtain ⟨dy, k4, _⟩ := DataW.trod_int (k := .i64) Try.underlying3 ((hg 4 _ rfl).trans e4)
    obtain ⟨t, k5, _⟩ := DataW.trod_bool Try.underlying4 ((hg 5 _ rfl).trans e5)
    obtain ⟨pa, k6, _⟩ := DataW.trod_int (k := .i64) Try.underlying3 ((hg 6 _ rfl).trans e6)
    obtain ⟨ch, k7, _⟩ := DataW.trod_int (k := .i64) Try.underlying3 ((hg 7 _ rfl).trans e7)
    have k0' : [c0] = [Value.int .i64 g] := k0
    have k2' : [c5] = [Value.bool m] := k2
    have k3' : [c6] = [Value.int .i64 dx] := k3
    have k4' : [c7] = [Value.int .i64 dy] := k4
    have k5' : [c8] = [Value.bool t] := k5
    have k6' : [c9] = [Value.int .i64 pa] := k6
    have k7' : [c10] = [Value.int .i64 ch] := k7
    simp at k0' k2' k3' k4' k5' k6' k7'
    subst k0' k2' k3' k4' k5' k6' k7'
    exact ⟨⟨g, a, b, c, d, m, dx, dy, t, pa, ch⟩, rfl⟩
theorem list_ofPt {P : Nat → Pt → Prop} (n : Nat) (h : ∀ i, i < n → ∃ p, P i p) : ∃ l : List Pt, l.length = n ∧ ∀ i, i < n → P i (l.getD i pt0) := by
  induction n with
  | zero => exact ⟨[], rfl, fun i hi => by omega⟩
  | succ n ih =>
    obtain ⟨l, hl, hp⟩ := ih (fun i hi => h i (by omega))
    obtain ⟨p, hpp⟩ := h n (by omega)
    refine ⟨l ++ [p], by simp [hl], fun i hi => ?_⟩
    by_cases e : i = n
    · subst e; rw [List.getD_eq_getElem?_getD, List.getElem?_append_right (by omega), hl]; simpa using hpp
    · have := hp i (by omega)
      rwa [List.getD_eq_getElem?_getD, List.getElem?_append_left (by omega), ← List.getD_eq_getElem?_getD]
theorem open_parts {fuel : Nat} {cs : List Value} {x : DataW H × List MemPlace} (h : DataW.trod enc Try.prog w base (fun _ => true) true fuel 23 cs = some x) :
    (cs = [.slice none 0 0] ∧ x = (.nil, [])) ∨
    ∃ (a : Addr) (len cap : Nat) (l : List Pt), cs = [.slice (some a) len cap] ∧ len ≤ cap ∧ cap ≤ maxLen ∧ l.length = cap ∧ ∀ i, i < cap → ∀ j u, (ptCells (l.getD i pt0))[j]? = some u → w.cell? (a.add (i * 11 + j)) = some u := by
  rcases open_slice Try.underlying23 h with h0 | ⟨a, len, cap, m, n, D, Pl, hcs, hb, hl, hm, hmm, hx, hi⟩
  · exact .inl h0
  · simp only [if_true] at hmm
    subst hmm
    have hC : Try.prog.cellsOf 36 = 11 := by kernel_rfl
    obtain ⟨l, hll, hp⟩ := list_ofPt (P := fun i p => ∀ j u, (ptCells p)[j]? = some u → w.cell? (a.add (i * 11 + j)) = some u) m (fun i hlt => by
      obtain ⟨cs', hc, ht'⟩ := hi i hlt
      rw [hC] at hc
      obtain ⟨_, hcl, hat⟩ := World.cells?_some hc
      obtain ⟨p, rfl⟩ := open_part hcl ht'
      refine ⟨p, fun j u hu => ?_⟩
      have hj : j < 11 := by
        have := (Array.getElem?_eq_some_iff.1 hu).1
        simpa [ptCells] using this
      have h2 := hat j hj
      rw [Go.Deep.add_add] at h2
      rw [h2, Array.getElem?_toList]; exact hu)
    exact .inr ⟨a, len, m, l, hcs, hl, hm, hll, hp⟩
end
/-- A slice of parts that came in: nil, or a row of 'cap' parts at an address. -/
def IsRowPt (w : World) (a : Option Addr) (len cap : Nat) (l : List Pt) : Prop :=
  (a = none ∧ len = 0 ∧ cap = 0 ∧ l = []) ∨
  ∃ x, a = some x ∧ len ≤ cap ∧ cap ≤ maxLen ∧ l.length = cap ∧ ∀ i, i < cap → ∀ j u, (ptCells (l.getD i pt0))[j]? = some u → w.cell? (x.add (i * 11 + j)) = some u
theorem isrow_parts {w : World} {a : Option Addr} {len cap : Nat} {l : List Pt} (h : IsRowPt w a len cap l) :
    IsPts w (.slice a len cap) (l.take len) ∧ (∀ b, blockOf (.slice a len cap) = some b → b < w.heap.size) ∧ (l.take len).length = len ∧ len ≤ cap := by
  rcases h with ⟨rfl, rfl, rfl, rfl⟩ | ⟨x, rfl, h1, h2, h3, h4⟩
  · exact ⟨IsPts.nil _ _, fun b hb => by simp at hb, rfl, Nat.le_refl _⟩
  · have hlen : (l.take len).length = len := by simp; omega
    by_cases hc : cap = 0
    · subst hc; obtain rfl : len = 0 := by omega
      exact ⟨by simpa using IsPts.nil w (some x), fun b hb => by simp at hb, hlen, Nat.le_refl _⟩
    · obtain ⟨b, off, spot⟩ := x
      have hs : spot = none := by simpa [Addr.add] using World.cell?_spot (h4 0 (by omega) 0 _ rfl)
      subst hs
      have hadd : ∀ i, (⟨b, off, none⟩ : Addr).add i = ⟨b, off + i, none⟩ := add_lit b off
      refine ⟨⟨ptsCells_length _, .inr ⟨b, off, cap, by rw [hlen], by omega, h2, fun j u hu => ?_⟩⟩, ?_, hlen, h1⟩
      · have hj : j < (ptsCells (l.take len)).length := (List.getElem?_eq_some_iff.1 hu).1
        rw [ptsCells_length, hlen] at hj
        have hpc := ptsCells_at (l.take len) (j / 11) (by rw [hlen]; omega) (j % 11) (by omega)
        have hg : (l.take len).getD (j / 11) pt0 = l.getD (j / 11) pt0 := by
          rw [List.getD_eq_getElem?_getD, List.getD_eq_getElem?_getD, List.getElem?_take_of_lt (by omega)]
        rw [hg, show j / 11 * 11 + j % 11 = j by omega] at hpc
        have h5 := h4 (j / 11) (by omega) (j % 11) u (by rw [← hpc]; exact hu)
        rw [hadd, show j / 11 * 11 + j % 11 = j by omega] at h5
        exact h5
      · intro b' hb
        obtain ⟨_, rfl⟩ := (blockOf_some _ _ _ _ _ _).1 hb
        have := World.block_lt_of_cell? w _ (h4 0 (by omega) 0 _ rfl)
        rw [hadd] at this; exact this
end Go.Proofs.Ytodjohoonbkklaa

/- A bow that came in by value, as the walks read it. -/
import Derived.Test.YtfdognnjghdikaaCuA
import Derived.ProofKit
import Derived.OpenShut
import Derived.ChangeSame
import Derived.ChangeArms
import Derived.WideShapes
namespace Go.Proofs.Ytfdognnjghdikaa
open Go.RowKit Go.ChangeShapes Go.WideShapes
set_option linter.unusedVariables false
set_option linter.unusedSimpArgs false
section
variable {H : Type} {enc : TypeId × Value → H} {w : World} {base : Nat} {spare : Nat → Bool} {held : Bool}
theorem open_dot {fuel : Nat} {c0 c1 : Value} {x : DataW H × List MemPlace} (h : DataW.trod enc Try.prog w base spare held fuel 23 [c0, c1] = some x) : ∃ a b : Int, c0 = .int .i64 a ∧ c1 = .int .i64 b := by
  obtain ⟨xs, n, _, hx, _, hlen, hg⟩ := DataW.trod_struct (show Try.prog.underlying 23 = some (.struct _) from rfl) h
  have hl : xs.length = 2 := hlen
  obtain ⟨y0, e0⟩ : ∃ y, xs[0]? = some y := ⟨_, List.getElem?_eq_getElem (by omega)⟩
  obtain ⟨y1, e1⟩ : ∃ y, xs[1]? = some y := ⟨_, List.getElem?_eq_getElem (by omega)⟩
  obtain ⟨n0, k0, _⟩ := DataW.trod_int (k := .i64) rfl ((hg 0 _ rfl).trans e0)
  obtain ⟨n1, k1, _⟩ := DataW.trod_int (k := .i64) rfl ((hg 1 _ rfl).trans e1)
  have k0' : [c0] = [Value.int .i64 n0] := k0
  have k1' : [c1] = [Value.int .i64 n1] := k1
  simp at k0' k1'
  exact ⟨n0, n1, k0', k1'⟩
theorem open_bow {r : Reach} {b0 : Nat} {v : Value} {d : DataW H} {p : List MemPlace} (hv : Value.okWide Try.prog w r b0 25 v) (h : DataW.Trod enc Try.prog w base spare held 25 v d p) : ∃ q : Bw, v = bowV q := by
  obtain ⟨cs, rfl, hsz⟩ := okWide_struct (show Try.prog.underlying 25 = some (.struct _) from rfl) hv
  obtain ⟨l⟩ := cs
  have hs9 : l.length = 9 := hsz
  match l, hs9 with
  | [c0, c1, c2, c3, c4, c5, c6, c7, c8], _ =>
    obtain ⟨fuel, hf⟩ := h
    obtain ⟨xs, n, _, hx, _, hlen, hg⟩ := DataW.trod_struct (show Try.prog.underlying 25 = some (.struct _) from rfl) hf
    have hl : xs.length = 5 := hlen
    obtain ⟨y0, e0⟩ : ∃ y, xs[0]? = some y := ⟨_, List.getElem?_eq_getElem (by omega)⟩
    obtain ⟨y1, e1⟩ : ∃ y, xs[1]? = some y := ⟨_, List.getElem?_eq_getElem (by omega)⟩
    obtain ⟨y2, e2⟩ : ∃ y, xs[2]? = some y := ⟨_, List.getElem?_eq_getElem (by omega)⟩
    obtain ⟨y3, e3⟩ : ∃ y, xs[3]? = some y := ⟨_, List.getElem?_eq_getElem (by omega)⟩
    obtain ⟨y4, e4⟩ : ∃ y, xs[4]? = some y := ⟨_, List.getElem?_eq_getElem (by omega)⟩
    obtain ⟨k, hk, _⟩ := DataW.trod_int (k := .i64) rfl ((hg 0 _ rfl).trans e0)
    have hk' : [c0] = [Value.int .i64 k] := hk
    simp at hk'
    obtain ⟨a1, a2, rfl, rfl⟩ := open_dot (c0 := c1) (c1 := c2) ((hg 1 _ rfl).trans e1)
    obtain ⟨b1, b2, rfl, rfl⟩ := open_dot (c0 := c3) (c1 := c4) ((hg 2 _ rfl).trans e2)
    obtain ⟨p1, p2, rfl, rfl⟩ := open_dot (c0 := c5) (c1 := c6) ((hg 3 _ rfl).trans e3)
    obtain ⟨d1, d2, rfl, rfl⟩ := open_dot (c0 := c7) (c1 := c8) ((hg 4 _ rfl).trans e4)
    subst hk'
    exact ⟨⟨k, (a1, a2), (b1, b2), (p1, p2), (d1, d2)⟩, rfl⟩
end
end Go.Proofs.Ytfdognnjghdikaa

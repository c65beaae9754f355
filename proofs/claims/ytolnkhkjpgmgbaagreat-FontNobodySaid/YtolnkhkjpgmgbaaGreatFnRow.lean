/- A key by value that came in. -/
import Derived.Test.YtolnkhkjpgmgbaaGreatEvT
import Derived.Test.YtolnkhkjpgmgbaaGreatMem
import Derived.Deep.Slices
import Derived.Deep.Fields
import Derived.ProofKit
import Derived.OpenShut
import Derived.ChangeSame
import Derived.ChangeArms
import Derived.WideShapes
import Derived.SizedLaws
namespace Go.Proofs.YtolnkhkjpgmgbaaGreat
open Go.RowKit Go.ChangeShapes Go.WideShapes Go.Deep
set_option linter.unusedVariables false
set_option linter.unusedSimpArgs false
section
variable {H : Type} {enc : TypeId × Value → H} {w : World} {base : Nat} {spare : Nat → Bool} {held : Bool}
set_option maxRecDepth 100000 in
theorem open_key {r : Reach} {b0 : Nat} {v : Value} {d : DataW H} {p : List MemPlace} (hv : Value.okWide Tryz.prog w r b0 23 v) (h : DataW.Trod enc Tryz.prog w base spare held 23 v d p) : ∃ n0 n1 n2 n3 : Int, v = .agg #[.int .i64 n0, .int .i64 n1, .int .i64 n2, .int .i64 n3] := by
  obtain ⟨cs, rfl, hsz⟩ := okWide_struct Tryz.underlying23 hv
  obtain ⟨l⟩ := cs
  have hs9 : l.length = 4 := hsz
  match l, hs9 with
  | [c0, c1, c2, c3], _ =>
    obtain ⟨fuel, hf⟩ := h
    obtain ⟨xs, n, _, hx, _, hlen, hg⟩ := DataW.trod_struct Tryz.underlying23 hf
    have hl : xs.length = 4 := hlen
    obtain ⟨y0, e0⟩ : ∃ y, xs[0]? = some y := ⟨_, List.getElem?_eq_getElem (by omega)⟩
    obtain ⟨y1, e1⟩ : ∃ y, xs[1]? = some y := ⟨_, List.getElem?_eq_getElem (by omega)⟩
    obtain ⟨y2, e2⟩ : ∃ y, xs[2]? = some y := ⟨_, List.getElem?_eq_getElem (by omega)⟩
    obtain ⟨y3, e3⟩ : ∃ y, xs[3]? = some y := ⟨_, List.getElem?_eq_getElem (by omega)⟩
    obtain ⟨n0, k0, _⟩ := DataW.trod_int (k := .i64) Tryz.underlying3 ((hg 0 _ rfl).trans e0)
    obtain ⟨n1, k1, _⟩ := DataW.trod_int (k := .i64) Tryz.underlying3 ((hg 1 _ rfl).trans e1)
    obtain ⟨n2, k2, _⟩ := DataW.trod_int (k := .i64) Tryz.underlying3 ((hg 2 _ rfl).trans e2)
    obtain ⟨n3, k3, _⟩ := DataW.trod_int (k := .i64) Tryz.underlying3 ((hg 3 _ rfl).trans e3)
    have k0' : [c0] = [Value.int .i64 n0] := k0
    have k1' : [c1] = [Value.int .i64 n1] := k1
    have k2' : [c2] = [Value.int .i64 n2] := k2
    have k3' : [c3] = [Value.int .i64 n3] := k3
    simp at k0' k1' k2' k3'
    subst k0' k1' k2' k3'
    exact ⟨n0, n1, n2, n3, rfl⟩
end
end Go.Proofs.YtolnkhkjpgmgbaaGreat

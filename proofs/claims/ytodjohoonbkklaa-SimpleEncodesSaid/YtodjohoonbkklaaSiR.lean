/- simple: the law's triangle; what Encode and Decode answer at it (plain). -/
import Derived.Test.YtodjohoonbkklaaSiP
import Derived.Test.YtodjohoonbkklaaSiQ
import Derived.Test.YtodjohoonbkklaaSiG
import Derived.Deep.DeepCutAuto
namespace Go.Proofs.Ytodjohoonbkklaa
open Go.RowKit
set_option linter.unusedVariables false
set_option linter.unusedSimpArgs false
def triC : List Pn := [⟨0, 0, 1⟩, ⟨6553600, 0, 1⟩, ⟨0, 6553600, 2⟩]
def triO : List (List Pn) := [triC]
def triB : List Int := [0, 1, 0, 0, 0, 0, 0, 100, 0, 100, 0, 2, 0, 0, 49, 51, 38, 100, 100, 100]
theorem psLitT {w W : World} {l : List Pn} {n : Nat} (hn : l.length = n) (hm : n ≤ maxLen) (hk : Kp [] (w.alloc (.cells (psCells l).toArray 61)) W) : IsPs W (.slice (some ⟨w.heap.size, 0, none⟩) n n) l := by
  subst hn
  exact IsPs.kp0 (Reads.made w w.heap.size 3 l.length (psCells l) 61 rfl (psCells_length l) hm) hk
theorem outLitT {w W : World} {v : Value} {c : List Pn} (hk : Kp [] (w.alloc (.cells #[v] 96)) W) (hc : IsPs W v c) : IsOut W (.slice (some ⟨w.heap.size, 0, none⟩) 1 1) [c] :=
  ⟨[v], Reads.kp (Reads.made w w.heap.size 1 1 [v] 96 rfl rfl (by decide)) hk (by simp), fun i hi => by
    obtain rfl : i = 0 := by simpa using hi
    exact hc⟩
theorem triangle_calls (w : World) : Calls Try.prog 102 #[] w fun e w' => ∃ v, e = .returned v ∧ IsOut w' v triO ∧ Kp [] w w' := by
  go_enter Try.func102, Try.ntmps102
  go_wp2_with fail
  go_ret
  refine ⟨_, rfl, ?_, by (repeat (first | exact Kp.refl _ _ | assumption | refine Kp.drew ?_ | refine Kp.drewN ?_ _ | refine Kp.alloc ?_ _ | (refine Kp.setCell ?_ (by first | (left; simp; done) | (right; simp; try omega)) _) | (refine Kp.trans' ?_ (by assumption) (by simp; try omega))))⟩
  have h := outLitT (w := w.alloc (.cells (psCells triC).toArray 61)) (c := triC) (Kp.refl [] _) (psLitT (w := w) (n := 3) rfl (by decide) ((Kp.refl [] _).alloc (.cells #[.slice (some ⟨w.heap.size, 0, none⟩) 3 3] 96)))
  simpa [psCells, triC, pnCells, triO] using h
theorem tri_enc : encM triO = (triB, 0) := by decide
theorem tri_dec : decS triB = (triO, 0) := by decide
theorem cut_dec : (decS [0, 1, 0]).2 = 110 := by decide
theorem tri_byte : ∀ c ∈ triB, 0 ≤ c ∧ c ≤ 255 := by decide
theorem tri_kind : kindM triB = 1 := by decide
theorem ff_kind : kindM [255, 255] = 2 := by decide
theorem nil_kind : kindM [] = 0 := by decide
end Go.Proofs.Ytodjohoonbkklaa

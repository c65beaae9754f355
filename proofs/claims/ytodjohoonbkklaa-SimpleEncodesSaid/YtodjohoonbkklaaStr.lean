/- Bytes as a text: 'string(b)'. -/
import Derived.Test.YtodjohoonbkklaaApp
import Derived.Laws.BytesString
import Derived.Laws.Cells
import Derived.Test.YtodjohoonbkklaaRows
namespace Go.Proofs.Ytodjohoonbkklaa
open Go.RowKit
set_option linter.unusedVariables false
set_option linter.unusedSimpArgs false
/-- The text that bytes are. -/
def toStr (zs : List Int) : ByteArray := zs.foldl (fun r n => r.push (UInt8.ofNat n.toNat)) ByteArray.empty
theorem run_str (v : Value) (zs : List Int) (w : World) (h : IsInts .u8 w v zs) : (Go.convert 22 9 v).run Try.prog w = .ok (.string (toStr zs)) w := by
  have key : ∀ a l c, (Go.convert 22 9 (.slice a l c)).run Try.prog w = (Conv.bytesToString (.slice a l c)).run Try.prog w := fun a l c =>
    run_convert_bytes_string w 22 9 5 a l c Try.underlying22 Try.underlying5 Try.underlying9
  rcases h with ⟨⟨ad, rfl⟩, rfl⟩ | ⟨g, off, c, rfl, h1, h2, h3⟩
  · rw [key]
    cases ad with
    | none => rfl
    | some a => exact run_bytesToString w a 0 0 [] (by simp [loadCells, loadCellsFrom, Sem.run_pure])
  · rw [key]
    refine run_bytesToString w _ _ _ zs ?_
    have := run_loadCells_list (P := Try.prog) (w := w) ⟨g, off, none⟩ (zs.map (Value.int .u8)) (fun j u hu => by
      rw [add_lit]
      rw [List.getElem?_map] at hu
      by_cases hj : j < zs.length
      · rw [List.getElem?_eq_getElem hj] at hu
        rw [h3 j hj, List.getD_eq_getElem?_getD, List.getElem?_eq_getElem hj]
        simpa using hu
      · rw [List.getElem?_eq_none (by omega)] at hu; simp at hu)
    simpa using this
end Go.Proofs.Ytodjohoonbkklaa

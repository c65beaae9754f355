/- A slice of integers that came in, as the walks read it. -/
import Derived.Test.YtodjohoonbkklaaMem
import Derived.OpenShut
namespace Go.Proofs.Ytodjohoonbkklaa
open Go.RowKit
set_option linter.unusedVariables false
theorem isrow_ints {k : IntKind} {w : World} {a : Option Addr} {len cap : Nat} {zs : List Int}
    (h : (a = none ∧ len = 0 ∧ cap = 0 ∧ zs = []) ∨ ∃ x, a = some x ∧ len ≤ cap ∧ cap ≤ maxLen ∧ zs.length = cap ∧ (∀ i, i < zs.length → w.cell? (x.add i) = some (.int k (zs.getD i 0))) ∧ ∀ n ∈ zs, (Lit.int k n).wf = true) :
    IsInts k w (.slice a len cap) (zs.take len) ∧ (∀ n ∈ zs.take len, (Lit.int k n).wf = true) ∧ (∀ b, blockOf (.slice a len cap) = some b → b < w.heap.size) ∧ (zs.take len).length ≤ cap ∧ (zs.take len).length = len := by
  rcases h with ⟨rfl, rfl, rfl, rfl⟩ | ⟨x, rfl, h1, h2, h3, h4, h5⟩
  · exact ⟨.inl ⟨⟨_, rfl⟩, rfl⟩, fun n hn => by simp at hn, fun b hb => by simp at hb, by simp, by simp⟩
  · have hlen : (zs.take len).length = len := by simp; omega
    refine ⟨?_, fun n hn => h5 n (List.mem_of_mem_take hn), ?_, by omega, hlen⟩
    · by_cases hc : cap = 0
      · subst hc; obtain rfl : len = 0 := by omega
        exact .inl ⟨⟨_, rfl⟩, by simp⟩
      · obtain ⟨b, off, spot⟩ := x
        have hs : spot = none := by simpa [Addr.add] using World.cell?_spot (h4 0 (by omega))
        subst hs
        refine .inr ⟨b, off, cap, by rw [hlen], by omega, h2, fun i hi => ?_⟩
        have := h4 i (by omega)
        have hadd : (⟨b, off, none⟩ : Addr).add i = ⟨b, off + i, none⟩ := by unfold Addr.add; split <;> simp_all
        rw [hadd] at this
        rw [this]
        have : (zs.take len).getD i 0 = zs.getD i 0 := by
          rw [List.getD_eq_getElem?_getD, List.getD_eq_getElem?_getD, List.getElem?_take_of_lt (by omega)]
        rw [this]
    · intro b hb
      by_cases hc : cap = 0
      · subst hc; simp at hb
      · obtain ⟨b', off, spot⟩ := x
        obtain ⟨_, rfl⟩ := (blockOf_some _ _ _ _ _ _).1 hb
        have := World.block_lt_of_cell? w _ (h4 0 (by omega))
        unfold Addr.add at this; split at this <;> simpa using this
theorem isrow_u8 {l : List Int} (h : ∀ n ∈ l, (Lit.int .u8 n).wf = true) : ∀ c ∈ l, 0 ≤ c ∧ c ≤ 255 := fun c hc => Go.bounds_u8 (h c hc)
theorem isrow_i64 {l : List Int} (h : ∀ n ∈ l, (Lit.int .i64 n).wf = true) : ∀ c ∈ l, -9223372036854775808 ≤ c ∧ c ≤ 9223372036854775807 := fun c hc => Go.bounds_i64 (h c hc)
end Go.Proofs.Ytodjohoonbkklaa

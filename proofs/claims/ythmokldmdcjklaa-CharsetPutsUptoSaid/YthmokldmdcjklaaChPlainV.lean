/- The bytes that are put are bytes, and so many at the most. Plain lists; no program in sight. -/
import Derived.Test.YthmokldmdcjklaaChPlainU
namespace Go.Proofs.Ythmokldmdcjklaa
set_option linter.unusedVariables false
set_option linter.unusedSimpArgs false
theorem by2_bytes (x : Int) : ∀ c ∈ by2 x, 0 ≤ c ∧ c ≤ 255 := by
  intro c hc; simp [by2] at hc; rcases hc with rfl | rfl <;> omega
theorem moreB_bytes (f n : Nat) : ∀ c ∈ moreB f n, 0 ≤ c ∧ c ≤ 255 := by
  intro c hc; unfold moreB at hc
  split at hc
  · simp at hc
  · split at hc
    · simp at hc; subst hc; omega
    · exact by2_bytes _ _ hc
theorem putGo_bytes (f : Nat) : ∀ (m : Nat) (l : List Int), ∀ c ∈ putGo f m l, 0 ≤ c ∧ c ≤ 255 := by
  intro m
  induction m with
  | zero => intro l c hc; simp [putGo] at hc
  | succ m ih =>
    intro l c hc
    unfold putGo at hc
    split at hc
    · simp at hc
    · unfold putRun at hc
      rcases List.mem_append.1 hc with h | h
      · rcases List.mem_append.1 h with h | h
        · exact by2_bytes _ _ h
        · exact moreB_bytes _ _ _ h
      · exact ih _ _ h
theorem putGo_len (f : Nat) : ∀ (m : Nat) (l : List Int), (putGo f m l).length ≤ 4 * l.length := by
  intro m
  induction m with
  | zero => intro l; simp [putGo]
  | succ m ih =>
    intro l
    unfold putGo
    split
    · simp
    · rename_i h
      have h1 : 1 ≤ l.length := List.length_pos_iff.2 h
      have h2 := runL_ge f l
      have h3 := runL_le f l h1
      have h4 := ih (l.drop (runL f l))
      have h5 := moreB_length f (runL f l)
      simp only [putRun, List.length_append, List.length_drop] at h4 ⊢
      have : (by2 (l.getD 0 0)).length = 2 := rfl
      omega
theorem csPut_bytes (l : List Int) (f : Nat) (hf : f ≤ 2) : ∀ c ∈ csPut l f, 0 ≤ c ∧ c ≤ 255 := by
  intro c hc
  unfold csPut at hc
  rcases List.mem_append.1 hc with h | h
  · simp at h; subst h; omega
  · exact putGo_bytes _ _ _ _ h
theorem csPut_len (l : List Int) (f : Nat) : (csPut l f).length ≤ 1 + 4 * l.length := by
  unfold csPut
  have := putGo_len f l.length (l.drop 1)
  simp only [List.length_append, List.length_singleton, List.length_drop] at this ⊢
  omega
end Go.Proofs.Ythmokldmdcjklaa

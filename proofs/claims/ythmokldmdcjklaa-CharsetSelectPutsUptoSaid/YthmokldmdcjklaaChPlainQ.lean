/- The bytes of a selection, as the document has them. Plain lists; no program in sight. -/
import Derived.Test.YthmokldmdcjklaaChG
namespace Go.Proofs.Ythmokldmdcjklaa
set_option linter.unusedVariables false
set_option linter.unusedSimpArgs false
/-- How many equal numbers a list begins with. -/
def runE (all : Int) (l : List Int) : Nat := runGo (fun i => l.getD i 0 == l.getD 0 0) all (l.length - 1) 1
theorem runE_ge (all : Int) (l : List Int) : 1 ≤ runE all l := (runGo_le _ _ _ _).1
theorem runE_le (all : Int) (l : List Int) (h : 1 ≤ l.length) : runE all l ≤ l.length := by have := (runGo_le (fun i => l.getD i 0 == l.getD 0 0) all (l.length - 1) 1).2; unfold runE; omega
/-- A selection's ranges: where each begins, and its number. -/
def psGo (all : Int) : Nat → List Int → Nat → List (Nat × Int)
  | 0, _, _ => []
  | m + 1, l, a => if l = [] then [] else (a, l.getD 0 0) :: psGo all m (l.drop (runE all l)) (a + runE all l)
def psB (rs : List (Nat × Int)) : List Int := rs.flatMap fun p => by2 p.1 ++ [p.2 % 256]
theorem psB_length (rs : List (Nat × Int)) : (psB rs).length = 3 * rs.length := by
  induction rs with
  | nil => rfl
  | cons p l ih => simp [psB, by2] at ih ⊢; omega
theorem psB_snoc (rs : List (Nat × Int)) (p : Nat × Int) : psB (rs ++ [p]) = psB rs ++ (by2 p.1 ++ [p.2 % 256]) := by simp [psB]
/-- Where a put stands: the ranges so far, and the numbers still to come, from place a on. -/
def PsAt (all : Int) (R acc : List (Nat × Int)) (rest : List Int) (a : Nat) : Prop := ∃ m, rest.length ≤ m ∧ acc ++ psGo all m rest a = R
theorem psAt_start (l : List Int) : PsAt l.length (psGo l.length l.length l 0) [] l 0 := ⟨l.length, Nat.le_refl _, rfl⟩
theorem psAt_end (all : Int) (R acc : List (Nat × Int)) (a : Nat) (h : PsAt all R acc [] a) : R = acc := by
  obtain ⟨m, _, rfl⟩ := h
  cases m <;> simp [psGo]
theorem psAt_step (all : Int) (R acc : List (Nat × Int)) (rest : List Int) (a : Nat) (h : PsAt all R acc rest a) (hr : rest ≠ []) : PsAt all R (acc ++ [(a, rest.getD 0 0)]) (rest.drop (runE all rest)) (a + runE all rest) := by
  obtain ⟨m, hm, rfl⟩ := h
  have hl : 1 ≤ rest.length := by cases rest with | nil => exact absurd rfl hr | cons a l => simp
  cases m with
  | zero => omega
  | succ m =>
    refine ⟨m, ?_, ?_⟩
    · have := runE_ge all rest; rw [List.length_drop]; omega
    · simp [psGo, hr]
/-- The bytes of a selection. -/
def csPutSel (l : List Int) (f : Int) : List Int :=
  if f = 0 then [0] ++ l.map (· % 256)
  else [3] ++ by2 (psGo l.length l.length l 0).length ++ psB (psGo l.length l.length l 0) ++ by2 l.length
/-- May a selection be put? -/
def maySel (l : List Int) (q f : Int) : Bool := decide (1 ≤ l.length) && decide (l.length ≤ 65535) && decide (1 ≤ q) && decide (q ≤ 256) && l.all (inB (q - 1)) && (f == 0 || f == 3)
end Go.Proofs.Ythmokldmdcjklaa

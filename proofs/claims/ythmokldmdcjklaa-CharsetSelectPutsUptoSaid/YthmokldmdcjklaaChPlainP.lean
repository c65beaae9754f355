/- The bytes of a charset, as the document has them. Plain lists; no program in sight. -/
import Derived.Test.YthmokldmdcjklaaChF
namespace Go.Proofs.Ythmokldmdcjklaa
set_option linter.unusedVariables false
/-- A number's two bytes. -/
def by2 (x : Int) : List Int := [x / 256 % 256, x % 256]
def mostOf (f : Nat) : Int := if f = 0 then 0 else if f = 1 then 255 else 65535
/-- How many numbers the first range of a list has. -/
def runL (f : Nat) (l : List Int) : Nat := runGo (fun i => l.getD i 0 == l.getD 0 0 + i) (mostOf f) (l.length - 1) 1
theorem runL_ge (f : Nat) (l : List Int) : 1 ≤ runL f l := (runGo_le _ _ _ _).1
theorem runL_le (f : Nat) (l : List Int) (h : 1 ≤ l.length) : runL f l ≤ l.length := by have := (runGo_le (fun i => l.getD i 0 == l.getD 0 0 + i) (mostOf f) (l.length - 1) 1).2; unfold runL; omega
/-- How many more a range has, as bytes. -/
def moreB (f : Nat) (n : Nat) : List Int := if f = 0 then [] else if f = 1 then [((n : Int) - 1) % 256] else by2 ((n : Int) - 1)
def putRun (f : Nat) (l : List Int) (n : Nat) : List Int := by2 (l.getD 0 0) ++ moreB f n
def putGo (f : Nat) : Nat → List Int → List Int
  | 0, _ => []
  | m + 1, l => if l = [] then [] else putRun f l (runL f l) ++ putGo f m (l.drop (runL f l))
/-- A charset's bytes. -/
def csPut (l : List Int) (f : Nat) : List Int := [(f : Int)] ++ putGo f l.length (l.drop 1)
/-- Where a put stands: what was written, and the numbers still to come. -/
def PutAt (f : Nat) (R acc rest : List Int) : Prop := ∃ m, rest.length ≤ m ∧ acc ++ putGo f m rest = R
theorem putAt_start (l : List Int) (f : Nat) : PutAt f (csPut l f) [(f : Int)] (l.drop 1) := ⟨l.length, by simp, rfl⟩
theorem putAt_end (f : Nat) (R acc : List Int) (h : PutAt f R acc []) : R = acc := by
  obtain ⟨m, _, rfl⟩ := h
  cases m with
  | zero => simp [putGo]
  | succ m => simp [putGo]
theorem putAt_step (f : Nat) (R acc rest : List Int) (h : PutAt f R acc rest) (hr : rest ≠ []) : PutAt f R (acc ++ by2 (rest.getD 0 0) ++ moreB f (runL f rest)) (rest.drop (runL f rest)) := by
  obtain ⟨m, hm, rfl⟩ := h
  have hl : 1 ≤ rest.length := by cases rest with | nil => exact absurd rfl hr | cons a l => simp
  cases m with
  | zero => omega
  | succ m =>
    refine ⟨m, ?_, ?_⟩
    · have := runL_ge f rest; rw [List.length_drop]; omega
    · simp [putGo, hr, putRun, List.append_assoc]
theorem moreB_length (f n : Nat) : (moreB f n).length ≤ 2 := by unfold moreB by2; split; simp; split <;> simp
/-- May numbers be put? -/
def mayPut (l : List Int) (f : Int) : Bool := decide (1 ≤ l.length) && decide (l.length ≤ 65535) && (l.getD 0 0 == 0) && l.all (inB 65535) && decide (0 ≤ f) && decide (f ≤ 2)
end Go.Proofs.Ythmokldmdcjklaa

/- Charsets as the document has them: what bytes are, glyph by glyph. Plain lists; no program in sight. -/
import Derived.Test.YthmokldmdcjklaaWireB
namespace Go.Proofs.Ythmokldmdcjklaa
set_option linter.unusedVariables false
/-- j numbers from x on. -/
def ups (x : Int) (j : Nat) : List Int := (List.range j).map fun i => x + (i : Nat)
theorem ups_succ (x : Int) (j : Nat) : ups x (j + 1) = ups x j ++ [x + j] := by simp [ups, List.range_succ]
theorem ups_length (x : Int) (j : Nat) : (ups x j).length = j := by simp [ups]
/-- How many more a range has: in the formats 0, 1, 2 (of 0, 1, 2 bytes). -/
def moV (zs : List Int) (k : Nat) (bad : Bool) (f : Nat) : Int := if f = 0 then 0 else rdV zs k bad f
def moK (zs : List Int) (k : Nat) (bad : Bool) (f : Nat) : Nat := if f = 0 then k else rdK zs k bad f
def moB (zs : List Int) (k : Nat) (bad : Bool) (f : Nat) : Bool := if f = 0 then bad else rdB zs k bad f
def cs1 (zs : List Int) (f k : Nat) : Int := rdV zs k false 2
def csM (zs : List Int) (f k : Nat) : Int := moV zs (rdK zs k false 2) (rdB zs k false 2) f
def csK (zs : List Int) (f k : Nat) : Nat := moK zs (rdK zs k false 2) (rdB zs k false 2) f
def csB (zs : List Int) (f k : Nat) : Bool := moB zs (rdK zs k false 2) (rdB zs k false 2) f
/-- One range: the numbers so far, and the place behind it. -/
def csStep (zs : List Int) (f n : Nat) (l : List Int) (k : Nat) : Option (List Int × Nat) :=
  if csB zs f k = true ∨ 65535 < cs1 zs f k + csM zs f k ∨ (n : Int) - l.length ≤ csM zs f k then none
  else some (l ++ ups (cs1 zs f k) ((csM zs f k).toNat + 1), csK zs f k)
def csGo (zs : List Int) (f n : Nat) : Nat → List Int → Nat → Option (List Int)
  | 0, l, k => some l
  | m + 1, l, k => if l.length < n then (csStep zs f n l k).bind fun p => csGo zs f n m p.1 p.2 else some l
/-- What bytes are, as a charset of n glyphs. -/
def csLoad (zs : List Int) (n : Nat) : Option (List Int) :=
  if rdB zs 0 false 1 = true ∨ 2 < rdV zs 0 false 1 then none else csGo zs (rdV zs 0 false 1).toNat n n [0] (rdK zs 0 false 1)
/-- Where a load stands: what is still to come gives R. -/
def CsAt (zs : List Int) (f n : Nat) (R : Option (List Int)) (l : List Int) (k : Nat) : Prop :=
  k ≤ zs.length ∧ 1 ≤ l.length ∧ l.length ≤ n ∧ ∃ m, n ≤ l.length + m ∧ csGo zs f n m l k = R
theorem csAt_start (zs : List Int) (n : Nat) (hn : 1 ≤ n) (h : rdB zs 0 false 1 = false) (h2 : ¬ 2 < rdV zs 0 false 1) : CsAt zs (rdV zs 0 false 1).toNat n (csLoad zs n) [0] (rdK zs 0 false 1) :=
  ⟨rdK_le _ _ _ _ (Nat.zero_le _), by simp, by simpa using hn, n, by omega, by unfold csLoad; rw [if_neg (by simp [h, h2])]⟩
theorem csAt_end (zs : List Int) (f n : Nat) (R : Option (List Int)) (l : List Int) (k : Nat) (h : CsAt zs f n R l k) (hl : ¬ l.length < n) : R = some l := by
  obtain ⟨_, _, _, m, h2, rfl⟩ := h
  cases m with
  | zero => rfl
  | succ m => simp [csGo, hl]
theorem moK_le (zs : List Int) (k : Nat) (bad : Bool) (m : Nat) (h : k ≤ zs.length) : moK zs k bad m ≤ zs.length := by
  unfold moK; split; exact h; exact rdK_le _ _ _ _ h
theorem csAt_fail (zs : List Int) (f n : Nat) (R : Option (List Int)) (l : List Int) (k : Nat) (h : CsAt zs f n R l k) (hl : l.length < n)
    (hf : csB zs f k = true ∨ 65535 < cs1 zs f k + csM zs f k ∨ (n : Int) - l.length ≤ csM zs f k) : R = none := by
  obtain ⟨_, _, _, m, h2, rfl⟩ := h
  cases m with
  | zero => omega
  | succ m => simp [csGo, hl, csStep, hf]
theorem csAt_step (zs : List Int) (f n : Nat) (R : Option (List Int)) (l : List Int) (k : Nat) (h : CsAt zs f n R l k) (hl : l.length < n)
    (hf : ¬ (csB zs f k = true ∨ 65535 < cs1 zs f k + csM zs f k ∨ (n : Int) - l.length ≤ csM zs f k)) (h0 : 0 ≤ csM zs f k) :
    CsAt zs f n R (l ++ ups (cs1 zs f k) ((csM zs f k).toNat + 1)) (csK zs f k) := by
  obtain ⟨hk, h1, _, m, h2, rfl⟩ := h
  cases m with
  | zero => omega
  | succ m =>
    refine ⟨moK_le _ _ _ _ (rdK_le _ _ _ _ hk), by rw [List.length_append]; omega, ?_, m, ?_, ?_⟩
    · simp only [List.length_append, ups_length]; omega
    · simp only [List.length_append, ups_length]; omega
    · simp [csGo, hl, csStep, hf]
end Go.Proofs.Ythmokldmdcjklaa

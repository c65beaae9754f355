/- compose: number, places. -/
import Derived.Test.YtodjohoonbkklaaCpD
import Derived.Deep.RegionHeld3
namespace Go.Proofs.Ytodjohoonbkklaa
open Go.RowKit
set_option linter.unusedVariables false
set_option linter.unusedSimpArgs false
/-- What 'number' hands out at flags & 3 = X: a method bound to the reader, or a function that has captured a box of it. -/
def NumV (w : World) (r : Nat) (X : Int) (fv : Value) : Prop :=
  (X = 1 ∧ fv = .func (.func 95) #[.pointer (some ⟨r, 0, none⟩)] #[]) ∨ (X = 3 ∧ fv = .func (.func 52) #[.pointer (some ⟨r, 0, none⟩)] #[]) ∨ (X = 0 ∧ fv = .func (.func 140) #[.pointer (some ⟨r, 0, none⟩)] #[]) ∨
  (X = 2 ∧ ∃ B, fv = .func (.func 146) #[] #[.pointer (some ⟨B, 0, none⟩)] ∧ B ≠ r ∧ w.cell? ⟨B, 0, none⟩ = some (.pointer (some ⟨r, 0, none⟩)))
set_option maxRecDepth 100000 in
theorem number_kinds (r : Nat) (f : Int) (w : World) (hr : r < w.heap.size) : Calls Try.prog 112 #[.pointer (some ⟨r, 0, none⟩), .int .i64 f] w fun e w' => ∃ fv, e = .returned fv ∧ NumV w' r (f % 4) fv ∧ Kp [] w w' ∧ ∀ B g c, fv = .func g c #[.pointer (some ⟨B, 0, none⟩)] → w.heap.size ≤ B := by
  have hm := i64_and3 f
  have h0 : 0 ≤ f % 4 ∧ f % 4 < 4 := by omega
  have HR := Lib.hid hr
  generalize f % 4 = X at *
  rcases (show X = 0 ∨ X = 1 ∨ X = 2 ∨ X = 3 by omega) with rfl | rfl | rfl | rfl
  · clear h0 hr
    go_enter Try.func112, Try.ntmps112
    go_wp2_with fail
    go_ret
    exact ⟨_, rfl, .inr (.inr (.inl ⟨rfl, rfl⟩)), (Kp.refl _ _).alloc _, fun B g c e => by simp at e⟩
  · clear h0 hr
    go_enter Try.func112, Try.ntmps112
    go_wp2_with fail
    go_ret
    exact ⟨_, rfl, .inl ⟨rfl, rfl⟩, (Kp.refl _ _).alloc _, fun B g c e => by simp at e⟩
  · clear h0 hr
    go_enter Try.func112, Try.ntmps112
    go_wp2_with fail
    go_ret
    exact ⟨_, rfl, .inr (.inr (.inr ⟨rfl, w.heap.size, rfl, by have := HR.out; omega, by rw [cell_of_row _ w.heap.size 0 _ _ _ (heap_alloc_new w _)]; rfl⟩)), (Kp.refl _ _).alloc _, fun B g c e => by simp at e; obtain ⟨_, _, rfl⟩ := e; exact Nat.le_refl _⟩
  · clear h0 hr
    go_enter Try.func112, Try.ntmps112
    go_wp2_with fail
    go_ret
    exact ⟨_, rfl, .inr (.inl ⟨rfl, rfl⟩), (Kp.refl _ _).alloc _, fun B g c e => by simp at e⟩
/-- Slices of pointers into the block B, at these cells; laid at b0 or behind it. -/
def IsPl (b0 : Nat) (w : World) (v : Value) (B : Nat) (PL : List (List Nat)) : Prop :=
  (v = .slice none 0 0 ∧ PL = []) ∨ ∃ G, v = .slice (some ⟨G, 0, none⟩) PL.length PL.length ∧ b0 ≤ G ∧ ∀ j, j < PL.length → ∃ g, w.cell? ⟨G, j, none⟩ = some (.slice (some ⟨g, 0, none⟩) (PL.getD j []).length (PL.getD j []).length) ∧ b0 ≤ g ∧ ∀ i, i < (PL.getD j []).length → w.cell? ⟨g, i, none⟩ = some (.pointer (some ⟨B, (PL.getD j []).getD i 0, none⟩))
theorem IsPl.kp {S : List Nat} {b0 : Nat} {w w' : World} {v : Value} {B : Nat} {PL : List (List Nat)} (h : IsPl b0 w v B PL) (hk : Kp S w w') (hS : ∀ t ∈ S, t < b0) : IsPl b0 w' v B PL := by
  rcases h with h | ⟨G, rfl, hG, h⟩
  · exact .inl h
  · refine .inr ⟨G, rfl, hG, fun j hj => ?_⟩
    obtain ⟨g, h1, h2, h3⟩ := h j hj
    exact ⟨g, hk.cell h1 (fun ht => by have := hS _ ht; simp at this; omega), h2, fun i hi => hk.cell (h3 i hi) (fun ht => by have := hS _ ht; simp at this; omega)⟩
theorem IsPl.form {b0 : Nat} {w : World} {v : Value} {B : Nat} {PL : List (List Nat)} (h : IsPl b0 w v B PL) : ∃ p, v = .slice p PL.length PL.length := by
  rcases h with ⟨rfl, rfl⟩ | ⟨G, rfl, _⟩
  · exact ⟨_, rfl⟩
  · exact ⟨_, rfl⟩
def plM (Y : Int) : List (List Nat) := if Y = 8 then [[1, 4]] else if Y = 64 then [[1], [4]] else if Y = 128 then [[1], [2], [3], [4]] else []
def okM (Y : Int) : Bool := decide (Y = 0) || decide (Y = 8) || decide (Y = 64) || decide (Y = 128)
end Go.Proofs.Ytodjohoonbkklaa

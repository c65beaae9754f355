/- seriflaw06.stands; the reference's LoadPlaces. -/
import Derived.Test.YthmokldmdcjklaaMtK
import Derived.Test.YthmokldmdcjklaaWireC
namespace Go.Proofs.Ythmokldmdcjklaa
open Go.RowKit
set_option linter.unusedVariables false
set_option linter.unusedSimpArgs false
set_option maxRecDepth 100000 in
theorem stands_calls (q : Nat) (v : Value) (A : List Int) (glyph : Int) (w : World) (h : IsPl w q A) (hv : IsInts .i64 w v A) (h1 : 1 ≤ A.length) (hl : A.length ≤ 70000) :
    Calls Try.prog 37 #[.pointer (some ⟨q, 0, none⟩), v, .int .i64 glyph] w fun e w' => e = .returned (.bool true) ∧ Kp [] w w' := by
  have HP : Hid (IsPl w q A) := h
  rcases hv with ⟨⟨ad, rfl⟩, rfl⟩ | ⟨g, off, c, rfl, p1, p2, p3⟩
  · simp at h1
  have HC : Hid _ := p3
  have hI : (A.length : Int) ≤ 70000 := by omega
  clear p3 h
  go_enter Try.func37, Try.ntmps37
  go_wp2_with fail
  refine (pllen_calls q A _ HP.out hl).mono ?_; rintro e w' ⟨rfl, rfl⟩
  go_wp2_with fail
  go_loopw [7, 8, 9, 10] (fun i _ _ _ wr => ∃ j : Nat, j + 1 ≤ A.length ∧ i = .int .i64 j ∧ Kp [] w' wr) (fun i _ _ _ _ => A.length - (intOf i).toNat)
  case atStart => exact ⟨0, by omega, rfl, Kp.refl _ _⟩
  case round =>
    obtain ⟨j, hj, rfl, hk⟩ := hrel
    by_cases hlt : j + 1 < A.length
    · have hlt' : (j : Int) < (A.length : Int) - 1 := by omega
      have c1 := hk.cell (HC.out j (by omega)) (by simp)
      have c2 := hk.cell (HC.out (j + 1) hlt) (by simp)
      have hcl := Lib.hid (plat_in q A j wr (HP.out.kp hk) hl hlt)
      have hT : ((j : Int) + 1).toNat = j + 1 := by omega
      have hB1 : (j : Int) < A.length := by omega
      have hB2 : (j : Int) + 1 < A.length := by omega
      generalize A.getD j 0 = x at *
      generalize A.getD (j + 1) 0 = y at *
      go_wp2_with fail
      refine Calls.mono hcl.out ?_; rintro e w3 ⟨rfl, hk3⟩
      have d1 := hk3.cell c1 (by simp)
      have d2 := hk3.cell c2 (by simp)
      clear hcl c1 c2
      go_wp2_with fail
      go_roundw
      case rel => first | exact ⟨j + 1, by omega, int_eq' (by omega), hk.trans hk3⟩ | ((repeat apply Exists.intro); exact ⟨⟨j + 1, by omega, int_eq' (by omega), hk.trans hk3⟩, rfl⟩)
      case measure => simp [intOf]; omega
    · have hlt' : ¬ (j : Int) < (A.length : Int) - 1 := by omega
      by_cases h0 : 0 ≤ glyph
      · by_cases h9 : glyph < (A.length : Int) - 1
        · obtain ⟨gn, rfl⟩ : ∃ gn : Nat, glyph = gn := ⟨glyph.toNat, by omega⟩
          go_wp2_with fail
          refine (plat_in q A gn wr (HP.out.kp hk) hl (by omega)).mono ?_; rintro e w3 ⟨rfl, hk3⟩
          generalize A.getD gn 0 = x at *
          generalize A.getD (gn + 1) 0 = y at *
          go_wp2_with fail
          go_ret
          exact ⟨by first | rfl | simp, hk.trans hk3⟩
        · have h9' : decide (glyph < (A.length : Int) - 1) = false := decide_eq_false h9
          go_wp2_with fail
          refine (plat_out q A glyph wr (HP.out.kp hk) hl (by omega)).mono ?_; rintro e w3 ⟨rfl, hk3⟩
          go_wp2_with fail
          go_ret
          exact ⟨by first | rfl | simp, hk.trans hk3⟩
      · have h0' : decide (0 ≤ glyph) = false := decide_eq_false h0
        go_wp2_with fail
        refine (plat_out q A glyph wr (HP.out.kp hk) hl (by omega)).mono ?_; rintro e w3 ⟨rfl, hk3⟩
        go_wp2_with fail
        go_ret
        exact ⟨by first | rfl | simp, hk.trans hk3⟩
/-- Where the reference's load of places stands in memory. -/
def RPlSt (w wr : World) (r : Nat) (v : Value) (zs : List Int) (k : Nat) (bad : Bool) (l : List Int) (v9 : Value) : Prop :=
  wr.ownsRow (r + 1) 3 1 v9 l.length (l.map (Value.int .i64)) ∧ Rrd wr r v k bad ∧ IsInts .u8 wr v zs ∧ Kp [] w wr ∧ r + 1 ≤ wr.heap.size ∧ w.heap.size = r ∧ (∀ b, blockOf v = some b → b < r)
theorem RPlSt.app {w wr w2 : World} {r : Nat} {v : Value} {zs : List Int} {k : Nat} {bad : Bool} {l : List Int} {v9 v' : Value} {x : Int} {o : Obj} (h : RPlSt w wr r v zs k bad l v9)
    (hown : w2.ownsRow (r + 1) 3 1 v' (l.length + 1) (l.map (Value.int .i64) ++ [.int .i64 x])) (hg : (wr.alloc o).grownBy w2 v9.ownBlock) : RPlSt w w2 r v zs k bad (l ++ [x]) v' := by
  obtain ⟨h1, h2, h3, h4, h5, h6, h7⟩ := h
  have hge := own_ge h1
  have hk : Kp [] w w2 := Kp.grown (h4.alloc o) hg (fun k hk => .inr (by have := hge k hk; omega))
  have hk2 : Kp (v9.ownBlock.toList) wr w2 := Kp.grown ((Kp.refl _ _).alloc o) hg (fun k hk => .inl (by rw [hk]; simp))
  have hall : ∀ s ∈ v9.ownBlock.toList, r + 1 ≤ s := by
    intro s hs; cases hv : v9.ownBlock with
    | none => simp [hv] at hs
    | some b => simp [hv] at hs; subst hs; exact hge _ hv
  exact ⟨by simpa using hown, h2.kp hk2 (fun hm => by have := hall _ hm; omega), h3.kp hk2 (fun s hs e => by have := hall s hs; have := h7 _ e; omega), hk, Nat.le_trans h5 hk2.size, h6, h7⟩
theorem RPlSt.rkp {w wr w2 : World} {r : Nat} {v : Value} {zs : List Int} {k k2 : Nat} {bad bad2 : Bool} {l : List Int} {v9 : Value} (h : RPlSt w wr r v zs k bad l v9) (hk : Kp [r] wr w2) (hr : Rrd w2 r v k2 bad2) : RPlSt w w2 r v zs k2 bad2 l v9 := by
  obtain ⟨h1, h2, h3, h4, h5, h6, h7⟩ := h
  exact ⟨hk.row h1 (fun s hs e => by simp at hs; subst hs; have := own_ge h1 _ e; omega), hr, h3.kp hk (fun s hs e => by simp at hs; subst hs; have := h7 _ e; omega), h4.trans' hk (fun t ht => .inr (by simp at ht; omega)), Nat.le_trans h5 hk.size, h6, h7⟩
/-- What the reference's load of places hands back. -/
def RPlD (R : Option (List Int)) (w : World) (e : Ending) (w' : World) : Prop :=
  (R = none ∧ ∃ v, e = .returned (.tuple #[v, .bool false]) ∧ Kp [] w w') ∨
  (∃ l v, R = some l ∧ e = .returned (.tuple #[v, .bool true]) ∧ IsInts .i64 w' v l ∧ Kp [] w w')
end Go.Proofs.Ythmokldmdcjklaa

/- The walk of lives, chapter 16. -/
import Derived.Test.YthmokldmdcjklaaChL
import Derived.Test.YthmokldmdcjklaaChK
import Derived.Test.YthmokldmdcjklaaChC
import Derived.Test.YthmokldmdcjklaaStr
import Derived.Lib.Hide

namespace Go.Proofs.Ythmokldmdcjklaa
open Go.RowKit
set_option linter.unusedVariables false
set_option linter.unusedSimpArgs false
theorem ints_lit (k : IntKind) (w : World) (zs : List Int) (n : Nat) (e : TypeId) (cs : Array Value) (hcs : cs = (zs.map (Value.int k)).toArray) (m : Nat) (hm : m = zs.length) (hn : n = w.heap.size) (hl : zs.length ≤ maxLen) : IsInts k (w.alloc (.cells cs e)) (.slice (some ⟨n, 0, none⟩) m m) zs := by
  subst hcs hm
  refine IsInts.owned (base := 0) (e := e) (n := zs.length) ?_
  have := own_lit w n 0 e 1 zs.length (zs.map (Value.int k)).toArray hn (Nat.zero_le _) hl (by simp)
  simpa using this
theorem sp1 : csPut [0, 5, 6, 7] 1 = [1, 0, 5, 2] := by decide
theorem sp2 : csLoad [1, 0, 5, 2] 4 = some [0, 5, 6, 7] := by decide
theorem sp3 : csPutSel [0, 0, 1] 3 = [3, 0, 2, 0, 0, 0, 0, 2, 1, 0, 3] := by decide
theorem sp4 : csSel [3, 0, 2, 0, 0, 0, 0, 2, 1, 0, 3] 3 2 = some [0, 0, 1] := by decide
theorem sp5 : csLoad [3] 1 = none := by decide
theorem sp6 : toStr [1, 0, 5, 2] = ⟨#[1, 0, 5, 2]⟩ := by decide
set_option maxRecDepth 100000 in
set_option maxHeartbeats 4000000 in
theorem lives16_calls (w : World) : Calls Try.prog 12 #[] w fun e w' => e = .returned (.bool true) ∧ Kp [] w w' := by
  go_enter Try.func12, Try.ntmps12
  go_wp2_with fail
  refine (put_calls (.slice (some ⟨w.heap.size, 0, none⟩) 4 4) [0, 5, 6, 7] 1 _ (by decide) (ints_lit .i64 w [0, 5, 6, 7] _ 3 _ rfl 4 rfl rfl (by decide)) (by intro b hb; simp at hb; simp; omega)).mono ?_
  rintro e w1 (⟨h, _⟩ | ⟨l1, v1, h1, rfl, hi1, hk1, hb1⟩)
  · simp at h
  rw [show (1 : Int).toNat = 1 from rfl, sp1] at h1
  obtain rfl := Option.some.inj h1
  clear h1
  have hkA : Kp [] w w1 := ((Kp.refl _ _).alloc _).trans hk1
  have hlt1 : ∀ b, blockOf v1 = some b → b < w1.heap.size := by
    intro b hb
    rcases hi1 with ⟨⟨ad, rfl⟩, _⟩ | ⟨g, off, c, rfl, _, _, h3⟩
    · simp at hb
    · have := World.block_lt_of_cell? w1 _ (h3 0 (by decide)); simp at hb; obtain ⟨_, rfl⟩ := hb; exact this
  have HI1 := Lib.hid hi1
  have HL1 := Lib.hid hlt1
  clear hb1 hk1 hlt1 hi1
  go_wp2_with fail
  refine (load_calls v1 [1, 0, 5, 2] 4 (by decide) (by decide) _ HI1.out (by decide) HL1.out).mono ?_
  rintro e w2 (⟨h, _⟩ | ⟨l2, v2, h2, rfl, hi2, hk2, hb2⟩)
  · rw [sp2] at h; simp at h
  rw [sp2] at h2
  obtain rfl := Option.some.inj h2
  clear h2 hb2
  have HI2 := Lib.hid hi2
  clear hi2
  go_wp2_with fail
  refine (putsel_3 w2.heap.size 0 3 [0, 0, 1] 2 _ (by decide) (by decide) (ints_lit .i64 w2 [0, 0, 1] _ 3 _ rfl 3 rfl rfl (by decide)) (by decide) (by decide) (by decide) (by decide) (by decide : [0, 0, 1].all (inB (2 - 1)) = true) (by simp)).mono ?_
  rintro e w3 (⟨h, _⟩ | ⟨l3, v3, h3, rfl, hi3, hk3, hb3⟩)
  · simp at h
  rw [sp3] at h3
  obtain rfl := Option.some.inj h3
  clear h3 hb3
  have hkB : Kp [] w2 w3 := ((Kp.refl _ _).alloc _).trans hk3
  have hlt3 : ∀ b, blockOf v3 = some b → b < w3.heap.size := by
    intro b hb
    rcases hi3 with ⟨⟨ad, rfl⟩, _⟩ | ⟨g, off, c, rfl, _, _, h3⟩
    · simp at hb
    · have := World.block_lt_of_cell? w3 _ (h3 0 (by decide)); simp at hb; obtain ⟨_, rfl⟩ := hb; exact this
  have HI3 := Lib.hid hi3
  have HL3 := Lib.hid hlt3
  clear hlt3 hi3 hk3
  go_wp2_with fail
  refine (select_calls v3 [3, 0, 2, 0, 0, 0, 0, 2, 1, 0, 3] 3 2 (by decide) (by decide) (by decide) (by decide) _ HI3.out (by decide) HL3.out).mono ?_
  rintro e w4 (⟨h, _⟩ | ⟨l4, v4, h4, rfl, hi4, hk4, hb4⟩)
  · rw [sp4] at h; simp at h
  rw [sp4] at h4
  obtain rfl := Option.some.inj h4
  clear h4 hb4
  have HI4 := Lib.hid hi4
  clear hi4
  go_wp2_with fail
  refine (load_calls (.slice (some ⟨w4.heap.size, 0, none⟩) 1 1) [3] 1 (by decide) (by decide) _ (ints_lit .u8 w4 [3] _ 5 _ rfl 1 rfl rfl (by decide)) (by decide) (by intro b hb; simp at hb; simp; omega)).mono ?_
  rintro e w5 (⟨_, rfl, hk5⟩ | ⟨l5, v5, h5, _⟩)
  rotate_left
  · rw [sp5] at h5; simp at h5
  have hkC : Kp [] w4 w5 := ((Kp.refl _ _).alloc _).trans hk5
  clear hk5
  have hk25 : Kp [] w2 w5 := (hkB.trans hk4).trans hkC
  have hi25 := HI2.out.kp hk25 (by simp)
  go_wp2_with fail
  refine (find_calls v2 [0, 5, 6, 7] 7 _ hi25).mono ?_; rintro e w' ⟨rfl, rfl⟩
  rw [show findV (firstFrom 7 [0, 5, 6, 7] 0) = 3 by decide, show findE (firstFrom 7 [0, 5, 6, 7] 0) = 0 by decide]
  go_wp2_with fail
  refine (find_calls v2 [0, 5, 6, 7] 8 _ hi25).mono ?_; rintro e w' ⟨rfl, rfl⟩
  rw [show findV (firstFrom 8 [0, 5, 6, 7] 0) = 0 by decide, show findE (firstFrom 8 [0, 5, 6, 7] 0) = 4 by decide]
  have hs1 := run_str v1 _ _ (HI1.out.kp (hk2.trans hk25) (by simp))
  have hs3 := run_str v3 _ _ (HI3.out.kp (hk4.trans hkC) (by simp))
  rw [sp6] at hs1
  rw [show toStr [3, 0, 2, 0, 0, 0, 0, 2, 1, 0, 3] = ⟨#[3, 0, 2, 0, 0, 0, 0, 2, 1, 0, 3]⟩ by decide] at hs3
  have hi45 := HI4.out.kp hkC (by simp)
  rcases hi25 with ⟨_, h0⟩ | ⟨ga, oa, ca, rfl, a1, a2, a3⟩
  · simp at h0
  rcases hi45 with ⟨_, h0⟩ | ⟨gb, ob, cb, rfl, b1, b2, b3⟩
  · simp at h0
  have ca3 := a3 3 (by decide)
  have cb2 := b3 2 (by decide)
  rw [show ([0, 5, 6, 7] : List Int).getD 3 0 = 7 from rfl] at ca3
  rw [show ([0, 0, 1] : List Int).getD 2 0 = 1 from rfl] at cb2
  have hfin : Hid (Kp [] w w5) := (hkA.trans hk2).trans hk25
  clear a3 b3 hkA hkB hkC hk2 hk4 hk25 HI1 HL1 HI2 HI3 HL3 HI4
  go_wp2_with fail
  go_ret
  exact ⟨by simp, hfin.out⟩
end Go.Proofs.Ythmokldmdcjklaa

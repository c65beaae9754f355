/- seriflaw06.lives; the walk of the statement MetricNobody. -/
import Derived.Test.YthmokldmdcjklaaMtC
import Derived.Test.YthmokldmdcjklaaMtF
import Derived.Test.YthmokldmdcjklaaMtH
import Derived.Test.YthmokldmdcjklaaMtK
namespace Go.Proofs.Ythmokldmdcjklaa
open Go.RowKit
set_option linter.unusedVariables false
set_option linter.unusedSimpArgs false
theorem lp1 : metPre [(500, 10), (500, -20)] 1 2 = [1, 244, 0, 10, 255, 236] := by decide
theorem lp2 : advsL [1, 244, 0, 10, 255, 236] 1 2 = [500] := by decide
theorem lp3 : bearsL [1, 244, 0, 10, 255, 236] 1 2 = [10, -20] := by decide
theorem lp4 : plPre [0, 10, 10] false 3 = [0, 0, 0, 5, 0, 5] := by decide
theorem lp5 : plLoad [0, 0, 0, 5, 0, 5] 2 false 10 = some [0, 10, 10] := by decide
theorem IsInts.block_lt {k : IntKind} {w : World} {v : Value} {zs : List Int} (h : IsInts k w v zs) (h0 : 0 < zs.length) : ∀ b, blockOf v = some b → b < w.heap.size := by
  intro b hb
  rcases h with ⟨⟨ad, rfl⟩, rfl⟩ | ⟨g, off, c, rfl, _, _, h3⟩
  · simp at hb
  · have := World.block_lt_of_cell? w _ (h3 0 h0)
    obtain ⟨_, rfl⟩ := (blockOf_some _ _ _ _ _ _).1 hb
    exact this
set_option maxRecDepth 100000 in
set_option maxHeartbeats 2000000 in
theorem lives06_calls (w : World) : Calls Try.prog 26 #[] w fun e w' => e = .returned (.bool true) ∧ Kp [] w w' := by
  go_enter Try.func26, Try.ntmps26
  go_wp2_with fail
  refine (metput_calls (.slice (some ⟨w.heap.size, 0, none⟩) 2 2) [(500, 10), (500, -20)] 1 _ (by decide) (Reads.made w _ 2 2 (pairCells [(500, 10), (500, -20)]) _ rfl rfl (by decide))).mono ?_
  rintro e w1 ⟨v1, rfl, hi1, hk1, hb1⟩
  rw [show (1 : Int).toNat = 1 from rfl, show ([(500, 10), (500, -20)] : List (Int × Int)).length = 2 from rfl, lp1] at hi1
  have hkA : Kp [] w w1 := ((Kp.refl _ _).alloc _).trans hk1
  have hlt1 := Lib.hid (hi1.block_lt (by decide))
  obtain ⟨p1, c1, hv1⟩ : ∃ p c, v1 = .slice p 6 c := by
    rcases hi1 with ⟨⟨ad, rfl⟩, h⟩ | ⟨g, off, c, rfl, _⟩
    · cases h
    · exact ⟨_, c, rfl⟩
  subst hv1
  have HI1 := Lib.hid hi1
  clear hb1 hk1 hi1
  go_wp2_with fail
  refine (metload_calls _ [1, 244, 0, 10, 255, 236] 2 1 (by decide) (by decide) (by decide) _ HI1.out (by decide) hlt1.out).mono ?_
  rintro e w2 (⟨h, _⟩ | ⟨_, q, rfl, hm2, hk2⟩)
  · exact absurd h (by decide)
  rw [lp2, lp3] at hm2
  have HM2 := Lib.hid hm2
  have hkB : Kp [] w w2 := hkA.trans hk2
  clear hm2 hk2 hkA
  go_wp2_with fail
  have hown3 : IsInts .i64 (w2.alloc (.cells #[.int .i64 0, .int .i64 10, .int .i64 10] 3)) (.slice (some ⟨w2.heap.size, 0, none⟩) 3 3) [0, 10, 10] :=
    IsInts.owned (own_lit w2 w2.heap.size w2.heap.size 3 1 3 #[.int .i64 0, .int .i64 10, .int .i64 10] rfl (Nat.le_refl _) (by decide) rfl)
  refine (putplaces_calls _ [0, 10, 10] false _ (by decide) hown3).mono ?_
  rintro e w3 ⟨v3, rfl, hi3, hk3, hb3⟩
  rw [show ([0, 10, 10] : List Int).length = 3 from rfl, lp4] at hi3
  have hkC : Kp [] w2 w3 := ((Kp.refl _ _).alloc _).trans hk3
  have hlt3 := Lib.hid (hi3.block_lt (by decide))
  obtain ⟨p3, c3, hv3⟩ : ∃ p c, v3 = .slice p 6 c := by
    rcases hi3 with ⟨⟨ad, rfl⟩, h⟩ | ⟨g, off, c, rfl, _⟩
    · cases h
    · exact ⟨_, c, rfl⟩
  subst hv3
  have HI3 := Lib.hid hi3
  clear hb3 hk3 hi3 hown3
  go_wp2_with fail
  refine (plload_calls _ [0, 0, 0, 5, 0, 5] 2 false 10 (by decide) (by decide) (by decide) (by decide) _ HI3.out (by decide) hlt3.out).mono ?_
  rintro e w4 (⟨h, _⟩ | ⟨l, q4, hl, rfl, hp4, hk4⟩)
  · rw [lp5] at h; cases h
  rw [lp5] at hl
  obtain rfl := Option.some.inj hl
  have HP4 := Lib.hid hp4
  have hkD : Kp [] w w4 := hkB.trans (hkC.trans hk4)
  have HM4 := Lib.hid (HM2.out.kp (hkC.trans hk4))
  clear hl hp4 hk4 hkB hkC HM2 HI1 HI3 hlt1 hlt3
  go_wp2_with fail
  refine (metat_in q [500] [10, -20] 1 _ HM4.out (by decide) (by decide) (by decide)).mono ?_
  rintro e w5 ⟨rfl, hk5⟩
  rw [show ([500] : List Int).getD (min 1 (([500] : List Int).length - 1)) 0 = 500 from rfl, show ([10, -20] : List Int).getD 1 0 = -20 from rfl]
  have hk05 := hkD.trans hk5
  go_wp2_with fail
  have hk6 : Kp [] w5 (w5.alloc (.cells #[.int .i64 500, .int .i64 (-20)] 68)) := (Kp.refl _ _).alloc _
  refine (plat_in q4 [0, 10, 10] 0 _ (HP4.out.kp (hk5.trans hk6)) (by decide) (by decide)).mono ?_
  rintro e w7 ⟨rfl, hk7⟩
  rw [show ([0, 10, 10] : List Int).getD 0 0 = 0 from rfl, show ([0, 10, 10] : List Int).getD (0 + 1) 0 = 10 from rfl]
  go_wp2_with fail
  refine (plat_out q4 [0, 10, 10] 2 _ (HP4.out.kp ((hk5.trans hk6).trans hk7)) (by decide) (by decide)).mono ?_
  rintro e w8 ⟨rfl, hk8⟩
  have hk57 := ((hk5.trans hk6).trans hk7).trans hk8
  have hcb : w8.cell? ⟨w5.heap.size, 0, none⟩ = some (.int .i64 500) ∧ w8.cell? ⟨w5.heap.size, 1, none⟩ = some (.int .i64 (-20)) :=
    ⟨(hk7.trans hk8).cell (by go_simp) (by simp), (hk7.trans hk8).cell (by go_simp) (by simp)⟩
  obtain ⟨hcb1, hcb2⟩ := hcb
  have hfin : Hid (Kp [] w w8) := hkD.trans hk57
  go_wp2_with fail
  refine (metlen_calls q [500] [10, -20] _ (HM4.out.kp hk57)).mono ?_
  rintro e w9 ⟨rfl, rfl⟩
  go_wp2_with fail
  refine (pllen_calls q4 [0, 10, 10] _ (HP4.out.kp hk57) (by decide)).mono ?_
  rintro e w9 ⟨rfl, rfl⟩
  go_wp2_with fail
  go_ret
  exact ⟨by first | rfl | simp, hfin.out⟩
end Go.Proofs.Ythmokldmdcjklaa

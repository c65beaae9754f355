/- simple: lives. -/
import Derived.Test.YtodjohoonbkklaaSiR
import Derived.Test.YtodjohoonbkklaaOmA
import Derived.Deep.DeepCutAuto
namespace Go.Proofs.Ytodjohoonbkklaa
open Go.RowKit
set_option linter.unusedVariables false
set_option linter.unusedSimpArgs false
theorem IsInts.litT {w W : World} (k : IntKind) (e : TypeId) (zs : List Int) (hk : Kp [] (w.alloc (.cells (zs.map (Value.int k)).toArray e)) W) (g n : Nat) (hg : g = w.heap.size) (hn : n = zs.length) (hl : n ≤ maxLen) : IsInts k W (.slice (some ⟨g, 0, none⟩) n n) zs := by
  subst hg; subst hn
  refine .inr ⟨_, 0, _, rfl, Nat.le_refl _, hl, fun i hi => ?_⟩
  rw [cell_of_row _ w.heap.size _ _ _ _ (hk.heap (heap_alloc_new w _) (by simp))]
  simp [List.getD_eq_getElem?_getD, List.getElem?_eq_getElem hi]
theorem ints_lt {k : IntKind} {w : World} {v : Value} {zs : List Int} (h : IsInts k w v zs) (h0 : 0 < zs.length) : ∀ b, blockOf v = some b → b < w.heap.size := by
  rcases h with ⟨⟨a, e⟩, rfl⟩ | ⟨g, off, c, rfl, h2, h3, h4⟩
  · simp at h0
  · intro b hb
    have h := World.block_lt_of_cell? w _ (h4 0 h0)
    have hb2 := ((blockOf_some _ _ _ _ _ _).1 hb).2
    subst hb2
    exact h
theorem tri_small : smallO triO := by
  intro j hj
  obtain rfl : j = 0 := by simpa [triO] using hj
  decide
set_option maxRecDepth 100000 in
set_option maxHeartbeats 4000000 in
theorem lives11_calls (w : World) : Calls Try.prog 45 #[] w fun e w' => e = .returned (.bool true) ∧ Kp [] w w' := by
  go_enter Try.func45, Try.ntmps45
  go_wp2_with fail
  refine (triangle_calls _).mono ?_; rintro e w1 ⟨v1, rfl, ho1, hk1⟩
  obtain ⟨p1, c1, rfl⟩ := ho1.form
  have HO := Lib.hid ho1
  have HK1 := Lib.hid hk1
  simp only [show triO.length = 1 from rfl] at *
  have HE := Lib.hid (sencode_calls _ triO w1 HO.out tri_small (by decide))
  rw [tri_enc] at HE
  clear ho1 hk1
  go_wp2_with fail
  refine HE.out.mono ?_; rintro e w2 ⟨v2, rfl, hi2, hk2, hb2⟩
  obtain ⟨p2, c2, rfl⟩ := hi2.form
  have HI2 : Hid (∀ W, Kp [] w2 W → IsInts .u8 W (.slice p2 20 c2) triB) := fun W hW => hi2.kp0 hW
  have HK2 := Lib.hid hk2
  have HL2 : Hid (∀ W, Kp [] w2 W → ∀ b, blockOf (.slice p2 20 c2) = some b → b < W.heap.size) := fun W hW => ints_lt (HI2.out W hW) (by decide)
  simp only [show ((triB, (0 : Int)).1 : List Int).length = 20 from rfl, show ((triB, (0 : Int)).2 : Int) = 0 from rfl]
  clear hi2 hk2 hb2 HE
  go_wp2_with fail
  refine (decode_calls (HI2.out _ (by (repeat (first | exact Kp.refl _ _ | assumption | refine Kp.drew ?_ | refine Kp.drewN ?_ _ | refine Kp.alloc ?_ _ | (refine Kp.setCell ?_ (by first | (left; simp; done) | (right; simp; try omega)) _) | (refine Kp.trans' ?_ (by assumption) (by simp; try omega)))))) tri_byte (HL2.out _ (by (repeat (first | exact Kp.refl _ _ | assumption | refine Kp.drew ?_ | refine Kp.drewN ?_ _ | refine Kp.alloc ?_ _ | (refine Kp.setCell ?_ (by first | (left; simp; done) | (right; simp; try omega)) _) | (refine Kp.trans' ?_ (by assumption) (by simp; try omega))))))).mono ?_; rintro e w3 ⟨v3, rfl, ho3, hk3⟩
  rw [tri_dec] at ho3
  rw [show (decS triB).2 = 0 by rw [tri_dec]]
  obtain ⟨p3, c3, rfl⟩ := ho3.form
  have HO3 : Hid (∀ W, Kp [] w3 W → IsOut W (.slice p3 1 c3) triO) := fun W hW => ho3.kp0 hW
  have HK3 : Hid (Kp [] w2 w3) := Kp.trans (by (repeat (first | exact Kp.refl _ _ | assumption | refine Kp.drew ?_ | refine Kp.drewN ?_ _ | refine Kp.alloc ?_ _ | (refine Kp.setCell ?_ (by first | (left; simp; done) | (right; simp; try omega)) _) | (refine Kp.trans' ?_ (by assumption) (by simp; try omega))))) hk3
  simp only [show ((triO, (0 : Int)).1 : List (List Pn)).length = 1 from rfl] at *
  clear ho3 hk3
  go_wp2_with fail
  refine (decode_calls (zs := [0, 1, 0]) (IsInts.litT .u8 5 [0, 1, 0] (w := w3) (Kp.refl _ _) _ _ (by simp) rfl (by decide)) (by decide) (by intro b hb; simp at hb; simp; omega)).mono ?_; rintro e w4 ⟨v4, rfl, ho4, hk4⟩
  rw [cut_dec]
  have HK4 : Hid (Kp [] w3 w4) := Kp.trans (by (repeat (first | exact Kp.refl _ _ | assumption | refine Kp.drew ?_ | refine Kp.drewN ?_ _ | refine Kp.alloc ?_ _ | (refine Kp.setCell ?_ (by first | (left; simp; done) | (right; simp; try omega)) _) | (refine Kp.trans' ?_ (by assumption) (by simp; try omega))))) hk4
  obtain ⟨p4, c4, rfl⟩ := ho4.form
  clear ho4 hk4
  go_wp2_with fail
  refine (triangle_calls _).mono ?_; rintro e w5 ⟨v5, rfl, ho5, hk5⟩
  have HO5 := Lib.hid ho5
  have HK5 : Hid (Kp [] w4 w5) := Kp.trans (by (repeat (first | exact Kp.refl _ _ | assumption | refine Kp.drew ?_ | refine Kp.drewN ?_ _ | refine Kp.alloc ?_ _ | (refine Kp.setCell ?_ (by first | (left; simp; done) | (right; simp; try omega)) _) | (refine Kp.trans' ?_ (by assumption) (by simp; try omega))))) hk5
  obtain ⟨p5, c5, rfl⟩ := ho5.form
  clear ho5 hk5
  simp only [show triO.length = 1 from rfl] at *
  go_wp2_with fail
  refine (rsame_calls _ _ triO triO _ (HO3.out _ (HK4.out.trans HK5.out)) (HO5.out)).mono ?_; rintro e w6 ⟨rfl, hk6⟩
  have HK6 : Hid (Kp [] w5 w6) := hk6
  rw [decide_eq_true (rfl : triO = triO)]
  clear hk6
  have HK26 : Hid (Kp [] w2 w6) := HK3.out.trans (HK4.out.trans (HK5.out.trans HK6.out))
  go_wp2_with fail
  refine (kind_calls _ triB _ (HI2.out _ (by first | exact HK26.out | (repeat (first | exact Kp.refl _ _ | assumption | refine Kp.drew ?_ | refine Kp.drewN ?_ _ | refine Kp.alloc ?_ _ | (refine Kp.setCell ?_ (by first | (left; simp; done) | (right; simp; try omega)) _) | (refine Kp.trans' ?_ (by assumption) (by simp; try omega))))))).mono ?_; rintro e w7 ⟨rfl, hk7⟩
  rw [tri_kind]
  have HK7 : Hid (Kp [] w6 w7) := Kp.trans (by (repeat (first | exact Kp.refl _ _ | assumption | refine Kp.drew ?_ | refine Kp.drewN ?_ _ | refine Kp.alloc ?_ _ | (refine Kp.setCell ?_ (by first | (left; simp; done) | (right; simp; try omega)) _) | (refine Kp.trans' ?_ (by assumption) (by simp; try omega))))) hk7
  clear hk7
  go_wp2_with fail
  refine (kind_calls _ [255, 255] _ (IsInts.litT .u8 5 [255, 255] (w := w7) (Kp.refl _ _) _ _ (by simp) rfl (by decide))).mono ?_; rintro e w8 ⟨rfl, hk8⟩
  rw [ff_kind]
  have HK8 : Hid (Kp [] w7 w8) := Kp.trans (by (repeat (first | exact Kp.refl _ _ | assumption | refine Kp.drew ?_ | refine Kp.drewN ?_ _ | refine Kp.alloc ?_ _ | (refine Kp.setCell ?_ (by first | (left; simp; done) | (right; simp; try omega)) _) | (refine Kp.trans' ?_ (by assumption) (by simp; try omega))))) hk8
  clear hk8
  go_wp2_with fail
  refine (kind_calls _ [] _ (IsInts.nil _ _)).mono ?_; rintro e w9 ⟨rfl, hk9⟩
  rw [nil_kind]
  have HKF : Hid (Kp [] w w9) := HK1.out.trans (HK2.out.trans (HK26.out.trans (HK7.out.trans (HK8.out.trans (Kp.trans (by (repeat (first | exact Kp.refl _ _ | assumption | refine Kp.drew ?_ | refine Kp.drewN ?_ _ | refine Kp.alloc ?_ _ | (refine Kp.setCell ?_ (by first | (left; simp; done) | (right; simp; try omega)) _) | (refine Kp.trans' ?_ (by assumption) (by simp; try omega))))) hk9)))))
  clear hk9
  go_wp2_with fail
  go_ret
  exact ⟨rfl, Kp.trans HKF.out (by (repeat (first | exact Kp.refl _ _ | assumption | refine Kp.drew ?_ | refine Kp.drewN ?_ _ | refine Kp.alloc ?_ _ | (refine Kp.setCell ?_ (by first | (left; simp; done) | (right; simp; try omega)) _) | (refine Kp.trans' ?_ (by assumption) (by simp; try omega)))))⟩
end Go.Proofs.Ytodjohoonbkklaa

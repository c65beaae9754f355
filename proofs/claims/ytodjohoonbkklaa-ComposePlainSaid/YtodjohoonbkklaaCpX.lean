/- The walks of the statements ComposeDecodes and ComposePlain. -/
import Derived.Test.YtodjohoonbkklaaCpW
import Derived.Test.YtodjohoonbkklaaStr
namespace Go.Proofs.Ytodjohoonbkklaa
open Go.RowKit
set_option linter.unusedVariables false
set_option linter.unusedSimpArgs false
set_option maxRecDepth 100000 in
set_option maxHeartbeats 4000000 in
theorem law_ComposeDecodes (v : Value) (zs : List Int) (w : World) (hz : IsInts .u8 w v zs) (hb : ∀ c ∈ zs, 0 ≤ c ∧ c ≤ 255) (hv : ∀ b, blockOf v = some b → b < w.heap.size) (hl : zs.length ≤ 140737488351232) :
    Calls Try.prog 3 #[v] w fun e w' => e = .returned (.bool true) ∧ Kp [] w w' := by
  have HB := Lib.hid hb
  have HV := Lib.hid hv
  have HZ := Lib.hid hz
  obtain ⟨pa, ca, hva⟩ : ∃ p c, v = .slice p zs.length c := by
    rcases hz with ⟨⟨ad, rfl⟩, rfl⟩ | ⟨g, off, c, rfl, _⟩
    · exact ⟨_, 0, rfl⟩
    · exact ⟨_, c, rfl⟩
  clear hb hv hz
  subst hva
  go_enter Try.func3, Try.ntmps3
  go_wp2_with (at_builtin; refine wpList_app rfl _ _ 22 rfl w.heap.size 5 (.int .u8 0) 1 1 Try.underlying22 infoByte rfl (by decide) (by decide) (.slice (some ⟨w.heap.size, 0, none⟩) 0 0) 0 [] rfl ?hown (.slice pa zs.length ca) zs.length (zs.map (Value.int .u8)) rfl ?hsrc (oneCell_ints _ _) ?hb1 ?hb2 ?hk)
  case hown => exact own_empty _ _ _ _ _ rfl (by omega)
  case hsrc => exact (HZ.out.kp (S := []) ((Kp.refl _ _).alloc _) (by simp)).reads
  case hb1 => omega
  case hb2 => simp
  case hk =>
  intro v1 w1 hown hgr
  try simp only [Nat.zero_add, List.nil_append] at hown
  have HK1 : Hid (Kp [] w w1) := Kp.grown ((Kp.refl _ _).alloc _) hgr (by intro k hk; right; simp [Value.ownBlock] at hk; omega)
  have HI1 : Hid (IsInts .u8 w1 v1 zs) := IsInts.owned hown
  have HL1 := Lib.hid (fun b (hb : blockOf v1 = some b) => (hown.lt b (blockOf_own hb)).2)
  obtain ⟨p1, c1, hv1⟩ := slice_own hown
  subst hv1
  clear hown hgr
  go_wp2_with fail
  refine (decode_calls HI1.out HB.out HL1.out).mono ?_; rintro e w2 ⟨v2, rfl, hi2, hk2⟩
  obtain ⟨p2, c2, hv2⟩ := hi2.form
  subst hv2
  have HI2 := Lib.hid hi2
  have HK2 : Hid (Kp [] w w2) := HK1.out.trans hk2
  have HI1' : Hid (IsInts .u8 w2 (.slice p1 zs.length c1) zs) := HI1.out.kp hk2 (by simp)
  clear hi2 hk2 HK1 HI1 HL1
  go_wp2_with fail
  refine (rdecode_calls (HZ.out.kp HK2.out (by simp)) HB.out (fun b hb => by have := HV.out b hb; have := HK2.out.size; omega)).mono ?_; rintro e w3 ⟨v3, rfl, hi3, hk3⟩
  obtain ⟨p3, c3, hv3⟩ := hi3.form
  subst hv3
  have HI3 := Lib.hid hi3
  have HI2' : Hid (IsPts w3 _ (decM zs).1) := HI2.out.kp hk3 (by simp)
  have HI1'' : Hid (IsInts .u8 w3 (.slice p1 zs.length c1) zs) := HI1'.out.kp hk3 (by simp)
  have HK3 : Hid (Kp [] w w3) := HK2.out.trans hk3
  clear hi3 hk3 HK2 HI2 HI1'
  generalize (decM zs).1 = L at *
  generalize (decM zs).2 = E at *
  go_wp2_with fail
  refine (lives12_calls _).mono ?_; rintro e w4 ⟨rfl, hk4⟩
  have HS4 := Lib.hid (same_calls _ _ L w4 (HI2'.out.kp hk4 (by simp)) (HI3.out.kp hk4 (by simp)))
  have HI4 : Hid (IsInts .u8 w4 (.slice p1 zs.length c1) zs) := HI1''.out.kp hk4 (by simp)
  have HK4 : Hid (Kp [] w w4) := HK3.out.trans hk4
  clear hk4 HI2' HI3 HI1'' HK3
  go_wp2_with fail
  refine HS4.out.mono ?_; rintro e w5 ⟨rfl, hk5⟩
  have HK5 : Hid (Kp [] w w5) := HK4.out.trans hk5
  have hs1 := run_str _ _ _ (HI4.out.kp hk5 (by simp))
  have hs2 := run_str _ _ _ (HZ.out.kp HK5.out (by simp))
  clear hk5 HK4 HI4 HS4
  generalize toStr zs = T at *
  go_wp2_with fail
  go_ret
  exact ⟨by simp, HK5.out⟩
set_option maxRecDepth 100000 in
set_option maxHeartbeats 4000000 in
theorem law_ComposePlain (g dx dy : Int) (w : World) : Calls Try.prog 6 #[.int .i64 g, .int .i64 dx, .int .i64 dy] w fun e w' => e = .returned (.bool true) ∧ Kp [] w w' := by
  obtain ⟨X, hX⟩ : ∃ X, mayPt (plainPt g dx dy) = X := ⟨_, rfl⟩
  have HP : Hid (∀ W, Calls Try.prog 23 #[.int .i64 g, .int .i64 dx, .int .i64 dy] W fun e w' => e = .returned (.agg #[.int .i64 g, .int .i64 16384, .int .i64 0, .int .i64 0, .int .i64 16384, .bool false, .int .i64 dx, .int .i64 dy, .bool false, .int .i64 0, .int .i64 0]) ∧ Kp [] W w') := fun W => plain_calls g dx dy W
  have HM : Hid (∀ W, Calls Try.prog 21 #[.agg #[.int .i64 g, .int .i64 16384, .int .i64 0, .int .i64 0, .int .i64 16384, .bool false, .int .i64 dx, .int .i64 dy, .bool false, .int .i64 0, .int .i64 0]] W fun e w' => e = .returned (.bool X) ∧ Kp [] W w') := fun W => by have h := cmay_calls (plainPt g dx dy) W; rw [hX] at h; exact h
  have HR : Hid (∀ W, Calls Try.prog 22 #[.agg #[.int .i64 g, .int .i64 16384, .int .i64 0, .int .i64 0, .int .i64 16384, .bool false, .int .i64 dx, .int .i64 dy, .bool false, .int .i64 0, .int .i64 0]] W fun e w' => e = .returned (.bool X) ∧ Kp [] W w') := fun W => by have h := rmay12_calls (plainPt g dx dy) W; rw [hX] at h; exact h
  clear hX
  go_enter Try.func6, Try.ntmps6
  go_wp2_with fail
  refine (HP.out _).mono ?_; rintro e w1 ⟨rfl, hk1⟩
  have HK1 := Lib.hid hk1
  clear hk1
  go_wp2_with fail
  refine (rone_calls _).mono ?_; rintro e w2 ⟨rfl, hk2⟩
  obtain ⟨b0, b1, b2, b3, b4, b5, b6, b7, b8, b9, b10⟩ := box11 hk2
  have HK2 : Hid (Kp [] w w2) := HK1.out.trans (Kp.trans (by (repeat (first | exact Kp.refl _ _ | assumption | refine Kp.drew ?_ | refine Kp.drewN ?_ _ | refine Kp.alloc ?_ _ | (refine Kp.setCell ?_ (by first | (left; simp; done) | (right; simp; try omega)) _) | (refine Kp.trans' ?_ (by assumption) (by simp; try omega))))) hk2)
  go_wp2_with fail
  have hka : Kp [] w2 (w2.alloc (.cells #[.int .i64 g, .int .i64 16384, .int .i64 0, .int .i64 0, .int .i64 16384, .bool false, .int .i64 dx, .int .i64 dy, .bool false, .int .i64 0, .int .i64 0] 36)) := by (repeat (first | exact Kp.refl _ _ | assumption | refine Kp.drew ?_ | refine Kp.drewN ?_ _ | refine Kp.alloc ?_ _ | (refine Kp.setCell ?_ (by first | (left; simp; done) | (right; simp; try omega)) _) | (refine Kp.trans' ?_ (by assumption) (by simp; try omega))))
  have HK3 : Hid (Kp [] w (w2.alloc (.cells #[.int .i64 g, .int .i64 16384, .int .i64 0, .int .i64 0, .int .i64 16384, .bool false, .int .i64 dx, .int .i64 dy, .bool false, .int .i64 0, .int .i64 0] 36))) := HK2.out.trans hka
  obtain ⟨d0, d1, d2, d3, d4, d5, d6, d7, d8, d9, d10⟩ := box11 (Kp.refl [] (w2.alloc (.cells #[.int .i64 g, .int .i64 16384, .int .i64 0, .int .i64 0, .int .i64 16384, .bool false, .int .i64 dx, .int .i64 dy, .bool false, .int .i64 0, .int .i64 0] 36)))
  replace b0 := hka.cell b0 (by simp)
  replace b1 := hka.cell b1 (by simp)
  replace b2 := hka.cell b2 (by simp)
  replace b3 := hka.cell b3 (by simp)
  replace b4 := hka.cell b4 (by simp)
  replace b5 := hka.cell b5 (by simp)
  replace b6 := hka.cell b6 (by simp)
  replace b7 := hka.cell b7 (by simp)
  replace b8 := hka.cell b8 (by simp)
  replace b9 := hka.cell b9 (by simp)
  replace b10 := hka.cell b10 (by simp)
  generalize w2.alloc (.cells #[.int .i64 g, .int .i64 16384, .int .i64 0, .int .i64 0, .int .i64 16384, .bool false, .int .i64 dx, .int .i64 dy, .bool false, .int .i64 0, .int .i64 0] 36) = w3 at *
  have q0 := fun n : KW w3 => KW.cell b0 n
  have z0 := fun n : KW w3 => KW.cell d0 n
  have q1 := fun n : KW w3 => KW.cell b1 n
  have z1 := fun n : KW w3 => KW.cell d1 n
  have q2 := fun n : KW w3 => KW.cell b2 n
  have z2 := fun n : KW w3 => KW.cell d2 n
  have q3 := fun n : KW w3 => KW.cell b3 n
  have z3 := fun n : KW w3 => KW.cell d3 n
  have q4 := fun n : KW w3 => KW.cell b4 n
  have z4 := fun n : KW w3 => KW.cell d4 n
  have q5 := fun n : KW w3 => KW.cell b5 n
  have z5 := fun n : KW w3 => KW.cell d5 n
  have q6 := fun n : KW w3 => KW.cell b6 n
  have z6 := fun n : KW w3 => KW.cell d6 n
  have q7 := fun n : KW w3 => KW.cell b7 n
  have z7 := fun n : KW w3 => KW.cell d7 n
  have q8 := fun n : KW w3 => KW.cell b8 n
  have z8 := fun n : KW w3 => KW.cell d8 n
  have q9 := fun n : KW w3 => KW.cell b9 n
  have z9 := fun n : KW w3 => KW.cell d9 n
  have q10 := fun n : KW w3 => KW.cell b10 n
  have z10 := fun n : KW w3 => KW.cell d10 n
  clear b0 d0 b1 d1 b2 d2 b3 d3 b4 d4 b5 d5 b6 d6 b7 d7 b8 d8 b9 d9 b10 d10 hka hk2
  refine wp_region_kq (by kernel_rfl) (by kernel_rfl) ?_
  repeat (go_big_quiet_step ((first | (go_at_call 17; exact Calls.kq (lives12_calls _)) | (go_at_call 21; exact Calls.kq (HM.out _)) | (go_at_call 22; exact Calls.kq (HR.out _)))))
  refine wpQuiet_nil ?_
  intro w4 hw'
  obtain ⟨⟨_, hkw4⟩, rfl⟩ := hw'
  go_wp2_with fail
  go_ret
  exact ⟨by simp, HK3.out.trans hkw4⟩
end Go.Proofs.Ytodjohoonbkklaa

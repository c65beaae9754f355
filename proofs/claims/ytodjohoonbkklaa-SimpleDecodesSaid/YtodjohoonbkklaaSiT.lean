/- simple: the law SimpleDecodes. -/
import Derived.Test.YtodjohoonbkklaaSiS
import Derived.Test.YtodjohoonbkklaaSiI
import Derived.Test.YtodjohoonbkklaaApp
import Derived.Test.YtodjohoonbkklaaStr
namespace Go.Proofs.Ytodjohoonbkklaa
open Go.RowKit
set_option linter.unusedVariables false
set_option linter.unusedSimpArgs false
set_option maxRecDepth 100000 in
set_option maxHeartbeats 4000000 in
theorem law_SimpleDecodes (v : Value) (zs : List Int) (w : World) (hz : IsInts .u8 w v zs) (hb : ∀ c ∈ zs, 0 ≤ c ∧ c ≤ 255) (hv : ∀ b, blockOf v = some b → b < w.heap.size) (hl : zs.length ≤ 140737488351232) :
    Calls Try.prog 11 #[v] w fun e w' => e = .returned (.bool true) ∧ Kp [] w w' := by
  have HB := Lib.hid hb
  have HV := Lib.hid hv
  have HZ := Lib.hid hz
  obtain ⟨pa, ca, hva⟩ : ∃ p c, v = .slice p zs.length c := by
    rcases hz with ⟨⟨ad, rfl⟩, rfl⟩ | ⟨g, off, c, rfl, _⟩
    · exact ⟨_, 0, rfl⟩
    · exact ⟨_, c, rfl⟩
  clear hb hv hz
  subst hva
  go_enter Try.func11, Try.ntmps11
  go_wp2_with (at_builtin; refine wpList_app rfl _ _ 22 rfl w.heap.size 5 (.int .u8 0) 1 1 Try.underlying22 infoByte rfl (by decide) (by decide) (.slice (some ⟨w.heap.size, 0, none⟩) 0 0) 0 [] rfl ?hown (.slice pa zs.length ca) zs.length (zs.map (Value.int .u8)) rfl ?hsrc (oneCell_ints _ _) ?hb1 ?hb2 ?hk)
  case hown => exact own_empty _ _ _ _ _ rfl (by omega)
  case hsrc => exact (HZ.out.kp (S := []) ((Kp.refl _ _).alloc _) (by simp)).reads
  case hb1 => omega
  case hb2 => simp
  case hk =>
  intro v1 w1 hown hgr
  try simp only [Nat.zero_add, List.nil_append] at hown
  have HK1 : Hid (Kp [] w w1) := Kp.grown ((Kp.refl _ _).alloc _) hgr (by intro k hk; right; simp [Value.ownBlock] at hk; omega)
  have HI1 : Hid (IsInts .u8 w1 v1 zs) := IsInts.owned hown
  have HL1 := Lib.hid (fun b (hb : blockOf v1 = some b) => (hown.lt b (blockOf_own hb)).2)
  obtain ⟨p1, c1, hv1⟩ := slice_own hown
  subst hv1
  clear hown hgr
  go_wp2_with fail
  refine (decode_calls HI1.out HB.out HL1.out).mono ?_; rintro e w2 ⟨v2, rfl, ho2, hk2⟩
  obtain ⟨p2, c2, rfl⟩ := ho2.form
  have HO2 := Lib.hid ho2
  have HK12 := Lib.hid hk2
  have HK2 : Hid (Kp [] w w2) := HK1.out.trans hk2
  clear ho2 hk2
  go_wp2_with fail
  refine (rdecode_calls (HZ.out.kp HK2.out (by simp)) HB.out (fun b hb => by have := HV.out b hb; have := HK2.out.size; omega)).mono ?_; rintro e w3 ⟨v3, rfl, ho3, hk3⟩
  obtain ⟨p3, c3, rfl⟩ := ho3.form
  have HO3 := Lib.hid ho3
  have HK23 := Lib.hid hk3
  clear ho3 hk3
  generalize (decS zs).1 = L at *
  generalize (decS zs).2 = E at *
  go_wp2_with fail
  refine (lives11_calls _).mono ?_; rintro e w4 ⟨rfl, hk4⟩
  have HS4 := Lib.hid (rsame_calls _ _ L L w4 (HO2.out.kp0 (HK23.out.trans hk4)) (HO3.out.kp0 hk4))
  rw [decide_eq_true (rfl : L = L)] at HS4
  have HK14 : Hid (Kp [] w1 w4) := HK12.out.trans (HK23.out.trans hk4)
  clear hk4
  go_wp2_with fail
  refine HS4.out.mono ?_; rintro e w5 ⟨rfl, hk5⟩
  have HK15 : Hid (Kp [] w1 w5) := HK14.out.trans hk5
  clear hk5 HS4 HO2 HO3
  go_wp2_with fail
  refine (kind_calls _ zs _ (HI1.out.kp0 HK15.out)).mono ?_; rintro e w6 ⟨rfl, hk6⟩
  have HK16 : Hid (Kp [] w1 w6) := HK15.out.trans hk6
  clear hk6
  go_wp2_with fail
  refine (rkind_calls _ zs _ (HZ.out.kp0 (HK1.out.trans HK16.out))).mono ?_; rintro e w7 ⟨rfl, hk7⟩
  have HK17 : Hid (Kp [] w1 w7) := HK16.out.trans hk7
  have HKF : Hid (Kp [] w w7) := HK1.out.trans HK17.out
  have hs1 := run_str _ _ _ (HI1.out.kp0 HK17.out)
  have hs2 := run_str _ _ _ (HZ.out.kp0 HKF.out)
  generalize kindM zs = K at *
  generalize toStr zs = T at *
  clear hk7 HK1 HK12 HK2 HK23 HK14 HK15 HK16 HK17
  go_wp2_with fail
  go_ret
  exact ⟨rfl, Kp.trans HKF.out (by (repeat (first | exact Kp.refl _ _ | assumption | refine Kp.drew ?_ | refine Kp.drewN ?_ _ | refine Kp.alloc ?_ _ | (refine Kp.setCell ?_ (by first | (left; simp; done) | (right; simp; try omega)) _) | (refine Kp.trans' ?_ (by assumption) (by simp; try omega)))))⟩
end Go.Proofs.Ytodjohoonbkklaa

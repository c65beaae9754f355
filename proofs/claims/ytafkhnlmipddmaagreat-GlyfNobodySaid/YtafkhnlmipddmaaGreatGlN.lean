/- glyf: the law GlyfNobody. -/
import Derived.Test.YtafkhnlmipddmaaGreatGlL
import Derived.Test.YtafkhnlmipddmaaGreatQuiet
import Derived.BigQuiet
import Derived.Deep.DeepCutAuto
namespace Go.Proofs.YtafkhnlmipddmaaGreat
open Go.RowKit
set_option linter.unusedVariables false
set_option linter.unusedSimpArgs false
set_option maxRecDepth 100000 in
set_option maxHeartbeats 8000000 in
theorem law_GlyfNobody (v : Value) (zs : List Int) (g : Int) (w : World) (hi : IsInts .u8 w v zs) :
    Calls Tryz.prog 7 #[v, .int .i64 g] w fun e w' => e = .returned (.bool true) ∧ Kp [] w w' := by
  obtain ⟨pa, ca, rfl⟩ := ints_formB hi
  clear hi
  generalize zs.length = N at *
  go_enter Tryz.func7, Tryz.ntmps7
  go_wp2_with fail
  refine (gnew_nil _ _ _ _).mono ?_; rintro e w1 ⟨rfl, hk1⟩
  have HK1 := Lib.hid hk1
  clear hk1
  go_wp2_with fail
  refine (gbytes_nil _ _).mono ?_; rintro e w2 ⟨v2, rfl, hi2, hk2⟩
  obtain ⟨p2, c2, rfl⟩ := ints_formB hi2
  have HK2 : Hid (Kp [] w w2) := HK1.out.trans hk2
  clear hk2 hi2 HK1
  go_wp2_with fail
  refine (goutline_nil _ _).mono ?_; rintro e w3 ⟨rfl, hk3⟩
  have HK3 : Hid (Kp [] w w3) := HK2.out.trans hk3
  clear hk3 HK2
  go_wp2_with fail
  refine (gvisits_nil _ _).mono ?_; rintro e w4 ⟨rfl, hk4⟩
  have HK4 : Hid (Kp [] w w4) := HK3.out.trans hk4
  clear hk4 HK3
  go_wp2_with fail
  refine (lives13_calls _).mono ?_; rintro e w5 ⟨rfl, hk5⟩
  have HK5 : Hid (Kp [] w w5) := HK4.out.trans hk5
  clear hk5 HK4
  go_wp2_with fail
  refine (glen_nil _).mono ?_; rintro e w6 ⟨rfl, hk6⟩
  go_wp2_with fail
  go_ret
  exact ⟨rfl, HK5.out.trans hk6⟩
end Go.Proofs.YtafkhnlmipddmaaGreat

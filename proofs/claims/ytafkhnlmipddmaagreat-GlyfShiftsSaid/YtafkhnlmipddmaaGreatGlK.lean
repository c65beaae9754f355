/- glyf: the law's square; what the lives' glyphs are (plain). -/
import Derived.Test.YtafkhnlmipddmaaGreatGlJ
import Derived.Test.YtafkhnlmipddmaaGreatSmC
import Derived.BigQuiet
import Derived.Deep.DeepCutAuto
namespace Go.Proofs.YtafkhnlmipddmaaGreat
open Go.RowKit
set_option linter.unusedVariables false
set_option linter.unusedSimpArgs false
def sqC : List Pn := [⟨0, 0, 1⟩, ⟨65536, 0, 1⟩, ⟨65536, 65536, 1⟩]
def sqO : List (List Pn) := [sqC]
def sqB : List Int := (encM sqO).1
theorem sq_enc : encM sqO = (sqB, 0) := by decide
theorem sq_check : checkO sqO = 0 := by decide
theorem sq_dec : decS sqB = (sqO, 0) := by decide
theorem sq_kind : kindM sqB = 1 := by decide
theorem sq_byte : ∀ c ∈ sqB, 0 ≤ c ∧ c ≤ 255 := by decide
theorem sq_len : sqB.length = 19 := by decide
theorem sq_ok : okB sqB := ⟨fun _ => by rw [sq_dec]; exact sq_check, fun h => by rw [sq_kind] at h; cases h⟩
theorem glyIn_sq (ev : Option (Int → Nat → GRes)) (v : Nat) : glyIn sqB ev v = ((sqO, 0), v) := by
  unfold glyIn
  rw [if_pos (by rw [sq_kind]; decide), sq_dec]
theorem sq_out (w : World) : IsOut ((w.alloc (.cells #[.int .i64 0, .int .i64 0, .int .i64 1, .int .i64 65536, .int .i64 0, .int .i64 1, .int .i64 65536, .int .i64 65536, .int .i64 1] 46)).alloc (.cells #[.slice (some ⟨w.heap.size, 0, none⟩) 3 3] 23)) (.slice (some ⟨w.heap.size + 1, 0, none⟩) 1 1) sqO := by
  have h := outLitT (w := w.alloc (.cells (psCells sqC).toArray 46)) (c := sqC) (Kp.refl [] _) (psLitT (w := w) (n := 3) rfl (by decide) ((Kp.refl [] _).alloc (.cells #[.slice (some ⟨w.heap.size, 0, none⟩) 3 3] 23)))
  simpa [psCells, sqC, pnCells, sqO] using h
set_option maxRecDepth 100000 in
set_option maxHeartbeats 4000000 in
theorem square_calls (w : World) : Calls Tryz.prog 16 #[] w fun e w' => ∃ v, e = .returned v ∧ IsInts .u8 w' v sqB ∧ Kp [] w w' := by
  have HE := Lib.hid (fun v W (h : IsOut W v sqO) => renc_calls v sqO W h sq_check (by decide))
  rw [sq_enc] at HE
  generalize sqB = B at *
  go_enter Tryz.func16, Tryz.ntmps16
  go_wp2_with fail
  refine (HE.out _ _ (sq_out w)).mono ?_; rintro e w2 ⟨v2, rfl, hi2, hk2⟩
  have hk0 : Kp [] w w2 := by (repeat (first | exact Kp.refl _ _ | assumption | refine Kp.drew ?_ | refine Kp.drewN ?_ _ | refine Kp.alloc ?_ _ | (refine Kp.setCell ?_ (by first | (left; simp; done) | (right; simp; try omega)) _) | (refine Kp.trans' ?_ (by assumption) (by simp; try omega))))
  obtain ⟨p2, c2, rfl⟩ := ints_formB hi2
  have HI := Lib.hid hi2
  have HK2 : Hid (Kp [] w w2) := hk0
  generalize B.length = BL at *
  clear hi2 hk2
  go_wp2_with fail
  go_ret
  exact ⟨_, rfl, HI.out, HK2.out⟩
end Go.Proofs.YtafkhnlmipddmaaGreat

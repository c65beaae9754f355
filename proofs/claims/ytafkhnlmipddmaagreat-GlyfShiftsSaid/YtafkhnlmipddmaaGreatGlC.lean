/- glyf: a plain part, where it belongs. -/
import Derived.Test.YtafkhnlmipddmaaGreatGlA
import Derived.Test.YtafkhnlmipddmaaGreatGlB
import Derived.BigQuiet
import Derived.Deep.DeepCutAuto
namespace Go.Proofs.YtafkhnlmipddmaaGreat
open Go.RowKit
set_option linter.unusedVariables false
set_option linter.unusedSimpArgs false
/-- A part that is only moved. -/
def plainP (p : Cp.Pt) : Prop := p.xx = 16384 ∧ p.xy = 0 ∧ p.yx = 0 ∧ p.yy = 16384 ∧ p.m = false ∧ p.t = false ∧ (-32768 ≤ p.dx ∧ p.dx < 32768) ∧ -32768 ≤ p.dy ∧ p.dy < 32768
def PtAt (W : World) (B : Nat) (p : Cp.Pt) : Prop := W.heap[B]? = some (.cells (Cp.ptCells p) 34 (0, 0))
theorem PtAt.cells {W : World} {B : Nat} {p : Cp.Pt} (h : PtAt W B p) : W.cell? ⟨B, 0, none⟩ = some (.int .i64 p.g) ∧ W.cell? ⟨B, 1, none⟩ = some (.int .i64 p.xx) ∧ W.cell? ⟨B, 2, none⟩ = some (.int .i64 p.xy) ∧ W.cell? ⟨B, 3, none⟩ = some (.int .i64 p.yx) ∧ W.cell? ⟨B, 4, none⟩ = some (.int .i64 p.yy) ∧ W.cell? ⟨B, 5, none⟩ = some (.bool p.m) ∧ W.cell? ⟨B, 6, none⟩ = some (.int .i64 p.dx) ∧ W.cell? ⟨B, 7, none⟩ = some (.int .i64 p.dy) ∧ W.cell? ⟨B, 8, none⟩ = some (.bool p.t) ∧ W.cell? ⟨B, 9, none⟩ = some (.int .i64 p.pa) ∧ W.cell? ⟨B, 10, none⟩ = some (.int .i64 p.ch) := by
  refine ⟨?_, ?_, ?_, ?_, ?_, ?_, ?_, ?_, ?_, ?_, ?_⟩ <;> (rw [cell_of_row W B _ _ _ (0, 0) h]; rfl)
theorem PtAt.kp {S : List Nat} {W W' : World} {B : Nat} {p : Cp.Pt} (h : PtAt W B p) (hk : Kp S W W') (hB : B ∉ S) : PtAt W' B p := hk.heap h hB
theorem num16 {x : Int} (h : -32768 ≤ x ∧ x < 32768) : numF (x * 65536) = true ∧ IntKind.i64.wrap (x * 65536) = x * 65536 := by
  rw [numF_iff, IntKind.wrap_i64]; omega
set_option maxRecDepth 100000 in
set_option maxHeartbeats 4000000 in
theorem placed_calls (pa : Option Addr) (na ca : Nat) (vo : Value) (o : List (List Pn)) (p : Cp.Pt) (w : World) (hv : IsOut w vo o) (hE : checkO o = 0) (hp : plainP p) :
    Calls Tryz.prog 78 #[.slice pa na ca, vo, .agg (Cp.ptCells p)] w fun e w' => ∃ v', e = .returned (.tuple #[v', .int .i64 (applyM o (p.dx * 65536) (p.dy * 65536)).2]) ∧ IsOut w' v' (applyM o (p.dx * 65536) (p.dy * 65536)).1 ∧ Kp [] w w' := by
  obtain ⟨g, xx, xy, yx, yy, m, dx, dy, t, pr, ch⟩ := p
  obtain ⟨h1, h2, h3, h4, h5, h6, h7, h8⟩ := hp
  dsimp only at h1 h2 h3 h4 h5 h6 h7 h8
  subst h1 h2 h3 h4 h5 h6
  obtain ⟨nx, ex⟩ := num16 h7
  obtain ⟨ny, ey⟩ := num16 h8
  have HA := Lib.hid (fun W (hk : Kp [] w W) => oapply_any vo o (dx * 65536) (dy * 65536) W (hv.kp0 hk) hE nx ny)
  obtain ⟨po, co, rfl⟩ := hv.form
  generalize o.length = N at *
  clear hv hE h7 h8 nx ny
  show Calls Tryz.prog 78 #[.slice pa na ca, .slice po N co, .agg #[.int .i64 g, .int .i64 16384, .int .i64 0, .int .i64 0, .int .i64 16384, .bool false, .int .i64 dx, .int .i64 dy, .bool false, .int .i64 pr, .int .i64 ch]] w _
  dsimp only
  generalize applyM o (dx * 65536) (dy * 65536) = RES at *
  go_enter Tryz.func78, Tryz.ntmps78
  go_wp2_with fail
  refine wp_gen ?_; intro W0 hW0
  have hk : Kp [] w W0 := by rw [hW0]; (repeat (first | exact Kp.refl _ _ | assumption | refine Kp.drew ?_ | refine Kp.drewN ?_ _ | refine Kp.alloc ?_ _ | (refine Kp.setCell ?_ (by first | (left; simp; done) | (right; simp; try omega)) _) | (refine Kp.trans' ?_ (by assumption) (by simp; try omega))))
  have hP : PtAt W0 w.heap.size ⟨g, 16384, 0, 0, 16384, false, dx, dy, false, pr, ch⟩ := by rw [hW0]; exact heap_alloc_new w _
  have HP := Lib.hid hP
  have HK := Lib.hid hk
  clear hW0 hP hk
  obtain ⟨c0, c1, c2, c3, c4, c5, c6, c7, c8, c9, c10⟩ := HP.out.cells
  dsimp only at c0 c1 c2 c3 c4 c5 c6 c7 c8 c9 c10
  go_upto_region 3 with fail
  clear c0 c1 c2 c3 c4 c5 c6 c7 c8 c9 c10
  have u6 := fun n : KW W0 => KW.cell HP.out.cells.2.2.2.2.2.2.1 n
  have u7 := fun n : KW W0 => KW.cell HP.out.cells.2.2.2.2.2.2.2.1 n
  dsimp only at u6 u7
  refine wp_region_kq (by kernel_rfl) (by kernel_rfl) ?_
  repeat (go_big_quiet_step (fail))
  refine wpQuiet_nil ?_
  intro w1 hw'
  obtain ⟨⟨_, hkw1⟩, rfl⟩ := hw'
  clear u6 u7
  replace HP : Hid (PtAt w1 w.heap.size ⟨g, 16384, 0, 0, 16384, false, dx, dy, false, pr, ch⟩) := HP.out.kp hkw1 (by simp)
  replace HK : Hid (Kp [] w w1) := HK.out.trans hkw1
  clear hkw1 ex ey
  obtain ⟨c0, c1, c2, c3, c4, c5, c6, c7, c8, c9, c10⟩ := HP.out.cells
  dsimp only at c0 c1 c2 c3 c4 c5 c6 c7 c8 c9 c10
  go_wp2_with fail
  refine (HA.out _ HK.out).mono ?_; rintro e w2 ⟨v2, rfl, ho2, hk2⟩
  have HO := Lib.hid ho2
  have HKF : Hid (Kp [] w w2) := HK.out.trans hk2
  clear ho2 hk2 c0 c1 c2 c3 c4 c5 c6 c7 c8 c9 c10
  go_wp2_with fail
  go_ret2
  exact ⟨_, rfl, HO.out, HKF.out⟩
end Go.Proofs.YtafkhnlmipddmaaGreat

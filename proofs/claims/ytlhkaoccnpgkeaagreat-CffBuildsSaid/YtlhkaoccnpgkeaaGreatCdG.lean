/- cff: the law CffBuilds: the table of any parts. (Merged by wip/tools/mergetpl.py out of CbU.) -/
import Derived.Test.YtlhkaoccnpgkeaaGreatCdF
import Derived.Test.YtlhkaoccnpgkeaaGreatCaA
namespace Go.Proofs.YtlhkaoccnpgkeaaGreat
open Go.RowKit
set_option linter.unusedVariables false
set_option linter.unusedSimpArgs false
theorem ev_lives : Ev.isT (Ev.evF env 1000000 7 []) = true := by kernel_rfl
theorem lives19_calls (w : World) : Calls Tryz.prog 7 #[] w fun e w' => e = .returned (.bool true) ∧ Kp [] w w' := by
  refine (Ev.law_calls (P := Tryz.prog) (Ev.mkEnv_ok Tryz.prog (fun e h => by cases h)) noNum (by rfl) [] ev_lives (fun σ => .nil) w).mono ?_
  rintro e w' ⟨h1, h2, h3, h4, h5, h6⟩
  exact ⟨h1, h2, h3, h4, h5, fun k hk _ => h6 k hk⟩
/-- Rows of bytes at a place. -/
theorem IsBs.at {w : World} {p : Option Addr} {c : Nat} {o : List (List Int)} (h : IsBs w (.slice p o.length c) o) {i : Nat} (hi : i < o.length) : ∃ g off q cv, p = some ⟨g, off, none⟩ ∧ o.length ≤ c ∧ c ≤ maxLen ∧ w.cell? ⟨g, off + i, none⟩ = some (.slice q (o.getD i []).length cv) := by
  obtain ⟨g, off, c2, q, cv, e, h1, h2, h3, _⟩ := h.row hi
  cases e
  exact ⟨g, off, q, cv, rfl, h1, h2, h3⟩
theorem IsBs.len {w : World} {v : Value} {o : List (List Int)} (h : IsBs w v o) : o.length ≤ 9223372036854775807 := by
  obtain ⟨vs, h1, _⟩ := h
  rcases h1.2 with ⟨_, h0⟩ | ⟨g, off, c, _, h3, h4, _⟩
  · omega
  · unfold maxLen at h4; omega
/-- Some answer. -/
def LgD (w : World) (e : Ending) (w' : World) : Prop := ∃ b, e = .returned (.bool b) ∧ Kp [] w w'
set_option maxRecDepth 100000 in
set_option maxHeartbeats 8000000 in
theorem large19_calls (vc vg vf vs vn : Value) (p : CffP) (w : World) (hin : CffIn w vc vg vf vs vn p) :
    Calls Tryz.prog 6 #[.agg #[vc, vg, vf, vs, vn]] w (LgD w) := by
  have HIN := Lib.hid (fun W (hk : Kp [] w W) => hin.kp0 hk)
  have hkl := hin.fams.len
  have hcl := hin.codes.len
  have hgl := hin.glob.len
  obtain ⟨pc, cc, rfl⟩ := hin.codes.form
  obtain ⟨pg, cg, rfl⟩ := hin.glob.form
  obtain ⟨pf, cf, rfl⟩ := hin.fams.form
  obtain ⟨ps, cs, rfl⟩ := hin.sel.form
  obtain ⟨pn, cn, rfl⟩ := hin.names.form
  have HK0 : Hid (Kp [] w (w.alloc (.cells #[.slice pc p.codes.length cc, .slice pg p.glob.length cg, .slice pf p.fams.length cf, .slice ps p.sel.length cs, .slice pn p.names.length cn] 26))) := (Kp.refl _ _).alloc _
  clear hin
  go_enter Tryz.func6, Tryz.ntmps6
  go_upto_block 0 with fail
  refine wp_gen ?_; intro W0 hW0
  have HW0 : Hid (Kp [] w W0) := by rw [hW0]; exact HK0.out
  have hbx : W0.heap[w.heap.size]? = some (.cells #[.slice pc p.codes.length cc, .slice pg p.glob.length cg, .slice pf p.fams.length cf, .slice ps p.sel.length cs, .slice pn p.names.length cn] 26 (0, 0)) := by rw [hW0]; exact heap_alloc_new w _
  have c0 : W0.cell? ⟨w.heap.size, 0, none⟩ = some (.slice pc p.codes.length cc) := by rw [cell_of_row W0 _ 0 _ _ _ hbx]; rfl
  have c1 : W0.cell? ⟨w.heap.size, 1, none⟩ = some (.slice pg p.glob.length cg) := by rw [cell_of_row W0 _ 1 _ _ _ hbx]; rfl
  have c2 : W0.cell? ⟨w.heap.size, 2, none⟩ = some (.slice pf p.fams.length cf) := by rw [cell_of_row W0 _ 2 _ _ _ hbx]; rfl
  have HCO := Lib.hid (HIN.out W0 HW0.out).codes
  have HGL := Lib.hid (HIN.out W0 HW0.out).glob
  have HFA := Lib.hid (HIN.out W0 HW0.out).fams
  clear hW0 hbx HIN HK0
  generalize hnc : p.codes.length = NC at *
  generalize hng : p.glob.length = NG at *
  generalize hnf : p.fams.length = NF at *
  have HNC := Lib.hid hnc
  have HNG := Lib.hid hng
  have HNF := Lib.hid hnf
  clear hnc hng hnf
  go_cut [3] (fun n wx => ∃ x : Int, n = .int .i64 x ∧ W0 = wx)
  case first =>
    go_wp2_with fail
    go_loopw [3, 4] (fun n i wr => ∃ (j : Nat) (x : Int), j ≤ 70000 ∧ i = .int .i64 j ∧ n = .int .i64 x ∧ W0 = wr) (fun _ i _ => 70000 - (intOf i).toNat)
    case atStart => exact ⟨0, _, by omega, rfl, rfl, rfl⟩
    case round =>
      obtain ⟨j, x, hj, rfl, rfl, rfl⟩ := hrel
      by_cases h1 : j < NC
      · have d1 : decide ((j : Int) < (NC : Int)) = true := decide_eq_true (by omega)
        by_cases h2 : j < 70000
        · obtain ⟨g, off, q, cv, rfl, _, _, hc⟩ := IsBs.at (p := pc) (c := cc) (i := j) (by rw [HNC.out]; exact HCO.out) (by rw [HNC.out]; exact h1)
          generalize (p.codes.getD j []).length = GL at *
          have d2 : decide ((j : Int) < 70000) = true := decide_eq_true (by omega)
          go_wp2_with fail
          go_roundw
          case rel => exact ⟨j + 1, _, by omega, by go_num, rfl, by first | rfl | trivial⟩
          case measure => simp [intOf] <;> omega
        · have d2 : decide ((j : Int) < 70000) = false := decide_eq_false (by omega)
          go_wp2_with fail
          go_meet
          exact ⟨x, rfl, rfl⟩
      · have d1 : decide ((j : Int) < (NC : Int)) = false := decide_eq_false (by omega)
        go_wp2_with fail
        go_meet
        exact ⟨x, rfl, rfl⟩
  obtain ⟨x0, rfl, rfl⟩ := hcut
  go_upto_block 2 with fail
  go_cut [3] (fun n wx => ∃ x : Int, n = .int .i64 x ∧ W0 = wx)
  case first =>
    go_wp2_with fail
    go_loopw [3, 5] (fun n i wr => ∃ (j : Nat) (x : Int), j ≤ 70000 ∧ i = .int .i64 j ∧ n = .int .i64 x ∧ W0 = wr) (fun _ i _ => 70000 - (intOf i).toNat)
    case atStart => exact ⟨0, _, by omega, rfl, rfl, rfl⟩
    case round =>
      obtain ⟨j, x, hj, rfl, rfl, rfl⟩ := hrel
      by_cases h1 : j < NG
      · have d1 : decide ((j : Int) < (NG : Int)) = true := decide_eq_true (by omega)
        by_cases h2 : j < 70000
        · obtain ⟨g, off, q, cv, rfl, _, _, hc⟩ := IsBs.at (p := pg) (c := cg) (i := j) (by rw [HNG.out]; exact HGL.out) (by rw [HNG.out]; exact h1)
          generalize (p.glob.getD j []).length = GL at *
          have d2 : decide ((j : Int) < 70000) = true := decide_eq_true (by omega)
          go_wp2_with fail
          go_roundw
          case rel => exact ⟨j + 1, _, by omega, by go_num, rfl, by first | rfl | trivial⟩
          case measure => simp [intOf] <;> omega
        · have d2 : decide ((j : Int) < 70000) = false := decide_eq_false (by omega)
          go_wp2_with fail
          go_meet
          exact ⟨x, rfl, rfl⟩
      · have d1 : decide ((j : Int) < (NG : Int)) = false := decide_eq_false (by omega)
        go_wp2_with fail
        go_meet
        exact ⟨x, rfl, rfl⟩
  obtain ⟨x2, rfl, rfl⟩ := hcut
  go_wp2_with fail
  go_loopw [3, 6] (fun n i wr => ∃ (j : Nat) (x : Int), j ≤ 300 ∧ i = .int .i64 j ∧ n = .int .i64 x ∧ W0 = wr) (fun _ i _ => 300 - (intOf i).toNat)
  case atStart => exact ⟨0, _, by omega, rfl, rfl, rfl⟩
  case round =>
    obtain ⟨j, x, hj, rfl, rfl, rfl⟩ := hrel
    by_cases h1 : j < NF
    · have d1 : decide ((j : Int) < (NF : Int)) = true := decide_eq_true (by omega)
      by_cases h2 : j < 300
      · obtain ⟨gf, of, cf2, ef, hf3, hf4, hf5⟩ : ∃ g off c, (.slice pf NF cf : Value) = .slice (some ⟨g, off, none⟩) NF c ∧ NF ≤ c ∧ c ≤ maxLen ∧ ∃ lv, W0.cell? ⟨g, off + j * 3, none⟩ = some lv ∧ IsBs W0 lv (p.fams.getD j fam0).l := by
          have hlt' : j < p.fams.length := by rw [HNF.out]; exact h1
          rcases HFA.out with ⟨_, e⟩ | ⟨g, off, c, e, z1, z2, z3⟩
          · exfalso; rw [e] at hlt'; simp at hlt'
          · obtain ⟨lv, a1, a2, a3, a4, a5⟩ := z3 j hlt'
            rw [HNF.out] at e z1
            exact ⟨g, off, c, e, z1, z2, lv, a1, a4⟩
        obtain ⟨rfl, rfl⟩ : pf = some ⟨gf, of, none⟩ ∧ cf = cf2 := by cases ef; exact ⟨rfl, rfl⟩
        obtain ⟨lv, a1, a4⟩ := hf5
        obtain ⟨pl, cl, rfl⟩ := a4.form
        have HLV := Lib.hid a4
        have hll := a4.len
        generalize hnl : (p.fams.getD j fam0).l.length = NL at *
        have HNL := Lib.hid hnl
        have d2 : decide ((j : Int) < 300) = true := decide_eq_true (by omega)
        clear a4 ef hnl
        go_wp2_with fail
        go_loopw [3, 7] (fun n i wr => ∃ (k : Nat) (x : Int), k ≤ 70000 ∧ i = .int .i64 k ∧ n = .int .i64 x ∧ W0 = wr) (fun _ i _ => 70000 - (intOf i).toNat)
        case atStart => exact ⟨0, _, by omega, rfl, rfl, rfl⟩
        case round =>
          obtain ⟨k, y, hk, rfl, rfl, rfl⟩ := hrel
          by_cases h3 : k < NL
          · have d3 : decide ((k : Int) < (NL : Int)) = true := decide_eq_true (by omega)
            by_cases h4 : k < 70000
            · obtain ⟨g, off, q, cv, rfl, _, _, hc⟩ := IsBs.at (p := pl) (c := cl) (i := k) (by rw [HNL.out]; exact HLV.out) (by rw [HNL.out]; exact h3)
              generalize ((p.fams.getD j fam0).l.getD k []).length = GL at *
              have d4 : decide ((k : Int) < 70000) = true := decide_eq_true (by omega)
              obtain ⟨z, hz⟩ : ∃ z : Int, z = wrap64 (y + (GL : Int)) := ⟨_, rfl⟩
              by_cases h5 : 2097152 < z
              · have d5 : decide ((2097152 : Int) < wrap64 (y + (GL : Int))) = true := by rw [← hz]; exact decide_eq_true h5
                clear hz
                go_wp2_with fail
                go_ret
                first | exact ⟨_, rfl, HW0.out⟩ | exact ⟨⟨_, rfl⟩, HW0.out⟩ | exact HW0.out
              · have d5 : decide ((2097152 : Int) < wrap64 (y + (GL : Int))) = false := by rw [← hz]; exact decide_eq_false h5
                clear hz
                go_wp2_with fail
                go_roundw
                case rel => exact ⟨k + 1, _, by omega, by go_num, rfl, by first | rfl | trivial⟩
                case measure => simp [intOf] <;> omega
            · have d4 : decide ((k : Int) < 70000) = false := decide_eq_false (by omega)
              go_wp2_with fail
              go_roundw
              case rel => exact ⟨j + 1, _, by omega, by go_num, rfl, by first | rfl | trivial⟩
              case measure => simp [intOf] <;> omega
          · have d3 : decide ((k : Int) < (NL : Int)) = false := decide_eq_false (by omega)
            go_wp2_with fail
            go_roundw
            case rel => exact ⟨j + 1, _, by omega, by go_num, rfl, by first | rfl | trivial⟩
            case measure => simp [intOf] <;> omega
      · have d2 : decide ((j : Int) < 300) = false := decide_eq_false (by omega)
        by_cases g1 : 65536 < x
        · have e1 : decide ((65536 : Int) < x) = true := decide_eq_true g1
          go_wp2_with fail
          go_ret
          first | exact ⟨_, rfl, HW0.out⟩ | exact ⟨⟨_, rfl⟩, HW0.out⟩ | exact HW0.out
        have e1 : decide ((65536 : Int) < x) = false := decide_eq_false g1
        by_cases g2 : 3000 < NC
        · have e2 : decide ((3000 : Int) < (NC : Int)) = true := decide_eq_true (by omega)
          go_wp2_with fail
          go_ret
          first | exact ⟨_, rfl, HW0.out⟩ | exact ⟨⟨_, rfl⟩, HW0.out⟩ | exact HW0.out
        have e2 : decide ((3000 : Int) < (NC : Int)) = false := decide_eq_false (by omega)
        by_cases g3 : 3000 < NG
        · have e3 : decide ((3000 : Int) < (NG : Int)) = true := decide_eq_true (by omega)
          go_wp2_with fail
          go_ret
          first | exact ⟨_, rfl, HW0.out⟩ | exact ⟨⟨_, rfl⟩, HW0.out⟩ | exact HW0.out
        have e3 : decide ((3000 : Int) < (NG : Int)) = false := decide_eq_false (by omega)
        go_wp2_with fail
        go_ret
        first | exact ⟨_, rfl, HW0.out⟩ | exact ⟨⟨_, rfl⟩, HW0.out⟩ | exact HW0.out
    · have d1 : decide ((j : Int) < (NF : Int)) = false := decide_eq_false (by omega)
      by_cases g1 : 65536 < x
      · have e1 : decide ((65536 : Int) < x) = true := decide_eq_true g1
        go_wp2_with fail
        go_ret
        first | exact ⟨_, rfl, HW0.out⟩ | exact ⟨⟨_, rfl⟩, HW0.out⟩ | exact HW0.out
      have e1 : decide ((65536 : Int) < x) = false := decide_eq_false g1
      by_cases g2 : 3000 < NC
      · have e2 : decide ((3000 : Int) < (NC : Int)) = true := decide_eq_true (by omega)
        go_wp2_with fail
        go_ret
        first | exact ⟨_, rfl, HW0.out⟩ | exact ⟨⟨_, rfl⟩, HW0.out⟩ | exact HW0.out
      have e2 : decide ((3000 : Int) < (NC : Int)) = false := decide_eq_false (by omega)
      by_cases g3 : 3000 < NG
      · have e3 : decide ((3000 : Int) < (NG : Int)) = true := decide_eq_true (by omega)
        go_wp2_with fail
        go_ret
        first | exact ⟨_, rfl, HW0.out⟩ | exact ⟨⟨_, rfl⟩, HW0.out⟩ | exact HW0.out
      have e3 : decide ((3000 : Int) < (NG : Int)) = false := decide_eq_false (by omega)
      go_wp2_with fail
      go_ret
      first | exact ⟨_, rfl, HW0.out⟩ | exact ⟨⟨_, rfl⟩, HW0.out⟩ | exact HW0.out
set_option maxRecDepth 100000 in
set_option maxHeartbeats 8000000 in
theorem law_CffBuilds (vc vg vf vs vn : Value) (p : CffP) (w : World) (hin : CffIn w vc vg vf vs vn p) (hnl : p.names.length < 4611686018427387904) :
    Calls Tryz.prog 3 #[.agg #[vc, vg, vf, vs, vn]] w fun e w' => e = .returned (.bool true) ∧ Kp [] w w' := by
  have HLG := Lib.hid (fun (W : World) (hk : Kp [] w W) => large19_calls vc vg vf vs vn p W (hin.kp0 hk))
  have HBU := Lib.hid (fun (W : World) (hk : Kp [] w W) => build_calls vc vg vf vs vn p W (hin.kp0 hk) hnl)
  have HMY := Lib.hid (fun (W : World) (hk : Kp [] w W) => rmay19_calls vc vg vf vs vn p W (hin.kp0 hk))
  have HRB := Lib.hid (fun (W : World) (hk : Kp [] w W) h1 h2 => rbuild_calls vc vg vf vs vn p W (hin.kp0 hk) h1 h2)
  have HLV := Lib.hid (fun W : World => lives19_calls W)
  obtain ⟨pc, cc, rfl⟩ := hin.codes.form
  obtain ⟨pg, cg, rfl⟩ := hin.glob.form
  obtain ⟨pf, cf, rfl⟩ := hin.fams.form
  obtain ⟨ps, cs, rfl⟩ := hin.sel.form
  obtain ⟨pn, cn, rfl⟩ := hin.names.form
  have HB1 : Hid ((mayC p && Ch.mayPut p.names 0) = false → buildC p = ([], 1)) := fun h => by unfold buildC; rw [h]; rfl
  have HB2 : Hid ((mayC p && Ch.mayPut p.names 0) = true → badB p (sizeT p) = true → buildC p = ([], 3)) := fun h h2 => by unfold buildC; rw [h, h2]; rfl
  have HB3 : Hid ((mayC p && Ch.mayPut p.names 0) = true → badB p (sizeT p) = false → buildC p = (outF p, 0)) := fun h h2 => by unfold buildC; rw [h, h2]; rfl
  have HAN : Hid ((mayC p && Ch.mayPut p.names 0) = true → mayC p = true ∧ Ch.mayPut p.names 0 = true) := fun h => by simpa using h
  have hbx : ∀ W, Kp [] (w.alloc (.cells #[.slice pc p.codes.length cc, .slice pg p.glob.length cg, .slice pf p.fams.length cf, .slice ps p.sel.length cs, .slice pn p.names.length cn] 26)) W → W.heap[w.heap.size]? = some (.cells #[.slice pc p.codes.length cc, .slice pg p.glob.length cg, .slice pf p.fams.length cf, .slice ps p.sel.length cs, .slice pn p.names.length cn] 26 (0, 0)) := fun W hk => hk.heap (heap_alloc_new w _) (by simp)
  have HC : Hid (∀ W, Kp [] (w.alloc (.cells #[.slice pc p.codes.length cc, .slice pg p.glob.length cg, .slice pf p.fams.length cf, .slice ps p.sel.length cs, .slice pn p.names.length cn] 26)) W → W.cell? ⟨w.heap.size, 0, none⟩ = some (.slice pc p.codes.length cc) ∧ W.cell? ⟨w.heap.size, 1, none⟩ = some (.slice pg p.glob.length cg) ∧ W.cell? ⟨w.heap.size, 2, none⟩ = some (.slice pf p.fams.length cf) ∧ W.cell? ⟨w.heap.size, 3, none⟩ = some (.slice ps p.sel.length cs) ∧ W.cell? ⟨w.heap.size, 4, none⟩ = some (.slice pn p.names.length cn)) := fun W hk => by
    have h := hbx W hk
    exact ⟨by rw [cell_of_row W _ 0 _ _ _ h]; rfl, by rw [cell_of_row W _ 1 _ _ _ h]; rfl, by rw [cell_of_row W _ 2 _ _ _ h]; rfl, by rw [cell_of_row W _ 3 _ _ _ h]; rfl, by rw [cell_of_row W _ 4 _ _ _ h]; rfl⟩
  have HK0 : Hid (Kp [] w (w.alloc (.cells #[.slice pc p.codes.length cc, .slice pg p.glob.length cg, .slice pf p.fams.length cf, .slice ps p.sel.length cs, .slice pn p.names.length cn] 26))) := (Kp.refl _ _).alloc _
  have HL0 := Lib.hid (HLG.out _ HK0.out)
  clear hin hbx hnl HLG
  go_enter Tryz.func3, Tryz.ntmps3
  go_wp2_with fail
  refine HL0.out.mono ?_; rintro e w1 ⟨b, rfl, k1⟩
  have K1 := Lib.hid k1
  clear k1 HL0
  obtain ⟨c0, c1, c2, c3, c4⟩ := HC.out _ K1.out
  cases b with
  | true =>
    go_wp2_with fail
    refine (HLV.out _).mono ?_; rintro e w2 ⟨rfl, k2⟩
    have K2 := Lib.hid (K1.out.trans k2)
    clear k2
    go_wp2_with fail
    go_ret
    exact ⟨rfl, HK0.out.trans K2.out⟩
  | false =>
    have HBU1 := Lib.hid (HBU.out w1 (HK0.out.trans K1.out))
    clear HBU
    cases hm : (mayC p && Ch.mayPut p.names 0) with
    | false =>
      rw [HB1.out hm] at HBU1
      have HM := Lib.hid hm
      clear hm
      go_wp2_with fail
      refine HBU1.out.mono ?_; rintro e w2 ⟨q2, d2, rfl, i2, k2, f2⟩
      have K2 := Lib.hid (K1.out.trans k2)
      clear i2 k2 f2 c0 c1 c2 c3 c4
      obtain ⟨c0, c1, c2, c3, c4⟩ := HC.out _ K2.out
      go_wp2_with fail
      refine (HLV.out _).mono ?_; rintro e w3 ⟨rfl, k3⟩
      have K3 := Lib.hid (K2.out.trans k3)
      clear k3 c0 c1 c2 c3 c4
      obtain ⟨c0, c1, c2, c3, c4⟩ := HC.out _ K3.out
      have HMY1 := Lib.hid (HMY.out w3 (HK0.out.trans K3.out))
      rw [HM.out] at HMY1
      go_wp2_with fail
      refine HMY1.out.mono ?_; rintro e w4 ⟨rfl, k4⟩
      have K4 := Lib.hid (K3.out.trans k4)
      clear k4
      go_wp2_with fail
      go_ret
      exact ⟨rfl, HK0.out.trans K4.out⟩
    | true =>
      have HM := Lib.hid hm
      cases hb : badB p (sizeT p) with
      | true =>
        rw [HB2.out hm hb] at HBU1
        have HBD := Lib.hid hb
        clear hm hb
        go_wp2_with fail
        refine HBU1.out.mono ?_; rintro e w2 ⟨q2, d2, rfl, i2, k2, f2⟩
        have K2 := Lib.hid (K1.out.trans k2)
        clear i2 k2 f2 c0 c1 c2 c3 c4
        obtain ⟨c0, c1, c2, c3, c4⟩ := HC.out _ K2.out
        go_wp2_with fail
        refine (HLV.out _).mono ?_; rintro e w3 ⟨rfl, k3⟩
        have K3 := Lib.hid (K2.out.trans k3)
        clear k3 c0 c1 c2 c3 c4
        obtain ⟨c0, c1, c2, c3, c4⟩ := HC.out _ K3.out
        have HMY1 := Lib.hid (HMY.out w3 (HK0.out.trans K3.out))
        rw [HM.out] at HMY1
        go_wp2_with fail
        refine HMY1.out.mono ?_; rintro e w4 ⟨rfl, k4⟩
        have K4 := Lib.hid (K3.out.trans k4)
        clear k4 c0 c1 c2 c3 c4
        obtain ⟨c0, c1, c2, c3, c4⟩ := HC.out _ K4.out
        have HRB1 := Lib.hid (HRB.out w4 (HK0.out.trans K4.out) (HAN.out HM.out).1 (HAN.out HM.out).2)
        go_wp2_with fail
        refine HRB1.out.mono ?_; rintro e w5 ⟨v5, rfl, k5, o5⟩
        rw [HBD.out]
        have K5 := Lib.hid (K4.out.trans k5)
        clear k5 o5
        go_wp2_with fail
        go_ret
        exact ⟨rfl, HK0.out.trans K5.out⟩
      | false =>
        rw [HB3.out hm hb] at HBU1
        have HBD := Lib.hid hb
        clear hm hb
        go_wp2_with fail
        refine HBU1.out.mono ?_; rintro e w2 ⟨q2, d2, rfl, i2, k2, f2⟩
        have K2 := Lib.hid (K1.out.trans k2)
        have I2 := Lib.hid (fun W (hk : Kp [] w2 W) => i2.kp (S := []) hk (by simp))
        clear i2 k2 f2 c0 c1 c2 c3 c4
        obtain ⟨c0, c1, c2, c3, c4⟩ := HC.out _ K2.out
        go_wp2_with fail
        refine (HLV.out _).mono ?_; rintro e w3 ⟨rfl, k3⟩
        have K3 := Lib.hid (K2.out.trans k3)
        have J3 := Lib.hid k3
        clear k3 c0 c1 c2 c3 c4
        obtain ⟨c0, c1, c2, c3, c4⟩ := HC.out _ K3.out
        have HMY1 := Lib.hid (HMY.out w3 (HK0.out.trans K3.out))
        rw [HM.out] at HMY1
        go_wp2_with fail
        refine HMY1.out.mono ?_; rintro e w4 ⟨rfl, k4⟩
        have K4 := Lib.hid (K3.out.trans k4)
        have J4 := Lib.hid (J3.out.trans k4)
        clear k4 c0 c1 c2 c3 c4
        obtain ⟨c0, c1, c2, c3, c4⟩ := HC.out _ K4.out
        have HRB1 := Lib.hid (HRB.out w4 (HK0.out.trans K4.out) (HAN.out HM.out).1 (HAN.out HM.out).2)
        go_wp2_with fail
        refine HRB1.out.mono ?_; rintro e w5 ⟨v5, rfl, k5, o5⟩
        rw [HBD.out]
        have K5 := Lib.hid (K4.out.trans k5)
        have hs1 := run_str _ _ _ (I2.out w5 (J4.out.trans k5))
        have hs2 := run_str _ _ _ (o5 HBD.out).ints
        obtain ⟨q5, d5, e5⟩ := (o5 HBD.out).form
        subst e5
        generalize toStr (outF p) = ST at *
        generalize (outF p).length = SL at *
        clear k5 o5
        go_wp2_with fail
        go_ret
        exact ⟨by first | rfl | simp, HK0.out.trans K5.out⟩
end Go.Proofs.YtlhkaoccnpgkeaaGreat

/- type2: Large. -/
import Derived.Test.YtfgpocpfapnkkaaGreatTzA
import Derived.Test.YtfgpocpfapnkkaaGreatTzB
namespace Go.Proofs.YtfgpocpfapnkkaaGreat
open Go.RowKit
set_option linter.unusedVariables false
set_option linter.unusedSimpArgs false
def sumT (L : List (List Int)) : Nat → Nat
  | 0 => 0
  | j + 1 => sumT L j + (L.getD j []).length
theorem sumT_le (L : List (List Int)) (B : Nat) (h : ∀ j, j < L.length → (L.getD j []).length ≤ B) : ∀ j, j ≤ L.length → sumT L j ≤ j * B := by
  intro j
  induction j with
  | zero => intro _; simp [sumT]
  | succ j ih => intro hj; have a := ih (by omega); have b := h j (by omega); rw [sumT, Nat.add_mul]; omega
def largeT (code : List Int) (G L : List (List Int)) (dr : List Int) : Bool :=
  decide (2500 < G.length) || decide (2500 < L.length) || decide (50000 < code.length + dr.length + sumT G (min G.length 3000) + sumT L (min L.length 3000))
theorem IsSub.form {w : World} {v : Value} {L : List (List Int)} (h : IsSub w v L) : ∃ p c, v = .slice p L.length c := by
  obtain ⟨vs, h1, h2⟩ := h
  rcases h1.2 with ⟨⟨ad, rfl⟩, h0⟩ | ⟨g, off, c, rfl, _⟩
  · exact ⟨_, _, by rw [h0]⟩
  · exact ⟨_, _, rfl⟩
theorem IsSub.row {w : World} {p : Option Addr} {n c : Nat} {L : List (List Int)} (h : IsSub w (.slice p n c) L) {i : Nat} (hi : i < L.length) : ∃ g off q cv, p = some ⟨g, off, none⟩ ∧ w.cell? ⟨g, off + i, none⟩ = some (.slice q (L.getD i []).length cv) := by
  obtain ⟨vs, h1, h2⟩ := h
  have hvl : vs.length = L.length := by have := h1.1; omega
  rcases h1.2 with ⟨⟨ad, h0⟩, h3⟩ | ⟨g, off, cc, h0, h3, h4, h5⟩
  · omega
  · have hp : p = some ⟨g, off, none⟩ := (Value.slice.inj h0).1
    have hc := h5 i _ (by rw [List.getElem?_eq_getElem (by omega)])
    have hb := (h2 i hi).1
    rw [List.getD_eq_getElem?_getD, List.getElem?_eq_getElem (by omega)] at hb
    rcases hb with ⟨⟨ad, q1⟩, q2⟩ | ⟨g2, off2, cc2, q1, _⟩
    · exact ⟨g, off, _, _, hp, by rw [hc]; have q1' : vs[i] = _ := q1; rw [q1', q2]; rfl⟩
    · exact ⟨g, off, _, _, hp, by rw [hc]; have q1' : vs[i] = _ := q1; rw [q1']⟩
set_option maxRecDepth 100000 in
set_option maxHeartbeats 8000000 in
theorem large18_calls (pc : Option Addr) (cc : Nat) (code : List Int) (gv lv : Value) (G L : List (List Int)) (d nm : Int) (pd : Option Addr) (cd : Nat) (dr : List Int) (w : World) (hG : IsSub w gv G) (hL : IsSub w lv L)
    (hc : code.length ≤ 140737488355328) (hd : dr.length ≤ 140737488355328) (hbG : ∀ j, j < G.length → (G.getD j []).length ≤ 140737488355328) (hbL : ∀ j, j < L.length → (L.getD j []).length ≤ 140737488355328) (hnG : G.length ≤ 140737488355328) (hnL : L.length ≤ 140737488355328) :
    Calls Tryz.prog 8 #[.agg #[.slice pc code.length cc, gv, lv, .int .i64 d, .int .i64 nm, .slice pd dr.length cd]] w fun e w' => e = .returned (.bool (largeT code G L dr)) ∧ Kp [] w w' := by
  obtain ⟨pG, cG, rfl⟩ := hG.form
  obtain ⟨pL, cL, rfl⟩ := hL.form
  have HG := Lib.hid hG
  have HL := Lib.hid hL
  have HCG := Lib.hid (fun j hj (h3 : j ≤ 3000) => (show sumT G j ≤ 450359962737049600 from Nat.le_trans (sumT_le G _ hbG j hj) (by omega)))
  have HCL := Lib.hid (fun j hj (h3 : j ≤ 3000) => (show sumT L j ≤ 450359962737049600 from Nat.le_trans (sumT_le L _ hbL j hj) (by omega)))
  have HR : Hid (largeT code G L dr = (decide (2500 < G.length) || decide (2500 < L.length) || decide (50000 < code.length + dr.length + sumT G (min G.length 3000) + sumT L (min L.length 3000)))) := rfl
  generalize largeT code G L dr = R at *
  obtain ⟨NG, hNG⟩ : ∃ N, G.length = N := ⟨_, rfl⟩
  obtain ⟨NL, hNL⟩ : ∃ N, L.length = N := ⟨_, rfl⟩
  have HNG := Lib.hid hNG
  have HNL := Lib.hid hNL
  rw [hNG] at HG HCG HR hnG ⊢
  rw [hNL] at HL HCL HR hnL ⊢
  obtain ⟨C, hC⟩ : ∃ C, code.length = C := ⟨_, rfl⟩
  obtain ⟨D, hD⟩ : ∃ D, dr.length = D := ⟨_, rfl⟩
  rw [hC, hD] at HR ⊢
  rw [hC] at hc
  rw [hD] at hd
  obtain ⟨MG, hMG⟩ : ∃ M, min NG 3000 = M := ⟨_, rfl⟩
  obtain ⟨ML, hML⟩ : ∃ M, min NL 3000 = M := ⟨_, rfl⟩
  rw [hMG, hML] at HR
  have hg1 : MG ≤ NG := by omega
  have hg2 : MG ≤ 3000 := by omega
  have hg3 : MG = NG ∨ MG = 3000 := by omega
  have hl1 : ML ≤ NL := by omega
  have hl2 : ML ≤ 3000 := by omega
  have hl3 : ML = NL ∨ ML = 3000 := by omega
  clear hG hL hbG hbL hNG hNL hC hD hMG hML
  go_enter Tryz.func8, Tryz.ntmps8
  go_upto_region 1 with fail
  refine wp_genT ?_; intro W1 hW1
  have hb0 : W1.heap[w.heap.size]? = some (.cells #[.slice pc C cc, .slice pG NG cG, .slice pL NL cL, .int .i64 d, .int .i64 nm, .slice pd D cd] 26 (0, 0)) := by rw [hW1]; exact heap_alloc_new w _
  have HK1 : Hid (Kp [] w W1) := by show Kp [] _ _; rw [hW1]; exact (Kp.refl _ _).alloc _
  generalize w.heap.size = X at *
  have k0 : W1.cell? ⟨X, 0, none⟩ = some (.slice pc C cc) := cell_of_row W1 X 0 _ _ _ hb0
  have k1 : W1.cell? ⟨X, 1, none⟩ = some (.slice pG NG cG) := cell_of_row W1 X 1 _ _ _ hb0
  have k2 : W1.cell? ⟨X, 2, none⟩ = some (.slice pL NL cL) := cell_of_row W1 X 2 _ _ _ hb0
  have k5 : W1.cell? ⟨X, 5, none⟩ = some (.slice pd D cd) := cell_of_row W1 X 5 _ _ _ hb0
  clear hW1 hb0
  go_wp2_with fail
  go_loopw [3, 4] (fun nv iv wr => ∃ j : Nat, j ≤ MG ∧ iv = .int .i64 j ∧ nv = .int .i64 (((C + D) + sumT G j : Nat)) ∧ wr = W1) (fun _ iv _ => MG - (intOf iv).toNat)
  case atStart => exact ⟨0, by omega, rfl, int_eq' (by simp [sumT]), rfl⟩
  case round =>
    obtain ⟨j, hj, rfl, rfl, rfl⟩ := hrel
    by_cases hlt : j < MG
    · obtain ⟨g1, o1, p1, cv1, e1, h1⟩ := HG.out.row (i := j) (by rw [HNG.out]; omega)
      obtain rfl : pG = some ⟨g1, o1, none⟩ := e1
      have hs : Hid (sumT G (j + 1) = sumT G j + (G.getD j []).length) := rfl
      have hb := HCG.out (j + 1) (by omega) (by omega)
      have hb2 : sumT G j + (G.getD j []).length ≤ 450359962737049600 := by rw [← hs.out]; exact hb
      have c1 := HK1.out.cell h1 (by simp)
      have hjN : (j : Int) < (NG : Int) := by omega
      have hj3 : (j : Int) < 3000 := by omega
      generalize (G.getD j []).length = Lj at *
      generalize sumT G j = A at *
      clear hb h1
      go_wp2_with fail
      go_roundw
      case rel => first | exact ⟨j + 1, by omega, int_eq' (by omega), int_eq' (by rw [hs.out]; omega), by first | rfl | trivial⟩ | ((repeat apply Exists.intro); exact ⟨⟨j + 1, by omega, int_eq' (by omega), int_eq' (by rw [hs.out]; omega), by first | rfl | trivial⟩, rfl⟩)
      case measure => simp [intOf]; omega
    · obtain rfl : j = MG := by omega
      have hbG := HCG.out j hg1 hg2
      generalize sumT G j = SG at *
      clear hlt hj
      rcases hg3 with rfl | rfl
      · clear hg1 hg2
        go_wp2_with fail
        go_loopw [3, 5] (fun nv iv wq => ∃ j2 : Nat, j2 ≤ ML ∧ iv = .int .i64 j2 ∧ nv = .int .i64 ((C + D + SG + sumT L j2 : Nat)) ∧ wq = wr) (fun _ iv _ => ML - (intOf iv).toNat)
        case atStart => exact ⟨0, by omega, rfl, int_eq' (by simp [sumT]), rfl⟩
        case round =>
          obtain ⟨j2, hj2, rfl, rfl, rfl⟩ := hrel
          by_cases hlt2 : j2 < ML
          · obtain ⟨g1, o1, p1, cv1, e1, h1⟩ := HL.out.row (i := j2) (by rw [HNL.out]; omega)
            obtain rfl : pL = some ⟨g1, o1, none⟩ := e1
            have hs : Hid (sumT L (j2 + 1) = sumT L j2 + (L.getD j2 []).length) := rfl
            have hb := HCL.out (j2 + 1) (by omega) (by omega)
            have hb2 : sumT L j2 + (L.getD j2 []).length ≤ 450359962737049600 := by rw [← hs.out]; exact hb
            have c1 := HK1.out.cell h1 (by simp)
            have hjN : (j2 : Int) < (NL : Int) := by omega
            have hj3 : (j2 : Int) < 3000 := by omega
            generalize (L.getD j2 []).length = Lj at *
            generalize sumT L j2 = A at *
            clear hb h1
            go_wp2_with fail
            go_roundw
            case rel => first | exact ⟨j2 + 1, by omega, int_eq' (by omega), int_eq' (by rw [hs.out]; omega), by first | rfl | trivial⟩ | ((repeat apply Exists.intro); exact ⟨⟨j2 + 1, by omega, int_eq' (by omega), int_eq' (by rw [hs.out]; omega), by first | rfl | trivial⟩, rfl⟩)
            case measure => simp [intOf]; omega
          · obtain rfl : j2 = ML := by omega
            have hbL := HCL.out j2 hl1 hl2
            generalize sumT L j2 = SL at *
            clear hlt2 hj2
            rcases hl3 with rfl | rfl
            · clear hl1 hl2
              by_cases hG25 : 2500 < j
              · have e1 : decide ((2500 : Int) < (j : Int)) = true := decide_eq_true (by omega)
                have HF : Hid (R = true) := by show _ = _; rw [HR.out, decide_eq_true hG25]; rfl
                clear hG25
                go_wp2_with fail
                go_ret
                exact ⟨by rw [HF.out]; rfl, HK1.out⟩
              · have e1 : decide ((2500 : Int) < (j : Int)) = false := decide_eq_false (by omega)
                by_cases hL25 : 2500 < j2
                · have e2 : decide ((2500 : Int) < (j2 : Int)) = true := decide_eq_true (by omega)
                  have HF : Hid (R = true) := by show _ = _; rw [HR.out, decide_eq_false hG25, decide_eq_true hL25]; rfl
                  clear hG25 hL25
                  go_wp2_with fail
                  go_ret
                  exact ⟨by rw [HF.out]; rfl, HK1.out⟩
                · have e2 : decide ((2500 : Int) < (j2 : Int)) = false := decide_eq_false (by omega)
                  have e3 : decide ((50000 : Int) < (C : Int) + (D : Int) + (SG : Int) + (SL : Int)) = decide (50000 < C + D + SG + SL) := decide_eq_decide.2 (by omega)
                  have HF : Hid (R = decide (50000 < C + D + SG + SL)) := by show _ = _; rw [HR.out, decide_eq_false hG25, decide_eq_false hL25]; rfl
                  have HE3 := Lib.hid e3
                  clear hG25 hL25 e3
                  generalize decide (50000 < C + D + SG + SL) = BB at *
                  go_wp2_with fail
                  go_ret
                  exact ⟨by rw [HF.out, ← HE3.out]; simp, HK1.out⟩
            · by_cases hln : (3000 : Int) < (NL : Int)
              · clear hl1 hl2
                by_cases hG25 : 2500 < j
                · have e1 : decide ((2500 : Int) < (j : Int)) = true := decide_eq_true (by omega)
                  have HF : Hid (R = true) := by show _ = _; rw [HR.out, decide_eq_true hG25]; rfl
                  clear hG25
                  go_wp2_with fail
                  go_ret
                  exact ⟨by rw [HF.out]; rfl, HK1.out⟩
                · have e1 : decide ((2500 : Int) < (j : Int)) = false := decide_eq_false (by omega)
                  by_cases hL25 : 2500 < NL
                  · have e2 : decide ((2500 : Int) < (NL : Int)) = true := decide_eq_true (by omega)
                    have HF : Hid (R = true) := by show _ = _; rw [HR.out, decide_eq_false hG25, decide_eq_true hL25]; rfl
                    clear hG25 hL25
                    go_wp2_with fail
                    go_ret
                    exact ⟨by rw [HF.out]; rfl, HK1.out⟩
                  · have e2 : decide ((2500 : Int) < (NL : Int)) = false := decide_eq_false (by omega)
                    have e3 : decide ((50000 : Int) < (C : Int) + (D : Int) + (SG : Int) + (SL : Int)) = decide (50000 < C + D + SG + SL) := decide_eq_decide.2 (by omega)
                    have HF : Hid (R = decide (50000 < C + D + SG + SL)) := by show _ = _; rw [HR.out, decide_eq_false hG25, decide_eq_false hL25]; rfl
                    have HE3 := Lib.hid e3
                    clear hG25 hL25 e3
                    generalize decide (50000 < C + D + SG + SL) = BB at *
                    go_wp2_with fail
                    go_ret
                    exact ⟨by rw [HF.out, ← HE3.out]; simp, HK1.out⟩
              · obtain rfl : NL = 3000 := by omega
                clear hl1 hl2 hln
                by_cases hG25 : 2500 < j
                · have e1 : decide ((2500 : Int) < (j : Int)) = true := decide_eq_true (by omega)
                  have HF : Hid (R = true) := by show _ = _; rw [HR.out, decide_eq_true hG25]; rfl
                  clear hG25
                  go_wp2_with fail
                  go_ret
                  exact ⟨by rw [HF.out]; rfl, HK1.out⟩
                · have e1 : decide ((2500 : Int) < (j : Int)) = false := decide_eq_false (by omega)
                  have e2 : decide ((2500 : Int) < 3000) = true := by decide
                  clear hG25
                  have HF : Hid (R = true) := by show _ = _; rw [HR.out]; simp
                  go_wp2_with fail
                  go_ret
                  exact ⟨by rw [HF.out]; rfl, HK1.out⟩
      · by_cases hgn : (3000 : Int) < (NG : Int)
        · clear hg1 hg2
          go_wp2_with fail
          go_loopw [3, 5] (fun nv iv wq => ∃ j2 : Nat, j2 ≤ ML ∧ iv = .int .i64 j2 ∧ nv = .int .i64 ((C + D + SG + sumT L j2 : Nat)) ∧ wq = wr) (fun _ iv _ => ML - (intOf iv).toNat)
          case atStart => exact ⟨0, by omega, rfl, int_eq' (by simp [sumT]), rfl⟩
          case round =>
            obtain ⟨j2, hj2, rfl, rfl, rfl⟩ := hrel
            by_cases hlt2 : j2 < ML
            · obtain ⟨g1, o1, p1, cv1, e1, h1⟩ := HL.out.row (i := j2) (by rw [HNL.out]; omega)
              obtain rfl : pL = some ⟨g1, o1, none⟩ := e1
              have hs : Hid (sumT L (j2 + 1) = sumT L j2 + (L.getD j2 []).length) := rfl
              have hb := HCL.out (j2 + 1) (by omega) (by omega)
              have hb2 : sumT L j2 + (L.getD j2 []).length ≤ 450359962737049600 := by rw [← hs.out]; exact hb
              have c1 := HK1.out.cell h1 (by simp)
              have hjN : (j2 : Int) < (NL : Int) := by omega
              have hj3 : (j2 : Int) < 3000 := by omega
              generalize (L.getD j2 []).length = Lj at *
              generalize sumT L j2 = A at *
              clear hb h1
              go_wp2_with fail
              go_roundw
              case rel => first | exact ⟨j2 + 1, by omega, int_eq' (by omega), int_eq' (by rw [hs.out]; omega), by first | rfl | trivial⟩ | ((repeat apply Exists.intro); exact ⟨⟨j2 + 1, by omega, int_eq' (by omega), int_eq' (by rw [hs.out]; omega), by first | rfl | trivial⟩, rfl⟩)
              case measure => simp [intOf]; omega
            · obtain rfl : j2 = ML := by omega
              have hbL := HCL.out j2 hl1 hl2
              generalize sumT L j2 = SL at *
              clear hlt2 hj2
              rcases hl3 with rfl | rfl
              · clear hl1 hl2
                by_cases hG25 : 2500 < NG
                · have e1 : decide ((2500 : Int) < (NG : Int)) = true := decide_eq_true (by omega)
                  have HF : Hid (R = true) := by show _ = _; rw [HR.out, decide_eq_true hG25]; rfl
                  clear hG25
                  go_wp2_with fail
                  go_ret
                  exact ⟨by rw [HF.out]; rfl, HK1.out⟩
                · have e1 : decide ((2500 : Int) < (NG : Int)) = false := decide_eq_false (by omega)
                  by_cases hL25 : 2500 < j2
                  · have e2 : decide ((2500 : Int) < (j2 : Int)) = true := decide_eq_true (by omega)
                    have HF : Hid (R = true) := by show _ = _; rw [HR.out, decide_eq_false hG25, decide_eq_true hL25]; rfl
                    clear hG25 hL25
                    go_wp2_with fail
                    go_ret
                    exact ⟨by rw [HF.out]; rfl, HK1.out⟩
                  · have e2 : decide ((2500 : Int) < (j2 : Int)) = false := decide_eq_false (by omega)
                    have e3 : decide ((50000 : Int) < (C : Int) + (D : Int) + (SG : Int) + (SL : Int)) = decide (50000 < C + D + SG + SL) := decide_eq_decide.2 (by omega)
                    have HF : Hid (R = decide (50000 < C + D + SG + SL)) := by show _ = _; rw [HR.out, decide_eq_false hG25, decide_eq_false hL25]; rfl
                    have HE3 := Lib.hid e3
                    clear hG25 hL25 e3
                    generalize decide (50000 < C + D + SG + SL) = BB at *
                    go_wp2_with fail
                    go_ret
                    exact ⟨by rw [HF.out, ← HE3.out]; simp, HK1.out⟩
              · by_cases hln : (3000 : Int) < (NL : Int)
                · clear hl1 hl2
                  by_cases hG25 : 2500 < NG
                  · have e1 : decide ((2500 : Int) < (NG : Int)) = true := decide_eq_true (by omega)
                    have HF : Hid (R = true) := by show _ = _; rw [HR.out, decide_eq_true hG25]; rfl
                    clear hG25
                    go_wp2_with fail
                    go_ret
                    exact ⟨by rw [HF.out]; rfl, HK1.out⟩
                  · have e1 : decide ((2500 : Int) < (NG : Int)) = false := decide_eq_false (by omega)
                    by_cases hL25 : 2500 < NL
                    · have e2 : decide ((2500 : Int) < (NL : Int)) = true := decide_eq_true (by omega)
                      have HF : Hid (R = true) := by show _ = _; rw [HR.out, decide_eq_false hG25, decide_eq_true hL25]; rfl
                      clear hG25 hL25
                      go_wp2_with fail
                      go_ret
                      exact ⟨by rw [HF.out]; rfl, HK1.out⟩
                    · have e2 : decide ((2500 : Int) < (NL : Int)) = false := decide_eq_false (by omega)
                      have e3 : decide ((50000 : Int) < (C : Int) + (D : Int) + (SG : Int) + (SL : Int)) = decide (50000 < C + D + SG + SL) := decide_eq_decide.2 (by omega)
                      have HF : Hid (R = decide (50000 < C + D + SG + SL)) := by show _ = _; rw [HR.out, decide_eq_false hG25, decide_eq_false hL25]; rfl
                      have HE3 := Lib.hid e3
                      clear hG25 hL25 e3
                      generalize decide (50000 < C + D + SG + SL) = BB at *
                      go_wp2_with fail
                      go_ret
                      exact ⟨by rw [HF.out, ← HE3.out]; simp, HK1.out⟩
                · obtain rfl : NL = 3000 := by omega
                  clear hl1 hl2 hln
                  by_cases hG25 : 2500 < NG
                  · have e1 : decide ((2500 : Int) < (NG : Int)) = true := decide_eq_true (by omega)
                    have HF : Hid (R = true) := by show _ = _; rw [HR.out, decide_eq_true hG25]; rfl
                    clear hG25
                    go_wp2_with fail
                    go_ret
                    exact ⟨by rw [HF.out]; rfl, HK1.out⟩
                  · have e1 : decide ((2500 : Int) < (NG : Int)) = false := decide_eq_false (by omega)
                    have e2 : decide ((2500 : Int) < 3000) = true := by decide
                    clear hG25
                    have HF : Hid (R = true) := by show _ = _; rw [HR.out]; simp
                    go_wp2_with fail
                    go_ret
                    exact ⟨by rw [HF.out]; rfl, HK1.out⟩
        · obtain rfl : NG = 3000 := by omega
          clear hg1 hg2 hgn
          go_wp2_with fail
          go_loopw [3, 5] (fun nv iv wq => ∃ j2 : Nat, j2 ≤ ML ∧ iv = .int .i64 j2 ∧ nv = .int .i64 ((C + D + SG + sumT L j2 : Nat)) ∧ wq = wr) (fun _ iv _ => ML - (intOf iv).toNat)
          case atStart => exact ⟨0, by omega, rfl, int_eq' (by simp [sumT]), rfl⟩
          case round =>
            obtain ⟨j2, hj2, rfl, rfl, rfl⟩ := hrel
            by_cases hlt2 : j2 < ML
            · obtain ⟨g1, o1, p1, cv1, e1, h1⟩ := HL.out.row (i := j2) (by rw [HNL.out]; omega)
              obtain rfl : pL = some ⟨g1, o1, none⟩ := e1
              have hs : Hid (sumT L (j2 + 1) = sumT L j2 + (L.getD j2 []).length) := rfl
              have hb := HCL.out (j2 + 1) (by omega) (by omega)
              have hb2 : sumT L j2 + (L.getD j2 []).length ≤ 450359962737049600 := by rw [← hs.out]; exact hb
              have c1 := HK1.out.cell h1 (by simp)
              have hjN : (j2 : Int) < (NL : Int) := by omega
              have hj3 : (j2 : Int) < 3000 := by omega
              generalize (L.getD j2 []).length = Lj at *
              generalize sumT L j2 = A at *
              clear hb h1
              go_wp2_with fail
              go_roundw
              case rel => first | exact ⟨j2 + 1, by omega, int_eq' (by omega), int_eq' (by rw [hs.out]; omega), by first | rfl | trivial⟩ | ((repeat apply Exists.intro); exact ⟨⟨j2 + 1, by omega, int_eq' (by omega), int_eq' (by rw [hs.out]; omega), by first | rfl | trivial⟩, rfl⟩)
              case measure => simp [intOf]; omega
            · obtain rfl : j2 = ML := by omega
              have hbL := HCL.out j2 hl1 hl2
              generalize sumT L j2 = SL at *
              clear hlt2 hj2
              rcases hl3 with rfl | rfl
              · clear hl1 hl2
                have e1 : decide ((2500 : Int) < 3000) = true := by decide
                have HF : Hid (R = true) := by show _ = _; rw [HR.out]; simp
                go_wp2_with fail
                go_ret
                exact ⟨by rw [HF.out]; rfl, HK1.out⟩
              · by_cases hln : (3000 : Int) < (NL : Int)
                · clear hl1 hl2
                  have e1 : decide ((2500 : Int) < 3000) = true := by decide
                  have HF : Hid (R = true) := by show _ = _; rw [HR.out]; simp
                  go_wp2_with fail
                  go_ret
                  exact ⟨by rw [HF.out]; rfl, HK1.out⟩
                · obtain rfl : NL = 3000 := by omega
                  clear hl1 hl2 hln
                  have e1 : decide ((2500 : Int) < 3000) = true := by decide
                  have HF : Hid (R = true) := by show _ = _; rw [HR.out]; simp
                  go_wp2_with fail
                  go_ret
                  exact ⟨by rw [HF.out]; rfl, HK1.out⟩
end Go.Proofs.YtfgpocpfapnkkaaGreat

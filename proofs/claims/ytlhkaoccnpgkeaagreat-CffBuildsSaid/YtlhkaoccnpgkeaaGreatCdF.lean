/- cff: may parts be built (the reference's) · cff: rows of bytes that lie apart, one of which grows (the reference's building of a table) · cff: Build as the reference has it (written by gencbt.py). (Merged by wip/tools/mergetpl.py out of CbR, CbS, CbT.) -/
import Derived.Test.YtlhkaoccnpgkeaaGreatCdE
import Derived.BigQuiet
import Derived.Lib.SlBytesConst
namespace Go.Proofs.YtlhkaoccnpgkeaaGreat
open Go.RowKit
set_option linter.unusedVariables false
set_option linter.unusedSimpArgs false
theorem all_getD {α : Type} (l : List α) (p : α → Bool) (z : α) : l.all p = true ↔ ∀ i, i < l.length → p (l.getD i z) = true := by
  rw [List.all_eq_true]
  constructor
  · intro h i hi
    exact h _ (by rw [List.getD_eq_getElem?_getD, List.getElem?_eq_getElem hi]; exact List.getElem_mem _)
  · intro h x hx
    obtain ⟨i, hi, rfl⟩ := List.mem_iff_getElem.1 hx
    have := h i hi
    rwa [List.getD_eq_getElem?_getD, List.getElem?_eq_getElem hi] at this
set_option maxRecDepth 100000 in
set_option maxHeartbeats 8000000 in
theorem rmay19_calls (vc vg vf vs vn : Value) (p : CffP) (w : World) (hin : CffIn w vc vg vf vs vn p) :
    Calls Tryz.prog 9 #[.agg #[vc, vg, vf, vs, vn]] w fun e w' => e = .returned (.bool (mayC p && Ch.mayPut p.names 0)) ∧ Kp [] w w' := by
  have HIN := Lib.hid (fun W (hk : Kp [] w W) => hin.kp0 hk)
  have hkl := hin.fams.len
  have hsl := hin.sel.le
  unfold maxLen at hsl
  obtain ⟨pc, cc, rfl⟩ := hin.codes.form
  obtain ⟨pg, cg, rfl⟩ := hin.glob.form
  obtain ⟨pf, cf, rfl⟩ := hin.fams.form
  obtain ⟨ps, cs, rfl⟩ := hin.sel.form
  obtain ⟨pn, cn, rfl⟩ := hin.names.form
  have HM : Hid (mayC p = (decide (1 ≤ p.codes.length) && decide (p.codes.length ≤ 65535) && decide (1 ≤ p.fams.length) && decide (p.fams.length ≤ 256) && decide (p.names.length = p.codes.length) && decide (p.sel.length = 0 → p.fams.length ≤ 1) && decide (p.sel.length ≠ 0 → p.sel.length = p.codes.length) && p.sel.all (Ch.inB ((p.fams.length : Int) - 1)) && p.fams.all famOk)) := rfl
  have HA1 := Lib.hid (all_getD p.sel (Ch.inB ((p.fams.length : Int) - 1)) 0)
  have HA2 := Lib.hid (all_getD p.fams famOk fam0)
  have hk0 : Kp [] w (w.alloc (.cells #[.slice pc p.codes.length cc, .slice pg p.glob.length cg, .slice pf p.fams.length cf, .slice ps p.sel.length cs, .slice pn p.names.length cn] 26)) := (Kp.refl _ _).alloc _
  have hbx := heap_alloc_new w (.cells #[.slice pc p.codes.length cc, .slice pg p.glob.length cg, .slice pf p.fams.length cf, .slice ps p.sel.length cs, .slice pn p.names.length cn] 26)
  have HBX := Lib.hid hbx
  have HK0 := Lib.hid hk0
  have HC : Hid (∀ W, Kp [] (w.alloc (.cells #[.slice pc p.codes.length cc, .slice pg p.glob.length cg, .slice pf p.fams.length cf, .slice ps p.sel.length cs, .slice pn p.names.length cn] 26)) W → W.cell? ⟨w.heap.size, 0, none⟩ = some (.slice pc p.codes.length cc) ∧ W.cell? ⟨w.heap.size, 2, none⟩ = some (.slice pf p.fams.length cf) ∧ W.cell? ⟨w.heap.size, 3, none⟩ = some (.slice ps p.sel.length cs) ∧ W.cell? ⟨w.heap.size, 4, none⟩ = some (.slice pn p.names.length cn)) := fun W hk => by
    have h := hk.heap HBX.out (by simp)
    exact ⟨by rw [cell_of_row W _ 0 _ _ _ h]; rfl, by rw [cell_of_row W _ 2 _ _ _ h]; rfl, by rw [cell_of_row W _ 3 _ _ _ h]; rfl, by rw [cell_of_row W _ 4 _ _ _ h]; rfl⟩
  have HMP := Lib.hid (fun (W : World) (hk : Kp [] w W) => Ch.rmayput_calls (.slice pn p.names.length cn) p.names 0 W (hin.names.kp hk (by simp)))
  clear hin hbx hk0
  generalize mayC p = R at *
  generalize Ch.mayPut p.names 0 = MP at *
  go_enter Tryz.func9, Tryz.ntmps9
  go_wp2_with fail
  refine wp_gen ?_; intro W0 hW0
  have hk0 : Kp [] (w.alloc (.cells #[.slice pc p.codes.length cc, .slice pg p.glob.length cg, .slice pf p.fams.length cf, .slice ps p.sel.length cs, .slice pn p.names.length cn] 26)) W0 := by rw [hW0]; exact Kp.refl _ _
  have HKW := Lib.hid hk0
  obtain ⟨c0, c2, c3, c4⟩ := HC.out W0 hk0
  clear hW0 hk0
  have HWR : Hid (Kp [] w W0) := HK0.out.trans HKW.out
  have HMQ := Lib.hid (HMP.out W0 HWR.out)
  go_quiet (fail)
  have hkd : Kp [] W0 (W0.drewN nq) := (Kp.refl _ _).drewN _
  generalize W0.drewN nq = W1 at *
  have HW1 : Hid (Kp [] w W1) := HWR.out.trans hkd
  obtain ⟨c0, c2, c3, c4⟩ : _ := HC.out W1 (HKW.out.trans hkd)
  have HMQ := Lib.hid (HMP.out W1 HW1.out)
  have HFI := Lib.hid (HIN.out W1 HW1.out).fams
  have HSI := Lib.hid (HIN.out W1 HW1.out).sel
  have HKX := Lib.hid (HKW.out.trans hkd)
  clear hkd c0
  obtain ⟨n, hn⟩ : ∃ n, p.codes.length = n := ⟨_, rfl⟩
  obtain ⟨k, hk⟩ : ∃ k, p.fams.length = k := ⟨_, rfl⟩
  obtain ⟨nn, hnn⟩ : ∃ n, p.names.length = n := ⟨_, rfl⟩
  obtain ⟨ns, hns⟩ : ∃ n, p.sel.length = n := ⟨_, rfl⟩
  have HK' := Lib.hid hk
  have HN' := Lib.hid hns
  rw [hn, hk, hnn, hns] at HM
  rw [hns] at HA1
  rw [hk] at HA1 HA2
  simp only [hn, hk, hnn, hns] at c2 c3 c4 hkl hsl
  simp only [hn, hk, hnn, hns] at HMQ
  rw [hn, hk, hnn, hns]
  have NO : Hid (n < 1 ∨ 65535 < n ∨ k < 1 ∨ 256 < k ∨ (ns = 0 ∧ 1 < k) ∨ (ns ≠ 0 ∧ ns ≠ n) ∨ nn ≠ n ∨ MP = false → (R && MP) = false) := fun h => by
    rcases h with h | h | h | h | h | h | h | h
    iterate 7 (rw [show R = false from by rw [HM.out]; simp only [Bool.and_eq_false_iff, decide_eq_false_iff_not]; omega]; rfl)
    rw [h]; simp
  have YES : Hid (1 ≤ n → n ≤ 65535 → 1 ≤ k → k ≤ 256 → nn = n → (ns = 0 → k ≤ 1) → (ns ≠ 0 → ns = n) → MP = true → (R && MP) = (p.sel.all (Ch.inB ((k : Int) - 1)) && p.fams.all famOk)) := fun h1 h2 h3 h4 h5 h6 h7 h8 => by
    rw [HM.out, h8, decide_eq_true h1, decide_eq_true h2, decide_eq_true h3, decide_eq_true h4, decide_eq_true h5, decide_eq_true h6, decide_eq_true h7]
    simp
  clear HM hn hk hnn hns
  go_upto_region 2 with fail
  go_cut [63] (fun s wx => ∃ b : Bool, s = .bool b ∧ Hid (b = true → (R && MP) = false) ∧ Hid (b = false → (R && MP) = (p.sel.all (Ch.inB ((k : Int) - 1)) && p.fams.all famOk) ∧ 1 ≤ k ∧ k ≤ 256 ∧ ns ≤ 65535) ∧ W1 = wx)
  case first =>
    by_cases q1 : n < 1
    · have HR := Lib.hid (NO.out (.inl q1))
      go_wp2_with fail
      go_meet
      exact ⟨true, rfl, fun _ => HR.out, fun h => (by cases h), rfl⟩
    by_cases q2 : 65535 < n
    · have HR := Lib.hid (NO.out (.inr (.inl q2)))
      go_wp2_with fail
      go_meet
      exact ⟨true, rfl, fun _ => HR.out, fun h => (by cases h), rfl⟩
    by_cases q3 : k < 1
    · have HR := Lib.hid (NO.out (.inr (.inr (.inl q3))))
      go_wp2_with fail
      go_meet
      exact ⟨true, rfl, fun _ => HR.out, fun h => (by cases h), rfl⟩
    by_cases q4 : 256 < k
    · have HR := Lib.hid (NO.out (.inr (.inr (.inr (.inl q4)))))
      go_wp2_with fail
      go_meet
      exact ⟨true, rfl, fun _ => HR.out, fun h => (by cases h), rfl⟩
    by_cases q5 : ns = 0 ∧ 1 < k
    · obtain ⟨rfl, q5⟩ := q5
      have HR := Lib.hid (NO.out (.inr (.inr (.inr (.inr (.inl ⟨rfl, q5⟩))))))
      go_wp2_with fail
      go_meet
      exact ⟨true, rfl, fun _ => HR.out, fun h => (by cases h), rfl⟩
    by_cases q6 : ns ≠ 0 ∧ ns ≠ n
    · obtain ⟨q6, q7⟩ := q6
      have d0 : decide (0 < ns) = true := decide_eq_true (by omega)
      have d1 : ((ns : Int) == 0) = false := by rw [beq_eq_false_iff_ne]; omega
      have d5 : ((ns : Int) == (n : Int)) = false := by rw [beq_eq_false_iff_ne]; omega
      have d6 : ((ns : Int) != (n : Int)) = true := by rw [bne, d5]; rfl
      have HR := Lib.hid (NO.out (.inr (.inr (.inr (.inr (.inr (.inl ⟨q6, q7⟩)))))))
      go_wp2_with fail
      go_meet
      exact ⟨true, rfl, fun _ => HR.out, fun h => (by cases h), rfl⟩
    by_cases q7 : ns = 0
    · have d0 : decide (0 < ns) = false := decide_eq_false (by omega)
      have d1 : ((ns : Int) == 0) = true := by rw [beq_iff_eq]; omega
      have e5 : decide ((1 : Int) < (k : Int)) = false := decide_eq_false (by omega)
      have e6 : decide (1 < k) = false := decide_eq_false (by omega)
      clear q7
      have e1 : decide ((n : Int) < 1) = false := decide_eq_false (by omega)
      have e2 : decide ((65535 : Int) < (n : Int)) = false := decide_eq_false (by omega)
      have e3 : decide ((k : Int) < 1) = false := decide_eq_false (by omega)
      have e4 : decide ((256 : Int) < (k : Int)) = false := decide_eq_false (by omega)
      by_cases q8 : nn ≠ n
      · have d5 : ((nn : Int) == (n : Int)) = false := by rw [beq_eq_false_iff_ne]; omega
        have d6 : ((nn : Int) != (n : Int)) = true := by rw [bne, d5]; rfl
        have HR := Lib.hid (NO.out (.inr (.inr (.inr (.inr (.inr (.inr (.inl q8))))))))
        go_wp2_with fail
        go_meet
        exact ⟨true, rfl, fun _ => HR.out, fun h => (by cases h), rfl⟩
      have d5 : ((nn : Int) == (n : Int)) = true := by rw [beq_iff_eq]; omega
      have d6 : ((nn : Int) != (n : Int)) = false := by rw [bne, d5]; rfl
      have YY := Lib.hid (YES.out (by omega) (by omega) (by omega) (by omega) (by omega) (by omega) (by omega))
      have NN := Lib.hid (fun h => NO.out (.inr (.inr (.inr (.inr (.inr (.inr (.inr h))))))))
      have HBN : Hid (1 ≤ k ∧ k ≤ 256 ∧ ns ≤ 65535) := ⟨by omega, by omega, by omega⟩
      clear q8 YES NO
      go_wp2_with fail
      refine HMQ.out.mono ?_; rintro e w2 ⟨rfl, rfl⟩
      go_wp2_with fail
      go_meet
      exact ⟨!MP, by first | rfl | simp, fun h => NN.out (by simpa using h), fun h => ⟨YY.out (by simpa using h), HBN.out⟩, rfl⟩
    · have d0 : decide (0 < ns) = true := decide_eq_true (by omega)
      have d1 : ((ns : Int) == 0) = false := by rw [beq_eq_false_iff_ne]; omega
      have g5 : ((ns : Int) == (n : Int)) = true := by rw [beq_iff_eq]; omega
      have g6 : ((ns : Int) != (n : Int)) = false := by rw [bne, g5]; rfl
      have e1 : decide ((n : Int) < 1) = false := decide_eq_false (by omega)
      have e2 : decide ((65535 : Int) < (n : Int)) = false := decide_eq_false (by omega)
      have e3 : decide ((k : Int) < 1) = false := decide_eq_false (by omega)
      have e4 : decide ((256 : Int) < (k : Int)) = false := decide_eq_false (by omega)
      by_cases q8 : nn ≠ n
      · have d5 : ((nn : Int) == (n : Int)) = false := by rw [beq_eq_false_iff_ne]; omega
        have d6 : ((nn : Int) != (n : Int)) = true := by rw [bne, d5]; rfl
        have HR := Lib.hid (NO.out (.inr (.inr (.inr (.inr (.inr (.inr (.inl q8))))))))
        go_wp2_with fail
        go_meet
        exact ⟨true, rfl, fun _ => HR.out, fun h => (by cases h), rfl⟩
      have d5 : ((nn : Int) == (n : Int)) = true := by rw [beq_iff_eq]; omega
      have d6 : ((nn : Int) != (n : Int)) = false := by rw [bne, d5]; rfl
      have YY := Lib.hid (YES.out (by omega) (by omega) (by omega) (by omega) (by omega) (by omega) (by omega))
      have NN := Lib.hid (fun h => NO.out (.inr (.inr (.inr (.inr (.inr (.inr (.inr h))))))))
      have HBN : Hid (1 ≤ k ∧ k ≤ 256 ∧ ns ≤ 65535) := ⟨by omega, by omega, by omega⟩
      clear q8 YES NO
      go_wp2_with fail
      refine HMQ.out.mono ?_; rintro e w2 ⟨rfl, rfl⟩
      go_wp2_with fail
      go_meet
      exact ⟨!MP, by first | rfl | simp, fun h => NN.out (by simpa using h), fun h => ⟨YY.out (by simpa using h), HBN.out⟩, rfl⟩
  case rest =>
    obtain ⟨b, rfl, HT, HF, rfl⟩ := hcut
    cases b with
    | true =>
      have HR := Lib.hid (HT.out rfl)
      go_wp2_with fail
      go_ret
      exact ⟨by rw [HR.out]; first | done | rfl | simp, HW1.out⟩
    | false =>
      have HR := Lib.hid (HF.out rfl).1
      obtain ⟨hk1, hk2, hns⟩ := (HF.out rfl).2
      clear HT HF NO YES HMQ HMP
      have H0 : Hid (∀ i, i < 0 → Ch.inB ((k : Int) - 1) (p.sel.getD i 0) = true) := fun i hi => by omega
      go_wp2_with fail
      go_loopw [5] (fun i wr => ∃ j : Nat, j ≤ ns ∧ i = .int .i64 j ∧ Hid (∀ i, i < j → Ch.inB ((k : Int) - 1) (p.sel.getD i 0) = true) ∧ W1 = wr) (fun i _ => ns - (intOf i).toNat)
      case atStart => exact ⟨0, by omega, rfl, H0, rfl⟩
      case round =>
        obtain ⟨j, hj, rfl, HJ, rfl⟩ := hrel
        by_cases hlt : j < ns
        · obtain ⟨g, o, rfl, hcap, hcell⟩ : ∃ g o, ps = some ⟨g, o, none⟩ ∧ ns ≤ cs ∧ W1.cell? ⟨g, o + j, none⟩ = some (.int .i64 (p.sel.getD j 0)) := by
            have hlt' : j < p.sel.length := by rw [HN'.out]; exact hlt
            rcases HSI.out with ⟨⟨ad, e⟩, e2⟩ | ⟨g, o, c2, e, h2, h3, h4⟩
            · exfalso; rw [e2] at hlt'; simp at hlt'
            · cases e; exact ⟨g, o, rfl, by rw [← HN'.out]; exact h2, h4 j hlt'⟩
          obtain ⟨x, hx⟩ : ∃ x, p.sel.getD j 0 = x := ⟨_, rfl⟩
          have HX := Lib.hid hx
          rw [hx] at hcell
          clear hx
          have HBAD : Hid (Ch.inB ((k : Int) - 1) x = false → (R && MP) = false) := fun h => by
            rw [HR.out]
            cases hs : p.sel.all (Ch.inB ((k : Int) - 1)) with
            | false => rfl
            | true =>
              have h2 := HA1.out.1 hs j hlt
              rw [HX.out, h] at h2
              cases h2
          by_cases hx0 : x < 0
          · have HB := Lib.hid (HBAD.out (by unfold Ch.inB; simp; omega))
            go_wp2_with fail
            go_ret
            exact ⟨by rw [HB.out]; first | done | rfl | simp, HW1.out⟩
          · by_cases hxk : (k : Int) ≤ x
            · have HB := Lib.hid (HBAD.out (by unfold Ch.inB; simp; omega))
              have e0 : decide (x < 0) = false := decide_eq_false hx0
              have e1 : decide ((k : Int) ≤ x) = true := decide_eq_true hxk
              go_wp2_with fail
              go_ret
              exact ⟨by rw [HB.out]; first | done | rfl | simp, HW1.out⟩
            · have HG : Hid (∀ i, i < j + 1 → Ch.inB ((k : Int) - 1) (p.sel.getD i 0) = true) := fun i hi => by
                rcases Nat.lt_or_ge i j with h | h
                · exact HJ.out i h
                · obtain rfl : i = j := by omega
                  rw [HX.out]
                  unfold Ch.inB
                  rw [decide_eq_true (by omega), decide_eq_true (by omega)]; rfl
              have e0 : decide (x < 0) = false := decide_eq_false hx0
              have e1 : decide ((k : Int) ≤ x) = false := decide_eq_false hxk
              go_wp2_with fail
              go_roundw
              case rel => first | exact ⟨j + 1, hlt, int_eq' (by first | rfl | simp), HG, by first | rfl | trivial⟩ | ((repeat apply Exists.intro); exact ⟨⟨j + 1, hlt, int_eq' (by first | rfl | simp), HG, by first | rfl | trivial⟩, rfl⟩)
              case measure => simp [intOf] <;> omega
        · obtain rfl : ns = j := by omega
          have HS1 : Hid (p.sel.all (Ch.inB ((k : Int) - 1)) = true) := HA1.out.2 HJ.out
          have HR2 : Hid ((R && MP) = p.fams.all famOk) := by show _ = _; rw [HR.out, HS1.out]; rfl
          clear HR H0 HJ HSI
          have H0 : Hid (∀ i, i < 0 → famOk (p.fams.getD i fam0) = true) := fun i hi => by omega
          go_wp2_with fail
          go_loopw [6] (fun i wr => ∃ j : Nat, j ≤ k ∧ i = .int .i64 j ∧ Hid (∀ i, i < j → famOk (p.fams.getD i fam0) = true) ∧ Hid (Kp [] W1 wr)) (fun i _ => k - (intOf i).toNat)
          case atStart => exact ⟨0, by omega, rfl, H0, Kp.refl _ _⟩
          case round =>
            obtain ⟨j, hj, rfl, HJ, HKJ⟩ := hrel
            by_cases hlt : j < k
            · obtain ⟨gf, of, cf2, ef, hf3, hf4, hf5⟩ : ∃ g off c, (.slice pf k cf : Value) = .slice (some ⟨g, off, none⟩) k c ∧ k ≤ c ∧ c ≤ maxLen ∧ ∃ lv, wr.cell? ⟨g, off + j * 3, none⟩ = some lv ∧ wr.cell? ⟨g, off + j * 3 + 1, none⟩ = some (.int .i64 (p.fams.getD j fam0).d) ∧ wr.cell? ⟨g, off + j * 3 + 2, none⟩ = some (.int .i64 (p.fams.getD j fam0).n) ∧ IsBs wr lv (p.fams.getD j fam0).l := by
                have hlt' : j < p.fams.length := by rw [HK'.out]; exact hlt
                rcases HFI.out.kp0 HKJ.out with ⟨_, e⟩ | ⟨g, off, c, e, h1, h2, h3⟩
                · exfalso; rw [e] at hlt'; simp at hlt'
                · obtain ⟨lv, a1, a2, a3, a4, a5⟩ := h3 j hlt'
                  rw [HK'.out] at e h1
                  exact ⟨g, off, c, e, h1, h2, lv, a1, a2, a3, a4⟩
              cases ef
              obtain ⟨lv, a1, a2, a3, a4⟩ := hf5
              obtain ⟨pl, cl, rfl⟩ := a4.form
              obtain ⟨c2', c3', c4'⟩ := (HC.out wr (HKX.out.trans HKJ.out)).2
              rw [HK'.out] at c2'
              clear a4 c2 c3 c4
              obtain ⟨fm, hfm⟩ : ∃ fm, p.fams.getD j fam0 = fm := ⟨_, rfl⟩
              have HX := Lib.hid hfm
              rw [hfm] at a1 a2 a3
              clear hfm
              have HBAD : Hid (famOk fm = false → (R && MP) = false) := fun h => by
                rw [HR2.out]
                cases hs : p.fams.all famOk with
                | false => rfl
                | true =>
                  have h2 := HA2.out.1 hs j hlt
                  rw [HX.out, h] at h2
                  cases h2
              have HKA : Hid (Kp [] W1 (wr.alloc (.cells #[.slice pl fm.l.length cl, .int .i64 fm.d, .int .i64 fm.n] 54))) := HKJ.out.alloc _
              obtain ⟨lo, d, m⟩ := fm
              simp only at a1 a2 a3 HX HBAD HKA
              have HOKF : Hid (famOk ⟨lo, d, m⟩ = (decide (-32768 ≤ d) && decide (d ≤ 32767) && (decide (-32768 ≤ m) && decide (m ≤ 32767)))) := rfl
              generalize famOk ⟨lo, d, m⟩ = OK at *
              by_cases z0 : d < -32768
              · have HB := Lib.hid (HBAD.out (by rw [HOKF.out]; simp only [Bool.and_eq_false_iff, decide_eq_false_iff_not]; omega))
                have e0 : decide (d < -32768) = true := decide_eq_true z0
                go_wp2_with fail
                go_ret
                exact ⟨by rw [HB.out]; first | done | rfl | simp, HW1.out.trans HKA.out⟩
              have e0 : decide (d < -32768) = false := decide_eq_false z0
              by_cases z1 : 32768 ≤ d
              · have HB := Lib.hid (HBAD.out (by rw [HOKF.out]; simp only [Bool.and_eq_false_iff, decide_eq_false_iff_not]; omega))
                have e1 : decide (32768 ≤ d) = true := decide_eq_true z1
                go_wp2_with fail
                go_ret
                exact ⟨by rw [HB.out]; first | done | rfl | simp, HW1.out.trans HKA.out⟩
              have e1 : decide (32768 ≤ d) = false := decide_eq_false z1
              by_cases z2 : m < -32768
              · have HB := Lib.hid (HBAD.out (by rw [HOKF.out]; simp only [Bool.and_eq_false_iff, decide_eq_false_iff_not]; omega))
                have e2 : decide (m < -32768) = true := decide_eq_true z2
                go_wp2_with fail
                go_ret
                exact ⟨by rw [HB.out]; first | done | rfl | simp, HW1.out.trans HKA.out⟩
              have e2 : decide (m < -32768) = false := decide_eq_false z2
              by_cases z3 : 32768 ≤ m
              · have HB := Lib.hid (HBAD.out (by rw [HOKF.out]; simp only [Bool.and_eq_false_iff, decide_eq_false_iff_not]; omega))
                have e3 : decide (32768 ≤ m) = true := decide_eq_true z3
                go_wp2_with fail
                go_ret
                exact ⟨by rw [HB.out]; first | done | rfl | simp, HW1.out.trans HKA.out⟩
              have e3 : decide (32768 ≤ m) = false := decide_eq_false z3
              have HG : Hid (∀ i, i < j + 1 → famOk (p.fams.getD i fam0) = true) := fun i hi => by
                rcases Nat.lt_or_ge i j with h | h
                · exact HJ.out i h
                · obtain rfl : i = j := by omega
                  rw [HX.out]
                  show (widOk d && widOk m) = true
                  unfold widOk
                  rw [decide_eq_true (by omega), decide_eq_true (by omega), decide_eq_true (by omega), decide_eq_true (by omega)]; rfl
              go_wp2_with fail
              go_roundw
              case rel => first | exact ⟨j + 1, hlt, int_eq' (by first | rfl | simp), HG, HKA⟩ | ((repeat apply Exists.intro); exact ⟨⟨j + 1, hlt, int_eq' (by first | rfl | simp), HG, HKA⟩, rfl⟩)
              case measure => simp [intOf] <;> omega
            · obtain rfl : k = j := by omega
              have HS2 : Hid (p.fams.all famOk = true) := HA2.out.2 HJ.out
              have HB : Hid ((R && MP) = true) := by show _ = _; rw [HR2.out, HS2.out]
              go_wp2_with fail
              go_ret
              exact ⟨by rw [HB.out]; first | done | rfl | simp, HW1.out.trans HKJ.out⟩
end Go.Proofs.YtlhkaoccnpgkeaaGreat
namespace Go.Proofs.YtlhkaoccnpgkeaaGreat
open Go.RowKit
set_option linter.unusedVariables false
set_option linter.unusedSimpArgs false
/-- A row that grows (rv), a row of entries (dv), and other rows of bytes, which lie apart from rv. -/
def RB (u0 wr : World) (rv : Value) (racc : List Int) (dv : Value) (vs : List Value) (os : List (Value × List Int)) : Prop :=
  OwnB wr u0.heap.size rv racc ∧ Kp [] u0 wr ∧ wr.ownsRow u0.heap.size 29 1 dv vs.length vs ∧ ∀ x ∈ os, OwnB wr u0.heap.size x.1 x.2 ∧ ∀ k, x.1.ownBlock = some k → rv.ownBlock ≠ some k
theorem RB.start (u0 : World) : RB u0 u0 (.slice none 0 0) [] (.slice none 0 0) [] [] := ⟨World.ownsRow_nil _ _ _ _, Kp.refl _ _, World.ownsRow_nil _ _ _ _, fun x hx => by simp at hx⟩
theorem RB.base {u0 wr : World} {rv dv : Value} {racc : List Int} {vs : List Value} {os : List (Value × List Int)} (h : RB u0 wr rv racc dv vs os) : Kp [] u0 wr := h.2.1
theorem RB.form {u0 wr : World} {rv dv : Value} {racc : List Int} {vs : List Value} {os : List (Value × List Int)} (h : RB u0 wr rv racc dv vs os) : ∃ p c, rv = .slice p racc.length c := h.1.form
theorem RB.formD {u0 wr : World} {rv dv : Value} {racc : List Int} {vs : List Value} {os : List (Value × List Int)} (h : RB u0 wr rv racc dv vs os) : ∃ p c, dv = .slice p vs.length c := slice_own h.2.2.1
theorem RB.kp0 {u0 wr w2 : World} {rv dv : Value} {racc : List Int} {vs : List Value} {os : List (Value × List Int)} (h : RB u0 wr rv racc dv vs os) (hk : Kp [] wr w2) : RB u0 w2 rv racc dv vs os :=
  ⟨h.1.kp0 hk, h.2.1.trans hk, hk.row h.2.2.1 (by simp), fun x hx => ⟨(h.2.2.2 x hx).1.kp0 hk, (h.2.2.2 x hx).2⟩⟩
/-- A new row of bytes. -/
theorem RB.new {u0 wr w2 : World} {rv dv u : Value} {racc l : List Int} {vs : List Value} {os : List (Value × List Int)} (h : RB u0 wr rv racc dv vs os) (hk : Kp [] wr w2) (hu : OwnB w2 wr.heap.size u l) : RB u0 w2 rv racc dv vs ((u, l) :: os) := by
  obtain ⟨h1, h2, h3, h4⟩ := h.kp0 hk
  refine ⟨h1, h2, h3, fun x hx => ?_⟩
  rcases List.mem_cons.1 hx with rfl | hx
  · refine ⟨hu.base h.2.1.size, fun k hk2 hk3 => ?_⟩
    have a1 := own_ge hu k hk2
    have a2 := (h.1.lt k hk3).2
    omega
  · exact h4 x hx
/-- The entries are among the rows. -/
def EntsIn (vs : List Value) (ds : List (List Int)) (os : List (Value × List Int)) : Prop := vs.length = ds.length ∧ ∀ i, i < ds.length → (vs.getD i (.slice none 0 0), ds.getD i []) ∈ os
theorem EntsIn.more {vs : List Value} {ds : List (List Int)} {os : List (Value × List Int)} (h : EntsIn vs ds os) (x : Value × List Int) : EntsIn vs ds (x :: os) := ⟨h.1, fun i hi => List.mem_cons_of_mem _ (h.2 i hi)⟩
theorem EntsIn.snoc {vs : List Value} {ds : List (List Int)} {os : List (Value × List Int)} {u : Value} {l : List Int} (h : EntsIn vs ds os) (hu : (u, l) ∈ os) : EntsIn (vs ++ [u]) (ds ++ [l]) os := by
  obtain ⟨h1, h2⟩ := h
  refine ⟨by simp [h1], fun i hi => ?_⟩
  by_cases e : i = ds.length
  · subst e
    rw [List.getD_eq_getElem?_getD, List.getElem?_append_right (by omega), h1, List.getD_eq_getElem?_getD (l := ds ++ [l]), List.getElem?_append_right (by omega)]
    simpa using hu
  · have hi2 : i < ds.length := by simp at hi; omega
    rw [List.getD_eq_getElem?_getD, List.getElem?_append_left (by omega), ← List.getD_eq_getElem?_getD, List.getD_eq_getElem?_getD (l := ds ++ [l]), List.getElem?_append_left (by omega), ← List.getD_eq_getElem?_getD]
    exact h2 i hi2
theorem RB.rows {u0 wr : World} {rv dv : Value} {racc : List Int} {vs : List Value} {ds : List (List Int)} {os : List (Value × List Int)} (h : RB u0 wr rv racc dv vs os) (he : EntsIn vs ds os) : IsBs wr dv ds :=
  ⟨vs, by rw [← he.1]; exact Reads.owned h.2.2.1, fun i hi => (h.2.2.2 _ (he.2 i hi)).1.ints⟩
section
variable {w : World} {ops : Array Oper} {rest : List Oper} {o : Oper} {a : Act} {Q : Exit → Act → World → Prop}
/-- The row grows. -/
theorem RB.app (hgd : o.guard = none) (s y : Operand) (ho : o.op = .call { callee := .builtin .append, args := #[s, y], argTypes := #[29, 29] })
    {u0 : World} {rv dv : Value} {racc : List Int} {vs : List Value} {os : List (Value × List Int)} (h : RB u0 w rv racc dv vs os) (hs : a.eval s = rv) (xv : Value) (zs : List Int) (hx : a.eval y = xv) (hsrc : IsInts .u8 w xv zs) (r : List Int) (hr : Hid (racc ++ zs = r)) (hl : racc.length + zs.length ≤ 1073741824)
    (hk : ∀ v' w', RB u0 w' v' r dv vs os → wpList Tryz.prog ops Q rest (a.put o.dst v') w') : wpList Tryz.prog ops Q (o :: rest) a w := by
  obtain ⟨h1, h2, h3, h4⟩ := h
  refine wpList_obr hgd s y ho hs h1 xv zs hx hsrc r hr hl h2.size fun v' w' ho' hk' hat => hk v' w' ⟨ho', h1.grow h2 (Nat.le_refl _) hk', hk'.row h3 (fun t ht e => own_ne h3 h1 (by decide) t e (by simpa using ht)), fun x hx => ?_⟩
  obtain ⟨q1, q2⟩ := h4 x hx
  refine ⟨hk'.row q1 (fun t ht e => q2 t e (by simpa using ht)), fun k hk e => ?_⟩
  rcases hat k e with e | e
  · exact q2 k hk e
  · have := (q1.lt k hk).2; omega
/-- An entry is put behind the others. -/
theorem RB.push (hgd : o.guard = none) (s y : Operand) (ho : o.op = .call { callee := .builtin .append, args := #[s, y], argTypes := #[22, 22] })
    {u0 : World} {rv dv u : Value} {racc : List Int} {vs : List Value} {os : List (Value × List Int)} {g : Nat} {q : Option Addr} {m c : Nat} (h : RB u0 w rv racc dv vs os) (hs : a.eval s = dv) (hy : a.eval y = .slice (some ⟨g, 0, none⟩) 1 1) (hu : u = .slice q m c) (hc : w.cell? ⟨g, 0, none⟩ = some u) (hn : vs.length ≤ 65536)
    (hk : ∀ dv' w', RB u0 w' rv racc dv' (vs ++ [u]) os → wpList Tryz.prog ops Q rest (a.put o.dst dv') w') : wpList Tryz.prog ops Q (o :: rest) a w := by
  obtain ⟨h1, h2, h3, h4⟩ := h
  refine wpList_app hgd s y 22 ho u0.heap.size 29 (.slice none 0 0) 1 24 Tryz.underlying22 infoRow rfl (by decide) (by decide) dv vs.length vs hs h3 (.slice (some ⟨g, 0, none⟩) 1 1) 1 [u] hy ⟨rfl, .inr ⟨g, 0, 1, rfl, by decide, by decide, ?_⟩⟩ ?_ (by omega) h2.size ?_
  · intro j u' hu'
    cases j with
    | zero => simp at hu'; subst hu'; exact hc
    | succ j => simp at hu'
  · intro u' hu'
    simp at hu'; subst hu'; subst hu
    rfl
  · intro dv' w' hown hgr
    have hkk : Kp dv.ownBlock.toList w w' := Kp.grown (Kp.refl _ _) hgr (fun k hk => .inl (by rw [hk]; simp))
    have hq : ∀ (v : Value) (zs : List Int), OwnB w u0.heap.size v zs → OwnB w' u0.heap.size v zs := fun v zs hv => hkk.row hv (fun s hs e => own_ne hv h3 (by decide) s e (by simpa using hs))
    exact hk dv' w' ⟨hq _ _ h1, h2.trans' hkk (fun t ht => .inr (by have := own_ge h3 t (by simpa using ht); exact this)), by simpa using hown, fun x hx => ⟨hq _ _ (h4 x hx).1, (h4 x hx).2⟩⟩
end
/-- Another row grows from now on. -/
theorem RB.turn {u0 wr w2 : World} {rv dv u : Value} {racc l : List Int} {vs : List Value} {os : List (Value × List Int)} (h : RB u0 wr rv racc dv vs os) (hk : Kp [] wr w2) (hu : OwnB w2 wr.heap.size u l) : RB u0 w2 u l (.slice none 0 0) [] ((rv, racc) :: os) := by
  obtain ⟨h1, h2, h3, h4⟩ := h.kp0 hk
  refine ⟨hu.base h.2.1.size, h2, World.ownsRow_nil _ _ _ _, fun x hx => ?_⟩
  rcases List.mem_cons.1 hx with rfl | hx
  · refine ⟨h1, fun k hk2 hk3 => ?_⟩
    have a1 := own_ge hu k hk3
    have a2 := (h.1.lt k hk2).2
    omega
  · refine ⟨(h4 x hx).1, fun k hk2 hk3 => ?_⟩
    have a1 := own_ge hu k hk3
    have a2 := ((h.2.2.2 x hx).1.lt k hk2).2
    omega
theorem RB.row {u0 wr : World} {rv dv : Value} {racc : List Int} {vs : List Value} {os : List (Value × List Int)} (h : RB u0 wr rv racc dv vs os) {x : Value × List Int} (hx : x ∈ os) : IsInts .u8 wr x.1 x.2 := (h.2.2.2 x hx).1.ints
theorem bad_end {p : CffP} {size : Nat} (h : GoodJ p size p.fams.length) (hs : p.sel ≠ [] → putF (dsJ p size p.fams.length) = false) : badB p size = decide (1048576 < (outU p size).length) := by
  by_cases hb : 1048576 < (outU p size).length
  · rw [decide_eq_true hb, bad_iff]
    exact .inr (.inr (.inr (.inr hb)))
  · rw [decide_eq_false hb, ← Bool.not_eq_true, bad_iff]
    have h4 := good_any h
    obtain ⟨h1, h2, _, h3⟩ := h
    rintro (e | e | e | e | e)
    · rw [h1] at e; cases e
    · rw [h2] at e; cases e
    · exact h4 e
    · have := hs e.1; rw [this] at e; cases e.2
    · exact hb e
theorem bad_glob {p : CffP} {size : Nat} (h : putF p.glob = true) : badB p size = true := by rw [bad_iff]; exact .inl h
theorem bad_codes {p : CffP} {size : Nat} (h : putF p.codes = true) : badB p size = true := by rw [bad_iff]; exact .inr (.inl h)
theorem bad_fam {p : CffP} {size j : Nat} (hj : j < p.fams.length) (h : putF (p.fams.getD j fam0).l = true) : badB p size = true := by
  rw [bad_iff]
  exact .inr (.inr (.inl ⟨_, by rw [List.getD_eq_getElem?_getD, List.getElem?_eq_getElem hj]; exact List.getElem_mem _, h⟩))
theorem bad_ds {p : CffP} {size : Nat} (hs : p.sel ≠ []) (h : putF (dsJ p size p.fams.length) = true) : badB p size = true := by rw [bad_iff]; exact .inr (.inr (.inr (.inl ⟨hs, h⟩)))
theorem bad_len {p : CffP} {size j : Nat} (hj : j ≤ p.fams.length) (h : 1048576 < (accJ p size j).length) : badB p size = true := by
  rw [bad_iff]
  have := accJ_out p size hj
  exact .inr (.inr (.inr (.inr (by omega))))
/-- The families' bytes, the first j of them. -/
def restJ (p : CffP) (j : Nat) : List Int := (p.fams.take j).flatMap fun f => prvD f ++ prvL f
theorem restJ_succ (p : CffP) {j : Nat} (h : j < p.fams.length) : restJ p (j + 1) = restJ p j ++ prvD (p.fams.getD j fam0) ++ prvL (p.fams.getD j fam0) := by
  unfold restJ
  rw [List.take_succ_eq_append_getElem h, List.flatMap_append, List.getD_eq_getElem?_getD, List.getElem?_eq_getElem h]
  simp
theorem accJ_rest (p : CffP) (size j : Nat) : accJ p size j = accC p size ++ restJ p j := rfl
def szJ (p : CffP) (j : Nat) : Nat := if j = 0 then 0 else (prvD (p.fams.getD (j - 1) fam0)).length
theorem accG_len (p : CffP) : (accG p (sizeT p)).length = 10 + (5 + sizeT p) + 2 + (putM p.glob).1.length := by
  have hs : sizeT p ≤ 43 := by unfold sizeT; split <;> omega
  have b := (one_row (List.replicate (sizeT p) 0) (by simp; omega)).2
  simp only [List.length_replicate] at b
  unfold accG headB zeroI
  simp only [List.length_append, b, oneB, List.length_cons, List.length_nil]
/-- The rest behind the top DICT. -/
theorem outF_eq (p : CffP) : outF p = [1, 0, 4, 4] ++ oneB ++ (putM [topOf p (sizeT p)]).1 ++ [0, 0] ++ (putM p.glob).1 ++ Ch.csPut p.names 0 ++ (putM p.codes).1 ++ (p.fams.flatMap fun f => prvD f ++ prvL f) ++ (if p.sel = [] then [] else selB p ++ (putM (dsJ p (sizeT p) p.fams.length)).1) := by
  have hs : sizeT p ≤ 43 := by unfold sizeT; split <;> omega
  have b := (one_row (List.replicate (sizeT p) 0) (by simp; omega)).2
  simp only [List.length_replicate] at b
  have e : outU p (sizeT p) = ([1, 0, 4, 4] ++ oneB ++ zeroI (sizeT p)) ++ ([0, 0] ++ (putM p.glob).1 ++ Ch.csPut p.names 0 ++ (putM p.codes).1 ++ (p.fams.flatMap fun f => prvD f ++ prvL f) ++ (if p.sel = [] then [] else selB p ++ (putM (dsJ p (sizeT p) p.fams.length)).1)) := by
    unfold outU accS accJ accC accN accG headB
    rw [List.take_length]
    split <;> simp [List.append_assoc]
  unfold outF
  rw [e, List.drop_left' (by simp only [List.length_append, zeroI, b, oneB, List.length_cons, List.length_nil]; omega)]
  simp [List.append_assoc]
theorem topR_is (p : CffP) (h1 : 1 ≤ p.fams.length) (hs : p.sel = [] → p.fams.length ≤ 1) : topOf p (sizeT p) = if p.sel = [] then topR false (accG p (sizeT p)).length (accN p (sizeT p)).length (prvD (p.fams.getD (p.fams.length - 1) fam0)).length (accC p (sizeT p)).length else topR true (accG p (sizeT p)).length (accN p (sizeT p)).length (accS p (sizeT p)).length (accJ p (sizeT p) p.fams.length).length := by
  unfold topOf
  split
  · rename_i h
    have e1 : p.fams.length = 1 := by have := hs h; omega
    have e : (dsJ p (sizeT p) p.fams.length).getD 0 [] = entB (accC p (sizeT p)) (p.fams.getD 0 fam0) := by
      unfold dsJ
      rw [List.getD_eq_getElem?_getD, List.getElem?_map, List.getElem?_range (by omega)]
      show entB (accJ p (sizeT p) 0) _ = _
      rw [accJ_zero]
    rw [e, e1]
    simp [topB, topR, entB, List.append_assoc]
  · simp [topB, topR, List.append_assoc]
theorem outF_len (p : CffP) (h1 : 1 ≤ p.fams.length) : (outF p).length = (outU p (sizeT p)).length := by
  obtain ⟨g1, g2, g3, g4⟩ := outF_is p h1
  rw [g1]
  simp only [List.length_append, List.length_take, List.length_drop]
  omega
end Go.Proofs.YtlhkaoccnpgkeaaGreat
namespace Go.Proofs.YtlhkaoccnpgkeaaGreat
open Go.RowKit
set_option linter.unusedVariables false
set_option linter.unusedSimpArgs false
/-- What the reference's Build does. -/
def RBD (p : CffP) (w : World) (e : Ending) (w' : World) : Prop := ∃ v, e = .returned (.tuple #[v, .bool (!badB p (sizeT p))]) ∧ Kp [] w w' ∧ (badB p (sizeT p) = false → OwnB w' w.heap.size v (outF p))
theorem topR_len (p : CffP) : (topR (decide (0 < p.sel.length)) 0 0 0 0).length = sizeT p := by
  unfold sizeT topR
  by_cases h : p.sel = []
  · rw [if_pos h, h]
    simp [sayB_length]
  · rw [if_neg h, decide_eq_true (List.length_pos_iff.2 h)]
    simp [sayB_length]
theorem rp14_row (V : Value) (l : List Int) (n : Nat) (hl : l.length = n) (hn : n ≤ 200) (W : World) (h : IsBs W V [l]) :
    Calls Tryz.prog 27 #[V] W fun e w' => ∃ q c, e = .returned (.tuple #[.slice q (5 + n) c, .bool true]) ∧ OwnB w' W.heap.size (.slice q (5 + n) c) (putM [l]).1 ∧ Kp [] W w' := by
  refine (rput14_calls V [l] W h).mono ?_
  rintro e w' ⟨v', rfl, a1, a2⟩
  obtain ⟨b1, b2⟩ := one_row l (by omega)
  obtain ⟨q, c, rfl⟩ := a1.form
  rw [b1]
  rw [b2, hl] at a1 ⊢
  exact ⟨q, c, rfl, a1, a2⟩
theorem rp14_any (V : Value) (o : List (List Int)) (W : World) (h : IsBs W V o) :
    Calls Tryz.prog 27 #[V] W fun e w' => ∃ q c, e = .returned (.tuple #[.slice q (putM o).1.length c, .bool (!putF o)]) ∧ OwnB w' W.heap.size (.slice q (putM o).1.length c) (putM o).1 ∧ Kp [] W w' := by
  refine (rput14_calls V o W h).mono ?_
  rintro e w' ⟨v', rfl, a1, a2⟩
  obtain ⟨q, c, rfl⟩ := a1.form
  rw [putM_ok]
  exact ⟨q, c, rfl, a1, a2⟩
theorem rb_w1 (a : Nat) (h : a ≤ 100) : wrap64 (10 + (a : Int)) = 10 + (a : Int) := w64 _ (by omega) (by omega)
theorem rb_w2 (a : Nat) (h : a ≤ 100) : wrap64 (10 + (a : Int) + 2) = 10 + (a : Int) + 2 := w64 _ (by omega) (by omega)
theorem rb_w3 (a b n : Nat) (h : a ≤ 100) (hb : b ≤ 1048576) (hn : n = 10 + a + 2 + b) : wrap64 (10 + (a : Int) + 2 + (b : Int)) = (n : Int) := by rw [w64 _ (by omega) (by omega)]; omega
theorem rb_w4 (a b n : Nat) (ha : a ≤ 8388608) (hb : b ≤ 8388608) (hn : n = a + b) : wrap64 ((a : Int) + (b : Int)) = (n : Int) := by rw [w64 _ (by omega) (by omega)]; omega
theorem rb_w5 (L a b n : Nat) (h1 : L ≤ 2359393) (h2 : a ≤ 18) (h3 : b ≤ 1048576) (hn : n = L + a + b) : wrap64 ((L : Int) + (a : Int) + (b : Int)) = (n : Int) := by rw [w64 _ (by omega) (by omega)]; omega
set_option maxRecDepth 100000 in
set_option maxHeartbeats 16000000 in
theorem rbuild_calls (vc vg vf vs vn : Value) (p : CffP) (w : World) (hin : CffIn w vc vg vf vs vn p) (hmc : mayC p = true) (hmp : Ch.mayPut p.names 0 = true) :
    Calls Tryz.prog 10 #[.agg #[vc, vg, vf, vs, vn]] w (RBD p w) := by
  have HIN := Lib.hid (fun W (hk : Kp [] w W) => hin.kp0 hk)
  have HMF := Lib.hid (mayC_facts hmc)
  have HMP := Lib.hid hmp
  obtain ⟨pc, cc, rfl⟩ := hin.codes.form
  obtain ⟨pg, cg, rfl⟩ := hin.glob.form
  obtain ⟨pf, cf, rfl⟩ := hin.fams.form
  obtain ⟨ps, cs, rfl⟩ := hin.sel.form
  obtain ⟨pn, cn, rfl⟩ := hin.names.form
  have hbx := heap_alloc_new w (.cells #[.slice pc p.codes.length cc, .slice pg p.glob.length cg, .slice pf p.fams.length cf, .slice ps p.sel.length cs, .slice pn p.names.length cn] 26)
  have HBX := Lib.hid hbx
  have HK0 : Hid (Kp [] w (w.alloc (.cells #[.slice pc p.codes.length cc, .slice pg p.glob.length cg, .slice pf p.fams.length cf, .slice ps p.sel.length cs, .slice pn p.names.length cn] 26))) := (Kp.refl _ _).alloc _
  have HC : Hid (∀ W, Kp [] (w.alloc (.cells #[.slice pc p.codes.length cc, .slice pg p.glob.length cg, .slice pf p.fams.length cf, .slice ps p.sel.length cs, .slice pn p.names.length cn] 26)) W → W.cell? ⟨w.heap.size, 0, none⟩ = some (.slice pc p.codes.length cc) ∧ W.cell? ⟨w.heap.size, 1, none⟩ = some (.slice pg p.glob.length cg) ∧ W.cell? ⟨w.heap.size, 2, none⟩ = some (.slice pf p.fams.length cf) ∧ W.cell? ⟨w.heap.size, 3, none⟩ = some (.slice ps p.sel.length cs) ∧ W.cell? ⟨w.heap.size, 4, none⟩ = some (.slice pn p.names.length cn)) := fun W hk => by
    have h := hk.heap HBX.out (by simp)
    exact ⟨by rw [cell_of_row W _ 0 _ _ _ h]; rfl, by rw [cell_of_row W _ 1 _ _ _ h]; rfl, by rw [cell_of_row W _ 2 _ _ _ h]; rfl, by rw [cell_of_row W _ 3 _ _ _ h]; rfl, by rw [cell_of_row W _ 4 _ _ _ h]; rfl⟩
  have kc := fun (w : World) (C : Array Value) (n c : Nat) => Lib.run_convert_bytes_const (P := Tryz.prog) w 29 5 C n c Tryz.underlying29 Tryz.underlying5
  have HNO : Hid (∀ W v, Kp [] w W → badB p (sizeT p) = true → RBD p w (.returned (.tuple #[v, .bool false])) W) := fun W v hk hb => ⟨v, by rw [hb]; rfl, hk, fun h => by rw [hb] at h; cases h⟩
  have HG1 := Lib.hid (rp14_any (.slice pg p.glob.length cg) p.glob (w.alloc (.cells #[.slice pc p.codes.length cc, .slice pg p.glob.length cg, .slice pf p.fams.length cf, .slice ps p.sel.length cs, .slice pn p.names.length cn] 26)) (HIN.out _ HK0.out).glob)
  have HLG := Lib.hid (putM_len p.glob)
  have HLC := Lib.hid (putM_len p.codes)
  obtain ⟨c0, c1, c2, c3, c4⟩ := HC.out _ (Kp.refl _ _)
  clear hin hbx hmc hmp
  go_enter Tryz.func10, Tryz.ntmps10
  go_wp2_with fail
  refine HG1.out.mono ?_; rintro e w1 ⟨p1, c1', rfl, h1, k1⟩
  have H1 := Lib.hid h1.ints
  have K1 := Lib.hid k1
  clear h1 k1 HG1 c0 c1 c2 c3 c4
  obtain ⟨c0, c1, c2, c3, c4⟩ := HC.out _ K1.out
  have HBG := Lib.hid (fun h => bad_glob (p := p) (size := sizeT p) h)
  have HGF : Hid (putF p.glob = putF p.glob) := rfl
  cases hfg : putF p.glob with
  | true =>
    have HB := Lib.hid (HBG.out hfg)
    go_wp2_with fail
    go_ret2
    exact HNO.out _ _ (HK0.out.trans K1.out) HB.out
  | false =>
  have HFG := Lib.hid hfg
  clear hfg
  have HG2 := Lib.hid (rp14_any (.slice pc p.codes.length cc) p.codes w1 (HIN.out _ (HK0.out.trans K1.out)).codes)
  go_wp2_with fail
  refine HG2.out.mono ?_; rintro e w2 ⟨p2, c2', rfl, h2, k2⟩
  have H2 := Lib.hid h2.ints
  have K2 : Hid (Kp [] (w.alloc (.cells #[.slice pc p.codes.length cc, .slice pg p.glob.length cg, .slice pf p.fams.length cf, .slice ps p.sel.length cs, .slice pn p.names.length cn] 26)) w2) := K1.out.trans k2
  have K12 := Lib.hid k2
  clear h2 k2 HG2 c0 c1 c2 c3 c4
  obtain ⟨c0, c1, c2, c3, c4⟩ := HC.out _ K2.out
  cases hfc : putF p.codes with
  | true =>
    have HB := Lib.hid (bad_codes (p := p) (size := sizeT p) hfc)
    go_wp2_with fail
    go_ret2
    exact HNO.out _ _ (HK0.out.trans K2.out) HB.out
  | false =>
  have HFC := Lib.hid hfc
  clear hfc
  have HNI := Lib.hid (HIN.out w2 (HK0.out.trans K2.out)).names
  have HPN := Lib.hid (Ch.rput_calls _ p.names 0 w2 HMP.out HNI.out (fun b hb => by
    refine intsG_lt HNI.out ?_ b hb
    have := (Ch.mayPut_true HMP.out).1
    intro e; rw [e] at this; simp at this))
  have HLN : Hid ((Ch.csPut p.names 0).length ≤ 262141) := by
    have z1 := Ch.csPut_len p.names 0
    have z2 := (Ch.mayPut_true HMP.out).2.1
    show _ ≤ _; omega
  go_wp2_with fail
  refine HPN.out.mono ?_; rintro e w3 ⟨v3, rfl, h3, k3, f3⟩
  have H3 : Hid (IsInts .u8 w3 v3 (Ch.csPut p.names 0)) := h3
  have K3 : Hid (Kp [] (w.alloc (.cells #[.slice pc p.codes.length cc, .slice pg p.glob.length cg, .slice pf p.fams.length cf, .slice ps p.sel.length cs, .slice pn p.names.length cn] 26)) w3) := K2.out.trans k3
  have K23 := Lib.hid k3
  obtain ⟨p3, c3', rfl⟩ := h3.form
  clear h3 k3 f3 HPN c0 c1 c2 c3 c4
  have HLN3 : Hid ((Ch.csPut p.names (0 : Int).toNat).length = (Ch.csPut p.names 0).length) := rfl
  have HTP := Lib.hid (rtop_calls (decide (0 < p.sel.length)) 0 0 0 0 (by decide) (by decide) (by decide) (by decide) w3)
  go_wp2_with fail
  refine HTP.out.mono ?_; rintro e w4 ⟨v4, rfl, h4, k4⟩
  have H4 := Lib.hid h4.ints
  have K4 : Hid (Kp [] w3 w4) := k4
  obtain ⟨p4, c4', rfl⟩ := h4.form
  have HR4 := Lib.hid (rp14_row _ _ (sizeT p) (topR_len p) (by unfold sizeT; split <;> omega) _ (rowF_at w4 w4.heap.size rfl _ (topR (decide (0 < p.sel.length)) 0 0 0 0) _ H4.out (Kp.refl _ _)))
  clear h4 k4 HTP
  go_wp2_with fail
  refine HR4.out.mono ?_; rintro e w5 ⟨p5, c5, rfl, h5, k5⟩
  have K5 : Hid (Kp [] w3 w5) := K4.out.trans (Kp.trans (by ((repeat (first | exact Kp.refl _ _ | assumption | refine Kp.drew ?_ | refine Kp.drewN ?_ _ | refine Kp.alloc ?_ _)); (first | done | fail))) k5)
  clear h5 k5 HR4
  have HR6 := Lib.hid (rp14_row _ [70] 1 rfl (by decide) _ (rowF_at (w5.alloc (.cells #[.int .u8 70] 5 (1, 2))) (w5.heap.size + 1) (by simp) _ [70] _ (litF_at w5 _ [70] 1 rfl _ rfl (by decide) _ (Kp.refl _ _)) (Kp.refl _ _)))
  go_wp2_with fail
  refine HR6.out.mono ?_; rintro e w6 ⟨p6, c6, rfl, h6, k6⟩
  have H6 : Hid (IsInts .u8 w6 (.slice p6 6 c6) oneB) := by have q := h6.ints; rw [one_put] at q; exact q
  have K6 : Hid (Kp [] w3 w6) := K5.out.trans (Kp.trans (by ((repeat (first | exact Kp.refl _ _ | assumption | refine Kp.drew ?_ | refine Kp.drewN ?_ _ | refine Kp.alloc ?_ _)); (first | done | fail))) k6)
  clear h6 k6 HR6
  have HSZ : Hid (sizeT p ≤ 43) := by show _ ≤ _; unfold sizeT; split <;> omega
  have HLA := Lib.hid (accG_len p)
  have HLB : Hid ((accN p (sizeT p)).length = (accG p (sizeT p)).length + (Ch.csPut p.names 0).length) := by show _ = _; unfold accN; rw [List.length_append]
  have HLD : Hid ((accC p (sizeT p)).length = (accN p (sizeT p)).length + (putM p.codes).1.length) := by show _ = _; unfold accC; rw [List.length_append]
  have HBN : Hid ((accG p (sizeT p)).length ≤ 1048676 ∧ (accN p (sizeT p)).length ≤ 1310817 ∧ (accC p (sizeT p)).length ≤ 2359393) := by
    have z1 := HLA.out
    have z2 := HLB.out
    have z3 := HLD.out
    have z4 := HLN.out
    have z5 := HLG.out
    have z6 := HLC.out
    have z7 := HSZ.out
    exact ⟨by omega, by omega, by omega⟩
  have HAC : Hid (∀ j, accJ p (sizeT p) j = accC p (sizeT p) ++ restJ p j) := fun j => rfl
  have HKB : Hid (Kp [] (w.alloc (.cells #[.slice pc p.codes.length cc, .slice pg p.glob.length cg, .slice pf p.fams.length cf, .slice ps p.sel.length cs, .slice pn p.names.length cn] 26)) w6) := K3.out.trans K6.out
  have HKW : Hid (Kp [] w w6) := HK0.out.trans HKB.out
  have G1 : Hid (IsInts .u8 w6 (.slice p1 (putM p.glob).1.length c1') (putM p.glob).1) := H1.out.kp ((K12.out.trans K23.out).trans K6.out) (by simp)
  have G2 : Hid (IsInts .u8 w6 (.slice p2 (putM p.codes).1.length c2') (putM p.codes).1) := H2.out.kp (K23.out.trans K6.out) (by simp)
  have G3 : Hid (IsInts .u8 w6 (.slice p3 (Ch.csPut p.names 0).length c3') (Ch.csPut p.names 0)) := H3.out.kp K6.out (by simp)
  have HTN : Hid ((topR (decide (0 < p.sel.length)) 0 0 0 0).length = sizeT p) := topR_len p
  clear H1 H2 H3 H4
  obtain ⟨NA, hNA⟩ : ∃ n, (accG p (sizeT p)).length = n := ⟨_, rfl⟩
  obtain ⟨NB, hNB⟩ : ∃ n, (accN p (sizeT p)).length = n := ⟨_, rfl⟩
  obtain ⟨NC, hNC⟩ : ∃ n, (accC p (sizeT p)).length = n := ⟨_, rfl⟩
  obtain ⟨GB, hGB⟩ : ∃ l, (putM p.glob).1 = l := ⟨_, rfl⟩
  obtain ⟨CB, hCB⟩ : ∃ l, (putM p.codes).1 = l := ⟨_, rfl⟩
  obtain ⟨NM, hNM⟩ : ∃ l, Ch.csPut p.names 0 = l := ⟨_, rfl⟩
  have HNA := Lib.hid hNA
  have HNB := Lib.hid hNB
  have HNC := Lib.hid hNC
  have HGB := Lib.hid hGB
  have HCB := Lib.hid hCB
  have HNM := Lib.hid hNM
  rw [hGB, hCB, hNM]
  rw [hGB] at G1 HLG HLA
  rw [hCB] at G2 HLC HLD
  rw [hNM] at G3 HLN HLB
  rw [hNA] at HLA HLB HBN
  rw [hNB] at HLB HLD HBN
  rw [hNC] at HLD HBN
  have hL100 : 5 + sizeT p ≤ 100 := by have := HSZ.out; omega
  have hb1 : NA ≤ 8388608 := by have := HBN.out; omega
  have hb2 : NB ≤ 8388608 := by have := HBN.out; omega
  have hb3 : NM.length ≤ 8388608 := by have := HLN.out; omega
  have hb4 : CB.length ≤ 8388608 := by have := HLC.out; omega
  have hg0 : GB.length ≤ 1048576 := HLG.out
  have hn0 : NM.length ≤ 262141 := HLN.out
  have hc0 : CB.length ≤ 1048576 := HLC.out
  generalize hLT : 5 + sizeT p = LT at *
  clear hNA hNB hNC hGB hCB hNM hb1 hb2 hb3 hb4
  go_wp2_with fail
  have n1 : (10 : Int) + (LT : Int) + 2 + (GB.length : Int) = (NA : Int) := by have := HLA.out; omega
  have n2 : (NA : Int) + (NM.length : Int) = (NB : Int) := by have := HLB.out; omega
  have n3 : (NB : Int) + (CB.length : Int) = (NC : Int) := by have := HLD.out; omega
  rw [n1, n2, n3]
  clear n1 n2 n3 hL100 hg0 hn0 hc0
  obtain ⟨c0, c1, c2, c3, c4⟩ := HC.out _ HKB.out
  clear c0 c1 c4
  have HS0 : Hid (RB w6 w6 (.slice none 0 0) (restJ p 0) (.slice none 0 0) [] []) := RB.start w6
  have HE0 : Hid (EntsIn [] (dsJ p (sizeT p) 0) []) := ⟨rfl, fun i hi => by simp [dsJ] at hi⟩
  have HGD0 : Hid (1048576 < NC ∨ GoodJ p (sizeT p) 0) := by
    by_cases h : 1048576 < NC
    · exact .inl h
    · exact .inr ⟨HFG.out, HFC.out, fun i hi => by omega, by rw [accJ_zero, HNC.out]; omega⟩
  have HJ0 : Hid ((accJ p (sizeT p) 0).length = NC) := by show _ = _; rw [accJ_zero, HNC.out]
  obtain ⟨K, hK⟩ : ∃ K, p.fams.length = K := ⟨_, rfl⟩
  have HK := Lib.hid hK
  have HKn := Lib.hid HMF.out.2.1
  have hK256 : K ≤ 256 := by rw [← hK]; exact HKn.out
  have HCK : Hid (∀ W, Kp [] w6 W → W.cell? ⟨w.heap.size, 2, none⟩ = some (.slice pf K cf) ∧ W.cell? ⟨w.heap.size, 3, none⟩ = some (.slice ps p.sel.length cs)) := fun W hk => by
    obtain ⟨_, _, a, b, _⟩ := HC.out W (HKB.out.trans hk)
    rw [HK.out] at a
    exact ⟨a, b⟩
  have HFA : Hid (∀ W, Kp [] w6 W → IsFams W (.slice pf K cf) p.fams) := fun W hk => by have q := (HIN.out W (HKW.out.trans hk)).fams; rw [HK.out] at q; exact q
  clear c2 c3 hK
  go_loopw [15, 16, 17, 18, 20] (fun at_ rv dv sz i wr => ∃ (j : Nat) (vs : List Value) (os : List (Value × List Int)) (L : Nat), j ≤ K ∧ i = .int .i64 j ∧ at_ = .int .i64 (L : Nat) ∧ Hid (L = (accJ p (sizeT p) j).length) ∧ sz = .int .i64 (szJ p j : Nat) ∧ Hid (RB w6 wr rv (restJ p j) dv vs os) ∧ Hid (EntsIn vs (dsJ p (sizeT p) j) os) ∧ Hid ((j = 0 ∧ 1048576 < NC) ∨ GoodJ p (sizeT p) j)) (fun _ _ _ _ i _ => K - (intOf i).toNat)
  case atStart => exact ⟨0, [], [], NC, Nat.zero_le _, rfl, rfl, HJ0.out.symm, rfl, HS0, HE0, HGD0.out.elim (fun h => .inl ⟨rfl, h⟩) .inr⟩
  case round =>
    obtain ⟨j, vs, os, L, hj, rfl, rfl, HL, rfl, HRB, HEN, HGD⟩ := hrel
    obtain ⟨A, hA⟩ : ∃ A, restJ p j = A := ⟨_, rfl⟩
    have HA := Lib.hid hA
    rw [hA] at HRB
    clear hA
    obtain ⟨pr, cr, er⟩ := HRB.out.form
    obtain ⟨pd, cd, ed⟩ := HRB.out.formD
    subst er
    subst ed
    obtain ⟨c2, c3⟩ := HCK.out _ HRB.out.base
    by_cases hlt : j < K
    · obtain ⟨gf, of, cf2, ef, hf3, hf4, hf5⟩ : ∃ g off c, (.slice pf K cf : Value) = .slice (some ⟨g, off, none⟩) K c ∧ K ≤ c ∧ c ≤ maxLen ∧ ∃ lv, wr.cell? ⟨g, off + j * 3, none⟩ = some lv ∧ wr.cell? ⟨g, off + j * 3 + 1, none⟩ = some (.int .i64 (p.fams.getD j fam0).d) ∧ wr.cell? ⟨g, off + j * 3 + 2, none⟩ = some (.int .i64 (p.fams.getD j fam0).n) ∧ IsBs wr lv (p.fams.getD j fam0).l ∧ I64 (p.fams.getD j fam0).d ∧ I64 (p.fams.getD j fam0).n := by
        have hlt' : j < p.fams.length := by rw [HK.out]; exact hlt
        rcases HFA.out wr HRB.out.base with ⟨_, e⟩ | ⟨g, off, c, e, h1, h2, h3⟩
        · exfalso; rw [e] at hlt'; simp at hlt'
        · obtain ⟨lv, a1, a2, a3, a4, a5⟩ := h3 j hlt'
          rw [HK.out] at e h1
          exact ⟨g, off, c, e, h1, h2, lv, a1, a2, a3, a4, a5⟩
      cases ef
      obtain ⟨lv, a1, a2, a3, a4, a5, a6⟩ := hf5
      obtain ⟨pl, cl, rfl⟩ := a4.form
      have hltp : j < p.fams.length := by rw [HK.out]; exact hlt
      have HPR := Lib.hid (rprivate_calls _ (p.fams.getD j fam0) wr a4 a5 a6)
      have HJS := Lib.hid (accJ_succ p (sizeT p) hltp)
      have HRS := Lib.hid (restJ_succ p hltp)
      have HDS := Lib.hid (dsJ_succ p (sizeT p) j)
      have HBF := Lib.hid (bad_fam (p := p) (size := sizeT p) hltp)
      have HBL : Hid (1048576 < (accJ p (sizeT p) (j + 1)).length → badB p (sizeT p) = true) := fun h => bad_len hltp h
      have HSJ : Hid (szJ p (j + 1) = (prvD (p.fams.getD j fam0)).length) := rfl
      have HGN : Hid (putF (p.fams.getD j fam0).l = false → (accJ p (sizeT p) (j + 1)).length ≤ 1048576 → GoodJ p (sizeT p) (j + 1)) := fun h1 h2 => by
        refine ⟨HFG.out, HFC.out, fun i hi => ?_, h2⟩
        rcases Nat.lt_or_ge i j with h | h
        · rcases HGD.out with ⟨e, _⟩ | g
          · omega
          · exact g.2.2.1 i h
        · obtain rfl : i = j := by omega
          exact h1
      have HL2 : Hid (L ≤ 2359393) := by
        rcases HGD.out with ⟨e, _⟩ | g
        · show _ ≤ _
          rw [HL.out, e, accJ_zero, HNC.out]
          exact HBN.out.2.2
        · have := g.2.2.2
          show _ ≤ _
          rw [HL.out]; omega
      have HAL : Hid (A.length ≤ 2359393) := by
        have q : (accJ p (sizeT p) j).length = (accC p (sizeT p)).length + A.length := by rw [HAC.out, HA.out, List.length_append]
        have := HL2.out
        have := HL.out
        show _ ≤ _; omega
      have HEB : Hid (∀ x y : Int, x = ((prvD (p.fams.getD j fam0)).length : Int) → y = (L : Int) → sayB 18 [x, y] = entB (accJ p (sizeT p) j) (p.fams.getD j fam0)) := fun x y hx hy => by
        rw [hx, hy, HL.out]; rfl
      have HDL : Hid ((prvD (p.fams.getD j fam0)).length ≤ 18 ∧ (prvL (p.fams.getD j fam0)).length ≤ 1048576) := ⟨by rw [prvD_len]; split <;> omega, by unfold prvL; split; simp; exact putM_len _⟩
      clear a4 a5 a6 hltp HGD
      generalize p.fams.getD j fam0 = fm at *
      go_wp2_with fail
      refine HPR.out.mono ?_; rintro e x1 ⟨u1, u2, rfl, b1, b2, k1, ap⟩
      have HB1 := Lib.hid (HRB.out.new k1 b1)
      have HB2 : Hid (RB w6 x1 (.slice pr A.length cr) A (.slice pd vs.length cd) vs ((u2, prvL fm) :: (u1, prvD fm) :: os)) := by
        obtain ⟨z1, z2, z3, z4⟩ := HB1.out
        refine ⟨z1, z2, z3, fun x hx => ?_⟩
        rcases List.mem_cons.1 hx with rfl | hx
        · refine ⟨b2.base HRB.out.base.size, fun k hk hk2 => ?_⟩
          have q1 := own_ge b2 k hk
          have q2 := (HRB.out.1.lt k hk2).2
          omega
        · exact z4 x hx
      obtain ⟨q1, d1, rfl⟩ := b1.form
      obtain ⟨q2, d2, rfl⟩ := b2.form
      clear b1 b2 k1 ap HB1 HPR HRB c2 c3 a1 a2 a3
      cases hpf : putF fm.l with
      | true =>
        have HB := Lib.hid (HBF.out hpf)
        go_wp2_with fail
        go_ret2
        exact HNO.out _ _ (HKW.out.trans HB2.out.base) HB.out
      | false =>
      have HPF := Lib.hid hpf
      clear hpf HBF
      generalize hPDl : (prvD fm).length = PDl at *
      generalize hPLl : (prvL fm).length = PLl at *
      have HPDl := Lib.hid hPDl
      have HPLl := Lib.hid hPLl
      have HS8 := Lib.hid (rsay_at 18 18 rfl (by decide) (.slice (some ⟨x1.heap.size, 0, none⟩) 2 2) [(PDl : Int), (L : Int)] _ (lit_at x1 _ rfl [(PDl : Int), (L : Int)] 2 rfl #[.int .i64 (PDl : Nat), .int .i64 (L : Nat)] rfl (by decide) _ (Kp.refl _ _)) (by simp) (by intro x hx; have q1 := HL2.out; have q2 := HDL.out; simp at hx; omega))
      rw [HEB.out (PDl : Int) (L : Int) rfl rfl] at HS8
      clear hPDl hPLl
      go_wp2_with fail
      refine HS8.out.mono ?_; rintro e x2 ⟨u3, rfl, b3, k3⟩
      have HB3 : Hid (RB w6 x2 (.slice pr A.length cr) A (.slice pd vs.length cd) vs ((u3, entB (accJ p (sizeT p) j) fm) :: (.slice q2 PLl d2, prvL fm) :: (.slice q1 PDl d1, prvD fm) :: os)) := HB2.out.new (Kp.trans (by ((repeat (first | exact Kp.refl _ _ | assumption | refine Kp.drew ?_ | refine Kp.drewN ?_ _ | refine Kp.alloc ?_ _)); (first | done | fail))) k3) (b3.base (by simp))
      obtain ⟨q3, d3, e3⟩ := b3.form
      generalize hEBl : (entB (accJ p (sizeT p) j) fm).length = EBl at *
      subst e3
      clear b3 k3 HS8 hEBl HB2
      have HB3a := Lib.hid (HB3.out.kp0 ((Kp.refl _ _).alloc (.cells #[.slice q3 EBl d3] 29)))
      have hcu : (x2.alloc (.cells #[.slice q3 EBl d3] 29)).cell? ⟨x2.heap.size, 0, none⟩ = some (.slice q3 EBl d3) := by rw [cell_of_row _ x2.heap.size _ _ _ (0, 0) (heap_alloc_new x2 _)]; rfl
      have HCU := Lib.hid hcu
      have hvl : vs.length ≤ 65536 := by have := HEN.out.1; rw [dsJ_length] at this; omega
      clear hcu HB3
      go_wp2_with (at_builtin; refine RB.push rfl _ _ rfl HB3a.out rfl rfl rfl HCU.out hvl ?hk)
      case hk =>
      intro dv4 x4 h4
      have HB4 := Lib.hid h4
      obtain ⟨pd4, cd4, e4⟩ := h4.formD
      have HEN4 : Hid (EntsIn (vs ++ [.slice q3 EBl d3]) (dsJ p (sizeT p) (j + 1)) ((.slice q3 EBl d3, entB (accJ p (sizeT p) j) fm) :: (.slice q2 PLl d2, prvL fm) :: (.slice q1 PDl d1, prvD fm) :: os)) := by
        show EntsIn _ _ _
        rw [HDS.out]
        exact (((HEN.out.more _).more _).more _).snoc List.mem_cons_self
      generalize hvs : vs ++ [Value.slice q3 EBl d3] = vs4 at *
      generalize hos : (Value.slice q3 EBl d3, entB (accJ p (sizeT p) j) fm) :: (Value.slice q2 PLl d2, prvL fm) :: (Value.slice q1 PDl d1, prvD fm) :: os = os4 at *
      have HM1 : Hid ((Value.slice q1 PDl d1, prvD fm) ∈ os4) := by show _ ∈ _; rw [← hos]; simp
      have HM2 : Hid ((Value.slice q2 PLl d2, prvL fm) ∈ os4) := by show _ ∈ _; rw [← hos]; simp
      subst e4
      clear h4 hvs hos HB3a hvl HEN HCU
      generalize vs4.length = VL at *
      obtain ⟨A5, hA5⟩ : ∃ r, A ++ prvD fm = r := ⟨_, rfl⟩
      have HA5 := Lib.hid hA5
      have hl5 : A.length + (prvD fm).length ≤ 1073741824 := by have := HAL.out; have := HDL.out.1; have := HPDl.out; omega
      clear hA5
      go_wp2_with (at_builtin; refine RB.app rfl _ _ rfl HB4.out rfl (.slice q1 PDl d1) (prvD fm) rfl (HB4.out.row HM1.out) A5 HA5 hl5 ?hk)
      case hk =>
      intro v5 x5 h5
      have HB5 := Lib.hid h5
      obtain ⟨p5', c5', e5⟩ := h5.form
      subst e5
      obtain ⟨A6, hA6⟩ : ∃ r, A5 ++ prvL fm = r := ⟨_, rfl⟩
      have HA6 := Lib.hid hA6
      have hl6 : A5.length + (prvL fm).length ≤ 1073741824 := by have := HAL.out; have := HDL.out; have := HPDl.out; have := HPLl.out; rw [← HA5.out, List.length_append]; omega
      clear h5 hl5 hA6 HB4
      go_wp2_with (at_builtin; refine RB.app rfl _ _ rfl HB5.out rfl (.slice q2 PLl d2) (prvL fm) rfl (HB5.out.row HM2.out) A6 HA6 hl6 ?hk)
      case hk =>
      intro v6 x6 h6
      have HB6 := Lib.hid h6
      have HRN : Hid (A6 = restJ p (j + 1)) := by show _ = _; rw [HRS.out, HA.out, HA5.out, HA6.out]
      obtain ⟨p6', c6', e6⟩ := h6.form
      subst e6
      obtain ⟨LN, hLN⟩ : ∃ n, (accJ p (sizeT p) (j + 1)).length = n := ⟨_, rfl⟩
      have HLN' := Lib.hid hLN
      have hLs : LN = L + PDl + PLl := by rw [← hLN, HJS.out]; simp only [List.length_append]; have := HL.out; have := HPDl.out; have := HPLl.out; omega
      have z1 : L ≤ 2359393 := HL2.out
      have z2 : PDl ≤ 18 := HDL.out.1
      have z3 : PLl ≤ 1048576 := HDL.out.2
      have HLs := Lib.hid hLs
      clear h6 hl6 HB5 hLN hLs
      by_cases hbig : 1048576 < LN
      · have HB := Lib.hid (HBL.out (by rw [HLN'.out]; exact hbig))
        have dd : decide ((1048576 : Int) < (L : Int) + (PDl : Int) + (PLl : Int)) = true := decide_eq_true (by have := HLs.out; omega)
        clear hbig
        go_wp2_with fail
        go_ret2
        exact HNO.out _ _ (HKW.out.trans HB6.out.base) HB.out
      · have HGN2 := Lib.hid (HGN.out HPF.out (by rw [HLN'.out]; omega))
        have dd : decide ((1048576 : Int) < (L : Int) + (PDl : Int) + (PLl : Int)) = false := decide_eq_false (by have := HLs.out; omega)
        have HRB6 : Hid (RB w6 x6 (.slice p6' A6.length c6') (restJ p (j + 1)) (.slice pd4 VL cd4) vs4 os4) := by show RB _ _ _ _ _ _ _; rw [← HRN.out]; exact HB6.out
        have HSZ6 : Hid (PDl = szJ p (j + 1)) := by show _ = _; rw [HSJ.out]
        clear hbig
        go_wp2_with fail
        go_roundw
        case rel => first | exact ⟨j + 1, vs4, os4, LN, hlt, int_eq' (by first | rfl | simp), int_eq' (by have := HLs.out; omega), HLN'.out.symm, by rw [HSZ6.out], HRB6, HEN4, .inr HGN2.out⟩ | ((repeat apply Exists.intro); exact ⟨⟨j + 1, vs4, os4, LN, hlt, int_eq' (by first | rfl | simp), int_eq' (by have := HLs.out; omega), HLN'.out.symm, by rw [HSZ6.out], HRB6, HEN4, .inr HGN2.out⟩, rfl⟩)
        case measure => simp [intOf] <;> omega
    · obtain rfl : K = j := by omega
      have HGK : Hid (GoodJ p (sizeT p) p.fams.length) := by
        rcases HGD.out with ⟨e, _⟩ | g
        · exfalso
          have := HMF.out.1
          rw [HK.out] at this
          omega
        · show GoodJ _ _ _
          rw [HK.out]; exact g
      have HLj : Hid (L ≤ 1048576) := by have q := HGK.out.2.2.2; rw [HK.out, ← HL.out] at q; exact q
      have HKz : Hid (szJ p K = (prvD (p.fams.getD (p.fams.length - 1) fam0)).length) := by
        have := HMF.out.1
        rw [HK.out] at this
        show _ = _
        unfold szJ
        rw [if_neg (by omega), HK.out]
      have HKs : Hid (szJ p K ≤ 18) := by show _ ≤ _; rw [HKz.out, prvD_len]; split <;> omega
      have HTI := Lib.hid (topR_is p HMF.out.1 HMF.out.2.2.2.2.2.1)
      have HTLn := Lib.hid (topOf_len p HMF.out.1)
      have HOE := Lib.hid (outF_eq p)
      have HOL := Lib.hid (outF_len p HMF.out.1)
      have HAR : Hid (A = p.fams.flatMap fun f => prvD f ++ prvL f) := by show _ = _; rw [← HA.out, ← HK.out]; unfold restJ; rw [List.take_length]
      have HAL : Hid (A.length ≤ 1048576) := by
        have q : (accJ p (sizeT p) K).length = (accC p (sizeT p)).length + A.length := by rw [HAC.out, HA.out, List.length_append]
        have := HL.out
        have := HLj.out
        show _ ≤ _; omega
      have HLT := Lib.hid hLT
      clear HGD
      by_cases hsl : p.sel = []
      · have HSL := Lib.hid hsl
        have d0 : decide (0 < p.sel.length) = false := by rw [hsl]; rfl
        have HTR : Hid (topR false NA NB (szJ p K) NC = topOf p (sizeT p)) := by show _ = _; rw [HTI.out, if_pos hsl, HNA.out, HNB.out, HNC.out, HKz.out]
        have HBE := Lib.hid (bad_end HGK.out (fun h => absurd hsl h))
        have HOX : Hid (outF p = [1, 0, 4, 4] ++ oneB ++ (putM [topOf p (sizeT p)]).1 ++ [0, 0] ++ GB ++ NM ++ CB ++ A) := by show _ = _; rw [HOE.out, if_pos hsl, HGB.out, HNM.out, HCB.out, HAR.out]; simp [List.append_assoc]
        rw [d0]
        generalize szJ p K = SZ at *
        clear hsl HEN
        obtain ⟨VL, hVL⟩ : ∃ n, vs.length = n := ⟨_, rfl⟩
        rw [hVL]
        clear hVL
        have HTQ := Lib.hid (rtop_calls false NA NB SZ NC (by have := HBN.out; omega) (by have := HBN.out; omega) (by have := HKs.out; omega) (by have := HBN.out; omega) wr)
        rw [HTR.out] at HTQ
        go_wp2_with fail
        refine HTQ.out.mono ?_; rintro e w21 ⟨v21, rfl, h21, k21⟩
        have HR21 := Lib.hid (rp14_row _ (topOf p (sizeT p)) (sizeT p) HTLn.out (by have := HSZ.out; omega) _ (rowF_at w21 w21.heap.size rfl _ (topOf p (sizeT p)) _ h21.ints (Kp.refl _ _)))
        rw [HLT.out] at HR21
        have HB21 := Lib.hid (HRB.out.kp0 (k21.alloc (.cells #[v21] 29)))
        obtain ⟨p21, c21, e21⟩ := h21.form
        subst e21
        clear h21 k21 HTQ
        go_wp2_with fail
        refine HR21.out.mono ?_; rintro e w22 ⟨p22, c22, rfl, h22, k22⟩
        have HB22 := Lib.hid (HB21.out.new k22 h22)
        clear h22 k22 HR21 HB21
        have HTPl : Hid ((putM [topOf p (sizeT p)]).1.length ≤ 100) := by show _ ≤ _; rw [(one_row (topOf p (sizeT p)) (by have := HTLn.out; have := HSZ.out; omega)).2]; have := HTLn.out; have := HSZ.out; omega
        generalize hTP : (putM [topOf p (sizeT p)]).1 = TP at *
        have hlit : OwnB (w22.alloc (.cells #[.int .u8 1, .int .u8 0, .int .u8 4, .int .u8 4] 5)) w22.heap.size (.slice (some ⟨w22.heap.size, 0, none⟩) 4 4) [1, 0, 4, 4] := own_lit w22 w22.heap.size w22.heap.size 5 1 4 #[.int .u8 1, .int .u8 0, .int .u8 4, .int .u8 4] rfl (Nat.le_refl _) (by decide) rfl
        have HB23 := Lib.hid (HB22.out.turn ((Kp.refl _ _).alloc _) hlit)
        obtain ⟨HD4, hHD4⟩ : ∃ l : List Int, [1, 0, 4, 4] = l := ⟨_, rfl⟩
        have HHD4 := Lib.hid hHD4
        have HHDl : Hid (HD4.length = 4) := by show _ = _; rw [← hHD4]; rfl
        obtain ⟨Z2, hZ2⟩ : ∃ l : List Int, [0, 0] = l := ⟨_, rfl⟩
        have HZ2 := Lib.hid hZ2
        have HZ2l : Hid (Z2.length = 2) := by show _ = _; rw [← hZ2]; rfl
        rw [hHD4] at HB23
        have HM1 : Hid ((Value.slice p22 LT c22, TP) ∈ ((.slice pr A.length cr, A) :: (Value.slice p22 LT c22, TP) :: os)) := by show _ ∈ _; simp
        have HM2 : Hid ((.slice pr A.length cr, A) ∈ ((.slice pr A.length cr, A) :: (Value.slice p22 LT c22, TP) :: os)) := by show _ ∈ _; simp
        generalize hos9 : (.slice pr A.length cr, A) :: (Value.slice p22 LT c22, TP) :: os = os9 at *
        have HONE : Hid (oneB.length = 6) := rfl
        clear hlit HB22 hHD4 hZ2 hTP hos9
        obtain ⟨S24, hS24⟩ : ∃ r, HD4 ++ oneB = r := ⟨_, rfl⟩
        have HS24 := Lib.hid hS24
        have hl24 : HD4.length + oneB.length ≤ 1073741824 := by rw [HHDl.out, HONE.out]; decide
        have HSr24 := Lib.hid (H6.out.kp HB23.out.base (by simp))
        clear hS24
        go_wp2_with (at_builtin; refine RB.app rfl _ _ rfl HB23.out rfl (.slice p6 6 c6) oneB rfl HSr24.out S24 HS24 hl24 ?hk)
        case hk =>
        intro a24 y24 h24
        have HB24 := Lib.hid h24
        have HSL24 : Hid (S24.length = HD4.length + oneB.length) := by show _ = _; rw [← HS24.out, List.length_append]
        obtain ⟨q24, d24, e24⟩ := h24.form
        subst e24
        clear h24 hl24 HSr24
        obtain ⟨S25, hS25⟩ : ∃ r, S24 ++ TP = r := ⟨_, rfl⟩
        have HS25 := Lib.hid hS25
        have hl25 : S24.length + TP.length ≤ 1073741824 := by have q1 := HSL24.out; rw [HHDl.out, HONE.out] at q1; have := HTPl.out; omega
        have HSr25 := Lib.hid (HB24.out.row HM1.out)
        clear hS25
        go_wp2_with (at_builtin; refine RB.app rfl _ _ rfl HB24.out rfl (.slice p22 LT c22) TP rfl HSr25.out S25 HS25 hl25 ?hk)
        case hk =>
        intro a25 y25 h25
        have HB25 := Lib.hid h25
        have HSL25 : Hid (S25.length = S24.length + TP.length) := by show _ = _; rw [← HS25.out, List.length_append]
        obtain ⟨q25, d25, e25⟩ := h25.form
        subst e25
        clear h25 hl25 HSr25
        have HB25a := Lib.hid (HB25.out.kp0 ((Kp.refl _ _).alloc (.cells #[.int .u8 0, .int .u8 0] 5)))
        have HL0 : Hid (IsInts .u8 (y25.alloc (.cells #[.int .u8 0, .int .u8 0] 5)) (.slice (some ⟨y25.heap.size, 0, none⟩) 2 2) Z2) := by show IsInts _ _ _ _; rw [← HZ2.out]; exact litb_at y25 _ rfl [0, 0] 2 rfl _ rfl (by decide) _ (Kp.refl _ _)
        have HT25 : Hid (S25.length ≤ 200) := by have q1 := HSL24.out; rw [HHDl.out, HONE.out] at q1; have q2 := HSL25.out; have := HTPl.out; show _ ≤ _; omega
        clear HB25 HB24 HB23
        obtain ⟨S26, hS26⟩ : ∃ r, S25 ++ Z2 = r := ⟨_, rfl⟩
        have HS26 := Lib.hid hS26
        have hl26 : S25.length + Z2.length ≤ 1073741824 := by rw [HZ2l.out]; have := HT25.out; omega
        have HSr26 := Lib.hid (HL0.out)
        clear hS26
        go_wp2_with (at_builtin; refine RB.app rfl _ _ rfl HB25a.out rfl (.slice (some ⟨y25.heap.size, 0, none⟩) 2 2) Z2 rfl HSr26.out S26 HS26 hl26 ?hk)
        case hk =>
        intro a26 y26 h26
        have HB26 := Lib.hid h26
        have HSL26 : Hid (S26.length = S25.length + Z2.length) := by show _ = _; rw [← HS26.out, List.length_append]
        obtain ⟨q26, d26, e26⟩ := h26.form
        subst e26
        clear h26 hl26 HSr26
        have HT26 : Hid (S26.length ≤ 300) := by have q2 := HSL26.out; rw [HZ2l.out] at q2; have := HT25.out; show _ ≤ _; omega
        clear HB25a HL0
        obtain ⟨S27, hS27⟩ : ∃ r, S26 ++ GB = r := ⟨_, rfl⟩
        have HS27 := Lib.hid hS27
        have hl27 : S26.length + GB.length ≤ 1073741824 := by have := HT26.out; have := HLG.out; omega
        have HSr27 := Lib.hid (G1.out.kp HB26.out.base (by simp))
        clear hS27
        go_wp2_with (at_builtin; refine RB.app rfl _ _ rfl HB26.out rfl (.slice p1 GB.length c1') GB rfl HSr27.out S27 HS27 hl27 ?hk)
        case hk =>
        intro a27 y27 h27
        have HB27 := Lib.hid h27
        have HSL27 : Hid (S27.length = S26.length + GB.length) := by show _ = _; rw [← HS27.out, List.length_append]
        obtain ⟨q27, d27, e27⟩ := h27.form
        subst e27
        clear h27 hl27 HSr27
        have HT27 : Hid (S27.length ≤ 1048876) := by have q2 := HSL27.out; have := HT26.out; have := HLG.out; show _ ≤ _; omega
        clear HB26
        obtain ⟨S28, hS28⟩ : ∃ r, S27 ++ NM = r := ⟨_, rfl⟩
        have HS28 := Lib.hid hS28
        have hl28 : S27.length + NM.length ≤ 1073741824 := by have := HT27.out; have := HLN.out; omega
        have HSr28 := Lib.hid (G3.out.kp HB27.out.base (by simp))
        clear hS28
        go_wp2_with (at_builtin; refine RB.app rfl _ _ rfl HB27.out rfl (.slice p3 NM.length c3') NM rfl HSr28.out S28 HS28 hl28 ?hk)
        case hk =>
        intro a28 y28 h28
        have HB28 := Lib.hid h28
        have HSL28 : Hid (S28.length = S27.length + NM.length) := by show _ = _; rw [← HS28.out, List.length_append]
        obtain ⟨q28, d28, e28⟩ := h28.form
        subst e28
        clear h28 hl28 HSr28
        have HT28 : Hid (S28.length ≤ 1311017) := by have q2 := HSL28.out; have := HT27.out; have := HLN.out; show _ ≤ _; omega
        clear HB27
        obtain ⟨S29, hS29⟩ : ∃ r, S28 ++ CB = r := ⟨_, rfl⟩
        have HS29 := Lib.hid hS29
        have hl29 : S28.length + CB.length ≤ 1073741824 := by have := HT28.out; have := HLC.out; omega
        have HSr29 := Lib.hid (G2.out.kp HB28.out.base (by simp))
        clear hS29
        go_wp2_with (at_builtin; refine RB.app rfl _ _ rfl HB28.out rfl (.slice p2 CB.length c2') CB rfl HSr29.out S29 HS29 hl29 ?hk)
        case hk =>
        intro a29 y29 h29
        have HB29 := Lib.hid h29
        have HSL29 : Hid (S29.length = S28.length + CB.length) := by show _ = _; rw [← HS29.out, List.length_append]
        obtain ⟨q29, d29, e29⟩ := h29.form
        subst e29
        clear h29 hl29 HSr29
        have HT29 : Hid (S29.length ≤ 2359593) := by have q2 := HSL29.out; have := HT28.out; have := HLC.out; show _ ≤ _; omega
        clear HB28
        obtain ⟨S30, hS30⟩ : ∃ r, S29 ++ A = r := ⟨_, rfl⟩
        have HS30 := Lib.hid hS30
        have hl30 : S29.length + A.length ≤ 1073741824 := by have := HT29.out; have := HAL.out; omega
        have HSr30 := Lib.hid (HB29.out.row HM2.out)
        clear hS30
        go_wp2_with (at_builtin; refine RB.app rfl _ _ rfl HB29.out rfl (.slice pr A.length cr) A rfl HSr30.out S30 HS30 hl30 ?hk)
        case hk =>
        intro a30 y30 h30
        have HB30 := Lib.hid h30
        have HSL30 : Hid (S30.length = S29.length + A.length) := by show _ = _; rw [← HS30.out, List.length_append]
        obtain ⟨q30, d30, e30⟩ := h30.form
        subst e30
        clear h30 hl30 HSr30
        have HF : Hid (S30 = outF p) := by show _ = _; rw [HOX.out, ← HS30.out, ← HS29.out, ← HS28.out, ← HS27.out, ← HS26.out, ← HS25.out, ← HS24.out, HHD4.out, HZ2.out]
        have HKF := Lib.hid (HKW.out.trans HB30.out.base)
        have HOB : Hid (decide (S30.length ≤ 1048576) = !badB p (sizeT p)) := by
          show _ = _
          rw [HBE.out, HF.out, HOL.out]
          by_cases h : 1048576 < (outU p (sizeT p)).length
          · rw [decide_eq_true h, decide_eq_false (by omega)]; rfl
          · rw [decide_eq_false h, decide_eq_true (by omega)]; rfl
        have HOB2 : Hid (decide ((S30.length : Int) ≤ 1048576) = decide (S30.length ≤ 1048576)) := by show _ = _; rw [decide_eq_decide]; omega
        have HW6 := HKW.out.size
        have HOWN : Hid (OwnB y30 w.heap.size (.slice q30 S30.length d30) (outF p)) := by
          have q := HB30.out.1.base HW6
          show OwnB _ _ _ _
          rw [← HF.out]
          exact q
        clear HB29 HB30
        generalize hQL : S30.length = QL at *
        go_wp2_with fail
        go_ret2
        refine ⟨.slice q30 QL d30, ?_, HKF.out, fun _ => HOWN.out⟩
        rw [← HOB.out]
        first | rfl | (rw [← HOB2.out]; first | rfl | simp)
      · have HSL := Lib.hid hsl
        have d0 : decide (0 < p.sel.length) = true := decide_eq_true (List.length_pos_iff.2 hsl)
        have HMS := Lib.hid (HMF.out.2.2.2.2.2.2 hsl)
        have HSI := Lib.hid (HIN.out _ (HKW.out.trans HRB.out.base)).sel
        have HPS := Lib.hid (Ch.rputsel_calls _ p.sel (p.fams.length : Nat) 3 wr HMS.out HSI.out (fun b hb => intsG_lt HSI.out hsl b hb))
        have HSQ : Hid (Ch.csPutSel p.sel 3 = selB p ∧ (selB p).length ≤ 200000) := ⟨rfl, by
          have z := Ch.csPutSel_len p.sel 3
          have z2 := HMS.out
          unfold Ch.maySel at z2
          simp only [Bool.and_eq_true, decide_eq_true_eq] at z2
          unfold selB; omega⟩
        rw [HSQ.out.1] at HPS
        have HBDS := Lib.hid (bad_ds (p := p) (size := sizeT p) hsl)
        have HBEn := Lib.hid (fun h => bad_end HGK.out (fun _ => h))
        have HLS : Hid ((accS p (sizeT p)).length = L + (selB p).length) := by show _ = _; unfold accS; rw [List.length_append, HL.out, HK.out]
        have HLJ : Hid ((accJ p (sizeT p) p.fams.length).length = L) := by show _ = _; rw [HK.out, HL.out]
        have HTR : Hid (topR true NA NB (accS p (sizeT p)).length L = topOf p (sizeT p)) := by show _ = _; rw [HTI.out, if_neg hsl, HNA.out, HNB.out, HLJ.out]
        have HOX0 : Hid (outF p = [1, 0, 4, 4] ++ oneB ++ (putM [topOf p (sizeT p)]).1 ++ [0, 0] ++ GB ++ NM ++ CB ++ (A ++ selB p ++ (putM (dsJ p (sizeT p) p.fams.length)).1)) := by show _ = _; rw [HOE.out, if_neg hsl, HGB.out, HNM.out, HCB.out, HAR.out]; simp [List.append_assoc]
        have HEK : Hid (dsJ p (sizeT p) K = dsJ p (sizeT p) p.fams.length) := by show _ = _; rw [HK.out]
        rw [HEK.out] at HEN
        have HRW := Lib.hid (fun (W : World) (os' : List (Value × List Int)) (rv' : Value) (ra : List Int) (hb : RB w6 W rv' ra (.slice pd vs.length cd) vs os') (he : EntsIn vs (dsJ p (sizeT p) p.fams.length) os') => rp14_any (.slice pd vs.length cd) (dsJ p (sizeT p) p.fams.length) W (hb.rows he))
        have HDLn := Lib.hid (putM_len (dsJ p (sizeT p) p.fams.length))
        rw [d0]
        generalize szJ p K = SZ at *
        clear hsl
        obtain ⟨VL, hVL⟩ : ∃ n, vs.length = n := ⟨_, rfl⟩
        rw [hVL] at HRW HRB ⊢
        go_wp2_with fail
        refine HPS.out.mono ?_; rintro e w11 ⟨v11, rfl, i11, k11, f11⟩
        obtain ⟨p11, c11, rfl⟩ := i11.form
        have HB11 := Lib.hid (HRB.out.kp0 k11)
        have HI11 := Lib.hid i11
        have HR12 := Lib.hid (HRW.out w11 os _ _ (by have q := HB11.out; exact q) HEN.out)
        clear i11 k11 f11 HPS HRB hVL
        generalize hDS : dsJ p (sizeT p) p.fams.length = DS at *
        generalize hSB : selB p = SB at *
        go_wp2_with fail
        refine HR12.out.mono ?_; rintro e w12 ⟨p12, c12, rfl, h12, k12⟩
        have HB12 := Lib.hid (HB11.out.new k12 h12)
        have HI12 : Hid (IsInts .u8 w12 (.slice p11 SB.length c11) SB) := HI11.out.kp k12 (by simp)
        clear h12 k12 HR12 HB11
        cases hpd : putF DS with
        | true =>
          have HB := Lib.hid (HBDS.out hpd)
          go_wp2_with fail
          go_ret2
          exact HNO.out _ _ (HKW.out.trans HB12.out.base) HB.out
        | false =>
        have HBE := Lib.hid (HBEn.out hpd)
        clear hpd
        generalize hDB : (putM DS).1 = DB at *
        have HMD : Hid ((Value.slice p12 DB.length c12, DB) ∈ ((Value.slice p12 DB.length c12, DB) :: os)) := List.mem_cons_self
        generalize hos1 : (Value.slice p12 DB.length c12, DB) :: os = os1 at *
        clear hos1 hDB hDS hSB HEN HRW
        obtain ⟨S13, hS13⟩ : ∃ r, A ++ SB = r := ⟨_, rfl⟩
        have HS13 := Lib.hid hS13
        have hl13 : A.length + SB.length ≤ 1073741824 := by have := HAL.out; have := HSQ.out.2; omega
        have HSr13 := Lib.hid (HI12.out)
        clear hS13
        go_wp2_with (at_builtin; refine RB.app rfl _ _ rfl HB12.out rfl (.slice p11 SB.length c11) SB rfl HSr13.out S13 HS13 hl13 ?hk)
        case hk =>
        intro a13 y13 h13
        have HB13 := Lib.hid h13
        have HSL13 : Hid (S13.length = A.length + SB.length) := by show _ = _; rw [← HS13.out, List.length_append]
        obtain ⟨q13, d13, e13⟩ := h13.form
        subst e13
        clear h13 hl13 HSr13
        obtain ⟨S14, hS14⟩ : ∃ r, S13 ++ DB = r := ⟨_, rfl⟩
        have HS14 := Lib.hid hS14
        have hl14 : S13.length + DB.length ≤ 1073741824 := by have q := HSL13.out; have := HAL.out; have := HSQ.out.2; have := HDLn.out; omega
        have HSr14 := Lib.hid (HB13.out.row HMD.out)
        clear hS14
        go_wp2_with (at_builtin; refine RB.app rfl _ _ rfl HB13.out rfl (.slice p12 DB.length c12) DB rfl HSr14.out S14 HS14 hl14 ?hk)
        case hk =>
        intro a14 y14 h14
        have HB14 := Lib.hid h14
        have HSL14 : Hid (S14.length = S13.length + DB.length) := by show _ = _; rw [← HS14.out, List.length_append]
        obtain ⟨q14, d14, e14⟩ := h14.form
        subst e14
        clear h14 hl14 HSr14
        have HR14 : Hid (S14.length ≤ 2297152) := by have q := HSL13.out; have q2 := HSL14.out; have := HAL.out; have := HSQ.out.2; have := HDLn.out; show _ ≤ _; omega
        have HOX : Hid (outF p = [1, 0, 4, 4] ++ oneB ++ (putM [topOf p (sizeT p)]).1 ++ [0, 0] ++ GB ++ NM ++ CB ++ S14) := by show _ = _; rw [HOX0.out, ← HS14.out, ← HS13.out]
        obtain ⟨LS, hLS⟩ : ∃ n, (accS p (sizeT p)).length = n := ⟨_, rfl⟩
        have HLSb : Hid (LS ≤ 1248576) := by have q := HLS.out; have := HLj.out; have := HSQ.out.2; show _ ≤ _; omega
        have HLS2 : Hid (LS = L + SB.length) := by show _ = _; rw [← hLS, HLS.out]
        rw [hLS] at HTR HLS
        have hl0 : L ≤ 1048576 := HLj.out
        have hs0 : SB.length ≤ 200000 := HSQ.out.2
        clear HB12 HB13 hLS
        go_upto_region 37 with fail
        have n1 : (L : Int) + (SB.length : Int) = (LS : Int) := by have := HLS2.out; omega
        rw [n1]
        clear n1 hl0 hs0
        have HTQ := Lib.hid (rtop_calls true NA NB LS L (by have := HBN.out; omega) (by have := HBN.out; omega) (by have := HLSb.out; omega) (by have := HLj.out; omega) y14)
        rw [HTR.out] at HTQ
        go_wp2_with fail
        refine HTQ.out.mono ?_; rintro e w21 ⟨v21, rfl, h21, k21⟩
        have HR21 := Lib.hid (rp14_row _ (topOf p (sizeT p)) (sizeT p) HTLn.out (by have := HSZ.out; omega) _ (rowF_at w21 w21.heap.size rfl _ (topOf p (sizeT p)) _ h21.ints (Kp.refl _ _)))
        rw [HLT.out] at HR21
        have HB21 := Lib.hid (HB14.out.kp0 (k21.alloc (.cells #[v21] 29)))
        obtain ⟨p21, c21, e21⟩ := h21.form
        subst e21
        clear h21 k21 HTQ
        go_wp2_with fail
        refine HR21.out.mono ?_; rintro e w22 ⟨p22, c22, rfl, h22, k22⟩
        have HB22 := Lib.hid (HB21.out.new k22 h22)
        clear h22 k22 HR21 HB21
        have HTPl : Hid ((putM [topOf p (sizeT p)]).1.length ≤ 100) := by show _ ≤ _; rw [(one_row (topOf p (sizeT p)) (by have := HTLn.out; have := HSZ.out; omega)).2]; have := HTLn.out; have := HSZ.out; omega
        generalize hTP : (putM [topOf p (sizeT p)]).1 = TP at *
        have hlit : OwnB (w22.alloc (.cells #[.int .u8 1, .int .u8 0, .int .u8 4, .int .u8 4] 5)) w22.heap.size (.slice (some ⟨w22.heap.size, 0, none⟩) 4 4) [1, 0, 4, 4] := own_lit w22 w22.heap.size w22.heap.size 5 1 4 #[.int .u8 1, .int .u8 0, .int .u8 4, .int .u8 4] rfl (Nat.le_refl _) (by decide) rfl
        have HB23 := Lib.hid (HB22.out.turn ((Kp.refl _ _).alloc _) hlit)
        obtain ⟨HD4, hHD4⟩ : ∃ l : List Int, [1, 0, 4, 4] = l := ⟨_, rfl⟩
        have HHD4 := Lib.hid hHD4
        have HHDl : Hid (HD4.length = 4) := by show _ = _; rw [← hHD4]; rfl
        obtain ⟨Z2, hZ2⟩ : ∃ l : List Int, [0, 0] = l := ⟨_, rfl⟩
        have HZ2 := Lib.hid hZ2
        have HZ2l : Hid (Z2.length = 2) := by show _ = _; rw [← hZ2]; rfl
        rw [hHD4] at HB23
        have HM1 : Hid ((Value.slice p22 LT c22, TP) ∈ ((.slice q14 S14.length d14, S14) :: (Value.slice p22 LT c22, TP) :: os1)) := by show _ ∈ _; simp
        have HM2 : Hid ((.slice q14 S14.length d14, S14) ∈ ((.slice q14 S14.length d14, S14) :: (Value.slice p22 LT c22, TP) :: os1)) := by show _ ∈ _; simp
        generalize hos9 : (.slice q14 S14.length d14, S14) :: (Value.slice p22 LT c22, TP) :: os1 = os9 at *
        have HONE : Hid (oneB.length = 6) := rfl
        clear hlit HB22 hHD4 hZ2 hTP hos9
        obtain ⟨S24, hS24⟩ : ∃ r, HD4 ++ oneB = r := ⟨_, rfl⟩
        have HS24 := Lib.hid hS24
        have hl24 : HD4.length + oneB.length ≤ 1073741824 := by rw [HHDl.out, HONE.out]; decide
        have HSr24 := Lib.hid (H6.out.kp HB23.out.base (by simp))
        clear hS24
        go_wp2_with (at_builtin; refine RB.app rfl _ _ rfl HB23.out rfl (.slice p6 6 c6) oneB rfl HSr24.out S24 HS24 hl24 ?hk)
        case hk =>
        intro a24 y24 h24
        have HB24 := Lib.hid h24
        have HSL24 : Hid (S24.length = HD4.length + oneB.length) := by show _ = _; rw [← HS24.out, List.length_append]
        obtain ⟨q24, d24, e24⟩ := h24.form
        subst e24
        clear h24 hl24 HSr24
        obtain ⟨S25, hS25⟩ : ∃ r, S24 ++ TP = r := ⟨_, rfl⟩
        have HS25 := Lib.hid hS25
        have hl25 : S24.length + TP.length ≤ 1073741824 := by have q1 := HSL24.out; rw [HHDl.out, HONE.out] at q1; have := HTPl.out; omega
        have HSr25 := Lib.hid (HB24.out.row HM1.out)
        clear hS25
        go_wp2_with (at_builtin; refine RB.app rfl _ _ rfl HB24.out rfl (.slice p22 LT c22) TP rfl HSr25.out S25 HS25 hl25 ?hk)
        case hk =>
        intro a25 y25 h25
        have HB25 := Lib.hid h25
        have HSL25 : Hid (S25.length = S24.length + TP.length) := by show _ = _; rw [← HS25.out, List.length_append]
        obtain ⟨q25, d25, e25⟩ := h25.form
        subst e25
        clear h25 hl25 HSr25
        have HB25a := Lib.hid (HB25.out.kp0 ((Kp.refl _ _).alloc (.cells #[.int .u8 0, .int .u8 0] 5)))
        have HL0 : Hid (IsInts .u8 (y25.alloc (.cells #[.int .u8 0, .int .u8 0] 5)) (.slice (some ⟨y25.heap.size, 0, none⟩) 2 2) Z2) := by show IsInts _ _ _ _; rw [← HZ2.out]; exact litb_at y25 _ rfl [0, 0] 2 rfl _ rfl (by decide) _ (Kp.refl _ _)
        have HT25 : Hid (S25.length ≤ 200) := by have q1 := HSL24.out; rw [HHDl.out, HONE.out] at q1; have q2 := HSL25.out; have := HTPl.out; show _ ≤ _; omega
        clear HB25 HB24 HB23
        obtain ⟨S26, hS26⟩ : ∃ r, S25 ++ Z2 = r := ⟨_, rfl⟩
        have HS26 := Lib.hid hS26
        have hl26 : S25.length + Z2.length ≤ 1073741824 := by rw [HZ2l.out]; have := HT25.out; omega
        have HSr26 := Lib.hid (HL0.out)
        clear hS26
        go_wp2_with (at_builtin; refine RB.app rfl _ _ rfl HB25a.out rfl (.slice (some ⟨y25.heap.size, 0, none⟩) 2 2) Z2 rfl HSr26.out S26 HS26 hl26 ?hk)
        case hk =>
        intro a26 y26 h26
        have HB26 := Lib.hid h26
        have HSL26 : Hid (S26.length = S25.length + Z2.length) := by show _ = _; rw [← HS26.out, List.length_append]
        obtain ⟨q26, d26, e26⟩ := h26.form
        subst e26
        clear h26 hl26 HSr26
        have HT26 : Hid (S26.length ≤ 300) := by have q2 := HSL26.out; rw [HZ2l.out] at q2; have := HT25.out; show _ ≤ _; omega
        clear HB25a HL0
        obtain ⟨S27, hS27⟩ : ∃ r, S26 ++ GB = r := ⟨_, rfl⟩
        have HS27 := Lib.hid hS27
        have hl27 : S26.length + GB.length ≤ 1073741824 := by have := HT26.out; have := HLG.out; omega
        have HSr27 := Lib.hid (G1.out.kp HB26.out.base (by simp))
        clear hS27
        go_wp2_with (at_builtin; refine RB.app rfl _ _ rfl HB26.out rfl (.slice p1 GB.length c1') GB rfl HSr27.out S27 HS27 hl27 ?hk)
        case hk =>
        intro a27 y27 h27
        have HB27 := Lib.hid h27
        have HSL27 : Hid (S27.length = S26.length + GB.length) := by show _ = _; rw [← HS27.out, List.length_append]
        obtain ⟨q27, d27, e27⟩ := h27.form
        subst e27
        clear h27 hl27 HSr27
        have HT27 : Hid (S27.length ≤ 1048876) := by have q2 := HSL27.out; have := HT26.out; have := HLG.out; show _ ≤ _; omega
        clear HB26
        obtain ⟨S28, hS28⟩ : ∃ r, S27 ++ NM = r := ⟨_, rfl⟩
        have HS28 := Lib.hid hS28
        have hl28 : S27.length + NM.length ≤ 1073741824 := by have := HT27.out; have := HLN.out; omega
        have HSr28 := Lib.hid (G3.out.kp HB27.out.base (by simp))
        clear hS28
        go_wp2_with (at_builtin; refine RB.app rfl _ _ rfl HB27.out rfl (.slice p3 NM.length c3') NM rfl HSr28.out S28 HS28 hl28 ?hk)
        case hk =>
        intro a28 y28 h28
        have HB28 := Lib.hid h28
        have HSL28 : Hid (S28.length = S27.length + NM.length) := by show _ = _; rw [← HS28.out, List.length_append]
        obtain ⟨q28, d28, e28⟩ := h28.form
        subst e28
        clear h28 hl28 HSr28
        have HT28 : Hid (S28.length ≤ 1311017) := by have q2 := HSL28.out; have := HT27.out; have := HLN.out; show _ ≤ _; omega
        clear HB27
        obtain ⟨S29, hS29⟩ : ∃ r, S28 ++ CB = r := ⟨_, rfl⟩
        have HS29 := Lib.hid hS29
        have hl29 : S28.length + CB.length ≤ 1073741824 := by have := HT28.out; have := HLC.out; omega
        have HSr29 := Lib.hid (G2.out.kp HB28.out.base (by simp))
        clear hS29
        go_wp2_with (at_builtin; refine RB.app rfl _ _ rfl HB28.out rfl (.slice p2 CB.length c2') CB rfl HSr29.out S29 HS29 hl29 ?hk)
        case hk =>
        intro a29 y29 h29
        have HB29 := Lib.hid h29
        have HSL29 : Hid (S29.length = S28.length + CB.length) := by show _ = _; rw [← HS29.out, List.length_append]
        obtain ⟨q29, d29, e29⟩ := h29.form
        subst e29
        clear h29 hl29 HSr29
        have HT29 : Hid (S29.length ≤ 2359593) := by have q2 := HSL29.out; have := HT28.out; have := HLC.out; show _ ≤ _; omega
        clear HB28
        obtain ⟨S30, hS30⟩ : ∃ r, S29 ++ S14 = r := ⟨_, rfl⟩
        have HS30 := Lib.hid hS30
        have hl30 : S29.length + S14.length ≤ 1073741824 := by have := HT29.out; have := HR14.out; omega
        have HSr30 := Lib.hid (HB29.out.row HM2.out)
        clear hS30
        go_wp2_with (at_builtin; refine RB.app rfl _ _ rfl HB29.out rfl (.slice q14 S14.length d14) S14 rfl HSr30.out S30 HS30 hl30 ?hk)
        case hk =>
        intro a30 y30 h30
        have HB30 := Lib.hid h30
        have HSL30 : Hid (S30.length = S29.length + S14.length) := by show _ = _; rw [← HS30.out, List.length_append]
        obtain ⟨q30, d30, e30⟩ := h30.form
        subst e30
        clear h30 hl30 HSr30
        have HF : Hid (S30 = outF p) := by show _ = _; rw [HOX.out, ← HS30.out, ← HS29.out, ← HS28.out, ← HS27.out, ← HS26.out, ← HS25.out, ← HS24.out, HHD4.out, HZ2.out]
        have HKF := Lib.hid (HKW.out.trans HB30.out.base)
        have HOB : Hid (decide (S30.length ≤ 1048576) = !badB p (sizeT p)) := by
          show _ = _
          rw [HBE.out, HF.out, HOL.out]
          by_cases h : 1048576 < (outU p (sizeT p)).length
          · rw [decide_eq_true h, decide_eq_false (by omega)]; rfl
          · rw [decide_eq_false h, decide_eq_true (by omega)]; rfl
        have HOB2 : Hid (decide ((S30.length : Int) ≤ 1048576) = decide (S30.length ≤ 1048576)) := by show _ = _; rw [decide_eq_decide]; omega
        have HW6 := HKW.out.size
        have HOWN : Hid (OwnB y30 w.heap.size (.slice q30 S30.length d30) (outF p)) := by
          have q := HB30.out.1.base HW6
          show OwnB _ _ _ _
          rw [← HF.out]
          exact q
        clear HB29 HB30
        generalize hQL : S30.length = QL at *
        go_wp2_with fail
        go_ret2
        refine ⟨.slice q30 QL d30, ?_, HKF.out, fun _ => HOWN.out⟩
        rw [← HOB.out]
        first | rfl | (rw [← HOB2.out]; first | rfl | simp)
end Go.Proofs.YtlhkaoccnpgkeaaGreat

/- type2: draw · type2: what the machine reads: Left, numbers; Bias; Push · type2: what a program does keeps its bounds (plain). (Merged by wip/tools/mergetpl.py out of TyQ, TyR, TyS.) -/
import Derived.Test.YtfgpocpfapnkkaaGreatTxE
namespace Go.Proofs.YtfgpocpfapnkkaaGreat
open Go.RowKit
set_option linter.unusedVariables false
set_option linter.unusedSimpArgs false
theorem find_sk (op : Int) : ∀ (l : List Sk) (i : Nat), i < l.length → (∀ j, j < i → (l.getD j sk0).op ≠ op) → (l.getD i sk0).op = op → l.find? (fun s => decide (s.op = op)) = some (l.getD i sk0)
  | [], i, h, _, _ => by simp at h
  | a :: l, 0, _, _, h => by
    have h' : a.op = op := h
    rw [List.find?_cons_of_pos (by simpa using h')]; rfl
  | a :: l, i + 1, hi, hno, h => by
    have h0 : a.op ≠ op := hno 0 (by omega)
    rw [List.find?_cons_of_neg (by simpa using h0)]
    exact find_sk op l i (by simpa using hi) (fun j hj => hno (j + 1) (by omega)) h
theorem find_none (op : Int) (l : List Sk) (hno : ∀ j, j < l.length → (l.getD j sk0).op ≠ op) : l.find? (fun s => decide (s.op = op)) = none := by
  rw [List.find?_eq_none]
  intro s hs
  obtain ⟨j, hj, rfl⟩ := List.mem_iff_getElem.1 hs
  have := hno j hj
  rw [List.getD_eq_getElem?_getD, List.getElem?_eq_getElem hj] at this
  simpa using this
theorem sk_at (i : Nat) (hi : i < 17) : ∀ c, c < 6 → skFlat.toArray[i * 6 + c]? = (skCells (sks.getD i sk0))[c]? := by
  intro c hc
  have h1 : i = 0 ∨ i = 1 ∨ i = 2 ∨ i = 3 ∨ i = 4 ∨ i = 5 ∨ i = 6 ∨ i = 7 ∨ i = 8 ∨ i = 9 ∨ i = 10 ∨ i = 11 ∨ i = 12 ∨ i = 13 ∨ i = 14 ∨ i = 15 ∨ i = 16 := by omega
  have h2 : c = 0 ∨ c = 1 ∨ c = 2 ∨ c = 3 ∨ c = 4 ∨ c = 5 := by omega
  rcases h1 with rfl | rfl | rfl | rfl | rfl | rfl | rfl | rfl | rfl | rfl | rfl | rfl | rfl | rfl | rfl | rfl | rfl <;> rcases h2 with rfl | rfl | rfl | rfl | rfl | rfl <;> rfl
theorem sk_mem (i : Nat) (hi : i < 17) : sks.getD i sk0 ∈ sks := by
  rw [List.getD_eq_getElem?_getD, List.getElem?_eq_getElem (show i < sks.length from hi)]; exact List.getElem_mem _
set_option maxRecDepth 100000 in
set_option maxHeartbeats 16000000 in
theorem draw_calls (W0 : World) (c : Lc) (P : Pg) (st : Ms) (op : Int) (w : World) (h : Mst W0 c P st w) (ok : OkS st) :
    Calls Tryz.prog 45 #[.pointer (some ⟨c.m, 0, none⟩), .int .i64 op] w (ResP W0 c P (drawM P.nom op st) w) := by
  have HM := Lib.hid h
  have HOK := Lib.hid ok
  have HD : Hid (drawM P.nom op st = match sks.find? (fun s => decide (s.op = op)) with | none => .error 180 | some s => drawS P.nom s st) := rfl
  generalize drawM P.nom op st = R at *
  clear h ok
  go_enter Tryz.func45, Tryz.ntmps45
  go_wp2_with fail
  refine (strokes_calls w).mono ?_; rintro e w1 ⟨rfl, hk1, hG⟩
  have HG := Lib.hid hG
  have HK1 := Lib.hid hk1
  clear hG hk1
  obtain ⟨G, hGe⟩ : ∃ G, w.heap.size = G := ⟨_, rfl⟩
  rw [hGe] at HG ⊢
  clear hGe
  go_wp2_with fail
  go_loopw [11] (fun iv wr => ∃ i : Nat, i ≤ 17 ∧ iv = .int .i64 i ∧ Hid (Kp [] w1 wr ∧ ∀ j, j < i → (sks.getD j sk0).op ≠ op)) (fun iv _ => 17 - (intOf iv).toNat)
  case atStart => exact ⟨0, by omega, rfl, Kp.refl _ _, fun j hj => by omega⟩
  case round =>
    obtain ⟨i, hi, rfl, HJ⟩ := hrel
    by_cases hlt : i < 17
    · obtain ⟨S, hS⟩ : ∃ S, sks.getD i sk0 = S := ⟨_, rfl⟩
      have hsm : S ∈ sks := by rw [← hS]; exact sk_mem i hlt
      obtain ⟨s1, s2, s3, s4, s5⟩ := sk_small S hsm
      have HSC := Lib.hid (sk_all S hsm)
      have hGr := HJ.out.1.heap HG.out (by simp)
      have cf : ∀ cc u, cc < 6 → (skCells S)[cc]? = some u → wr.cell? ⟨G, i * 6 + cc, none⟩ = some u := fun cc u hc hu => by
        rw [cell_of_row wr G (i * 6 + cc) _ _ _ hGr, sk_at i hlt cc hc, hS]; exact hu
      have c0 := cf 0 (.int .i64 S.op) (by decide) rfl
      have c1 := cf 1 (.int .i64 S.least) (by decide) rfl
      have c2 := cf 2 (.int .i64 S.by_) (by decide) rfl
      have c3 := cf 3 (.int .i64 S.over) (by decide) rfl
      have c4 := cf 4 (.bool S.wide) (by decide) rfl
      have c5 := cf 5 (.func (.func S.k) #[] #[]) (by decide) rfl
      rw [Nat.add_zero] at c0
      have HC : Hid (skCells S = #[.int .i64 S.op, .int .i64 S.least, .int .i64 S.by_, .int .i64 S.over, .bool S.wide, .func (.func S.k) #[] #[]]) := rfl
      have HS := Lib.hid hS
      clear cf hGr hsm hS
      go_upto_region 4 with fail
      refine wp_genT ?_; intro W2 hW2
      have hb2 : W2.heap[wr.heap.size]? = some (.cells (skCells S) 88 (0, 0)) := by rw [hW2, HC.out]; exact heap_alloc_new wr _
      have hk2 : Kp [] wr W2 := by rw [hW2]; exact (Kp.refl _ _).alloc _
      clear hW2 c0 c1 c2 c3 c4 c5
      generalize wr.heap.size = X at *
      have d0 : W2.cell? ⟨X, 0, none⟩ = some (.int .i64 S.op) := cell_of_row W2 X 0 _ _ _ hb2
      by_cases hop : S.op = op
      · have HF : Hid (R = drawS P.nom S st) := by
          show R = _
          rw [HD.out, find_sk op sks i hlt HJ.out.2 (by rw [HS.out]; exact hop), HS.out]
        have hne : (S.op != op) = false := by simpa using hop
        have HM2 := Lib.hid ((HM.out.kp0 HK1.out).kp0 (HJ.out.1.trans hk2))
        have HT2 : Hid (KT [] runTs W0.heap.size w W2) := KT.of_kp0 (HK1.out.trans (HJ.out.1.trans hk2))
        have HB2 := Lib.hid hb2
        have HAL := Lib.hid (all1_calls W0 c P st W2 HM2.out HOK.out 60 (.pointer (some ⟨X, 0, none⟩)) Tryz.call60 (S.wide && decide (st.stk.length = S.least + 1)) (fun hh e => by rw [e] at hh; simp at hh) (fun W hW => draw1_calls X S st.stk.length W s1 (by have := HOK.out.1.1; omega) (hW.heap HB2.out (by simp) (.inr (by decide)))))
        obtain ⟨b, hb⟩ : ∃ b, (st.wide && (S.wide && decide (st.stk.length = S.least + 1))) = b := ⟨_, rfl⟩
        rw [hb] at HAL
        have HRS : Hid (R = if allE st P.nom b ≠ 0 then .error (allE st P.nom b) else if skOk S (allL st b).length = false then .error 180 else if (S.F st.pen (allL st b)).e ≠ 0 then .error (S.F st.pen (allL st b)).e else .ok { allS st P.nom b with pen := S.F st.pen (allL st b) }) := by
          rw [← hb]; exact HF.out
        have HLM : Hid (∀ x ∈ allL st b, mayB x = true) := fun x hx => by
          have h9 := HOK.out.1.2.1 x
          unfold allL at hx
          split at hx
          · exact h9 (List.mem_of_mem_drop hx)
          · exact h9 hx
        have hl48 := allL_len st b HOK.out.1.1
        have HPN : Hid ((allS st P.nom b).pen = st.pen) := by show _ = _; unfold allS; split <;> rfl
        clear hb HF hop HJ HD HG HK1 HM hb2 hk2
        go_wp2_with fail
        refine HAL.out.mono ?_; rintro e w3 ⟨lv, rfl, hr3, hm3, hT3⟩
        obtain ⟨pp, cc, rfl⟩ := hr3.form
        have HR3 := Lib.hid hr3
        have HM3 := Lib.hid hm3
        have HT3 : Hid (KT [] runTs W0.heap.size w w3) := HT2.out.trans hT3
        have hb3 := hT3.heap HB2.out (by simp) (.inr (by decide))
        have HB3 := Lib.hid hb3
        have e0 : w3.cell? ⟨X, 0, none⟩ = some (.int .i64 S.op) := cell_of_row w3 X 0 _ _ _ hb3
        have e1 : w3.cell? ⟨X, 1, none⟩ = some (.int .i64 S.least) := cell_of_row w3 X 1 _ _ _ hb3
        have e2 : w3.cell? ⟨X, 2, none⟩ = some (.int .i64 S.by_) := cell_of_row w3 X 2 _ _ _ hb3
        have e3 : w3.cell? ⟨X, 3, none⟩ = some (.int .i64 S.over) := cell_of_row w3 X 3 _ _ _ hb3
        have e4 : w3.cell? ⟨X, 4, none⟩ = some (.bool S.wide) := cell_of_row w3 X 4 _ _ _ hb3
        have e5 : w3.cell? ⟨X, 5, none⟩ = some (.func (.func S.k) #[] #[]) := cell_of_row w3 X 5 _ _ _ hb3
        obtain ⟨L, hL⟩ : ∃ L, (allL st b).length = L := ⟨_, rfl⟩
        rw [hL] at HR3 HRS hl48 ⊢
        have HL := Lib.hid hL
        generalize allE st P.nom b = E at *
        clear HAL hr3 hm3 hT3 hb3 d0 HB2 HT2 HM2 hL
        by_cases hE : E = 0
        · subst hE
          rw [if_neg (by simp)] at HRS
          have HRT := Lib.hid (fun W => right_calls S L s1 s2 s3 (by omega) W)
          rw [HC.out] at HRT
          cases hok : skOk S L with
          | false =>
            rw [if_pos hok] at HRS
            rw [hok] at HRT
            go_wp2_with fail
            refine (HRT.out w3).mono ?_; rintro e w4 ⟨rfl, hk4⟩
            go_wp2_with fail
            go_ret
            rw [HRS.out]
            exact ResP.err 180 (HT3.out.trans (KT.of_kp0 hk4))
          | true =>
            rw [if_neg (by rw [hok]; simp)] at HRS
            rw [hok] at HRT
            have HKC := Lib.hid (HSC.out.2 c.pn c.B2 st.pen (.slice pp L cc) (allL st b))
            have HSK : Hid (skOk S (allL st b).length = true) := by show _ = _; rw [HL.out]; exact hok
            have hent := HSC.out.1
            clear hok
            go_wp2_with fail
            refine (HRT.out w3).mono ?_; rintro e w4 ⟨rfl, hk4⟩
            have HM4 := Lib.hid (HM3.out.kp0 hk4)
            have HR4 := Lib.hid (HR3.out.kp0 hk4)
            have HT4 : Hid (KT [] runTs W0.heap.size w w4) := HT3.out.trans (KT.of_kp0 hk4)
            have g5 := hk4.cell e5 (by simp)
            obtain ⟨_, c7, _⟩ := HM4.out.mach.facts
            clear hk4 e0 e1 e2 e3 e4 e5 HRT
            go_wp2_with fail
            have q5 := KW.cell g5
            have q7 := KW.cell c7
            clear g5 c7
            refine wp_region_kqt 7 (by kernel_rfl) (by kernel_rfl) ?_
            simp only [List.take_succ_cons, List.take_zero, List.drop_succ_cons, List.drop_zero]
            repeat (go_big_quiet_step (fail))
            refine wpQuiet_nil ?_
            intro w5 hw'
            obtain ⟨⟨_, hkw5⟩, rfl⟩ := hw'
            try dsimp only
            clear q5 q7
            have HM5 := Lib.hid (HM4.out.kp0 hkw5)
            have HR5 := Lib.hid (HR4.out.kp0 hkw5)
            have HT5 : Hid (KT [] runTs W0.heap.size w w5) := HT4.out.trans (KT.of_kp0 hkw5)
            clear HM4 HR4 HT4 hkw5
            go_wp2_with fail
            obtain ⟨hpA, hpB⟩ := HM5.out.pen
            rw [HPN.out] at hpA
            refine (HKC.out w5 hpA HOK.out.2.1 hpB HR5.out HLM.out HSK.out).mono ?_; rintro r w6 ⟨rfl, hA6, hk6⟩
            obtain ⟨hm6, hT6⟩ := HM5.out.draw hA6 hk6
            have HM6 := Lib.hid hm6
            have HT6 : Hid (KT [] runTs W0.heap.size w w6) := HT5.out.trans hT6
            obtain ⟨_, c7, _⟩ := hm6.mach.facts
            obtain ⟨lv6, vs6, hc6, _⟩ := hA6
            obtain ⟨_, _, _, _, ce, _⟩ := hc6.facts
            generalize S.F st.pen (allL st b) = Q at *
            clear hm6 hT6 hk6 hc6 hpA hpB
            go_wp2_with fail
            go_ret
            by_cases hQ : Q.e = 0
            · rw [if_neg (by simpa using hQ)] at HRS
              rw [HRS.out, hQ]
              exact ResP.ok HM6.out HT6.out
            · rw [if_pos hQ] at HRS
              rw [HRS.out]
              exact ResP.err _ HT6.out
        · rw [if_pos hE] at HRS
          have hb : (E != 0) = true := by simpa using hE
          clear e0 e1 e2 e3 e4 e5
          go_wp2_with fail
          go_ret
          rw [HRS.out]
          exact ResP.err E HT3.out
      · have hne : (S.op != op) = true := by simpa using hop
        have HJ2 : Hid (Kp [] w1 W2 ∧ ∀ j, j < i + 1 → (sks.getD j sk0).op ≠ op) := ⟨HJ.out.1.trans hk2, fun j hj => by
          rcases Nat.lt_succ_iff_lt_or_eq.1 hj with h | h
          · exact HJ.out.2 j h
          · rw [h, HS.out]; exact hop⟩
        clear hb2 hk2
        go_wp2_with fail
        go_roundw
        case rel => first | exact ⟨i + 1, by omega, int_eq' (by omega), HJ2⟩ | ((repeat apply Exists.intro); exact ⟨⟨i + 1, by omega, int_eq' (by omega), HJ2⟩, rfl⟩)
        case measure => simp [intOf]; omega
    · obtain rfl : i = 17 := by omega
      have HF : Hid (R = .error 180) := by
        show R = _
        rw [HD.out, find_none op sks (fun j hj => HJ.out.2 j hj)]
      have HT : Hid (KT [] runTs W0.heap.size w wr) := KT.of_kp0 (HK1.out.trans HJ.out.1)
      go_wp2_with fail
      go_ret
      rw [HF.out]
      exact ResP.err 180 HT.out
end Go.Proofs.YtfgpocpfapnkkaaGreat
namespace Go.Proofs.YtfgpocpfapnkkaaGreat
open Go.RowKit
set_option linter.unusedVariables false
set_option linter.unusedSimpArgs false
section
variable {w : World} {r : Nat} {v : Value} {zs : List Int} {k : Nat} {bad : Bool}
theorem u32S (h : RdS w r v zs k bad) : Calls Tryz.prog 51 #[.pointer (some ⟨r, 0, none⟩)] w fun e w' => e = .returned (.int .i64 (rdV zs k bad 4)) ∧ RdS w' r v zs (rdK zs k bad 4) (rdB zs k bad 4) ∧ Kp [r] w w' :=
  (u32_calls r v zs k bad w h.1 h.2.1 h.2.2.1 h.2.2.2.1 h.2.2.2.2).mono fun e w' ⟨he, h1, hk⟩ => ⟨he, h.read h1 hk, hk⟩
theorem leftS (h : RdS w r v zs k false) : Calls Tryz.prog 25 #[.pointer (some ⟨r, 0, none⟩)] w fun e w' => e = .returned (.int .i64 ((zs.length : Int) - k)) ∧ Kp [] w w' := by
  have hle := h.2.1.le
  have hk := h.2.2.2.2
  unfold maxLen at hle
  obtain ⟨p, c, rfl⟩ : ∃ p c, v = .slice p zs.length c := by
    rcases h.2.1 with ⟨⟨pb, rfl⟩, rfl⟩ | ⟨g, off, c, rfl, _⟩
    · exact ⟨_, _, rfl⟩
    · exact ⟨_, _, rfl⟩
  obtain ⟨c0, c1, c2, _, _⟩ := h.1.facts
  have HW := Lib.hid (wrong_calls r _ k false w h.1)
  generalize zs.length = N at *
  have hw : IntKind.i64.wrap ((N : Int) - (k : Int)) = (N : Int) - k := by rw [IntKind.wrap_i64]; omega
  clear h
  go_enter Tryz.func25, Tryz.ntmps25
  go_wp2_with fail
  refine HW.out.mono ?_; rintro e w1 ⟨rfl, rfl⟩
  go_wp2_with fail
  have q0 := KW.cell c0
  have q1 := KW.cell c1
  clear c0 c1 c2
  refine wp_region_kq (by kernel_rfl) (by kernel_rfl) ?_
  repeat (go_big_quiet_step (fail))
  refine wpQuiet_nil ?_
  intro w2 hw'
  obtain ⟨⟨_, hkw2⟩, rfl⟩ := hw'
  clear q0 q1
  go_wp2_with fail
  go_ret
  exact ⟨by simp, hkw2⟩
theorem wrap32_s32 (x : Int) (h0 : 0 ≤ x) (h1 : x < 4294967296) : IntKind.i32.wrap x = s32 x := by
  unfold s32; by_cases h : 2147483648 ≤ x <;> simp [IntKind.wrap, IntKind.signed, IntKind.bits, h] <;> omega
theorem s32_bounds (x : Int) (h0 : 0 ≤ x) (h1 : x < 4294967296) : -2147483648 ≤ s32 x ∧ s32 x ≤ 2147483647 := by
  unfold s32; split <;> omega
set_option maxRecDepth 100000 in
set_option maxHeartbeats 8000000 in
theorem tnum_calls (c : Int) (hc : 32 ≤ c ∨ c = 28) (hc2 : c ≤ 255) (h : RdS w r v zs k false) :
    Calls Tryz.prog 37 #[.pointer (some ⟨r, 0, none⟩), .int .i64 c] w fun e w' => e = .returned (.int .i64 (numV c (rdV zs k false (numN c)))) ∧ RdS w' r v zs (rdK zs k false (numN c)) (rdB zs k false (numN c)) ∧ Kp [r] w w' := by
  by_cases h28 : c = 28
  · subst h28
    rw [show numN 28 = 2 from rfl]
    have HI := Lib.hid (i16S h)
    obtain ⟨b1, b2⟩ := rdV_bounds zs k false 2 h.2.2.1
    obtain ⟨b3, b4⟩ := s16_bounds _ b1 b2
    have HN : Hid (numV 28 (rdV zs k false 2) = s16 (rdV zs k false 2) * 65536) := rfl
    generalize numV 28 (rdV zs k false 2) = R at *
    generalize s16 (rdV zs k false 2) = y at *
    have hw : IntKind.i64.wrap (y * 65536) = y * 65536 := by rw [IntKind.wrap_i64]; omega
    clear h b1 b2 b3 b4
    go_enter Tryz.func37, Tryz.ntmps37
    go_wp2_with fail
    refine HI.out.mono ?_; rintro e w1 ⟨rfl, h1, hk1⟩
    go_wp2_with fail
    go_ret
    exact ⟨by rw [HN.out]; simp, h1, hk1⟩
  · by_cases h255 : c = 255
    · subst h255
      rw [show numN 255 = 4 from rfl]
      have HI := Lib.hid (u32S h)
      obtain ⟨b1, b2⟩ := rdV_bounds zs k false 4 h.2.2.1
      have b2' : rdV zs k false 4 < 4294967296 := b2
      have hc := wrap32_s32 _ b1 b2'
      obtain ⟨b3, b4⟩ := s32_bounds _ b1 b2'
      have HN : Hid (numV 255 (rdV zs k false 4) = s32 (rdV zs k false 4)) := rfl
      generalize numV 255 (rdV zs k false 4) = R at *
      generalize rdV zs k false 4 = y at *
      have hw : IntKind.i64.wrap (s32 y) = s32 y := by rw [IntKind.wrap_i64]; omega
      clear h b1 b2 b3 b4 b2'
      go_enter Tryz.func37, Tryz.ntmps37
      go_wp2_with fail
      refine HI.out.mono ?_; rintro e w1 ⟨rfl, h1, hk1⟩
      go_wp2_with fail
      go_ret
      exact ⟨by rw [HN.out]; simp, h1, hk1⟩
    · by_cases h251 : 251 ≤ c
      · have hn : numN c = 1 := by unfold numN; rw [if_neg h28, if_neg h255, if_pos (by omega)]
        rw [hn]
        have HI := Lib.hid (u8S h)
        obtain ⟨b1, b2⟩ := rdV_bounds zs k false 1 h.2.2.1
        have b2' : rdV zs k false 1 < 256 := b2
        have HN : Hid (numV c (rdV zs k false 1) = (-(c - 251) * 256 - rdV zs k false 1 - 108) * 65536) := by show _ = _; unfold numV; rw [if_neg h28, if_neg h255, if_pos h251]
        generalize numV c (rdV zs k false 1) = R at *
        generalize rdV zs k false 1 = y at *
        obtain ⟨d, rfl⟩ : ∃ d : Nat, c = 251 + d := ⟨(c - 251).toNat, by omega⟩
        have hd : d ≤ 3 := by omega
        have hcd : (251 : Int) + (d : Int) - 251 = (d : Int) := by omega
        rw [hcd] at HN
        have e28 : ((251 : Int) + (d : Int) == 28) = false := by rw [beq_eq_false_iff_ne]; omega
        have e255 : ((251 : Int) + (d : Int) == 255) = false := by rw [beq_eq_false_iff_ne]; omega
        have hw1 : IntKind.i64.wrap ((251 : Int) + (d : Int) - 251) = (d : Int) := by rw [IntKind.wrap_i64]; omega
        have hw2 : IntKind.i64.wrap (-(d : Int)) = -(d : Int) := by rw [IntKind.wrap_i64]; omega
        have hw3 : IntKind.i64.wrap (-(d : Int) * 256) = -(d : Int) * 256 := by rw [IntKind.wrap_i64]; omega
        have hw4 : IntKind.i64.wrap (-(d : Int) * 256 - y) = -(d : Int) * 256 - y := by rw [IntKind.wrap_i64]; omega
        have hw5 : IntKind.i64.wrap (-(d : Int) * 256 - y - 108) = -(d : Int) * 256 - y - 108 := by rw [IntKind.wrap_i64]; omega
        have hw6 : IntKind.i64.wrap ((-(d : Int) * 256 - y - 108) * 65536) = (-(d : Int) * 256 - y - 108) * 65536 := by rw [IntKind.wrap_i64]; omega
        clear h b1 b2 b2' hn h28 h255 hc
        go_enter Tryz.func37, Tryz.ntmps37
        go_wp2_with fail
        refine HI.out.mono ?_; rintro e w1 ⟨rfl, h1, hk1⟩
        go_wp2_with fail
        go_ret
        exact ⟨by rw [HN.out]; simp, h1, hk1⟩
      · by_cases h247 : 247 ≤ c
        · have hn : numN c = 1 := by unfold numN; rw [if_neg h28, if_neg h255, if_pos (by omega)]
          rw [hn]
          have HI := Lib.hid (u8S h)
          obtain ⟨b1, b2⟩ := rdV_bounds zs k false 1 h.2.2.1
          have b2' : rdV zs k false 1 < 256 := b2
          have HN : Hid (numV c (rdV zs k false 1) = ((c - 247) * 256 + rdV zs k false 1 + 108) * 65536) := by show _ = _; unfold numV; rw [if_neg h28, if_neg h255, if_neg h251, if_pos h247]
          generalize numV c (rdV zs k false 1) = R at *
          generalize rdV zs k false 1 = y at *
          obtain ⟨d, rfl⟩ : ∃ d : Nat, c = 247 + d := ⟨(c - 247).toNat, by omega⟩
          have hd : d ≤ 3 := by omega
          have hcd : (247 : Int) + (d : Int) - 247 = (d : Int) := by omega
          rw [hcd] at HN
          have e28 : ((247 : Int) + (d : Int) == 28) = false := by rw [beq_eq_false_iff_ne]; omega
          have e255 : ((247 : Int) + (d : Int) == 255) = false := by rw [beq_eq_false_iff_ne]; omega
          have hw1 : IntKind.i64.wrap ((247 : Int) + (d : Int) - 247) = (d : Int) := by rw [IntKind.wrap_i64]; omega
          have hw3 : IntKind.i64.wrap ((d : Int) * 256) = (d : Int) * 256 := by rw [IntKind.wrap_i64]; omega
          have hw4 : IntKind.i64.wrap ((d : Int) * 256 + y) = (d : Int) * 256 + y := by rw [IntKind.wrap_i64]; omega
          have hw5 : IntKind.i64.wrap ((d : Int) * 256 + y + 108) = (d : Int) * 256 + y + 108 := by rw [IntKind.wrap_i64]; omega
          have hw6 : IntKind.i64.wrap (((d : Int) * 256 + y + 108) * 65536) = ((d : Int) * 256 + y + 108) * 65536 := by rw [IntKind.wrap_i64]; omega
          clear h b1 b2 b2' hn h28 h255 hc
          go_enter Tryz.func37, Tryz.ntmps37
          go_wp2_with fail
          refine HI.out.mono ?_; rintro e w1 ⟨rfl, h1, hk1⟩
          go_wp2_with fail
          go_ret
          exact ⟨by rw [HN.out]; simp, h1, hk1⟩
        · have hn : numN c = 0 := by unfold numN; rw [if_neg h28, if_neg h255, if_neg h247]
          have hB : rdB zs k false 0 = false := by unfold rdB; have := h.2.2.2.2; simp; omega
          have hK : rdK zs k false 0 = k := by unfold rdK; rw [hB]; rfl
          have HN : Hid (numV c (rdV zs k false 0) = (c - 139) * 65536) := by show _ = _; unfold numV; rw [if_neg h28, if_neg h255, if_neg h251, if_neg h247]
          rw [hn, hB, hK]
          have HH := Lib.hid h
          generalize numV c (rdV zs k false 0) = R at *
          have e28 : (c == 28) = false := by rw [beq_eq_false_iff_ne]; omega
          have e255 : (c == 255) = false := by rw [beq_eq_false_iff_ne]; omega
          have hw1 : IntKind.i64.wrap (c - 139) = c - 139 := by rw [IntKind.wrap_i64]; omega
          have hw2 : IntKind.i64.wrap ((c - 139) * 65536) = (c - 139) * 65536 := by rw [IntKind.wrap_i64]; omega
          clear h hn hB hK
          go_enter Tryz.func37, Tryz.ntmps37
          go_wp2_with fail
          go_ret
          exact ⟨by rw [HN.out]; simp, HH.out, Kp.refl _ _⟩
end
theorem bias_calls (n : Int) (w : World) : Calls Tryz.prog 15 #[.int .i64 n] w fun e w' => e = .returned (.int .i64 (biasM n)) ∧ w = w' := by
  by_cases h1 : n < 1240
  · have HB : Hid (biasM n = 107) := if_pos h1
    go_enter Tryz.func15, Tryz.ntmps15
    go_wp2_with fail
    go_ret
    exact ⟨by rw [HB.out]; simp, rfl⟩
  · by_cases h2 : n < 33900
    · have HB : Hid (biasM n = 1131) := (if_neg h1).trans (if_pos h2)
      go_enter Tryz.func15, Tryz.ntmps15
      go_wp2_with fail
      go_ret
      exact ⟨by rw [HB.out]; simp, rfl⟩
    · have HB : Hid (biasM n = 32768) := (if_neg h1).trans (if_neg h2)
      go_enter Tryz.func15, Tryz.ntmps15
      go_wp2_with fail
      go_ret
      exact ⟨by rw [HB.out]; simp, rfl⟩
theorem rbias_calls (n : Int) (w : World) : Calls Tryz.prog 13 #[.int .i64 n] w fun e w' => e = .returned (.int .i64 (biasM n)) ∧ w = w' := by
  by_cases h1 : n < 1240
  · have HB : Hid (biasM n = 107) := if_pos h1
    go_enter Tryz.func13, Tryz.ntmps13
    go_wp2_with fail
    go_ret
    exact ⟨by rw [HB.out]; simp, rfl⟩
  · by_cases h2 : n < 33900
    · have HB : Hid (biasM n = 1131) := (if_neg h1).trans (if_pos h2)
      go_enter Tryz.func13, Tryz.ntmps13
      go_wp2_with fail
      go_ret
      exact ⟨by rw [HB.out]; simp, rfl⟩
    · have HB : Hid (biasM n = 32768) := (if_neg h1).trans (if_neg h2)
      go_enter Tryz.func13, Tryz.ntmps13
      go_wp2_with fail
      go_ret
      exact ⟨by rw [HB.out]; simp, rfl⟩
end Go.Proofs.YtfgpocpfapnkkaaGreat
namespace Go.Proofs.YtfgpocpfapnkkaaGreat
open Go.RowKit
set_option linter.unusedVariables false
set_option linter.unusedSimpArgs false
theorem okP_steps : ∀ (xs : List Int) (q : Pe) (x : Bool), okP q → okP (stepsP q x xs)
  | [], _, _, h => h
  | d :: t, q, true, h => okP_steps t _ _ (okP_put h d 0 1)
  | d :: t, q, false, h => okP_steps t _ _ (okP_put h 0 d 1)
theorem okP_level : ∀ (xs : List Int) (q : Pe) (y : Int), okP q → okP (levelP q y xs)
  | [], _, _, h => h
  | [_], _, _, h => h
  | [_, _], _, _, h => h
  | [_, _, _], _, _, h => h
  | a :: b :: c :: d :: t, q, y, h => okP_level t _ _ (okP_curve h _ _ _ _ _ _)
theorem okP_upright : ∀ (xs : List Int) (q : Pe) (y : Int), okP q → okP (uprightP q y xs)
  | [], _, _, h => h
  | [_], _, _, h => h
  | [_, _], _, _, h => h
  | [_, _, _], _, _, h => h
  | a :: b :: c :: d :: t, q, y, h => okP_upright t _ _ (okP_curve h _ _ _ _ _ _)
theorem okP_turns : ∀ (xs : List Int) (q : Pe) (x : Bool), okP q → okP (turnsP q x xs)
  | [], _, _, h => h
  | [_], _, _, h => h
  | [_, _], _, _, h => h
  | [_, _, _], _, _, h => h
  | a :: b :: c :: d :: t, q, true, h => okP_turns t _ _ (okP_curve h _ _ _ _ _ _)
  | a :: b :: c :: d :: t, q, false, h => okP_turns t _ _ (okP_curve h _ _ _ _ _ _)
theorem okP_F : ∀ s ∈ sks, ∀ (q : Pe) (xs : List Int), okP q → okP (s.F q xs) := by
  intro s hs q xs h
  simp only [sks, List.mem_cons, List.not_mem_nil, or_false] at hs
  rcases hs with rfl | rfl | rfl | rfl | rfl | rfl | rfl | rfl | rfl | rfl | rfl | rfl | rfl | rfl | rfl | rfl | rfl
  · exact okP_move h _ _
  · exact okP_move h _ _
  · exact okP_move h _ _
  · exact okP_lines _ _ h
  · exact okP_steps _ _ _ h
  · exact okP_steps _ _ _ h
  · exact okP_curves _ _ h
  · exact okP_lines _ _ (okP_curves _ _ h)
  · exact okP_curves _ _ (okP_lines _ _ h)
  · exact okP_upright _ _ _ h
  · exact okP_level _ _ _ h
  · exact okP_turns _ _ _ h
  · exact okP_turns _ _ _ h
  · show okP (hflexP q xs)
    unfold hflexP; split
    · exact okP_curve (okP_curve h _ _ _ _ _ _) _ _ _ _ _ _
    · exact h
  · exact okP_curves _ _ h
  · show okP (hflex1P q xs)
    unfold hflex1P; split
    · exact okP_curve (okP_curve h _ _ _ _ _ _) _ _ _ _ _ _
    · exact h
  · show okP (flex1P q xs)
    unfold flex1P; split
    · unfold flex1Q; split
      · exact okP_curve (okP_curve h _ _ _ _ _ _) _ _ _ _ _ _
      · exact okP_curve (okP_curve h _ _ _ _ _ _) _ _ _ _ _ _
    · exact h
theorem okS_all {st : Ms} (nom : Int) (b : Bool) (h : OkS st) : OkS (allS st nom b) := by
  obtain ⟨⟨h1, h2, h3, h4⟩, h5, h6, h7⟩ := h
  unfold allS
  split
  · exact ⟨⟨by simp, by simp, h3, h4⟩, h5, h6, h7⟩
  · exact ⟨⟨by simp, by simp, h3, h4⟩, h5, h6, h7⟩
theorem okS_stem {st st' : Ms} {nom : Int} (h : OkS st) (e : stemM nom st = .ok st') : OkS st' := by
  unfold stemM at e
  dsimp only at e
  generalize (st.wide && decide (st.stk.length % 2 = 1)) = b at e
  split at e
  · cases e
  · split at e
    · cases e
    · rename_i hc
      cases e
      have h9 := okS_all nom b h
      exact ⟨h9.1, h9.2.1, h9.2.2.1, by show st.stems + (allL st b).length / 2 ≤ 96; omega⟩
theorem okS_end {st st' : Ms} {nom : Int} (h : OkS st) (e : endM nom st = .ok st') : OkS st' := by
  unfold endM at e
  dsimp only at e
  generalize (st.wide && (decide (st.stk.length = 1) || decide (st.stk.length = 5))) = b at e
  split at e
  · cases e
  · split at e
    · cases e
    · split at e
      · cases e
      · cases e
        exact okS_all nom b h
theorem okS_draw {st st' : Ms} {nom op : Int} (h : OkS st) (e : drawM nom op st = .ok st') : OkS st' := by
  unfold drawM at e
  split at e
  · cases e
  · rename_i s hs
    have hm := List.mem_of_find?_eq_some hs
    unfold drawS at e
    dsimp only at e
    generalize (st.wide && (s.wide && decide (st.stk.length = s.least + 1))) = b at e
    split at e
    · cases e
    · split at e
      · cases e
      · split at e
        · cases e
        · cases e
          have h9 := okS_all nom b h
          exact ⟨h9.1, okP_F s hm _ _ h.2.1, h9.2.2⟩
theorem okS_push {st st' : Ms} {x : Int} (h : OkS st) (e : pushM x st = .ok st') : OkS st' := by
  unfold pushM at e
  split at e
  · cases e
  · rename_i hm
    split at e
    · cases e
    · rename_i hl
      cases e
      obtain ⟨⟨h1, h2, h3, h4⟩, h5⟩ := h
      refine ⟨⟨by simp; omega, fun y hy => ?_, h3, h4⟩, h5⟩
      rcases List.mem_append.1 hy with g | g
      · exact h2 y g
      · simp at g; subst g; simpa using hm
theorem okS_do {st st' : Ms} {op : Int} (h : OkS st) (e : doR op st = .ok st') : OkS st' := by
  unfold doR at e
  dsimp only at e
  split at e
  · cases e
  · cases e
    exact ⟨doM_ok op _ _ _ h.1, h.2⟩
def okF (f : List Int → Ms → Rm) : Prop := ∀ zs st st', OkS st → f zs st = .ok st' → OkS st'
theorem okS_call {st st' : Ms} {l : List (List Int)} {sub : Option (List Int → Ms → Rm)} (hf : ∀ f, sub = some f → okF f) (h : OkS st) (e : callM l sub st = .ok st') : OkS st' := by
  unfold callM at e
  split at e
  · cases e
  · dsimp only at e
    split at e
    · cases e
    · rename_i f
      split at e
      · cases e
      · refine hf f rfl _ _ _ ?_ e
        obtain ⟨⟨h1, h2, h3, h4⟩, h5⟩ := h
        exact ⟨⟨by simp; omega, fun y hy => h2 y (List.dropLast_subset _ hy), h3, h4⟩, h5⟩
theorem okS_tok {st st' : Ms} {nom : Int} {G L : List (List Int)} {sub : Option (List Int → Ms → Rm)} {zs : List Int} {k : Nat} {c : Int} (hf : ∀ f, sub = some f → okF f) (h : OkS st) (e : (tokM nom G L sub zs k c st).1 = .ok st') : OkS st' := by
  unfold tokM at e
  split at e
  · split at e
    · cases e
    · exact okS_push h e
  · split at e
    · exact okS_call hf h e
    · split at e
      · exact okS_call hf h e
      · split at e
        · split at e
          · cases e
          · dsimp only at e
            split at e
            · exact okS_do h e
            · exact okS_draw h e
        · split at e
          · split at e
            · cases e
            · rename_i st2 hs
              split at e
              · cases e
              · cases e; exact okS_stem h hs
          · split at e
            · exact okS_stem h e
            · split at e
              · exact okS_end h e
              · exact okS_draw h e
theorem okS_loop {nom : Int} {G L : List (List Int)} {sub : Option (List Int → Ms → Rm)} {top : Bool} {zs : List Int} (hf : ∀ f, sub = some f → okF f) : ∀ (f k : Nat) (st st' : Ms), OkS st → loopM nom G L sub top zs f k st = .ok st' → OkS st' := by
  intro f
  induction f with
  | zero => intro k st st' h e; cases e
  | succ f ih =>
    intro k st st' h e
    unfold loopM at e
    split at e
    · cases e; exact h
    · split at e
      · cases e
      · split at e
        · cases e
        · rename_i hs
          have h2 : OkS { st with steps := st.steps + 1 } := ⟨h.1, h.2.1, by have := h.2.2.1; show st.steps + 1 ≤ 20000; omega, h.2.2.2⟩
          split at e
          · split at e
            · cases e
            · cases e; exact h2
          · split at e
            · cases e
            · rename_i st2 k2 ht
              exact ih _ _ _ (okS_tok (zs := zs) (k := k + 1) (c := zs.getD k 0) hf h2 (by rw [ht])) e
theorem okF_code (nom : Int) (G L : List (List Int)) : ∀ (lev : Nat) (top : Bool), okF (codeM nom G L lev top)
  | 0, top => fun zs st st' h e => okS_loop (fun f hf => by cases hf) _ _ _ _ h e
  | lev + 1, top => fun zs st st' h e => okS_loop (fun f hf => by cases hf; exact okF_code nom G L lev false) _ _ _ _ h e
end Go.Proofs.YtfgpocpfapnkkaaGreat

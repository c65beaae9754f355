/- simple: Decode, walked. -/
import Derived.Test.YtodjohoonbkklaaSiF
import Derived.Deep.DeepCutAuto
namespace Go.Proofs.Ytodjohoonbkklaa
open Go.RowKit
set_option linter.unusedVariables false
set_option linter.unusedSimpArgs false
/-- The reader, somewhere behind w. -/
def AtR (w W : World) (r : Nat) (v : Value) (zs : List Int) (s : Rs) : Prop := RdS W r v zs s.1 s.2 ∧ Kp [] w W ∧ w.heap.size ≤ r ∧ ∀ b, blockOf v = some b → b < w.heap.size
theorem AtR.read {w W W' : World} {r : Nat} {v : Value} {zs : List Int} {s s' : Rs} (h : AtR w W r v zs s) (hr : RdS W' r v zs s'.1 s'.2) (hk : Kp [r] W W') : AtR w W' r v zs s' :=
  ⟨hr, h.2.1.trans' hk (fun t ht => by simp at ht; subst ht; exact .inr h.2.2.1), h.2.2⟩
theorem AtR.below {w W : World} {r : Nat} {v : Value} {zs : List Int} {s : Rs} (h : AtR w W r v zs s) : ∀ b, blockOf v = some b → b < W.heap.size := fun b hb => Nat.lt_of_lt_of_le (h.2.2.2 b hb) h.2.1.size
/-- A row of numbers that the reader does not touch. -/
theorem keepRow {W0 W : World} {r : Nat} {u : Value} {es : List Int} {n0 : Nat} (h : IsInts .i64 W0 u es) (hb : ∀ b, blockOf u = some b → n0 ≤ b) (hr : r < n0) (hk : Kp [r] W0 W) : IsInts .i64 W u es :=
  h.kp hk (fun t ht e => by simp at ht; subst ht; have := hb _ e; omega)
set_option maxRecDepth 100000 in
set_option maxHeartbeats 4000000 in
theorem decode_calls {w : World} {v : Value} {zs : List Int} (hz : IsInts .u8 w v zs) (hb : ∀ c ∈ zs, 0 ≤ c ∧ c ≤ 255) (hv : ∀ b, blockOf v = some b → b < w.heap.size) :
    Calls Try.prog 43 #[v] w fun e w' => ∃ v', e = .returned (.tuple #[v', .int .i64 (decS zs).2]) ∧ IsOut w' v' (decS zs).1 ∧ Kp [] w w' := by
  have hle := hz.le
  obtain ⟨pa, ca, rfl⟩ := hz.form
  by_cases h0 : zs.length = 0
  · have HE : Hid (decS zs = ([], 0)) := by unfold decS; show _ = _; rw [if_pos h0]
    rw [h0]
    clear hz hb hv h0 hle
    go_enter Try.func43, Try.ntmps43
    go_wp2_with fail
    go_ret2
    rw [HE.out]
    exact ⟨_, rfl, IsOut.nil _ _, Kp.refl _ _⟩
  · have HDS : Hid (decS zs = if (stp zs 2 (0, false)).2 = true ∨ s16 (val zs 2 (0, false)) < 0 then ([], 110) else if 256 < s16 (val zs 2 (0, false)) then ([], 100) else decE zs (endsR zs (s16 (val zs 2 (0, false))).toNat (-1) (stp zs 8 (stp zs 2 (0, false))) [])) := by
      unfold decS; show _ = _; rw [if_neg h0]
    have HN0 : Hid (0 < zs.length) := by show _ < _; omega
    have HZ := Lib.hid hz
    have HB := Lib.hid hb
    have HV := Lib.hid hv
    obtain ⟨N, hN⟩ : ∃ N, zs.length = N := ⟨_, rfl⟩
    have HN := Lib.hid hN
    rw [hN] at HZ HV h0 ⊢
    have hz1 : ((N : Int) == 0) = false := by simp; omega
    have HVB := Lib.hid (val_bounds zs 2 (0, false) hb)
    clear hz hb hv hN hle
    go_enter Try.func43, Try.ntmps43
    go_wp2_with fail
    refine (new_calls (.slice pa N ca) pa N ca rfl _).mono ?_; rintro e w1 ⟨rfl, hw1⟩
    have H1 : Hid (AtR w w1 w.heap.size (.slice pa N ca) zs (0, false)) := by
      have hk1 : Kp [] w w1 := by subst hw1; exact (Kp.refl _ _).alloc _
      exact ⟨⟨by subst hw1; exact heap_alloc_new w _, HZ.out.kp hk1 (by simp), HB.out, fun e => by have := HV.out _ e; omega, by omega⟩, hk1, Nat.le_refl _, HV.out⟩
    clear hw1 HZ HV
    generalize w.heap.size = r at *
    go_wp2_with fail
    refine (i16T H1.out.1).mono ?_; rintro e w2 ⟨rfl, h2, hk2⟩
    have H2 : Hid (AtR w w2 r (.slice pa N ca) zs (stp zs 2 (0, false))) := H1.out.read h2 hk2
    have HVB2 : Hid (-32768 ≤ s16 (val zs 2 (0, false)) ∧ s16 (val zs 2 (0, false)) ≤ 32767) := s16_bounds (val zs 2 (0, false)) HVB.out.1 HVB.out.2
    clear h2 hk2 H1 HVB
    go_wp2_with fail
    refine (doneT H2.out.1).mono ?_; rintro e w3 ⟨rfl, rfl⟩
    generalize s16 (val zs 2 (0, false)) = k at *
    generalize stp zs 2 (0, false) = s1 at *
    obtain ⟨k1, b1⟩ := s1
    cases b1
    case true =>
      have HE : Hid (decS zs = ([], 110)) := by show _ = _; rw [HDS.out, if_pos (.inl rfl)]
      clear HDS
      go_wp2_with fail
      go_ret2
      rw [HE.out]
      exact ⟨_, rfl, IsOut.nil _ _, H2.out.2.1⟩
    by_cases hk0 : k < 0
    · have HE : Hid (decS zs = ([], 110)) := by show _ = _; rw [HDS.out, if_pos (.inr hk0)]
      have hd : decide (k < 0) = true := decide_eq_true hk0
      clear HDS hk0
      go_wp2_with fail
      go_ret2
      rw [HE.out]
      exact ⟨_, rfl, IsOut.nil _ _, H2.out.2.1⟩
    have hd0 : decide (k < 0) = false := decide_eq_false hk0
    by_cases hk5 : 256 < k
    · have HE : Hid (decS zs = ([], 100)) := by show _ = _; rw [HDS.out, if_neg (by simpa using hk0), if_pos hk5]
      have hd : decide (256 < k) = true := decide_eq_true hk5
      clear HDS hk0 hk5
      go_wp2_with fail
      go_ret2
      rw [HE.out]
      exact ⟨_, rfl, IsOut.nil _ _, H2.out.2.1⟩
    obtain ⟨K, rfl⟩ : ∃ K : Nat, k = K := ⟨k.toNat, by omega⟩
    have HE0 : Hid (decS zs = decE zs (endsR zs K (-1) (stp zs 8 (k1, false)) [])) := by show _ = _; rw [HDS.out, if_neg (by simp), if_neg hk5]; rfl
    have hK : K ≤ 256 := by omega
    have hd5 : decide (256 < (K : Int)) = false := decide_eq_false hk5
    have hd6 : decide (256 < K) = false := decide_eq_false (by omega)
    clear HDS hk0 hk5 HVB2
    go_wp2_with fail
    refine (takeS 8 (by decide) H2.out.1 (fun _ => HN0.out)).mono ?_; rintro e w3 ⟨⟨v3, rfl⟩, h3, hk3⟩
    have H3 : Hid (AtR w w3 r (.slice pa N ca) zs (stp zs 8 (k1, false))) := H2.out.read h3 hk3
    clear h3 hk3 H2
    generalize stp zs 8 (k1, false) = s2 at *
    go_wp2_with fail
    refine (ends_calls K hK H3.out.1 H3.out.below).mono ?_; rintro e w4 ⟨ve, rfl, he4, h4, hk4, hb4⟩
    have H4 : Hid (AtR w w4 r (.slice pa N ca) zs (endsR zs K (-1) s2 []).2.2) := H3.out.read h4 hk4
    have HFA := Lib.hid (endsR_facts zs HB.out K (-1) s2 [] RiseP.nil)
    have HEI := Lib.hid he4
    have HEB : Hid (∀ b, blockOf ve = some b → w3.heap.size ≤ b) := hb4
    have hr3 : r < w3.heap.size := H3.out.1.lt
    clear h4 hk4 H3 he4 hb4
    generalize endsR zs K (-1) s2 [] = q at *
    obtain ⟨es, er, s3⟩ := q
    obtain ⟨pe, ce, rfl⟩ := HEI.out.form
    dsimp only at HFA H4 HEI
    by_cases her : er = 0
    case neg =>
      have HE : Hid (decS zs = ([], er)) := by show _ = _; rw [HE0.out]; unfold decE; rw [if_pos her]
      have hn : (er != 0) = true := by simpa using her
      clear HE0 her HFA
      go_wp2_with fail
      go_ret2
      rw [HE.out]
      exact ⟨_, rfl, IsOut.nil _ _, H4.out.2.1⟩
    subst her
    obtain ⟨hel, la, hri⟩ := HFA.out rfl
    obtain ⟨hri1, hri2⟩ := hri.rise
    have HR1 := Lib.hid hri1
    have HEL : Hid (es.length = K) := by show _ = _; simp at hel; exact hel
    have HE1 : Hid (decS zs = decF zs es (fromE es K) (stp zs (val zs 2 s3).toNat (stp zs 2 s3))) := by
      show _ = _; rw [HE0.out]; unfold decE; rw [if_neg (by simp), HEL.out]
    rw [HEL.out] at hri2 HEI HR1 ⊢
    obtain ⟨q0, q1⟩ := val_bounds zs 2 s3 HB.out
    have hp2 : (256 ^ 2 : Nat) = 65536 := by decide
    rw [hp2] at q1
    clear HE0 HFA hel hri hri1 hp2
    go_wp2_with fail
    refine (u16T H4.out.1).mono ?_; rintro e w5 ⟨rfl, h5, hk5⟩
    have H5 : Hid (AtR w w5 r (.slice pa N ca) zs (stp zs 2 s3)) := H4.out.read h5 hk5
    have HK5 := Lib.hid hk5
    clear h5 hk5 H4
    obtain ⟨M, hM⟩ : ∃ M : Nat, val zs 2 s3 = M := ⟨(val zs 2 s3).toNat, by omega⟩
    rw [hM] at HE1 q0 q1 ⊢
    rw [Int.toNat_natCast] at HE1
    generalize stp zs 2 s3 = s4 at *
    clear hM
    go_wp2_with fail
    refine (takeS M (by omega) H5.out.1 (fun _ => HN0.out)).mono ?_; rintro e w6 ⟨⟨v6, rfl⟩, h6, hk6⟩
    have H6 : Hid (AtR w w6 r (.slice pa N ca) zs (stp zs M s4)) := H5.out.read h6 hk6
    have HK6 : Hid (Kp [r] w4 w6) := HK5.out.trans hk6
    clear h6 hk6 H5 HK5 q0 q1
    have HE2 : Hid (decS zs = decF zs es (fromE es K) (stp zs M s4)) := HE1.out
    clear HE1
    generalize stp zs M s4 = s5 at *
    have HER : Hid (∀ W, Kp [r] w6 W → IsInts .i64 W (.slice pe K ce) es) := fun W hW => keepRow HEI.out HEB.out hr3 (HK6.out.trans hW)
    clear HEI HEB HK6
    have hr6 : r < w6.heap.size := H6.out.1.lt
    obtain ⟨n, hn⟩ : ∃ n, fromE es K = n := ⟨_, rfl⟩
    have HNE := Lib.hid hn
    rw [hn] at HE2 hri2 HR1
    clear hn
    go_upto_if 49 with fail
    go_cut [8] (fun x wx => x = .int .i64 n ∧ w6 = wx)
    case first =>
      by_cases hK0 : K = 0
      · subst hK0
        obtain rfl : n = 0 := by rw [← HNE.out]; rfl
        go_wp2_with fail
        go_meet
        exact ⟨rfl, rfl⟩
      · obtain ⟨J, rfl⟩ : ∃ J, K = J + 1 := ⟨K - 1, by omega⟩
        have hJ : J < es.length := by rw [HEL.out]; omega
        obtain ⟨g, off, c, e1, _, _, hc⟩ := (HER.out w6 (Kp.refl _ _)).at_ hJ
        rw [HEL.out] at e1
        cases e1
        obtain ⟨r0, _, r2⟩ := HR1.out J hJ
        have hnn : n = (es.getD J 0).toNat + 1 := by rw [← HNE.out]; rfl
        obtain ⟨E, hE⟩ : ∃ E : Nat, es.getD J 0 = E := ⟨(es.getD J 0).toNat, by omega⟩
        rw [hE] at hc hnn r2
        rw [Int.toNat_natCast] at hnn r2
        have HN2 := Lib.hid hnn
        clear hnn hE r0
        have hd0' : decide ((0 : Int) < ((J + 1 : Nat) : Int)) = true := decide_eq_true (by omega)
        have hd1' : decide (0 < J + 1) = true := decide_eq_true (by omega)
        go_wp2_with fail
        go_meet
        rw [HN2.out]
        exact ⟨int_eq' (by omega), rfl⟩
    case rest =>
    obtain ⟨rfl, rfl⟩ := hcut
    clear hd0 hd5 hd6 hz1
    obtain ⟨k5, b5⟩ := s5
    go_wp2_with fail
    refine (doneT H6.out.1).mono ?_; rintro e w7 ⟨rfl, rfl⟩
    cases b5
    case true =>
      have HE : Hid (decS zs = ([], 110)) := by show _ = _; rw [HE2.out]; unfold decF; rw [if_pos rfl]
      clear HE2
      go_wp2_with fail
      go_ret2
      rw [HE.out]
      exact ⟨_, rfl, IsOut.nil _ _, H6.out.2.1⟩
    go_wp2_with fail
    refine (flags_calls n hri2 H6.out.1 H6.out.below).mono ?_; rintro e w7 ⟨vf, s6, rfl, hq7, h7, hk7, hb7⟩
    have H7 : Hid (AtR w w7 r (.slice pa N ca) zs s6) := H6.out.read h7 hk7
    have HER7 : Hid (∀ W, Kp [r] w7 W → IsInts .i64 W (.slice pe K ce) es) := fun W hW => HER.out W (hk7.trans hW)
    have HFQ := Lib.hid hq7
    have HFB := Lib.hid hb7
    have HE3 : Hid (decS zs = match flagsR zs n (n + 1) (k5, false) [] with | none => ([], 110) | some q => decG zs es q.1 q.2) := by show _ = _; rw [HE2.out]; unfold decF; rw [if_neg (by simp)]; cases flagsR zs n (n + 1) (k5, false) [] <;> rfl
    have HFF := Lib.hid (flagsR_facts zs HB.out n (n + 1) (k5, false) [])
    clear h7 hk7 hq7 hb7 HER HE2 H6
    generalize flagsR zs n (n + 1) (k5, false) [] = Q at *
    cases Q
    case none =>
      have HE : Hid (decS zs = ([], 110)) := HE3.out
      clear HE3 HFQ HFF
      go_wp2_with fail
      go_ret2
      rw [HE.out]
      exact ⟨_, rfl, IsOut.nil _ _, H7.out.2.1⟩
    case some Q =>
    obtain ⟨fl, s6'⟩ := Q
    obtain ⟨hvf, hs6⟩ := HFQ.out _ rfl
    dsimp only at hvf hs6
    subst hs6
    obtain ⟨hfl, hfb⟩ := HFF.out _ rfl (by simp) (fun c hc => by simp at hc)
    dsimp only at hfl hfb
    have HFL := Lib.hid hfl
    have HFB2 := Lib.hid hfb
    have HE4 : Hid (decS zs = decG zs es fl s6) := HE3.out
    obtain ⟨pf, cf, hvf2⟩ := hvf.form
    subst hvf2
    have HVF := Lib.hid hvf
    rw [hfl] at HVF HFB ⊢
    clear hvf hfl hfb HE3 HFQ HFF
    have hFr : ∀ b, blockOf (Value.slice pf n cf) = some b → b ≠ r := fun b hb => by have := HFB.out b hb; omega
    have HFR := Lib.hid hFr
    clear hFr
    go_wp2_with fail
    refine (steps_2 (.slice pf n cf) fl (by rw [HFL.out]; exact hri2) HFB2.out HVF.out HFR.out H7.out.1 H7.out.below).mono ?_; rintro e w8 ⟨vx, rfl, hx8, h8, hk8, hb8⟩
    have H8 : Hid (AtR w w8 r (.slice pa N ca) zs (stepsR zs 2 16 fl 0 s6 []).2) := H7.out.read h8 hk8
    have HVF8 : Hid (IsInts .i64 w8 (.slice pf n cf) fl) := HVF.out.kp hk8 (fun t ht e => by simp at ht; subst ht; exact HFR.out _ e rfl)
    have HER8 : Hid (∀ W, Kp [r] w8 W → IsInts .i64 W (.slice pe K ce) es) := fun W hW => HER7.out W (hk8.trans hW)
    have HX8 := Lib.hid hx8
    have HXB8 := Lib.hid hb8
    have hr7 : r < w7.heap.size := H7.out.1.lt
    have HXF := Lib.hid (fun q h => stepsR_facts zs 2 16 fl 0 s6 [] q h (fun c hc => by simp at hc))
    have HG : Hid (decG zs es fl s6 = if okT (stepsR zs 2 16 fl 0 s6 []) = true ∧ okT (stepsR zs 4 32 fl 0 (stepsR zs 2 16 fl 0 s6 []).2 []) = true then (contsE (ptsOf fl ((stepsR zs 2 16 fl 0 s6 []).1.getD []) ((stepsR zs 4 32 fl 0 (stepsR zs 2 16 fl 0 s6 []).2 []).1.getD [])) es, 0) else ([], 110)) := rfl
    clear h8 hk8 hx8 hb8 HVF HER7 H7
    generalize stepsR zs 2 16 fl 0 s6 [] = X at *
    obtain ⟨X1, X2⟩ := X
    dsimp only at H8 HX8 HXF HG
    go_wp2_with fail
    refine (steps_4 (.slice pf n cf) fl (by rw [HFL.out]; exact hri2) HFB2.out HVF8.out HFR.out H8.out.1 H8.out.below).mono ?_; rintro e w9 ⟨vy, rfl, hy9, h9, hk9, hb9⟩
    have H9 : Hid (AtR w w9 r (.slice pa N ca) zs (stepsR zs 4 32 fl 0 X2 []).2) := H8.out.read h9 hk9
    have HVF9 : Hid (IsInts .i64 w9 (.slice pf n cf) fl) := HVF8.out.kp hk9 (fun t ht e => by simp at ht; subst ht; exact HFR.out _ e rfl)
    have HER9 : Hid (IsInts .i64 w9 (.slice pe K ce) es) := HER8.out w9 hk9
    have HX9 : Hid (∀ q, X1 = some q → IsInts .i64 w9 vx q) := fun q hq => (HX8.out q hq).kp hk9 (fun t ht e => by simp at ht; subst ht; have := HXB8.out _ e; omega)
    have HY9 := Lib.hid hy9
    have HYF := Lib.hid (fun q h => stepsR_facts zs 4 32 fl 0 X2 [] q h (fun c hc => by simp at hc))
    clear h9 hk9 hy9 hb9 HVF8 HER8 HX8 H8
    generalize stepsR zs 4 32 fl 0 X2 [] = Y at *
    obtain ⟨Y1, Y2⟩ := Y
    dsimp only at H9 HY9 HYF HG
    have HOX : Hid (okT (X1, X2) = (X1.isSome && !X2.2)) := rfl
    have HOY : Hid (okT (Y1, Y2) = (Y1.isSome && !Y2.2)) := rfl
    rw [← HOX.out, ← HOY.out]
    cases hox : okT (X1, X2)
    case false =>
      have HE : Hid (decS zs = ([], 110)) := by show _ = _; rw [HE4.out, HG.out, if_neg (by rw [hox]; simp)]
      clear HE4 HG hox HOX HOY
      go_wp2_with fail
      go_ret2
      rw [HE.out]
      exact ⟨_, rfl, IsOut.nil _ _, H9.out.2.1⟩
    cases hoy : okT (Y1, Y2)
    case false =>
      have HE : Hid (decS zs = ([], 110)) := by show _ = _; rw [HE4.out, HG.out, if_neg (by rw [hoy]; simp)]
      clear HE4 HG hox HOX HOY hoy
      go_wp2_with fail
      go_ret2
      rw [HE.out]
      exact ⟨_, rfl, IsOut.nil _ _, H9.out.2.1⟩
    obtain ⟨xs, rfl⟩ : ∃ q, X1 = some q := by cases X1; (· rw [HOX.out] at hox; simp at hox); exact ⟨_, rfl⟩
    obtain ⟨ys, rfl⟩ : ∃ q, Y1 = some q := by cases Y1; (· rw [HOY.out] at hoy; simp at hoy); exact ⟨_, rfl⟩
    have HE : Hid (decS zs = (contsE (ptsOf fl xs ys) es, 0)) := by show _ = _; rw [HE4.out, HG.out, if_pos ⟨hox, hoy⟩]; rfl
    obtain ⟨hxl, hxb⟩ := HXF.out xs rfl
    obtain ⟨hyl, hyb⟩ := HYF.out ys rfl
    have HVX := Lib.hid (HX9.out xs rfl)
    have HVY := Lib.hid (HY9.out ys rfl)
    obtain ⟨px, cx, hvx⟩ := HVX.out.form
    obtain ⟨py, cy, hvy⟩ := HVY.out.form
    subst hvx
    subst hvy
    have HC := Lib.hid (contours_calls _ _ _ _ es fl xs ys HER9.out HVF9.out HVX.out HVY.out (by simpa using hxl) (by simpa using hyl) (by rw [HFL.out]; exact hri2) (by rw [HEL.out]; exact hK) (by rw [HFL.out]; exact HR1.out) hxb hyb)
    have hxl2 : xs.length = n := by rw [← HFL.out]; simpa using hxl
    have hyl2 : ys.length = n := by rw [← HFL.out]; simpa using hyl
    rw [hxl2, hyl2] at HC
    rw [hxl2, hyl2]
    clear HE4 HG hox hoy HOX HOY hxl hxb hyl hyb HXF HYF HX9 HY9 HVX HVY hxl2 hyl2
    go_wp2_with fail
    refine HC.out.mono ?_; rintro e w10 ⟨v10, rfl, ho10, hk10⟩
    have HF10 : Hid (IsOut w10 v10 (contsE (ptsOf fl xs ys) es) ∧ Kp [] w w10) := ⟨ho10.out, H9.out.2.1.trans hk10⟩
    obtain ⟨pv, cv, hv10⟩ := ho10.out.form
    subst hv10
    clear ho10 hk10
    go_wp2_with fail
    go_ret2
    rw [HE.out]
    exact ⟨_, rfl, HF10.out.1, HF10.out.2⟩
end Go.Proofs.Ytodjohoonbkklaa

/- simple: the reference's Decode. (Written by wip/simple/gensii.py.) -/
import Derived.Test.YtodjohoonbkklaaSiG
import Derived.Test.YtodjohoonbkklaaSiH
namespace Go.Proofs.Ytodjohoonbkklaa
open Go.RowKit
set_option linter.unusedVariables false
set_option linter.unusedSimpArgs false
/-- The reader, somewhere behind w. -/
def AtQ (w W : World) (r : Nat) (v : Value) (zs : List Int) (s : Rs) : Prop := RrS W r v zs s.1 s.2 ∧ Kp [] w W ∧ w.heap.size ≤ r ∧ ∀ b, blockOf v = some b → b < w.heap.size
theorem AtQ.read {w W W' : World} {r : Nat} {v : Value} {zs : List Int} {s s' : Rs} (h : AtQ w W r v zs s) (hr : RrS W' r v zs s'.1 s'.2) (hk : Kp [r] W W') : AtQ w W' r v zs s' :=
  ⟨hr, h.2.1.trans' hk (fun t ht => by simp at ht; subst ht; exact .inr h.2.2.1), h.2.2⟩
theorem AtQ.below {w W : World} {r : Nat} {v : Value} {zs : List Int} {s : Rs} (h : AtQ w W r v zs s) : ∀ b, blockOf v = some b → b < W.heap.size := fun b hb => Nat.lt_of_lt_of_le (h.2.2.2 b hb) h.2.1.size
theorem AtQ.bad {w W : World} {r : Nat} {v : Value} {zs : List Int} {s : Rs} (h : AtQ w W r v zs s) : W.cell? ⟨r, 2, none⟩ = some (.bool s.2) := h.1.1.facts.2.2.1
theorem EnR.atq {w0 w wr : World} {r : Nat} {v : Value} {zs : List Int} {s s' : Rs} {l : Value} {acc : List Int} (h : EnR w wr r v zs s l acc) (h0 : AtQ w0 w r v zs s') : AtQ w0 wr r v zs s := h0.read h.1 h.2.2.1
/-- What Decode leaves. -/
def DcP (w : World) (zs : List Int) (e : Ending) (w' : World) : Prop := ∃ v', e = .returned (.tuple #[v', .int .i64 (decS zs).2]) ∧ IsOut w' v' (decS zs).1 ∧ Kp [] w w'
set_option maxRecDepth 100000 in
set_option maxHeartbeats 8000000 in
theorem rdecode_calls {w : World} {v : Value} {zs : List Int} (hz : IsInts .u8 w v zs) (hb : ∀ c ∈ zs, 0 ≤ c ∧ c ≤ 255) (hv : ∀ b, blockOf v = some b → b < w.heap.size) :
    Calls Try.prog 44 #[v] w (DcP w zs) := by
  have hle := hz.le
  obtain ⟨pa, ca, rfl⟩ := hz.form
  obtain ⟨i0, hi, hzz0, hzz1, hzz2⟩ := info_parts infoPs
  by_cases h0 : zs.length = 0
  · have HE : Hid (decS zs = ([], 0)) := by unfold decS; show _ = _; rw [if_pos h0]
    rw [h0]
    clear hz hb hv h0 hle
    go_enter Try.func44, Try.ntmps44
    go_wp2_with fail
    go_ret2
    exact ⟨.slice none 0 0, by rw [HE.out]; rfl, by rw [HE.out]; exact IsOut.nil _ _, Kp.refl _ _⟩
  · have HDS : Hid (decS zs = if (stp zs 2 (0, false)).2 = true ∨ s16 (val zs 2 (0, false)) < 0 then ([], 110) else if 256 < s16 (val zs 2 (0, false)) then ([], 100) else decE zs (endsR zs (s16 (val zs 2 (0, false))).toNat (-1) (stp zs 8 (stp zs 2 (0, false))) [])) := by
      unfold decS; show _ = _; rw [if_neg h0]
    have HN0 : Hid (0 < zs.length) := by show _ < _; omega
    have HZ := Lib.hid hz
    have HB := Lib.hid hb
    have HV := Lib.hid hv
    obtain ⟨N, hN⟩ : ∃ N, zs.length = N := ⟨_, rfl⟩
    have HN := Lib.hid hN
    rw [hN] at HZ HV h0 ⊢
    have hz1 : ((N : Int) == 0) = false := by simp; omega
    have HVB := Lib.hid (val_bounds zs 2 (0, false) hb)
    have H1 : Hid (AtQ w (w.alloc (.cells #[.slice pa N ca, .int .i64 0, .bool false] 79)) w.heap.size (.slice pa N ca) zs (0, false)) := by
      have hk1 : Kp [] w (w.alloc (.cells #[.slice pa N ca, .int .i64 0, .bool false] 79)) := (Kp.refl _ _).alloc _
      exact ⟨⟨heap_alloc_new w _, HZ.out.kp hk1 (by simp), HB.out, fun e => by have := HV.out _ e; omega, by omega⟩, hk1, Nat.le_refl _, HV.out⟩
    clear hz hb hv hN hle HZ HV
    go_enter Try.func44, Try.ntmps44
    go_wp2_with fail
    refine (ri16S H1.out.1).mono ?_; rintro e w2 ⟨rfl, h2, hk2⟩
    have H2 : Hid (AtQ w w2 w.heap.size (.slice pa N ca) zs (stp zs 2 (0, false))) := H1.out.read h2 hk2
    have HVB2 : Hid (-32768 ≤ s16 (val zs 2 (0, false)) ∧ s16 (val zs 2 (0, false)) ≤ 32767) := s16_bounds (val zs 2 (0, false)) HVB.out.1 HVB.out.2
    clear h2 hk2 H1 HVB
    generalize w.heap.size = r at *
    have hbad := H2.out.bad
    generalize s16 (val zs 2 (0, false)) = k at *
    generalize stp zs 2 (0, false) = s1 at *
    obtain ⟨k1, b1⟩ := s1
    cases b1
    case true =>
      have HE : Hid (decS zs = ([], 110)) := by show _ = _; rw [HDS.out, if_pos (.inl rfl)]
      clear HDS
      go_wp2_with fail
      go_ret2
      exact ⟨.slice none 0 0, by rw [HE.out]; rfl, by rw [HE.out]; exact IsOut.nil _ _, H2.out.2.1⟩
    by_cases hk0 : k < 0
    · have HE : Hid (decS zs = ([], 110)) := by show _ = _; rw [HDS.out, if_pos (.inr hk0)]
      have hd : decide (k < 0) = true := decide_eq_true hk0
      clear HDS hk0
      go_wp2_with fail
      go_ret2
      exact ⟨.slice none 0 0, by rw [HE.out]; rfl, by rw [HE.out]; exact IsOut.nil _ _, H2.out.2.1⟩
    have hd0 : decide (k < 0) = false := decide_eq_false hk0
    by_cases hk5 : 256 < k
    · have HE : Hid (decS zs = ([], 100)) := by show _ = _; rw [HDS.out, if_neg (by simpa using hk0), if_pos hk5]
      have hd : decide (256 < k) = true := decide_eq_true hk5
      clear HDS hk0 hk5
      go_wp2_with fail
      go_ret2
      exact ⟨.slice none 0 0, by rw [HE.out]; rfl, by rw [HE.out]; exact IsOut.nil _ _, H2.out.2.1⟩
    obtain ⟨K, rfl⟩ : ∃ K : Nat, k = K := ⟨k.toNat, by omega⟩
    have HE0 : Hid (decS zs = decE zs (endsR zs K (-1) (stp zs 8 (k1, false)) [])) := by show _ = _; rw [HDS.out, if_neg (by simp), if_neg hk5]; rfl
    have hK : K ≤ 256 := by omega
    have hd5 : decide (256 < (K : Int)) = false := decide_eq_false hk5
    have hd6 : decide (256 < K) = false := decide_eq_false (by omega)
    clear HDS hk0 hk5 HVB2
    go_wp2_with fail
    refine (rtakeS 8 (by decide) 8 rfl H2.out.1 (fun _ => HN0.out)).mono ?_; rintro e w3 ⟨⟨v3, rfl⟩, h3, hk3⟩
    have H3 : Hid (AtQ w w3 r (.slice pa N ca) zs (stp zs 8 (k1, false))) := H2.out.read h3 hk3
    clear h3 hk3 H2 hbad
    generalize stp zs 8 (k1, false) = s2 at *
    obtain ⟨Q, hQ⟩ : ∃ Q, endsR zs K (-1) s2 [] = Q := ⟨_, rfl⟩
    rw [hQ] at HE0
    have HQ : Hid (endsR zs (K - 0) (-1) s2 [] = Q) := hQ
    clear hQ hz1
    have hr3 : r < w3.heap.size := H3.out.1.lt
    go_wp2_with fail
    go_loopw [6, 7, 8, 9] (fun l la i _ wr => ∃ (j : Nat) (s : Rs) (acc : List Int) (last : Int), j ≤ K ∧ i = .int .i64 j ∧ la = .int .i64 last ∧ Hid (-1 ≤ last ∧ RiseP acc last) ∧ Hid (acc.length = j) ∧ Hid (EnR w3 wr r (.slice pa N ca) zs s l acc ∧ endsR zs (K - j) last s acc = Q)) (fun _ _ i _ _ => K - (intOf i).toNat)
    case atStart => exact ⟨0, s2, [], -1, by omega, rfl, rfl, ⟨by omega, RiseP.nil⟩, rfl, ⟨H3.out.1, World.ownsRow_nil _ _ _ _, Kp.refl _ _, hr3, H3.out.below⟩, HQ.out⟩
    case round =>
      obtain ⟨j, s, acc, last, hj, rfl, rfl, HL, HA, HJ⟩ := hrel
      clear HQ
      obtain ⟨pl, cl, hl⟩ := slice_own HJ.out.1.2.1
      subst hl
      rw [HA.out] at HJ ⊢
      by_cases hlt : j < K
      · have HE := Lib.hid HJ.out.2
        have HS := Lib.hid HJ.out.1
        obtain ⟨q0, q1⟩ := val_bounds zs 2 s HB.out
        have HU := Lib.hid (ruS 2 (by decide) (by decide) 2 rfl HS.out.1)
        have HRR : Hid (Q = if (stp zs 2 s).2 = true ∨ val zs 2 s ≤ last then ([], 110, stp zs 2 s) else if 4096 ≤ val zs 2 s then ([], 100, stp zs 2 s) else endsR zs (K - (j + 1)) (val zs 2 s) (stp zs 2 s) (acc ++ [val zs 2 s])) := by
          show _ = _
          rw [← HE.out, show K - j = (K - (j + 1)) + 1 by omega]; rfl
        have hle1 : (256 ^ 2 : Nat) = 65536 := by decide
        rw [hle1] at q1
        clear HJ HE hle1
        generalize val zs 2 s = x at *
        generalize stp zs 2 s = s1 at *
        obtain ⟨k2, b2⟩ := s1
        go_wp2_with fail
        refine HU.out.mono ?_; rintro e w4 ⟨rfl, h4, hk4⟩
        have HS2 : Hid (EnR w3 w4 r (.slice pa N ca) zs (k2, b2) (.slice pl j cl) acc) := HS.out.read (s' := (k2, b2)) h4 hk4
        have hbad := HS2.out.bad
        clear h4 hk4 HU HS
        cases b2
        · by_cases hxl : x ≤ last
          · have HE : Hid (decS zs = ([], 110)) := by show _ = _; rw [HE0.out, HRR.out, if_pos (.inr hxl)]; rfl
            have hd : decide (x ≤ last) = true := decide_eq_true hxl
            clear hxl HRR HE0
            go_wp2_with fail
            go_ret2
            exact ⟨.slice none 0 0, by rw [HE.out]; rfl, by rw [HE.out]; exact IsOut.nil _ _, (HS2.out.atq H3.out).2.1⟩
          · by_cases hx4 : 4096 ≤ x
            · have HE : Hid (decS zs = ([], 100)) := by show _ = _; rw [HE0.out, HRR.out, if_neg (by simpa using hxl), if_pos hx4]; rfl
              have hd : decide (x ≤ last) = false := decide_eq_false hxl
              have hd4 : decide (4095 < x) = true := decide_eq_true (by omega)
              clear hxl hx4 HRR HE0
              go_wp2_with fail
              go_ret2
              exact ⟨.slice none 0 0, by rw [HE.out]; rfl, by rw [HE.out]; exact IsOut.nil _ _, (HS2.out.atq H3.out).2.1⟩
            · have HF : Hid (endsR zs (K - (j + 1)) x (k2, false) (acc ++ [x]) = Q) := by show _ = _; rw [HRR.out, if_neg (by simpa using hxl), if_neg hx4]
              have hd : decide (x ≤ last) = false := decide_eq_false hxl
              have hd4 : decide (4095 < x) = false := decide_eq_false (by omega)
              have HXB : Hid (-1 ≤ x ∧ RiseP (acc ++ [x]) x) := ⟨by omega, HL.out.2.push (by omega) (by omega) q0⟩
              have HROW := Lib.hid HS2.out.2.1
              have hsz : w3.heap.size ≤ w4.heap.size := HS2.out.2.2.1.size
              rw [HA.out] at HROW
              clear hxl hx4 HRR hbad
              have hbad := HS2.out.bad
              go_wp2_with (at_builtin; go_loud (refine wpList_pushL rfl _ _ 100 3 .i64 8 Try.underlying100 infoI (by decide) rfl w3.heap.size (.slice pl j cl) acc j HA.out rfl ?hown w4.heap.size [x] 1 rfl rfl ?hc ?hl ?hbase ?hk))
              case hown => exact Kp.row (S := []) ((Kp.refl _ _).alloc _) HROW.out (by simp)
              case hc => exact litI (zs := [x]) (Kp.refl _ _)
              case hl => omega
              case hbase => simp; omega
              case hk =>
              intro v5 w5 hown5 hk5 hk6
              have HS5 : Hid (EnR w3 w5 r (.slice pa N ca) zs (k2, false) v5 (acc ++ [x])) := HS2.out.push (zs' := [x]) (m := 1) HA.out rfl hown5 hk5 hk6
              clear hown5 hk5 hk6
              have HA5 : Hid ((acc ++ [x]).length = j + 1) := by show _ = _; rw [List.length_append, HA.out]; rfl
              clear HS2 HROW HA HL hd hd4 hbad
              go_wp2_with fail
              go_roundw
              case rel => first | exact ⟨j + 1, (k2, false), acc ++ [x], x, by omega, int_eq' (by omega), rfl, HXB.out, HA5, HS5.out, HF.out⟩ | ((repeat apply Exists.intro); exact ⟨⟨j + 1, (k2, false), acc ++ [x], x, by omega, int_eq' (by omega), rfl, HXB.out, HA5, HS5.out, HF.out⟩, rfl⟩)
              case measure => simp [intOf]; omega
        · have HE : Hid (decS zs = ([], 110)) := by show _ = _; rw [HE0.out, HRR.out, if_pos (.inl rfl)]; rfl
          clear HRR HE0
          go_wp2_with fail
          go_ret2
          exact ⟨.slice none 0 0, by rw [HE.out]; rfl, by rw [HE.out]; exact IsOut.nil _ _, (HS2.out.atq H3.out).2.1⟩
      · obtain rfl : j = K := by omega
        obtain ⟨hl1, hri⟩ := HL.out
        obtain ⟨hri1, hri2⟩ := hri.rise
        have htop := hri.top
        have hQ : Q = (acc, 0, s) := by rw [← HJ.out.2, Nat.sub_self]; rfl
        have HE1 : Hid (decS zs = decF zs acc (fromE acc j) (stp zs (val zs 2 s).toNat (stp zs 2 s))) := by
          show _ = _; rw [HE0.out, hQ]; unfold decE; rw [if_neg (by simp), HA.out]
        have HEL := Lib.hid HA.out
        rw [HA.out] at hri1 hri2 htop
        have HR1 := Lib.hid hri1
        have H4 : Hid (AtQ w wr r (.slice pa N ca) zs s) := HJ.out.1.atq H3.out
        have HEI : Hid (IsInts .i64 wr (.slice pl j cl) acc) := by have := IsInts.owned HJ.out.1.2.1; exact this
        have HEB : Hid (∀ b, blockOf (.slice pl j cl) = some b → w3.heap.size ≤ b) := own_geb HJ.out.1.2.1
        obtain ⟨n, hn⟩ : ∃ n, fromE acc j = n := ⟨_, rfl⟩
        have HNE := Lib.hid hn
        rw [hn] at HE1 hri2 HR1 htop
        have hlast : last = (n : Int) - 1 := by omega
        subst hlast
        clear hn hQ hri1 hri htop HJ HE0 HL HA hl1
        rename List Int => es
        obtain ⟨q0, q1⟩ := val_bounds zs 2 s HB.out
        have hp2 : (256 ^ 2 : Nat) = 65536 := by decide
        rw [hp2] at q1
        clear hp2
        go_wp2_with fail
        refine (ruS 2 (by decide) (by decide) 2 rfl H4.out.1).mono ?_; rintro e w5 ⟨rfl, h5, hk5⟩
        have H5 : Hid (AtQ w w5 r (.slice pa N ca) zs (stp zs 2 s)) := H4.out.read h5 hk5
        have HK5 := Lib.hid hk5
        clear h5 hk5 H4
        obtain ⟨M, hM⟩ : ∃ M : Nat, val zs 2 s = M := ⟨(val zs 2 s).toNat, by omega⟩
        rw [hM] at HE1 q0 q1 ⊢
        rw [Int.toNat_natCast] at HE1
        generalize stp zs 2 s = s4 at *
        clear hM
        go_wp2_with fail
        refine (rtakeS M (by omega) M rfl H5.out.1 (fun _ => HN0.out)).mono ?_; rintro e w6 ⟨⟨v6, rfl⟩, h6, hk6⟩
        have H6 : Hid (AtQ w w6 r (.slice pa N ca) zs (stp zs M s4)) := H5.out.read h6 hk6
        have HK6 : Hid (Kp [r] wr w6) := HK5.out.trans hk6
        clear h6 hk6 H5 HK5 q0 q1
        generalize stp zs M s4 = s5 at *
        have HER : Hid (∀ W, Kp [r] w6 W → IsInts .i64 W (.slice pl j cl) es) := fun W hW => keepRow HEI.out HEB.out hr3 (HK6.out.trans hW)
        clear HEI HEB HK6 hd0 hd5 hd6 hlt
        have hr6 : r < w6.heap.size := H6.out.1.lt
        obtain ⟨k5, b5⟩ := s5
        have hbad := H6.out.bad
        cases b5
        case true =>
          have HE : Hid (decS zs = ([], 110)) := by show _ = _; rw [HE1.out]; unfold decF; rw [if_pos rfl]
          clear HE1
          go_wp2_with fail
          go_ret2
          exact ⟨.slice none 0 0, by rw [HE.out]; rfl, by rw [HE.out]; exact IsOut.nil _ _, H6.out.2.1⟩
        have HE2 : Hid (decS zs = match flagsR zs n (n + 1) (k5, false) [] with | none => ([], 110) | some q => decG zs es q.1 q.2) := by show _ = _; rw [HE1.out]; unfold decF; rw [if_neg (by simp)]; cases flagsR zs n (n + 1) (k5, false) [] <;> rfl
        have HFF := Lib.hid (flagsR_facts zs HB.out n (n + 1) (k5, false) [])
        have HFC := Lib.hid (rflags_calls n hri2 rfl H6.out.1 H6.out.below)
        clear HE1
        generalize flagsR zs n (n + 1) (k5, false) [] = Q at *
        go_wp2_with fail
        refine HFC.out.mono ?_; rintro e w7 ⟨vf, s6, rfl, hq7, h7, hk7, hb7⟩
        have H7 : Hid (AtQ w w7 r (.slice pa N ca) zs s6) := H6.out.read h7 hk7
        have HER7 : Hid (∀ W, Kp [r] w7 W → IsInts .i64 W (.slice pl j cl) es) := fun W hW => HER.out W (hk7.trans hW)
        have HFQ := Lib.hid hq7
        have HFB := Lib.hid hb7
        clear h7 hk7 hq7 hb7 HER H6 HFC hbad
        cases Q
        case none =>
          have HE : Hid (decS zs = ([], 110)) := HE2.out
          clear HE2 HFQ HFF
          go_wp2_with fail
          go_ret2
          exact ⟨.slice none 0 0, by rw [HE.out]; rfl, by rw [HE.out]; exact IsOut.nil _ _, H7.out.2.1⟩
        case some Q =>
        obtain ⟨fl, s6'⟩ := Q
        obtain ⟨hvf, hs6⟩ := HFQ.out _ rfl
        dsimp only at hvf hs6
        subst hs6
        obtain ⟨hfl, hfb⟩ := HFF.out _ rfl (by simp) (fun c hc => by simp at hc)
        dsimp only at hfl hfb
        have HFL := Lib.hid hfl
        have HFB2 := Lib.hid hfb
        have HE4 : Hid (decS zs = decG zs es fl s6) := HE2.out
        obtain ⟨pf, cf, hvf2⟩ := hvf.form
        subst hvf2
        have HVF := Lib.hid hvf
        rw [hfl] at HVF HFB ⊢
        clear hvf hfl hfb HE2 HFQ HFF
        have hFr : ∀ b, blockOf (Value.slice pf n cf) = some b → b ≠ r := fun b hb => by have := HFB.out b hb; omega
        have HFR := Lib.hid hFr
        clear hFr
        have HSX := Lib.hid (rsteps_2 (.slice pf n cf) fl (by rw [HFL.out]; exact hri2) HFB2.out HVF.out HFR.out H7.out.1 H7.out.below)
        have HXF := Lib.hid (fun q h => stepsR_facts zs 2 16 fl 0 s6 [] q h (fun c hc => by simp at hc))
        have HG : Hid (decG zs es fl s6 = if okT (stepsR zs 2 16 fl 0 s6 []) = true ∧ okT (stepsR zs 4 32 fl 0 (stepsR zs 2 16 fl 0 s6 []).2 []) = true then (contsE (ptsOf fl ((stepsR zs 2 16 fl 0 s6 []).1.getD []) ((stepsR zs 4 32 fl 0 (stepsR zs 2 16 fl 0 s6 []).2 []).1.getD [])) es, 0) else ([], 110)) := rfl
        generalize stepsR zs 2 16 fl 0 s6 [] = X at *
        obtain ⟨X1, X2⟩ := X
        dsimp only at HXF HG
        go_wp2_with fail
        refine HSX.out.mono ?_; rintro e w8 ⟨vx, rfl, hx8, h8, hk8, hb8⟩
        have H8 : Hid (AtQ w w8 r (.slice pa N ca) zs X2) := H7.out.read h8 hk8
        have HVF8 : Hid (IsInts .i64 w8 (.slice pf n cf) fl) := HVF.out.kp hk8 (fun t ht e => by simp at ht; subst ht; exact HFR.out _ e rfl)
        have HER8 : Hid (∀ W, Kp [r] w8 W → IsInts .i64 W (.slice pl j cl) es) := fun W hW => HER7.out W (hk8.trans hW)
        have HX8 := Lib.hid hx8
        have HXB8 := Lib.hid hb8
        have hr7 : r < w7.heap.size := H7.out.1.lt
        clear h8 hk8 hx8 hb8 HVF HER7 H7 HSX
        cases hox : okT (X1, X2)
        case false =>
          have HE : Hid (decS zs = ([], 110)) := by show _ = _; rw [HE4.out, HG.out, if_neg (by rw [hox]; simp)]
          clear HE4 HG hox
          go_wp2_with fail
          go_ret2
          exact ⟨.slice none 0 0, by rw [HE.out]; rfl, by rw [HE.out]; exact IsOut.nil _ _, H8.out.2.1⟩
        have HSY := Lib.hid (rsteps_4 (.slice pf n cf) fl (by rw [HFL.out]; exact hri2) HFB2.out HVF8.out HFR.out H8.out.1 H8.out.below)
        have HYF := Lib.hid (fun q h => stepsR_facts zs 4 32 fl 0 X2 [] q h (fun c hc => by simp at hc))
        generalize stepsR zs 4 32 fl 0 X2 [] = Y at *
        obtain ⟨Y1, Y2⟩ := Y
        dsimp only at HYF HG
        go_wp2_with fail
        refine HSY.out.mono ?_; rintro e w9 ⟨vy, rfl, hy9, h9, hk9, hb9⟩
        have H9 : Hid (AtQ w w9 r (.slice pa N ca) zs Y2) := H8.out.read h9 hk9
        have HVF9 : Hid (IsInts .i64 w9 (.slice pf n cf) fl) := HVF8.out.kp hk9 (fun t ht e => by simp at ht; subst ht; exact HFR.out _ e rfl)
        have HER9 : Hid (IsInts .i64 w9 (.slice pl j cl) es) := HER8.out w9 hk9
        have HX9 : Hid (∀ q, X1 = some q → IsInts .i64 w9 vx q) := fun q hq => (HX8.out q hq).kp hk9 (fun t ht e => by simp at ht; subst ht; have := HXB8.out _ e; omega)
        have HY9 := Lib.hid hy9
        clear h9 hk9 hy9 hb9 HVF8 HER8 HX8 H8 HSY
        cases hoy : okT (Y1, Y2)
        case false =>
          have HE : Hid (decS zs = ([], 110)) := by show _ = _; rw [HE4.out, HG.out, if_neg (by rw [hoy]; simp)]
          clear HE4 HG hox hoy
          go_wp2_with fail
          go_ret2
          exact ⟨.slice none 0 0, by rw [HE.out]; rfl, by rw [HE.out]; exact IsOut.nil _ _, H9.out.2.1⟩
        obtain ⟨xs, rfl⟩ : ∃ q, X1 = some q := by cases X1; (· unfold okT at hox; simp at hox); exact ⟨_, rfl⟩
        obtain ⟨ys, rfl⟩ : ∃ q, Y1 = some q := by cases Y1; (· unfold okT at hoy; simp at hoy); exact ⟨_, rfl⟩
        have HED : Hid (decS zs = (contsE (ptsOf fl xs ys) es, 0)) := by show _ = _; rw [HE4.out, HG.out, if_pos ⟨hox, hoy⟩]; rfl
        obtain ⟨hxl, hxb⟩ := HXF.out xs rfl
        obtain ⟨hyl, hyb⟩ := HYF.out ys rfl
        have hvx := HX9.out xs rfl
        have hvy := HY9.out ys rfl
        obtain ⟨px, cx, hvx2⟩ := hvx.form
        obtain ⟨py, cy, hvy2⟩ := hvy.form
        subst hvx2
        subst hvy2
        have HKW9 : Hid (Kp [] w w9) := H9.out.2.1
        have HE9 := Lib.hid (fun W (hW : Kp [] w9 W) => HER9.out.kp0 hW)
        have HF9 := Lib.hid (fun W (hW : Kp [] w9 W) => HVF9.out.kp0 hW)
        have HX := Lib.hid (fun W (hW : Kp [] w9 W) => hvx.kp0 hW)
        have HY := Lib.hid (fun W (hW : Kp [] w9 W) => hvy.kp0 hW)
        have HLX : Hid (xs.length = n) := by show _ = _; rw [← HFL.out]; simpa using hxl
        have HLY : Hid (ys.length = n) := by show _ = _; rw [← HFL.out]; simpa using hyl
        have HBX := Lib.hid hxb
        have HBY := Lib.hid hyb
        have HPT := Lib.hid (fun i h => ptsOf_at fl xs ys i h)
        have HPL : Hid ((ptsOf fl xs ys).length = n) := by show _ = _; rw [ptsOf_len, HFL.out]
        rw [HLX.out] at HX ⊢
        rw [HLY.out] at HY ⊢
        rw [HFL.out] at HPT
        generalize ptsOf fl xs ys = P at *
        clear HE4 HG hox hoy hxl hxb hyl hyb HXF HYF HX9 HY9 HER9 HVF9 H9 hvx hvy HXB8 HFB hr3 hr6 hr7 H3 HNE
        obtain ⟨KK, hKK⟩ : ∃ KK, j = KK := ⟨_, rfl⟩
        rw [hKK] at HE9 HEL hK ⊢
        clear hKK hj
        go_wp2_with fail
        go_loopw [14, 15, 16, 17, 18] (fun l a i _ _ wr => ∃ (j : Nat) (l2 : Value), j ≤ KK ∧ i = .int .i64 j ∧ a = .int .i64 (fromE es j : Nat) ∧ l2 = l ∧ Hid (WOut wr w9.heap.size l2 ((contsE P es).take j) ∧ Kp [] w9 wr)) (fun _ _ i _ _ _ => KK - (intOf i).toNat)
        case atStart => exact ⟨0, _, by omega, rfl, rfl, rfl, WOut.nil _ _, Kp.refl _ _⟩
        case round =>
          obtain ⟨j, l, hj, rfl, rfl, rfl, HJ⟩ := hrel
          by_cases hlt : j < KK
          · have hje : j < es.length := by rw [HEL.out]; exact hlt
            obtain ⟨g1, o1, c1, e1, _, _, hce⟩ := (HE9.out wr HJ.out.2).at_ hje
            rw [HEL.out] at e1
            cases e1
            obtain ⟨r0, r1, r2⟩ := HR1.out j hje
            have HTK := Lib.hid (contsE_take P es j hje)
            have HTL : Hid (((contsE P es).take j).length = j) := by show _ = _; rw [List.length_take, contsE_len]; omega
            have hnx : fromE es (j + 1) = (es.getD j 0).toNat + 1 := rfl
            obtain ⟨E, hE⟩ : ∃ E : Nat, es.getD j 0 = E := ⟨(es.getD j 0).toNat, by omega⟩
            rw [hE] at r1 r2 hnx hce
            rw [Int.toNat_natCast] at r1 r2 hnx
            have HNX := Lib.hid hnx
            have HEE : Hid (es.getD j 0 = (E : Nat)) := hE
            rw [hnx] at HTK
            obtain ⟨a, ha⟩ : ∃ a, fromE es j = a := ⟨_, rfl⟩
            rw [ha] at r1 HTK ⊢
            obtain ⟨vs, HW⟩ : ∃ vs, Hid (WVs wr w9.heap.size l vs ((contsE P es).take j)) := by obtain ⟨vs, h⟩ := HJ.out.1; exact ⟨vs, h⟩
            have hro := HW.out.1
            rw [HTL.out] at hro
            obtain ⟨pl, cl, hl⟩ := slice_own hro
            subst hl
            have HRO := Lib.hid hro
            have HOB := Lib.hid (fun b (hb : (Value.slice pl j cl).ownBlock = some b) => (hro.lt b hb).2)
            have HKW : Hid (Kp [] w9 wr) := HJ.out.2
            have HRI : Hid (E < n) := r2
            obtain ⟨B0, hB0⟩ : ∃ B0, wr.heap.size = B0 := ⟨_, rfl⟩
            obtain ⟨WA, hWA⟩ : ∃ WA, WA = wr := ⟨_, rfl⟩
            have HWA := Lib.hid hWA
            have HB0 : Hid (WA.heap.size = B0) := by rw [hWA]; exact hB0
            have HWK : Hid (∀ W, Kp [] WA W → WVs W w9.heap.size (.slice pl j cl) vs ((contsE P es).take j) ∧ W.ownsRow w9.heap.size 96 1 (.slice pl j cl) j vs ∧ Kp [] w9 W ∧ w9.heap.size ≤ B0 ∧ B0 ≤ W.heap.size) := fun W hW => by
              rw [hWA] at hW
              exact ⟨HW.out.kp0 hW, hW.row HRO.out (by simp), HKW.out.trans hW, by rw [← hB0]; exact HKW.out.size, by rw [← hB0]; exact hW.size⟩
            clear hro hje HJ r0 hnx hE ha HW HRO HKW hB0 hWA
            go_wp2_with fail
            go_loopw [15, 17, 18] (fun i cv _ wr2 => ∃ (m : Nat) (c2 : Value), a + m ≤ E + 1 ∧ i = .int .i64 ((a + m : Nat) : Int) ∧ c2 = cv ∧ Hid (wr2.ownsRow B0 61 3 c2 m (psCells ((P.drop a).take m)) ∧ Kp [] WA wr2)) (fun i _ _ _ => E + 1 - (intOf i).toNat)
            case atStart => exact ⟨0, _, by omega, rfl, rfl, by show _ ∧ _; rw [List.take_zero]; rw [HWA.out]; exact ⟨World.ownsRow_nil _ _ _ _, Kp.refl _ _⟩⟩
            case round =>
              obtain ⟨m, cv, hm, rfl, rfl, HI⟩ := hrel
              obtain ⟨pc, cc, hcv⟩ := slice_own HI.out.1
              subst hcv
              have HKI := Lib.hid HI.out.2
              have HRI2 := Lib.hid HI.out.1
              have hsz2 : w9.heap.size ≤ wr.heap.size := by have := HWK.out _ HKI.out; omega
              obtain ⟨_, _, hkw, hs1, hs2⟩ := HWK.out _ HKI.out
              have hce2 : wr.cell? ⟨g1, o1 + j, none⟩ = some (.int .i64 (E : Nat)) := by
                obtain ⟨g9, o9, c9, e9, _, _, hc9⟩ := (HE9.out wr hkw).at_ (i := j) (by rw [HEL.out]; exact hlt)
                rw [HEL.out] at e9
                cases e9
                rw [hc9]; exact congrArg some (int_eq' HEE.out)
              clear HI
              by_cases hme : a + m < E + 1
              · have hmN : a + m < n := by omega
                obtain ⟨gf, of, qf, ef, _, _, hcf⟩ := (HF9.out wr hkw).at_ (i := a + m) (by rw [HFL.out]; exact hmN)
                obtain ⟨gx, ox, qx, ex, _, _, hcx⟩ := (HX.out wr hkw).at_ (i := a + m) (by rw [HLX.out]; exact hmN)
                obtain ⟨gy, oy, qy, ey, _, _, hcy⟩ := (HY.out wr hkw).at_ (i := a + m) (by rw [HLY.out]; exact hmN)
                rw [HFL.out] at ef
                rw [HLX.out] at ex
                rw [HLY.out] at ey
                cases ef; cases ex; cases ey
                have hpt := HPT.out (a + m) hmN
                have hxm : xs.getD (a + m) 0 ∈ xs := by rw [List.getD_eq_getElem?_getD, List.getElem?_eq_getElem (by rw [HLX.out]; exact hmN)]; exact List.getElem_mem _
                have hym : ys.getD (a + m) 0 ∈ ys := by rw [List.getD_eq_getElem?_getD, List.getElem?_eq_getElem (by rw [HLY.out]; exact hmN)]; exact List.getElem_mem _
                obtain ⟨bx0, bx1⟩ := HBX.out _ hxm
                obtain ⟨by0, by1⟩ := HBY.out _ hym
                have HTM : Hid ((P.drop a).take (m + 1) = (P.drop a).take m ++ [pnF (fl.getD (a + m) 0) (xs.getD (a + m) 0) (ys.getD (a + m) 0)]) := by
                  show _ = _
                  rw [← hpt]; exact take_more P a m (by rw [HPL.out]; exact hmN)
                have HTLM : Hid (((P.drop a).take m).length = m) := by show _ = _; rw [List.length_take, List.length_drop, HPL.out]; omega
                clear hxm hym hpt
                generalize fl.getD (a + m) 0 = f at *
                generalize xs.getD (a + m) 0 = x at *
                generalize ys.getD (a + m) 0 = y at *
                generalize (P.drop a).take m = D at *
                have hkw2 := Lib.hid hkw
                obtain ⟨I, hI⟩ : ∃ I, a + m = I := ⟨_, rfl⟩
                rw [hI] at hcf hcx hcy hme hmN ⊢
                have HII := Lib.hid hI
                have HWX : Hid (IntKind.i64.wrap (x * 65536) = x * 65536) := by show _ = _; rw [IntKind.wrap_i64]; omega
                have HWY : Hid (IntKind.i64.wrap (y * 65536) = y * 65536) := by show _ = _; rw [IntKind.wrap_i64]; omega
                clear hI hkw
                go_wp2_with fail
                go_region_held3 (fun w' => w'.cell? ⟨gx, ox + I, none⟩ = some (.int .i64 x) ∧ w'.cell? ⟨gy, oy + I, none⟩ = some (.int .i64 y)) (first | go_keep | exact ⟨hcx, hcy⟩) (fail)
                rw [HWX.out, HWY.out]
                have HKP : Hid (Kp [] wr (wr.alloc (.cells #[.int .i64 (x * 65536), .int .i64 (y * 65536), .int .i64 2] 61)).drew) := ((Kp.refl _ _).alloc _).drew
                have hA : (wr.alloc (.cells #[.int .i64 (x * 65536), .int .i64 (y * 65536), .int .i64 2] 61)).drew.heap[wr.heap.size]? = some (.cells #[.int .i64 (x * 65536), .int .i64 (y * 65536), .int .i64 2] 61) := heap_alloc_new wr _
                have HA := Lib.hid hA
                have hcf2 := HKP.out.cell hcf (by simp)
                have hsW : wr.heap.size ≤ (wr.alloc (.cells #[.int .i64 (x * 65536), .int .i64 (y * 65536), .int .i64 2] 61)).drew.heap.size := HKP.out.size
                clear hcf hcx hcy hA HWX HWY
                generalize (wr.alloc (.cells #[.int .i64 (x * 65536), .int .i64 (y * 65536), .int .i64 2] 61)).drew = W2 at *
                by_cases hb : bits .and .i64 f 1 = 0
                · have hb1 : (bits .and .i64 f 1 != 0) = false := by simp [hb]
                  have HPF : Hid ((P.drop a).take (m + 1) = D ++ [⟨x * 65536, y * 65536, 2⟩]) := by show _ = _; rw [HTM.out]; unfold pnF; rw [if_pos hb]
                  obtain ⟨⟨b0, b1, b2⟩, f0, f1, f2⟩ := box_cells (Kp.refl [] W2) HA.out
                  clear hb HA HTM
                  have HKQ : Hid (Kp [] wr (W2.alloc (.cells #[.int .i64 (x * 65536), .int .i64 (y * 65536), .int .i64 2] 61))) := HKP.out.alloc _
                  go_wp2_with (at_builtin; go_loud (refine wpList_pushP rfl _ _ rfl B0 (.slice pc m cc) D m HTLM.out (by rfl) ?hown W2.heap.size 1 ⟨x * 65536, y * 65536, 2⟩ rfl ?hc ?hl ?hbase ?hk))
                  case hown => exact Kp.row (S := []) HKQ.out HRI2.out (by simp)
                  case hc => exact lit3g (w := W2) (Kp.refl _ _) rfl
                  case hl => omega
                  case hbase => exact Nat.le_trans hs2 HKQ.out.size
                  case hk =>
                  intro v6 w6 hown6 hgr6 hkb6
                  have HF6 : Hid (w6.ownsRow B0 61 3 v6 (m + 1) (psCells ((P.drop a).take (m + 1))) ∧ Kp [] WA w6) := by
                    show _ ∧ _
                    rw [HPF.out]; exact ⟨hown6, hgr6 _ (Nat.le_of_eq HB0.out) (HKI.out.trans HKQ.out)⟩
                  have HI6 : Hid (a + (m + 1) = I + 1) := by show _ = _; have := HII.out; omega
                  clear hown6 hgr6 hkb6 HKQ HRI2 b0 b1 b2 f0 f1 f2 hcf2
                  go_wp2_with fail
                  go_roundw
                  case rel => first | exact ⟨m + 1, v6, by have := HII.out; omega, by rw [HI6.out]; exact int_eq' (by omega), rfl, HF6.out⟩ | ((repeat apply Exists.intro); exact ⟨⟨m + 1, v6, by have := HII.out; omega, by rw [HI6.out]; exact int_eq' (by omega), rfl, HF6.out⟩, rfl⟩)
                  case measure => have := HII.out; simp [intOf]; omega
                · have hb1 : (bits .and .i64 f 1 != 0) = true := by simp [hb]
                  have HPF : Hid ((P.drop a).take (m + 1) = D ++ [⟨x * 65536, y * 65536, 1⟩]) := by show _ = _; rw [HTM.out]; unfold pnF; rw [if_neg hb]
                  obtain ⟨⟨b0, b1, b2⟩, f0, f1, f2⟩ := box_cells (Kp.refl [] W2) HA.out
                  clear hb HA HTM
                  have HKQ : Hid (Kp [] wr ((W2.setCell ⟨wr.heap.size, 2, none⟩ (.int .i64 1)).alloc (.cells #[.int .i64 (x * 65536), .int .i64 (y * 65536), .int .i64 1] 61))) := (HKP.out.setCell (.inr (Nat.le_refl _)) _).alloc _
                  go_wp2_with (at_builtin; go_loud (refine wpList_pushP rfl _ _ rfl B0 (.slice pc m cc) D m HTLM.out (by rfl) ?hown W2.heap.size 1 ⟨x * 65536, y * 65536, 1⟩ rfl ?hc ?hl ?hbase ?hk))
                  case hown => exact Kp.row (S := []) HKQ.out HRI2.out (by simp)
                  case hc => exact lit3g (w := (W2.setCell ⟨wr.heap.size, 2, none⟩ (.int .i64 1))) (Kp.refl _ _) (by simp [World.setCell])
                  case hl => omega
                  case hbase => exact Nat.le_trans hs2 HKQ.out.size
                  case hk =>
                  intro v6 w6 hown6 hgr6 hkb6
                  have HF6 : Hid (w6.ownsRow B0 61 3 v6 (m + 1) (psCells ((P.drop a).take (m + 1))) ∧ Kp [] WA w6) := by
                    show _ ∧ _
                    rw [HPF.out]; exact ⟨hown6, hgr6 _ (Nat.le_of_eq HB0.out) (HKI.out.trans HKQ.out)⟩
                  have HI6 : Hid (a + (m + 1) = I + 1) := by show _ = _; have := HII.out; omega
                  clear hown6 hgr6 hkb6 HKQ HRI2 b0 b1 b2 f0 f1 f2 hcf2
                  go_wp2_with fail
                  go_roundw
                  case rel => first | exact ⟨m + 1, v6, by have := HII.out; omega, by rw [HI6.out]; exact int_eq' (by omega), rfl, HF6.out⟩ | ((repeat apply Exists.intro); exact ⟨⟨m + 1, v6, by have := HII.out; omega, by rw [HI6.out]; exact int_eq' (by omega), rfl, HF6.out⟩, rfl⟩)
                  case measure => have := HII.out; simp [intOf]; omega
              · obtain ⟨M, hM⟩ : ∃ M, E + 1 - a = M := ⟨_, rfl⟩
                obtain rfl : m = M := by omega
                rw [hM] at HTK
                have HAM : Hid (a + m = E + 1) := by show _ = _; omega
                have HDL : Hid (((P.drop a).take m).length = m) := by show _ = _; rw [List.length_take, List.length_drop, HPL.out]; omega
                have HPS : Hid (IsPs wr (.slice pc m cc) ((P.drop a).take m)) := IsPs.owned HDL.out.symm HRI2.out
                have HPB : Hid (∀ b, blockOf (.slice pc m cc) = some b → B0 ≤ b ∧ b < wr.heap.size) := fun b hb => HRI2.out.lt b (blockOf_own hb)
                have HWW := Lib.hid (HWK.out _ HKI.out)
                have HOB2 : Hid (∀ b, (Value.slice pl j cl).ownBlock = some b → b < B0) := fun b hb => by rw [← HB0.out, HWA.out]; exact HOB.out b hb
                have hdec : decide (a + m ≤ E) = false := decide_eq_false (by omega)
                rw [HAM.out] at hdec ⊢
                clear hkw hm hme hM HRI2
                generalize (P.drop a).take m = D at *
                go_wp2_with (at_builtin; go_loud (refine wpList_append_lies _ rfl _ _ 42 rfl w9.heap.size 96 i0 (.slice none 0 0) 1 24 Try.underlying42 hi hzz0 hzz1 hzz2 rfl (by decide) (.slice pl j cl) j vs rfl ?hown ⟨wr.heap.size, 0, none⟩ 1 1 [.slice pc m cc] rfl rfl ?hnews ?hone (by decide) ?hm ?hb1 ?hb2 (wr.heap.size + 1) ?hH ?hk))
                case hown => exact Kp.row (S := []) ((Kp.refl _ _).alloc _) HWW.out.2.1 (by simp)
                case hnews => exact World.news_of_block (heap_alloc_new wr _)
                case hone => intro u hu; simp at hu; subst hu; rfl
                case hm => unfold maxLen; omega
                case hb1 => omega
                case hb2 => simp; omega
                case hH => simp
                case hk =>
                intro g4 c4 w4 hown hgr hat hlt4
                have hka : Kp [] wr (wr.alloc (.cells #[.slice pc m cc] 96)) := (Kp.refl _ _).alloc _
                have HW2 := HWW.out.1.kp0 hka
                have hpush := WVs.push (H := wr.heap.size + 1) HW2 (HPS.out.kp0 hka) (fun b hb => by
                  have h9 := HPB.out b hb
                  exact ⟨fun e => by have := HOB2.out b e; omega, by simp; omega, by omega⟩) (by rw [HTL.out]; exact hown) hgr hat (by simp)
                rw [HTL.out, ← HTK.out] at hpush
                have HPU : Hid (WOut w4 w9.heap.size (.slice (some ⟨g4, 0, none⟩) (j + 1) c4) ((contsE P es).take (j + 1)) ∧ Kp [] w9 w4) := ⟨⟨_, hpush⟩, Kp.grown (HWW.out.2.2.1.trans hka) hgr (fun k hk => .inr (own_ge HWW.out.2.1 k hk))⟩
                have HN6 := HNX
                clear hown hgr hat hka HW2 hpush hlt4 HNX
                go_wp2_with fail
                go_roundw
                case rel => first | exact ⟨j + 1, _, by omega, int_eq' (by omega), by rw [HN6.out]; exact int_eq' (by omega), rfl, HPU⟩ | ((repeat apply Exists.intro); exact ⟨⟨j + 1, _, by omega, int_eq' (by omega), by rw [HN6.out]; exact int_eq' (by omega), rfl, HPU⟩, rfl⟩)
                case measure => simp [intOf]; omega
          · obtain rfl : j = KK := by omega
            have HW : Hid (WOut wr w9.heap.size l (contsE P es)) := by
              have := HJ.out.1
              rw [List.take_of_length_le (by rw [contsE_len, HEL.out]; exact Nat.le_refl _)] at this
              exact this
            have HK : Hid (Kp [] w wr) := HKW9.out.trans HJ.out.2
            clear HJ
            go_wp2_with fail
            go_ret2
            exact ⟨l, by rw [HED.out]; rfl, by rw [HED.out]; exact HW.out.out, HK.out⟩
end Go.Proofs.Ytodjohoonbkklaa

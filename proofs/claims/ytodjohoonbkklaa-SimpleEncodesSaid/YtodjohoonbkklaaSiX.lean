/- simple: the laws SimpleBack and SimpleCuts. -/
import Derived.Test.YtodjohoonbkklaaSiS
import Derived.Test.YtodjohoonbkklaaSiW
import Derived.Test.YtodjohoonbkklaaAppW
import Derived.Test.YtodjohoonbkklaaOmB
import Derived.Deep.DeepCutAuto
namespace Go.Proofs.Ytodjohoonbkklaa
open Go.RowKit
set_option linter.unusedVariables false
set_option linter.unusedSimpArgs false
set_option maxRecDepth 100000 in
set_option maxHeartbeats 2000000 in
theorem large11_calls (v : Value) (o : List (List Pn)) (w : World) (hv : IsOut w v o) (hb : ∀ j, j < o.length → (o.getD j []).length ≤ 1125899906842624) :
    Calls Try.prog 48 #[v] w fun e w' => e = .returned (.bool (largeB o)) ∧ w = w' := by
  have hle := hv.le
  unfold maxLen at hle
  obtain ⟨pa, ca, rfl⟩ := hv.form
  have HO := Lib.hid hv
  have HC := Lib.hid (fun j hj (h4 : j ≤ 400) => (show cntTo o j ≤ 450359962737049600 from Nat.le_trans (cntTo_bound o _ hb j hj) (by omega)))
  obtain ⟨N, hN⟩ : ∃ N, o.length = N := ⟨_, rfl⟩
  have HN := Lib.hid hN
  obtain ⟨M, hM⟩ : ∃ M, min N 400 = M := ⟨_, rfl⟩
  have HE : Hid (largeB o = (decide (300 < N) || decide (5000 < cntTo o M))) := by show _ = _; unfold largeB; rw [hN, hM]
  have hM1 : M ≤ N := by omega
  have hM2 : M ≤ 400 := by omega
  have hM3 : M = N ∨ M = 400 := by omega
  rw [hN] at HO HC hle ⊢
  generalize largeB o = R at *
  clear hN hM hv hb
  go_enter Try.func48, Try.ntmps48
  go_wp2_with fail
  go_loopw [3, 4] (fun n i wr => ∃ j : Nat, j ≤ M ∧ i = .int .i64 j ∧ n = .int .i64 (cntTo o j : Nat) ∧ wr = w) (fun n i _ => M - (intOf i).toNat)
  case atStart => exact ⟨0, by omega, rfl, rfl, rfl⟩
  case round =>
    obtain ⟨j, hj, rfl, rfl, rfl⟩ := hrel
    by_cases hlt : j < M
    · obtain ⟨g1, o1, c1, p1, cv, e1, _, _, h1, _⟩ := HO.out.row (i := j) (by rw [HN.out]; omega)
      rw [HN.out] at e1
      cases e1
      have hb := HC.out (j + 1) (by omega) (by omega)
      have hs : Hid (cntTo o (j + 1) = cntTo o j + (o.getD j []).length) := rfl
      have hb2 : cntTo o j + (o.getD j []).length ≤ 450359962737049600 := by rw [← hs.out]; exact hb
      have hj4 : j < 400 := by omega
      have hjN : j < N := by omega
      generalize (o.getD j []).length = L at *
      generalize cntTo o j = A at *
      clear hb
      go_wp2_with fail
      go_roundw
      case rel => first | exact ⟨j + 1, by omega, int_eq' (by omega), int_eq' (by rw [hs.out]; omega), by first | rfl | trivial⟩ | ((repeat apply Exists.intro); exact ⟨⟨j + 1, by omega, int_eq' (by omega), int_eq' (by rw [hs.out]; omega), by first | rfl | trivial⟩, rfl⟩)
      case measure => simp [intOf]; omega
    · obtain rfl : j = M := by omega
      have hb := HC.out j hM1 hM2
      generalize cntTo o j = A at *
      rcases hM3 with rfl | rfl
      · by_cases h3 : 300 < j
        · have HX : Hid (R = true) := by show _ = _; rw [HE.out, decide_eq_true h3]; rfl
          go_wp2_with fail
          go_ret
          exact ⟨by rw [HX.out]; rfl, rfl⟩
        · have HX : Hid (R = decide (5000 < A)) := by show _ = _; rw [HE.out, decide_eq_false h3]; rfl
          go_wp2_with fail
          go_ret
          have e1 : decide ((300 : Int) < (j : Int)) = false := decide_eq_false (by omega)
          have e2 : decide ((5000 : Int) < (A : Int)) = decide (5000 < A) := decide_eq_decide.2 (by omega)
          refine ⟨?_, rfl⟩
          rw [HX.out]
          show Ending.returned (.bool (decide ((300 : Int) < (j : Int)) || decide ((5000 : Int) < (A : Int)))) = _
          rw [e1, e2, Bool.false_or]
      · by_cases h4 : N = 400
        · subst h4
          have HX : Hid (R = true) := by show _ = _; rw [HE.out, decide_eq_true (by decide)]; rfl
          go_wp2_with fail
          go_ret
          exact ⟨by rw [HX.out]; rfl, rfl⟩
        · have h5 : 400 < N := by omega
          have HX : Hid (R = true) := by show _ = _; rw [HE.out, decide_eq_true (by omega)]; rfl
          go_wp2_with fail
          go_ret
          exact ⟨by rw [HX.out]; rfl, rfl⟩
theorem sencM_cases (o : List (List Pn)) : (∃ e : Int, e ≠ 0 ∧ encM o = ([], e)) ∨ (o = [] ∧ encM o = ([], 0)) ∨ (∃ t, encM o = (encB o (hullO o) t, 0) ∧ checkO o = 0 ∧ o ≠ [] ∧ encS (restF o 0) en0 = some t) := by
  unfold encM
  by_cases h1 : checkO o ≠ 0
  · rw [if_pos h1]; exact .inl ⟨_, h1, rfl⟩
  · rw [if_neg h1]
    by_cases h2 : o = []
    · rw [if_pos h2]; exact .inr (.inl ⟨h2, rfl⟩)
    · rw [if_neg h2]
      cases h3 : encS (restF o 0) en0 with
      | none => exact .inl ⟨1, by decide, rfl⟩
      | some t => exact .inr (.inr ⟨t, rfl, by simpa using h1, h2, rfl⟩)
theorem encB_facts (o : List (List Pn)) (b : Bx) (t : EnS) (hE : checkO o = 0) (hR : encS (restF o 0) en0 = some t) : 0 < (encB o b t).length ∧ (encB o b t).length ≤ 65536 ∧ ∀ c ∈ encB o b t, 0 ≤ c ∧ c ≤ 255 := by
  obtain ⟨hz1, hz2, hz3⟩ := checkO_zero hE
  obtain ⟨f1, f2, f3, f4, f5, f6⟩ := encS_facts _ _ _ hR
  have hcnt := flatTo_len o o.length (Nat.le_refl _)
  rw [← restF_zero o] at hcnt
  have hc : cntTo o o.length ≤ 4096 := hz2
  have f1' : t.fl = flsB en0.lx en0.ly (restF o 0) := by rw [f1]; rfl
  have f2' : t.ax = stsB 0 (uX (restF o 0)) := by rw [f2]; rfl
  have f3' : t.ay = stsB 0 (uY (restF o 0)) := by rw [f3]; rfl
  have hl : ∀ (xs : List Int) (l : Int), (stsB l xs).length ≤ 2 * xs.length := by
    intro xs
    induction xs with
    | nil => intro l; simp [stsB]
    | cons x xs ih => intro l; have a := putB_len (x - l); have b := ih x; simp only [stsB, List.length_append, List.length_cons]; omega
  have hbs : ∀ (xs : List Int) (l : Int), stsK l xs → ∀ c ∈ stsB l xs, 0 ≤ c ∧ c ≤ 255 := by
    intro xs
    induction xs with
    | nil => intro l _ c hc; simp [stsB] at hc
    | cons x xs ih =>
      intro l hk c hc
      rcases List.mem_append.1 hc with h | h
      · exact putB_bytes _ c h
      · exact ih x hk.2 c h
  have e1 := packM_len t.fl.length t.fl
  have l1 : t.fl.length ≤ 4096 := by rw [f1', flsB_len, hcnt]; exact hc
  have l2 : t.ax.length ≤ 8192 := by rw [f2']; have := hl (uX (restF o 0)) 0; simp only [uX, List.length_map] at this ⊢; omega
  have l3 : t.ay.length ≤ 8192 := by rw [f3']; have := hl (uY (restF o 0)) 0; simp only [uY, List.length_map] at this ⊢; omega
  have hlen : (encB o b t).length = 10 + 2 * o.length + 2 + (packM t.fl.length t.fl).length + t.ax.length + t.ay.length := by
    unfold encB; simp only [List.length_append, encTop_len, encEnds_len, bytesN_length]
  have hbN : ∀ (n : Nat) (x : Int), ∀ c ∈ bytesN n x, 0 ≤ c ∧ c ≤ 255 := by
    intro n x
    induction n with
    | zero => intro c hc; simp [bytesN] at hc
    | succ n ih =>
      intro c hc
      rcases List.mem_cons.1 hc with h | h
      · subst h; omega
      · exact ih c h
  have hkk : ∀ p ∈ restF o 0, p.k = 1 ∨ p.k = 2 := pts_kinds hE hR
  refine ⟨by omega, by omega, fun c hc => ?_⟩
  unfold encB encTop at hc
  simp only [List.mem_append] at hc
  rcases hc with ((((h | h) | h) | h) | h) | h
  · rcases h with ((((h | h) | h) | h) | h) | h
    · cases h
    all_goals exact hbN _ _ c h
  · exact encEnds_bytes o _ c h
  · exact hbN _ _ c h
  · rw [f1'] at h
    exact packM_bytes _ _ (fls_good _ _ _ hkk) c h
  · rw [f2'] at h; exact hbs _ _ f4 c h
  · rw [f3'] at h; exact hbs _ _ f5 c h
set_option maxRecDepth 100000 in
set_option maxHeartbeats 4000000 in
theorem law_SimpleBack (v : Value) (o : List (List Pn)) (vb : Value) (zs : List Int) (w : World) (hv : IsOut w v o) (hbo : ∀ j, j < o.length → (o.getD j []).length ≤ 1125899906842624)
    (hi : IsInts .u8 w vb zs) (hb : ∀ c ∈ zs, 0 ≤ c ∧ c ≤ 255) (hzl : zs.length ≤ 140737488351232) :
    Calls Try.prog 13 #[v, vb] w fun e w' => e = .returned (.bool true) ∧ Kp [] w w' := by
  obtain ⟨pa, ca, rfl⟩ := hv.form
  obtain ⟨pz, cz, hvz⟩ : ∃ p c, vb = .slice p zs.length c := by
    rcases hi with ⟨⟨ad, rfl⟩, rfl⟩ | ⟨g, off, c, rfl, _⟩
    · exact ⟨_, 0, rfl⟩
    · exact ⟨_, c, rfl⟩
  subst hvz
  have HL := Lib.hid (large11_calls _ o w hv hbo)
  have HZ := Lib.hid hv
  have HB := Lib.hid hb
  have HY := Lib.hid hi
  clear hb hi hv
  cases hlo : largeB o with
  | true =>
    rw [hlo] at HL
    generalize o.length = N at *
    go_enter Try.func13, Try.ntmps13
    go_wp2_with fail
    refine HL.out.mono ?_; rintro e w1 ⟨rfl, rfl⟩
    go_wp2_with fail
    refine (lives11_calls _).mono ?_; rintro e w1 ⟨rfl, hk⟩
    go_wp2_with fail
    go_ret
    exact ⟨rfl, hk⟩
  | false =>
    rw [hlo] at HL
    obtain ⟨hs1, hs2⟩ := not_large hlo
    have HEN := Lib.hid (sencode_calls _ o w HZ.out (fun j hj => by have := len_le_cnt o hj; omega) (by omega))
    have HSA := Lib.hid (fun W (hk : Kp [] w W) (v : Value) (h : IsOut W v o) => rsame_calls _ _ o o W h (HZ.out.kp0 hk))
    rw [decide_eq_true (rfl : o = o)] at HSA
    rcases sencM_cases o with ⟨ee, hee, hE⟩ | ⟨ho, hE⟩ | ⟨t, hE, hck, hne, hen⟩
    · rw [hE] at HEN
      have he0 : (ee != 0) = true := by simpa using hee
      clear hee hE HSA hlo
      obtain ⟨N, hN⟩ : ∃ N, o.length = N := ⟨_, rfl⟩
      rw [hN] at HL HZ HEN ⊢
      clear hN
      go_enter Try.func13, Try.ntmps13
      go_wp2_with fail
      refine HL.out.mono ?_; rintro e w1 ⟨rfl, rfl⟩
      go_wp2_with fail
      refine HEN.out.mono ?_; rintro e w2 ⟨v2, rfl, hi2, hk2, hb2⟩
      obtain ⟨p2, c2, hv2⟩ : ∃ p c, v2 = .slice p 0 c := by
        rcases hi2 with ⟨⟨ad, rfl⟩, e⟩ | ⟨g, off, c, rfl, _⟩
        · exact ⟨_, 0, rfl⟩
        · exact ⟨_, c, rfl⟩
      subst hv2
      have HK2 := Lib.hid hk2
      clear hi2 hk2 hb2 HL HEN
      dsimp only
      go_wp2_with fail
      refine (lives11_calls _).mono ?_; rintro e w3 ⟨rfl, hk3⟩
      have HK3 : Hid (Kp [] w w3) := HK2.out.trans hk3
      clear hk3 HK2
      go_wp2_with fail
      refine (lives11_calls _).mono ?_; rintro e w4 ⟨rfl, hk4⟩
      have HK4 : Hid (Kp [] w w4) := HK3.out.trans hk4
      clear hk4 HK3
      go_wp2_with fail
      go_ret
      exact ⟨by simp, HK4.out⟩
    · subst ho
      rw [hE] at HEN
      simp only [List.length_nil] at *
      clear hE HSA hlo
      go_enter Try.func13, Try.ntmps13
      go_wp2_with fail
      refine HL.out.mono ?_; rintro e w1 ⟨rfl, rfl⟩
      go_wp2_with fail
      refine HEN.out.mono ?_; rintro e w2 ⟨v2, rfl, hi2, hk2, hb2⟩
      obtain ⟨p2, c2, hv2⟩ : ∃ p c, v2 = .slice p 0 c := by
        rcases hi2 with ⟨⟨ad, rfl⟩, e⟩ | ⟨g, off, c, rfl, _⟩
        · exact ⟨_, 0, rfl⟩
        · exact ⟨_, c, rfl⟩
      subst hv2
      have HK2 := Lib.hid hk2
      clear hi2 hk2 hb2 HL HEN
      dsimp only
      go_wp2_with fail
      refine (lives11_calls _).mono ?_; rintro e w3 ⟨rfl, hk3⟩
      have HK3 : Hid (Kp [] w w3) := HK2.out.trans hk3
      clear hk3 HK2
      go_wp2_with fail
      refine (lives11_calls _).mono ?_; rintro e w4 ⟨rfl, hk4⟩
      have HK4 : Hid (Kp [] w w4) := HK3.out.trans hk4
      clear hk4 HK3
      go_wp2_with fail
      go_ret
      exact ⟨by simp, HK4.out⟩
    · rw [hE] at HEN
      have HD := Lib.hid (enc_dec o (hullO o) t zs hck hne hen)
      obtain ⟨hR0, hRl, hRB⟩ := encB_facts o (hullO o) t hck hen
      have HRB := Lib.hid hRB
      generalize encB o (hullO o) t = R at *
      have hn0 : 0 < o.length := List.length_pos_iff.2 hne
      obtain ⟨N, hN⟩ : ∃ N, o.length = N := ⟨_, rfl⟩
      have HN := Lib.hid hN
      have hNz : ((N : Int) == 0) = false := by rw [beq_eq_false_iff_ne]; omega
      rw [hN] at HL HZ HEN HSA ⊢
      clear hN hE hck hne hen hlo hbo hRB hn0
      go_enter Try.func13, Try.ntmps13
      go_wp2_with fail
      refine HL.out.mono ?_; rintro e w1 ⟨rfl, rfl⟩
      go_wp2_with fail
      refine HEN.out.mono ?_; rintro e w2 ⟨v2, rfl, hi2, hk2, hb2⟩
      dsimp only at hi2 ⊢
      obtain ⟨p2, c2, hv2⟩ : ∃ p c, v2 = .slice p R.length c := by
        rcases hi2 with ⟨⟨ad, rfl⟩, e⟩ | ⟨g, off, c, rfl, _⟩
        · exact ⟨_, 0, by rw [e]; rfl⟩
        · exact ⟨_, c, rfl⟩
      subst hv2
      have HK2 := Lib.hid hk2
      have HI2 := Lib.hid hi2
      clear hi2 hk2 hb2 HL HEN
      go_wp2_with fail
      refine (lives11_calls _).mono ?_; rintro e w3 ⟨rfl, hk3⟩
      have HK3 : Hid (Kp [] w w3) := HK2.out.trans hk3
      have HI3 : Hid (IsInts .u8 w3 (.slice p2 R.length c2) R) := HI2.out.kp hk3 (by simp)
      clear hk3 HK2 HI2
      go_wp2_with (at_builtin; refine wpList_app rfl _ _ 22 rfl w3.heap.size 5 (.int .u8 0) 1 1 Try.underlying22 infoByte rfl (by decide) (by decide) (.slice (some ⟨w3.heap.size, 0, none⟩) 0 0) 0 [] rfl ?hown (.slice p2 R.length c2) R.length (R.map (Value.int .u8)) rfl ?hsrc (oneCell_ints _ _) ?hb1 ?hb2 ?hk)
      case hown => exact own_empty _ _ _ _ _ rfl (by omega)
      case hsrc => exact (HI3.out.kp (S := []) ((Kp.refl _ _).alloc _) (by simp)).reads
      case hb1 => omega
      case hb2 => simp
      case hk =>
      intro v4 w4 hown hgr
      try simp only [Nat.zero_add, List.nil_append] at hown
      have HK4 : Hid (Kp [] w3 w4) := Kp.grown ((Kp.refl _ _).alloc _) hgr (by intro k hk; right; simp [Value.ownBlock] at hk; omega)
      have HO4 := Lib.hid hown
      obtain ⟨p4, c4, rfl⟩ := slice_own hown
      have hs4 : w3.heap.size ≤ w4.heap.size := HK4.out.size
      clear hown hgr
      go_wp2_with (at_builtin; refine wpList_appW rfl _ _ 22 rfl w3.heap.size 5 (.int .u8 0) 1 1 Try.underlying22 infoByte rfl (by decide) (by decide) (.slice p4 R.length c4) R.length (R.map (Value.int .u8)) rfl ?hown (.slice pz zs.length cz) zs.length (zs.map (Value.int .u8)) rfl ?hsrc (oneCell_ints _ _) ?hb1 ?hb2 ?hk)
      case hown => exact HO4.out
      case hsrc => exact (HY.out.kp (HK3.out.trans HK4.out) (by simp)).reads
      case hb1 => omega
      case hb2 => omega
      case hk =>
      intro v5 w5 hown hgr
      rw [← List.map_append, ← List.length_append] at hown
      have HK5 : Hid (Kp [] w w5) := Kp.grown (HK3.out.trans HK4.out) hgr (by intro k hk; right; have := own_ge HO4.out k hk; have := HK3.out.size; omega)
      have HI5 : Hid (IsInts .u8 w5 v5 (R ++ zs)) := IsInts.owned hown
      have HL5 := Lib.hid (fun b (hb : blockOf v5 = some b) => (hown.lt b (blockOf_own hb)).2)
      clear hown hgr HO4 HK4 hs4
      go_wp2_with fail
      refine (decode_calls HI5.out (fun c hc => by rcases List.mem_append.1 hc with h | h; exact HRB.out c h; exact HB.out c h) HL5.out).mono ?_; rintro e w6 ⟨v6, rfl, hi6, hk6⟩
      rw [HD.out] at hi6 ⊢
      dsimp only at hi6 ⊢
      have HK6 : Hid (Kp [] w w6) := HK5.out.trans hk6
      have HS6 := Lib.hid (HSA.out w6 HK6.out v6 hi6)
      obtain ⟨p6, c6, hv6⟩ := hi6.form
      rw [HN.out] at hv6
      subst hv6
      clear hi6 hk6 HK5 HI5 HL5
      go_wp2_with fail
      refine HS6.out.mono ?_; rintro e w7 ⟨rfl, hk7⟩
      have HK7 : Hid (Kp [] w w7) := HK6.out.trans hk7
      clear hk7 HK6 HS6
      go_wp2_with fail
      go_ret
      exact ⟨by simp, HK7.out⟩
end Go.Proofs.Ytodjohoonbkklaa

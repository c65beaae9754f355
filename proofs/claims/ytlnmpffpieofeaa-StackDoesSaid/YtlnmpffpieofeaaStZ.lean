/- stack: StackRolls: the rolls, plain; the walk. -/
import Derived.Test.YtlnmpffpieofeaaStY
import Derived.Test.YtlnmpffpieofeaaRow
namespace Go.Proofs.Ytlnmpffpieofeaa
open Go.RowKit
set_option linter.unusedVariables false
set_option linter.unusedSimpArgs false
theorem tm (j n : Int) (hn : 0 < n) : (j.tmod n + n).tmod n = j % n := by
  have h1 : 0 ≤ j.tmod n + n := by
    have := Int.lt_tmod_of_pos j hn
    omega
  rw [Int.tmod_eq_emod_of_nonneg h1, Int.add_emod_right]
  rcases Int.le_total 0 j with h | h
  · rw [Int.tmod_eq_emod_of_nonneg h, Int.emod_emod]
  · have e : j.tmod n = j + n * (-(j.tdiv n)) := by
      have := Int.tmod_add_mul_tdiv j n
      rw [Int.mul_neg]; omega
    rw [e, Int.add_mul_emod_self_left]
def rr (l : List Int) (k : Nat) : List Int := l.drop (l.length - k) ++ l.take (l.length - k)
theorem rr_len (l : List Int) (k : Nat) : (rr l k).length = l.length := by unfold rr; simp
theorem rr_zero (l : List Int) : rr l 0 = l := by unfold rr; simp
theorem rr_is (X : List Int) (n k : Nat) (h : X.length = n) : rr X k = X.drop (n - k) ++ X.take (n - k) := by subst h; rfl
theorem rr_back (l : List Int) (k k' : Nat) (h : k + k' = l.length) : rr (rr l k) k' = l := by
  have hx : (l.drop (l.length - k)).length = l.length - k' := by simp; omega
  rw [rr_is (rr l k) l.length k' (rr_len l k)]
  unfold rr
  rw [List.drop_append_of_le_length (by omega), List.take_append_of_le_length (by omega), ← hx, List.drop_length, List.take_length, List.nil_append, List.take_append_drop]
theorem rr_one (l : List Int) (m : Nat) (h : m < l.length) (h2 : 2 ≤ l.length) : rr (rr l m) 1 = rr l (m + 1) := by
  have hx : (l.drop (l.length - m)).length = m := by simp; omega
  rw [rr_is (rr l m) l.length 1 (rr_len l m)]
  unfold rr
  have hy : l.length - 1 = (l.drop (l.length - m)).length + (l.length - (m + 1)) := by omega
  rw [hy, List.drop_length_add_append, List.take_length_add_append]
  clear hy
  have e3 : l.drop (l.length - (m+1)) = (l.take (l.length - m)).drop (l.length - (m+1)) ++ l.drop (l.length - m) := by
    conv => lhs; rw [← List.take_append_drop (l.length - m) l]
    rw [List.drop_append_of_le_length (by simp; omega)]
    simp
  rw [e3, List.append_assoc, List.take_take, show min (l.length - (m + 1)) (l.length - m) = l.length - (m+1) by omega]
theorem rr_all (l : List Int) : rr l l.length = l := by unfold rr; simp
theorem mod_back (j n : Int) (hn : 0 < n) : (j % n = 0 ∧ (-j) % n = 0) ∨ j % n + (-j) % n = n := by
  have h1 := Int.emod_nonneg j (Int.ne_of_gt hn)
  have h2 := Int.emod_lt_of_pos j hn
  have h3 := Int.emod_nonneg (-j) (Int.ne_of_gt hn)
  have h4 := Int.emod_lt_of_pos (-j) hn
  have h5 := Int.mul_ediv_add_emod j n
  have h6 := Int.mul_ediv_add_emod (-j) n
  have h7 : n * (j / n + (-j) / n) + (j % n + (-j) % n) = 0 := by rw [Int.mul_add]; omega
  generalize j / n + (-j) / n = q at *
  generalize hs : j % n + (-j) % n = t at *
  by_cases h8 : t = 0
  · left; omega
  · right
    have hq : q = -1 := by
      by_cases a : q ≤ -2
      · have : n * q ≤ n * (-2) := Int.mul_le_mul_of_nonneg_left a (by omega); omega
      · by_cases b : 0 ≤ q
        · have : 0 ≤ n * q := Int.mul_nonneg (by omega) b; omega
        · omega
    subst hq; omega
theorem roll_full (l : List Int) (k : Nat) : rollL l l.length k = rr l k := by
  unfold rollL rr; simp
theorem do_roll (l st dr : List Int) (j : Int) (h : 1 ≤ l.length) : doM 30 (l ++ [(l.length : Int) * 65536, j * 65536]) st dr = (0, rr l (j % l.length).toNat, st, dr) := by
  rw [doM_at 30 _ _ st dr (.inr (by simp [isMov])) rfl]
  unfold stepM
  simp only [List.getD_cons_zero, List.getD_cons_succ]
  have e1 : (l.length : Int) * 65536 / 65536 = l.length := by omega
  have e2 : j * 65536 / 65536 = j := by omega
  rw [if_neg (by simp [isNum]), if_neg (by decide), if_neg (by decide), if_neg (by decide), if_neg (by decide), if_neg (by decide), if_pos trivial, e1, e2, if_neg (by omega), if_neg (by omega), tm j _ (by omega)]
  rw [show ((l.length : Int)).toNat = l.length by omega, roll_full]
theorem rr_mem {l : List Int} {k : Nat} {x : Int} (h : x ∈ rr l k) : x ∈ l := by
  unfold rr at h
  rcases List.mem_append.1 h with g | g
  · exact List.mem_of_mem_drop g
  · exact List.mem_of_mem_take g
theorem ok_roll {l : List Int} (k : Nat) {a b : Int} (hl : l.length ≤ 40) (hm : ∀ x ∈ l, mayB x = true) (ha : mayB a = true) (hb : mayB b = true) : OkM (rr l k ++ [a, b]) zeros32 :=
  okM_lit _ (by rw [List.length_append, rr_len]; simp; omega) (fun x hx => by
    rcases List.mem_append.1 hx with g | g
    · exact hm x (rr_mem g)
    · exact mems (P := fun z => mayB z = true) ha hb x g)
theorem rr_twice (l : List Int) (j : Int) (h : 1 ≤ l.length) : rr (rr l (j % l.length).toNat) ((-j) % l.length).toNat = l := by
  rcases mod_back j l.length (by omega) with ⟨h1, h2⟩ | h1
  · rw [h1, h2]; simp [rr_zero]
  · have a := Int.emod_nonneg j (b := l.length) (by omega)
    have b := Int.emod_nonneg (-j) (b := l.length) (by omega)
    exact rr_back l _ _ (by omega)
theorem rr_step (l : List Int) (m : Nat) (h : m < l.length) : rr (rr l m) ((1 : Int) % l.length).toNat = rr l (m + 1) := by
  by_cases h2 : l.length = 1
  · have : m = 0 := by omega
    subst this
    rw [h2]
    simp [rr_zero]
    unfold rr; simp [h2]
  · rw [show ((1 : Int) % l.length).toNat = 1 by rw [Int.emod_eq_of_lt (by omega) (by omega)]; rfl]
    exact rr_one l m h (by omega)
theorem islc {k : IntKind} {w : World} {v : Value} {zs : List Int} (h : IsInts k w v zs) : ∃ p c, v = .slice p zs.length c := by
  rcases h with ⟨⟨pb, rfl⟩, rfl⟩ | ⟨g, off, c, rfl, _⟩
  · exact ⟨_, _, rfl⟩
  · exact ⟨_, _, rfl⟩
/-- A number of a slice, at its place. -/
theorem IsInts.at {k : IntKind} {w : World} {p : Option Addr} {n c : Nat} {zs : List Int} (h : IsInts k w (.slice p n c) zs) (hn : zs.length = n) (i : Nat) (hi : i < n) :
    ∃ g off, p = some ⟨g, off, none⟩ ∧ w.cell? ⟨g, off + i, none⟩ = some (.int k (zs.getD i 0)) ∧ n ≤ c := by
  rcases h with ⟨⟨pb, e⟩, h0⟩ | ⟨g, off, c', e, e1, e2, e3⟩
  · subst h0; simp at hn; omega
  · cases e; exact ⟨g, off, rfl, e3 i (by omega), by omega⟩
theorem all_may {xs : List Int} (h : xs.all mayB = true) : ∀ x ∈ xs, mayB x = true := fun x hx => List.all_eq_true.1 h x hx
set_option maxRecDepth 100000 in
set_option maxHeartbeats 8000000 in
theorem law_StackRolls (va : Value) (xs : List Int) (j : Int) (hj : -9223372036854775808 ≤ j ∧ j ≤ 9223372036854775807) (w : World) (hi : IsInts .i64 w va xs) :
    Calls Try.prog 4 #[va, .int .i64 j] w fun e w' => e = .returned (.bool true) ∧ Kp [] w w' := by
  obtain ⟨p, c, rfl⟩ := islc hi
  obtain ⟨n, hn⟩ : ∃ n, xs.length = n := ⟨_, rfl⟩
  have HN := Lib.hid hn
  have HI := Lib.hid hi
  rw [hn] at HI ⊢
  clear hn hi
  have LV := Lib.hid lives_calls
  by_cases h1 : 40 < n
  · go_enter Try.func4, Try.ntmps4
    go_wp2_with fail
    refine (LV.out _).mono ?_; rintro e w2 ⟨rfl, hk2⟩
    go_wp2_with fail
    go_ret
    exact ⟨rfl, hk2⟩
  by_cases h2 : n = 0
  · subst h2
    clear h1
    go_enter Try.func4, Try.ntmps4
    go_wp2_with fail
    refine (LV.out _).mono ?_; rintro e w2 ⟨rfl, hk2⟩
    go_wp2_with fail
    go_ret
    exact ⟨rfl, hk2⟩
  have h1' : ¬ ((40 : Int) < n) := by omega
  have h2' : ¬ ((n : Int) < 1) := by omega
  by_cases h3 : j < -1000
  · go_enter Try.func4, Try.ntmps4
    go_wp2_with fail
    refine (LV.out _).mono ?_; rintro e w2 ⟨rfl, hk2⟩
    go_wp2_with fail
    go_ret
    exact ⟨rfl, hk2⟩
  by_cases h4 : 1000 < j
  · go_enter Try.func4, Try.ntmps4
    go_wp2_with fail
    refine (LV.out _).mono ?_; rintro e w2 ⟨rfl, hk2⟩
    go_wp2_with fail
    go_ret
    exact ⟨rfl, hk2⟩
  have hw9 : Hid (∀ t : Nat, t < n → IntKind.i64.wrap ((t : Int) + 1) = (t : Int) + 1) := fun t ht => by rw [IntKind.wrap_i64]; omega
  have wn : IntKind.i64.wrap ((n : Int) * 65536) = (n : Int) * 65536 := by rw [IntKind.wrap_i64]; omega
  have wj : IntKind.i64.wrap (j * 65536) = j * 65536 := by rw [IntKind.wrap_i64]; omega
  have wj2 : IntKind.i64.wrap (-j) = -j := by rw [IntKind.wrap_i64]; omega
  have wj3 : IntKind.i64.wrap (-j * 65536) = -j * 65536 := by rw [IntKind.wrap_i64]; omega
  have wj4 : IntKind.i64.wrap (- -j) = j := by rw [IntKind.wrap_i64]; omega
  have MN : Hid (mayB ((n : Int) * 65536) = true) := may_in ⟨by omega, by omega⟩
  have MJ : Hid (mayB (j * 65536) = true) := may_in ⟨by omega, by omega⟩
  have MJ2 : Hid (mayB (-j * 65536) = true) := may_in ⟨by omega, by omega⟩
  have M1 : Hid (mayB 65536 = true) := by show _ = _; decide
  have N1 : Hid (1 ≤ n ∧ n ≤ 40) := ⟨by omega, by omega⟩
  clear h1 h2 hj
  go_enter Try.func4, Try.ntmps4
  go_wp2_with fail
  go_loopw [5] (fun i wr => ∃ t : Nat, t ≤ n ∧ i = .int .i64 t ∧ w = wr ∧ (xs.take t).all mayB = true) (fun i _ => n - (intOf i).toNat)
  case atStart => exact ⟨0, by omega, rfl, rfl, by simp⟩
  case round =>
    obtain ⟨t, ht, rfl, rfl, hall⟩ := hrel
    have HA := Lib.hid hall
    clear hall
    by_cases hlt : t < n
    · obtain ⟨g, off, rfl, hcell, hca⟩ := HI.out.at HN.out t hlt
      have hw := hw9.out t hlt
      have hsucc : Hid (mayB (xs.getD t 0) = true → (xs.take (t + 1)).all mayB = true) := fun h => all_take_succ mayB xs t (by rw [HN.out]; exact hlt) HA.out h
      generalize hx : xs.getD t 0 = x at *
      clear hx
      go_wp2_with fail
      refine (rmay_calls _ _).mono ?_; rintro e w1 ⟨rfl, rfl⟩
      cases hx : mayB x
      · clear hx
        go_wp2_with fail
        refine (LV.out _).mono ?_; rintro e w2 ⟨rfl, hk2⟩
        go_wp2_with fail
        go_ret
        exact ⟨rfl, hk2⟩
      · have HX := Lib.hid hx
        clear hx
        go_wp2_with fail
        go_round
        case rel => exact ⟨t + 1, by omega, by go_num, by first | rfl | trivial, hsucc.out HX.out⟩
        case measure => simp [intOf]; omega
    · have htn : t = n := by omega
      subst htn
      have HM : Hid (∀ x ∈ xs, mayB x = true) := by
        have := HA.out
        rw [List.take_of_length_le (by rw [HN.out]; exact Nat.le_refl _)] at this
        exact all_may this
      clear HA ht
      go_wp2_with fail
      refine (ofB _ _ _ [] xs _ (Kp.refl _ _) (.inl ⟨⟨_, rfl⟩, rfl⟩) (by simp) HI.out HM.out (by rw [HN.out]; have := N1.out; omega)).mono ?_
      rintro e w1 ⟨s, rfl, H1⟩
      go_wp2_with fail
      refine (LV.out _).mono ?_; rintro e w2 ⟨rfl, hk2⟩
      have H2 := Lib.hid (H1.kp hk2)
      clear H1 hk2
      go_wp2_with fail
      go_loopw [8, 1] (fun k jv wr => ∃ u : Nat, u ≤ 2 ∧ k = .int .i64 u ∧ jv = .int .i64 (if u = 1 then -j else j) ∧ Hid (SB w s (if u = 1 then rr xs (j % t).toNat else xs) zeros32 [] wr)) (fun k _ _ => 2 - (intOf k).toNat)
      case atStart => exact ⟨0, by omega, rfl, rfl, H2⟩
      case round =>
        obtain ⟨u, hu, rfl, rfl, H3⟩ := hrel
        have hlen : Hid (xs.length = t ∧ (rr xs (j % t).toNat).length = t) := ⟨HN.out, by rw [rr_len]; exact HN.out⟩
        have hu1 : IntKind.i64.wrap ((u : Int) + 1) = (u : Int) + 1 := by rw [IntKind.wrap_i64]; omega
        rcases (show u = 0 ∨ u = 1 ∨ u = 2 by omega) with rfl | rfl | rfl
        · have H4 : Hid (SB w s xs zeros32 [] wr) := by have := H3.out; rw [if_neg (by decide)] at this; exact this
          clear H3
          rw [if_neg (by decide)]
          go_wp2_with fail
          refine (pushB _ MN.out H4.out (by have := hlen.out.1; have := N1.out; omega)).mono ?_
          rintro e w3 ⟨rfl, G1⟩
          go_wp2_with fail
          refine (pushB _ MJ.out G1 (by have := hlen.out.1; have := N1.out; simp; omega)).mono ?_
          rintro e w4 ⟨rfl, G2⟩
          have G3 : Hid (SB w s (xs ++ [(xs.length : Int) * 65536, j * 65536]) zeros32 [] w4) := by have := G2; rw [List.append_assoc] at this; rw [HN.out]; exact this
          have hok : Hid (OkM (xs ++ [(xs.length : Int) * 65536, j * 65536]) zeros32) := by
            have := ok_roll (l := xs) 0 (by have := hlen.out.1; have := N1.out; omega) HM.out MN.out MJ.out
            rw [rr_zero] at this; rw [HN.out]; exact this
          clear G1 G2
          go_wp2_with fail
          refine (doB 30 G3.out hok.out _ _ _ _ (do_roll xs zeros32 [] j (by have := hlen.out.1; have := N1.out; omega))).mono ?_
          rintro e w5 ⟨rfl, G4⟩
          have G5 : Hid (SB w s (rr xs (j % t).toNat) zeros32 [] w5) := by have := G4; rw [HN.out] at this; exact this
          clear G4
          go_wp2_with fail
          go_round
          case rel => exact ⟨1, by omega, by go_num, by first | rfl | (rw [if_pos rfl]; rfl) | simp, G5⟩
          case measure => simp [intOf]
        · have H4 : Hid (SB w s (rr xs (j % t).toNat) zeros32 [] wr) := by have := H3.out; rw [if_pos rfl] at this; exact this
          clear H3
          rw [if_pos rfl]
          go_wp2_with fail
          refine (pushB _ MN.out H4.out (by have := hlen.out.2; have := N1.out; omega)).mono ?_
          rintro e w3 ⟨rfl, G1⟩
          go_wp2_with fail
          refine (pushB _ MJ2.out G1 (by have := hlen.out.2; have := N1.out; simp; omega)).mono ?_
          rintro e w4 ⟨rfl, G2⟩
          have G3 : Hid (SB w s (rr xs (j % t).toNat ++ [((rr xs (j % t).toNat).length : Int) * 65536, -j * 65536]) zeros32 [] w4) := by have := G2; rw [List.append_assoc] at this; rw [hlen.out.2]; exact this
          have hok : Hid (OkM (rr xs (j % t).toNat ++ [((rr xs (j % t).toNat).length : Int) * 65536, -j * 65536]) zeros32) := by
            have := ok_roll (l := xs) (j % t).toNat (by have := hlen.out.1; have := N1.out; omega) HM.out MN.out MJ2.out
            rw [hlen.out.2]; exact this
          clear G1 G2
          go_wp2_with fail
          refine (doB 30 G3.out hok.out _ _ _ _ (do_roll _ zeros32 [] (-j) (by have := hlen.out.2; have := N1.out; omega))).mono ?_
          rintro e w5 ⟨rfl, G4⟩
          have G5 : Hid (SB w s xs zeros32 [] w5) := by
            have := G4
            rw [rr_len] at this
            have e := rr_twice xs j (by have := hlen.out.1; have := N1.out; omega)
            rw [show (t : Int) = (xs.length : Int) by rw [HN.out]] at this
            rw [e] at this; exact this
          clear G4
          go_wp2_with fail
          go_round
          case rel => exact ⟨2, by omega, by go_num, by first | rfl | (rw [if_neg (by decide)]; rfl) | simp, G5⟩
          case measure => simp [intOf]
        · have H4 : Hid (SB w s xs zeros32 [] wr) := by have := H3.out; rw [if_neg (by decide)] at this; exact this
          clear H3
          rw [if_neg (by decide)]
          have hiw := HI.out.kp H4.out.base (by simp)
          have HIW := Lib.hid hiw
          clear hiw
          go_wp2_with fail
          refine (allB H4.out (by have := hlen.out.1; have := N1.out; omega)).mono ?_
          rintro e w6 ⟨v, rfl, hv, hk6, H6⟩
          have HV := Lib.hid hv
          have H7 := Lib.hid H6
          clear hv H6
          go_wp2_with fail
          refine (same_calls _ _ xs xs _ HV.out (HIW.out.kp hk6 (by simp))).mono ?_
          rintro e w7 ⟨rfl, hk7⟩
          rw [decide_eq_true rfl]
          have H8 : Hid (SB w s (rr xs 0) zeros32 [] w7) := by rw [rr_zero]; exact H7.out.kp hk7
          clear HV H7 hk6 hk7 H4 HIW
          go_wp2_with fail
          go_loopw [9] (fun k wr => ∃ m : Nat, m ≤ t ∧ k = .int .i64 m ∧ Hid (SB w s (rr xs m) zeros32 [] wr)) (fun k _ => t - (intOf k).toNat)
          case atStart => exact ⟨0, by omega, rfl, H8⟩
          case round =>
            obtain ⟨m, hm, rfl, H9⟩ := hrel
            by_cases hmt : m < t
            · have hw := hw9.out m hmt
              have hl9 : Hid ((rr xs m).length = t) := by show _ = _; rw [rr_len]; exact HN.out
              go_wp2_with fail
              refine (pushB _ MN.out H9.out (by have := hl9.out; have := N1.out; omega)).mono ?_
              rintro e w8 ⟨rfl, G1⟩
              go_wp2_with fail
              refine (pushB _ M1.out G1 (by have := hl9.out; have := N1.out; simp; omega)).mono ?_
              rintro e w9 ⟨rfl, G2⟩
              have G3 : Hid (SB w s (rr xs m ++ [((rr xs m).length : Int) * 65536, 1 * 65536]) zeros32 [] w9) := by have := G2; rw [List.append_assoc] at this; rw [hl9.out]; exact this
              have hok : Hid (OkM (rr xs m ++ [((rr xs m).length : Int) * 65536, 1 * 65536]) zeros32) := by
                have := ok_roll (l := xs) m (by have := hlen.out.1; have := N1.out; omega) HM.out MN.out M1.out
                rw [hl9.out]; exact this
              clear G1 G2
              go_wp2_with fail
              refine (doB 30 G3.out hok.out _ _ _ _ (do_roll _ zeros32 [] 1 (by have := hl9.out; have := N1.out; omega))).mono ?_
              rintro e w10 ⟨rfl, G4⟩
              have G5 : Hid (SB w s (rr xs (m + 1)) zeros32 [] w10) := by
                have := G4
                rw [rr_len, rr_step xs m (by rw [HN.out]; exact hmt)] at this
                exact this
              clear G4
              go_wp2_with fail
              go_round
              case rel => exact ⟨m + 1, by omega, by go_num, G5⟩
              case measure => simp [intOf]; omega
            · have hmt2 : m = t := by omega
              subst hmt2
              have H10 : Hid (SB w s xs zeros32 [] wr) := by have := H9.out; rw [← HN.out, rr_all] at this; exact this
              clear H9 hmt hm
              have HIW := Lib.hid (HI.out.kp H10.out.base (by simp))
              go_wp2_with fail
              refine (allB H10.out (by have := hlen.out.1; have := N1.out; omega)).mono ?_
              rintro e w6 ⟨v, rfl, hv, hk6, H6⟩
              have HV := Lib.hid hv
              have H7 := Lib.hid H6
              clear hv H6
              go_wp2_with fail
              refine (same_calls _ _ xs xs _ HV.out (HIW.out.kp hk6 (by simp))).mono ?_
              rintro e w7 ⟨rfl, hk7⟩
              rw [decide_eq_true rfl]
              go_wp2_with fail
              go_ret
              exact ⟨rfl, (H7.out.kp hk7).base⟩
end Go.Proofs.Ytlnmpffpieofeaa

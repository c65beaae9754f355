/- stack: StackNobody, StackStores. -/
import Derived.Test.YtlnmpffpieofeaaStW
namespace Go.Proofs.Ytlnmpffpieofeaa
open Go.RowKit
set_option linter.unusedVariables false
set_option linter.unusedSimpArgs false
set_option maxRecDepth 100000 in
set_option maxHeartbeats 4000000 in
theorem law_StackNobody (x : Int) (w : World) : Calls Try.prog 7 #[.int .i64 x] w fun e w' => e = .returned (.bool true) ∧ Kp [] w w' := by
  go_enter Try.func7, Try.ntmps7
  go_wp2_with fail
  refine (pop_nil _).mono ?_; rintro e w1 ⟨rfl, rfl⟩
  go_wp2_with fail
  refine (lives_calls _).mono ?_; rintro e w1 ⟨rfl, hk1⟩
  go_wp2_with fail
  refine (push_nil _ _).mono ?_; rintro e w2 ⟨rfl, rfl⟩
  go_wp2_with fail
  refine (slen_nil _).mono ?_; rintro e w2 ⟨rfl, rfl⟩
  go_wp2_with fail
  refine (sall_nil _).mono ?_; rintro e w2 ⟨rfl, rfl⟩
  go_wp2_with fail
  refine (stake_nil _).mono ?_; rintro e w2 ⟨rfl, rfl⟩
  go_wp2_with fail
  refine (do_nil _ _).mono ?_; rintro e w2 ⟨rfl, rfl⟩
  go_wp2_with fail
  go_ret
  exact ⟨rfl, hk1⟩
theorem do_put (l st dr : List Int) (a b : Int) (i : Nat) (hi : b / 65536 = i) (h : i < 32) : doM 20 (l ++ [a, b]) st dr = (0, l, st.set i a, dr) := by
  rw [doM_at 20 _ _ st dr (.inr (by simp [isMov])) rfl]
  unfold stepM
  simp only [List.getD_cons_zero, List.getD_cons_succ]
  rw [if_neg (by simp [isNum]), if_neg (by decide), if_neg (by decide), if_neg (by decide), if_neg (by decide), if_neg (by decide), if_neg (by decide), if_pos trivial, if_pos (by omega), hi]; rfl
theorem do_get (l st dr : List Int) (a : Int) (i : Nat) (hi : a / 65536 = i) (h : i < 32) : doM 21 (l ++ [a]) st dr = (0, l ++ [st.getD i 0], st, dr) := by
  rw [doM_at 21 _ _ st dr (.inr (by simp [isMov])) rfl]
  unfold stepM
  simp only [List.getD_cons_zero]
  rw [if_neg (by simp [isNum]), if_neg (by decide), if_neg (by decide), if_neg (by decide), if_neg (by decide), if_neg (by decide), if_neg (by decide), if_neg (by decide), if_pos trivial, if_pos (by omega), hi]; rfl
theorem okM_set {l l' st : List Int} {i : Nat} {a : Int} (h : OkM l st) (ha : mayB a = true) (hl : l'.length ≤ 48) (hm : ∀ x ∈ l', mayB x = true) : OkM l' (st.set i a) :=
  ⟨hl, hm, by simp [h.2.2.1], fun y hy => by
    rcases List.mem_or_eq_of_mem_set hy with g | g
    · exact h.2.2.2 y g
    · subst g; exact ha⟩
theorem mems {P : Int → Prop} {a b : Int} (ha : P a) (hb : P b) : ∀ x ∈ [a, b], P x := by
  intro x hx; simp at hx; rcases hx with rfl | rfl
  · exact ha
  · exact hb
set_option maxRecDepth 100000 in
set_option maxHeartbeats 4000000 in
theorem law_StackStores (i k x y : Int) (w : World) : Calls Try.prog 5 #[.int .i64 i, .int .i64 k, .int .i64 x, .int .i64 y] w fun e w' => e = .returned (.bool true) ∧ Kp [] w w' := by
  by_cases hok : (0 ≤ i ∧ i ≤ 31) ∧ (0 ≤ k ∧ k ≤ 31) ∧ mayB x = true ∧ mayB y = true
  · obtain ⟨⟨i0, i1⟩, ⟨k0, k1⟩, hx, hy⟩ := hok
    have HX := Lib.hid hx
    have HY := Lib.hid hy
    clear hx hy
    have wi : IntKind.i64.wrap (i * 65536) = i * 65536 := by rw [IntKind.wrap_i64]; omega
    have wk : IntKind.i64.wrap (k * 65536) = k * 65536 := by rw [IntKind.wrap_i64]; omega
    have wk2 : IntKind.i64.wrap (k * 65536 + 40000) = k * 65536 + 40000 := by rw [IntKind.wrap_i64]; omega
    have i0' : ¬ i < 0 := by omega
    have i1' : ¬ 31 < i := by omega
    have k0' : ¬ k < 0 := by omega
    have k1' : ¬ 31 < k := by omega
    have MI : Hid (mayB (i * 65536) = true) := may_in ⟨by omega, by omega⟩
    have MK : Hid (mayB (k * 65536) = true) := may_in ⟨by omega, by omega⟩
    have MK2 : Hid (mayB (k * 65536 + 40000) = true) := may_in ⟨by omega, by omega⟩
    obtain ⟨ni, hni⟩ : ∃ n : Nat, i = n := ⟨i.toNat, by omega⟩
    obtain ⟨nk, hnk⟩ : ∃ n : Nat, k = n := ⟨k.toNat, by omega⟩
    have HNI : Hid (i = ni ∧ ni < 32) := ⟨hni, by omega⟩
    have HNK : Hid (k = nk ∧ nk < 32) := ⟨hnk, by omega⟩
    clear hni hnk i0 i1 k0 k1
    go_enter Try.func5, Try.ntmps5
    go_wp2_with fail
    refine (rmay_calls _ _).mono ?_; rintro e w1 ⟨rfl, rfl⟩
    rw [HX.out]
    go_wp2_with fail
    refine (rmay_calls _ _).mono ?_; rintro e w1 ⟨rfl, rfl⟩
    rw [HY.out]
    go_wp2_with fail
    refine (ofB w _ _ [] [x, i * 65536, y, k * 65536 + 40000] _ ((Kp.refl _ _).alloc _) (.inl ⟨⟨_, rfl⟩, rfl⟩) (by simp) (lit_ints _ _ [x, i * 65536, y, k * 65536 + 40000] _ _ rfl (by unfold maxLen; simp) (Kp.refl _ _)) (by intro z hz; simp at hz; rcases hz with rfl | rfl | rfl | rfl; exact HX.out; exact MI.out; exact HY.out; exact MK2.out) (by simp)).mono ?_
    rintro e w1 ⟨s, rfl, H1⟩
    go_wp2_with fail
    refine (lives_calls _).mono ?_; rintro e w2 ⟨rfl, hk2⟩
    have H2 := H1.kp hk2
    clear H1 hk2
    go_wp2_with fail
    have ok2 : Hid (OkM [x, i * 65536, y, k * 65536 + 40000] zeros32) := okM_lit _ (by simp) (by intro z hz; simp at hz; rcases hz with rfl | rfl | rfl | rfl; exact HX.out; exact MI.out; exact HY.out; exact MK2.out)
    refine (doB 20 H2 ok2.out _ _ _ _ (do_put [x, i * 65536] zeros32 [] y (k * 65536 + 40000) nk (by have := HNK.out; omega) HNK.out.2)).mono ?_
    rintro e w3 ⟨rfl, H3⟩
    clear H2
    go_wp2_with fail
    have ok3 : Hid (OkM [x, i * 65536] (zeros32.set nk y)) := okM_set ok2.out HY.out (by simp) (mems HX.out MI.out)
    refine (doB 20 H3 ok3.out _ _ _ _ (do_put [] _ [] x (i * 65536) ni (by have := HNI.out; omega) HNI.out.2)).mono ?_
    rintro e w4 ⟨rfl, H4⟩
    clear H3
    go_wp2_with fail
    have ok4 : Hid (OkM [k * 65536] ((zeros32.set nk y).set ni x)) := okM_set ok3.out HX.out (by simp) (by intro z hz; simp at hz; subst hz; exact MK.out)
    refine (pushB (k * 65536) MK.out H4 (by simp)).mono ?_
    rintro e w5 ⟨rfl, H5⟩
    clear H4
    go_wp2_with fail
    refine (doB 21 H5 ok4.out _ _ _ _ (do_get [] _ [] (k * 65536) nk (by have := HNK.out; omega) HNK.out.2)).mono ?_
    rintro e w6 ⟨rfl, H6⟩
    clear H5
    go_wp2_with fail
    have hst : Hid (((zeros32.set nk y).set ni x).getD ni 0 = x ∧ ((zeros32.set nk y).set ni x).getD nk 0 = if i = k then x else y) := by
      have h1 := HNI.out
      have h2 := HNK.out
      have hz : zeros32.length = 32 := by simp [zeros32]
      refine ⟨?_, ?_⟩
      · rw [List.getD_eq_getElem?_getD, List.getElem?_set_self (by simp [hz]; omega)]; rfl
      · rw [List.getD_eq_getElem?_getD]
        by_cases e : i = k
        · have e2 : ni = nk := by omega
          rw [if_pos e, e2, List.getElem?_set_self (by simp [hz]; omega)]; rfl
        · rw [if_neg e, List.getElem?_set_ne (by omega), List.getElem?_set_self (by simp [hz]; omega)]; rfl
    refine (pushB (i * 65536) MI.out H6 (by simp)).mono ?_
    rintro e w7 ⟨rfl, H7⟩
    clear H6
    go_wp2_with fail
    have ok7 : Hid (OkM ([] ++ [((zeros32.set nk y).set ni x).getD nk 0] ++ [i * 65536]) ((zeros32.set nk y).set ni x)) := ⟨by simp, by
      intro z hz; simp only [List.nil_append, List.singleton_append] at hz
      exact mems (P := fun z => mayB z = true) (mem_getD (i := nk) ok4.out.2.2.2) MI.out z hz, ok4.out.2.2⟩
    refine (doB 21 H7 ok7.out _ _ _ _ (do_get _ _ [] (i * 65536) ni (by have := HNI.out; omega) HNI.out.2)).mono ?_
    rintro e w8 ⟨rfl, H8⟩
    clear H7
    rw [hst.out.1, hst.out.2] at H8
    have H9 := Lib.hid H8
    clear H8
    by_cases e : i = k
    · have HE := Lib.hid e
      have H9 : Hid (SB w s [x, x] ((zeros32.set nk y).set ni x) [] w8) := by have := H9.out; rw [if_pos e] at this; exact this
      subst e
      clear hst
      go_wp2_with fail
      refine (allB H9.out (by simp)).mono ?_
      rintro e w9 ⟨v, rfl, hv, hk9, H10⟩
      have HV := Lib.hid hv
      clear hv
      go_wp2_with fail
      refine (same_calls _ _ [x, x] [x, x] _ (HV.out.kp ((Kp.refl [] _).alloc _) (by simp)) (lit_ints _ _ [x, x] _ _ rfl (by unfold maxLen; simp) (Kp.refl _ _))).mono ?_
      rintro e w10 ⟨rfl, hk10⟩
      rw [decide_eq_true (show ([x, x] : List Int) = [x, x] from rfl)]
      go_wp2_with fail
      go_ret
      exact ⟨rfl, (H10.kp (((Kp.refl [] _).alloc _).trans hk10)).base⟩
    · have HE := Lib.hid e
      go_wp2_with fail
      refine (allB H9.out (by simp)).mono ?_
      rintro e w9 ⟨v, rfl, hv, hk9, H10⟩
      have HV := Lib.hid hv
      clear hv
      go_wp2_with fail
      refine (same_calls _ _ ([] ++ [if i = k then x else y] ++ [x]) [y, x] _ (HV.out.kp ((Kp.refl [] _).alloc _) (by simp)) (lit_ints _ _ [y, x] _ _ rfl (by unfold maxLen; simp) (Kp.refl _ _))).mono ?_
      rintro e w10 ⟨rfl, hk10⟩
      rw [decide_eq_true (show ([] ++ [if i = k then x else y] ++ [x] : List Int) = [y, x] by rw [if_neg HE.out]; rfl)]
      go_wp2_with fail
      go_ret
      exact ⟨rfl, (H10.kp (((Kp.refl [] _).alloc _).trans hk10)).base⟩
  · have HC : Hid (¬ ((0 ≤ i ∧ i ≤ 31) ∧ (0 ≤ k ∧ k ≤ 31) ∧ mayB x = true ∧ mayB y = true)) := hok
    clear hok
    have fin : Hid (∀ W, Calls Try.prog 9 #[] W fun e w' => e = .returned (.bool true) ∧ Kp [] W w') := fun W => lives_calls W
    by_cases h1 : i < 0
    · go_enter Try.func5, Try.ntmps5
      go_wp2_with fail
      refine (fin.out _).mono ?_; rintro e w2 ⟨rfl, hk2⟩
      go_wp2_with fail
      go_ret
      exact ⟨rfl, hk2⟩
    by_cases h2 : 31 < i
    · go_enter Try.func5, Try.ntmps5
      go_wp2_with fail
      refine (fin.out _).mono ?_; rintro e w2 ⟨rfl, hk2⟩
      go_wp2_with fail
      go_ret
      exact ⟨rfl, hk2⟩
    by_cases h3 : k < 0
    · go_enter Try.func5, Try.ntmps5
      go_wp2_with fail
      refine (fin.out _).mono ?_; rintro e w2 ⟨rfl, hk2⟩
      go_wp2_with fail
      go_ret
      exact ⟨rfl, hk2⟩
    by_cases h4 : 31 < k
    · go_enter Try.func5, Try.ntmps5
      go_wp2_with fail
      refine (fin.out _).mono ?_; rintro e w2 ⟨rfl, hk2⟩
      go_wp2_with fail
      go_ret
      exact ⟨rfl, hk2⟩
    cases hx : mayB x
    · have HX := Lib.hid hx
      clear hx
      go_enter Try.func5, Try.ntmps5
      go_wp2_with fail
      refine (rmay_calls _ _).mono ?_; rintro e w1 ⟨rfl, rfl⟩
      rw [HX.out]
      go_wp2_with fail
      refine (fin.out _).mono ?_; rintro e w2 ⟨rfl, hk2⟩
      go_wp2_with fail
      go_ret
      exact ⟨rfl, hk2⟩
    cases hy : mayB y
    · have HX := Lib.hid hx
      have HY := Lib.hid hy
      clear hx hy
      go_enter Try.func5, Try.ntmps5
      go_wp2_with fail
      refine (rmay_calls _ _).mono ?_; rintro e w1 ⟨rfl, rfl⟩
      rw [HX.out]
      go_wp2_with fail
      refine (rmay_calls _ _).mono ?_; rintro e w1 ⟨rfl, rfl⟩
      rw [HY.out]
      go_wp2_with fail
      refine (fin.out _).mono ?_; rintro e w2 ⟨rfl, hk2⟩
      go_wp2_with fail
      go_ret
      exact ⟨rfl, hk2⟩
    · exact absurd ⟨⟨by omega, by omega⟩, ⟨by omega, by omega⟩, hx, hy⟩ HC.out
end Go.Proofs.Ytlnmpffpieofeaa

/- compose: Encode of the reference. -/
import Derived.Test.YtodjohoonbkklaaCpU
namespace Go.Proofs.Ytodjohoonbkklaa
open Go.RowKit
set_option linter.unusedVariables false
set_option linter.unusedSimpArgs false
def ReSt (w wx : World) (r : Nat) (acc : List Int) : Prop := RWt wx r 1048576 acc ∧ Kp [] w wx ∧ w.heap.size ≤ r
theorem ReSt.next {w a b : World} {r : Nat} {acc acc' : List Int} (h : ReSt w a r acc) (hr : RWt b r 1048576 acc') (hk : Kp [r] a b) : ReSt w b r acc' := ⟨hr, h.2.1.trans' hk (fun t ht => by simp at ht; subst ht; exact .inr h.2.2), h.2.2⟩
set_option maxRecDepth 100000 in
set_option maxHeartbeats 4000000 in
theorem rencode_calls (v : Value) (l : List Pt) (w : World) (hv : IsPts w v l) :
    Calls Try.prog 20 #[v] w fun e w' => ∃ v', e = .returned (.tuple #[v', .int .i64 (encM l).2]) ∧ IsInts .u8 w' v' (encM l).1 ∧ Kp [] w w' := by
  have hle := hv.le
  unfold maxLen at hle
  obtain ⟨pa, ca, rfl⟩ := hv.form
  have HV := Lib.hid hv
  clear hv
  obtain ⟨N, hN⟩ : ∃ N, l.length = N := ⟨_, rfl⟩
  have HN := Lib.hid hN
  rw [hN] at HV hle ⊢
  clear hN
  by_cases h0 : N = 0
  · have HE : Hid (encM l = ([], 1)) := by show _ = _; unfold encM; rw [if_pos (.inl (by rw [HN.out]; exact h0))]
    subst h0
    clear HV
    go_enter Try.func20, Try.ntmps20
    go_wp2_with fail
    go_ret2
    rw [HE.out]
    exact ⟨_, rfl, IsInts.nil _ _, by (repeat (first | exact Kp.refl _ _ | assumption | refine Kp.drew ?_ | refine Kp.drewN ?_ _ | refine Kp.alloc ?_ _ | (refine Kp.setCell ?_ (by first | (left; simp; done) | (right; simp; try omega)) _) | (refine Kp.trans' ?_ (by assumption) (by simp; try omega))))⟩
  have hN0 : 0 < N := by omega
  have hb0 : ((N : Int) == 0) = false := by simp; omega
  clear h0
  go_enter Try.func20, Try.ntmps20
  go_wp2_with fail
  go_loopw [4] (fun i wr => ∃ j : Nat, j ≤ N ∧ i = .int .i64 j ∧ Hid (preOk l j = true ∧ Kp [] w wr)) (fun i _ => N - (intOf i).toNat)
  case atStart => exact ⟨0, by omega, rfl, rfl, by (repeat (first | exact Kp.refl _ _ | assumption | refine Kp.drew ?_ | refine Kp.drewN ?_ _ | refine Kp.alloc ?_ _ | (refine Kp.setCell ?_ (by first | (left; simp; done) | (right; simp; try omega)) _) | (refine Kp.trans' ?_ (by assumption) (by simp; try omega))))⟩
  case round =>
    obtain ⟨j, hj, rfl, HJ⟩ := hrel
    by_cases hlt : j < N
    · obtain ⟨g1, o1, c1, e1, _, _, h1⟩ := (HV.out.kp HJ.out.2 (by simp)).rowJ (i := j) (by rw [HN.out]; exact hlt)
      rw [HN.out] at e1
      cases e1
      have HP := Lib.hid (preOk_next l j (by rw [HN.out]; exact hlt))
      have HP2 := Lib.hid (preOk_not l j (by rw [HN.out]; exact hlt))
      generalize l.getD j pt0 = p at *
      have h1_0 := h1 0 (.int .i64 p.g) rfl
      have h1_1 := h1 1 (.int .i64 p.xx) rfl
      have h1_2 := h1 2 (.int .i64 p.xy) rfl
      have h1_3 := h1 3 (.int .i64 p.yx) rfl
      have h1_4 := h1 4 (.int .i64 p.yy) rfl
      have h1_5 := h1 5 (.bool p.m) rfl
      have h1_6 := h1 6 (.int .i64 p.dx) rfl
      have h1_7 := h1 7 (.int .i64 p.dy) rfl
      have h1_8 := h1 8 (.bool p.t) rfl
      have h1_9 := h1 9 (.int .i64 p.pa) rfl
      have h1_10 := h1 10 (.int .i64 p.ch) rfl
      simp only [Nat.add_zero] at h1_0
      clear h1
      have HC : Hid (∀ W, Calls Try.prog 22 #[.agg #[.int .i64 p.g, .int .i64 p.xx, .int .i64 p.xy, .int .i64 p.yx, .int .i64 p.yy, .bool p.m, .int .i64 p.dx, .int .i64 p.dy, .bool p.t, .int .i64 p.pa, .int .i64 p.ch]] W fun e w' => e = .returned (.bool (mayPt p)) ∧ Kp [] W w') := fun W => rmay12_calls p W
      generalize mayPt p = X at *
      go_wp2_with fail
      refine (HC.out _).mono ?_; rintro e w2 ⟨rfl, hk2⟩
      have HK2 : Hid (Kp [] w w2) := HJ.out.2.trans hk2
      clear hk2 h1_0 h1_1 h1_2 h1_3 h1_4 h1_5 h1_6 h1_7 h1_8 h1_9 h1_10
      cases X
      · have HA := Lib.hid (HP2.out rfl)
        have HE : Hid (encM l = ([], 1)) := by show _ = _; unfold encM; rw [if_pos (.inr HA.out)]
        clear HP2
        go_wp2_with fail
        go_ret2
        rw [HE.out]
        exact ⟨_, rfl, IsInts.nil _ _, HK2.out⟩
      · have HB : Hid (preOk l (j + 1) = true) := by show _ = _; rw [HP.out, HJ.out.1]; rfl
        clear HP HP2
        go_wp2_with fail
        go_roundw
        case rel => first | exact ⟨j + 1, by omega, int_eq' (by omega), HB.out, HK2.out⟩ | ((repeat apply Exists.intro); exact ⟨⟨j + 1, by omega, int_eq' (by omega), HB.out, HK2.out⟩, rfl⟩)
        case measure => simp [intOf]; omega
    · obtain rfl : j = N := by omega
      have hA : l.all mayPt = true := by
        have := HJ.out.1; unfold preOk at this
        rwa [List.take_of_length_le (by rw [HN.out]; exact Nat.le_refl _)] at this
      have HA := Lib.hid (fun p hp => List.all_eq_true.1 hA p hp)
      by_cases h64 : 64 < j
      · have HE : Hid (encM l = ([], 120)) := by show _ = _; unfold encM; rw [if_neg (by rw [HN.out, hA]; simp; omega), if_pos (by rw [HN.out]; exact h64)]
        clear hA
        go_wp2_with fail
        go_ret2
        rw [HE.out]
        exact ⟨_, rfl, IsInts.nil _ _, HJ.out.2⟩
      have HE : Hid (encM l = (encH ++ encPre l j, 0)) := by show _ = _; unfold encM; rw [if_neg (by rw [HN.out, hA]; simp; omega), if_neg (by rw [HN.out]; exact h64), HN.out]
      clear hA
      have hmk := make8
      have hd64 : decide (64 < (j : Int)) = false := decide_eq_false (by omega)
      have HKJ : Hid (Kp [] w wr) := HJ.out.2
      have hszw : w.heap.size ≤ wr.heap.size := HJ.out.2.size
      clear HJ
      go_wp2_with fail
      have H0 : Hid (RWt (wr.alloc (.cells #[.slice none 0 0, .int .i64 1048576, .bool false] 89)) wr.heap.size 1048576 []) := RWt.made wr 1048576
      have HK1 : Hid (Kp [] w (wr.alloc (.cells #[.slice none 0 0, .int .i64 1048576, .bool false] 89))) := HKJ.out.trans (by (repeat (first | exact Kp.refl _ _ | assumption | refine Kp.drew ?_ | refine Kp.drewN ?_ _ | refine Kp.alloc ?_ _ | (refine Kp.setCell ?_ (by first | (left; simp; done) | (right; simp; try omega)) _) | (refine Kp.trans' ?_ (by assumption) (by simp; try omega)))))
      refine (rwu2_calls wr.heap.size 1048576 [] (-1) (by decide) (by decide) _ H0.out (by decide) (by decide)).mono ?_; rintro e w5 ⟨rfl, h5, hk5⟩
      have HS5 : Hid (ReSt w w5 wr.heap.size ([] ++ bytesN 2 (-1))) := ReSt.next (acc := []) ⟨H0.out, HK1.out, hszw⟩ h5 hk5
      clear h5 hk5 H0 HK1 HKJ
      have hr5 : wr.heap.size < w5.heap.size := HS5.out.1.lt
      generalize hr : wr.heap.size = r at *
      clear hr
      go_wp2_with fail
      refine (rdata_calls r 1048576 ([] ++ bytesN 2 (-1)) _ zer8 _ (HS5.out.1.kp0 (by (repeat (first | exact Kp.refl _ _ | assumption | refine Kp.drew ?_ | refine Kp.drewN ?_ _ | refine Kp.alloc ?_ _ | (refine Kp.setCell ?_ (by first | (left; simp; done) | (right; simp; try omega)) _) | (refine Kp.trans' ?_ (by assumption) (by simp; try omega)))))) (IsInts.lit .u8 5 zer8 (Kp.refl _ _) _ _ rfl rfl (by decide)) (by intro k hk; simp at hk; omega) (by simp [bytesN_length, zer8]) (by decide)).mono ?_; rintro e w6 ⟨rfl, h6, hk6⟩
      have HS6 : Hid (ReSt w w6 r encH) := ReSt.next (acc := [] ++ bytesN 2 (-1)) ⟨HS5.out.1.kp0 (by (repeat (first | exact Kp.refl _ _ | assumption | refine Kp.drew ?_ | refine Kp.drewN ?_ _ | refine Kp.alloc ?_ _ | (refine Kp.setCell ?_ (by first | (left; simp; done) | (right; simp; try omega)) _) | (refine Kp.trans' ?_ (by assumption) (by simp; try omega))))), HS5.out.2.1.trans (by (repeat (first | exact Kp.refl _ _ | assumption | refine Kp.drew ?_ | refine Kp.drewN ?_ _ | refine Kp.alloc ?_ _ | (refine Kp.setCell ?_ (by first | (left; simp; done) | (right; simp; try omega)) _) | (refine Kp.trans' ?_ (by assumption) (by simp; try omega))))), HS5.out.2.2⟩ h6 hk6
      clear h6 hk6 HS5 hr5 hmk
      go_wp2_with fail
      go_loopw [6] (fun i wq => ∃ q : Nat, q ≤ j ∧ i = .int .i64 q ∧ Hid (ReSt w wq r (encH ++ encPre l q))) (fun i _ => j - (intOf i).toNat)
      case atStart => exact ⟨0, by omega, rfl, by simpa [encPre] using HS6⟩
      case round =>
        obtain ⟨q, hq, rfl, HQ⟩ := hrel
        clear HS6
        by_cases hlt : q < j
        · obtain ⟨g1, o1, c1, e1, _, _, h1⟩ := (HV.out.kp HQ.out.2.1 (by simp)).rowJ (i := q) (by rw [HN.out]; exact hlt)
          rw [HN.out] at e1
          cases e1
          have hmay := HA.out (l.getD q pt0) (by rw [List.getD_eq_getElem?_getD, List.getElem?_eq_getElem (by rw [HN.out]; exact hlt)]; exact List.getElem_mem _)
          obtain ⟨G, hG⟩ : ∃ G, decide ((q : Int) + 1 < (j : Int)) = G := ⟨_, rfl⟩
          have hstep : Hid (encH ++ encPre l (q + 1) = encH ++ encPre l q ++ putM (l.getD q pt0) G) := by
            show _ = _
            have h2 : decide (q + 1 < j) = decide ((q : Int) + 1 < (j : Int)) := by apply decide_eq_decide.2; omega
            rw [show encPre l (q + 1) = encPre l q ++ putM (l.getD q pt0) (decide (q + 1 < l.length)) from rfl, HN.out, ← hG, h2, List.append_assoc]
          have hln : (encH ++ encPre l q).length ≤ 16 * q + 10 := by
            have := encPre_len l q; rw [List.length_append]; simp only [encH, List.length_cons, List.length_nil]; omega
          generalize encH ++ encPre l q = ac at *
          generalize l.getD q pt0 = p at *
          have HP : Hid (∀ W, RWt W r 1048576 ac → Calls Try.prog 68 #[.pointer (some ⟨r, 0, none⟩), .agg #[.int .i64 p.g, .int .i64 p.xx, .int .i64 p.xy, .int .i64 p.yx, .int .i64 p.yy, .bool p.m, .int .i64 p.dx, .int .i64 p.dy, .bool p.t, .int .i64 p.pa, .int .i64 p.ch], .bool G] W fun e w' => e = .returned (.tuple #[]) ∧ RWt w' r 1048576 (ac ++ putM p G) ∧ Kp [r] W w') :=
            fun W hW => rput_calls r 1048576 ac p G W hW hmay (by omega) (by decide)
          clear hmay
          have h1_0 := h1 0 (.int .i64 p.g) rfl
          have h1_1 := h1 1 (.int .i64 p.xx) rfl
          have h1_2 := h1 2 (.int .i64 p.xy) rfl
          have h1_3 := h1 3 (.int .i64 p.yx) rfl
          have h1_4 := h1 4 (.int .i64 p.yy) rfl
          have h1_5 := h1 5 (.bool p.m) rfl
          have h1_6 := h1 6 (.int .i64 p.dx) rfl
          have h1_7 := h1 7 (.int .i64 p.dy) rfl
          have h1_8 := h1 8 (.bool p.t) rfl
          have h1_9 := h1 9 (.int .i64 p.pa) rfl
          have h1_10 := h1 10 (.int .i64 p.ch) rfl
          simp only [Nat.add_zero] at h1_0
          clear h1
          go_wp2_with fail
          refine (HP.out _ HQ.out.1).mono ?_; rintro e w8 ⟨rfl, h8, hk8⟩
          have HS8 : Hid (ReSt w w8 r (encH ++ encPre l (q + 1))) := HQ.out.next (by rw [hstep.out]; exact h8) hk8
          clear h8 hk8 h1_0 h1_1 h1_2 h1_3 h1_4 h1_5 h1_6 h1_7 h1_8 h1_9 h1_10 hG
          go_wp2_with fail
          go_roundw
          case rel => first | exact ⟨q + 1, by omega, int_eq' (by omega), HS8⟩ | ((repeat apply Exists.intro); exact ⟨⟨q + 1, by omega, int_eq' (by omega), HS8⟩, rfl⟩)
          case measure => simp [intOf]; omega
        · obtain rfl : q = j := by omega
          obtain ⟨u, hu1, hu2, hu3⟩ := HQ.out.1
          have k0 : wr.cell? ⟨r, 0, none⟩ = some u := by rw [cell_of_row wr r 0 _ _ _ hu1]; rfl
          have HU := Lib.hid hu2
          obtain ⟨pu, cu, rfl⟩ : ∃ p c, u = .slice p (encH ++ encPre l q).length c := by
            rcases hu2 with ⟨⟨ad, rfl⟩, e⟩ | ⟨g, off, c, rfl, _⟩
            · exact ⟨_, 0, by rw [e]; rfl⟩
            · exact ⟨_, c, rfl⟩
          clear hu1 hu2 hu3
          generalize encH ++ encPre l q = R at *
          go_wp2_with fail
          go_ret2
          rw [HE.out]
          exact ⟨_, rfl, HU.out, HQ.out.2.1⟩
end Go.Proofs.Ytodjohoonbkklaa

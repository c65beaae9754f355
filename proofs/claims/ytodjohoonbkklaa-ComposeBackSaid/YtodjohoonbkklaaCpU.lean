/- compose: Encode. -/
import Derived.Test.YtodjohoonbkklaaCpT
namespace Go.Proofs.Ytodjohoonbkklaa
open Go.RowKit
set_option linter.unusedVariables false
set_option linter.unusedSimpArgs false
/-- The bytes of the first so many parts. -/
def encPre (l : List Pt) : Nat → List Int
  | 0 => []
  | j + 1 => encPre l j ++ putM (l.getD j pt0) (decide (j + 1 < l.length))
def encH : List Int := [255, 255, 0, 0, 0, 0, 0, 0, 0, 0]
/-- What Encode gives. -/
def encM (l : List Pt) : List Int × Int := if l.length = 0 ∨ l.all mayPt = false then ([], 1) else if 64 < l.length then ([], 120) else (encH ++ encPre l l.length, 0)
theorem encPre_len (l : List Pt) (j : Nat) : (encPre l j).length ≤ 16 * j := by
  induction j with
  | zero => simp [encPre]
  | succ j ih => unfold encPre; have := putM_len (l.getD j pt0) (decide (j + 1 < l.length)); rw [List.length_append]; omega
/-- Eight bytes that are made. -/
def zer8 : List Int := List.replicate 8 0
theorem make8 (W : World) : (Instr.makeSlice 22 (.int .i64 8) (.int .i64 8)).run Try.prog W = .ok (.slice (some ⟨W.heap.size, 0, none⟩) 8 8) (W.alloc (.cells (zer8.map (Value.int .u8)).toArray 5)) := by
  obtain ⟨i0, hi, hz0, hz1, hz2⟩ := info_parts infoByte
  have h := run_makeSlice (P := Try.prog) W 22 5 i0 (.int .u8 0) Try.underlying22 hi hz0 .i64 .i64 8 8 (by decide) (by decide) (by rw [hz1]; decide) (by rw [hz2]; decide) (by decide)
  rw [h, hz1]
  have hm : madeCells (Value.int .u8 0).cells ((8 : Int).toNat * 1) = (zer8.map (Value.int .u8)).toArray := by
    apply Array.toList_inj.1
    exact madeBytes 8
  rw [hm]; rfl
/-- Where the writer stands, and what it holds. -/
def EnSt (w1 wx : World) (r : Nat) (u : Value) (acc : List Int) : Prop := WSt wx r 4096 u acc ∧ Kp [] w1 wx ∧ w1.heap.size ≤ r
set_option maxRecDepth 100000 in
set_option maxHeartbeats 4000000 in
theorem encode_calls (v : Value) (l : List Pt) (w : World) (hv : IsPts w v l) :
    Calls Try.prog 19 #[v] w fun e w' => ∃ v', e = .returned (.tuple #[v', .int .i64 (encM l).2]) ∧ IsInts .u8 w' v' (encM l).1 ∧ Kp [] w w' ∧ ∀ b, blockOf v' = some b → w.heap.size ≤ b := by
  have hle := hv.le
  unfold maxLen at hle
  obtain ⟨pa, ca, rfl⟩ := hv.form
  have HV := Lib.hid hv
  have HC := Lib.hid (fun W hW => containsPt_calls _ l W (hv.kp (S := []) hW (by simp)))
  clear hv
  obtain ⟨N, hN⟩ : ∃ N, l.length = N := ⟨_, rfl⟩
  have HN := Lib.hid hN
  rw [hN] at HV HC hle ⊢
  clear hN
  by_cases h0 : N = 0
  · have HE : Hid (encM l = ([], 1)) := by show _ = _; unfold encM; rw [if_pos (.inl (by rw [HN.out]; exact h0))]
    subst h0
    clear HC HV
    go_enter Try.func19, Try.ntmps19
    go_wp2_with fail
    go_ret2
    rw [HE.out]
    exact ⟨_, rfl, IsInts.nil _ _, by (repeat (first | exact Kp.refl _ _ | assumption | refine Kp.drew ?_ | refine Kp.drewN ?_ _ | refine Kp.alloc ?_ _ | (refine Kp.setCell ?_ (by first | (left; simp; done) | (right; simp; try omega)) _) | (refine Kp.trans' ?_ (by assumption) (by simp; try omega)))), by simp⟩
  have hN0 : 0 < N := by omega
  cases hA : l.all mayPt
  · have HE : Hid (encM l = ([], 1)) := by show _ = _; unfold encM; rw [if_pos (.inr hA)]
    rw [hA] at HC
    clear hA h0
    go_enter Try.func19, Try.ntmps19
    go_wp2_with fail
    refine (HC.out _ (Kp.refl _ _)).mono ?_; rintro e w1 ⟨rfl, hk1⟩
    go_wp2_with fail
    go_ret2
    rw [HE.out]
    exact ⟨_, rfl, IsInts.nil _ _, by (repeat (first | exact Kp.refl _ _ | assumption | refine Kp.drew ?_ | refine Kp.drewN ?_ _ | refine Kp.alloc ?_ _ | (refine Kp.setCell ?_ (by first | (left; simp; done) | (right; simp; try omega)) _) | (refine Kp.trans' ?_ (by assumption) (by simp; try omega)))), by simp⟩
  have HA := Lib.hid (fun p hp => List.all_eq_true.1 hA p hp)
  rw [hA] at HC
  by_cases h64 : 64 < N
  · have HE : Hid (encM l = ([], 120)) := by show _ = _; unfold encM; rw [if_neg (by rw [HN.out, hA]; simp; omega), if_pos (by rw [HN.out]; exact h64)]
    clear hA h0
    go_enter Try.func19, Try.ntmps19
    go_wp2_with fail
    refine (HC.out _ (Kp.refl _ _)).mono ?_; rintro e w1 ⟨rfl, hk1⟩
    go_wp2_with fail
    go_ret2
    rw [HE.out]
    exact ⟨_, rfl, IsInts.nil _ _, by (repeat (first | exact Kp.refl _ _ | assumption | refine Kp.drew ?_ | refine Kp.drewN ?_ _ | refine Kp.alloc ?_ _ | (refine Kp.setCell ?_ (by first | (left; simp; done) | (right; simp; try omega)) _) | (refine Kp.trans' ?_ (by assumption) (by simp; try omega)))), by simp⟩
  have HE : Hid (encM l = (encH ++ encPre l N, 0)) := by show _ = _; unfold encM; rw [if_neg (by rw [HN.out, hA]; simp; omega), if_neg (by rw [HN.out]; exact h64), HN.out]
  have hb0 : ((N : Int) == 0) = false := by simp; omega
  have hb64 : decide (64 < (N : Int)) = false := decide_eq_false (by omega)
  clear hA h0
  go_enter Try.func19, Try.ntmps19
  go_wp2_with fail
  refine (HC.out _ (Kp.refl _ _)).mono ?_; rintro e w1 ⟨rfl, hk1⟩
  have HK := Lib.hid hk1
  have hsz : w.heap.size ≤ w1.heap.size := hk1.size
  clear hk1 HC
  have hmk := make8
  go_upto_region 5 with fail
  go_cut [4] (fun s4 wx => ∃ (r : Nat) (u : Value), s4 = .pointer (some ⟨r, 0, none⟩) ∧ EnSt w1 wx r u encH)
  case first =>
    go_region_with ((first
      | (go_at_call 61
         refine (to_calls 4096 (by decide) _).mono ?_
         rintro e w2 ⟨rfl, hs2, hk2⟩)
      | (go_at_call 62
         refine (wi16_calls _ 4096 (.slice none 0 0) [] (-1) (by decide) (by decide) _ (WSt.kp (S := []) (w := w2) (by first | exact hs2 | simpa using hs2) (by (repeat (first | exact Kp.refl _ _ | assumption | refine Kp.drew ?_ | refine Kp.drewN ?_ _ | refine Kp.alloc ?_ _ | (refine Kp.setCell ?_ (by first | (left; simp; done) | (right; simp; try omega)) _) | (refine Kp.trans' ?_ (by assumption) (by simp; try omega))))) (by simp) (by simp)) (by simp) (by decide)).mono ?_
         rintro e w3 ⟨rfl, v3, hs3, hk3⟩
         have hk3' := hk3.1
         simp only [Value.ownBlock, Option.toList] at hk3'
         have hA3 : Kp [] w1 w3 := hk3.kp0 (WSt.kp (S := []) (w := w2) (by first | exact hs2 | simpa using hs2) (by (repeat (first | exact Kp.refl _ _ | assumption | refine Kp.drew ?_ | refine Kp.drewN ?_ _ | refine Kp.alloc ?_ _ | (refine Kp.setCell ?_ (by first | (left; simp; done) | (right; simp; try omega)) _) | (refine Kp.trans' ?_ (by assumption) (by simp; try omega))))) (by simp) (by simp)) (by (repeat (first | exact Kp.refl _ _ | assumption | refine Kp.drew ?_ | refine Kp.drewN ?_ _ | refine Kp.alloc ?_ _ | (refine Kp.setCell ?_ (by first | (left; simp; done) | (right; simp; try omega)) _) | (refine Kp.trans' ?_ (by assumption) (by simp; try omega))))) (by simp))
      | (go_at_call 63
         refine (wdata_calls _ 4096 v3 ([] ++ bytesN 2 (-1)) _ zer8 _ (WSt.kp (S := []) (w := w3) hs3 (by (repeat (first | exact Kp.refl _ _ | assumption | refine Kp.drew ?_ | refine Kp.drewN ?_ _ | refine Kp.alloc ?_ _ | (refine Kp.setCell ?_ (by first | (left; simp; done) | (right; simp; try omega)) _) | (refine Kp.trans' ?_ (by assumption) (by simp; try omega))))) (by simp) (by simp)) (by first | exact IsInts.lit .u8 5 zer8 (Kp.refl _ _) _ _ (by simp) rfl (by decide) | exact (IsInts.lit .u8 5 zer8 (Kp.refl _ _) _ _ (by simp) rfl (by decide)).kp hk3' (by simp; try (have h1 := hs2.2.2; simp at h1; omega)) | exact (IsInts.lit .u8 5 zer8 (w := w1) (W := w2) (by (repeat (first | exact Kp.refl _ _ | assumption | refine Kp.drew ?_ | refine Kp.drewN ?_ _ | refine Kp.alloc ?_ _ | (refine Kp.setCell ?_ (by first | (left; simp; done) | (right; simp; try omega)) _) | (refine Kp.trans' ?_ (by assumption) (by simp; try omega))))) _ _ (by simp) rfl (by decide)).kp hk3' (by simp)) (by intro k hk; simp at hk; have h1 := hs2.2.2; have h2 := hs3.2.2; simp at h1 h2; omega) (by decide) (by simp [bytesN_length, zer8]) (by decide)).mono ?_
         rintro e w4 ⟨rfl, v4, hs4, hk4⟩
         have hA4 : Kp [] w1 w4 := hk4.kp0 (WSt.kp (S := []) (w := w3) hs3 (by (repeat (first | exact Kp.refl _ _ | assumption | refine Kp.drew ?_ | refine Kp.drewN ?_ _ | refine Kp.alloc ?_ _ | (refine Kp.setCell ?_ (by first | (left; simp; done) | (right; simp; try omega)) _) | (refine Kp.trans' ?_ (by assumption) (by simp; try omega))))) (by simp) (by simp)) (by (repeat (first | exact Kp.refl _ _ | assumption | refine Kp.drew ?_ | refine Kp.drewN ?_ _ | refine Kp.alloc ?_ _ | (refine Kp.setCell ?_ (by first | (left; simp; done) | (right; simp; try omega)) _) | (refine Kp.trans' ?_ (by assumption) (by simp; try omega))))) (by simp))))
    all_goals
      clear hk2 hk3 hk4 hs2 hs3 hk3' hA3
      have HS4 : Hid (EnSt w1 w4 _ v4 encH) := ⟨hs4, hA4, by simp⟩
      clear hs4 hA4
      go_wp2_with fail
      go_meet
      exact ⟨_, v4, rfl, HS4.out⟩
  obtain ⟨r, u, rfl, HS⟩ := hcut
  have HS0 : Hid (EnSt w1 wc r u encH) := HS
  have hrw : w.heap.size ≤ r := by have := HS.2.2; omega
  have hrc : r < wc.heap.size := HS.1.2.2
  have hNN : N ≤ 64 := by omega
  clear HS hmk
  go_wp2_with fail
  go_loopw [5, 6, 25] (fun _ _ i wr => ∃ (j : Nat) (u : Value), j ≤ N ∧ i = .int .i64 j ∧ Hid (EnSt w1 wr r u (encH ++ encPre l j))) (fun _ _ i _ => N - (intOf i).toNat)
  case atStart => exact ⟨0, u, by omega, rfl, by simpa [encPre] using HS0⟩
  case round =>
    obtain ⟨j, u, hj, rfl, HJ⟩ := hrel
    clear HS0
    by_cases hlt : j < N
    · obtain ⟨g1, o1, c1, e1, _, _, h1⟩ := (HV.out.kp (HK.out.trans HJ.out.2.1) (by simp)).rowJ (i := j) (by rw [HN.out]; exact hlt)
      rw [HN.out] at e1
      cases e1
      have hmay := HA.out (l.getD j pt0) (by rw [List.getD_eq_getElem?_getD, List.getElem?_eq_getElem (by rw [HN.out]; exact hlt)]; exact List.getElem_mem _)
      obtain ⟨G, hG⟩ : ∃ G, decide ((j : Int) < (N : Int) - 1) = G := ⟨_, rfl⟩
      have hstep : Hid (encH ++ encPre l (j + 1) = encH ++ encPre l j ++ putM (l.getD j pt0) G) := by
        show _ = _
        have h2 : decide (j + 1 < N) = decide ((j : Int) < (N : Int) - 1) := by apply decide_eq_decide.2; omega
        rw [show encPre l (j + 1) = encPre l j ++ putM (l.getD j pt0) (decide (j + 1 < l.length)) from rfl, HN.out, ← hG, h2, List.append_assoc]
      have hln : (encH ++ encPre l j).length ≤ 16 * j + 10 := by
        have := encPre_len l j; rw [List.length_append]; simp only [encH, List.length_cons, List.length_nil]; omega
      generalize encH ++ encPre l j = ac at *
      generalize l.getD j pt0 = p at *
      have HP : Hid (∀ W, WSt W r 4096 u ac → Calls Try.prog 64 #[.pointer (some ⟨r, 0, none⟩), .agg #[.int .i64 p.g, .int .i64 p.xx, .int .i64 p.xy, .int .i64 p.yx, .int .i64 p.yy, .bool p.m, .int .i64 p.dx, .int .i64 p.dy, .bool p.t, .int .i64 p.pa, .int .i64 p.ch], .bool G] W fun e w' => e = .returned (.tuple #[]) ∧ ∃ v', WSt w' r 4096 v' (ac ++ putM p G) ∧ WK W w' r u v') :=
        fun W hW => put_calls r 4096 u ac p G W hW hmay (by omega) (by decide)
      clear hmay
      have h1_0 := h1 0 (.int .i64 p.g) rfl
      have h1_1 := h1 1 (.int .i64 p.xx) rfl
      have h1_2 := h1 2 (.int .i64 p.xy) rfl
      have h1_3 := h1 3 (.int .i64 p.yx) rfl
      have h1_4 := h1 4 (.int .i64 p.yy) rfl
      have h1_5 := h1 5 (.bool p.m) rfl
      have h1_6 := h1 6 (.int .i64 p.dx) rfl
      have h1_7 := h1 7 (.int .i64 p.dy) rfl
      have h1_8 := h1 8 (.bool p.t) rfl
      have h1_9 := h1 9 (.int .i64 p.pa) rfl
      have h1_10 := h1 10 (.int .i64 p.ch) rfl
      simp only [Nat.add_zero] at h1_0
      clear h1
      go_wp2_with fail
      refine (HP.out _ (HJ.out.1.kp (S := []) (by (repeat (first | exact Kp.refl _ _ | assumption | refine Kp.drew ?_ | refine Kp.drewN ?_ _ | refine Kp.alloc ?_ _ | (refine Kp.setCell ?_ (by first | (left; simp; done) | (right; simp; try omega)) _) | (refine Kp.trans' ?_ (by assumption) (by simp; try omega))))) (by simp) (by simp))).mono ?_; rintro e w5 ⟨rfl, u5, hs5, hk5⟩
      have HS5 : Hid (EnSt w1 w5 r u5 (encH ++ encPre l (j + 1))) := ⟨by rw [hstep.out]; exact hs5, hk5.kp0 (HJ.out.1.kp (S := []) (by (repeat (first | exact Kp.refl _ _ | assumption | refine Kp.drew ?_ | refine Kp.drewN ?_ _ | refine Kp.alloc ?_ _ | (refine Kp.setCell ?_ (by first | (left; simp; done) | (right; simp; try omega)) _) | (refine Kp.trans' ?_ (by assumption) (by simp; try omega))))) (by simp) (by simp)) (HJ.out.2.1.trans (by (repeat (first | exact Kp.refl _ _ | assumption | refine Kp.drew ?_ | refine Kp.drewN ?_ _ | refine Kp.alloc ?_ _ | (refine Kp.setCell ?_ (by first | (left; simp; done) | (right; simp; try omega)) _) | (refine Kp.trans' ?_ (by assumption) (by simp; try omega)))))) HJ.out.2.2, HJ.out.2.2⟩
      clear hs5 hk5 h1_0 h1_1 h1_2 h1_3 h1_4 h1_5 h1_6 h1_7 h1_8 h1_9 h1_10 hG
      go_wp2_with fail
      go_roundw
      case rel => first | exact ⟨j + 1, u5, by omega, int_eq' (by omega), HS5⟩ | ((repeat apply Exists.intro); exact ⟨⟨j + 1, u5, by omega, int_eq' (by omega), HS5⟩, rfl⟩)
      case measure => simp [intOf]; omega
    · obtain rfl : j = N := by omega
      have hln : (encH ++ encPre l j).length ≤ 16 * j + 10 := by
        have := encPre_len l j; rw [List.length_append]; simp only [encH, List.length_cons, List.length_nil]; omega
      go_wp2_with fail
      refine (wdone_calls r 4096 u _ _ HJ.out.1 (by omega)).mono ?_; rintro e w6 ⟨v6, rfl, hi6, hk6, hb6⟩
      have HI6 := Lib.hid hi6
      have HB6 : Hid (∀ b, blockOf v6 = some b → w.heap.size ≤ b) := fun b hb => by have h1 := hb6 b hb; have h2 := HJ.out.2.1.size; omega
      have HK6 : Hid (Kp [] w w6) := HK.out.trans (HJ.out.2.1.trans hk6)
      clear hi6 hb6 hk6
      go_wp2_with fail
      go_ret2
      rw [HE.out]
      exact ⟨v6, rfl, HI6.out, HK6.out, HB6.out⟩
end Go.Proofs.Ytodjohoonbkklaa

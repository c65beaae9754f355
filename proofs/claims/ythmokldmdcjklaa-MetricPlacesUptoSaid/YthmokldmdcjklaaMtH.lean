/- metric.mayPlaces, metric.PutPlaces. -/
import Derived.Test.YthmokldmdcjklaaMtG
import Derived.Test.YthmokldmdcjklaaMtA
namespace Go.Proofs.Ythmokldmdcjklaa
open Go.RowKit
set_option linter.unusedVariables false
set_option linter.unusedSimpArgs false
set_option maxRecDepth 100000 in
theorem mayplaces_calls (v : Value) (l : List Int) (long : Bool) (w : World) (hv : IsInts .i64 w v l) (hl : l.length < 4611686018427387904) :
    Calls Try.prog 67 #[v, .bool long] w fun e w' => e = .returned (.bool (mayPl l long)) ∧ Kp [] w w' := by
  have HV : Hid (IsInts .i64 w v l) := hv
  obtain ⟨pa, ca, hva⟩ : ∃ p c, v = .slice p l.length c := by
    rcases hv with ⟨⟨ad, rfl⟩, rfl⟩ | ⟨g, off, c, rfl, _⟩
    · exact ⟨_, 0, rfl⟩
    · exact ⟨_, c, rfl⟩
  subst hva
  clear hv
  by_cases hc : 2 ≤ l.length ∧ l.length ≤ 65536
  · obtain ⟨hc1, hc2⟩ := hc
    have hka : Kp [] w (w.alloc (.cells #[.bool long] 4)) := (Kp.refl _ _).alloc _
    have hE : Hid (mayPl l long = (srt l && l.all (okPl long))) := by unfold Hid mayPl; rw [decide_eq_true hc1, decide_eq_true hc2]; rfl
    have hln : (l.length : Int) ≤ 100000 := by omega
    go_enter Try.func67, Try.ntmps67
    go_wp2_with fail
    refine (mcount_yes _ (by omega) (by omega) _).mono ?_; rintro e w' ⟨rfl, rfl⟩
    go_wp2_with fail
    refine (sorted_calls _ l _ (HV.out.kp hka (by simp))).mono ?_; rintro e w2 ⟨rfl, hk2⟩
    have hk02 := hka.trans hk2
    cases hs : srt l
    · have hE2 : Hid (mayPl l long = false) := by rw [Hid, hE.out, hs]; rfl
      clear hs
      go_wp2_with fail
      go_ret
      exact ⟨by rw [hE2.out]; rfl, hk02⟩
    · have hE2 : Hid (mayPl l long = l.all (okPl long)) := by rw [Hid, hE.out, hs]; rfl
      clear hs
      have hcb : w2.cell? ⟨w.heap.size, 0, none⟩ = some (.bool long) := hk2.cell (by go_simp) (by simp)
      have hcl := Lib.hid (containsFunc_calls 84 Try.call84 (.pointer (some ⟨w.heap.size, 0, none⟩)) (fun x => !okPl long x) _ l w2 (HV.out.kp hk02 (by simp)) (fun i _ wr hk => wrongp_calls long _ _ wr (hk.cell hcb (by simp))))
      have ha : Hid (l.any (fun x => !okPl long x) = !l.all (okPl long)) := by unfold Hid; rw [List.not_all_eq_any_not]
      go_wp2_with fail
      refine Calls.mono hcl.out ?_; rintro e w3 ⟨rfl, hk3⟩
      rw [ha.out]
      go_wp2_with fail
      go_ret
      exact ⟨by rw [hE2.out]; simp, hk02.trans hk3⟩
  · have hE : Hid (mayPl l long = false) := by
      unfold Hid mayPl
      by_cases h : 2 ≤ l.length
      · rw [decide_eq_false (show ¬ l.length ≤ 65536 by omega)]; simp
      · rw [decide_eq_false h]; rfl
    have hln : (l.length : Int) < 4611686018427387904 := by omega
    go_enter Try.func67, Try.ntmps67
    go_wp2_with fail
    refine (mcount_no _ (by omega) _).mono ?_; rintro e w' ⟨rfl, rfl⟩
    go_wp2_with fail
    go_ret
    exact ⟨by rw [hE.out]; rfl, by (repeat (first | exact Kp.refl _ _ | assumption | refine Kp.drew ?_ | refine Kp.drewN ?_ _ | refine Kp.alloc ?_ _ | (refine Kp.setCell ?_ (by first | (left; simp; done) | (right; simp; try omega)) _) | (refine Kp.trans' ?_ (by assumption) (by simp; try omega))))⟩
/-- The table of the first so many places. -/
def plPre (l : List Int) (long : Bool) : Nat → List Int
  | 0 => []
  | j + 1 => plPre l long j ++ if long then bytesN 4 (l.getD j 0) else bytesN 2 (l.getD j 0 / 2)
theorem plPre_len (l : List Int) (long : Bool) (j : Nat) : (plPre l long j).length = (if long then 4 else 2) * j := by
  induction j with
  | zero => simp [plPre]
  | succ j ih => unfold plPre; cases long <;> simp_all [bytesN_length] <;> omega
set_option maxRecDepth 100000 in
set_option maxHeartbeats 2000000 in
theorem putplaces_calls (v : Value) (l : List Int) (long : Bool) (w : World) (hm : mayPl l long = true) (hv : IsInts .i64 w v l) :
    Calls Try.prog 33 #[v, .bool long] w fun e w' => ∃ v', e = .returned (.tuple #[v', .int .i64 0]) ∧ IsInts .u8 w' v' (plPre l long l.length) ∧ Kp [] w w' ∧ ∀ b, blockOf v' = some b → w.heap.size ≤ b := by
  have HM : Hid _ := hm
  unfold mayPl at hm
  simp only [Bool.and_eq_true, decide_eq_true_eq] at hm
  obtain ⟨⟨⟨k1, k2⟩, k3⟩, k4⟩ := hm
  have HA : Hid (∀ x ∈ l, 0 ≤ x ∧ x ≤ 1048576) := by
    intro x hx
    have := List.all_eq_true.1 k4 x hx
    simp only [okPl, Bool.and_eq_true, decide_eq_true_eq] at this
    omega
  have hmp := Lib.hid (mayplaces_calls v l long w hv (by omega))
  have HV : Hid (IsInts .i64 w v l) := hv
  rcases hv with ⟨⟨ad, rfl⟩, rfl⟩ | ⟨g, off, c, rfl, p1, p2, p3⟩
  · simp at k1
  clear k3 k4 p3
  go_enter Try.func33, Try.ntmps33
  go_wp2_with fail
  refine Calls.mono hmp.out ?_; rintro e w1 ⟨rfl, hk1⟩
  rw [HM.out]
  clear hmp
  go_wp2_with fail
  refine (to_calls (4 * (l.length : Int)) (by omega) _).mono ?_; rintro e w2 ⟨rfl, hs2, hk2⟩
  have hk02 := hk1.trans hk2
  have hr0 : w.heap.size ≤ w1.heap.size := hk1.size
  clear hk1 hk2
  generalize hr : w1.heap.size = r at *
  go_wp2_with fail
  go_loopw [8, 19] (fun _ i wr => ∃ (j : Nat) (v' : Value), j ≤ l.length ∧ i = .int .i64 j ∧ WSt wr r (4 * (l.length : Int)) v' (plPre l long j) ∧ Kp [] w wr) (fun _ i _ => l.length - (intOf i).toNat)
  case atStart => exact ⟨0, _, by omega, rfl, hs2, hk02⟩
  case round =>
    obtain ⟨j, v', hj, rfl, hs, hk⟩ := hrel
    clear hs2 hk02
    have HS : Hid (WSt wr r (4 * (l.length : Int)) v' (plPre l long j)) := hs
    clear hs
    by_cases hlt : j < l.length
    · have hc1 : wr.cell? ⟨g, off + j, none⟩ = some (.int .i64 (l.getD j 0)) := by
        rcases HV.out.kp hk (by simp) with ⟨⟨ad, h⟩, h'⟩ | ⟨g1, o1, c1, h, _, _, h3⟩
        · exfalso; rw [h'] at hlt; simp at hlt
        · cases h; exact h3 j hlt
      have hgw : g < wr.heap.size := World.block_lt_of_cell? wr _ hc1
      have hb := HA.out (l.getD j 0) (by rw [List.getD_eq_getElem?_getD, List.getElem?_eq_getElem hlt]; exact List.getElem_mem _)
      obtain ⟨b1, b2⟩ := hb
      have hlen := plPre_len l long j
      have hpre : Hid (plPre l long (j + 1) = plPre l long j ++ if long then bytesN 4 (l.getD j 0) else bytesN 2 (l.getD j 0 / 2)) := rfl
      generalize l.getD j 0 = x at *
      cases long
      · have hroom : ((plPre l false j).length : Int) + 2 ≤ 4 * (l.length : Int) := by rw [hlen]; simp; omega
        generalize plPre l false j = acc at *
        have htd : Int.tdiv x 2 = x / 2 := Int.tdiv_eq_ediv_of_nonneg b1
        go_wp2_with fail
        refine (wu16_calls r _ v' acc (x / 2) (by omega) (by omega) _ HS.out (by omega) (by omega)).mono ?_
        rintro e w4 ⟨rfl, v4, hs4, hk4⟩
        have hk04 : Kp [] w w4 := hk4.kp0 HS.out hk hr0
        rw [show acc ++ bytesN 2 (x / 2) = plPre l false (j + 1) from hpre.out.symm] at hs4
        clear hk4 hc1
        go_wp2_with fail
        go_roundw
        case rel => first | exact ⟨j + 1, v4, by omega, int_eq' (by omega), hs4, hk04⟩ | ((repeat apply Exists.intro); exact ⟨⟨j + 1, v4, by omega, int_eq' (by omega), hs4, hk04⟩, rfl⟩)
        case measure => simp [intOf]; omega
      · have hroom : ((plPre l true j).length : Int) + 4 ≤ 4 * (l.length : Int) := by rw [hlen]; simp; omega
        generalize plPre l true j = acc at *
        go_wp2_with fail
        refine (wu32_calls r _ v' acc x (by omega) (by omega) _ HS.out (by omega) (by omega)).mono ?_
        rintro e w4 ⟨rfl, v4, hs4, hk4⟩
        have hk04 : Kp [] w w4 := hk4.kp0 HS.out hk hr0
        rw [show acc ++ bytesN 4 x = plPre l true (j + 1) from hpre.out.symm] at hs4
        clear hk4 hc1
        go_wp2_with fail
        go_roundw
        case rel => first | exact ⟨j + 1, v4, by omega, int_eq' (by omega), hs4, hk04⟩ | ((repeat apply Exists.intro); exact ⟨⟨j + 1, v4, by omega, int_eq' (by omega), hs4, hk04⟩, rfl⟩)
        case measure => simp [intOf]; omega
    · obtain rfl : j = l.length := by omega
      have hlen := plPre_len l long l.length
      go_wp2_with fail
      refine (wdone_calls r _ v' _ _ HS.out (by rw [hlen]; split <;> omega)).mono ?_
      rintro e w4 ⟨v4, rfl, hi4, hk4, hb4⟩
      have HI4 := Lib.hid hi4
      have HB4 := Lib.hid hb4
      clear hi4 hb4
      go_wp2_with fail
      go_ret2
      exact ⟨v4, rfl, HI4.out, hk.trans hk4, fun b hb => by have := HB4.out b hb; have := hk.size; omega⟩
theorem putplaces_no (v : Value) (l : List Int) (long : Bool) (w : World) (hm : mayPl l long = false) (hv : IsInts .i64 w v l) (hl : l.length < 4611686018427387904) :
    Calls Try.prog 33 #[v, .bool long] w fun e w' => e = .returned (.tuple #[.slice none 0 0, .int .i64 1]) ∧ Kp [] w w' := by
  have HM : Hid _ := hm
  have hmp := Lib.hid (mayplaces_calls v l long w hv hl)
  obtain ⟨pa, ca, hva⟩ : ∃ p c, v = .slice p l.length c := by
    rcases hv with ⟨⟨ad, rfl⟩, rfl⟩ | ⟨g, off, c, rfl, _⟩
    · exact ⟨_, 0, rfl⟩
    · exact ⟨_, c, rfl⟩
  subst hva
  clear hv hm hl
  go_enter Try.func33, Try.ntmps33
  go_wp2_with fail
  refine Calls.mono hmp.out ?_; rintro e w1 ⟨rfl, hk1⟩
  rw [HM.out]
  clear hmp
  go_wp2_with fail
  go_ret2
  exact ⟨rfl, hk1⟩
end Go.Proofs.Ythmokldmdcjklaa

/- The reference's Put. (Written by wip/charset/genrput.py.) -/
import Derived.Test.YthmokldmdcjklaaChX
import Derived.Test.YthmokldmdcjklaaWireD
import Derived.Test.YthmokldmdcjklaaChG
import Derived.BigQuiet
import Derived.Deep.QuietTactic
namespace Go.Proofs.Ythmokldmdcjklaa
open Go.RowKit
set_option linter.unusedVariables false
set_option linter.unusedSimpArgs false
theorem bytesN_2 (x : Int) : bytesN 2 x = by2 x := by simp [bytesN, by2]
/-- Where the reference's put stands in memory. -/
def RPutSt (w wr : World) (B : Nat) (v : Value) (l acc : List Int) (v5 : Value) : Prop :=
  IsInts .i64 wr v l ∧ wr.ownsRow B 5 1 v5 acc.length (acc.map (Value.int .u8)) ∧ Kp [] w wr ∧ w.heap.size = B ∧ ∀ b, blockOf v = some b → b < B
theorem RPutSt.kp {w wr w2 : World} {B : Nat} {v : Value} {l acc : List Int} {v5 : Value} (h : RPutSt w wr B v l acc v5) (hq : Kp [] wr w2) : RPutSt w w2 B v l acc v5 :=
  ⟨h.1.kp hq (by simp), hq.row h.2.1 (by simp), h.2.2.1.trans hq, h.2.2.2⟩
theorem RPutSt.app {w wr wq w2 : World} {B : Nat} {v : Value} {l acc news : List Int} {v5 v7 : Value} (h : RPutSt w wr B v l acc v5) (hq : Kp [] wr wq)
    (hown : w2.ownsRow B 5 1 v7 (acc.length + news.length) (acc.map (Value.int .u8) ++ news.map (Value.int .u8))) (hg : wq.grownBy w2 v5.ownBlock) : RPutSt w w2 B v l (acc ++ news) v7 := by
  obtain ⟨h1, h2, h3, h4, h5⟩ := h
  have hge := own_ge h2
  have hk : Kp [] w w2 := Kp.grown (h3.trans hq) hg (fun k hk => .inr (by have := hge k hk; omega))
  have hk2 : Kp (v5.ownBlock.toList) wr w2 := Kp.grown (hq.more (fun s hs => nomatch hs)) hg (fun k hk => .inl (by rw [hk]; simp))
  have hnot2 : ∀ s ∈ v5.ownBlock.toList, blockOf v ≠ some s := by
    intro s hs; cases hv : v5.ownBlock with
    | none => simp [hv] at hs
    | some b => simp [hv] at hs; subst hs; intro e; have := h5 _ e; have := hge _ hv; omega
  exact ⟨h1.kp hk2 hnot2, by simpa using hown, hk, h4, h5⟩
theorem RPutSt.base {w wr : World} {B : Nat} {v : Value} {l acc : List Int} {v5 : Value} (h : RPutSt w wr B v l acc v5) : B ≤ wr.heap.size := by have := h.2.2.1.size; have := h.2.2.2.1; omega
/-- What the reference's put hands back. -/
def RPutD (R : List Int) (w : World) (e : Ending) (w' : World) : Prop := ∃ v, e = .returned v ∧ IsInts .u8 w' v R ∧ Kp [] w w' ∧ ∀ b, blockOf v = some b → w.heap.size ≤ b
set_option maxRecDepth 100000 in
set_option maxHeartbeats 4000000 in
theorem rput_0 (v : Value) (l : List Int) (w : World) (hm : mayPut l 0 = true) (hz : IsInts .i64 w v l) (hv : ∀ b, blockOf v = some b → b < w.heap.size) :
    Calls Try.prog 20 #[v, .int .i64 0] w (RPutD (csPut l 0) w) := by
  obtain ⟨k1, k2, k3, k4, k5, k6⟩ := mayPut_true hm
  have HA : Hid (∀ c ∈ l, 0 ≤ c ∧ c ≤ 65535) := fun c hc => by have := List.all_eq_true.1 k4 c hc; simpa [inB] using this
  have HLN : Hid (l.length ≤ 65535) := k2
  have HV : Hid _ := hv
  have HAT : Hid (PutAt 0 (csPut l 0) [0] (l.drop 1)) := putAt_start l 0
  have hlt1 : ∃ N : Nat, l.length = N := ⟨_, rfl⟩
  rcases hz with ⟨⟨ad, rfl⟩, rfl⟩ | ⟨g, off, c, rfl, p1, p2, p3⟩
  · simp at k1
  have HZ : Hid (IsInts .i64 w (.slice (some ⟨g, off, none⟩) l.length c) l) := .inr ⟨g, off, c, rfl, p1, p2, p3⟩
  clear hm k2 k3 k4 k5 k6 hv p3 hlt1
  go_enter Try.func20, Try.ntmps20
  go_wp2_with fail
  generalize hB : w.heap.size = B at *
  go_loopw [5, 7, 8] (fun v5 i _ wr => ∃ (j : Nat) (acc : List Int), 1 ≤ j ∧ j ≤ l.length ∧ i = .int .i64 j ∧ RPutSt w wr B (.slice (some ⟨g, off, none⟩) l.length c) l acc v5 ∧ Hid (acc.length ≤ 4 * j) ∧ Hid (PutAt 0 (csPut l 0) acc (l.drop j))) (fun _ i _ _ => l.length - (intOf i).toNat)
  case atStart => exact ⟨1, [0], by omega, by omega, rfl, ⟨HZ.out.kp (S := []) (by (repeat (first | exact Kp.refl _ _ | assumption | refine Kp.drew ?_ | refine Kp.drewN ?_ _ | refine Kp.alloc ?_ _ | (refine Kp.setCell ?_ (by first | (left; simp; done) | (right; simp; try omega)) _) | (refine Kp.trans' ?_ (by assumption) (by simp; try omega))))) (by simp), own_lit w _ _ _ 1 1 #[.int .u8 0] hB.symm (by omega) (by decide) rfl, by (repeat (first | exact Kp.refl _ _ | assumption | refine Kp.drew ?_ | refine Kp.drewN ?_ _ | refine Kp.alloc ?_ _ | (refine Kp.setCell ?_ (by first | (left; simp; done) | (right; simp; try omega)) _) | (refine Kp.trans' ?_ (by assumption) (by simp; try omega)))), hB, fun b hb => HV.out b hb⟩, by simp [Hid], HAT.out⟩
  case round =>
    obtain ⟨j, acc, hj1, hj, rfl, hs, HL, HP⟩ := hrel
    obtain ⟨p5, c5, rfl⟩ := slice_own hs.2.1
    have HS : Hid (RPutSt w wr B (.slice (some ⟨g, off, none⟩) l.length c) l acc (.slice p5 acc.length c5)) := hs
    clear hs HAT HZ
    by_cases hlt : j < l.length
    · have HJ : Hid (l.drop j ≠ []) := by intro e; have := congrArg List.length e; simp at this; omega
      have hrun : Hid (runL 0 (l.drop j) = runGo (fun t => (l.drop j).getD t 0 == (l.drop j).getD 0 0 + t) 0 (l.length - j - 1) 1) := by unfold Hid runL; rw [List.length_drop]; rfl
      obtain ⟨y, hy⟩ : ∃ y, l.getD j 0 = y := ⟨_, rfl⟩
      have hy0 : (l.drop j).getD 0 0 = y := by rw [← hy, List.getD_eq_getElem?_getD, List.getElem?_drop, List.getD_eq_getElem?_getD, Nat.add_zero]
      have hyb : 0 ≤ y ∧ y ≤ 65535 := by rw [← hy]; exact HA.out _ (by rw [List.getD_eq_getElem?_getD, List.getElem?_eq_getElem hlt]; exact List.getElem_mem _)
      obtain ⟨hyb1, hyb2⟩ := hyb
      have HY : Hid _ := hy
      have HY0 : Hid _ := hy0
      have hcj : wr.cell? ⟨g, off + j, none⟩ = some (.int .i64 y) := by
        rcases HS.out.1 with ⟨⟨ad, h⟩, h'⟩ | ⟨g1, o1, c1, h, _, _, h3⟩
        · exfalso; rw [h'] at hlt; simp at hlt
        · cases h; rw [← hy]; exact h3 j hlt
      clear hy hy0
      go_wp2_with fail
      go_loopw [8] (fun m wi => ∃ t : Nat, m = .int .i64 t ∧ j + t < l.length ∧ RPutSt w wi B (.slice (some ⟨g, off, none⟩) l.length c) l acc (.slice p5 acc.length c5) ∧ Hid (runGo (fun t => (l.drop j).getD t 0 == (l.drop j).getD 0 0 + t) 0 (l.length - j - 1 - t) (1 + t) = runL 0 (l.drop j))) (fun m _ => l.length - (intOf m).toNat)
      case atStart => exact ⟨0, by simp, by omega, HS.out, by rw [Hid, hrun.out]; rfl⟩
      case round =>
        obtain ⟨t, rfl, ht, hs2, HR⟩ := hrel
        have HS2 : Hid (RPutSt w wr B (.slice (some ⟨g, off, none⟩) l.length c) l acc (.slice p5 acc.length c5)) := hs2
        clear hs2 HS hcj
        have hcj : wr.cell? ⟨g, off + j, none⟩ = some (.int .i64 y) := by
          rcases HS2.out.1 with ⟨⟨ad, h⟩, h'⟩ | ⟨g1, o1, c1, h, _, _, h3⟩
          · exfalso; rw [h'] at hlt; simp at hlt
          · cases h; rw [← HY.out]; exact h3 j hlt
        have hfin : Hid ((¬ (t : Int) < 0 ∨ ¬ j + t + 1 < l.length ∨ ¬ l.getD (j + t + 1) 0 = y + t + 1) → runL 0 (l.drop j) = t + 1) := by
          intro h
          rw [← HR.out]
          rcases Nat.lt_or_ge (j + t + 1) l.length with h2 | h2
          · rw [show l.length - j - 1 - t = (l.length - j - 1 - (t + 1)) + 1 by omega]
            unfold runGo; rw [if_neg]; omega
            rintro ⟨q1, q2⟩
            rw [HY0.out] at q2
            have e : (l.drop j).getD (1 + t) 0 = l.getD (j + t + 1) 0 := by rw [List.getD_eq_getElem?_getD, List.getElem?_drop, List.getD_eq_getElem?_getD, show j + (1 + t) = j + t + 1 by omega]
            rw [e] at q2
            have q3 := eq_of_beq q2
            rcases h with h | h | h
            · omega
            · omega
            · exact h (by rw [q3]; omega)
          · rw [show l.length - j - 1 - t = 0 by omega]; unfold runGo; omega
        have hgo : Hid ((t : Int) < 0 → j + t + 1 < l.length → l.getD (j + t + 1) 0 = y + t + 1 → runGo (fun t => (l.drop j).getD t 0 == (l.drop j).getD 0 0 + t) 0 (l.length - j - 1 - (t + 1)) (1 + (t + 1)) = runL 0 (l.drop j)) := by
          intro h h2 h3
          rw [← HR.out, show l.length - j - 1 - t = (l.length - j - 1 - (t + 1)) + 1 by omega]
          rw [show runGo (fun t => (l.drop j).getD t 0 == (l.drop j).getD 0 0 + t) 0 ((l.length - j - 1 - (t + 1)) + 1) (1 + t) = if ((1 + t : Nat) : Int) ≤ 0 ∧ ((fun t : Nat => (l.drop j).getD t 0 == (l.drop j).getD 0 0 + t) (1 + t)) = true then runGo (fun t => (l.drop j).getD t 0 == (l.drop j).getD 0 0 + t) 0 (l.length - j - 1 - (t + 1)) (1 + t + 1) else 1 + t from rfl]
          rw [if_pos]; rfl
          refine ⟨by omega, ?_⟩
          have e : (l.drop j).getD (1 + t) 0 = l.getD (j + t + 1) 0 := by rw [List.getD_eq_getElem?_getD, List.getElem?_drop, List.getD_eq_getElem?_getD, show j + (1 + t) = j + t + 1 by omega]
          show ((l.drop j).getD (1 + t) 0 == (l.drop j).getD 0 0 + ((1 + t : Nat) : Int)) = true
          rw [e, HY0.out, h3]; simp; omega
        clear HR
        have hjt : j + t ≤ 65535 := by have := HLN.out; omega
        by_cases q1 : (t : Int) < 0
        · by_cases q2 : j + t + 1 < l.length
          · obtain ⟨x, hx⟩ : ∃ x, l.getD (j + t + 1) 0 = x := ⟨_, rfl⟩
            have hcx : wr.cell? ⟨g, off + (j + t + 1), none⟩ = some (.int .i64 x) := by
              rcases HS2.out.1 with ⟨⟨ad, h⟩, h'⟩ | ⟨g1, o1, c1, h, _, _, h3⟩
              · exfalso; rw [h'] at hlt; simp at hlt
              · cases h; rw [← hx]; exact h3 _ q2
            rw [hx] at hfin hgo
            clear hx
            by_cases q3 : x = y + t + 1
            · have HGO : Hid _ := hgo.out q1 q2 q3
              clear hfin hgo
              have q1' : decide ((t : Int) < 0) = true := decide_eq_true q1
              have q2' : decide ((j : Int) + t + 1 < l.length) = true := by simp; omega
              subst q3
              go_wp2_with fail
              go_quiet (fail)
              go_wp2_with fail
              go_roundw
              case rel => first | exact ⟨t + 1, int_eq (by omega), by omega, HS2.out.kp (by (repeat (first | exact Kp.refl _ _ | assumption | refine Kp.drew ?_ | refine Kp.drewN ?_ _ | refine Kp.alloc ?_ _ | (refine Kp.setCell ?_ (by first | (left; simp; done) | (right; simp; try omega)) _) | (refine Kp.trans' ?_ (by assumption) (by simp; try omega))))), HGO.out⟩ | ((repeat apply Exists.intro); exact ⟨⟨t + 1, int_eq (by omega), by omega, HS2.out.kp (by (repeat (first | exact Kp.refl _ _ | assumption | refine Kp.drew ?_ | refine Kp.drewN ?_ _ | refine Kp.alloc ?_ _ | (refine Kp.setCell ?_ (by first | (left; simp; done) | (right; simp; try omega)) _) | (refine Kp.trans' ?_ (by assumption) (by simp; try omega))))), HGO.out⟩, rfl⟩)
              case measure => simp [intOf]; omega
            · have hrl : Hid _ := hfin.out (.inr (.inr q3))
              clear hfin hgo
              have q1' : decide ((t : Int) < 0) = true := decide_eq_true q1
              have q2' : decide ((j : Int) + t + 1 < l.length) = true := by simp; omega
              have q3' : (x == y + t + 1) = false := beq_eq_false_iff_ne.2 q3
              go_wp2_with fail
              go_quiet (fail)
              go_wp2_with fail
              refine (rbytes_calls 2 y (by decide) (by decide) (by omega) (by omega) _).mono ?_
              rintro e w3 ⟨v3, rfl, hown3, hk3⟩
              obtain ⟨p3, c3, rfl⟩ := slice_own hown3
              have HS3 : Hid (RPutSt w w3 B (.slice (some ⟨g, off, none⟩) l.length c) l acc (.slice p5 acc.length c5)) := HS2.out.kp (Kp.trans (by (repeat (first | exact Kp.refl _ _ | assumption | refine Kp.drew ?_ | refine Kp.drewN ?_ _ | refine Kp.alloc ?_ _ | (refine Kp.setCell ?_ (by first | (left; simp; done) | (right; simp; try omega)) _) | (refine Kp.trans' ?_ (by assumption) (by simp; try omega))))) hk3)
              have HN3 : Hid _ := Reads.owned hown3
              clear hown3
              go_wp2_with (at_builtin; refine wpList_app rfl _ _ 22 rfl B 5 (.int .u8 0) 1 1 Try.underlying22 infoByte rfl (by decide) (by decide) (.slice p5 acc.length c5) acc.length (acc.map (Value.int .u8)) rfl ?hown (.slice p3 2 c3) 2 ((bytesN 2 y).map (Value.int .u8)) rfl ?hsrc (oneCell_ints _ _) ?hb1 ?hb2 ?hk)
              case hown => exact HS3.out.2.1
              case hsrc => exact HN3.out
              case hb1 => have := HL.out; have := HS3.out.base; have := HLN.out; omega
              case hb2 => have := HL.out; have := HS3.out.base; have := HLN.out; omega
              case hk =>
                intro v6 w4 hown4 hgr4
                have HS4 : Hid (RPutSt w w4 B (.slice (some ⟨g, off, none⟩) l.length c) l (acc ++ bytesN 2 y) v6) := HS3.out.app (Kp.refl _ _) (by rw [bytesN_length]; exact hown4) hgr4
                have HL4 : Hid ((acc ++ bytesN 2 y).length ≤ 4 * j + 2) := by have := HL.out; unfold Hid; rw [List.length_append, bytesN_length]; omega
                clear hown4 hgr4 HS3 HN3
                have HP2 := HP.out
                have HP3 := putAt_step _ _ _ _ HP2 HJ.out
                rw [hrl.out, HY0.out, List.drop_drop] at HP3
                have HPN : Hid (PutAt 0 (csPut l 0) (acc ++ bytesN 2 y) (l.drop (j + t + 1))) := by
                  rw [Hid, bytesN_2, show j + t + 1 = j + (t + 1) by omega]; simp [moreB] at HP3; exact HP3
                clear HP2 HP3
                go_wp2_with fail
                go_roundw
                case rel => exact ⟨j + t + 1, _, by omega, by omega, int_eq (by omega), HS4.out, by have := HL4.out; unfold Hid; omega, HPN.out⟩
                case measure => simp [intOf]; omega
          · have hrl : Hid _ := hfin.out (.inr (.inl q2))
            clear hfin hgo
            have q1' : decide ((t : Int) < 0) = true := decide_eq_true q1
            have q2' : decide ((j : Int) + t + 1 < l.length) = false := by simp; omega
            go_wp2_with fail
            go_quiet (fail)
            go_wp2_with fail
            refine (rbytes_calls 2 y (by decide) (by decide) (by omega) (by omega) _).mono ?_
            rintro e w3 ⟨v3, rfl, hown3, hk3⟩
            obtain ⟨p3, c3, rfl⟩ := slice_own hown3
            have HS3 : Hid (RPutSt w w3 B (.slice (some ⟨g, off, none⟩) l.length c) l acc (.slice p5 acc.length c5)) := HS2.out.kp (Kp.trans (by (repeat (first | exact Kp.refl _ _ | assumption | refine Kp.drew ?_ | refine Kp.drewN ?_ _ | refine Kp.alloc ?_ _ | (refine Kp.setCell ?_ (by first | (left; simp; done) | (right; simp; try omega)) _) | (refine Kp.trans' ?_ (by assumption) (by simp; try omega))))) hk3)
            have HN3 : Hid _ := Reads.owned hown3
            clear hown3
            go_wp2_with (at_builtin; refine wpList_app rfl _ _ 22 rfl B 5 (.int .u8 0) 1 1 Try.underlying22 infoByte rfl (by decide) (by decide) (.slice p5 acc.length c5) acc.length (acc.map (Value.int .u8)) rfl ?hown (.slice p3 2 c3) 2 ((bytesN 2 y).map (Value.int .u8)) rfl ?hsrc (oneCell_ints _ _) ?hb1 ?hb2 ?hk)
            case hown => exact HS3.out.2.1
            case hsrc => exact HN3.out
            case hb1 => have := HL.out; have := HS3.out.base; have := HLN.out; omega
            case hb2 => have := HL.out; have := HS3.out.base; have := HLN.out; omega
            case hk =>
              intro v6 w4 hown4 hgr4
              have HS4 : Hid (RPutSt w w4 B (.slice (some ⟨g, off, none⟩) l.length c) l (acc ++ bytesN 2 y) v6) := HS3.out.app (Kp.refl _ _) (by rw [bytesN_length]; exact hown4) hgr4
              have HL4 : Hid ((acc ++ bytesN 2 y).length ≤ 4 * j + 2) := by have := HL.out; unfold Hid; rw [List.length_append, bytesN_length]; omega
              clear hown4 hgr4 HS3 HN3
              have HP2 := HP.out
              have HP3 := putAt_step _ _ _ _ HP2 HJ.out
              rw [hrl.out, HY0.out, List.drop_drop] at HP3
              have HPN : Hid (PutAt 0 (csPut l 0) (acc ++ bytesN 2 y) (l.drop (j + t + 1))) := by
                rw [Hid, bytesN_2, show j + t + 1 = j + (t + 1) by omega]; simp [moreB] at HP3; exact HP3
              clear HP2 HP3
              go_wp2_with fail
              go_roundw
              case rel => exact ⟨j + t + 1, _, by omega, by omega, int_eq (by omega), HS4.out, by have := HL4.out; unfold Hid; omega, HPN.out⟩
              case measure => simp [intOf]; omega
        · have hrl : Hid _ := hfin.out (.inl q1)
          clear hfin hgo
          have q1' : decide ((t : Int) < 0) = false := decide_eq_false q1
          go_wp2_with fail
          go_quiet (fail)
          go_wp2_with fail
          refine (rbytes_calls 2 y (by decide) (by decide) (by omega) (by omega) _).mono ?_
          rintro e w3 ⟨v3, rfl, hown3, hk3⟩
          obtain ⟨p3, c3, rfl⟩ := slice_own hown3
          have HS3 : Hid (RPutSt w w3 B (.slice (some ⟨g, off, none⟩) l.length c) l acc (.slice p5 acc.length c5)) := HS2.out.kp (Kp.trans (by (repeat (first | exact Kp.refl _ _ | assumption | refine Kp.drew ?_ | refine Kp.drewN ?_ _ | refine Kp.alloc ?_ _ | (refine Kp.setCell ?_ (by first | (left; simp; done) | (right; simp; try omega)) _) | (refine Kp.trans' ?_ (by assumption) (by simp; try omega))))) hk3)
          have HN3 : Hid _ := Reads.owned hown3
          clear hown3
          go_wp2_with (at_builtin; refine wpList_app rfl _ _ 22 rfl B 5 (.int .u8 0) 1 1 Try.underlying22 infoByte rfl (by decide) (by decide) (.slice p5 acc.length c5) acc.length (acc.map (Value.int .u8)) rfl ?hown (.slice p3 2 c3) 2 ((bytesN 2 y).map (Value.int .u8)) rfl ?hsrc (oneCell_ints _ _) ?hb1 ?hb2 ?hk)
          case hown => exact HS3.out.2.1
          case hsrc => exact HN3.out
          case hb1 => have := HL.out; have := HS3.out.base; have := HLN.out; omega
          case hb2 => have := HL.out; have := HS3.out.base; have := HLN.out; omega
          case hk =>
            intro v6 w4 hown4 hgr4
            have HS4 : Hid (RPutSt w w4 B (.slice (some ⟨g, off, none⟩) l.length c) l (acc ++ bytesN 2 y) v6) := HS3.out.app (Kp.refl _ _) (by rw [bytesN_length]; exact hown4) hgr4
            have HL4 : Hid ((acc ++ bytesN 2 y).length ≤ 4 * j + 2) := by have := HL.out; unfold Hid; rw [List.length_append, bytesN_length]; omega
            clear hown4 hgr4 HS3 HN3
            have HP2 := HP.out
            have HP3 := putAt_step _ _ _ _ HP2 HJ.out
            rw [hrl.out, HY0.out, List.drop_drop] at HP3
            have HPN : Hid (PutAt 0 (csPut l 0) (acc ++ bytesN 2 y) (l.drop (j + t + 1))) := by
              rw [Hid, bytesN_2, show j + t + 1 = j + (t + 1) by omega]; simp [moreB] at HP3; exact HP3
            clear HP2 HP3
            go_wp2_with fail
            go_roundw
            case rel => exact ⟨j + t + 1, _, by omega, by omega, int_eq (by omega), HS4.out, by have := HL4.out; unfold Hid; omega, HPN.out⟩
            case measure => simp [intOf]; omega
    · have hR : Hid (csPut l 0 = acc) := by
        have h := HP.out
        rw [List.drop_eq_nil_of_le (by omega)] at h
        exact putAt_end _ _ _ h
      go_wp2_with fail
      go_ret
      exact ⟨_, rfl, by rw [hR.out]; exact IsInts.owned HS.out.2.1, HS.out.2.2.1, fun b hb => by have := own_geb HS.out.2.1 b hb; omega⟩
set_option maxRecDepth 100000 in
set_option maxHeartbeats 4000000 in
theorem rput_1 (v : Value) (l : List Int) (w : World) (hm : mayPut l 1 = true) (hz : IsInts .i64 w v l) (hv : ∀ b, blockOf v = some b → b < w.heap.size) :
    Calls Try.prog 20 #[v, .int .i64 1] w (RPutD (csPut l 1) w) := by
  obtain ⟨k1, k2, k3, k4, k5, k6⟩ := mayPut_true hm
  have HA : Hid (∀ c ∈ l, 0 ≤ c ∧ c ≤ 65535) := fun c hc => by have := List.all_eq_true.1 k4 c hc; simpa [inB] using this
  have HLN : Hid (l.length ≤ 65535) := k2
  have HV : Hid _ := hv
  have HAT : Hid (PutAt 1 (csPut l 1) [1] (l.drop 1)) := putAt_start l 1
  have hlt1 : ∃ N : Nat, l.length = N := ⟨_, rfl⟩
  rcases hz with ⟨⟨ad, rfl⟩, rfl⟩ | ⟨g, off, c, rfl, p1, p2, p3⟩
  · simp at k1
  have HZ : Hid (IsInts .i64 w (.slice (some ⟨g, off, none⟩) l.length c) l) := .inr ⟨g, off, c, rfl, p1, p2, p3⟩
  clear hm k2 k3 k4 k5 k6 hv p3 hlt1
  go_enter Try.func20, Try.ntmps20
  go_wp2_with fail
  generalize hB : w.heap.size = B at *
  go_loopw [5, 7, 8] (fun v5 i _ wr => ∃ (j : Nat) (acc : List Int), 1 ≤ j ∧ j ≤ l.length ∧ i = .int .i64 j ∧ RPutSt w wr B (.slice (some ⟨g, off, none⟩) l.length c) l acc v5 ∧ Hid (acc.length ≤ 4 * j) ∧ Hid (PutAt 1 (csPut l 1) acc (l.drop j))) (fun _ i _ _ => l.length - (intOf i).toNat)
  case atStart => exact ⟨1, [1], by omega, by omega, rfl, ⟨HZ.out.kp (S := []) (by (repeat (first | exact Kp.refl _ _ | assumption | refine Kp.drew ?_ | refine Kp.drewN ?_ _ | refine Kp.alloc ?_ _ | (refine Kp.setCell ?_ (by first | (left; simp; done) | (right; simp; try omega)) _) | (refine Kp.trans' ?_ (by assumption) (by simp; try omega))))) (by simp), own_lit w _ _ _ 1 1 #[.int .u8 1] hB.symm (by omega) (by decide) rfl, by (repeat (first | exact Kp.refl _ _ | assumption | refine Kp.drew ?_ | refine Kp.drewN ?_ _ | refine Kp.alloc ?_ _ | (refine Kp.setCell ?_ (by first | (left; simp; done) | (right; simp; try omega)) _) | (refine Kp.trans' ?_ (by assumption) (by simp; try omega)))), hB, fun b hb => HV.out b hb⟩, by simp [Hid], HAT.out⟩
  case round =>
    obtain ⟨j, acc, hj1, hj, rfl, hs, HL, HP⟩ := hrel
    obtain ⟨p5, c5, rfl⟩ := slice_own hs.2.1
    have HS : Hid (RPutSt w wr B (.slice (some ⟨g, off, none⟩) l.length c) l acc (.slice p5 acc.length c5)) := hs
    clear hs HAT HZ
    by_cases hlt : j < l.length
    · have HJ : Hid (l.drop j ≠ []) := by intro e; have := congrArg List.length e; simp at this; omega
      have hrun : Hid (runL 1 (l.drop j) = runGo (fun t => (l.drop j).getD t 0 == (l.drop j).getD 0 0 + t) 255 (l.length - j - 1) 1) := by unfold Hid runL; rw [List.length_drop]; rfl
      obtain ⟨y, hy⟩ : ∃ y, l.getD j 0 = y := ⟨_, rfl⟩
      have hy0 : (l.drop j).getD 0 0 = y := by rw [← hy, List.getD_eq_getElem?_getD, List.getElem?_drop, List.getD_eq_getElem?_getD, Nat.add_zero]
      have hyb : 0 ≤ y ∧ y ≤ 65535 := by rw [← hy]; exact HA.out _ (by rw [List.getD_eq_getElem?_getD, List.getElem?_eq_getElem hlt]; exact List.getElem_mem _)
      obtain ⟨hyb1, hyb2⟩ := hyb
      have HY : Hid _ := hy
      have HY0 : Hid _ := hy0
      have hcj : wr.cell? ⟨g, off + j, none⟩ = some (.int .i64 y) := by
        rcases HS.out.1 with ⟨⟨ad, h⟩, h'⟩ | ⟨g1, o1, c1, h, _, _, h3⟩
        · exfalso; rw [h'] at hlt; simp at hlt
        · cases h; rw [← hy]; exact h3 j hlt
      clear hy hy0
      go_wp2_with fail
      go_loopw [8] (fun m wi => ∃ t : Nat, m = .int .i64 t ∧ j + t < l.length ∧ RPutSt w wi B (.slice (some ⟨g, off, none⟩) l.length c) l acc (.slice p5 acc.length c5) ∧ Hid (runGo (fun t => (l.drop j).getD t 0 == (l.drop j).getD 0 0 + t) 255 (l.length - j - 1 - t) (1 + t) = runL 1 (l.drop j))) (fun m _ => l.length - (intOf m).toNat)
      case atStart => exact ⟨0, by simp, by omega, HS.out, by rw [Hid, hrun.out]; rfl⟩
      case round =>
        obtain ⟨t, rfl, ht, hs2, HR⟩ := hrel
        have HS2 : Hid (RPutSt w wr B (.slice (some ⟨g, off, none⟩) l.length c) l acc (.slice p5 acc.length c5)) := hs2
        clear hs2 HS hcj
        have hcj : wr.cell? ⟨g, off + j, none⟩ = some (.int .i64 y) := by
          rcases HS2.out.1 with ⟨⟨ad, h⟩, h'⟩ | ⟨g1, o1, c1, h, _, _, h3⟩
          · exfalso; rw [h'] at hlt; simp at hlt
          · cases h; rw [← HY.out]; exact h3 j hlt
        have hfin : Hid ((¬ (t : Int) < 255 ∨ ¬ j + t + 1 < l.length ∨ ¬ l.getD (j + t + 1) 0 = y + t + 1) → runL 1 (l.drop j) = t + 1) := by
          intro h
          rw [← HR.out]
          rcases Nat.lt_or_ge (j + t + 1) l.length with h2 | h2
          · rw [show l.length - j - 1 - t = (l.length - j - 1 - (t + 1)) + 1 by omega]
            unfold runGo; rw [if_neg]; omega
            rintro ⟨q1, q2⟩
            rw [HY0.out] at q2
            have e : (l.drop j).getD (1 + t) 0 = l.getD (j + t + 1) 0 := by rw [List.getD_eq_getElem?_getD, List.getElem?_drop, List.getD_eq_getElem?_getD, show j + (1 + t) = j + t + 1 by omega]
            rw [e] at q2
            have q3 := eq_of_beq q2
            rcases h with h | h | h
            · omega
            · omega
            · exact h (by rw [q3]; omega)
          · rw [show l.length - j - 1 - t = 0 by omega]; unfold runGo; omega
        have hgo : Hid ((t : Int) < 255 → j + t + 1 < l.length → l.getD (j + t + 1) 0 = y + t + 1 → runGo (fun t => (l.drop j).getD t 0 == (l.drop j).getD 0 0 + t) 255 (l.length - j - 1 - (t + 1)) (1 + (t + 1)) = runL 1 (l.drop j)) := by
          intro h h2 h3
          rw [← HR.out, show l.length - j - 1 - t = (l.length - j - 1 - (t + 1)) + 1 by omega]
          rw [show runGo (fun t => (l.drop j).getD t 0 == (l.drop j).getD 0 0 + t) 255 ((l.length - j - 1 - (t + 1)) + 1) (1 + t) = if ((1 + t : Nat) : Int) ≤ 255 ∧ ((fun t : Nat => (l.drop j).getD t 0 == (l.drop j).getD 0 0 + t) (1 + t)) = true then runGo (fun t => (l.drop j).getD t 0 == (l.drop j).getD 0 0 + t) 255 (l.length - j - 1 - (t + 1)) (1 + t + 1) else 1 + t from rfl]
          rw [if_pos]; rfl
          refine ⟨by omega, ?_⟩
          have e : (l.drop j).getD (1 + t) 0 = l.getD (j + t + 1) 0 := by rw [List.getD_eq_getElem?_getD, List.getElem?_drop, List.getD_eq_getElem?_getD, show j + (1 + t) = j + t + 1 by omega]
          show ((l.drop j).getD (1 + t) 0 == (l.drop j).getD 0 0 + ((1 + t : Nat) : Int)) = true
          rw [e, HY0.out, h3]; simp; omega
        clear HR
        have hjt : j + t ≤ 65535 := by have := HLN.out; omega
        by_cases q1 : (t : Int) < 255
        · by_cases q2 : j + t + 1 < l.length
          · obtain ⟨x, hx⟩ : ∃ x, l.getD (j + t + 1) 0 = x := ⟨_, rfl⟩
            have hcx : wr.cell? ⟨g, off + (j + t + 1), none⟩ = some (.int .i64 x) := by
              rcases HS2.out.1 with ⟨⟨ad, h⟩, h'⟩ | ⟨g1, o1, c1, h, _, _, h3⟩
              · exfalso; rw [h'] at hlt; simp at hlt
              · cases h; rw [← hx]; exact h3 _ q2
            rw [hx] at hfin hgo
            clear hx
            by_cases q3 : x = y + t + 1
            · have HGO : Hid _ := hgo.out q1 q2 q3
              clear hfin hgo
              have q1' : decide ((t : Int) < 255) = true := decide_eq_true q1
              have q2' : decide ((j : Int) + t + 1 < l.length) = true := by simp; omega
              subst q3
              go_wp2_with fail
              go_quiet (fail)
              go_wp2_with fail
              go_roundw
              case rel => first | exact ⟨t + 1, int_eq (by omega), by omega, HS2.out.kp (by (repeat (first | exact Kp.refl _ _ | assumption | refine Kp.drew ?_ | refine Kp.drewN ?_ _ | refine Kp.alloc ?_ _ | (refine Kp.setCell ?_ (by first | (left; simp; done) | (right; simp; try omega)) _) | (refine Kp.trans' ?_ (by assumption) (by simp; try omega))))), HGO.out⟩ | ((repeat apply Exists.intro); exact ⟨⟨t + 1, int_eq (by omega), by omega, HS2.out.kp (by (repeat (first | exact Kp.refl _ _ | assumption | refine Kp.drew ?_ | refine Kp.drewN ?_ _ | refine Kp.alloc ?_ _ | (refine Kp.setCell ?_ (by first | (left; simp; done) | (right; simp; try omega)) _) | (refine Kp.trans' ?_ (by assumption) (by simp; try omega))))), HGO.out⟩, rfl⟩)
              case measure => simp [intOf]; omega
            · have hrl : Hid _ := hfin.out (.inr (.inr q3))
              clear hfin hgo
              have q1' : decide ((t : Int) < 255) = true := decide_eq_true q1
              have q2' : decide ((j : Int) + t + 1 < l.length) = true := by simp; omega
              have q3' : (x == y + t + 1) = false := beq_eq_false_iff_ne.2 q3
              go_wp2_with fail
              go_quiet (fail)
              go_wp2_with fail
              refine (rbytes_calls 2 y (by decide) (by decide) (by omega) (by omega) _).mono ?_
              rintro e w3 ⟨v3, rfl, hown3, hk3⟩
              obtain ⟨p3, c3, rfl⟩ := slice_own hown3
              have HS3 : Hid (RPutSt w w3 B (.slice (some ⟨g, off, none⟩) l.length c) l acc (.slice p5 acc.length c5)) := HS2.out.kp (Kp.trans (by (repeat (first | exact Kp.refl _ _ | assumption | refine Kp.drew ?_ | refine Kp.drewN ?_ _ | refine Kp.alloc ?_ _ | (refine Kp.setCell ?_ (by first | (left; simp; done) | (right; simp; try omega)) _) | (refine Kp.trans' ?_ (by assumption) (by simp; try omega))))) hk3)
              have HN3 : Hid _ := Reads.owned hown3
              clear hown3
              go_wp2_with (at_builtin; refine wpList_app rfl _ _ 22 rfl B 5 (.int .u8 0) 1 1 Try.underlying22 infoByte rfl (by decide) (by decide) (.slice p5 acc.length c5) acc.length (acc.map (Value.int .u8)) rfl ?hown (.slice p3 2 c3) 2 ((bytesN 2 y).map (Value.int .u8)) rfl ?hsrc (oneCell_ints _ _) ?hb1 ?hb2 ?hk)
              case hown => exact HS3.out.2.1
              case hsrc => exact HN3.out
              case hb1 => have := HL.out; have := HS3.out.base; have := HLN.out; omega
              case hb2 => have := HL.out; have := HS3.out.base; have := HLN.out; omega
              case hk =>
                intro v6 w4 hown4 hgr4
                have HS4 : Hid (RPutSt w w4 B (.slice (some ⟨g, off, none⟩) l.length c) l (acc ++ bytesN 2 y) v6) := HS3.out.app (Kp.refl _ _) (by rw [bytesN_length]; exact hown4) hgr4
                have HL4 : Hid ((acc ++ bytesN 2 y).length ≤ 4 * j + 2) := by have := HL.out; unfold Hid; rw [List.length_append, bytesN_length]; omega
                clear hown4 hgr4 HS3 HN3
                obtain ⟨p6, c6, hv6⟩ := slice_own HS4.out.2.1
                subst hv6
                have hmr : moreB 1 (t + 1) = bytesN 1 t := by simp [moreB, bytesN]
                have HMR : Hid _ := hmr
                clear hmr
                go_wp2_with fail
                refine (rbytes_calls 1 t (by decide) (by decide) (by omega) (by omega) _).mono ?_
                rintro e w5 ⟨v5, rfl, hown5, hk5⟩
                obtain ⟨p7, c7, rfl⟩ := slice_own hown5
                have HS5 : Hid (RPutSt w w5 B (.slice (some ⟨g, off, none⟩) l.length c) l (acc ++ bytesN 2 y) (.slice p6 (acc ++ bytesN 2 y).length c6)) := HS4.out.kp hk5
                have HN5 : Hid _ := Reads.owned hown5
                clear hown5
                generalize hA2 : acc ++ bytesN 2 y = acc2 at *
                have HA2 : Hid _ := hA2
                clear hA2
                go_wp2_with (at_builtin; refine wpList_app rfl _ _ 22 rfl B 5 (.int .u8 0) 1 1 Try.underlying22 infoByte rfl (by decide) (by decide) (.slice p6 acc2.length c6) acc2.length (acc2.map (Value.int .u8)) rfl ?hown (.slice p7 1 c7) 1 ((bytesN 1 t).map (Value.int .u8)) rfl ?hsrc (oneCell_ints _ _) ?hb1 ?hb2 ?hk)
                case hown => exact HS5.out.2.1
                case hsrc => exact HN5.out
                case hb1 => have := HL4.out; have := HS5.out.base; have := HLN.out; omega
                case hb2 => have := HL4.out; have := HS5.out.base; have := HLN.out; omega
                case hk =>
                  intro v8 w6 hown6 hgr6
                  have HS6 : Hid (RPutSt w w6 B (.slice (some ⟨g, off, none⟩) l.length c) l (acc2 ++ bytesN 1 t) v8) := HS5.out.app (Kp.refl _ _) (by rw [bytesN_length]; exact hown6) hgr6
                  have HL6 : Hid ((acc2 ++ bytesN 1 t).length ≤ 4 * j + 4) := by have := HL4.out; unfold Hid; rw [List.length_append, bytesN_length]; omega
                  clear hown6 hgr6 HS5 HN5
                  have HP2 := HP.out
                  have HP3 := putAt_step _ _ _ _ HP2 HJ.out
                  rw [hrl.out, HY0.out, List.drop_drop, HMR.out, ← bytesN_2, HA2.out] at HP3
                  have HPN : Hid (PutAt 1 (csPut l 1) (acc2 ++ bytesN 1 t) (l.drop (j + t + 1))) := by
                    rw [Hid, show j + t + 1 = j + (t + 1) by omega]; exact HP3
                  clear HP2 HP3
                  go_wp2_with fail
                  go_roundw
                  case rel => first | exact ⟨j + t + 1, _, by omega, by omega, int_eq (by omega), HS6.out, by have := HL6.out; unfold Hid; omega, HPN.out⟩ | ((repeat apply Exists.intro); exact ⟨⟨j + t + 1, _, by omega, by omega, int_eq (by omega), HS6.out, by have := HL6.out; unfold Hid; omega, HPN.out⟩, rfl⟩)
                  case measure => simp [intOf]; omega
          · have hrl : Hid _ := hfin.out (.inr (.inl q2))
            clear hfin hgo
            have q1' : decide ((t : Int) < 255) = true := decide_eq_true q1
            have q2' : decide ((j : Int) + t + 1 < l.length) = false := by simp; omega
            go_wp2_with fail
            go_quiet (fail)
            go_wp2_with fail
            refine (rbytes_calls 2 y (by decide) (by decide) (by omega) (by omega) _).mono ?_
            rintro e w3 ⟨v3, rfl, hown3, hk3⟩
            obtain ⟨p3, c3, rfl⟩ := slice_own hown3
            have HS3 : Hid (RPutSt w w3 B (.slice (some ⟨g, off, none⟩) l.length c) l acc (.slice p5 acc.length c5)) := HS2.out.kp (Kp.trans (by (repeat (first | exact Kp.refl _ _ | assumption | refine Kp.drew ?_ | refine Kp.drewN ?_ _ | refine Kp.alloc ?_ _ | (refine Kp.setCell ?_ (by first | (left; simp; done) | (right; simp; try omega)) _) | (refine Kp.trans' ?_ (by assumption) (by simp; try omega))))) hk3)
            have HN3 : Hid _ := Reads.owned hown3
            clear hown3
            go_wp2_with (at_builtin; refine wpList_app rfl _ _ 22 rfl B 5 (.int .u8 0) 1 1 Try.underlying22 infoByte rfl (by decide) (by decide) (.slice p5 acc.length c5) acc.length (acc.map (Value.int .u8)) rfl ?hown (.slice p3 2 c3) 2 ((bytesN 2 y).map (Value.int .u8)) rfl ?hsrc (oneCell_ints _ _) ?hb1 ?hb2 ?hk)
            case hown => exact HS3.out.2.1
            case hsrc => exact HN3.out
            case hb1 => have := HL.out; have := HS3.out.base; have := HLN.out; omega
            case hb2 => have := HL.out; have := HS3.out.base; have := HLN.out; omega
            case hk =>
              intro v6 w4 hown4 hgr4
              have HS4 : Hid (RPutSt w w4 B (.slice (some ⟨g, off, none⟩) l.length c) l (acc ++ bytesN 2 y) v6) := HS3.out.app (Kp.refl _ _) (by rw [bytesN_length]; exact hown4) hgr4
              have HL4 : Hid ((acc ++ bytesN 2 y).length ≤ 4 * j + 2) := by have := HL.out; unfold Hid; rw [List.length_append, bytesN_length]; omega
              clear hown4 hgr4 HS3 HN3
              obtain ⟨p6, c6, hv6⟩ := slice_own HS4.out.2.1
              subst hv6
              have hmr : moreB 1 (t + 1) = bytesN 1 t := by simp [moreB, bytesN]
              have HMR : Hid _ := hmr
              clear hmr
              go_wp2_with fail
              refine (rbytes_calls 1 t (by decide) (by decide) (by omega) (by omega) _).mono ?_
              rintro e w5 ⟨v5, rfl, hown5, hk5⟩
              obtain ⟨p7, c7, rfl⟩ := slice_own hown5
              have HS5 : Hid (RPutSt w w5 B (.slice (some ⟨g, off, none⟩) l.length c) l (acc ++ bytesN 2 y) (.slice p6 (acc ++ bytesN 2 y).length c6)) := HS4.out.kp hk5
              have HN5 : Hid _ := Reads.owned hown5
              clear hown5
              generalize hA2 : acc ++ bytesN 2 y = acc2 at *
              have HA2 : Hid _ := hA2
              clear hA2
              go_wp2_with (at_builtin; refine wpList_app rfl _ _ 22 rfl B 5 (.int .u8 0) 1 1 Try.underlying22 infoByte rfl (by decide) (by decide) (.slice p6 acc2.length c6) acc2.length (acc2.map (Value.int .u8)) rfl ?hown (.slice p7 1 c7) 1 ((bytesN 1 t).map (Value.int .u8)) rfl ?hsrc (oneCell_ints _ _) ?hb1 ?hb2 ?hk)
              case hown => exact HS5.out.2.1
              case hsrc => exact HN5.out
              case hb1 => have := HL4.out; have := HS5.out.base; have := HLN.out; omega
              case hb2 => have := HL4.out; have := HS5.out.base; have := HLN.out; omega
              case hk =>
                intro v8 w6 hown6 hgr6
                have HS6 : Hid (RPutSt w w6 B (.slice (some ⟨g, off, none⟩) l.length c) l (acc2 ++ bytesN 1 t) v8) := HS5.out.app (Kp.refl _ _) (by rw [bytesN_length]; exact hown6) hgr6
                have HL6 : Hid ((acc2 ++ bytesN 1 t).length ≤ 4 * j + 4) := by have := HL4.out; unfold Hid; rw [List.length_append, bytesN_length]; omega
                clear hown6 hgr6 HS5 HN5
                have HP2 := HP.out
                have HP3 := putAt_step _ _ _ _ HP2 HJ.out
                rw [hrl.out, HY0.out, List.drop_drop, HMR.out, ← bytesN_2, HA2.out] at HP3
                have HPN : Hid (PutAt 1 (csPut l 1) (acc2 ++ bytesN 1 t) (l.drop (j + t + 1))) := by
                  rw [Hid, show j + t + 1 = j + (t + 1) by omega]; exact HP3
                clear HP2 HP3
                go_wp2_with fail
                go_roundw
                case rel => first | exact ⟨j + t + 1, _, by omega, by omega, int_eq (by omega), HS6.out, by have := HL6.out; unfold Hid; omega, HPN.out⟩ | ((repeat apply Exists.intro); exact ⟨⟨j + t + 1, _, by omega, by omega, int_eq (by omega), HS6.out, by have := HL6.out; unfold Hid; omega, HPN.out⟩, rfl⟩)
                case measure => simp [intOf]; omega
        · have hrl : Hid _ := hfin.out (.inl q1)
          clear hfin hgo
          have q1' : decide ((t : Int) < 255) = false := decide_eq_false q1
          go_wp2_with fail
          go_quiet (fail)
          go_wp2_with fail
          refine (rbytes_calls 2 y (by decide) (by decide) (by omega) (by omega) _).mono ?_
          rintro e w3 ⟨v3, rfl, hown3, hk3⟩
          obtain ⟨p3, c3, rfl⟩ := slice_own hown3
          have HS3 : Hid (RPutSt w w3 B (.slice (some ⟨g, off, none⟩) l.length c) l acc (.slice p5 acc.length c5)) := HS2.out.kp (Kp.trans (by (repeat (first | exact Kp.refl _ _ | assumption | refine Kp.drew ?_ | refine Kp.drewN ?_ _ | refine Kp.alloc ?_ _ | (refine Kp.setCell ?_ (by first | (left; simp; done) | (right; simp; try omega)) _) | (refine Kp.trans' ?_ (by assumption) (by simp; try omega))))) hk3)
          have HN3 : Hid _ := Reads.owned hown3
          clear hown3
          go_wp2_with (at_builtin; refine wpList_app rfl _ _ 22 rfl B 5 (.int .u8 0) 1 1 Try.underlying22 infoByte rfl (by decide) (by decide) (.slice p5 acc.length c5) acc.length (acc.map (Value.int .u8)) rfl ?hown (.slice p3 2 c3) 2 ((bytesN 2 y).map (Value.int .u8)) rfl ?hsrc (oneCell_ints _ _) ?hb1 ?hb2 ?hk)
          case hown => exact HS3.out.2.1
          case hsrc => exact HN3.out
          case hb1 => have := HL.out; have := HS3.out.base; have := HLN.out; omega
          case hb2 => have := HL.out; have := HS3.out.base; have := HLN.out; omega
          case hk =>
            intro v6 w4 hown4 hgr4
            have HS4 : Hid (RPutSt w w4 B (.slice (some ⟨g, off, none⟩) l.length c) l (acc ++ bytesN 2 y) v6) := HS3.out.app (Kp.refl _ _) (by rw [bytesN_length]; exact hown4) hgr4
            have HL4 : Hid ((acc ++ bytesN 2 y).length ≤ 4 * j + 2) := by have := HL.out; unfold Hid; rw [List.length_append, bytesN_length]; omega
            clear hown4 hgr4 HS3 HN3
            obtain ⟨p6, c6, hv6⟩ := slice_own HS4.out.2.1
            subst hv6
            have hmr : moreB 1 (t + 1) = bytesN 1 t := by simp [moreB, bytesN]
            have HMR : Hid _ := hmr
            clear hmr
            go_wp2_with fail
            refine (rbytes_calls 1 t (by decide) (by decide) (by omega) (by omega) _).mono ?_
            rintro e w5 ⟨v5, rfl, hown5, hk5⟩
            obtain ⟨p7, c7, rfl⟩ := slice_own hown5
            have HS5 : Hid (RPutSt w w5 B (.slice (some ⟨g, off, none⟩) l.length c) l (acc ++ bytesN 2 y) (.slice p6 (acc ++ bytesN 2 y).length c6)) := HS4.out.kp hk5
            have HN5 : Hid _ := Reads.owned hown5
            clear hown5
            generalize hA2 : acc ++ bytesN 2 y = acc2 at *
            have HA2 : Hid _ := hA2
            clear hA2
            go_wp2_with (at_builtin; refine wpList_app rfl _ _ 22 rfl B 5 (.int .u8 0) 1 1 Try.underlying22 infoByte rfl (by decide) (by decide) (.slice p6 acc2.length c6) acc2.length (acc2.map (Value.int .u8)) rfl ?hown (.slice p7 1 c7) 1 ((bytesN 1 t).map (Value.int .u8)) rfl ?hsrc (oneCell_ints _ _) ?hb1 ?hb2 ?hk)
            case hown => exact HS5.out.2.1
            case hsrc => exact HN5.out
            case hb1 => have := HL4.out; have := HS5.out.base; have := HLN.out; omega
            case hb2 => have := HL4.out; have := HS5.out.base; have := HLN.out; omega
            case hk =>
              intro v8 w6 hown6 hgr6
              have HS6 : Hid (RPutSt w w6 B (.slice (some ⟨g, off, none⟩) l.length c) l (acc2 ++ bytesN 1 t) v8) := HS5.out.app (Kp.refl _ _) (by rw [bytesN_length]; exact hown6) hgr6
              have HL6 : Hid ((acc2 ++ bytesN 1 t).length ≤ 4 * j + 4) := by have := HL4.out; unfold Hid; rw [List.length_append, bytesN_length]; omega
              clear hown6 hgr6 HS5 HN5
              have HP2 := HP.out
              have HP3 := putAt_step _ _ _ _ HP2 HJ.out
              rw [hrl.out, HY0.out, List.drop_drop, HMR.out, ← bytesN_2, HA2.out] at HP3
              have HPN : Hid (PutAt 1 (csPut l 1) (acc2 ++ bytesN 1 t) (l.drop (j + t + 1))) := by
                rw [Hid, show j + t + 1 = j + (t + 1) by omega]; exact HP3
              clear HP2 HP3
              go_wp2_with fail
              go_roundw
              case rel => first | exact ⟨j + t + 1, _, by omega, by omega, int_eq (by omega), HS6.out, by have := HL6.out; unfold Hid; omega, HPN.out⟩ | ((repeat apply Exists.intro); exact ⟨⟨j + t + 1, _, by omega, by omega, int_eq (by omega), HS6.out, by have := HL6.out; unfold Hid; omega, HPN.out⟩, rfl⟩)
              case measure => simp [intOf]; omega
    · have hR : Hid (csPut l 1 = acc) := by
        have h := HP.out
        rw [List.drop_eq_nil_of_le (by omega)] at h
        exact putAt_end _ _ _ h
      go_wp2_with fail
      go_ret
      exact ⟨_, rfl, by rw [hR.out]; exact IsInts.owned HS.out.2.1, HS.out.2.2.1, fun b hb => by have := own_geb HS.out.2.1 b hb; omega⟩
set_option maxRecDepth 100000 in
set_option maxHeartbeats 4000000 in
theorem rput_2 (v : Value) (l : List Int) (w : World) (hm : mayPut l 2 = true) (hz : IsInts .i64 w v l) (hv : ∀ b, blockOf v = some b → b < w.heap.size) :
    Calls Try.prog 20 #[v, .int .i64 2] w (RPutD (csPut l 2) w) := by
  obtain ⟨k1, k2, k3, k4, k5, k6⟩ := mayPut_true hm
  have HA : Hid (∀ c ∈ l, 0 ≤ c ∧ c ≤ 65535) := fun c hc => by have := List.all_eq_true.1 k4 c hc; simpa [inB] using this
  have HLN : Hid (l.length ≤ 65535) := k2
  have HV : Hid _ := hv
  have HAT : Hid (PutAt 2 (csPut l 2) [2] (l.drop 1)) := putAt_start l 2
  have hlt1 : ∃ N : Nat, l.length = N := ⟨_, rfl⟩
  rcases hz with ⟨⟨ad, rfl⟩, rfl⟩ | ⟨g, off, c, rfl, p1, p2, p3⟩
  · simp at k1
  have HZ : Hid (IsInts .i64 w (.slice (some ⟨g, off, none⟩) l.length c) l) := .inr ⟨g, off, c, rfl, p1, p2, p3⟩
  clear hm k2 k3 k4 k5 k6 hv p3 hlt1
  go_enter Try.func20, Try.ntmps20
  go_wp2_with fail
  generalize hB : w.heap.size = B at *
  go_loopw [5, 7, 8] (fun v5 i _ wr => ∃ (j : Nat) (acc : List Int), 1 ≤ j ∧ j ≤ l.length ∧ i = .int .i64 j ∧ RPutSt w wr B (.slice (some ⟨g, off, none⟩) l.length c) l acc v5 ∧ Hid (acc.length ≤ 4 * j) ∧ Hid (PutAt 2 (csPut l 2) acc (l.drop j))) (fun _ i _ _ => l.length - (intOf i).toNat)
  case atStart => exact ⟨1, [2], by omega, by omega, rfl, ⟨HZ.out.kp (S := []) (by (repeat (first | exact Kp.refl _ _ | assumption | refine Kp.drew ?_ | refine Kp.drewN ?_ _ | refine Kp.alloc ?_ _ | (refine Kp.setCell ?_ (by first | (left; simp; done) | (right; simp; try omega)) _) | (refine Kp.trans' ?_ (by assumption) (by simp; try omega))))) (by simp), own_lit w _ _ _ 1 1 #[.int .u8 2] hB.symm (by omega) (by decide) rfl, by (repeat (first | exact Kp.refl _ _ | assumption | refine Kp.drew ?_ | refine Kp.drewN ?_ _ | refine Kp.alloc ?_ _ | (refine Kp.setCell ?_ (by first | (left; simp; done) | (right; simp; try omega)) _) | (refine Kp.trans' ?_ (by assumption) (by simp; try omega)))), hB, fun b hb => HV.out b hb⟩, by simp [Hid], HAT.out⟩
  case round =>
    obtain ⟨j, acc, hj1, hj, rfl, hs, HL, HP⟩ := hrel
    obtain ⟨p5, c5, rfl⟩ := slice_own hs.2.1
    have HS : Hid (RPutSt w wr B (.slice (some ⟨g, off, none⟩) l.length c) l acc (.slice p5 acc.length c5)) := hs
    clear hs HAT HZ
    by_cases hlt : j < l.length
    · have HJ : Hid (l.drop j ≠ []) := by intro e; have := congrArg List.length e; simp at this; omega
      have hrun : Hid (runL 2 (l.drop j) = runGo (fun t => (l.drop j).getD t 0 == (l.drop j).getD 0 0 + t) 65535 (l.length - j - 1) 1) := by unfold Hid runL; rw [List.length_drop]; rfl
      obtain ⟨y, hy⟩ : ∃ y, l.getD j 0 = y := ⟨_, rfl⟩
      have hy0 : (l.drop j).getD 0 0 = y := by rw [← hy, List.getD_eq_getElem?_getD, List.getElem?_drop, List.getD_eq_getElem?_getD, Nat.add_zero]
      have hyb : 0 ≤ y ∧ y ≤ 65535 := by rw [← hy]; exact HA.out _ (by rw [List.getD_eq_getElem?_getD, List.getElem?_eq_getElem hlt]; exact List.getElem_mem _)
      obtain ⟨hyb1, hyb2⟩ := hyb
      have HY : Hid _ := hy
      have HY0 : Hid _ := hy0
      have hcj : wr.cell? ⟨g, off + j, none⟩ = some (.int .i64 y) := by
        rcases HS.out.1 with ⟨⟨ad, h⟩, h'⟩ | ⟨g1, o1, c1, h, _, _, h3⟩
        · exfalso; rw [h'] at hlt; simp at hlt
        · cases h; rw [← hy]; exact h3 j hlt
      clear hy hy0
      go_wp2_with fail
      go_loopw [8] (fun m wi => ∃ t : Nat, m = .int .i64 t ∧ j + t < l.length ∧ RPutSt w wi B (.slice (some ⟨g, off, none⟩) l.length c) l acc (.slice p5 acc.length c5) ∧ Hid (runGo (fun t => (l.drop j).getD t 0 == (l.drop j).getD 0 0 + t) 65535 (l.length - j - 1 - t) (1 + t) = runL 2 (l.drop j))) (fun m _ => l.length - (intOf m).toNat)
      case atStart => exact ⟨0, by simp, by omega, HS.out, by rw [Hid, hrun.out]; rfl⟩
      case round =>
        obtain ⟨t, rfl, ht, hs2, HR⟩ := hrel
        have HS2 : Hid (RPutSt w wr B (.slice (some ⟨g, off, none⟩) l.length c) l acc (.slice p5 acc.length c5)) := hs2
        clear hs2 HS hcj
        have hcj : wr.cell? ⟨g, off + j, none⟩ = some (.int .i64 y) := by
          rcases HS2.out.1 with ⟨⟨ad, h⟩, h'⟩ | ⟨g1, o1, c1, h, _, _, h3⟩
          · exfalso; rw [h'] at hlt; simp at hlt
          · cases h; rw [← HY.out]; exact h3 j hlt
        have hfin : Hid ((¬ (t : Int) < 65535 ∨ ¬ j + t + 1 < l.length ∨ ¬ l.getD (j + t + 1) 0 = y + t + 1) → runL 2 (l.drop j) = t + 1) := by
          intro h
          rw [← HR.out]
          rcases Nat.lt_or_ge (j + t + 1) l.length with h2 | h2
          · rw [show l.length - j - 1 - t = (l.length - j - 1 - (t + 1)) + 1 by omega]
            unfold runGo; rw [if_neg]; omega
            rintro ⟨q1, q2⟩
            rw [HY0.out] at q2
            have e : (l.drop j).getD (1 + t) 0 = l.getD (j + t + 1) 0 := by rw [List.getD_eq_getElem?_getD, List.getElem?_drop, List.getD_eq_getElem?_getD, show j + (1 + t) = j + t + 1 by omega]
            rw [e] at q2
            have q3 := eq_of_beq q2
            rcases h with h | h | h
            · omega
            · omega
            · exact h (by rw [q3]; omega)
          · rw [show l.length - j - 1 - t = 0 by omega]; unfold runGo; omega
        have hgo : Hid ((t : Int) < 65535 → j + t + 1 < l.length → l.getD (j + t + 1) 0 = y + t + 1 → runGo (fun t => (l.drop j).getD t 0 == (l.drop j).getD 0 0 + t) 65535 (l.length - j - 1 - (t + 1)) (1 + (t + 1)) = runL 2 (l.drop j)) := by
          intro h h2 h3
          rw [← HR.out, show l.length - j - 1 - t = (l.length - j - 1 - (t + 1)) + 1 by omega]
          rw [show runGo (fun t => (l.drop j).getD t 0 == (l.drop j).getD 0 0 + t) 65535 ((l.length - j - 1 - (t + 1)) + 1) (1 + t) = if ((1 + t : Nat) : Int) ≤ 65535 ∧ ((fun t : Nat => (l.drop j).getD t 0 == (l.drop j).getD 0 0 + t) (1 + t)) = true then runGo (fun t => (l.drop j).getD t 0 == (l.drop j).getD 0 0 + t) 65535 (l.length - j - 1 - (t + 1)) (1 + t + 1) else 1 + t from rfl]
          rw [if_pos]; rfl
          refine ⟨by omega, ?_⟩
          have e : (l.drop j).getD (1 + t) 0 = l.getD (j + t + 1) 0 := by rw [List.getD_eq_getElem?_getD, List.getElem?_drop, List.getD_eq_getElem?_getD, show j + (1 + t) = j + t + 1 by omega]
          show ((l.drop j).getD (1 + t) 0 == (l.drop j).getD 0 0 + ((1 + t : Nat) : Int)) = true
          rw [e, HY0.out, h3]; simp; omega
        clear HR
        have hjt : j + t ≤ 65535 := by have := HLN.out; omega
        by_cases q1 : (t : Int) < 65535
        · by_cases q2 : j + t + 1 < l.length
          · obtain ⟨x, hx⟩ : ∃ x, l.getD (j + t + 1) 0 = x := ⟨_, rfl⟩
            have hcx : wr.cell? ⟨g, off + (j + t + 1), none⟩ = some (.int .i64 x) := by
              rcases HS2.out.1 with ⟨⟨ad, h⟩, h'⟩ | ⟨g1, o1, c1, h, _, _, h3⟩
              · exfalso; rw [h'] at hlt; simp at hlt
              · cases h; rw [← hx]; exact h3 _ q2
            rw [hx] at hfin hgo
            clear hx
            by_cases q3 : x = y + t + 1
            · have HGO : Hid _ := hgo.out q1 q2 q3
              clear hfin hgo
              have q1' : decide ((t : Int) < 65535) = true := decide_eq_true q1
              have q2' : decide ((j : Int) + t + 1 < l.length) = true := by simp; omega
              subst q3
              go_wp2_with fail
              go_quiet (fail)
              go_wp2_with fail
              go_roundw
              case rel => first | exact ⟨t + 1, int_eq (by omega), by omega, HS2.out.kp (by (repeat (first | exact Kp.refl _ _ | assumption | refine Kp.drew ?_ | refine Kp.drewN ?_ _ | refine Kp.alloc ?_ _ | (refine Kp.setCell ?_ (by first | (left; simp; done) | (right; simp; try omega)) _) | (refine Kp.trans' ?_ (by assumption) (by simp; try omega))))), HGO.out⟩ | ((repeat apply Exists.intro); exact ⟨⟨t + 1, int_eq (by omega), by omega, HS2.out.kp (by (repeat (first | exact Kp.refl _ _ | assumption | refine Kp.drew ?_ | refine Kp.drewN ?_ _ | refine Kp.alloc ?_ _ | (refine Kp.setCell ?_ (by first | (left; simp; done) | (right; simp; try omega)) _) | (refine Kp.trans' ?_ (by assumption) (by simp; try omega))))), HGO.out⟩, rfl⟩)
              case measure => simp [intOf]; omega
            · have hrl : Hid _ := hfin.out (.inr (.inr q3))
              clear hfin hgo
              have q1' : decide ((t : Int) < 65535) = true := decide_eq_true q1
              have q2' : decide ((j : Int) + t + 1 < l.length) = true := by simp; omega
              have q3' : (x == y + t + 1) = false := beq_eq_false_iff_ne.2 q3
              go_wp2_with fail
              go_quiet (fail)
              go_wp2_with fail
              refine (rbytes_calls 2 y (by decide) (by decide) (by omega) (by omega) _).mono ?_
              rintro e w3 ⟨v3, rfl, hown3, hk3⟩
              obtain ⟨p3, c3, rfl⟩ := slice_own hown3
              have HS3 : Hid (RPutSt w w3 B (.slice (some ⟨g, off, none⟩) l.length c) l acc (.slice p5 acc.length c5)) := HS2.out.kp (Kp.trans (by (repeat (first | exact Kp.refl _ _ | assumption | refine Kp.drew ?_ | refine Kp.drewN ?_ _ | refine Kp.alloc ?_ _ | (refine Kp.setCell ?_ (by first | (left; simp; done) | (right; simp; try omega)) _) | (refine Kp.trans' ?_ (by assumption) (by simp; try omega))))) hk3)
              have HN3 : Hid _ := Reads.owned hown3
              clear hown3
              go_wp2_with (at_builtin; refine wpList_app rfl _ _ 22 rfl B 5 (.int .u8 0) 1 1 Try.underlying22 infoByte rfl (by decide) (by decide) (.slice p5 acc.length c5) acc.length (acc.map (Value.int .u8)) rfl ?hown (.slice p3 2 c3) 2 ((bytesN 2 y).map (Value.int .u8)) rfl ?hsrc (oneCell_ints _ _) ?hb1 ?hb2 ?hk)
              case hown => exact HS3.out.2.1
              case hsrc => exact HN3.out
              case hb1 => have := HL.out; have := HS3.out.base; have := HLN.out; omega
              case hb2 => have := HL.out; have := HS3.out.base; have := HLN.out; omega
              case hk =>
                intro v6 w4 hown4 hgr4
                have HS4 : Hid (RPutSt w w4 B (.slice (some ⟨g, off, none⟩) l.length c) l (acc ++ bytesN 2 y) v6) := HS3.out.app (Kp.refl _ _) (by rw [bytesN_length]; exact hown4) hgr4
                have HL4 : Hid ((acc ++ bytesN 2 y).length ≤ 4 * j + 2) := by have := HL.out; unfold Hid; rw [List.length_append, bytesN_length]; omega
                clear hown4 hgr4 HS3 HN3
                obtain ⟨p6, c6, hv6⟩ := slice_own HS4.out.2.1
                subst hv6
                have hmr : moreB 2 (t + 1) = bytesN 2 t := by simp [moreB, by2, bytesN]
                have HMR : Hid _ := hmr
                clear hmr
                go_wp2_with fail
                refine (rbytes_calls 2 t (by decide) (by decide) (by omega) (by omega) _).mono ?_
                rintro e w5 ⟨v5, rfl, hown5, hk5⟩
                obtain ⟨p7, c7, rfl⟩ := slice_own hown5
                have HS5 : Hid (RPutSt w w5 B (.slice (some ⟨g, off, none⟩) l.length c) l (acc ++ bytesN 2 y) (.slice p6 (acc ++ bytesN 2 y).length c6)) := HS4.out.kp hk5
                have HN5 : Hid _ := Reads.owned hown5
                clear hown5
                generalize hA2 : acc ++ bytesN 2 y = acc2 at *
                have HA2 : Hid _ := hA2
                clear hA2
                go_wp2_with (at_builtin; refine wpList_app rfl _ _ 22 rfl B 5 (.int .u8 0) 1 1 Try.underlying22 infoByte rfl (by decide) (by decide) (.slice p6 acc2.length c6) acc2.length (acc2.map (Value.int .u8)) rfl ?hown (.slice p7 2 c7) 2 ((bytesN 2 t).map (Value.int .u8)) rfl ?hsrc (oneCell_ints _ _) ?hb1 ?hb2 ?hk)
                case hown => exact HS5.out.2.1
                case hsrc => exact HN5.out
                case hb1 => have := HL4.out; have := HS5.out.base; have := HLN.out; omega
                case hb2 => have := HL4.out; have := HS5.out.base; have := HLN.out; omega
                case hk =>
                  intro v8 w6 hown6 hgr6
                  have HS6 : Hid (RPutSt w w6 B (.slice (some ⟨g, off, none⟩) l.length c) l (acc2 ++ bytesN 2 t) v8) := HS5.out.app (Kp.refl _ _) (by rw [bytesN_length]; exact hown6) hgr6
                  have HL6 : Hid ((acc2 ++ bytesN 2 t).length ≤ 4 * j + 4) := by have := HL4.out; unfold Hid; rw [List.length_append, bytesN_length]; omega
                  clear hown6 hgr6 HS5 HN5
                  have HP2 := HP.out
                  have HP3 := putAt_step _ _ _ _ HP2 HJ.out
                  rw [hrl.out, HY0.out, List.drop_drop, HMR.out, ← bytesN_2, HA2.out] at HP3
                  have HPN : Hid (PutAt 2 (csPut l 2) (acc2 ++ bytesN 2 t) (l.drop (j + t + 1))) := by
                    rw [Hid, show j + t + 1 = j + (t + 1) by omega]; exact HP3
                  clear HP2 HP3
                  go_wp2_with fail
                  go_roundw
                  case rel => first | exact ⟨j + t + 1, _, by omega, by omega, int_eq (by omega), HS6.out, by have := HL6.out; unfold Hid; omega, HPN.out⟩ | ((repeat apply Exists.intro); exact ⟨⟨j + t + 1, _, by omega, by omega, int_eq (by omega), HS6.out, by have := HL6.out; unfold Hid; omega, HPN.out⟩, rfl⟩)
                  case measure => simp [intOf]; omega
          · have hrl : Hid _ := hfin.out (.inr (.inl q2))
            clear hfin hgo
            have q1' : decide ((t : Int) < 65535) = true := decide_eq_true q1
            have q2' : decide ((j : Int) + t + 1 < l.length) = false := by simp; omega
            go_wp2_with fail
            go_quiet (fail)
            go_wp2_with fail
            refine (rbytes_calls 2 y (by decide) (by decide) (by omega) (by omega) _).mono ?_
            rintro e w3 ⟨v3, rfl, hown3, hk3⟩
            obtain ⟨p3, c3, rfl⟩ := slice_own hown3
            have HS3 : Hid (RPutSt w w3 B (.slice (some ⟨g, off, none⟩) l.length c) l acc (.slice p5 acc.length c5)) := HS2.out.kp (Kp.trans (by (repeat (first | exact Kp.refl _ _ | assumption | refine Kp.drew ?_ | refine Kp.drewN ?_ _ | refine Kp.alloc ?_ _ | (refine Kp.setCell ?_ (by first | (left; simp; done) | (right; simp; try omega)) _) | (refine Kp.trans' ?_ (by assumption) (by simp; try omega))))) hk3)
            have HN3 : Hid _ := Reads.owned hown3
            clear hown3
            go_wp2_with (at_builtin; refine wpList_app rfl _ _ 22 rfl B 5 (.int .u8 0) 1 1 Try.underlying22 infoByte rfl (by decide) (by decide) (.slice p5 acc.length c5) acc.length (acc.map (Value.int .u8)) rfl ?hown (.slice p3 2 c3) 2 ((bytesN 2 y).map (Value.int .u8)) rfl ?hsrc (oneCell_ints _ _) ?hb1 ?hb2 ?hk)
            case hown => exact HS3.out.2.1
            case hsrc => exact HN3.out
            case hb1 => have := HL.out; have := HS3.out.base; have := HLN.out; omega
            case hb2 => have := HL.out; have := HS3.out.base; have := HLN.out; omega
            case hk =>
              intro v6 w4 hown4 hgr4
              have HS4 : Hid (RPutSt w w4 B (.slice (some ⟨g, off, none⟩) l.length c) l (acc ++ bytesN 2 y) v6) := HS3.out.app (Kp.refl _ _) (by rw [bytesN_length]; exact hown4) hgr4
              have HL4 : Hid ((acc ++ bytesN 2 y).length ≤ 4 * j + 2) := by have := HL.out; unfold Hid; rw [List.length_append, bytesN_length]; omega
              clear hown4 hgr4 HS3 HN3
              obtain ⟨p6, c6, hv6⟩ := slice_own HS4.out.2.1
              subst hv6
              have hmr : moreB 2 (t + 1) = bytesN 2 t := by simp [moreB, by2, bytesN]
              have HMR : Hid _ := hmr
              clear hmr
              go_wp2_with fail
              refine (rbytes_calls 2 t (by decide) (by decide) (by omega) (by omega) _).mono ?_
              rintro e w5 ⟨v5, rfl, hown5, hk5⟩
              obtain ⟨p7, c7, rfl⟩ := slice_own hown5
              have HS5 : Hid (RPutSt w w5 B (.slice (some ⟨g, off, none⟩) l.length c) l (acc ++ bytesN 2 y) (.slice p6 (acc ++ bytesN 2 y).length c6)) := HS4.out.kp hk5
              have HN5 : Hid _ := Reads.owned hown5
              clear hown5
              generalize hA2 : acc ++ bytesN 2 y = acc2 at *
              have HA2 : Hid _ := hA2
              clear hA2
              go_wp2_with (at_builtin; refine wpList_app rfl _ _ 22 rfl B 5 (.int .u8 0) 1 1 Try.underlying22 infoByte rfl (by decide) (by decide) (.slice p6 acc2.length c6) acc2.length (acc2.map (Value.int .u8)) rfl ?hown (.slice p7 2 c7) 2 ((bytesN 2 t).map (Value.int .u8)) rfl ?hsrc (oneCell_ints _ _) ?hb1 ?hb2 ?hk)
              case hown => exact HS5.out.2.1
              case hsrc => exact HN5.out
              case hb1 => have := HL4.out; have := HS5.out.base; have := HLN.out; omega
              case hb2 => have := HL4.out; have := HS5.out.base; have := HLN.out; omega
              case hk =>
                intro v8 w6 hown6 hgr6
                have HS6 : Hid (RPutSt w w6 B (.slice (some ⟨g, off, none⟩) l.length c) l (acc2 ++ bytesN 2 t) v8) := HS5.out.app (Kp.refl _ _) (by rw [bytesN_length]; exact hown6) hgr6
                have HL6 : Hid ((acc2 ++ bytesN 2 t).length ≤ 4 * j + 4) := by have := HL4.out; unfold Hid; rw [List.length_append, bytesN_length]; omega
                clear hown6 hgr6 HS5 HN5
                have HP2 := HP.out
                have HP3 := putAt_step _ _ _ _ HP2 HJ.out
                rw [hrl.out, HY0.out, List.drop_drop, HMR.out, ← bytesN_2, HA2.out] at HP3
                have HPN : Hid (PutAt 2 (csPut l 2) (acc2 ++ bytesN 2 t) (l.drop (j + t + 1))) := by
                  rw [Hid, show j + t + 1 = j + (t + 1) by omega]; exact HP3
                clear HP2 HP3
                go_wp2_with fail
                go_roundw
                case rel => first | exact ⟨j + t + 1, _, by omega, by omega, int_eq (by omega), HS6.out, by have := HL6.out; unfold Hid; omega, HPN.out⟩ | ((repeat apply Exists.intro); exact ⟨⟨j + t + 1, _, by omega, by omega, int_eq (by omega), HS6.out, by have := HL6.out; unfold Hid; omega, HPN.out⟩, rfl⟩)
                case measure => simp [intOf]; omega
        · have hrl : Hid _ := hfin.out (.inl q1)
          clear hfin hgo
          have q1' : decide ((t : Int) < 65535) = false := decide_eq_false q1
          go_wp2_with fail
          go_quiet (fail)
          go_wp2_with fail
          refine (rbytes_calls 2 y (by decide) (by decide) (by omega) (by omega) _).mono ?_
          rintro e w3 ⟨v3, rfl, hown3, hk3⟩
          obtain ⟨p3, c3, rfl⟩ := slice_own hown3
          have HS3 : Hid (RPutSt w w3 B (.slice (some ⟨g, off, none⟩) l.length c) l acc (.slice p5 acc.length c5)) := HS2.out.kp (Kp.trans (by (repeat (first | exact Kp.refl _ _ | assumption | refine Kp.drew ?_ | refine Kp.drewN ?_ _ | refine Kp.alloc ?_ _ | (refine Kp.setCell ?_ (by first | (left; simp; done) | (right; simp; try omega)) _) | (refine Kp.trans' ?_ (by assumption) (by simp; try omega))))) hk3)
          have HN3 : Hid _ := Reads.owned hown3
          clear hown3
          go_wp2_with (at_builtin; refine wpList_app rfl _ _ 22 rfl B 5 (.int .u8 0) 1 1 Try.underlying22 infoByte rfl (by decide) (by decide) (.slice p5 acc.length c5) acc.length (acc.map (Value.int .u8)) rfl ?hown (.slice p3 2 c3) 2 ((bytesN 2 y).map (Value.int .u8)) rfl ?hsrc (oneCell_ints _ _) ?hb1 ?hb2 ?hk)
          case hown => exact HS3.out.2.1
          case hsrc => exact HN3.out
          case hb1 => have := HL.out; have := HS3.out.base; have := HLN.out; omega
          case hb2 => have := HL.out; have := HS3.out.base; have := HLN.out; omega
          case hk =>
            intro v6 w4 hown4 hgr4
            have HS4 : Hid (RPutSt w w4 B (.slice (some ⟨g, off, none⟩) l.length c) l (acc ++ bytesN 2 y) v6) := HS3.out.app (Kp.refl _ _) (by rw [bytesN_length]; exact hown4) hgr4
            have HL4 : Hid ((acc ++ bytesN 2 y).length ≤ 4 * j + 2) := by have := HL.out; unfold Hid; rw [List.length_append, bytesN_length]; omega
            clear hown4 hgr4 HS3 HN3
            obtain ⟨p6, c6, hv6⟩ := slice_own HS4.out.2.1
            subst hv6
            have hmr : moreB 2 (t + 1) = bytesN 2 t := by simp [moreB, by2, bytesN]
            have HMR : Hid _ := hmr
            clear hmr
            go_wp2_with fail
            refine (rbytes_calls 2 t (by decide) (by decide) (by omega) (by omega) _).mono ?_
            rintro e w5 ⟨v5, rfl, hown5, hk5⟩
            obtain ⟨p7, c7, rfl⟩ := slice_own hown5
            have HS5 : Hid (RPutSt w w5 B (.slice (some ⟨g, off, none⟩) l.length c) l (acc ++ bytesN 2 y) (.slice p6 (acc ++ bytesN 2 y).length c6)) := HS4.out.kp hk5
            have HN5 : Hid _ := Reads.owned hown5
            clear hown5
            generalize hA2 : acc ++ bytesN 2 y = acc2 at *
            have HA2 : Hid _ := hA2
            clear hA2
            go_wp2_with (at_builtin; refine wpList_app rfl _ _ 22 rfl B 5 (.int .u8 0) 1 1 Try.underlying22 infoByte rfl (by decide) (by decide) (.slice p6 acc2.length c6) acc2.length (acc2.map (Value.int .u8)) rfl ?hown (.slice p7 2 c7) 2 ((bytesN 2 t).map (Value.int .u8)) rfl ?hsrc (oneCell_ints _ _) ?hb1 ?hb2 ?hk)
            case hown => exact HS5.out.2.1
            case hsrc => exact HN5.out
            case hb1 => have := HL4.out; have := HS5.out.base; have := HLN.out; omega
            case hb2 => have := HL4.out; have := HS5.out.base; have := HLN.out; omega
            case hk =>
              intro v8 w6 hown6 hgr6
              have HS6 : Hid (RPutSt w w6 B (.slice (some ⟨g, off, none⟩) l.length c) l (acc2 ++ bytesN 2 t) v8) := HS5.out.app (Kp.refl _ _) (by rw [bytesN_length]; exact hown6) hgr6
              have HL6 : Hid ((acc2 ++ bytesN 2 t).length ≤ 4 * j + 4) := by have := HL4.out; unfold Hid; rw [List.length_append, bytesN_length]; omega
              clear hown6 hgr6 HS5 HN5
              have HP2 := HP.out
              have HP3 := putAt_step _ _ _ _ HP2 HJ.out
              rw [hrl.out, HY0.out, List.drop_drop, HMR.out, ← bytesN_2, HA2.out] at HP3
              have HPN : Hid (PutAt 2 (csPut l 2) (acc2 ++ bytesN 2 t) (l.drop (j + t + 1))) := by
                rw [Hid, show j + t + 1 = j + (t + 1) by omega]; exact HP3
              clear HP2 HP3
              go_wp2_with fail
              go_roundw
              case rel => first | exact ⟨j + t + 1, _, by omega, by omega, int_eq (by omega), HS6.out, by have := HL6.out; unfold Hid; omega, HPN.out⟩ | ((repeat apply Exists.intro); exact ⟨⟨j + t + 1, _, by omega, by omega, int_eq (by omega), HS6.out, by have := HL6.out; unfold Hid; omega, HPN.out⟩, rfl⟩)
              case measure => simp [intOf]; omega
    · have hR : Hid (csPut l 2 = acc) := by
        have h := HP.out
        rw [List.drop_eq_nil_of_le (by omega)] at h
        exact putAt_end _ _ _ h
      go_wp2_with fail
      go_ret
      exact ⟨_, rfl, by rw [hR.out]; exact IsInts.owned HS.out.2.1, HS.out.2.2.1, fun b hb => by have := own_geb HS.out.2.1 b hb; omega⟩
theorem rput_calls (v : Value) (l : List Int) (f : Int) (w : World) (hm : mayPut l f = true) (hz : IsInts .i64 w v l) (hv : ∀ b, blockOf v = some b → b < w.heap.size) :
    Calls Try.prog 20 #[v, .int .i64 f] w (RPutD (csPut l f.toNat) w) := by
  obtain ⟨_, _, _, _, k5, k6⟩ := mayPut_true hm
  have h : f = 0 ∨ f = 1 ∨ f = 2 := by omega
  rcases h with rfl | rfl | rfl
  · exact rput_0 v l w hm hz hv
  · exact rput_1 v l w hm hz hv
  · exact rput_2 v l w hm hz hv
end Go.Proofs.Ythmokldmdcjklaa

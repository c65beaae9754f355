/- The reference's Put of metrics. (Written by wip/metric/genmrb.py.) -/
import Derived.Test.YthmokldmdcjklaaMtRa
import Derived.Test.YthmokldmdcjklaaMtC
import Derived.Test.YthmokldmdcjklaaWireD
namespace Go.Proofs.Ythmokldmdcjklaa
open Go.RowKit
set_option linter.unusedVariables false
set_option linter.unusedSimpArgs false
/-- Where the reference's put of metrics stands in memory. -/
def MQSt (w wr : World) (B : Nat) (v : Value) (l : List (Int × Int)) (acc : List Int) (v5 : Value) : Prop :=
  IsPairs wr v l ∧ wr.ownsRow B 5 1 v5 acc.length (acc.map (Value.int .u8)) ∧ Kp [] w wr ∧ w.heap.size = B ∧ ∀ b, blockOf v = some b → b < B
theorem MQSt.kp {w wr w2 : World} {B : Nat} {v : Value} {l : List (Int × Int)} {acc : List Int} {v5 : Value} (h : MQSt w wr B v l acc v5) (hq : Kp [] wr w2) : MQSt w w2 B v l acc v5 :=
  ⟨h.1.kp hq (by simp), hq.row h.2.1 (by simp), h.2.2.1.trans hq, h.2.2.2⟩
theorem MQSt.base {w wr : World} {B : Nat} {v : Value} {l : List (Int × Int)} {acc : List Int} {v5 : Value} (h : MQSt w wr B v l acc v5) : B ≤ wr.heap.size := by have := h.2.2.1.size; have := h.2.2.2.1; omega
theorem MQSt.app {w wr wq w2 : World} {B : Nat} {v : Value} {l : List (Int × Int)} {acc news : List Int} {v5 v7 : Value} (h : MQSt w wr B v l acc v5) (hq : Kp [] wr wq)
    (hown : w2.ownsRow B 5 1 v7 (acc.length + news.length) (acc.map (Value.int .u8) ++ news.map (Value.int .u8))) (hg : wq.grownBy w2 v5.ownBlock) : MQSt w w2 B v l (acc ++ news) v7 := by
  obtain ⟨h1, h2, h3, h4, h5⟩ := h
  have hge := own_ge h2
  have hk : Kp [] w w2 := Kp.grown (h3.trans hq) hg (fun k hk => .inr (by have := hge k hk; omega))
  have hk2 : Kp (v5.ownBlock.toList) wr w2 := Kp.grown (hq.more (fun s hs => nomatch hs)) hg (fun k hk => .inl (by rw [hk]; simp))
  have hnot2 : ∀ s ∈ v5.ownBlock.toList, blockOf v ≠ some s := by
    intro s hs; cases hv : v5.ownBlock with
    | none => simp [hv] at hs
    | some b => simp [hv] at hs; subst hs; intro e; have := h5 _ e; have := hge _ hv; omega
  exact ⟨h1.kp hk2 hnot2, by simpa using hown, hk, h4, h5⟩
set_option maxRecDepth 100000 in
set_option maxHeartbeats 4000000 in
theorem rmetput_calls (v : Value) (l : List (Int × Int)) (m : Nat) (w : World) (hm : mayMet l m = true) (hv : IsPairs w v l) (hvb : ∀ b, blockOf v = some b → b < w.heap.size) :
    Calls Try.prog 30 #[v, .int .i64 m] w fun e w' => ∃ v', e = .returned v' ∧ IsInts .u8 w' v' (metPre l m l.length) ∧ Kp [] w w' ∧ ∀ b, blockOf v' = some b → w.heap.size ≤ b := by
  have HOK : Hid (∀ j, j < l.length → okM l m j = true) := fun j hj => mayMet_at l m hm j hj
  unfold mayMet at hm
  simp only [Bool.and_eq_true, decide_eq_true_eq] at hm
  obtain ⟨⟨⟨⟨⟨k1, k2⟩, k3⟩, k4⟩, k5⟩, k6⟩ := hm
  have HV : Hid (IsPairs w v l) := hv
  have HVB : Hid _ := hvb
  rcases hv.cases with ⟨ad, rfl, rfl⟩ | ⟨g, off, c, rfl, p1, p2, p3⟩
  · simp at k1
  have hlI : l.length ≤ 70000 := by omega
  have hmI : m ≤ 70000 := by omega
  clear k5 k6 p3 hvb k2 hv
  go_enter Try.func30, Try.ntmps30
  go_wp2_with fail
  generalize hB : w.heap.size = B at *
  go_loopw [5, 6] (fun v5 i wr => ∃ j : Nat, j ≤ l.length ∧ i = .int .i64 j ∧ MQSt w wr B (.slice (some ⟨g, off, none⟩) l.length c) l (metPre l m j) v5) (fun _ i _ => l.length - (intOf i).toNat)
  case atStart => exact ⟨0, by omega, rfl, HV.out, World.ownsRow_nil _ _ _ _, Kp.refl _ _, hB, HVB.out⟩
  case round =>
    obtain ⟨j, hj, rfl, hs⟩ := hrel
    obtain ⟨p5, c5, rfl⟩ := slice_own hs.2.1
    have HS : Hid (MQSt w wr B (.slice (some ⟨g, off, none⟩) l.length c) l (metPre l m j) (.slice p5 (metPre l m j).length c5)) := hs
    clear hs
    by_cases hlt : j < l.length
    · have hc1 : wr.cell? ⟨g, off + j * 2, none⟩ = some (.int .i64 (l.getD j (0, 0)).1) ∧ wr.cell? ⟨g, off + j * 2 + 1, none⟩ = some (.int .i64 (l.getD j (0, 0)).2) := by
        rcases HS.out.1.cases with ⟨ad, h, h'⟩ | ⟨g1, o1, c1, h, _, _, h3⟩
        · exfalso; rw [h'] at hlt; simp at hlt
        · cases h; exact h3 j hlt
      obtain ⟨hcx, hcy⟩ := hc1
      have hb := HOK.out j hlt
      unfold okM at hb
      have hb := ((Bool.and_eq_true _ _).mp hb).1
      simp only [fitsM, Bool.and_eq_true, decide_eq_true_eq] at hb
      obtain ⟨⟨⟨b1, b2⟩, b3⟩, b4⟩ := hb
      have hlen := metPre_len l m j
      have hpre : Hid (metPre l m (j + 1) = metPre l m j ++ (if j < m then bytesN 2 (l.getD j (0, 0)).1 else []) ++ bytesN 2 (l.getD j (0, 0)).2) := rfl
      have hroom : (metPre l m j).length ≤ 300000 := by rw [hlen]; omega
      have hlI2 : (j : Int) < l.length := by omega
      clear hlen
      obtain ⟨y, hyj⟩ : ∃ z, z = (l.getD j (0, 0)).2 := ⟨_, rfl⟩
      have HYJ : Hid ((l.getD j (0, 0)).2 = y) := hyj.symm
      rw [← hyj] at hcy b3 b4 hpre
      clear hyj
      generalize (l.getD j (0, 0)).1 = x at *
      generalize metPre l m j = acc at *
      by_cases hjm : j < m
      · have hjI : (j : Int) < m := by omega
        go_wp2_with fail
        refine (rbytes_calls 2 x (by decide) (by decide) (by omega) (by omega) _).mono ?_
        rintro e u1 ⟨y1, rfl, hown1, hk1⟩
        obtain ⟨p1, c1, rfl⟩ := slice_own hown1
        have HQ1 : Hid (MQSt w u1 B (.slice (some ⟨g, off, none⟩) l.length c) l (acc) (.slice p5 acc.length c5)) := (HS.out).kp hk1
        have hr1 := Lib.hid (Reads.owned hown1)
        clear hown1 hk1
        go_wp2_with (at_builtin; refine wpList_app rfl _ _ 22 rfl B 5 (.int .u8 0) 1 1 Try.underlying22 infoByte rfl (by decide) (by decide) (.slice p5 acc.length c5) (acc).length ((acc).map (Value.int .u8)) rfl ?hown (.slice p1 2 c1) 2 ((bytesN 2 x).map (Value.int .u8)) rfl ?hsrc (oneCell_ints _ _) ?hb1 ?hb2 ?hk)
        case hown => exact HQ1.out.2.1
        case hsrc => exact hr1.out
        case hb1 => omega
        case hb2 => exact HQ1.out.base
        case hk =>
        intro z1 q1 hown hgr
        have hs1 : MQSt w q1 B (.slice (some ⟨g, off, none⟩) l.length c) l (acc ++ bytesN 2 x) z1 := HQ1.out.app (Kp.refl _ _) (by rw [bytesN_length]; exact hown) hgr
        clear hown hgr HQ1 hr1
        have hcy1 : q1.cell? ⟨g, off + j * 2 + 1, none⟩ = some (.int .i64 y) := by
          rcases hs1.1.cases with ⟨ad, h, h'⟩ | ⟨g1, o1, c1, h, _, _, h3⟩
          · exfalso; rw [h'] at hlt; simp at hlt
          · cases h; have h9 := (h3 j hlt).2; rw [HYJ.out] at h9; exact h9
        have hacc : (acc ++ bytesN 2 x).length ≤ 300004 := by rw [List.length_append, bytesN_length]; omega
        obtain ⟨acc2, hA2⟩ : ∃ z, z = acc ++ bytesN 2 x := ⟨_, rfl⟩
        rw [← hA2] at hs1 hacc
        have HA2 : Hid (acc ++ bytesN 2 x = acc2) := hA2.symm
        clear hA2
        obtain ⟨p6, c6, rfl⟩ := slice_own hs1.2.1
        have HS1 : Hid (MQSt w q1 B (.slice (some ⟨g, off, none⟩) l.length c) l acc2 (.slice p6 acc2.length c6)) := hs1
        clear hcx hcy hs1
        go_wp2_with fail
        refine (rbytes_calls 2 y (by decide) (by decide) (by omega) (by omega) _).mono ?_
        rintro e u2 ⟨y2, rfl, hown2, hk2⟩
        obtain ⟨p2, c2, rfl⟩ := slice_own hown2
        have HQ2 : Hid (MQSt w u2 B (.slice (some ⟨g, off, none⟩) l.length c) l (acc2) (.slice p6 acc2.length c6)) := (HS1.out).kp hk2
        have hr2 := Lib.hid (Reads.owned hown2)
        clear hown2 hk2
        go_wp2_with (at_builtin; refine wpList_app rfl _ _ 22 rfl B 5 (.int .u8 0) 1 1 Try.underlying22 infoByte rfl (by decide) (by decide) (.slice p6 acc2.length c6) (acc2).length ((acc2).map (Value.int .u8)) rfl ?hown (.slice p2 2 c2) 2 ((bytesN 2 y).map (Value.int .u8)) rfl ?hsrc (oneCell_ints _ _) ?hb1 ?hb2 ?hk)
        case hown => exact HQ2.out.2.1
        case hsrc => exact hr2.out
        case hb1 => omega
        case hb2 => exact HQ2.out.base
        case hk =>
        intro z2 q2 hown hgr
        have hs2 : MQSt w q2 B (.slice (some ⟨g, off, none⟩) l.length c) l (acc2 ++ bytesN 2 y) z2 := HQ2.out.app (Kp.refl _ _) (by rw [bytesN_length]; exact hown) hgr
        clear hown hgr HQ2 hr2
        have hsE : MQSt w q2 B (.slice (some ⟨g, off, none⟩) l.length c) l (metPre l m (j + 1)) z2 := by rw [hpre.out, if_pos hjm, HA2.out]; exact hs2
        clear hs2
        go_wp2_with fail
        go_roundw
        case rel => first | exact ⟨j + 1, by omega, int_eq' (by omega), hsE⟩ | ((repeat apply Exists.intro); exact ⟨⟨j + 1, by omega, int_eq' (by omega), hsE⟩, rfl⟩) | ((repeat apply Exists.intro); refine ⟨?_, rfl⟩; exact ⟨j + 1, by omega, int_eq' (by omega), hsE⟩)
        case measure => simp [intOf]; omega
      · have hjI : decide ((j : Int) < m) = false := decide_eq_false (by omega)
        go_wp2_with fail
        refine (rbytes_calls 2 y (by decide) (by decide) (by omega) (by omega) _).mono ?_
        rintro e u2 ⟨y2, rfl, hown2, hk2⟩
        obtain ⟨p2, c2, rfl⟩ := slice_own hown2
        have HQ2 : Hid (MQSt w u2 B (.slice (some ⟨g, off, none⟩) l.length c) l (acc) (.slice p5 acc.length c5)) := (HS.out).kp hk2
        have hr2 := Lib.hid (Reads.owned hown2)
        clear hown2 hk2
        go_wp2_with (at_builtin; refine wpList_app rfl _ _ 22 rfl B 5 (.int .u8 0) 1 1 Try.underlying22 infoByte rfl (by decide) (by decide) (.slice p5 acc.length c5) (acc).length ((acc).map (Value.int .u8)) rfl ?hown (.slice p2 2 c2) 2 ((bytesN 2 y).map (Value.int .u8)) rfl ?hsrc (oneCell_ints _ _) ?hb1 ?hb2 ?hk)
        case hown => exact HQ2.out.2.1
        case hsrc => exact hr2.out
        case hb1 => omega
        case hb2 => exact HQ2.out.base
        case hk =>
        intro z2 q2 hown hgr
        have hs2 : MQSt w q2 B (.slice (some ⟨g, off, none⟩) l.length c) l (acc ++ bytesN 2 y) z2 := HQ2.out.app (Kp.refl _ _) (by rw [bytesN_length]; exact hown) hgr
        clear hown hgr HQ2 hr2
        have hsE : MQSt w q2 B (.slice (some ⟨g, off, none⟩) l.length c) l (metPre l m (j + 1)) z2 := by rw [hpre.out, if_neg hjm, List.append_nil]; exact hs2
        clear hs2
        go_wp2_with fail
        go_roundw
        case rel => first | exact ⟨j + 1, by omega, int_eq' (by omega), hsE⟩ | ((repeat apply Exists.intro); exact ⟨⟨j + 1, by omega, int_eq' (by omega), hsE⟩, rfl⟩) | ((repeat apply Exists.intro); refine ⟨?_, rfl⟩; exact ⟨j + 1, by omega, int_eq' (by omega), hsE⟩)
        case measure => simp [intOf]; omega
    · obtain rfl : j = l.length := by omega
      go_wp2_with fail
      go_ret
      exact ⟨_, rfl, IsInts.owned HS.out.2.1, HS.out.2.2.1, fun b hb => by have := own_geb HS.out.2.1 b hb; omega⟩
end Go.Proofs.Ythmokldmdcjklaa

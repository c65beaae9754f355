/- The reference's PutPlaces; places that were put are loaded again. -/
import Derived.Test.YthmokldmdcjklaaMtH
import Derived.Test.YthmokldmdcjklaaMtI
import Derived.Test.YthmokldmdcjklaaWireD
namespace Go.Proofs.Ythmokldmdcjklaa
open Go.RowKit
set_option linter.unusedVariables false
set_option linter.unusedSimpArgs false
/-- Where the reference's put of places stands in memory. -/
def RQSt (w wr : World) (B : Nat) (v : Value) (l acc : List Int) (v5 : Value) : Prop :=
  IsInts .i64 wr v l ∧ wr.ownsRow B 5 1 v5 acc.length (acc.map (Value.int .u8)) ∧ Kp [] w wr ∧ w.heap.size = B ∧ ∀ b, blockOf v = some b → b < B
theorem RQSt.kp {w wr w2 : World} {B : Nat} {v : Value} {l acc : List Int} {v5 : Value} (h : RQSt w wr B v l acc v5) (hq : Kp [] wr w2) : RQSt w w2 B v l acc v5 :=
  ⟨h.1.kp hq (by simp), hq.row h.2.1 (by simp), h.2.2.1.trans hq, h.2.2.2⟩
theorem RQSt.base {w wr : World} {B : Nat} {v : Value} {l acc : List Int} {v5 : Value} (h : RQSt w wr B v l acc v5) : B ≤ wr.heap.size := by have := h.2.2.1.size; have := h.2.2.2.1; omega
theorem RQSt.app {w wr wq w2 : World} {B : Nat} {v : Value} {l acc news : List Int} {v5 v7 : Value} (h : RQSt w wr B v l acc v5) (hq : Kp [] wr wq)
    (hown : w2.ownsRow B 5 1 v7 (acc.length + news.length) (acc.map (Value.int .u8) ++ news.map (Value.int .u8))) (hg : wq.grownBy w2 v5.ownBlock) : RQSt w w2 B v l (acc ++ news) v7 := by
  obtain ⟨h1, h2, h3, h4, h5⟩ := h
  have hge := own_ge h2
  have hk : Kp [] w w2 := Kp.grown (h3.trans hq) hg (fun k hk => .inr (by have := hge k hk; omega))
  have hk2 : Kp (v5.ownBlock.toList) wr w2 := Kp.grown (hq.more (fun s hs => nomatch hs)) hg (fun k hk => .inl (by rw [hk]; simp))
  have hnot2 : ∀ s ∈ v5.ownBlock.toList, blockOf v ≠ some s := by
    intro s hs; cases hv : v5.ownBlock with
    | none => simp [hv] at hs
    | some b => simp [hv] at hs; subst hs; intro e; have := h5 _ e; have := hge _ hv; omega
  exact ⟨h1.kp hk2 hnot2, by simpa using hown, hk, h4, h5⟩
/-- What a put hands back. -/
def RQD (R : List Int) (w : World) (e : Ending) (w' : World) : Prop := ∃ v, e = .returned v ∧ IsInts .u8 w' v R ∧ Kp [] w w' ∧ ∀ b, blockOf v = some b → w.heap.size ≤ b
set_option maxRecDepth 100000 in
set_option maxHeartbeats 2000000 in
theorem rputpl_calls (v : Value) (l : List Int) (long : Bool) (w : World) (hm : mayPl l long = true) (hv : IsInts .i64 w v l) (hvb : ∀ b, blockOf v = some b → b < w.heap.size) :
    Calls Try.prog 36 #[v, .bool long] w (RQD (plPre l long l.length) w) := by
  unfold mayPl at hm
  simp only [Bool.and_eq_true, decide_eq_true_eq] at hm
  obtain ⟨⟨⟨k1, k2⟩, k3⟩, k4⟩ := hm
  have HA : Hid (∀ x ∈ l, 0 ≤ x ∧ x ≤ 1048576) := by
    intro x hx
    have := List.all_eq_true.1 k4 x hx
    simp only [okPl, Bool.and_eq_true, decide_eq_true_eq] at this
    omega
  have HV : Hid (IsInts .i64 w v l) := hv
  have HVB : Hid _ := hvb
  rcases hv with ⟨⟨ad, rfl⟩, rfl⟩ | ⟨g, off, c, rfl, p1, p2, p3⟩
  · simp at k1
  have hlI : l.length ≤ 70000 := by omega
  clear k3 k4 p3 hvb k2
  go_enter Try.func36, Try.ntmps36
  go_wp2_with fail
  generalize hB : w.heap.size = B at *
  go_loopw [5, 6] (fun v5 i wr => ∃ j : Nat, j ≤ l.length ∧ i = .int .i64 j ∧ RQSt w wr B (.slice (some ⟨g, off, none⟩) l.length c) l (plPre l long j) v5) (fun _ i _ => l.length - (intOf i).toNat)
  case atStart => exact ⟨0, by omega, rfl, HV.out, World.ownsRow_nil _ _ _ _, Kp.refl _ _, hB, HVB.out⟩
  case round =>
    obtain ⟨j, hj, rfl, hs⟩ := hrel
    obtain ⟨p5, c5, rfl⟩ := slice_own hs.2.1
    have HS : Hid (RQSt w wr B (.slice (some ⟨g, off, none⟩) l.length c) l (plPre l long j) (.slice p5 (plPre l long j).length c5)) := hs
    clear hs
    by_cases hlt : j < l.length
    · have hc1 : wr.cell? ⟨g, off + j, none⟩ = some (.int .i64 (l.getD j 0)) := by
        rcases HS.out.1 with ⟨⟨ad, h⟩, h'⟩ | ⟨g1, o1, c1, h, _, _, h3⟩
        · exfalso; rw [h'] at hlt; simp at hlt
        · cases h; exact h3 j hlt
      have hb := HA.out (l.getD j 0) (by rw [List.getD_eq_getElem?_getD, List.getElem?_eq_getElem hlt]; exact List.getElem_mem _)
      obtain ⟨b1, b2⟩ := hb
      have hlen := plPre_len l long j
      have hpre : Hid (plPre l long (j + 1) = plPre l long j ++ if long then bytesN 4 (l.getD j 0) else bytesN 2 (l.getD j 0 / 2)) := rfl
      generalize l.getD j 0 = x at *
      cases long
      · have hroom : (plPre l false j).length ≤ 300000 := by rw [hlen]; simp; omega
        clear hlen
        generalize plPre l false j = acc at *
        have htd : Int.tdiv x 2 = x / 2 := Int.tdiv_eq_ediv_of_nonneg b1
        go_wp2_with fail
        refine (rbytes_calls 2 (x / 2) (by decide) (by decide) (by omega) (by omega) _).mono ?_
        rintro e w3 ⟨v3, rfl, hown3, hk3⟩
        obtain ⟨p3, c3, rfl⟩ := slice_own hown3
        have HS3 : Hid (RQSt w w3 B (.slice (some ⟨g, off, none⟩) l.length c) l acc (.slice p5 acc.length c5)) := HS.out.kp hk3
        have hr3 := Lib.hid (Reads.owned hown3)
        clear hown3 hk3 hc1
        go_wp2_with (at_builtin; refine wpList_app rfl _ _ 22 rfl B 5 (.int .u8 0) 1 1 Try.underlying22 infoByte rfl (by decide) (by decide) (.slice p5 acc.length c5) acc.length (acc.map (Value.int .u8)) rfl ?hown (.slice p3 2 c3) 2 ((bytesN 2 (x / 2)).map (Value.int .u8)) rfl ?hsrc (oneCell_ints _ _) ?hb1 ?hb2 ?hk)
        case hown => exact HS3.out.2.1
        case hsrc => exact hr3.out
        case hb1 => omega
        case hb2 => exact HS3.out.base
        case hk =>
        intro u w4 hown hgr
        have hs4 : RQSt w w4 B (.slice (some ⟨g, off, none⟩) l.length c) l (acc ++ bytesN 2 (x / 2)) u := HS3.out.app (Kp.refl _ _) (by rw [bytesN_length]; exact hown) hgr
        rw [show acc ++ bytesN 2 (x / 2) = plPre l false (j + 1) from hpre.out.symm] at hs4
        clear hown hgr
        go_wp2_with fail
        go_roundw
        case rel => first | exact ⟨j + 1, by omega, int_eq' (by omega), hs4⟩ | ((repeat apply Exists.intro); exact ⟨⟨j + 1, by omega, int_eq' (by omega), hs4⟩, rfl⟩)
        case measure => simp [intOf]; omega
      · have hroom : (plPre l true j).length ≤ 300000 := by rw [hlen]; simp; omega
        clear hlen
        generalize plPre l true j = acc at *
        go_wp2_with fail
        refine (rbytes_calls 4 x (by decide) (by decide) (by omega) (by omega) _).mono ?_
        rintro e w3 ⟨v3, rfl, hown3, hk3⟩
        obtain ⟨p3, c3, rfl⟩ := slice_own hown3
        have HS3 : Hid (RQSt w w3 B (.slice (some ⟨g, off, none⟩) l.length c) l acc (.slice p5 acc.length c5)) := HS.out.kp hk3
        have hr3 := Lib.hid (Reads.owned hown3)
        clear hown3 hk3 hc1
        go_wp2_with (at_builtin; refine wpList_app rfl _ _ 22 rfl B 5 (.int .u8 0) 1 1 Try.underlying22 infoByte rfl (by decide) (by decide) (.slice p5 acc.length c5) acc.length (acc.map (Value.int .u8)) rfl ?hown (.slice p3 4 c3) 4 ((bytesN 4 x).map (Value.int .u8)) rfl ?hsrc (oneCell_ints _ _) ?hb1 ?hb2 ?hk)
        case hown => exact HS3.out.2.1
        case hsrc => exact hr3.out
        case hb1 => omega
        case hb2 => exact HS3.out.base
        case hk =>
        intro u w4 hown hgr
        have hs4 : RQSt w w4 B (.slice (some ⟨g, off, none⟩) l.length c) l (acc ++ bytesN 4 x) u := HS3.out.app (Kp.refl _ _) (by rw [bytesN_length]; exact hown) hgr
        rw [show acc ++ bytesN 4 x = plPre l true (j + 1) from hpre.out.symm] at hs4
        clear hown hgr
        go_wp2_with fail
        go_roundw
        case rel => first | exact ⟨j + 1, by omega, int_eq' (by omega), hs4⟩ | ((repeat apply Exists.intro); exact ⟨⟨j + 1, by omega, int_eq' (by omega), hs4⟩, rfl⟩)
        case measure => simp [intOf]; omega
    · obtain rfl : j = l.length := by omega
      go_wp2_with fail
      go_ret
      exact ⟨_, rfl, IsInts.owned HS.out.2.1, HS.out.2.2.1, fun b hb => by have := own_geb HS.out.2.1 b hb; omega⟩
end Go.Proofs.Ythmokldmdcjklaa

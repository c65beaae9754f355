/- charset.PutSelect in the format 0, and where it refuses; the reference's PutSelect. -/
import Derived.Test.YthmokldmdcjklaaChX
import Derived.Test.YthmokldmdcjklaaWireD
import Derived.Test.YthmokldmdcjklaaChPlainW
import Derived.Deep.RegionHeld3
import Derived.BigQuiet
import Derived.Deep.QuietTactic
namespace Go.Proofs.Ythmokldmdcjklaa
open Go.RowKit
set_option linter.unusedVariables false
set_option linter.unusedSimpArgs false
set_option maxRecDepth 100000 in
set_option maxHeartbeats 1000000 in
theorem putsel_no (v : Value) (l : List Int) (q f : Int) (w : World) (hm : maySel l q f = false) (hz : IsInts .i64 w v l) (hlen : l.length < 4611686018427387904) :
    Calls Try.prog 23 #[v, .int .i64 q, .int .i64 f] w fun e w' => e = .returned (.tuple #[.slice none 0 0, .int .i64 1]) ∧ Kp [] w w' := by
  obtain ⟨pa, ca, hva⟩ : ∃ p c, v = .slice p l.length c := by
    rcases hz with ⟨⟨ad, rfl⟩, rfl⟩ | ⟨g, off, c, rfl, _⟩
    · exact ⟨_, 0, rfl⟩
    · exact ⟨_, c, rfl⟩
  have hz2 := Lib.hid hz
  clear hz
  subst hva
  have HM : Hid _ := hm
  clear hm
  by_cases hc : 1 ≤ l.length ∧ l.length ≤ 65535
  · obtain ⟨hc1, hc2⟩ := hc
    by_cases hq1 : q < 1
    · go_enter Try.func23, Try.ntmps23
      go_wp2_with fail
      refine (count_yes _ (by omega) (by omega) _).mono ?_; rintro e w' ⟨rfl, rfl⟩
      go_wp2_with fail
      go_ret2
      exact ⟨rfl, by (repeat (first | exact Kp.refl _ _ | assumption | refine Kp.drew ?_ | refine Kp.drewN ?_ _ | refine Kp.alloc ?_ _ | (refine Kp.setCell ?_ (by first | (left; simp; done) | (right; simp; try omega)) _) | (refine Kp.trans' ?_ (by assumption) (by simp; try omega))))⟩
    · have hq1' : decide (q < 1) = false := decide_eq_false hq1
      by_cases hq2 : 256 < q
      · go_enter Try.func23, Try.ntmps23
        go_wp2_with fail
        refine (count_yes _ (by omega) (by omega) _).mono ?_; rintro e w' ⟨rfl, rfl⟩
        go_wp2_with fail
        go_ret2
        exact ⟨rfl, by (repeat (first | exact Kp.refl _ _ | assumption | refine Kp.drew ?_ | refine Kp.drewN ?_ _ | refine Kp.alloc ?_ _ | (refine Kp.setCell ?_ (by first | (left; simp; done) | (right; simp; try omega)) _) | (refine Kp.trans' ?_ (by assumption) (by simp; try omega))))⟩
      · have hq2' : decide (256 < q) = false := decide_eq_false hq2
        cases hb : l.all (inB (q - 1))
        · have HB := Lib.hid hb
          clear hb
          go_enter Try.func23, Try.ntmps23
          go_wp2_with fail
          refine (count_yes _ (by omega) (by omega) _).mono ?_; rintro e w' ⟨rfl, rfl⟩
          go_wp2_with fail
          refine (within_calls _ l (q - 1) _ (hz2.out.kp (S := []) ((Kp.refl _ _).alloc _) (by simp))).mono ?_; rintro e w1 ⟨rfl, hk1⟩
          rw [HB.out]
          go_wp2_with fail
          go_ret2
          exact ⟨rfl, ((Kp.refl _ _).alloc _).trans hk1⟩
        · have HB := Lib.hid hb
          have hf : ¬ (f = 0 ∨ f = 3) := by
            intro hf
            have : maySel l q f = true := by
              unfold maySel
              rw [hb, show (f == 0 || f == 3) = true by rcases hf with rfl | rfl <;> rfl, decide_eq_true hc1, decide_eq_true hc2, decide_eq_true (show 1 ≤ q by omega), decide_eq_true (show q ≤ 256 by omega)]; rfl
            rw [HM.out] at this; exact absurd this (by simp)
          have n0 : (f != 0) = true := bne_iff_ne.2 (fun e => hf (.inl e))
          have n3 : (f != 3) = true := bne_iff_ne.2 (fun e => hf (.inr e))
          clear hb hf
          go_enter Try.func23, Try.ntmps23
          go_wp2_with fail
          refine (count_yes _ (by omega) (by omega) _).mono ?_; rintro e w' ⟨rfl, rfl⟩
          go_wp2_with fail
          refine (within_calls _ l (q - 1) _ (hz2.out.kp (S := []) ((Kp.refl _ _).alloc _) (by simp))).mono ?_; rintro e w1 ⟨rfl, hk1⟩
          rw [HB.out]
          go_wp2_with fail
          go_ret2
          exact ⟨rfl, ((Kp.refl _ _).alloc _).trans hk1⟩
  · go_enter Try.func23, Try.ntmps23
    go_wp2_with fail
    refine (count_no _ (by omega) _).mono ?_; rintro e w' ⟨rfl, rfl⟩
    go_wp2_with fail
    go_ret2
    exact ⟨rfl, by (repeat (first | exact Kp.refl _ _ | assumption | refine Kp.drew ?_ | refine Kp.drewN ?_ _ | refine Kp.alloc ?_ _ | (refine Kp.setCell ?_ (by first | (left; simp; done) | (right; simp; try omega)) _) | (refine Kp.trans' ?_ (by assumption) (by simp; try omega))))⟩
/-- Where a put number by number stands in memory. -/
def P0St (w wr : World) (B : Nat) (v : Value) (l : List Int) (j : Nat) (v8 : Value) : Prop :=
  wr.ownsRow B 5 1 v8 (1 + j) ((([0] : List Int) ++ (l.take j).map (· % 256)).map (Value.int .u8)) ∧ IsInts .i64 wr v l ∧ Kp [] w wr ∧ w.heap.size = B ∧ B ≤ wr.heap.size ∧ (∀ b, blockOf v = some b → b < B)
theorem P0St.app {w wr wq w2 : World} {B : Nat} {v : Value} {l : List Int} {j : Nat} {v8 v9 : Value} {x : Int} (h : P0St w wr B v l j v8) (hq : Kp [] wr wq) (hj : j < l.length) (hx : x = l.getD j 0 % 256)
    (hown : w2.ownsRow B 5 1 v9 (1 + j + 1) ((([0] : List Int) ++ (l.take j).map (· % 256)).map (Value.int .u8) ++ [.int .u8 x])) (hg : wq.grownBy w2 v8.ownBlock) : P0St w w2 B v l (j + 1) v9 := by
  obtain ⟨h1, h2, h3, h4, h5, h6⟩ := h
  have hge := own_ge h1
  have hk : Kp [] w w2 := Kp.grown (h3.trans hq) hg (fun k hk => .inr (by have := hge k hk; omega))
  have hk2 : Kp (v8.ownBlock.toList) wr w2 := Kp.grown (hq.more (fun s hs => nomatch hs)) hg (fun k hk => .inl (by rw [hk]; simp))
  refine ⟨?_, h2.kp hk2 ?_, hk, h4, Nat.le_trans h5 hk2.size, h6⟩
  · subst hx
    rw [take_getD l j hj, show 1 + (j + 1) = 1 + j + 1 by omega]; simpa using hown
  · intro s hs; cases hv : v8.ownBlock with
    | none => simp [hv] at hs
    | some b => simp [hv] at hs; subst hs; intro e; have := h6 _ e; have := hge _ hv; omega
theorem P0St.kp {w wr w2 : World} {B : Nat} {v : Value} {l : List Int} {j : Nat} {v8 : Value} (h : P0St w wr B v l j v8) (hq : Kp [] wr w2) : P0St w w2 B v l j v8 :=
  ⟨hq.row h.1 (by simp), h.2.1.kp hq (by simp), h.2.2.1.trans hq, h.2.2.2.1, Nat.le_trans h.2.2.2.2.1 hq.size, h.2.2.2.2.2⟩
set_option maxRecDepth 100000 in
set_option maxHeartbeats 2000000 in
theorem putsel_0 (v : Value) (l : List Int) (q : Int) (w : World) (hm : maySel l q 0 = true) (hz : IsInts .i64 w v l) (hv : ∀ b, blockOf v = some b → b < w.heap.size) :
    Calls Try.prog 23 #[v, .int .i64 q, .int .i64 0] w (Loaded .u8 (some (csPutSel l 0)) 0 w) := by
  have hm2 := hm
  unfold maySel at hm2
  simp only [Bool.and_eq_true, decide_eq_true_eq] at hm2
  obtain ⟨⟨⟨⟨⟨k1, k2⟩, k3⟩, k4⟩, k5⟩, k6⟩ := hm2
  have HB : Hid _ := k5
  have HA : Hid (∀ c ∈ l, 0 ≤ c ∧ c ≤ 255) := fun c hc => by have := List.all_eq_true.1 k5 c hc; simp [inB] at this; omega
  have HV : Hid _ := hv
  rcases hz with ⟨⟨ad, rfl⟩, rfl⟩ | ⟨g, off, c, rfl, p1, p2, p3⟩
  · simp at k1
  have HZ : Hid (IsInts .i64 w (.slice (some ⟨g, off, none⟩) l.length c) l) := .inr ⟨g, off, c, rfl, p1, p2, p3⟩
  have HR : Hid (csPutSel l 0 = [0] ++ (l.take l.length).map (· % 256)) := by unfold Hid csPutSel; rw [if_pos rfl, List.take_length]
  clear hm k5 k6 hv p3
  go_enter Try.func23, Try.ntmps23
  go_wp2_with fail
  refine (count_yes _ (by omega) (by omega) _).mono ?_; rintro e w' ⟨rfl, rfl⟩
  go_wp2_with fail
  refine (within_calls _ l (q - 1) _ (HZ.out.kp (S := []) ((Kp.refl _ _).alloc _) (by simp))).mono ?_; rintro e w1 ⟨rfl, hk1⟩
  rw [HB.out]
  have hbc : Hid (w1.heap[w.heap.size]? = some (.cells #[.slice (some ⟨g, off, none⟩) l.length c] 24 (0, 0))) := hk1.heap (heap_alloc_new w _) (by simp)
  have hcx := cell_of_one hbc.out
  have hk0 : Kp [] w w1 := ((Kp.refl _ _).alloc _).trans hk1
  have hs1 := hk0.size
  have hst : P0St w (w1.alloc (.cells #[.int .u8 0] 5)) w.heap.size (.slice (some ⟨g, off, none⟩) l.length c) l 0 (.slice (some ⟨w1.heap.size, 0, none⟩) 1 1) :=
    ⟨own_lit w1 _ _ _ 1 1 #[.int .u8 0] rfl (by omega) (by decide) rfl, HZ.out.kp (S := []) (hk0.alloc _) (by simp), hk0.alloc _, rfl, by simp; omega, HV.out⟩
  clear hk1
  generalize hB : w.heap.size = B at *
  have hBl : B < w1.heap.size := lt_of_block hbc.out
  go_wp2_with fail
  clear hcx hbc
  go_loopw [8, 10, 50] (fun v8 _ i wr => ∃ j : Nat, j ≤ l.length ∧ i = .int .i64 j ∧ P0St w wr B (.slice (some ⟨g, off, none⟩) l.length c) l j v8) (fun _ _ i _ => l.length - (intOf i).toNat)
  case atStart => exact ⟨0, by omega, rfl, hst⟩
  case round =>
    obtain ⟨j, hj, rfl, hs⟩ := hrel
    clear hst
    obtain ⟨p8, c8, rfl⟩ := slice_own hs.1
    have HS : Hid (P0St w wr B (.slice (some ⟨g, off, none⟩) l.length c) l j (.slice p8 (1 + j) c8)) := hs
    have hBs := hs.2.2.2.2.1
    clear hs
    by_cases hlt : j < l.length
    · have hcj : wr.cell? ⟨g, off + j, none⟩ = some (.int .i64 (l.getD j 0)) := by
        rcases HS.out.2.1 with ⟨⟨ad, h⟩, h'⟩ | ⟨g1, o1, c1, h, _, _, h3⟩
        · exfalso; rw [h'] at hlt; simp at hlt
        · cases h; exact h3 j hlt
      have hyb : 0 ≤ l.getD j 0 ∧ l.getD j 0 ≤ 255 := HA.out _ (by rw [List.getD_eq_getElem?_getD, List.getElem?_eq_getElem hlt]; exact List.getElem_mem _)
      obtain ⟨y1, y2⟩ := hyb
      have HY : Hid (l.getD j 0 = l.getD j 0) := rfl
      generalize hy : l.getD j 0 = y at hcj y1 y2
      have HX : Hid (y = l.getD j 0 % 256) := by unfold Hid; rw [hy]; omega
      clear HY hy
      go_wp2_with (at_builtin; refine wpList_app rfl _ _ 22 rfl B 5 (.int .u8 0) 1 1 Try.underlying22 infoByte rfl (by decide) (by decide) (.slice p8 (1 + j) c8) (1 + j) ((([0] : List Int) ++ (l.take j).map (· % 256)).map (Value.int .u8)) rfl ?hown (.slice (some ⟨wr.heap.size, 0, none⟩) 1 1) 1 [.int .u8 y] rfl ?hsrc ?hone ?hb1 ?hb2 ?hk)
      case hown => exact HS.out.1.alloc _
      case hsrc => exact Reads.made _ _ 1 1 [.int .u8 y] _ rfl rfl (by decide)
      case hone => first | (intro u hu; simp at hu; subst hu; rfl) | rfl
      case hb1 => omega
      case hb2 => simp; omega
      case hk =>
        intro v9 w3 hown hgr
        have hs3 : P0St w w3 B (.slice (some ⟨g, off, none⟩) l.length c) l (j + 1) v9 := HS.out.app (by (repeat (first | exact Kp.refl _ _ | assumption | refine Kp.drew ?_ | refine Kp.drewN ?_ _ | refine Kp.alloc ?_ _ | (refine Kp.setCell ?_ (by first | (left; simp; done) | (right; simp; try omega)) _) | (refine Kp.trans' ?_ (by assumption) (by simp; try omega))))) hlt HX.out (by simpa using hown) hgr
        clear hown hgr
        go_wp2_with fail
        go_roundw
        case rel => first | exact ⟨j + 1, by omega, int_eq (by omega), hs3⟩ | ((repeat apply Exists.intro); exact ⟨⟨j + 1, by omega, int_eq (by omega), hs3⟩, rfl⟩)
        case measure => simp [intOf]; omega
    · obtain rfl : j = l.length := by omega
      go_wp2_with fail
      go_ret2
      refine .inr ⟨_, _, rfl, rfl, ?_, HS.out.2.2.1, fun b hb => by have := own_geb HS.out.1 b hb; have := HS.out.2.2.2.1; omega⟩
      rw [HR.out]; exact IsInts.owned HS.out.1
end Go.Proofs.Ythmokldmdcjklaa

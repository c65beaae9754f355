/- stack: the reference's Do, operator by operator. (Written by wip/stack/genrd.py.) -/
import Derived.Test.YtlnmpffpieofeaaStRd
import Derived.Test.YtlnmpffpieofeaaFixB
namespace Go.Proofs.Ytlnmpffpieofeaa
open Go.RowKit
set_option linter.unusedVariables false
set_option linter.unusedSimpArgs false
/-- What a call of the reference's Do leaves. -/
def RDo (w : World) (r base : Nat) (vL : Value) (vD : Value) (draws : List Int) (used : Nat) (res : Int × List Int × List Int × List Int) (e : Ending) (w' : World) : Prop :=
  e = .returned (.int .i64 res.1) ∧ ∃ (vL' : Value) (used' : Nat), used' ≤ used + 1 ∧ res.2.2.2 = draws.drop used' ∧ RfS w' r base vL' res.2.1 res.2.2.1 vD draws used' ∧ RfK w w' r vL vL'
theorem RDo.same {w w' : World} {r base used : Nat} {vL vD : Value} {l st draws : List Int} (h : RfS w r base vL l st vD draws used) (hk : Kp [] w w') (er : Int) : RDo w r base vL vD draws used (er, l, st, draws.drop used) (.returned (.int .i64 er)) w' :=
  ⟨rfl, vL, used, by omega, rfl, h.kp hk (fun t ht => nomatch ht), RfK.same r vL hk⟩
/-- Where the numbers of a reference's Stack lie: those below (lo) and those needed (hi). -/
theorem RfS.parts {w : World} {r base used : Nat} {vL vD : Value} {lo hi st draws : List Int} (h : RfS w r base vL (lo ++ hi) st vD draws used) (hk : 1 ≤ hi.length) :
    ∃ g c, vL = .slice (some ⟨g, 0, none⟩) (lo.length + hi.length) c ∧ lo.length + hi.length ≤ c ∧ c ≤ maxLen ∧ (∀ W, Kp [] w W → W.cell? ⟨r, 0, none⟩ = some (.slice (some ⟨g, 0, none⟩) (lo.length + hi.length) c)) ∧ (∀ W, Kp [] w W → W.frozen? ⟨r, 0, none⟩ = false) ∧
      (∀ W, Kp [] w W → ∀ i, i < hi.length → W.cell? ⟨g, lo.length + i, none⟩ = some (.int .i64 (hi.getD i 0))) ∧ (∀ W, Kp [] w W → ∀ n, n ≤ lo.length → IsInts .i64 W (.slice (some ⟨g, 0, none⟩) n c) (lo.take n)) := by
  obtain ⟨p, c, rfl⟩ := h.2.2.2.1.form
  obtain ⟨g, rfl, _, hlc, hcm, hbg, hcs⟩ := h.2.2.2.1.pos (by intro e; rw [List.append_eq_nil_iff] at e; rw [e.2] at hk; simp at hk)
  have hl : (lo ++ hi).length = lo.length + hi.length := by simp
  rw [hl] at hlc hcs
  refine ⟨g, c, by rw [hl], hlc, hcm, fun W hW => ?_, fun W hW => frozen_of_row W r 0 _ _ (hW.heap h.1 (by simp)), fun W hW i hi' => ?_, fun W hW n hn => .inr ⟨g, 0, c, ?_, ?_, hcm, fun i hi' => ?_⟩⟩
  · have := hW.cell h.cell0 (by simp); rw [hl] at this; exact this
  · have := hW.cell (hcs (lo.length + i) (by omega)) (by simp)
    rw [List.getD_eq_getElem?_getD, List.getElem?_append_right (by omega), show lo.length + i - lo.length = i by omega, ← List.getD_eq_getElem?_getD] at this
    exact this
  · rw [show (lo.take n).length = n by simp; omega]
  · simp; omega
  · have hin : i < n := by simp at hi'; omega
    have := hW.cell (hcs i (by omega)) (by simp)
    rw [Nat.zero_add, this, List.getD_eq_getElem?_getD, List.getElem?_append_left (by omega), List.getD_eq_getElem?_getD, List.getElem?_take_of_lt hin]
theorem RfS.putStore {w : World} {r base : Nat} {vL vD : Value} {l st draws : List Int} {used : Nat} (h : RfS w r base vL l st vD draws used) (n : Nat) (hn : n < 32) (x : Int) :
    RfS (w.setCell ⟨r, n + 1, none⟩ (.int .i64 x)) r base vL l (st.set n x) vD draws used ∧ Kp [r] w (w.setCell ⟨r, n + 1, none⟩ (.int .i64 x)) := by
  have hk : Kp [r] w (w.setCell ⟨r, n + 1, none⟩ (.int .i64 x)) := (Kp.refl _ _).setCell (.inl (by simp)) _
  have hr := h.lt
  obtain ⟨c1, c2, c3, c4, c5, c6, c7⟩ := h
  refine ⟨⟨?_, by simp [c2], c3, c4.kp hk (fun t ht => by simp at ht; subst ht; exact c5), c5, c6.kp hk (fun t ht e => by simp at ht; subst ht; have := c7 _ e; omega), c7⟩, hk⟩
  rw [heap_setCell_same w r (n + 1) _ _ (.int .i64 x) c1]
  have : ((vL :: (st.map (Value.int .i64) ++ [vD, .int .i64 used])).toArray.setIfInBounds (n + 1) (.int .i64 x)) = (vL :: ((st.set n x).map (Value.int .i64) ++ [vD, .int .i64 used])).toArray := by
    apply Array.ext'
    simp only [Array.toList_setIfInBounds, List.set_cons_succ]
    rw [List.set_append_left _ _ (by simp; omega), List.map_set]
  rw [this]
theorem rfloor_kq (a b : Int) (ha : -9223372036854775808 ≤ a) (hq : -9223372036854775808 ≤ a / b) (ha' : a ≤ 9223372036854775807) (hb : 0 < b) (hb' : b ≤ 9223372036854775807) (w : World) :
    Calls Try.prog 30 #[.int .i64 a, .int .i64 b] w fun e w' => e = .returned (.int .i64 (a / b)) ∧ Kp [] w w' :=
  (rfloor_calls a b ha hq ha' hb hb' w).mono fun e w' ⟨h1, h2⟩ => ⟨h1, Kp.of_below h2⟩
theorem IsInts.reads' {k : IntKind} {w : World} {p : Option Addr} {n c : Nat} {zs : List Int} (h : IsInts k w (.slice p n c) zs) : Reads 1 w (.slice p n c) n (zs.map (Value.int k)) := by
  have hn : n = zs.length := by
    rcases h with ⟨⟨a, e⟩, h0⟩ | ⟨g, off, cap, e, _⟩
    · cases e; rw [h0]; rfl
    · cases e; rfl
  have := h.reads; rw [← hn] at this; exact this

set_option maxRecDepth 100000 in
set_option maxHeartbeats 4000000 in
theorem rdo_18 (r base used : Nat) (vL vD : Value) (lo st draws : List Int) (a : Int) (w : World) (h : RfS w r base vL (lo ++ [a]) st vD draws used) (hlo : lo.length + 1 ≤ 48)  :
    Calls Try.prog 20 #[.pointer (some ⟨r, 0, none⟩), .int .i64 18] w (RDo w r base vL vD draws used (0, lo, st, draws.drop used)) := by
  have HPL : Hid (∀ (a b : Int) (W : World), Calls Try.prog 29 #[.int .i64 18, .int .i64 a, .int .i64 b] W fun e w' => e = .returned (.tuple #[.int .i64 0, .int .i64 0, .bool false]) ∧ Kp [] W w') := fun a b W => rplain_mov 18 a b (by simp [isMov]) W
  have HLO := Lib.hid hlo
  have H := Lib.hid h
  obtain ⟨g, c, rfl, hc1, hc2, hC0, hF0, hCX, hIL⟩ := h.parts (by simp)
  have C00 := Lib.hid hC0
  have F00 := Lib.hid hF0
  have CX := Lib.hid hCX
  have HIL := Lib.hid hIL
  have HM2 := Lib.hid hc2
  simp only [List.length_cons, List.length_nil, Nat.zero_add, Nat.reduceAdd] at hc1 C00 H ⊢
  have hcN : ¬ (c = 0) := by omega
  have hcN2 : ¬ (c = lo.length) := by omega
  have hcI : (lo.length : Int) ≤ c := by omega
  have hl0 : (0 : Int) ≤ lo.length := by omega
  have hlI : (lo.length : Int) ≤ (lo.length : Int) + 1 := by omega
  have w3' : IntKind.i64.wrap (lo.length : Int) = (lo.length : Int) := wI _ (by omega) (by omega)
  have w4' : wrap64 (lo.length : Int) = (lo.length : Int) := w64 _ (by omega) (by omega)
  have w2' : IntKind.i64.wrap ((lo.length : Int) + 1 - 1) = (lo.length : Int) := (wI _ (by omega) (by omega)).trans (by omega)
  have q0 : Hid (∀ W, Kp [] w W → W.cell? ⟨g, lo.length, none⟩ = some (.int .i64 a)) := fun W hW => CX.out W hW 0 (by simp)
  clear h hC0 hF0 hCX hIL hc2
  have c0 := C00.out w (Kp.refl _ _)
  have q := KW.cell c0
  go_enter Try.func20, Try.ntmps20
  go_wp2_with fail
  refine (rneed_calls 18 _).mono ?_; rintro e w0 ⟨rfl, rfl⟩
  rw [show rneed 18 = 1 by decide]
  go_wp2_with fail
  refine wp_region_kq (by kernel_rfl) (by kernel_rfl) ?_
  repeat (go_big_quiet_step (fail))
  refine wpQuiet_nil ?_
  intro w1 hw'
  obtain ⟨⟨_, hkw1⟩, rfl⟩ := hw'
  clear q c0 w2' w3' w4'
  go_wp2_with fail
  have qq0 := KW.cell (q0.out w1 hkw1)
  refine wp_region_kq (by kernel_rfl) (by kernel_rfl) ?_
  repeat (go_big_quiet_step ((go_at_call 29; exact Calls.kq (HPL.out _ _ _))))
  refine wpQuiet_nil ?_
  intro w2 hw'
  obtain ⟨⟨_, hkw2⟩, rfl⟩ := hw'
  clear qq0
  have hkt2 : Kp [] w w2 := hkw1.trans hkw2
  have ILO : Hid (∀ W, Kp [] w W → IsInts .i64 W (.slice (some ⟨g, 0, none⟩) lo.length c) lo) := fun W hW => by have := HIL.out W hW lo.length (Nat.le_refl _); rw [List.take_length] at this; exact this
  have ILW : Hid (∀ V, Kp [] (w2) V → IsInts .i64 V (.slice (some ⟨g, 0, none⟩) lo.length c) lo) := fun V hV => ILO.out V (Kp.trans (hkt2) hV)
  have HLEN : Hid (lo.length + 0 ≤ 48) := by have := HLO.out; show _ ≤ _; omega
  have INI : Hid (∀ V, Kp [] w2 V → IsInts .i64 V (.slice none 0 0) []) := fun V _ => .inl ⟨⟨_, rfl⟩, rfl⟩
  have hng : decide ((48 : Int) < lo.length) = false := decide_eq_false (by omega)
  have HKW : Hid (Kp [] w (w2)) := hkt2
  have HSZ : Hid (w.heap.size ≤ w2.heap.size) := by have := HKW.out.size; (try simp at this); show _ ≤ _; first | omega | (simp [World.setCell]; done)
  go_wp2_with (at_builtin; refine wpList_app rfl _ _ 22 rfl (w2.heap.size) 3 (.int .i64 0) 1 8 Try.underlying22 infoIntS rfl (by decide) (by decide) (.slice (some ⟨w2.heap.size, 0, none⟩) 0 0) 0 [] rfl ?xown (.slice (some ⟨g, 0, none⟩) lo.length c) (lo.length) ((lo).map (Value.int .i64)) rfl ?xsrc (oneCell_ints _ _) ?xb1 (by first | (simp; done) | (simp [World.setCell]; done)) ?xk)
  case xown => exact own_empty _ _ _ _ _ (by first | (simp; done) | (simp [World.setCell]; done)) (Nat.le_refl _)
  case xsrc => exact (ILW.out _ ((Kp.refl [] (w2)).alloc _)).reads'
  try (case xb1 => (skip; have := HLEN.out; omega))
  case xk =>
  intro v7 w7 hown hgr
  skip
  try simp only [Nat.zero_add, List.nil_append] at hown
  have hk7 : Kp [] (w2) w7 := Kp.grown ((Kp.refl _ _).alloc _) hgr (by intro k hk; right; simp [Value.ownBlock] at hk ⊢; first | omega | (simp [World.setCell]; omega))
  have HBL := Lib.hid (own_ge hown)
  obtain ⟨p7, q7, rfl⟩ := slice_own hown
  have HO := Lib.hid hown
  have HK7 := Lib.hid hk7
  clear hown hgr hk7
  go_wp2_with (at_builtin; refine wpList_app rfl _ _ 22 rfl (w2.heap.size) 3 (.int .i64 0) 1 8 Try.underlying22 infoIntS rfl (by decide) (by decide) (.slice p7 (lo.length) q7) (lo.length) ((lo).map (Value.int .i64)) rfl ?yown (.slice none 0 0) (0) ((([] : List Int)).map (Value.int .i64)) rfl ?ysrc (oneCell_ints _ _) ?yb1 (by have := HK7.out.size; (try simp at this); first | omega | (simp [World.setCell] at this; omega)) ?yk)
  case yown => first | exact HO.out | (rw [List.map_take]; exact HO.out) | simpa using HO.out
  case ysrc => exact (INI.out _ HK7.out).reads'
  try (case yb1 => (have := HLEN.out; omega))
  case yk =>
  intro v8 w8 hown hgr
  have hk8 : Kp [] (w2) w8 := Kp.grown HK7.out hgr (fun k hk => .inr (by have := HBL.out k hk; (try simp); first | omega | (simp [World.setCell]; omega)))
  have hkw8 : Kp [] w w8 := HKW.out.trans hk8
  have ho : OwnC w8 w.heap.size 3 v8 (lo ++ ([] : List Int)) := OwnC_mono (OwnC.owned (n := lo.length + 0) (Nat.le_refl _) (by have := HLEN.out; simp; try omega) (by first | (rw [List.map_append]; exact hown) | simpa using hown)) HSZ.out
  have HFIN := Lib.hid (H.out.put hkw8 ho)
  have c8 := C00.out _ hkw8
  have f8 := F00.out _ hkw8
  obtain ⟨p8, q8, rfl⟩ := slice_own hown
  clear hown hgr hk8 ho hkw8
  go_wp2_with fail
  go_ret
  rw [List.append_nil] at HFIN
  exact ⟨rfl, _, used, by omega, rfl, HFIN.out.1, HFIN.out.2⟩
set_option maxRecDepth 100000 in
set_option maxHeartbeats 4000000 in
theorem rdo_27 (r base used : Nat) (vL vD : Value) (lo st draws : List Int) (a : Int) (w : World) (h : RfS w r base vL (lo ++ [a]) st vD draws used) (hlo : lo.length + 1 ≤ 48) (hfit : lo.length + 2 ≤ 48) :
    Calls Try.prog 20 #[.pointer (some ⟨r, 0, none⟩), .int .i64 27] w (RDo w r base vL vD draws used (0, lo ++ [a, a], st, draws.drop used)) := by
  have HPL : Hid (∀ (a b : Int) (W : World), Calls Try.prog 29 #[.int .i64 27, .int .i64 a, .int .i64 b] W fun e w' => e = .returned (.tuple #[.int .i64 0, .int .i64 0, .bool false]) ∧ Kp [] W w') := fun a b W => rplain_mov 27 a b (by simp [isMov]) W
  have HLO := Lib.hid hlo
  have HFT := Lib.hid hfit
  clear hfit
  have H := Lib.hid h
  obtain ⟨g, c, rfl, hc1, hc2, hC0, hF0, hCX, hIL⟩ := h.parts (by simp)
  have C00 := Lib.hid hC0
  have F00 := Lib.hid hF0
  have CX := Lib.hid hCX
  have HIL := Lib.hid hIL
  have HM2 := Lib.hid hc2
  simp only [List.length_cons, List.length_nil, Nat.zero_add, Nat.reduceAdd] at hc1 C00 H ⊢
  have hcN : ¬ (c = 0) := by omega
  have hcN2 : ¬ (c = lo.length) := by omega
  have hcI : (lo.length : Int) ≤ c := by omega
  have hl0 : (0 : Int) ≤ lo.length := by omega
  have hlI : (lo.length : Int) ≤ (lo.length : Int) + 1 := by omega
  have w3' : IntKind.i64.wrap (lo.length : Int) = (lo.length : Int) := wI _ (by omega) (by omega)
  have w4' : wrap64 (lo.length : Int) = (lo.length : Int) := w64 _ (by omega) (by omega)
  have w2' : IntKind.i64.wrap ((lo.length : Int) + 1 - 1) = (lo.length : Int) := (wI _ (by omega) (by omega)).trans (by omega)
  have q0 : Hid (∀ W, Kp [] w W → W.cell? ⟨g, lo.length, none⟩ = some (.int .i64 a)) := fun W hW => CX.out W hW 0 (by simp)
  clear h hC0 hF0 hCX hIL hc2
  have c0 := C00.out w (Kp.refl _ _)
  have q := KW.cell c0
  go_enter Try.func20, Try.ntmps20
  go_wp2_with fail
  refine (rneed_calls 27 _).mono ?_; rintro e w0 ⟨rfl, rfl⟩
  rw [show rneed 27 = 1 by decide]
  go_wp2_with fail
  refine wp_region_kq (by kernel_rfl) (by kernel_rfl) ?_
  repeat (go_big_quiet_step (fail))
  refine wpQuiet_nil ?_
  intro w1 hw'
  obtain ⟨⟨_, hkw1⟩, rfl⟩ := hw'
  clear q c0 w2' w3' w4'
  go_wp2_with fail
  have qq0 := KW.cell (q0.out w1 hkw1)
  refine wp_region_kq (by kernel_rfl) (by kernel_rfl) ?_
  repeat (go_big_quiet_step ((go_at_call 29; exact Calls.kq (HPL.out _ _ _))))
  refine wpQuiet_nil ?_
  intro w2 hw'
  obtain ⟨⟨_, hkw2⟩, rfl⟩ := hw'
  clear qq0
  have hkt2 : Kp [] w w2 := hkw1.trans hkw2
  go_wp2_with fail
  have qq0 := KW.cell (q0.out w2 hkt2)
  refine wp_region_kqt 6 (by kernel_rfl) (by kernel_rfl) ?_
  simp only [List.take_succ_cons, List.take_zero, List.drop_succ_cons, List.drop_zero]
  repeat (go_big_quiet_step (fail))
  refine wpQuiet_nil ?_
  intro w3 hw'
  obtain ⟨⟨_, hkw3⟩, rfl⟩ := hw'
  try dsimp only
  clear qq0
  have hkt3 : Kp [] w w3 := hkt2.trans hkw3
  have ILO : Hid (∀ W, Kp [] w W → IsInts .i64 W (.slice (some ⟨g, 0, none⟩) lo.length c) lo) := fun W hW => by have := HIL.out W hW lo.length (Nat.le_refl _); rw [List.take_length] at this; exact this
  have ILW : Hid (∀ V, Kp [] (w3.alloc (.cells #[.int .i64 a, .int .i64 a] 3)) V → IsInts .i64 V (.slice (some ⟨g, 0, none⟩) lo.length c) lo) := fun V hV => ILO.out V (Kp.trans (hkt3.alloc _) hV)
  have IOL : Hid (∀ V, Kp [] (w3.alloc (.cells #[.int .i64 a, .int .i64 a] 3)) V → IsInts .i64 V (.slice (some ⟨w3.heap.size, 0, none⟩) 2 2) [a, a]) := fun V hV => lit_ints w3 V [a, a] 3 #[.int .i64 a, .int .i64 a] rfl (by simp [maxLen]) hV
  have HLEN : Hid (lo.length + 2 ≤ 48) := HFT.out
  have hng : decide ((48 : Int) < (lo.length : Int) + 2) = false := decide_eq_false (by have := HLEN.out; omega)
  have Hhwl : Hid (wrap64 ((lo.length : Int) + 2) = (lo.length : Int) + 2) := w64 _ (by omega) (by omega)
  have Hhwl2 : Hid (IntKind.i64.wrap ((lo.length : Int) + 2) = (lo.length : Int) + 2) := wI _ (by omega) (by omega)
  have HKW : Hid (Kp [] w (w3.alloc (.cells #[.int .i64 a, .int .i64 a] 3))) := hkt3.alloc _
  have HSZ : Hid (w.heap.size ≤ w3.heap.size + 1) := by have := HKW.out.size; (try simp at this); show _ ≤ _; first | omega | (simp [World.setCell]; done)
  have hwl := Hhwl.out
  have hwl2 := Hhwl2.out
  go_wp2_with (at_builtin; refine wpList_app rfl _ _ 22 rfl (w3.heap.size + 1) 3 (.int .i64 0) 1 8 Try.underlying22 infoIntS rfl (by decide) (by decide) (.slice (some ⟨w3.heap.size + 1, 0, none⟩) 0 0) 0 [] rfl ?xown (.slice (some ⟨g, 0, none⟩) lo.length c) (lo.length) ((lo).map (Value.int .i64)) rfl ?xsrc (oneCell_ints _ _) ?xb1 (by first | (simp; done) | (simp [World.setCell]; done)) ?xk)
  case xown => exact own_empty _ _ _ _ _ (by first | (simp; done) | (simp [World.setCell]; done)) (Nat.le_refl _)
  case xsrc => exact (ILW.out _ ((Kp.refl [] (w3.alloc (.cells #[.int .i64 a, .int .i64 a] 3))).alloc _)).reads'
  try (case xb1 => (clear hwl hwl2; have := HLEN.out; omega))
  case xk =>
  intro v7 w7 hown hgr
  clear hwl hwl2
  try simp only [Nat.zero_add, List.nil_append] at hown
  have hk7 : Kp [] (w3.alloc (.cells #[.int .i64 a, .int .i64 a] 3)) w7 := Kp.grown ((Kp.refl _ _).alloc _) hgr (by intro k hk; right; simp [Value.ownBlock] at hk ⊢; first | omega | (simp [World.setCell]; omega))
  have HBL := Lib.hid (own_ge hown)
  obtain ⟨p7, q7, rfl⟩ := slice_own hown
  have HO := Lib.hid hown
  have HK7 := Lib.hid hk7
  clear hown hgr hk7
  go_wp2_with (at_builtin; refine wpList_app rfl _ _ 22 rfl (w3.heap.size + 1) 3 (.int .i64 0) 1 8 Try.underlying22 infoIntS rfl (by decide) (by decide) (.slice p7 (lo.length) q7) (lo.length) ((lo).map (Value.int .i64)) rfl ?yown (.slice (some ⟨w3.heap.size, 0, none⟩) 2 2) (2) (([a, a]).map (Value.int .i64)) rfl ?ysrc (oneCell_ints _ _) ?yb1 (by have := HK7.out.size; (try simp at this); first | omega | (simp [World.setCell] at this; omega)) ?yk)
  case yown => first | exact HO.out | (rw [List.map_take]; exact HO.out) | simpa using HO.out
  case ysrc => exact (IOL.out _ HK7.out).reads'
  try (case yb1 => (have := HLEN.out; omega))
  case yk =>
  intro v8 w8 hown hgr
  have hk8 : Kp [] (w3.alloc (.cells #[.int .i64 a, .int .i64 a] 3)) w8 := Kp.grown HK7.out hgr (fun k hk => .inr (by have := HBL.out k hk; (try simp); first | omega | (simp [World.setCell]; omega)))
  have hkw8 : Kp [] w w8 := HKW.out.trans hk8
  have ho : OwnC w8 w.heap.size 3 v8 (lo ++ [a, a]) := OwnC_mono (OwnC.owned (n := lo.length + 2) (Nat.le_refl _) (by have := HLEN.out; simp; try omega) (by first | (rw [List.map_append]; exact hown) | simpa using hown)) HSZ.out
  have HFIN := Lib.hid (H.out.put hkw8 ho)
  have c8 := C00.out _ hkw8
  have f8 := F00.out _ hkw8
  obtain ⟨p8, q8, rfl⟩ := slice_own hown
  clear hown hgr hk8 ho hkw8
  go_wp2_with fail
  go_ret
  exact ⟨rfl, _, used, by omega, rfl, HFIN.out.1, HFIN.out.2⟩
set_option maxRecDepth 100000 in
set_option maxHeartbeats 4000000 in
theorem rdo_27_over (r base used : Nat) (vL vD : Value) (lo st draws : List Int) (a : Int) (w : World) (h : RfS w r base vL (lo ++ [a]) st vD draws used) (hlo : lo.length + 1 ≤ 48) (hfit : lo.length = 47) :
    Calls Try.prog 20 #[.pointer (some ⟨r, 0, none⟩), .int .i64 27] w (RDo w r base vL vD draws used (170, lo ++ [a], st, draws.drop used)) := by
  have HPL : Hid (∀ (a b : Int) (W : World), Calls Try.prog 29 #[.int .i64 27, .int .i64 a, .int .i64 b] W fun e w' => e = .returned (.tuple #[.int .i64 0, .int .i64 0, .bool false]) ∧ Kp [] W w') := fun a b W => rplain_mov 27 a b (by simp [isMov]) W
  have HLO := Lib.hid hlo
  have HFT := Lib.hid hfit
  clear hfit
  have H := Lib.hid h
  obtain ⟨g, c, rfl, hc1, hc2, hC0, hF0, hCX, hIL⟩ := h.parts (by simp)
  have C00 := Lib.hid hC0
  have F00 := Lib.hid hF0
  have CX := Lib.hid hCX
  have HIL := Lib.hid hIL
  have HM2 := Lib.hid hc2
  simp only [List.length_cons, List.length_nil, Nat.zero_add, Nat.reduceAdd] at hc1 C00 H ⊢
  have hcN : ¬ (c = 0) := by omega
  have hcN2 : ¬ (c = lo.length) := by omega
  have hcI : (lo.length : Int) ≤ c := by omega
  have hl0 : (0 : Int) ≤ lo.length := by omega
  have hlI : (lo.length : Int) ≤ (lo.length : Int) + 1 := by omega
  have w3' : IntKind.i64.wrap (lo.length : Int) = (lo.length : Int) := wI _ (by omega) (by omega)
  have w4' : wrap64 (lo.length : Int) = (lo.length : Int) := w64 _ (by omega) (by omega)
  have w2' : IntKind.i64.wrap ((lo.length : Int) + 1 - 1) = (lo.length : Int) := (wI _ (by omega) (by omega)).trans (by omega)
  have q0 : Hid (∀ W, Kp [] w W → W.cell? ⟨g, lo.length, none⟩ = some (.int .i64 a)) := fun W hW => CX.out W hW 0 (by simp)
  clear h hC0 hF0 hCX hIL hc2
  have c0 := C00.out w (Kp.refl _ _)
  have q := KW.cell c0
  go_enter Try.func20, Try.ntmps20
  go_wp2_with fail
  refine (rneed_calls 27 _).mono ?_; rintro e w0 ⟨rfl, rfl⟩
  rw [show rneed 27 = 1 by decide]
  go_wp2_with fail
  refine wp_region_kq (by kernel_rfl) (by kernel_rfl) ?_
  repeat (go_big_quiet_step (fail))
  refine wpQuiet_nil ?_
  intro w1 hw'
  obtain ⟨⟨_, hkw1⟩, rfl⟩ := hw'
  clear q c0 w2' w3' w4'
  go_wp2_with fail
  have qq0 := KW.cell (q0.out w1 hkw1)
  refine wp_region_kq (by kernel_rfl) (by kernel_rfl) ?_
  repeat (go_big_quiet_step ((go_at_call 29; exact Calls.kq (HPL.out _ _ _))))
  refine wpQuiet_nil ?_
  intro w2 hw'
  obtain ⟨⟨_, hkw2⟩, rfl⟩ := hw'
  clear qq0
  have hkt2 : Kp [] w w2 := hkw1.trans hkw2
  go_wp2_with fail
  have qq0 := KW.cell (q0.out w2 hkt2)
  refine wp_region_kqt 6 (by kernel_rfl) (by kernel_rfl) ?_
  simp only [List.take_succ_cons, List.take_zero, List.drop_succ_cons, List.drop_zero]
  repeat (go_big_quiet_step (fail))
  refine wpQuiet_nil ?_
  intro w3 hw'
  obtain ⟨⟨_, hkw3⟩, rfl⟩ := hw'
  try dsimp only
  clear qq0
  have hkt3 : Kp [] w w3 := hkt2.trans hkw3
  have hng : decide ((48 : Int) < (lo.length : Int) + 2) = true := decide_eq_true (by have := HFT.out; omega)
  have hwl : wrap64 ((lo.length : Int) + 2) = (lo.length : Int) + 2 := w64 _ (by omega) (by omega)
  have hwl2 : IntKind.i64.wrap ((lo.length : Int) + 2) = (lo.length : Int) + 2 := wI _ (by omega) (by omega)
  have h2 := Lib.hid (RDo.same H.out (hkt3.alloc (.cells #[.int .i64 a, .int .i64 a] 3)) 170)
  go_wp2_with fail
  go_ret
  exact h2.out
set_option maxRecDepth 100000 in
set_option maxHeartbeats 4000000 in
theorem rdo_28 (r base used : Nat) (vL vD : Value) (lo st draws : List Int) (a b : Int) (w : World) (h : RfS w r base vL (lo ++ [a, b]) st vD draws used) (hlo : lo.length + 2 ≤ 48)  :
    Calls Try.prog 20 #[.pointer (some ⟨r, 0, none⟩), .int .i64 28] w (RDo w r base vL vD draws used (0, lo ++ [b, a], st, draws.drop used)) := by
  have HPL : Hid (∀ (a b : Int) (W : World), Calls Try.prog 29 #[.int .i64 28, .int .i64 a, .int .i64 b] W fun e w' => e = .returned (.tuple #[.int .i64 0, .int .i64 0, .bool false]) ∧ Kp [] W w') := fun a b W => rplain_mov 28 a b (by simp [isMov]) W
  have HLO := Lib.hid hlo
  have H := Lib.hid h
  obtain ⟨g, c, rfl, hc1, hc2, hC0, hF0, hCX, hIL⟩ := h.parts (by simp)
  have C00 := Lib.hid hC0
  have F00 := Lib.hid hF0
  have CX := Lib.hid hCX
  have HIL := Lib.hid hIL
  have HM2 := Lib.hid hc2
  simp only [List.length_cons, List.length_nil, Nat.zero_add, Nat.reduceAdd] at hc1 C00 H ⊢
  have hcN : ¬ (c = 0) := by omega
  have hcN2 : ¬ (c = lo.length) := by omega
  have hcI : (lo.length : Int) ≤ c := by omega
  have hl0 : (0 : Int) ≤ lo.length := by omega
  have hlI : (lo.length : Int) ≤ (lo.length : Int) + 2 := by omega
  have w3' : IntKind.i64.wrap (lo.length : Int) = (lo.length : Int) := wI _ (by omega) (by omega)
  have w4' : wrap64 (lo.length : Int) = (lo.length : Int) := w64 _ (by omega) (by omega)
  have w2' : IntKind.i64.wrap ((lo.length : Int) + 2 - 2) = (lo.length : Int) := (wI _ (by omega) (by omega)).trans (by omega)
  have q0 : Hid (∀ W, Kp [] w W → W.cell? ⟨g, lo.length, none⟩ = some (.int .i64 a)) := fun W hW => CX.out W hW 0 (by simp)
  have q1 : Hid (∀ W, Kp [] w W → W.cell? ⟨g, lo.length + 1, none⟩ = some (.int .i64 b)) := fun W hW => CX.out W hW 1 (by simp)
  clear h hC0 hF0 hCX hIL hc2
  have c0 := C00.out w (Kp.refl _ _)
  have q := KW.cell c0
  go_enter Try.func20, Try.ntmps20
  go_wp2_with fail
  refine (rneed_calls 28 _).mono ?_; rintro e w0 ⟨rfl, rfl⟩
  rw [show rneed 28 = 2 by decide]
  go_wp2_with fail
  refine wp_region_kq (by kernel_rfl) (by kernel_rfl) ?_
  repeat (go_big_quiet_step (fail))
  refine wpQuiet_nil ?_
  intro w1 hw'
  obtain ⟨⟨_, hkw1⟩, rfl⟩ := hw'
  clear q c0 w2' w3' w4'
  go_wp2_with fail
  have qq0 := KW.cell (q0.out w1 hkw1)
  have qq1 := KW.cell (q1.out w1 hkw1)
  refine wp_region_kq (by kernel_rfl) (by kernel_rfl) ?_
  repeat (go_big_quiet_step ((go_at_call 29; exact Calls.kq (HPL.out _ _ _))))
  refine wpQuiet_nil ?_
  intro w2 hw'
  obtain ⟨⟨_, hkw2⟩, rfl⟩ := hw'
  clear qq0
  clear qq1
  have hkt2 : Kp [] w w2 := hkw1.trans hkw2
  go_wp2_with fail
  have qq0 := KW.cell (q0.out w2 hkt2)
  have qq1 := KW.cell (q1.out w2 hkt2)
  refine wp_region_kqt 6 (by kernel_rfl) (by kernel_rfl) ?_
  simp only [List.take_succ_cons, List.take_zero, List.drop_succ_cons, List.drop_zero]
  repeat (go_big_quiet_step (fail))
  refine wpQuiet_nil ?_
  intro w3 hw'
  obtain ⟨⟨_, hkw3⟩, rfl⟩ := hw'
  try dsimp only
  clear qq0
  clear qq1
  have hkt3 : Kp [] w w3 := hkt2.trans hkw3
  have ILO : Hid (∀ W, Kp [] w W → IsInts .i64 W (.slice (some ⟨g, 0, none⟩) lo.length c) lo) := fun W hW => by have := HIL.out W hW lo.length (Nat.le_refl _); rw [List.take_length] at this; exact this
  have ILW : Hid (∀ V, Kp [] (w3.alloc (.cells #[.int .i64 b, .int .i64 a] 3)) V → IsInts .i64 V (.slice (some ⟨g, 0, none⟩) lo.length c) lo) := fun V hV => ILO.out V (Kp.trans (hkt3.alloc _) hV)
  have IOL : Hid (∀ V, Kp [] (w3.alloc (.cells #[.int .i64 b, .int .i64 a] 3)) V → IsInts .i64 V (.slice (some ⟨w3.heap.size, 0, none⟩) 2 2) [b, a]) := fun V hV => lit_ints w3 V [b, a] 3 #[.int .i64 b, .int .i64 a] rfl (by simp [maxLen]) hV
  have HLEN : Hid (lo.length + 2 ≤ 48) := by have := HLO.out; show _ ≤ _; omega
  have hng : decide ((48 : Int) < (lo.length : Int) + 2) = false := decide_eq_false (by have := HLEN.out; omega)
  have Hhwl : Hid (wrap64 ((lo.length : Int) + 2) = (lo.length : Int) + 2) := w64 _ (by omega) (by omega)
  have Hhwl2 : Hid (IntKind.i64.wrap ((lo.length : Int) + 2) = (lo.length : Int) + 2) := wI _ (by omega) (by omega)
  have HKW : Hid (Kp [] w (w3.alloc (.cells #[.int .i64 b, .int .i64 a] 3))) := hkt3.alloc _
  have HSZ : Hid (w.heap.size ≤ w3.heap.size + 1) := by have := HKW.out.size; (try simp at this); show _ ≤ _; first | omega | (simp [World.setCell]; done)
  have hwl := Hhwl.out
  have hwl2 := Hhwl2.out
  go_wp2_with (at_builtin; refine wpList_app rfl _ _ 22 rfl (w3.heap.size + 1) 3 (.int .i64 0) 1 8 Try.underlying22 infoIntS rfl (by decide) (by decide) (.slice (some ⟨w3.heap.size + 1, 0, none⟩) 0 0) 0 [] rfl ?xown (.slice (some ⟨g, 0, none⟩) lo.length c) (lo.length) ((lo).map (Value.int .i64)) rfl ?xsrc (oneCell_ints _ _) ?xb1 (by first | (simp; done) | (simp [World.setCell]; done)) ?xk)
  case xown => exact own_empty _ _ _ _ _ (by first | (simp; done) | (simp [World.setCell]; done)) (Nat.le_refl _)
  case xsrc => exact (ILW.out _ ((Kp.refl [] (w3.alloc (.cells #[.int .i64 b, .int .i64 a] 3))).alloc _)).reads'
  try (case xb1 => (clear hwl hwl2; have := HLEN.out; omega))
  case xk =>
  intro v7 w7 hown hgr
  clear hwl hwl2
  try simp only [Nat.zero_add, List.nil_append] at hown
  have hk7 : Kp [] (w3.alloc (.cells #[.int .i64 b, .int .i64 a] 3)) w7 := Kp.grown ((Kp.refl _ _).alloc _) hgr (by intro k hk; right; simp [Value.ownBlock] at hk ⊢; first | omega | (simp [World.setCell]; omega))
  have HBL := Lib.hid (own_ge hown)
  obtain ⟨p7, q7, rfl⟩ := slice_own hown
  have HO := Lib.hid hown
  have HK7 := Lib.hid hk7
  clear hown hgr hk7
  go_wp2_with (at_builtin; refine wpList_app rfl _ _ 22 rfl (w3.heap.size + 1) 3 (.int .i64 0) 1 8 Try.underlying22 infoIntS rfl (by decide) (by decide) (.slice p7 (lo.length) q7) (lo.length) ((lo).map (Value.int .i64)) rfl ?yown (.slice (some ⟨w3.heap.size, 0, none⟩) 2 2) (2) (([b, a]).map (Value.int .i64)) rfl ?ysrc (oneCell_ints _ _) ?yb1 (by have := HK7.out.size; (try simp at this); first | omega | (simp [World.setCell] at this; omega)) ?yk)
  case yown => first | exact HO.out | (rw [List.map_take]; exact HO.out) | simpa using HO.out
  case ysrc => exact (IOL.out _ HK7.out).reads'
  try (case yb1 => (have := HLEN.out; omega))
  case yk =>
  intro v8 w8 hown hgr
  have hk8 : Kp [] (w3.alloc (.cells #[.int .i64 b, .int .i64 a] 3)) w8 := Kp.grown HK7.out hgr (fun k hk => .inr (by have := HBL.out k hk; (try simp); first | omega | (simp [World.setCell]; omega)))
  have hkw8 : Kp [] w w8 := HKW.out.trans hk8
  have ho : OwnC w8 w.heap.size 3 v8 (lo ++ [b, a]) := OwnC_mono (OwnC.owned (n := lo.length + 2) (Nat.le_refl _) (by have := HLEN.out; simp; try omega) (by first | (rw [List.map_append]; exact hown) | simpa using hown)) HSZ.out
  have HFIN := Lib.hid (H.out.put hkw8 ho)
  have c8 := C00.out _ hkw8
  have f8 := F00.out _ hkw8
  obtain ⟨p8, q8, rfl⟩ := slice_own hown
  clear hown hgr hk8 ho hkw8
  go_wp2_with fail
  go_ret
  exact ⟨rfl, _, used, by omega, rfl, HFIN.out.1, HFIN.out.2⟩
set_option maxRecDepth 100000 in
set_option maxHeartbeats 4000000 in
theorem rdo_29 (r base used : Nat) (vL vD : Value) (lo st draws : List Int) (a : Int) (w : World) (h : RfS w r base vL (lo ++ [a]) st vD draws used) (hlo : lo.length + 1 ≤ 48) (ha : mayB a = true) (n m : Nat) (hfit : max (a / 65536) 0 = n ∧ lo.length = m + 1 + n) :
    Calls Try.prog 20 #[.pointer (some ⟨r, 0, none⟩), .int .i64 29] w (RDo w r base vL vD draws used (0, lo ++ [lo.getD m 0], st, draws.drop used)) := by
  have HPL : Hid (∀ (a b : Int) (W : World), Calls Try.prog 29 #[.int .i64 29, .int .i64 a, .int .i64 b] W fun e w' => e = .returned (.tuple #[.int .i64 0, .int .i64 0, .bool false]) ∧ Kp [] W w') := fun a b W => rplain_mov 29 a b (by simp [isMov]) W
  have HLO := Lib.hid hlo
  have HFT := Lib.hid hfit
  clear hfit
  have H := Lib.hid h
  obtain ⟨g, c, rfl, hc1, hc2, hC0, hF0, hCX, hIL⟩ := h.parts (by simp)
  have C00 := Lib.hid hC0
  have F00 := Lib.hid hF0
  have CX := Lib.hid hCX
  have HIL := Lib.hid hIL
  have HM2 := Lib.hid hc2
  simp only [List.length_cons, List.length_nil, Nat.zero_add, Nat.reduceAdd] at hc1 C00 H ⊢
  have hcN : ¬ (c = 0) := by omega
  have hcN2 : ¬ (c = lo.length) := by omega
  have hcI : (lo.length : Int) ≤ c := by omega
  have hl0 : (0 : Int) ≤ lo.length := by omega
  have hlI : (lo.length : Int) ≤ (lo.length : Int) + 1 := by omega
  have w3' : IntKind.i64.wrap (lo.length : Int) = (lo.length : Int) := wI _ (by omega) (by omega)
  have w4' : wrap64 (lo.length : Int) = (lo.length : Int) := w64 _ (by omega) (by omega)
  have w2' : IntKind.i64.wrap ((lo.length : Int) + 1 - 1) = (lo.length : Int) := (wI _ (by omega) (by omega)).trans (by omega)
  have q0 : Hid (∀ W, Kp [] w W → W.cell? ⟨g, lo.length, none⟩ = some (.int .i64 a)) := fun W hW => CX.out W hW 0 (by simp)
  clear h hC0 hF0 hCX hIL hc2
  have c0 := C00.out w (Kp.refl _ _)
  have q := KW.cell c0
  go_enter Try.func20, Try.ntmps20
  go_wp2_with fail
  refine (rneed_calls 29 _).mono ?_; rintro e w0 ⟨rfl, rfl⟩
  rw [show rneed 29 = 1 by decide]
  go_wp2_with fail
  refine wp_region_kq (by kernel_rfl) (by kernel_rfl) ?_
  repeat (go_big_quiet_step (fail))
  refine wpQuiet_nil ?_
  intro w1 hw'
  obtain ⟨⟨_, hkw1⟩, rfl⟩ := hw'
  clear q c0 w2' w3' w4'
  go_wp2_with fail
  have hba := may_le ha
  have HMA := Lib.hid ha
  clear ha
  obtain ⟨ha1, ha2⟩ := hba
  have CLO : Hid (∀ W, Kp [] w W → ∀ m, m < lo.length → W.cell? ⟨g, m, none⟩ = some (.int .i64 (lo.getD m 0))) := fun W hW m hm => by
    have h1 := HIL.out W hW lo.length (Nat.le_refl _)
    rw [List.take_length] at h1
    obtain ⟨g', off', e, h2, _⟩ := h1.at rfl m hm
    cases e; rw [Nat.zero_add] at h2; exact h2
  have qq0 := KW.cell (q0.out w1 hkw1)
  refine wp_region_kq (by kernel_rfl) (by kernel_rfl) ?_
  repeat (go_big_quiet_step ((go_at_call 29; exact Calls.kq (HPL.out _ _ _))))
  refine wpQuiet_nil ?_
  intro w2 hw'
  obtain ⟨⟨_, hkw2⟩, rfl⟩ := hw'
  clear qq0
  have hkt2 : Kp [] w w2 := hkw1.trans hkw2
  have qq := q0.out w2 hkt2
  go_wp2_with fail
  refine (rfloor_kq a 65536 (by omega) (by omega) (by omega) (by decide) (by decide) _).mono ?_; rintro e w3 ⟨rfl, hkw3⟩
  have hkt3 : Kp [] w w3 := hkt2.trans hkw3
  clear qq
  have hz1 : -32768 ≤ a / 65536 := by omega
  have hz2 : a / 65536 ≤ 32768 := by omega
  generalize a / 65536 = z at *
  have HLEN : Hid (lo.length + 1 ≤ 48) := HLO.out
  obtain ⟨hn, hm⟩ := HFT.out
  have hmI : (m : Int) < lo.length := by omega
  have hmc : m < c := by omega
  have hne : ¬ (lo = []) := fun e => by rw [e] at hm; simp at hm; omega
  have cm := CLO.out w3 hkt3 m (by omega)
  generalize lo.getD m 0 = x at *
  by_cases hz : z < 0
  · obtain rfl : n = 0 := by omega
    have hx4 : (lo.length : Int) - 1 = (m : Int) := by omega
    have hge : ¬ ((lo.length : Int) ≤ 0) := by omega
    clear hm hn
    have ILO : Hid (∀ W, Kp [] w W → IsInts .i64 W (.slice (some ⟨g, 0, none⟩) lo.length c) lo) := fun W hW => by have := HIL.out W hW lo.length (Nat.le_refl _); rw [List.take_length] at this; exact this
    have ILW : Hid (∀ V, Kp [] (w3.alloc (.cells #[.int .i64 x] 3)) V → IsInts .i64 V (.slice (some ⟨g, 0, none⟩) lo.length c) lo) := fun V hV => ILO.out V (Kp.trans (hkt3.alloc _) hV)
    have IOL : Hid (∀ V, Kp [] (w3.alloc (.cells #[.int .i64 x] 3)) V → IsInts .i64 V (.slice (some ⟨w3.heap.size, 0, none⟩) 1 1) [x]) := fun V hV => lit_ints w3 V [x] 3 #[.int .i64 x] rfl (by simp [maxLen]) hV
    have hng : decide ((48 : Int) < (lo.length : Int) + 1) = false := decide_eq_false (by have := HLEN.out; omega)
    have Hhwl : Hid (wrap64 ((lo.length : Int) + 1) = (lo.length : Int) + 1) := w64 _ (by omega) (by omega)
    have Hhwl2 : Hid (IntKind.i64.wrap ((lo.length : Int) + 1) = (lo.length : Int) + 1) := wI _ (by omega) (by omega)
    have Hhx1 : Hid (IntKind.i64.wrap ((lo.length : Int) - 1) = (lo.length : Int) - 1) := wI _ (by have := HFT.out; omega) (by have := HFT.out; omega)
    have Hhx6 : Hid (wrap64 ((lo.length : Int) - 1) = (lo.length : Int) - 1) := w64 _ (by have := HFT.out; omega) (by have := HFT.out; omega)
    have Hhx7 : Hid (IntKind.i64.wrap (m : Int) = m) := wI _ (by have := HFT.out; omega) (by have := HFT.out; omega)
    have Hhx8 : Hid (wrap64 (m : Int) = m) := w64 _ (by have := HFT.out; omega) (by have := HFT.out; omega)
    have HKW : Hid (Kp [] w (w3.alloc (.cells #[.int .i64 x] 3))) := hkt3.alloc _
    have HSZ : Hid (w.heap.size ≤ w3.heap.size + 1) := by have := HKW.out.size; (try simp at this); show _ ≤ _; first | omega | (simp [World.setCell]; done)
    have hwl := Hhwl.out
    have hwl2 := Hhwl2.out
    have hx1 := Hhx1.out
    have hx6 := Hhx6.out
    have hx7 := Hhx7.out
    have hx8 := Hhx8.out
    go_wp2_with (at_builtin; refine wpList_app rfl _ _ 22 rfl (w3.heap.size + 1) 3 (.int .i64 0) 1 8 Try.underlying22 infoIntS rfl (by decide) (by decide) (.slice (some ⟨w3.heap.size + 1, 0, none⟩) 0 0) 0 [] rfl ?xown (.slice (some ⟨g, 0, none⟩) lo.length c) (lo.length) ((lo).map (Value.int .i64)) rfl ?xsrc (oneCell_ints _ _) ?xb1 (by first | (simp; done) | (simp [World.setCell]; done)) ?xk)
    case xown => exact own_empty _ _ _ _ _ (by first | (simp; done) | (simp [World.setCell]; done)) (Nat.le_refl _)
    case xsrc => exact (ILW.out _ ((Kp.refl [] (w3.alloc (.cells #[.int .i64 x] 3))).alloc _)).reads'
    try (case xb1 => (clear hwl hwl2 hx1 hx6 hx7 hx8; have := HLEN.out; omega))
    case xk =>
    intro v7 w7 hown hgr
    clear hwl hwl2 hx1 hx6 hx7 hx8
    try simp only [Nat.zero_add, List.nil_append] at hown
    have hk7 : Kp [] (w3.alloc (.cells #[.int .i64 x] 3)) w7 := Kp.grown ((Kp.refl _ _).alloc _) hgr (by intro k hk; right; simp [Value.ownBlock] at hk ⊢; first | omega | (simp [World.setCell]; omega))
    have HBL := Lib.hid (own_ge hown)
    obtain ⟨p7, q7, rfl⟩ := slice_own hown
    have HO := Lib.hid hown
    have HK7 := Lib.hid hk7
    clear hown hgr hk7
    go_wp2_with (at_builtin; refine wpList_app rfl _ _ 22 rfl (w3.heap.size + 1) 3 (.int .i64 0) 1 8 Try.underlying22 infoIntS rfl (by decide) (by decide) (.slice p7 (lo.length) q7) (lo.length) ((lo).map (Value.int .i64)) rfl ?yown (.slice (some ⟨w3.heap.size, 0, none⟩) 1 1) (1) (([x]).map (Value.int .i64)) rfl ?ysrc (oneCell_ints _ _) ?yb1 (by have := HK7.out.size; (try simp at this); first | omega | (simp [World.setCell] at this; omega)) ?yk)
    case yown => first | exact HO.out | (rw [List.map_take]; exact HO.out) | simpa using HO.out
    case ysrc => exact (IOL.out _ HK7.out).reads'
    try (case yb1 => (have := HLEN.out; omega))
    case yk =>
    intro v8 w8 hown hgr
    have hk8 : Kp [] (w3.alloc (.cells #[.int .i64 x] 3)) w8 := Kp.grown HK7.out hgr (fun k hk => .inr (by have := HBL.out k hk; (try simp); first | omega | (simp [World.setCell]; omega)))
    have hkw8 : Kp [] w w8 := HKW.out.trans hk8
    have ho : OwnC w8 w.heap.size 3 v8 (lo ++ [x]) := OwnC_mono (OwnC.owned (n := lo.length + 1) (Nat.le_refl _) (by have := HLEN.out; simp; try omega) (by first | (rw [List.map_append]; exact hown) | simpa using hown)) HSZ.out
    have HFIN := Lib.hid (H.out.put hkw8 ho)
    have c8 := C00.out _ hkw8
    have f8 := F00.out _ hkw8
    obtain ⟨p8, q8, rfl⟩ := slice_own hown
    clear hown hgr hk8 ho hkw8
    go_wp2_with fail
    go_ret
    exact ⟨rfl, _, used, by omega, rfl, HFIN.out.1, HFIN.out.2⟩
  · obtain rfl : z = (n : Int) := by omega
    have hge : ¬ ((lo.length : Int) ≤ n) := by omega
    have hgeN : ¬ (lo.length ≤ n) := by omega
    clear hm hn
    have ILO : Hid (∀ W, Kp [] w W → IsInts .i64 W (.slice (some ⟨g, 0, none⟩) lo.length c) lo) := fun W hW => by have := HIL.out W hW lo.length (Nat.le_refl _); rw [List.take_length] at this; exact this
    have ILW : Hid (∀ V, Kp [] (w3.alloc (.cells #[.int .i64 x] 3)) V → IsInts .i64 V (.slice (some ⟨g, 0, none⟩) lo.length c) lo) := fun V hV => ILO.out V (Kp.trans (hkt3.alloc _) hV)
    have IOL : Hid (∀ V, Kp [] (w3.alloc (.cells #[.int .i64 x] 3)) V → IsInts .i64 V (.slice (some ⟨w3.heap.size, 0, none⟩) 1 1) [x]) := fun V hV => lit_ints w3 V [x] 3 #[.int .i64 x] rfl (by simp [maxLen]) hV
    have hng : decide ((48 : Int) < (lo.length : Int) + 1) = false := decide_eq_false (by have := HLEN.out; omega)
    have Hhwl : Hid (wrap64 ((lo.length : Int) + 1) = (lo.length : Int) + 1) := w64 _ (by omega) (by omega)
    have Hhwl2 : Hid (IntKind.i64.wrap ((lo.length : Int) + 1) = (lo.length : Int) + 1) := wI _ (by omega) (by omega)
    have Hhx1 : Hid (IntKind.i64.wrap ((lo.length : Int) - 1) = (lo.length : Int) - 1) := wI _ (by have := HFT.out; omega) (by have := HFT.out; omega)
    have Hhx6 : Hid (wrap64 ((lo.length : Int) - 1) = (lo.length : Int) - 1) := w64 _ (by have := HFT.out; omega) (by have := HFT.out; omega)
    have Hhx7 : Hid (IntKind.i64.wrap ((lo.length : Int) - 1 - n) = (m : Int)) := (wI _ (by have := HFT.out; omega) (by have := HFT.out; omega)).trans (by have := HFT.out; omega)
    have Hhx8 : Hid (wrap64 ((lo.length : Int) - 1 - n) = (m : Int)) := (w64 _ (by have := HFT.out; omega) (by have := HFT.out; omega)).trans (by have := HFT.out; omega)
    have HKW : Hid (Kp [] w (w3.alloc (.cells #[.int .i64 x] 3))) := hkt3.alloc _
    have HSZ : Hid (w.heap.size ≤ w3.heap.size + 1) := by have := HKW.out.size; (try simp at this); show _ ≤ _; first | omega | (simp [World.setCell]; done)
    have hwl := Hhwl.out
    have hwl2 := Hhwl2.out
    have hx1 := Hhx1.out
    have hx6 := Hhx6.out
    have hx7 := Hhx7.out
    have hx8 := Hhx8.out
    go_wp2_with (at_builtin; refine wpList_app rfl _ _ 22 rfl (w3.heap.size + 1) 3 (.int .i64 0) 1 8 Try.underlying22 infoIntS rfl (by decide) (by decide) (.slice (some ⟨w3.heap.size + 1, 0, none⟩) 0 0) 0 [] rfl ?xown (.slice (some ⟨g, 0, none⟩) lo.length c) (lo.length) ((lo).map (Value.int .i64)) rfl ?xsrc (oneCell_ints _ _) ?xb1 (by first | (simp; done) | (simp [World.setCell]; done)) ?xk)
    case xown => exact own_empty _ _ _ _ _ (by first | (simp; done) | (simp [World.setCell]; done)) (Nat.le_refl _)
    case xsrc => exact (ILW.out _ ((Kp.refl [] (w3.alloc (.cells #[.int .i64 x] 3))).alloc _)).reads'
    try (case xb1 => (clear hwl hwl2 hx1 hx6 hx7 hx8; have := HLEN.out; omega))
    case xk =>
    intro v7 w7 hown hgr
    clear hwl hwl2 hx1 hx6 hx7 hx8
    try simp only [Nat.zero_add, List.nil_append] at hown
    have hk7 : Kp [] (w3.alloc (.cells #[.int .i64 x] 3)) w7 := Kp.grown ((Kp.refl _ _).alloc _) hgr (by intro k hk; right; simp [Value.ownBlock] at hk ⊢; first | omega | (simp [World.setCell]; omega))
    have HBL := Lib.hid (own_ge hown)
    obtain ⟨p7, q7, rfl⟩ := slice_own hown
    have HO := Lib.hid hown
    have HK7 := Lib.hid hk7
    clear hown hgr hk7
    go_wp2_with (at_builtin; refine wpList_app rfl _ _ 22 rfl (w3.heap.size + 1) 3 (.int .i64 0) 1 8 Try.underlying22 infoIntS rfl (by decide) (by decide) (.slice p7 (lo.length) q7) (lo.length) ((lo).map (Value.int .i64)) rfl ?yown (.slice (some ⟨w3.heap.size, 0, none⟩) 1 1) (1) (([x]).map (Value.int .i64)) rfl ?ysrc (oneCell_ints _ _) ?yb1 (by have := HK7.out.size; (try simp at this); first | omega | (simp [World.setCell] at this; omega)) ?yk)
    case yown => first | exact HO.out | (rw [List.map_take]; exact HO.out) | simpa using HO.out
    case ysrc => exact (IOL.out _ HK7.out).reads'
    try (case yb1 => (have := HLEN.out; omega))
    case yk =>
    intro v8 w8 hown hgr
    have hk8 : Kp [] (w3.alloc (.cells #[.int .i64 x] 3)) w8 := Kp.grown HK7.out hgr (fun k hk => .inr (by have := HBL.out k hk; (try simp); first | omega | (simp [World.setCell]; omega)))
    have hkw8 : Kp [] w w8 := HKW.out.trans hk8
    have ho : OwnC w8 w.heap.size 3 v8 (lo ++ [x]) := OwnC_mono (OwnC.owned (n := lo.length + 1) (Nat.le_refl _) (by have := HLEN.out; simp; try omega) (by first | (rw [List.map_append]; exact hown) | simpa using hown)) HSZ.out
    have HFIN := Lib.hid (H.out.put hkw8 ho)
    have c8 := C00.out _ hkw8
    have f8 := F00.out _ hkw8
    obtain ⟨p8, q8, rfl⟩ := slice_own hown
    clear hown hgr hk8 ho hkw8
    go_wp2_with fail
    go_ret
    exact ⟨rfl, _, used, by omega, rfl, HFIN.out.1, HFIN.out.2⟩
set_option maxRecDepth 100000 in
set_option maxHeartbeats 4000000 in
theorem rdo_29_no (r base used : Nat) (vL vD : Value) (lo st draws : List Int) (a : Int) (w : World) (h : RfS w r base vL (lo ++ [a]) st vD draws used) (hlo : lo.length + 1 ≤ 48) (ha : mayB a = true) (hfit : (lo.length : Int) ≤ max (a / 65536) 0) :
    Calls Try.prog 20 #[.pointer (some ⟨r, 0, none⟩), .int .i64 29] w (RDo w r base vL vD draws used (170, lo ++ [a], st, draws.drop used)) := by
  have HPL : Hid (∀ (a b : Int) (W : World), Calls Try.prog 29 #[.int .i64 29, .int .i64 a, .int .i64 b] W fun e w' => e = .returned (.tuple #[.int .i64 0, .int .i64 0, .bool false]) ∧ Kp [] W w') := fun a b W => rplain_mov 29 a b (by simp [isMov]) W
  have HLO := Lib.hid hlo
  have HFT := Lib.hid hfit
  clear hfit
  have H := Lib.hid h
  obtain ⟨g, c, rfl, hc1, hc2, hC0, hF0, hCX, hIL⟩ := h.parts (by simp)
  have C00 := Lib.hid hC0
  have F00 := Lib.hid hF0
  have CX := Lib.hid hCX
  have HIL := Lib.hid hIL
  have HM2 := Lib.hid hc2
  simp only [List.length_cons, List.length_nil, Nat.zero_add, Nat.reduceAdd] at hc1 C00 H ⊢
  have hcN : ¬ (c = 0) := by omega
  have hcN2 : ¬ (c = lo.length) := by omega
  have hcI : (lo.length : Int) ≤ c := by omega
  have hl0 : (0 : Int) ≤ lo.length := by omega
  have hlI : (lo.length : Int) ≤ (lo.length : Int) + 1 := by omega
  have w3' : IntKind.i64.wrap (lo.length : Int) = (lo.length : Int) := wI _ (by omega) (by omega)
  have w4' : wrap64 (lo.length : Int) = (lo.length : Int) := w64 _ (by omega) (by omega)
  have w2' : IntKind.i64.wrap ((lo.length : Int) + 1 - 1) = (lo.length : Int) := (wI _ (by omega) (by omega)).trans (by omega)
  have q0 : Hid (∀ W, Kp [] w W → W.cell? ⟨g, lo.length, none⟩ = some (.int .i64 a)) := fun W hW => CX.out W hW 0 (by simp)
  clear h hC0 hF0 hCX hIL hc2
  have c0 := C00.out w (Kp.refl _ _)
  have q := KW.cell c0
  go_enter Try.func20, Try.ntmps20
  go_wp2_with fail
  refine (rneed_calls 29 _).mono ?_; rintro e w0 ⟨rfl, rfl⟩
  rw [show rneed 29 = 1 by decide]
  go_wp2_with fail
  refine wp_region_kq (by kernel_rfl) (by kernel_rfl) ?_
  repeat (go_big_quiet_step (fail))
  refine wpQuiet_nil ?_
  intro w1 hw'
  obtain ⟨⟨_, hkw1⟩, rfl⟩ := hw'
  clear q c0 w2' w3' w4'
  go_wp2_with fail
  have hba := may_le ha
  have HMA := Lib.hid ha
  clear ha
  obtain ⟨ha1, ha2⟩ := hba
  have qq0 := KW.cell (q0.out w1 hkw1)
  refine wp_region_kq (by kernel_rfl) (by kernel_rfl) ?_
  repeat (go_big_quiet_step ((go_at_call 29; exact Calls.kq (HPL.out _ _ _))))
  refine wpQuiet_nil ?_
  intro w2 hw'
  obtain ⟨⟨_, hkw2⟩, rfl⟩ := hw'
  clear qq0
  have hkt2 : Kp [] w w2 := hkw1.trans hkw2
  have qq := q0.out w2 hkt2
  go_wp2_with fail
  refine (rfloor_kq a 65536 (by omega) (by omega) (by omega) (by decide) (by decide) _).mono ?_; rintro e w3 ⟨rfl, hkw3⟩
  have hkt3 : Kp [] w w3 := hkt2.trans hkw3
  clear qq
  have hz1 : -32768 ≤ a / 65536 := by omega
  have hz2 : a / 65536 ≤ 32768 := by omega
  generalize a / 65536 = z at *
  have hm := HFT.out
  have HS := Lib.hid (RDo.same H.out hkt3 170)
  by_cases hz : z < 0
  · have hge : lo = [] := List.eq_nil_of_length_eq_zero (by omega)
    subst hge
    clear hm
    go_wp2_with fail
    go_ret
    exact HS.out
  · have hge : (lo.length : Int) ≤ z := by omega
    clear hm
    go_wp2_with fail
    go_ret
    exact HS.out
set_option maxRecDepth 100000 in
set_option maxHeartbeats 4000000 in
theorem rdo_21 (r base used : Nat) (vL vD : Value) (lo st draws : List Int) (a : Int) (w : World) (h : RfS w r base vL (lo ++ [a]) st vD draws used) (hlo : lo.length + 1 ≤ 48) (ha : mayB a = true) (n : Nat) (hfit : a / 65536 = n ∧ n < 32) :
    Calls Try.prog 20 #[.pointer (some ⟨r, 0, none⟩), .int .i64 21] w (RDo w r base vL vD draws used (0, lo ++ [st.getD n 0], st, draws.drop used)) := by
  have HPL : Hid (∀ (a b : Int) (W : World), Calls Try.prog 29 #[.int .i64 21, .int .i64 a, .int .i64 b] W fun e w' => e = .returned (.tuple #[.int .i64 0, .int .i64 0, .bool false]) ∧ Kp [] W w') := fun a b W => rplain_mov 21 a b (by simp [isMov]) W
  have HLO := Lib.hid hlo
  have HFT := Lib.hid hfit
  clear hfit
  have H := Lib.hid h
  obtain ⟨g, c, rfl, hc1, hc2, hC0, hF0, hCX, hIL⟩ := h.parts (by simp)
  have C00 := Lib.hid hC0
  have F00 := Lib.hid hF0
  have CX := Lib.hid hCX
  have HIL := Lib.hid hIL
  have HM2 := Lib.hid hc2
  simp only [List.length_cons, List.length_nil, Nat.zero_add, Nat.reduceAdd] at hc1 C00 H ⊢
  have hcN : ¬ (c = 0) := by omega
  have hcN2 : ¬ (c = lo.length) := by omega
  have hcI : (lo.length : Int) ≤ c := by omega
  have hl0 : (0 : Int) ≤ lo.length := by omega
  have hlI : (lo.length : Int) ≤ (lo.length : Int) + 1 := by omega
  have w3' : IntKind.i64.wrap (lo.length : Int) = (lo.length : Int) := wI _ (by omega) (by omega)
  have w4' : wrap64 (lo.length : Int) = (lo.length : Int) := w64 _ (by omega) (by omega)
  have w2' : IntKind.i64.wrap ((lo.length : Int) + 1 - 1) = (lo.length : Int) := (wI _ (by omega) (by omega)).trans (by omega)
  have q0 : Hid (∀ W, Kp [] w W → W.cell? ⟨g, lo.length, none⟩ = some (.int .i64 a)) := fun W hW => CX.out W hW 0 (by simp)
  clear h hC0 hF0 hCX hIL hc2
  have c0 := C00.out w (Kp.refl _ _)
  have q := KW.cell c0
  go_enter Try.func20, Try.ntmps20
  go_wp2_with fail
  refine (rneed_calls 21 _).mono ?_; rintro e w0 ⟨rfl, rfl⟩
  rw [show rneed 21 = 1 by decide]
  go_wp2_with fail
  refine wp_region_kq (by kernel_rfl) (by kernel_rfl) ?_
  repeat (go_big_quiet_step (fail))
  refine wpQuiet_nil ?_
  intro w1 hw'
  obtain ⟨⟨_, hkw1⟩, rfl⟩ := hw'
  clear q c0 w2' w3' w4'
  go_wp2_with fail
  have hba := may_le ha
  have HMA := Lib.hid ha
  clear ha
  obtain ⟨ha1, ha2⟩ := hba
  have qq0 := KW.cell (q0.out w1 hkw1)
  refine wp_region_kq (by kernel_rfl) (by kernel_rfl) ?_
  repeat (go_big_quiet_step ((go_at_call 29; exact Calls.kq (HPL.out _ _ _))))
  refine wpQuiet_nil ?_
  intro w2 hw'
  obtain ⟨⟨_, hkw2⟩, rfl⟩ := hw'
  clear qq0
  have hkt2 : Kp [] w w2 := hkw1.trans hkw2
  have qq := q0.out w2 hkt2
  go_wp2_with fail
  refine (rfloor_kq a 65536 (by omega) (by omega) (by omega) (by decide) (by decide) _).mono ?_; rintro e w3 ⟨rfl, hkw3⟩
  have hkt3 : Kp [] w w3 := hkt2.trans hkw3
  clear qq
  rw [HFT.out.1]
  have HLEN : Hid (lo.length + 1 ≤ 48) := HLO.out
  have hn31 : ¬ ((31 : Int) < n) := by have := HFT.out.2; omega
  have hn32 : (n : Int) < 32 := by have := HFT.out.2; omega
  have hn32N : n < 32 := HFT.out.2
  have hn0 : ¬ ((n : Int) < 0) := by omega
  have cm := (H.out.kp hkt3 (fun t ht => nomatch ht)).store n HFT.out.2
  have cm2 : w3.cell? ⟨r, 1 + n, none⟩ = some (.int .i64 (st.getD n 0)) := by rw [Nat.add_comm]; exact cm
  generalize st.getD n 0 = x at *
  have ILO : Hid (∀ W, Kp [] w W → IsInts .i64 W (.slice (some ⟨g, 0, none⟩) lo.length c) lo) := fun W hW => by have := HIL.out W hW lo.length (Nat.le_refl _); rw [List.take_length] at this; exact this
  have ILW : Hid (∀ V, Kp [] (w3.alloc (.cells #[.int .i64 x] 3)) V → IsInts .i64 V (.slice (some ⟨g, 0, none⟩) lo.length c) lo) := fun V hV => ILO.out V (Kp.trans (hkt3.alloc _) hV)
  have IOL : Hid (∀ V, Kp [] (w3.alloc (.cells #[.int .i64 x] 3)) V → IsInts .i64 V (.slice (some ⟨w3.heap.size, 0, none⟩) 1 1) [x]) := fun V hV => lit_ints w3 V [x] 3 #[.int .i64 x] rfl (by simp [maxLen]) hV
  have hng : decide ((48 : Int) < (lo.length : Int) + 1) = false := decide_eq_false (by have := HLEN.out; omega)
  have Hhwl : Hid (wrap64 ((lo.length : Int) + 1) = (lo.length : Int) + 1) := w64 _ (by omega) (by omega)
  have Hhwl2 : Hid (IntKind.i64.wrap ((lo.length : Int) + 1) = (lo.length : Int) + 1) := wI _ (by omega) (by omega)
  have HKW : Hid (Kp [] w (w3.alloc (.cells #[.int .i64 x] 3))) := hkt3.alloc _
  have HSZ : Hid (w.heap.size ≤ w3.heap.size + 1) := by have := HKW.out.size; (try simp at this); show _ ≤ _; first | omega | (simp [World.setCell]; done)
  have hwl := Hhwl.out
  have hwl2 := Hhwl2.out
  go_wp2_with (at_builtin; refine wpList_app rfl _ _ 22 rfl (w3.heap.size + 1) 3 (.int .i64 0) 1 8 Try.underlying22 infoIntS rfl (by decide) (by decide) (.slice (some ⟨w3.heap.size + 1, 0, none⟩) 0 0) 0 [] rfl ?xown (.slice (some ⟨g, 0, none⟩) lo.length c) (lo.length) ((lo).map (Value.int .i64)) rfl ?xsrc (oneCell_ints _ _) ?xb1 (by first | (simp; done) | (simp [World.setCell]; done)) ?xk)
  case xown => exact own_empty _ _ _ _ _ (by first | (simp; done) | (simp [World.setCell]; done)) (Nat.le_refl _)
  case xsrc => exact (ILW.out _ ((Kp.refl [] (w3.alloc (.cells #[.int .i64 x] 3))).alloc _)).reads'
  try (case xb1 => (clear hwl hwl2; have := HLEN.out; omega))
  case xk =>
  intro v7 w7 hown hgr
  clear hwl hwl2
  try simp only [Nat.zero_add, List.nil_append] at hown
  have hk7 : Kp [] (w3.alloc (.cells #[.int .i64 x] 3)) w7 := Kp.grown ((Kp.refl _ _).alloc _) hgr (by intro k hk; right; simp [Value.ownBlock] at hk ⊢; first | omega | (simp [World.setCell]; omega))
  have HBL := Lib.hid (own_ge hown)
  obtain ⟨p7, q7, rfl⟩ := slice_own hown
  have HO := Lib.hid hown
  have HK7 := Lib.hid hk7
  clear hown hgr hk7
  go_wp2_with (at_builtin; refine wpList_app rfl _ _ 22 rfl (w3.heap.size + 1) 3 (.int .i64 0) 1 8 Try.underlying22 infoIntS rfl (by decide) (by decide) (.slice p7 (lo.length) q7) (lo.length) ((lo).map (Value.int .i64)) rfl ?yown (.slice (some ⟨w3.heap.size, 0, none⟩) 1 1) (1) (([x]).map (Value.int .i64)) rfl ?ysrc (oneCell_ints _ _) ?yb1 (by have := HK7.out.size; (try simp at this); first | omega | (simp [World.setCell] at this; omega)) ?yk)
  case yown => first | exact HO.out | (rw [List.map_take]; exact HO.out) | simpa using HO.out
  case ysrc => exact (IOL.out _ HK7.out).reads'
  try (case yb1 => (have := HLEN.out; omega))
  case yk =>
  intro v8 w8 hown hgr
  have hk8 : Kp [] (w3.alloc (.cells #[.int .i64 x] 3)) w8 := Kp.grown HK7.out hgr (fun k hk => .inr (by have := HBL.out k hk; (try simp); first | omega | (simp [World.setCell]; omega)))
  have hkw8 : Kp [] w w8 := HKW.out.trans hk8
  have ho : OwnC w8 w.heap.size 3 v8 (lo ++ [x]) := OwnC_mono (OwnC.owned (n := lo.length + 1) (Nat.le_refl _) (by have := HLEN.out; simp; try omega) (by first | (rw [List.map_append]; exact hown) | simpa using hown)) HSZ.out
  have HFIN := Lib.hid (H.out.put hkw8 ho)
  have c8 := C00.out _ hkw8
  have f8 := F00.out _ hkw8
  obtain ⟨p8, q8, rfl⟩ := slice_own hown
  clear hown hgr hk8 ho hkw8
  go_wp2_with fail
  go_ret
  exact ⟨rfl, _, used, by omega, rfl, HFIN.out.1, HFIN.out.2⟩
set_option maxRecDepth 100000 in
set_option maxHeartbeats 4000000 in
theorem rdo_21_no (r base used : Nat) (vL vD : Value) (lo st draws : List Int) (a : Int) (w : World) (h : RfS w r base vL (lo ++ [a]) st vD draws used) (hlo : lo.length + 1 ≤ 48) (ha : mayB a = true) (hfit : a / 65536 < 0 ∨ 31 < a / 65536) :
    Calls Try.prog 20 #[.pointer (some ⟨r, 0, none⟩), .int .i64 21] w (RDo w r base vL vD draws used (170, lo ++ [a], st, draws.drop used)) := by
  have HPL : Hid (∀ (a b : Int) (W : World), Calls Try.prog 29 #[.int .i64 21, .int .i64 a, .int .i64 b] W fun e w' => e = .returned (.tuple #[.int .i64 0, .int .i64 0, .bool false]) ∧ Kp [] W w') := fun a b W => rplain_mov 21 a b (by simp [isMov]) W
  have HLO := Lib.hid hlo
  have HFT := Lib.hid hfit
  clear hfit
  have H := Lib.hid h
  obtain ⟨g, c, rfl, hc1, hc2, hC0, hF0, hCX, hIL⟩ := h.parts (by simp)
  have C00 := Lib.hid hC0
  have F00 := Lib.hid hF0
  have CX := Lib.hid hCX
  have HIL := Lib.hid hIL
  have HM2 := Lib.hid hc2
  simp only [List.length_cons, List.length_nil, Nat.zero_add, Nat.reduceAdd] at hc1 C00 H ⊢
  have hcN : ¬ (c = 0) := by omega
  have hcN2 : ¬ (c = lo.length) := by omega
  have hcI : (lo.length : Int) ≤ c := by omega
  have hl0 : (0 : Int) ≤ lo.length := by omega
  have hlI : (lo.length : Int) ≤ (lo.length : Int) + 1 := by omega
  have w3' : IntKind.i64.wrap (lo.length : Int) = (lo.length : Int) := wI _ (by omega) (by omega)
  have w4' : wrap64 (lo.length : Int) = (lo.length : Int) := w64 _ (by omega) (by omega)
  have w2' : IntKind.i64.wrap ((lo.length : Int) + 1 - 1) = (lo.length : Int) := (wI _ (by omega) (by omega)).trans (by omega)
  have q0 : Hid (∀ W, Kp [] w W → W.cell? ⟨g, lo.length, none⟩ = some (.int .i64 a)) := fun W hW => CX.out W hW 0 (by simp)
  clear h hC0 hF0 hCX hIL hc2
  have c0 := C00.out w (Kp.refl _ _)
  have q := KW.cell c0
  go_enter Try.func20, Try.ntmps20
  go_wp2_with fail
  refine (rneed_calls 21 _).mono ?_; rintro e w0 ⟨rfl, rfl⟩
  rw [show rneed 21 = 1 by decide]
  go_wp2_with fail
  refine wp_region_kq (by kernel_rfl) (by kernel_rfl) ?_
  repeat (go_big_quiet_step (fail))
  refine wpQuiet_nil ?_
  intro w1 hw'
  obtain ⟨⟨_, hkw1⟩, rfl⟩ := hw'
  clear q c0 w2' w3' w4'
  go_wp2_with fail
  have hba := may_le ha
  have HMA := Lib.hid ha
  clear ha
  obtain ⟨ha1, ha2⟩ := hba
  have qq0 := KW.cell (q0.out w1 hkw1)
  refine wp_region_kq (by kernel_rfl) (by kernel_rfl) ?_
  repeat (go_big_quiet_step ((go_at_call 29; exact Calls.kq (HPL.out _ _ _))))
  refine wpQuiet_nil ?_
  intro w2 hw'
  obtain ⟨⟨_, hkw2⟩, rfl⟩ := hw'
  clear qq0
  have hkt2 : Kp [] w w2 := hkw1.trans hkw2
  have qq := q0.out w2 hkt2
  go_wp2_with fail
  refine (rfloor_kq a 65536 (by omega) (by omega) (by omega) (by decide) (by decide) _).mono ?_; rintro e w3 ⟨rfl, hkw3⟩
  have hkt3 : Kp [] w w3 := hkt2.trans hkw3
  clear qq
  have hm := HFT.out
  generalize a / 65536 = z at *
  have HS := Lib.hid (RDo.same H.out hkt3 170)
  by_cases hz : z < 0
  · clear hm
    go_wp2_with fail
    go_ret
    exact HS.out
  · have hge : 31 < z := by omega
    clear hm
    go_wp2_with fail
    go_ret
    exact HS.out
set_option maxRecDepth 100000 in
set_option maxHeartbeats 4000000 in
theorem rdo_20_no (r base used : Nat) (vL vD : Value) (lo st draws : List Int) (a b : Int) (w : World) (h : RfS w r base vL (lo ++ [a, b]) st vD draws used) (hlo : lo.length + 2 ≤ 48) (hb : mayB b = true) (hfit : b / 65536 < 0 ∨ 31 < b / 65536) :
    Calls Try.prog 20 #[.pointer (some ⟨r, 0, none⟩), .int .i64 20] w (RDo w r base vL vD draws used (170, lo ++ [a, b], st, draws.drop used)) := by
  have HPL : Hid (∀ (a b : Int) (W : World), Calls Try.prog 29 #[.int .i64 20, .int .i64 a, .int .i64 b] W fun e w' => e = .returned (.tuple #[.int .i64 0, .int .i64 0, .bool false]) ∧ Kp [] W w') := fun a b W => rplain_mov 20 a b (by simp [isMov]) W
  have HLO := Lib.hid hlo
  have HFT := Lib.hid hfit
  clear hfit
  have H := Lib.hid h
  obtain ⟨g, c, rfl, hc1, hc2, hC0, hF0, hCX, hIL⟩ := h.parts (by simp)
  have C00 := Lib.hid hC0
  have F00 := Lib.hid hF0
  have CX := Lib.hid hCX
  have HIL := Lib.hid hIL
  have HM2 := Lib.hid hc2
  simp only [List.length_cons, List.length_nil, Nat.zero_add, Nat.reduceAdd] at hc1 C00 H ⊢
  have hcN : ¬ (c = 0) := by omega
  have hcN2 : ¬ (c = lo.length) := by omega
  have hcI : (lo.length : Int) ≤ c := by omega
  have hl0 : (0 : Int) ≤ lo.length := by omega
  have hlI : (lo.length : Int) ≤ (lo.length : Int) + 2 := by omega
  have w3' : IntKind.i64.wrap (lo.length : Int) = (lo.length : Int) := wI _ (by omega) (by omega)
  have w4' : wrap64 (lo.length : Int) = (lo.length : Int) := w64 _ (by omega) (by omega)
  have w2' : IntKind.i64.wrap ((lo.length : Int) + 2 - 2) = (lo.length : Int) := (wI _ (by omega) (by omega)).trans (by omega)
  have q0 : Hid (∀ W, Kp [] w W → W.cell? ⟨g, lo.length, none⟩ = some (.int .i64 a)) := fun W hW => CX.out W hW 0 (by simp)
  have q1 : Hid (∀ W, Kp [] w W → W.cell? ⟨g, lo.length + 1, none⟩ = some (.int .i64 b)) := fun W hW => CX.out W hW 1 (by simp)
  clear h hC0 hF0 hCX hIL hc2
  have c0 := C00.out w (Kp.refl _ _)
  have q := KW.cell c0
  go_enter Try.func20, Try.ntmps20
  go_wp2_with fail
  refine (rneed_calls 20 _).mono ?_; rintro e w0 ⟨rfl, rfl⟩
  rw [show rneed 20 = 2 by decide]
  go_wp2_with fail
  refine wp_region_kq (by kernel_rfl) (by kernel_rfl) ?_
  repeat (go_big_quiet_step (fail))
  refine wpQuiet_nil ?_
  intro w1 hw'
  obtain ⟨⟨_, hkw1⟩, rfl⟩ := hw'
  clear q c0 w2' w3' w4'
  go_wp2_with fail
  have hbb := may_le hb
  have HMA := Lib.hid hb
  clear hb
  obtain ⟨hb1, hb2⟩ := hbb
  have qq0 := KW.cell (q0.out w1 hkw1)
  have qq1 := KW.cell (q1.out w1 hkw1)
  refine wp_region_kq (by kernel_rfl) (by kernel_rfl) ?_
  repeat (go_big_quiet_step ((go_at_call 29; exact Calls.kq (HPL.out _ _ _))))
  refine wpQuiet_nil ?_
  intro w2 hw'
  obtain ⟨⟨_, hkw2⟩, rfl⟩ := hw'
  clear qq0
  clear qq1
  have hkt2 : Kp [] w w2 := hkw1.trans hkw2
  have qq := q1.out w2 hkt2
  go_wp2_with fail
  refine (rfloor_kq b 65536 (by omega) (by omega) (by omega) (by decide) (by decide) _).mono ?_; rintro e w3 ⟨rfl, hkw3⟩
  have hkt3 : Kp [] w w3 := hkt2.trans hkw3
  clear qq
  have hm := HFT.out
  generalize b / 65536 = z at *
  have HS := Lib.hid (RDo.same H.out hkt3 170)
  by_cases hz : z < 0
  · clear hm
    go_wp2_with fail
    go_ret
    exact HS.out
  · have hge : 31 < z := by omega
    clear hm
    go_wp2_with fail
    go_ret
    exact HS.out
set_option maxRecDepth 100000 in
set_option maxHeartbeats 4000000 in
theorem rdo_22a (r base used : Nat) (vL vD : Value) (lo st draws : List Int) (a b e f : Int) (w : World) (h : RfS w r base vL (lo ++ [a, b, e, f]) st vD draws used) (hlo : lo.length + 4 ≤ 48) (hfit : e ≤ f) :
    Calls Try.prog 20 #[.pointer (some ⟨r, 0, none⟩), .int .i64 22] w (RDo w r base vL vD draws used (0, lo ++ [a], st, draws.drop used)) := by
  have HPL : Hid (∀ (a b : Int) (W : World), Calls Try.prog 29 #[.int .i64 22, .int .i64 a, .int .i64 b] W fun e w' => e = .returned (.tuple #[.int .i64 0, .int .i64 0, .bool false]) ∧ Kp [] W w') := fun a b W => rplain_mov 22 a b (by simp [isMov]) W
  have HLO := Lib.hid hlo
  have HFT := Lib.hid hfit
  clear hfit
  have H := Lib.hid h
  obtain ⟨g, c, rfl, hc1, hc2, hC0, hF0, hCX, hIL⟩ := h.parts (by simp)
  have C00 := Lib.hid hC0
  have F00 := Lib.hid hF0
  have CX := Lib.hid hCX
  have HIL := Lib.hid hIL
  have HM2 := Lib.hid hc2
  simp only [List.length_cons, List.length_nil, Nat.zero_add, Nat.reduceAdd] at hc1 C00 H ⊢
  have hcN : ¬ (c = 0) := by omega
  have hcN2 : ¬ (c = lo.length) := by omega
  have hcI : (lo.length : Int) ≤ c := by omega
  have hl0 : (0 : Int) ≤ lo.length := by omega
  have hlI : (lo.length : Int) ≤ (lo.length : Int) + 4 := by omega
  have w3' : IntKind.i64.wrap (lo.length : Int) = (lo.length : Int) := wI _ (by omega) (by omega)
  have w4' : wrap64 (lo.length : Int) = (lo.length : Int) := w64 _ (by omega) (by omega)
  have w2' : IntKind.i64.wrap ((lo.length : Int) + 4 - 4) = (lo.length : Int) := (wI _ (by omega) (by omega)).trans (by omega)
  have q0 : Hid (∀ W, Kp [] w W → W.cell? ⟨g, lo.length, none⟩ = some (.int .i64 a)) := fun W hW => CX.out W hW 0 (by simp)
  have q1 : Hid (∀ W, Kp [] w W → W.cell? ⟨g, lo.length + 1, none⟩ = some (.int .i64 b)) := fun W hW => CX.out W hW 1 (by simp)
  have q2 : Hid (∀ W, Kp [] w W → W.cell? ⟨g, lo.length + 2, none⟩ = some (.int .i64 e)) := fun W hW => CX.out W hW 2 (by simp)
  have q3 : Hid (∀ W, Kp [] w W → W.cell? ⟨g, lo.length + 3, none⟩ = some (.int .i64 f)) := fun W hW => CX.out W hW 3 (by simp)
  clear h hC0 hF0 hCX hIL hc2
  have c0 := C00.out w (Kp.refl _ _)
  have q := KW.cell c0
  go_enter Try.func20, Try.ntmps20
  go_wp2_with fail
  refine (rneed_calls 22 _).mono ?_; rintro e w0 ⟨rfl, rfl⟩
  rw [show rneed 22 = 4 by decide]
  go_wp2_with fail
  refine wp_region_kq (by kernel_rfl) (by kernel_rfl) ?_
  repeat (go_big_quiet_step (fail))
  refine wpQuiet_nil ?_
  intro w1 hw'
  obtain ⟨⟨_, hkw1⟩, rfl⟩ := hw'
  clear q c0 w2' w3' w4'
  have HI4 : Hid (∀ V, Kp [] (w1.alloc (.cells #[.int .i64 b] 3)) V → IsInts .i64 V (.slice (some ⟨w1.heap.size, 0, none⟩) 1 1) [b]) := fun V hV => lit_ints w1 V [b] 3 #[.int .i64 b] rfl (by simp [maxLen]) hV
  have hkt3 : Kp [] w (w1.alloc (.cells #[.int .i64 b] 3)) := hkw1.alloc _
  have qx := q1.out w1 hkw1
  go_wp2_with fail
  clear qx
  generalize w1.heap.size = B2 at *
  generalize w1.alloc (.cells #[.int .i64 b] 3) = w3 at *
  have qq2 := KW.cell (q2.out w3 hkt3)
  have qq3 := KW.cell (q3.out w3 hkt3)
  refine wp_region_kq (by kernel_rfl) (by kernel_rfl) ?_
  repeat (go_big_quiet_step (fail))
  refine wpQuiet_nil ?_
  intro w4 hw'
  obtain ⟨⟨_, hkw4⟩, rfl⟩ := hw'
  clear qq2 qq3
  have hkt4 : Kp [] w w4 := hkt3.trans hkw4
  have HLEN : Hid (lo.length + 1 ≤ 48) := by have := HLO.out; show _ ≤ _; omega
  have qz := q0.out w4 hkt4
  have hcd := HFT.out
  have ILO : Hid (∀ W, Kp [] w W → IsInts .i64 W (.slice (some ⟨g, 0, none⟩) lo.length c) lo) := fun W hW => by have := HIL.out W hW lo.length (Nat.le_refl _); rw [List.take_length] at this; exact this
  have ILW : Hid (∀ V, Kp [] (w4.alloc (.cells #[.int .i64 a] 3)) V → IsInts .i64 V (.slice (some ⟨g, 0, none⟩) lo.length c) lo) := fun V hV => ILO.out V (Kp.trans (hkt4.alloc _) hV)
  have IOL : Hid (∀ V, Kp [] (w4.alloc (.cells #[.int .i64 a] 3)) V → IsInts .i64 V (.slice (some ⟨w4.heap.size, 0, none⟩) 1 1) [a]) := fun V hV => lit_ints w4 V [a] 3 #[.int .i64 a] rfl (by simp [maxLen]) hV
  have hng : decide ((48 : Int) < (lo.length : Int) + 1) = false := decide_eq_false (by have := HLEN.out; omega)
  have Hhwl : Hid (wrap64 ((lo.length : Int) + 1) = (lo.length : Int) + 1) := w64 _ (by omega) (by omega)
  have Hhwl2 : Hid (IntKind.i64.wrap ((lo.length : Int) + 1) = (lo.length : Int) + 1) := wI _ (by omega) (by omega)
  have HKW : Hid (Kp [] w (w4.alloc (.cells #[.int .i64 a] 3))) := hkt4.alloc _
  have HSZ : Hid (w.heap.size ≤ w4.heap.size + 1) := by have := HKW.out.size; (try simp at this); show _ ≤ _; first | omega | (simp [World.setCell]; done)
  have hwl := Hhwl.out
  have hwl2 := Hhwl2.out
  go_wp2_with (at_builtin; refine wpList_app rfl _ _ 22 rfl (w4.heap.size + 1) 3 (.int .i64 0) 1 8 Try.underlying22 infoIntS rfl (by decide) (by decide) (.slice (some ⟨w4.heap.size + 1, 0, none⟩) 0 0) 0 [] rfl ?xown (.slice (some ⟨g, 0, none⟩) lo.length c) (lo.length) ((lo).map (Value.int .i64)) rfl ?xsrc (oneCell_ints _ _) ?xb1 (by first | (simp; done) | (simp [World.setCell]; done)) ?xk)
  case xown => exact own_empty _ _ _ _ _ (by first | (simp; done) | (simp [World.setCell]; done)) (Nat.le_refl _)
  case xsrc => exact (ILW.out _ ((Kp.refl [] (w4.alloc (.cells #[.int .i64 a] 3))).alloc _)).reads'
  try (case xb1 => (clear hwl hwl2; have := HLEN.out; omega))
  case xk =>
  intro v7 w7 hown hgr
  clear hwl hwl2
  try simp only [Nat.zero_add, List.nil_append] at hown
  have hk7 : Kp [] (w4.alloc (.cells #[.int .i64 a] 3)) w7 := Kp.grown ((Kp.refl _ _).alloc _) hgr (by intro k hk; right; simp [Value.ownBlock] at hk ⊢; first | omega | (simp [World.setCell]; omega))
  have HBL := Lib.hid (own_ge hown)
  obtain ⟨p7, q7, rfl⟩ := slice_own hown
  have HO := Lib.hid hown
  have HK7 := Lib.hid hk7
  clear hown hgr hk7
  go_wp2_with (at_builtin; refine wpList_app rfl _ _ 22 rfl (w4.heap.size + 1) 3 (.int .i64 0) 1 8 Try.underlying22 infoIntS rfl (by decide) (by decide) (.slice p7 (lo.length) q7) (lo.length) ((lo).map (Value.int .i64)) rfl ?yown (.slice (some ⟨w4.heap.size, 0, none⟩) 1 1) (1) (([a]).map (Value.int .i64)) rfl ?ysrc (oneCell_ints _ _) ?yb1 (by have := HK7.out.size; (try simp at this); first | omega | (simp [World.setCell] at this; omega)) ?yk)
  case yown => first | exact HO.out | (rw [List.map_take]; exact HO.out) | simpa using HO.out
  case ysrc => exact (IOL.out _ HK7.out).reads'
  try (case yb1 => (have := HLEN.out; omega))
  case yk =>
  intro v8 w8 hown hgr
  have hk8 : Kp [] (w4.alloc (.cells #[.int .i64 a] 3)) w8 := Kp.grown HK7.out hgr (fun k hk => .inr (by have := HBL.out k hk; (try simp); first | omega | (simp [World.setCell]; omega)))
  have hkw8 : Kp [] w w8 := HKW.out.trans hk8
  have ho : OwnC w8 w.heap.size 3 v8 (lo ++ [a]) := OwnC_mono (OwnC.owned (n := lo.length + 1) (Nat.le_refl _) (by have := HLEN.out; simp; try omega) (by first | (rw [List.map_append]; exact hown) | simpa using hown)) HSZ.out
  have HFIN := Lib.hid (H.out.put hkw8 ho)
  have c8 := C00.out _ hkw8
  have f8 := F00.out _ hkw8
  obtain ⟨p8, q8, rfl⟩ := slice_own hown
  clear hown hgr hk8 ho hkw8
  go_wp2_with fail
  go_ret
  exact ⟨rfl, _, used, by omega, rfl, HFIN.out.1, HFIN.out.2⟩
set_option maxRecDepth 100000 in
set_option maxHeartbeats 4000000 in
theorem rdo_22b (r base used : Nat) (vL vD : Value) (lo st draws : List Int) (a b e f : Int) (w : World) (h : RfS w r base vL (lo ++ [a, b, e, f]) st vD draws used) (hlo : lo.length + 4 ≤ 48) (hfit : f < e) :
    Calls Try.prog 20 #[.pointer (some ⟨r, 0, none⟩), .int .i64 22] w (RDo w r base vL vD draws used (0, lo ++ [b], st, draws.drop used)) := by
  have HPL : Hid (∀ (a b : Int) (W : World), Calls Try.prog 29 #[.int .i64 22, .int .i64 a, .int .i64 b] W fun e w' => e = .returned (.tuple #[.int .i64 0, .int .i64 0, .bool false]) ∧ Kp [] W w') := fun a b W => rplain_mov 22 a b (by simp [isMov]) W
  have HLO := Lib.hid hlo
  have HFT := Lib.hid hfit
  clear hfit
  have H := Lib.hid h
  obtain ⟨g, c, rfl, hc1, hc2, hC0, hF0, hCX, hIL⟩ := h.parts (by simp)
  have C00 := Lib.hid hC0
  have F00 := Lib.hid hF0
  have CX := Lib.hid hCX
  have HIL := Lib.hid hIL
  have HM2 := Lib.hid hc2
  simp only [List.length_cons, List.length_nil, Nat.zero_add, Nat.reduceAdd] at hc1 C00 H ⊢
  have hcN : ¬ (c = 0) := by omega
  have hcN2 : ¬ (c = lo.length) := by omega
  have hcI : (lo.length : Int) ≤ c := by omega
  have hl0 : (0 : Int) ≤ lo.length := by omega
  have hlI : (lo.length : Int) ≤ (lo.length : Int) + 4 := by omega
  have w3' : IntKind.i64.wrap (lo.length : Int) = (lo.length : Int) := wI _ (by omega) (by omega)
  have w4' : wrap64 (lo.length : Int) = (lo.length : Int) := w64 _ (by omega) (by omega)
  have w2' : IntKind.i64.wrap ((lo.length : Int) + 4 - 4) = (lo.length : Int) := (wI _ (by omega) (by omega)).trans (by omega)
  have q0 : Hid (∀ W, Kp [] w W → W.cell? ⟨g, lo.length, none⟩ = some (.int .i64 a)) := fun W hW => CX.out W hW 0 (by simp)
  have q1 : Hid (∀ W, Kp [] w W → W.cell? ⟨g, lo.length + 1, none⟩ = some (.int .i64 b)) := fun W hW => CX.out W hW 1 (by simp)
  have q2 : Hid (∀ W, Kp [] w W → W.cell? ⟨g, lo.length + 2, none⟩ = some (.int .i64 e)) := fun W hW => CX.out W hW 2 (by simp)
  have q3 : Hid (∀ W, Kp [] w W → W.cell? ⟨g, lo.length + 3, none⟩ = some (.int .i64 f)) := fun W hW => CX.out W hW 3 (by simp)
  clear h hC0 hF0 hCX hIL hc2
  have c0 := C00.out w (Kp.refl _ _)
  have q := KW.cell c0
  go_enter Try.func20, Try.ntmps20
  go_wp2_with fail
  refine (rneed_calls 22 _).mono ?_; rintro e w0 ⟨rfl, rfl⟩
  rw [show rneed 22 = 4 by decide]
  go_wp2_with fail
  refine wp_region_kq (by kernel_rfl) (by kernel_rfl) ?_
  repeat (go_big_quiet_step (fail))
  refine wpQuiet_nil ?_
  intro w1 hw'
  obtain ⟨⟨_, hkw1⟩, rfl⟩ := hw'
  clear q c0 w2' w3' w4'
  have HI4 : Hid (∀ V, Kp [] (w1.alloc (.cells #[.int .i64 b] 3)) V → IsInts .i64 V (.slice (some ⟨w1.heap.size, 0, none⟩) 1 1) [b]) := fun V hV => lit_ints w1 V [b] 3 #[.int .i64 b] rfl (by simp [maxLen]) hV
  have hkt3 : Kp [] w (w1.alloc (.cells #[.int .i64 b] 3)) := hkw1.alloc _
  have qx := q1.out w1 hkw1
  go_wp2_with fail
  clear qx
  generalize w1.heap.size = B2 at *
  generalize w1.alloc (.cells #[.int .i64 b] 3) = w3 at *
  have qq2 := KW.cell (q2.out w3 hkt3)
  have qq3 := KW.cell (q3.out w3 hkt3)
  refine wp_region_kq (by kernel_rfl) (by kernel_rfl) ?_
  repeat (go_big_quiet_step (fail))
  refine wpQuiet_nil ?_
  intro w4 hw'
  obtain ⟨⟨_, hkw4⟩, rfl⟩ := hw'
  clear qq2 qq3
  have hkt4 : Kp [] w w4 := hkt3.trans hkw4
  have HLEN : Hid (lo.length + 1 ≤ 48) := by have := HLO.out; show _ ≤ _; omega
  have ILO : Hid (∀ W, Kp [] w W → IsInts .i64 W (.slice (some ⟨g, 0, none⟩) lo.length c) lo) := fun W hW => by have := HIL.out W hW lo.length (Nat.le_refl _); rw [List.take_length] at this; exact this
  have ILW : Hid (∀ V, Kp [] (w4) V → IsInts .i64 V (.slice (some ⟨g, 0, none⟩) lo.length c) lo) := fun V hV => ILO.out V (Kp.trans (hkt4) hV)
  have IOL : Hid (∀ V, Kp [] w4 V → IsInts .i64 V (.slice (some ⟨B2, 0, none⟩) 1 1) [b]) := fun V hV => HI4.out V (hkw4.trans hV)
  have hng : decide ((48 : Int) < (lo.length : Int) + 1) = false := decide_eq_false (by have := HLEN.out; omega)
  have hcd := HFT.out
  have Hhwl : Hid (wrap64 ((lo.length : Int) + 1) = (lo.length : Int) + 1) := w64 _ (by omega) (by omega)
  have Hhwl2 : Hid (IntKind.i64.wrap ((lo.length : Int) + 1) = (lo.length : Int) + 1) := wI _ (by omega) (by omega)
  have HKW : Hid (Kp [] w (w4)) := hkt4
  have HSZ : Hid (w.heap.size ≤ w4.heap.size) := by have := HKW.out.size; (try simp at this); show _ ≤ _; first | omega | (simp [World.setCell]; done)
  have hwl := Hhwl.out
  have hwl2 := Hhwl2.out
  go_wp2_with (at_builtin; refine wpList_app rfl _ _ 22 rfl (w4.heap.size) 3 (.int .i64 0) 1 8 Try.underlying22 infoIntS rfl (by decide) (by decide) (.slice (some ⟨w4.heap.size, 0, none⟩) 0 0) 0 [] rfl ?xown (.slice (some ⟨g, 0, none⟩) lo.length c) (lo.length) ((lo).map (Value.int .i64)) rfl ?xsrc (oneCell_ints _ _) ?xb1 (by first | (simp; done) | (simp [World.setCell]; done)) ?xk)
  case xown => exact own_empty _ _ _ _ _ (by first | (simp; done) | (simp [World.setCell]; done)) (Nat.le_refl _)
  case xsrc => exact (ILW.out _ ((Kp.refl [] (w4)).alloc _)).reads'
  try (case xb1 => (clear hwl hwl2; have := HLEN.out; omega))
  case xk =>
  intro v7 w7 hown hgr
  clear hwl hwl2
  try simp only [Nat.zero_add, List.nil_append] at hown
  have hk7 : Kp [] (w4) w7 := Kp.grown ((Kp.refl _ _).alloc _) hgr (by intro k hk; right; simp [Value.ownBlock] at hk ⊢; first | omega | (simp [World.setCell]; omega))
  have HBL := Lib.hid (own_ge hown)
  obtain ⟨p7, q7, rfl⟩ := slice_own hown
  have HO := Lib.hid hown
  have HK7 := Lib.hid hk7
  clear hown hgr hk7
  go_wp2_with (at_builtin; refine wpList_app rfl _ _ 22 rfl (w4.heap.size) 3 (.int .i64 0) 1 8 Try.underlying22 infoIntS rfl (by decide) (by decide) (.slice p7 (lo.length) q7) (lo.length) ((lo).map (Value.int .i64)) rfl ?yown (.slice (some ⟨B2, 0, none⟩) 1 1) (1) (([b]).map (Value.int .i64)) rfl ?ysrc (oneCell_ints _ _) ?yb1 (by have := HK7.out.size; (try simp at this); first | omega | (simp [World.setCell] at this; omega)) ?yk)
  case yown => first | exact HO.out | (rw [List.map_take]; exact HO.out) | simpa using HO.out
  case ysrc => exact (IOL.out _ HK7.out).reads'
  try (case yb1 => (have := HLEN.out; omega))
  case yk =>
  intro v8 w8 hown hgr
  have hk8 : Kp [] (w4) w8 := Kp.grown HK7.out hgr (fun k hk => .inr (by have := HBL.out k hk; (try simp); first | omega | (simp [World.setCell]; omega)))
  have hkw8 : Kp [] w w8 := HKW.out.trans hk8
  have ho : OwnC w8 w.heap.size 3 v8 (lo ++ [b]) := OwnC_mono (OwnC.owned (n := lo.length + 1) (Nat.le_refl _) (by have := HLEN.out; simp; try omega) (by first | (rw [List.map_append]; exact hown) | simpa using hown)) HSZ.out
  have HFIN := Lib.hid (H.out.put hkw8 ho)
  have c8 := C00.out _ hkw8
  have f8 := F00.out _ hkw8
  obtain ⟨p8, q8, rfl⟩ := slice_own hown
  clear hown hgr hk8 ho hkw8
  go_wp2_with fail
  go_ret
  exact ⟨rfl, _, used, by omega, rfl, HFIN.out.1, HFIN.out.2⟩
set_option maxRecDepth 100000 in
set_option maxHeartbeats 4000000 in
theorem rdo_20 (r base used : Nat) (vL vD : Value) (lo st draws : List Int) (a b : Int) (w : World) (h : RfS w r base vL (lo ++ [a, b]) st vD draws used) (hlo : lo.length + 2 ≤ 48) (hb : mayB b = true) (n : Nat) (hfit : b / 65536 = n ∧ n < 32) :
    Calls Try.prog 20 #[.pointer (some ⟨r, 0, none⟩), .int .i64 20] w (RDo w r base vL vD draws used (0, lo, st.set n a, draws.drop used)) := by
  have HPL : Hid (∀ (a b : Int) (W : World), Calls Try.prog 29 #[.int .i64 20, .int .i64 a, .int .i64 b] W fun e w' => e = .returned (.tuple #[.int .i64 0, .int .i64 0, .bool false]) ∧ Kp [] W w') := fun a b W => rplain_mov 20 a b (by simp [isMov]) W
  have HLO := Lib.hid hlo
  have HFT := Lib.hid hfit
  clear hfit
  have H := Lib.hid h
  obtain ⟨g, c, rfl, hc1, hc2, hC0, hF0, hCX, hIL⟩ := h.parts (by simp)
  have C00 := Lib.hid hC0
  have F00 := Lib.hid hF0
  have CX := Lib.hid hCX
  have HIL := Lib.hid hIL
  have HM2 := Lib.hid hc2
  simp only [List.length_cons, List.length_nil, Nat.zero_add, Nat.reduceAdd] at hc1 C00 H ⊢
  have hcN : ¬ (c = 0) := by omega
  have hcN2 : ¬ (c = lo.length) := by omega
  have hcI : (lo.length : Int) ≤ c := by omega
  have hl0 : (0 : Int) ≤ lo.length := by omega
  have hlI : (lo.length : Int) ≤ (lo.length : Int) + 2 := by omega
  have w3' : IntKind.i64.wrap (lo.length : Int) = (lo.length : Int) := wI _ (by omega) (by omega)
  have w4' : wrap64 (lo.length : Int) = (lo.length : Int) := w64 _ (by omega) (by omega)
  have w2' : IntKind.i64.wrap ((lo.length : Int) + 2 - 2) = (lo.length : Int) := (wI _ (by omega) (by omega)).trans (by omega)
  have q0 : Hid (∀ W, Kp [] w W → W.cell? ⟨g, lo.length, none⟩ = some (.int .i64 a)) := fun W hW => CX.out W hW 0 (by simp)
  have q1 : Hid (∀ W, Kp [] w W → W.cell? ⟨g, lo.length + 1, none⟩ = some (.int .i64 b)) := fun W hW => CX.out W hW 1 (by simp)
  clear h hC0 hF0 hCX hIL hc2
  have c0 := C00.out w (Kp.refl _ _)
  have q := KW.cell c0
  go_enter Try.func20, Try.ntmps20
  go_wp2_with fail
  refine (rneed_calls 20 _).mono ?_; rintro e w0 ⟨rfl, rfl⟩
  rw [show rneed 20 = 2 by decide]
  go_wp2_with fail
  refine wp_region_kq (by kernel_rfl) (by kernel_rfl) ?_
  repeat (go_big_quiet_step (fail))
  refine wpQuiet_nil ?_
  intro w1 hw'
  obtain ⟨⟨_, hkw1⟩, rfl⟩ := hw'
  clear q c0 w2' w3' w4'
  go_wp2_with fail
  have hbb := may_le hb
  have HMA := Lib.hid hb
  clear hb
  obtain ⟨hb1, hb2⟩ := hbb
  have qq0 := KW.cell (q0.out w1 hkw1)
  have qq1 := KW.cell (q1.out w1 hkw1)
  refine wp_region_kq (by kernel_rfl) (by kernel_rfl) ?_
  repeat (go_big_quiet_step ((go_at_call 29; exact Calls.kq (HPL.out _ _ _))))
  refine wpQuiet_nil ?_
  intro w2 hw'
  obtain ⟨⟨_, hkw2⟩, rfl⟩ := hw'
  clear qq0
  clear qq1
  have hkt2 : Kp [] w w2 := hkw1.trans hkw2
  have qq := q1.out w2 hkt2
  go_wp2_with fail
  refine (rfloor_kq b 65536 (by omega) (by omega) (by omega) (by decide) (by decide) _).mono ?_; rintro e w3 ⟨rfl, hkw3⟩
  have hkt3 : Kp [] w w3 := hkt2.trans hkw3
  clear qq
  have qq0 := KW.cell (q0.out w3 hkt3)
  generalize hz : b / 65536 = z at *
  have hzn : z = (n : Int) := HFT.out.1
  clear hz
  subst hzn
  have hn31 : ¬ ((31 : Int) < n) := by have := HFT.out.2; omega
  have hn32 : (n : Int) < 32 := by have := HFT.out.2; omega
  have hn0 : ¬ ((n : Int) < 0) := by omega
  go_wp2_with fail
  refine wp_region_kqt 8 (by kernel_rfl) (by kernel_rfl) ?_
  simp only [List.take_succ_cons, List.take_zero, List.drop_succ_cons, List.drop_zero]
  repeat (go_big_quiet_step (fail))
  refine wpQuiet_nil ?_
  intro w4 hw'
  obtain ⟨⟨_, hkw4⟩, rfl⟩ := hw'
  try dsimp only
  clear qq0
  have hkt4 : Kp [] w w4 := hkt3.trans hkw4
  obtain ⟨HS, HKS⟩ := (H.out.kp hkt4 (fun t ht => nomatch ht)).putStore n HFT.out.2 a
  have cS := (H.out.kp hkt4 (fun t ht => nomatch ht)).store n HFT.out.2
  rw [Nat.add_comm] at cS HS HKS
  have fS : w4.frozen? ⟨r, 1 + n, none⟩ = false := (H.out.kp hkt4 (fun t ht => nomatch ht)).frozen (1 + n)
  have HS9 := Lib.hid HS
  have HK9 : Hid (Kp [r] w (w4.setCell ⟨r, 1 + n, none⟩ (.int .i64 a)) ∧ w.heap.size ≤ w4.heap.size) := ⟨(hkt4.more (fun t ht => nomatch ht)).trans HKS, hkt4.size⟩
  have C9 : Hid (∀ V, Kp [] (w4.setCell ⟨r, 1 + n, none⟩ (.int .i64 a)) V → V.cell? ⟨r, 0, none⟩ = some (.slice (some ⟨g, 0, none⟩) (lo.length + 2) c)) := fun V hV => hV.cell HS.cell0 (by simp)
  have F9 : Hid (∀ V, Kp [] (w4.setCell ⟨r, 1 + n, none⟩ (.int .i64 a)) V → V.frozen? ⟨r, 0, none⟩ = false) := fun V hV => frozen_of_row V r 0 _ _ (hV.heap HS.1 (by simp))
  have ILO : Hid (∀ W, Kp [] w W → IsInts .i64 W (.slice (some ⟨g, 0, none⟩) lo.length c) lo) := fun W hW => by have := HIL.out W hW lo.length (Nat.le_refl _); rw [List.take_length] at this; exact this
  have ILW : Hid (∀ V, Kp [] (w4.setCell ⟨r, 1 + n, none⟩ (.int .i64 a)) V → IsInts .i64 V (.slice (some ⟨g, 0, none⟩) lo.length c) lo) := fun V hV => ((ILO.out w4 hkt4).kp HKS (fun t ht e => by simp at ht; subst ht; obtain ⟨_, e2⟩ := (blockOf_some _ _ _ _ _ _).1 e; exact H.out.2.2.2.2.1 (by rw [e2]; rfl))).kp hV (by simp)
  have INI : Hid (∀ V, Kp [] (w4.setCell ⟨r, 1 + n, none⟩ (.int .i64 a)) V → IsInts .i64 V (.slice none 0 0) []) := fun V _ => .inl ⟨⟨_, rfl⟩, rfl⟩
  have HLEN : Hid (lo.length + 0 ≤ 48) := by have := HLO.out; show _ ≤ _; omega
  have hng : decide ((48 : Int) < lo.length) = false := decide_eq_false (by omega)
  clear HS HKS
  have HKW : Hid (Kp [] (w4.setCell ⟨r, 1 + n, none⟩ (.int .i64 a)) (w4.setCell ⟨r, 1 + n, none⟩ (.int .i64 a))) := Kp.refl _ _
  have HSZ : Hid ((w4.setCell ⟨r, 1 + n, none⟩ (.int .i64 a)).heap.size ≤ w4.heap.size) := by have := HKW.out.size; (try simp at this); show _ ≤ _; first | omega | (simp [World.setCell]; done)
  go_wp2_with (at_builtin; refine wpList_app rfl _ _ 22 rfl (w4.heap.size) 3 (.int .i64 0) 1 8 Try.underlying22 infoIntS rfl (by decide) (by decide) (.slice (some ⟨w4.heap.size, 0, none⟩) 0 0) 0 [] rfl ?xown (.slice (some ⟨g, 0, none⟩) lo.length c) (lo.length) ((lo).map (Value.int .i64)) rfl ?xsrc (oneCell_ints _ _) ?xb1 (by first | (simp; done) | (simp [World.setCell]; done)) ?xk)
  case xown => exact own_empty _ _ _ _ _ (by first | (simp; done) | (simp [World.setCell]; done)) (Nat.le_refl _)
  case xsrc => exact (ILW.out _ ((Kp.refl [] (w4.setCell ⟨r, 1 + n, none⟩ (.int .i64 a))).alloc _)).reads'
  try (case xb1 => (skip; have := HLEN.out; omega))
  case xk =>
  intro v7 w7 hown hgr
  skip
  try simp only [Nat.zero_add, List.nil_append] at hown
  have hk7 : Kp [] (w4.setCell ⟨r, 1 + n, none⟩ (.int .i64 a)) w7 := Kp.grown ((Kp.refl _ _).alloc _) hgr (by intro k hk; right; simp [Value.ownBlock] at hk ⊢; first | omega | (simp [World.setCell]; omega))
  have HBL := Lib.hid (own_ge hown)
  obtain ⟨p7, q7, rfl⟩ := slice_own hown
  have HO := Lib.hid hown
  have HK7 := Lib.hid hk7
  clear hown hgr hk7
  go_wp2_with (at_builtin; refine wpList_app rfl _ _ 22 rfl (w4.heap.size) 3 (.int .i64 0) 1 8 Try.underlying22 infoIntS rfl (by decide) (by decide) (.slice p7 (lo.length) q7) (lo.length) ((lo).map (Value.int .i64)) rfl ?yown (.slice none 0 0) (0) ((([] : List Int)).map (Value.int .i64)) rfl ?ysrc (oneCell_ints _ _) ?yb1 (by have := HK7.out.size; (try simp at this); first | omega | (simp [World.setCell] at this; omega)) ?yk)
  case yown => first | exact HO.out | (rw [List.map_take]; exact HO.out) | simpa using HO.out
  case ysrc => exact (INI.out _ HK7.out).reads'
  try (case yb1 => (have := HLEN.out; omega))
  case yk =>
  intro v8 w8 hown hgr
  have hk8 : Kp [] (w4.setCell ⟨r, 1 + n, none⟩ (.int .i64 a)) w8 := Kp.grown HK7.out hgr (fun k hk => .inr (by have := HBL.out k hk; (try simp); first | omega | (simp [World.setCell]; omega)))
  have hkw8 : Kp [] (w4.setCell ⟨r, 1 + n, none⟩ (.int .i64 a)) w8 := HKW.out.trans hk8
  have ho : OwnC w8 (w4.setCell ⟨r, 1 + n, none⟩ (.int .i64 a)).heap.size 3 v8 (lo ++ ([] : List Int)) := OwnC_mono (OwnC.owned (n := lo.length + 0) (Nat.le_refl _) (by have := HLEN.out; simp; try omega) (by first | (rw [List.map_append]; exact hown) | simpa using hown)) HSZ.out
  have HFIN := Lib.hid (HS9.out.put hkw8 ho)
  have c8 := C9.out _ hkw8
  have f8 := F9.out _ hkw8
  obtain ⟨p8, q8, rfl⟩ := slice_own hown
  clear hown hgr hk8 ho hkw8
  go_wp2_with fail
  go_ret
  rw [List.append_nil] at HFIN
  exact ⟨rfl, _, used, by omega, rfl, HFIN.out.1, HK9.out.1.trans HFIN.out.2.1, fun k e => by
    rcases HFIN.out.2.2 k e with q | q
    · exact .inl q
    · exact .inr (Nat.le_trans HK9.out.2 (by simpa [World.setCell] using q))⟩
set_option maxRecDepth 100000 in
set_option maxHeartbeats 4000000 in
theorem rdo_num1 (op : Int) (hneed : rneed op = 1) (hnn : op ≠ 27 ∧ op ≠ 28 ∧ op ≠ 22 ∧ op ≠ 29 ∧ op ≠ 30 ∧ op ≠ 20 ∧ op ≠ 21 ∧ op ≠ 23) (r base used : Nat) (vL vD : Value) (lo st draws : List Int) (a x er : Int) (w : World) (h : RfS w r base vL (lo ++ [a]) st vD draws used) (hlo : lo.length + 1 ≤ 48)
    (HPL : ∀ (W : World), Calls Try.prog 29 #[.int .i64 op, .int .i64 a, .int .i64 a] W fun e w' => e = .returned (.tuple #[.int .i64 x, .int .i64 er, .bool true]) ∧ Kp [] W w') (her : er = 0) :
    Calls Try.prog 20 #[.pointer (some ⟨r, 0, none⟩), .int .i64 op] w (RDo w r base vL vD draws used (0, lo ++ [x], st, draws.drop used)) := by
  have HPL := Lib.hid HPL
  obtain ⟨n27, n28, n22, n29, n30, n20, n21, n23⟩ := hnn
  have HLO := Lib.hid hlo
  have HER := Lib.hid her
  have HND := Lib.hid hneed
  clear hneed
  have H := Lib.hid h
  obtain ⟨g, c, rfl, hc1, hc2, hC0, hF0, hCX, hIL⟩ := h.parts (by simp)
  have C00 := Lib.hid hC0
  have F00 := Lib.hid hF0
  have CX := Lib.hid hCX
  have HIL := Lib.hid hIL
  have HM2 := Lib.hid hc2
  simp only [List.length_cons, List.length_nil, Nat.zero_add, Nat.reduceAdd] at hc1 C00 H ⊢
  have hcN : ¬ (c = 0) := by omega
  have hcN2 : ¬ (c = lo.length) := by omega
  have hcI : (lo.length : Int) ≤ c := by omega
  have hl0 : (0 : Int) ≤ lo.length := by omega
  have hlI : (lo.length : Int) ≤ (lo.length : Int) + 1 := by omega
  have w3' : IntKind.i64.wrap (lo.length : Int) = (lo.length : Int) := wI _ (by omega) (by omega)
  have w4' : wrap64 (lo.length : Int) = (lo.length : Int) := w64 _ (by omega) (by omega)
  have w2' : IntKind.i64.wrap ((lo.length : Int) + 1 - 1) = (lo.length : Int) := (wI _ (by omega) (by omega)).trans (by omega)
  have q0 : Hid (∀ W, Kp [] w W → W.cell? ⟨g, lo.length, none⟩ = some (.int .i64 a)) := fun W hW => CX.out W hW 0 (by simp)
  clear h hC0 hF0 hCX hIL hc2
  have c0 := C00.out w (Kp.refl _ _)
  have q := KW.cell c0
  go_enter Try.func20, Try.ntmps20
  go_wp2_with fail
  refine (rneed_calls op _).mono ?_; rintro e w0 ⟨rfl, rfl⟩
  rw [HND.out]
  go_wp2_with fail
  refine wp_region_kq (by kernel_rfl) (by kernel_rfl) ?_
  repeat (go_big_quiet_step (fail))
  refine wpQuiet_nil ?_
  intro w1 hw'
  obtain ⟨⟨_, hkw1⟩, rfl⟩ := hw'
  clear q c0 w2' w3' w4'
  go_wp2_with fail
  have qq0 := KW.cell (q0.out w1 hkw1)
  refine wp_region_kq (by kernel_rfl) (by kernel_rfl) ?_
  repeat (go_big_quiet_step ((go_at_call 29; exact Calls.kq (HPL.out _))))
  refine wpQuiet_nil ?_
  intro w2 hw'
  obtain ⟨⟨_, hkw2⟩, rfl⟩ := hw'
  clear qq0
  have hkt2 : Kp [] w w2 := hkw1.trans hkw2
  subst her
  have HLEN : Hid (lo.length + 1 ≤ 48) := by have := HLO.out; show _ ≤ _; omega
  have ILO : Hid (∀ W, Kp [] w W → IsInts .i64 W (.slice (some ⟨g, 0, none⟩) lo.length c) lo) := fun W hW => by have := HIL.out W hW lo.length (Nat.le_refl _); rw [List.take_length] at this; exact this
  have ILW : Hid (∀ V, Kp [] (w2.alloc (.cells #[.int .i64 x] 3)) V → IsInts .i64 V (.slice (some ⟨g, 0, none⟩) lo.length c) lo) := fun V hV => ILO.out V (Kp.trans (hkt2.alloc _) hV)
  have IOL : Hid (∀ V, Kp [] (w2.alloc (.cells #[.int .i64 x] 3)) V → IsInts .i64 V (.slice (some ⟨w2.heap.size, 0, none⟩) 1 1) [x]) := fun V hV => lit_ints w2 V [x] 3 #[.int .i64 x] rfl (by simp [maxLen]) hV
  have hng : decide ((48 : Int) < (lo.length : Int) + 1) = false := decide_eq_false (by have := HLEN.out; omega)
  have Hhwl : Hid (wrap64 ((lo.length : Int) + 1) = (lo.length : Int) + 1) := w64 _ (by omega) (by omega)
  have Hhwl2 : Hid (IntKind.i64.wrap ((lo.length : Int) + 1) = (lo.length : Int) + 1) := wI _ (by omega) (by omega)
  have HKW : Hid (Kp [] w (w2.alloc (.cells #[.int .i64 x] 3))) := hkt2.alloc _
  have HSZ : Hid (w.heap.size ≤ w2.heap.size + 1) := by have := HKW.out.size; (try simp at this); show _ ≤ _; first | omega | (simp [World.setCell]; done)
  have hwl := Hhwl.out
  have hwl2 := Hhwl2.out
  go_wp2_with (at_builtin; refine wpList_app rfl _ _ 22 rfl (w2.heap.size + 1) 3 (.int .i64 0) 1 8 Try.underlying22 infoIntS rfl (by decide) (by decide) (.slice (some ⟨w2.heap.size + 1, 0, none⟩) 0 0) 0 [] rfl ?xown (.slice (some ⟨g, 0, none⟩) lo.length c) (lo.length) ((lo).map (Value.int .i64)) rfl ?xsrc (oneCell_ints _ _) ?xb1 (by first | (simp; done) | (simp [World.setCell]; done)) ?xk)
  case xown => exact own_empty _ _ _ _ _ (by first | (simp; done) | (simp [World.setCell]; done)) (Nat.le_refl _)
  case xsrc => exact (ILW.out _ ((Kp.refl [] (w2.alloc (.cells #[.int .i64 x] 3))).alloc _)).reads'
  try (case xb1 => (clear hwl hwl2; have := HLEN.out; omega))
  case xk =>
  intro v7 w7 hown hgr
  clear hwl hwl2
  try simp only [Nat.zero_add, List.nil_append] at hown
  have hk7 : Kp [] (w2.alloc (.cells #[.int .i64 x] 3)) w7 := Kp.grown ((Kp.refl _ _).alloc _) hgr (by intro k hk; right; simp [Value.ownBlock] at hk ⊢; first | omega | (simp [World.setCell]; omega))
  have HBL := Lib.hid (own_ge hown)
  obtain ⟨p7, q7, rfl⟩ := slice_own hown
  have HO := Lib.hid hown
  have HK7 := Lib.hid hk7
  clear hown hgr hk7
  go_wp2_with (at_builtin; refine wpList_app rfl _ _ 22 rfl (w2.heap.size + 1) 3 (.int .i64 0) 1 8 Try.underlying22 infoIntS rfl (by decide) (by decide) (.slice p7 (lo.length) q7) (lo.length) ((lo).map (Value.int .i64)) rfl ?yown (.slice (some ⟨w2.heap.size, 0, none⟩) 1 1) (1) (([x]).map (Value.int .i64)) rfl ?ysrc (oneCell_ints _ _) ?yb1 (by have := HK7.out.size; (try simp at this); first | omega | (simp [World.setCell] at this; omega)) ?yk)
  case yown => first | exact HO.out | (rw [List.map_take]; exact HO.out) | simpa using HO.out
  case ysrc => exact (IOL.out _ HK7.out).reads'
  try (case yb1 => (have := HLEN.out; omega))
  case yk =>
  intro v8 w8 hown hgr
  have hk8 : Kp [] (w2.alloc (.cells #[.int .i64 x] 3)) w8 := Kp.grown HK7.out hgr (fun k hk => .inr (by have := HBL.out k hk; (try simp); first | omega | (simp [World.setCell]; omega)))
  have hkw8 : Kp [] w w8 := HKW.out.trans hk8
  have ho : OwnC w8 w.heap.size 3 v8 (lo ++ [x]) := OwnC_mono (OwnC.owned (n := lo.length + 1) (Nat.le_refl _) (by have := HLEN.out; simp; try omega) (by first | (rw [List.map_append]; exact hown) | simpa using hown)) HSZ.out
  have HFIN := Lib.hid (H.out.put hkw8 ho)
  have c8 := C00.out _ hkw8
  have f8 := F00.out _ hkw8
  obtain ⟨p8, q8, rfl⟩ := slice_own hown
  clear hown hgr hk8 ho hkw8
  go_wp2_with fail
  go_ret
  exact ⟨rfl, _, used, by omega, rfl, HFIN.out.1, HFIN.out.2⟩
set_option maxRecDepth 100000 in
set_option maxHeartbeats 4000000 in
theorem rdo_num1_er (op : Int) (hneed : rneed op = 1) (hnn : op ≠ 27 ∧ op ≠ 28 ∧ op ≠ 22 ∧ op ≠ 29 ∧ op ≠ 30 ∧ op ≠ 20 ∧ op ≠ 21 ∧ op ≠ 23) (r base used : Nat) (vL vD : Value) (lo st draws : List Int) (a x er : Int) (w : World) (h : RfS w r base vL (lo ++ [a]) st vD draws used) (hlo : lo.length + 1 ≤ 48)
    (HPL : ∀ (W : World), Calls Try.prog 29 #[.int .i64 op, .int .i64 a, .int .i64 a] W fun e w' => e = .returned (.tuple #[.int .i64 x, .int .i64 er, .bool true]) ∧ Kp [] W w') (her : er ≠ 0) :
    Calls Try.prog 20 #[.pointer (some ⟨r, 0, none⟩), .int .i64 op] w (RDo w r base vL vD draws used (er, lo ++ [a], st, draws.drop used)) := by
  have HPL := Lib.hid HPL
  obtain ⟨n27, n28, n22, n29, n30, n20, n21, n23⟩ := hnn
  have HLO := Lib.hid hlo
  have HER := Lib.hid her
  have HND := Lib.hid hneed
  clear hneed
  have H := Lib.hid h
  obtain ⟨g, c, rfl, hc1, hc2, hC0, hF0, hCX, hIL⟩ := h.parts (by simp)
  have C00 := Lib.hid hC0
  have F00 := Lib.hid hF0
  have CX := Lib.hid hCX
  have HIL := Lib.hid hIL
  have HM2 := Lib.hid hc2
  simp only [List.length_cons, List.length_nil, Nat.zero_add, Nat.reduceAdd] at hc1 C00 H ⊢
  have hcN : ¬ (c = 0) := by omega
  have hcN2 : ¬ (c = lo.length) := by omega
  have hcI : (lo.length : Int) ≤ c := by omega
  have hl0 : (0 : Int) ≤ lo.length := by omega
  have hlI : (lo.length : Int) ≤ (lo.length : Int) + 1 := by omega
  have w3' : IntKind.i64.wrap (lo.length : Int) = (lo.length : Int) := wI _ (by omega) (by omega)
  have w4' : wrap64 (lo.length : Int) = (lo.length : Int) := w64 _ (by omega) (by omega)
  have w2' : IntKind.i64.wrap ((lo.length : Int) + 1 - 1) = (lo.length : Int) := (wI _ (by omega) (by omega)).trans (by omega)
  have q0 : Hid (∀ W, Kp [] w W → W.cell? ⟨g, lo.length, none⟩ = some (.int .i64 a)) := fun W hW => CX.out W hW 0 (by simp)
  clear h hC0 hF0 hCX hIL hc2
  have c0 := C00.out w (Kp.refl _ _)
  have q := KW.cell c0
  go_enter Try.func20, Try.ntmps20
  go_wp2_with fail
  refine (rneed_calls op _).mono ?_; rintro e w0 ⟨rfl, rfl⟩
  rw [HND.out]
  go_wp2_with fail
  refine wp_region_kq (by kernel_rfl) (by kernel_rfl) ?_
  repeat (go_big_quiet_step (fail))
  refine wpQuiet_nil ?_
  intro w1 hw'
  obtain ⟨⟨_, hkw1⟩, rfl⟩ := hw'
  clear q c0 w2' w3' w4'
  go_wp2_with fail
  have qq0 := KW.cell (q0.out w1 hkw1)
  refine wp_region_kq (by kernel_rfl) (by kernel_rfl) ?_
  repeat (go_big_quiet_step ((go_at_call 29; exact Calls.kq (HPL.out _))))
  refine wpQuiet_nil ?_
  intro w2 hw'
  obtain ⟨⟨_, hkw2⟩, rfl⟩ := hw'
  clear qq0
  have hkt2 : Kp [] w w2 := hkw1.trans hkw2
  have HS := Lib.hid (RDo.same H.out hkt2 er)
  have hb0 : (er != 0) = true := bne_iff_ne.2 her
  go_wp2_with fail
  go_ret
  exact HS.out
set_option maxRecDepth 100000 in
set_option maxHeartbeats 4000000 in
theorem rdo_num2 (op : Int) (hneed : rneed op = 2) (hnn : op ≠ 27 ∧ op ≠ 28 ∧ op ≠ 22 ∧ op ≠ 29 ∧ op ≠ 30 ∧ op ≠ 20 ∧ op ≠ 21 ∧ op ≠ 23) (r base used : Nat) (vL vD : Value) (lo st draws : List Int) (a b x er : Int) (w : World) (h : RfS w r base vL (lo ++ [a, b]) st vD draws used) (hlo : lo.length + 2 ≤ 48)
    (HPL : ∀ (W : World), Calls Try.prog 29 #[.int .i64 op, .int .i64 a, .int .i64 b] W fun e w' => e = .returned (.tuple #[.int .i64 x, .int .i64 er, .bool true]) ∧ Kp [] W w') (her : er = 0) :
    Calls Try.prog 20 #[.pointer (some ⟨r, 0, none⟩), .int .i64 op] w (RDo w r base vL vD draws used (0, lo ++ [x], st, draws.drop used)) := by
  have HPL := Lib.hid HPL
  obtain ⟨n27, n28, n22, n29, n30, n20, n21, n23⟩ := hnn
  have HLO := Lib.hid hlo
  have HER := Lib.hid her
  have HND := Lib.hid hneed
  clear hneed
  have H := Lib.hid h
  obtain ⟨g, c, rfl, hc1, hc2, hC0, hF0, hCX, hIL⟩ := h.parts (by simp)
  have C00 := Lib.hid hC0
  have F00 := Lib.hid hF0
  have CX := Lib.hid hCX
  have HIL := Lib.hid hIL
  have HM2 := Lib.hid hc2
  simp only [List.length_cons, List.length_nil, Nat.zero_add, Nat.reduceAdd] at hc1 C00 H ⊢
  have hcN : ¬ (c = 0) := by omega
  have hcN2 : ¬ (c = lo.length) := by omega
  have hcI : (lo.length : Int) ≤ c := by omega
  have hl0 : (0 : Int) ≤ lo.length := by omega
  have hlI : (lo.length : Int) ≤ (lo.length : Int) + 2 := by omega
  have w3' : IntKind.i64.wrap (lo.length : Int) = (lo.length : Int) := wI _ (by omega) (by omega)
  have w4' : wrap64 (lo.length : Int) = (lo.length : Int) := w64 _ (by omega) (by omega)
  have w2' : IntKind.i64.wrap ((lo.length : Int) + 2 - 2) = (lo.length : Int) := (wI _ (by omega) (by omega)).trans (by omega)
  have q0 : Hid (∀ W, Kp [] w W → W.cell? ⟨g, lo.length, none⟩ = some (.int .i64 a)) := fun W hW => CX.out W hW 0 (by simp)
  have q1 : Hid (∀ W, Kp [] w W → W.cell? ⟨g, lo.length + 1, none⟩ = some (.int .i64 b)) := fun W hW => CX.out W hW 1 (by simp)
  clear h hC0 hF0 hCX hIL hc2
  have c0 := C00.out w (Kp.refl _ _)
  have q := KW.cell c0
  go_enter Try.func20, Try.ntmps20
  go_wp2_with fail
  refine (rneed_calls op _).mono ?_; rintro e w0 ⟨rfl, rfl⟩
  rw [HND.out]
  go_wp2_with fail
  refine wp_region_kq (by kernel_rfl) (by kernel_rfl) ?_
  repeat (go_big_quiet_step (fail))
  refine wpQuiet_nil ?_
  intro w1 hw'
  obtain ⟨⟨_, hkw1⟩, rfl⟩ := hw'
  clear q c0 w2' w3' w4'
  go_wp2_with fail
  have qq0 := KW.cell (q0.out w1 hkw1)
  have qq1 := KW.cell (q1.out w1 hkw1)
  refine wp_region_kq (by kernel_rfl) (by kernel_rfl) ?_
  repeat (go_big_quiet_step ((go_at_call 29; exact Calls.kq (HPL.out _))))
  refine wpQuiet_nil ?_
  intro w2 hw'
  obtain ⟨⟨_, hkw2⟩, rfl⟩ := hw'
  clear qq0
  clear qq1
  have hkt2 : Kp [] w w2 := hkw1.trans hkw2
  subst her
  have HLEN : Hid (lo.length + 1 ≤ 48) := by have := HLO.out; show _ ≤ _; omega
  have ILO : Hid (∀ W, Kp [] w W → IsInts .i64 W (.slice (some ⟨g, 0, none⟩) lo.length c) lo) := fun W hW => by have := HIL.out W hW lo.length (Nat.le_refl _); rw [List.take_length] at this; exact this
  have ILW : Hid (∀ V, Kp [] (w2.alloc (.cells #[.int .i64 x] 3)) V → IsInts .i64 V (.slice (some ⟨g, 0, none⟩) lo.length c) lo) := fun V hV => ILO.out V (Kp.trans (hkt2.alloc _) hV)
  have IOL : Hid (∀ V, Kp [] (w2.alloc (.cells #[.int .i64 x] 3)) V → IsInts .i64 V (.slice (some ⟨w2.heap.size, 0, none⟩) 1 1) [x]) := fun V hV => lit_ints w2 V [x] 3 #[.int .i64 x] rfl (by simp [maxLen]) hV
  have hng : decide ((48 : Int) < (lo.length : Int) + 1) = false := decide_eq_false (by have := HLEN.out; omega)
  have Hhwl : Hid (wrap64 ((lo.length : Int) + 1) = (lo.length : Int) + 1) := w64 _ (by omega) (by omega)
  have Hhwl2 : Hid (IntKind.i64.wrap ((lo.length : Int) + 1) = (lo.length : Int) + 1) := wI _ (by omega) (by omega)
  have HKW : Hid (Kp [] w (w2.alloc (.cells #[.int .i64 x] 3))) := hkt2.alloc _
  have HSZ : Hid (w.heap.size ≤ w2.heap.size + 1) := by have := HKW.out.size; (try simp at this); show _ ≤ _; first | omega | (simp [World.setCell]; done)
  have hwl := Hhwl.out
  have hwl2 := Hhwl2.out
  go_wp2_with (at_builtin; refine wpList_app rfl _ _ 22 rfl (w2.heap.size + 1) 3 (.int .i64 0) 1 8 Try.underlying22 infoIntS rfl (by decide) (by decide) (.slice (some ⟨w2.heap.size + 1, 0, none⟩) 0 0) 0 [] rfl ?xown (.slice (some ⟨g, 0, none⟩) lo.length c) (lo.length) ((lo).map (Value.int .i64)) rfl ?xsrc (oneCell_ints _ _) ?xb1 (by first | (simp; done) | (simp [World.setCell]; done)) ?xk)
  case xown => exact own_empty _ _ _ _ _ (by first | (simp; done) | (simp [World.setCell]; done)) (Nat.le_refl _)
  case xsrc => exact (ILW.out _ ((Kp.refl [] (w2.alloc (.cells #[.int .i64 x] 3))).alloc _)).reads'
  try (case xb1 => (clear hwl hwl2; have := HLEN.out; omega))
  case xk =>
  intro v7 w7 hown hgr
  clear hwl hwl2
  try simp only [Nat.zero_add, List.nil_append] at hown
  have hk7 : Kp [] (w2.alloc (.cells #[.int .i64 x] 3)) w7 := Kp.grown ((Kp.refl _ _).alloc _) hgr (by intro k hk; right; simp [Value.ownBlock] at hk ⊢; first | omega | (simp [World.setCell]; omega))
  have HBL := Lib.hid (own_ge hown)
  obtain ⟨p7, q7, rfl⟩ := slice_own hown
  have HO := Lib.hid hown
  have HK7 := Lib.hid hk7
  clear hown hgr hk7
  go_wp2_with (at_builtin; refine wpList_app rfl _ _ 22 rfl (w2.heap.size + 1) 3 (.int .i64 0) 1 8 Try.underlying22 infoIntS rfl (by decide) (by decide) (.slice p7 (lo.length) q7) (lo.length) ((lo).map (Value.int .i64)) rfl ?yown (.slice (some ⟨w2.heap.size, 0, none⟩) 1 1) (1) (([x]).map (Value.int .i64)) rfl ?ysrc (oneCell_ints _ _) ?yb1 (by have := HK7.out.size; (try simp at this); first | omega | (simp [World.setCell] at this; omega)) ?yk)
  case yown => first | exact HO.out | (rw [List.map_take]; exact HO.out) | simpa using HO.out
  case ysrc => exact (IOL.out _ HK7.out).reads'
  try (case yb1 => (have := HLEN.out; omega))
  case yk =>
  intro v8 w8 hown hgr
  have hk8 : Kp [] (w2.alloc (.cells #[.int .i64 x] 3)) w8 := Kp.grown HK7.out hgr (fun k hk => .inr (by have := HBL.out k hk; (try simp); first | omega | (simp [World.setCell]; omega)))
  have hkw8 : Kp [] w w8 := HKW.out.trans hk8
  have ho : OwnC w8 w.heap.size 3 v8 (lo ++ [x]) := OwnC_mono (OwnC.owned (n := lo.length + 1) (Nat.le_refl _) (by have := HLEN.out; simp; try omega) (by first | (rw [List.map_append]; exact hown) | simpa using hown)) HSZ.out
  have HFIN := Lib.hid (H.out.put hkw8 ho)
  have c8 := C00.out _ hkw8
  have f8 := F00.out _ hkw8
  obtain ⟨p8, q8, rfl⟩ := slice_own hown
  clear hown hgr hk8 ho hkw8
  go_wp2_with fail
  go_ret
  exact ⟨rfl, _, used, by omega, rfl, HFIN.out.1, HFIN.out.2⟩
set_option maxRecDepth 100000 in
set_option maxHeartbeats 4000000 in
theorem rdo_num2_er (op : Int) (hneed : rneed op = 2) (hnn : op ≠ 27 ∧ op ≠ 28 ∧ op ≠ 22 ∧ op ≠ 29 ∧ op ≠ 30 ∧ op ≠ 20 ∧ op ≠ 21 ∧ op ≠ 23) (r base used : Nat) (vL vD : Value) (lo st draws : List Int) (a b x er : Int) (w : World) (h : RfS w r base vL (lo ++ [a, b]) st vD draws used) (hlo : lo.length + 2 ≤ 48)
    (HPL : ∀ (W : World), Calls Try.prog 29 #[.int .i64 op, .int .i64 a, .int .i64 b] W fun e w' => e = .returned (.tuple #[.int .i64 x, .int .i64 er, .bool true]) ∧ Kp [] W w') (her : er ≠ 0) :
    Calls Try.prog 20 #[.pointer (some ⟨r, 0, none⟩), .int .i64 op] w (RDo w r base vL vD draws used (er, lo ++ [a, b], st, draws.drop used)) := by
  have HPL := Lib.hid HPL
  obtain ⟨n27, n28, n22, n29, n30, n20, n21, n23⟩ := hnn
  have HLO := Lib.hid hlo
  have HER := Lib.hid her
  have HND := Lib.hid hneed
  clear hneed
  have H := Lib.hid h
  obtain ⟨g, c, rfl, hc1, hc2, hC0, hF0, hCX, hIL⟩ := h.parts (by simp)
  have C00 := Lib.hid hC0
  have F00 := Lib.hid hF0
  have CX := Lib.hid hCX
  have HIL := Lib.hid hIL
  have HM2 := Lib.hid hc2
  simp only [List.length_cons, List.length_nil, Nat.zero_add, Nat.reduceAdd] at hc1 C00 H ⊢
  have hcN : ¬ (c = 0) := by omega
  have hcN2 : ¬ (c = lo.length) := by omega
  have hcI : (lo.length : Int) ≤ c := by omega
  have hl0 : (0 : Int) ≤ lo.length := by omega
  have hlI : (lo.length : Int) ≤ (lo.length : Int) + 2 := by omega
  have w3' : IntKind.i64.wrap (lo.length : Int) = (lo.length : Int) := wI _ (by omega) (by omega)
  have w4' : wrap64 (lo.length : Int) = (lo.length : Int) := w64 _ (by omega) (by omega)
  have w2' : IntKind.i64.wrap ((lo.length : Int) + 2 - 2) = (lo.length : Int) := (wI _ (by omega) (by omega)).trans (by omega)
  have q0 : Hid (∀ W, Kp [] w W → W.cell? ⟨g, lo.length, none⟩ = some (.int .i64 a)) := fun W hW => CX.out W hW 0 (by simp)
  have q1 : Hid (∀ W, Kp [] w W → W.cell? ⟨g, lo.length + 1, none⟩ = some (.int .i64 b)) := fun W hW => CX.out W hW 1 (by simp)
  clear h hC0 hF0 hCX hIL hc2
  have c0 := C00.out w (Kp.refl _ _)
  have q := KW.cell c0
  go_enter Try.func20, Try.ntmps20
  go_wp2_with fail
  refine (rneed_calls op _).mono ?_; rintro e w0 ⟨rfl, rfl⟩
  rw [HND.out]
  go_wp2_with fail
  refine wp_region_kq (by kernel_rfl) (by kernel_rfl) ?_
  repeat (go_big_quiet_step (fail))
  refine wpQuiet_nil ?_
  intro w1 hw'
  obtain ⟨⟨_, hkw1⟩, rfl⟩ := hw'
  clear q c0 w2' w3' w4'
  go_wp2_with fail
  have qq0 := KW.cell (q0.out w1 hkw1)
  have qq1 := KW.cell (q1.out w1 hkw1)
  refine wp_region_kq (by kernel_rfl) (by kernel_rfl) ?_
  repeat (go_big_quiet_step ((go_at_call 29; exact Calls.kq (HPL.out _))))
  refine wpQuiet_nil ?_
  intro w2 hw'
  obtain ⟨⟨_, hkw2⟩, rfl⟩ := hw'
  clear qq0
  clear qq1
  have hkt2 : Kp [] w w2 := hkw1.trans hkw2
  have HS := Lib.hid (RDo.same H.out hkt2 er)
  have hb0 : (er != 0) = true := bne_iff_ne.2 her
  go_wp2_with fail
  go_ret
  exact HS.out
set_option maxRecDepth 100000 in
set_option maxHeartbeats 4000000 in
theorem rdo_30_no (r base used : Nat) (vL vD : Value) (lo st draws : List Int) (a b : Int) (w : World) (h : RfS w r base vL (lo ++ [a, b]) st vD draws used) (hlo : lo.length + 2 ≤ 48) (ha : mayB a = true) (hb : mayB b = true) (hfit : a / 65536 < 0 ∨ (lo.length : Int) < a / 65536) :
    Calls Try.prog 20 #[.pointer (some ⟨r, 0, none⟩), .int .i64 30] w (RDo w r base vL vD draws used (170, lo ++ [a, b], st, draws.drop used)) := by
  have HPL : Hid (∀ (a b : Int) (W : World), Calls Try.prog 29 #[.int .i64 30, .int .i64 a, .int .i64 b] W fun e w' => e = .returned (.tuple #[.int .i64 0, .int .i64 0, .bool false]) ∧ Kp [] W w') := fun a b W => rplain_mov 30 a b (by simp [isMov]) W
  have HLO := Lib.hid hlo
  have HFT := Lib.hid hfit
  clear hfit
  have H := Lib.hid h
  obtain ⟨g, c, rfl, hc1, hc2, hC0, hF0, hCX, hIL⟩ := h.parts (by simp)
  have C00 := Lib.hid hC0
  have F00 := Lib.hid hF0
  have CX := Lib.hid hCX
  have HIL := Lib.hid hIL
  have HM2 := Lib.hid hc2
  simp only [List.length_cons, List.length_nil, Nat.zero_add, Nat.reduceAdd] at hc1 C00 H ⊢
  have hcN : ¬ (c = 0) := by omega
  have hcN2 : ¬ (c = lo.length) := by omega
  have hcI : (lo.length : Int) ≤ c := by omega
  have hl0 : (0 : Int) ≤ lo.length := by omega
  have hlI : (lo.length : Int) ≤ (lo.length : Int) + 2 := by omega
  have w3' : IntKind.i64.wrap (lo.length : Int) = (lo.length : Int) := wI _ (by omega) (by omega)
  have w4' : wrap64 (lo.length : Int) = (lo.length : Int) := w64 _ (by omega) (by omega)
  have w2' : IntKind.i64.wrap ((lo.length : Int) + 2 - 2) = (lo.length : Int) := (wI _ (by omega) (by omega)).trans (by omega)
  have q0 : Hid (∀ W, Kp [] w W → W.cell? ⟨g, lo.length, none⟩ = some (.int .i64 a)) := fun W hW => CX.out W hW 0 (by simp)
  have q1 : Hid (∀ W, Kp [] w W → W.cell? ⟨g, lo.length + 1, none⟩ = some (.int .i64 b)) := fun W hW => CX.out W hW 1 (by simp)
  clear h hC0 hF0 hCX hIL hc2
  have c0 := C00.out w (Kp.refl _ _)
  have q := KW.cell c0
  go_enter Try.func20, Try.ntmps20
  go_wp2_with fail
  refine (rneed_calls 30 _).mono ?_; rintro e w0 ⟨rfl, rfl⟩
  rw [show rneed 30 = 2 by decide]
  go_wp2_with fail
  refine wp_region_kq (by kernel_rfl) (by kernel_rfl) ?_
  repeat (go_big_quiet_step (fail))
  refine wpQuiet_nil ?_
  intro w1 hw'
  obtain ⟨⟨_, hkw1⟩, rfl⟩ := hw'
  clear q c0 w2' w3' w4'
  go_wp2_with fail
  have hba := may_le ha
  have hbb := may_le hb
  have HFa : Hid (∀ W, Calls Try.prog 30 #[.int .i64 a, .int .i64 65536] W fun e w' => e = .returned (.int .i64 (a / 65536)) ∧ Kp [] W w') := fun W => rfloor_kq a 65536 (by omega) (by omega) (by omega) (by decide) (by decide) W
  have HFb : Hid (∀ W, Calls Try.prog 30 #[.int .i64 b, .int .i64 65536] W fun e w' => e = .returned (.int .i64 (b / 65536)) ∧ Kp [] W w') := fun W => rfloor_kq b 65536 (by omega) (by omega) (by omega) (by decide) (by decide) W
  have hz1 : -32768 ≤ a / 65536 ∧ a / 65536 ≤ 32768 := by omega
  have hz2 : Hid (-32768 ≤ b / 65536 ∧ b / 65536 ≤ 32768) := by show _ ∧ _; omega
  generalize a / 65536 = z at *
  generalize b / 65536 = y at *
  clear hba hbb ha hb
  have qq0 := KW.cell (q0.out w1 hkw1)
  have qq1 := KW.cell (q1.out w1 hkw1)
  refine wp_region_kq (by kernel_rfl) (by kernel_rfl) ?_
  repeat (go_big_quiet_step ((go_at_call 29; exact Calls.kq (HPL.out _ _ _))))
  refine wpQuiet_nil ?_
  intro w2 hw'
  obtain ⟨⟨_, hkw2⟩, rfl⟩ := hw'
  clear qq0
  clear qq1
  have hkt2 : Kp [] w w2 := hkw1.trans hkw2
  go_wp2_with fail
  have qq0 := KW.cell (q0.out w2 hkt2)
  have qq1 := KW.cell (q1.out w2 hkt2)
  refine wp_region_kq (by kernel_rfl) (by kernel_rfl) ?_
  repeat (go_big_quiet_step ((go_at_call 30; first | with_reducible exact Calls.kq (HFa.out _) | with_reducible exact Calls.kq (HFb.out _))))
  refine wpQuiet_nil ?_
  intro w3 hw'
  obtain ⟨⟨_, hkw3⟩, rfl⟩ := hw'
  clear qq0 qq1
  have hkt3 : Kp [] w w3 := hkt2.trans hkw3
  have HS := Lib.hid (RDo.same H.out hkt3 170)
  have hf := HFT.out
  by_cases hz0 : z < 0
  · clear hf
    go_wp2_with fail
    go_ret
    exact HS.out
  · have hge : (lo.length : Int) < z := by omega
    clear hf
    go_wp2_with fail
    go_ret
    exact HS.out
set_option maxRecDepth 100000 in
set_option maxHeartbeats 4000000 in
theorem rdo_30_zero (r base used : Nat) (vL vD : Value) (lo st draws : List Int) (a b : Int) (w : World) (h : RfS w r base vL (lo ++ [a, b]) st vD draws used) (hlo : lo.length + 2 ≤ 48) (ha : mayB a = true) (hb : mayB b = true) (hfit : a / 65536 = 0) :
    Calls Try.prog 20 #[.pointer (some ⟨r, 0, none⟩), .int .i64 30] w (RDo w r base vL vD draws used (0, lo, st, draws.drop used)) := by
  have HPL : Hid (∀ (a b : Int) (W : World), Calls Try.prog 29 #[.int .i64 30, .int .i64 a, .int .i64 b] W fun e w' => e = .returned (.tuple #[.int .i64 0, .int .i64 0, .bool false]) ∧ Kp [] W w') := fun a b W => rplain_mov 30 a b (by simp [isMov]) W
  have HLO := Lib.hid hlo
  have HFT := Lib.hid hfit
  clear hfit
  have H := Lib.hid h
  obtain ⟨g, c, rfl, hc1, hc2, hC0, hF0, hCX, hIL⟩ := h.parts (by simp)
  have C00 := Lib.hid hC0
  have F00 := Lib.hid hF0
  have CX := Lib.hid hCX
  have HIL := Lib.hid hIL
  have HM2 := Lib.hid hc2
  simp only [List.length_cons, List.length_nil, Nat.zero_add, Nat.reduceAdd] at hc1 C00 H ⊢
  have hcN : ¬ (c = 0) := by omega
  have hcN2 : ¬ (c = lo.length) := by omega
  have hcI : (lo.length : Int) ≤ c := by omega
  have hl0 : (0 : Int) ≤ lo.length := by omega
  have hlI : (lo.length : Int) ≤ (lo.length : Int) + 2 := by omega
  have w3' : IntKind.i64.wrap (lo.length : Int) = (lo.length : Int) := wI _ (by omega) (by omega)
  have w4' : wrap64 (lo.length : Int) = (lo.length : Int) := w64 _ (by omega) (by omega)
  have w2' : IntKind.i64.wrap ((lo.length : Int) + 2 - 2) = (lo.length : Int) := (wI _ (by omega) (by omega)).trans (by omega)
  have q0 : Hid (∀ W, Kp [] w W → W.cell? ⟨g, lo.length, none⟩ = some (.int .i64 a)) := fun W hW => CX.out W hW 0 (by simp)
  have q1 : Hid (∀ W, Kp [] w W → W.cell? ⟨g, lo.length + 1, none⟩ = some (.int .i64 b)) := fun W hW => CX.out W hW 1 (by simp)
  clear h hC0 hF0 hCX hIL hc2
  have c0 := C00.out w (Kp.refl _ _)
  have q := KW.cell c0
  go_enter Try.func20, Try.ntmps20
  go_wp2_with fail
  refine (rneed_calls 30 _).mono ?_; rintro e w0 ⟨rfl, rfl⟩
  rw [show rneed 30 = 2 by decide]
  go_wp2_with fail
  refine wp_region_kq (by kernel_rfl) (by kernel_rfl) ?_
  repeat (go_big_quiet_step (fail))
  refine wpQuiet_nil ?_
  intro w1 hw'
  obtain ⟨⟨_, hkw1⟩, rfl⟩ := hw'
  clear q c0 w2' w3' w4'
  go_wp2_with fail
  have hba := may_le ha
  have hbb := may_le hb
  have HFa : Hid (∀ W, Calls Try.prog 30 #[.int .i64 a, .int .i64 65536] W fun e w' => e = .returned (.int .i64 (a / 65536)) ∧ Kp [] W w') := fun W => rfloor_kq a 65536 (by omega) (by omega) (by omega) (by decide) (by decide) W
  have HFb : Hid (∀ W, Calls Try.prog 30 #[.int .i64 b, .int .i64 65536] W fun e w' => e = .returned (.int .i64 (b / 65536)) ∧ Kp [] W w') := fun W => rfloor_kq b 65536 (by omega) (by omega) (by omega) (by decide) (by decide) W
  have hz1 : -32768 ≤ a / 65536 ∧ a / 65536 ≤ 32768 := by omega
  have hz2 : Hid (-32768 ≤ b / 65536 ∧ b / 65536 ≤ 32768) := by show _ ∧ _; omega
  generalize a / 65536 = z at *
  generalize b / 65536 = y at *
  clear hba hbb ha hb
  have qq0 := KW.cell (q0.out w1 hkw1)
  have qq1 := KW.cell (q1.out w1 hkw1)
  refine wp_region_kq (by kernel_rfl) (by kernel_rfl) ?_
  repeat (go_big_quiet_step ((go_at_call 29; exact Calls.kq (HPL.out _ _ _))))
  refine wpQuiet_nil ?_
  intro w2 hw'
  obtain ⟨⟨_, hkw2⟩, rfl⟩ := hw'
  clear qq0
  clear qq1
  have hkt2 : Kp [] w w2 := hkw1.trans hkw2
  go_wp2_with fail
  have qq0 := KW.cell (q0.out w2 hkt2)
  have qq1 := KW.cell (q1.out w2 hkt2)
  refine wp_region_kq (by kernel_rfl) (by kernel_rfl) ?_
  repeat (go_big_quiet_step ((go_at_call 30; first | with_reducible exact Calls.kq (HFa.out _) | with_reducible exact Calls.kq (HFb.out _))))
  refine wpQuiet_nil ?_
  intro w3 hw'
  obtain ⟨⟨_, hkw3⟩, rfl⟩ := hw'
  clear qq0 qq1
  have hkt3 : Kp [] w w3 := hkt2.trans hkw3
  have hf := HFT.out
  subst hf
  have ILO : Hid (∀ W, Kp [] w W → IsInts .i64 W (.slice (some ⟨g, 0, none⟩) lo.length c) lo) := fun W hW => by have := HIL.out W hW lo.length (Nat.le_refl _); rw [List.take_length] at this; exact this
  have ILW : Hid (∀ V, Kp [] (w3) V → IsInts .i64 V (.slice (some ⟨g, 0, none⟩) lo.length c) lo) := fun V hV => ILO.out V (Kp.trans (hkt3) hV)
  have HLEN : Hid (lo.length + 0 ≤ 48) := by have := HLO.out; show _ ≤ _; omega
  have INI : Hid (∀ V, Kp [] w3 V → IsInts .i64 V (.slice none 0 0) []) := fun V _ => .inl ⟨⟨_, rfl⟩, rfl⟩
  have hng : decide ((48 : Int) < lo.length) = false := decide_eq_false (by omega)
  have Hhwl : Hid (wrap64 (lo.length : Int) = lo.length) := w64 _ (by omega) (by omega)
  have Hhwl2 : Hid (IntKind.i64.wrap ((lo.length : Int) - 0) = lo.length) := (wI _ (by omega) (by omega)).trans (by omega)
  have HKW : Hid (Kp [] w (w3)) := hkt3
  have HSZ : Hid (w.heap.size ≤ w3.heap.size) := by have := HKW.out.size; (try simp at this); show _ ≤ _; first | omega | (simp [World.setCell]; done)
  have hwl := Hhwl.out
  have hwl2 := Hhwl2.out
  go_wp2_with (at_builtin; refine wpList_app rfl _ _ 22 rfl (w3.heap.size) 3 (.int .i64 0) 1 8 Try.underlying22 infoIntS rfl (by decide) (by decide) (.slice (some ⟨w3.heap.size, 0, none⟩) 0 0) 0 [] rfl ?xown (.slice (some ⟨g, 0, none⟩) lo.length c) (lo.length) ((lo).map (Value.int .i64)) rfl ?xsrc (oneCell_ints _ _) ?xb1 (by first | (simp; done) | (simp [World.setCell]; done)) ?xk)
  case xown => exact own_empty _ _ _ _ _ (by first | (simp; done) | (simp [World.setCell]; done)) (Nat.le_refl _)
  case xsrc => exact (ILW.out _ ((Kp.refl [] (w3)).alloc _)).reads'
  try (case xb1 => (clear hwl hwl2; have := HLEN.out; omega))
  case xk =>
  intro v7 w7 hown hgr
  clear hwl hwl2
  try simp only [Nat.zero_add, List.nil_append] at hown
  have hk7 : Kp [] (w3) w7 := Kp.grown ((Kp.refl _ _).alloc _) hgr (by intro k hk; right; simp [Value.ownBlock] at hk ⊢; first | omega | (simp [World.setCell]; omega))
  have HBL := Lib.hid (own_ge hown)
  obtain ⟨p7, q7, rfl⟩ := slice_own hown
  have HO := Lib.hid hown
  have HK7 := Lib.hid hk7
  clear hown hgr hk7
  go_wp2_with (at_builtin; refine wpList_app rfl _ _ 22 rfl (w3.heap.size) 3 (.int .i64 0) 1 8 Try.underlying22 infoIntS rfl (by decide) (by decide) (.slice p7 (lo.length) q7) (lo.length) ((lo).map (Value.int .i64)) rfl ?yown (.slice none 0 0) (0) ((([] : List Int)).map (Value.int .i64)) rfl ?ysrc (oneCell_ints _ _) ?yb1 (by have := HK7.out.size; (try simp at this); first | omega | (simp [World.setCell] at this; omega)) ?yk)
  case yown => first | exact HO.out | (rw [List.map_take]; exact HO.out) | simpa using HO.out
  case ysrc => exact (INI.out _ HK7.out).reads'
  try (case yb1 => (have := HLEN.out; omega))
  case yk =>
  intro v8 w8 hown hgr
  have hk8 : Kp [] (w3) w8 := Kp.grown HK7.out hgr (fun k hk => .inr (by have := HBL.out k hk; (try simp); first | omega | (simp [World.setCell]; omega)))
  have hkw8 : Kp [] w w8 := HKW.out.trans hk8
  have ho : OwnC w8 w.heap.size 3 v8 (lo ++ ([] : List Int)) := OwnC_mono (OwnC.owned (n := lo.length + 0) (Nat.le_refl _) (by have := HLEN.out; simp; try omega) (by first | (rw [List.map_append]; exact hown) | simpa using hown)) HSZ.out
  have HFIN := Lib.hid (H.out.put hkw8 ho)
  have c8 := C00.out _ hkw8
  have f8 := F00.out _ hkw8
  obtain ⟨p8, q8, rfl⟩ := slice_own hown
  clear hown hgr hk8 ho hkw8
  go_wp2_with fail
  go_ret
  rw [List.append_nil] at HFIN
  exact ⟨rfl, _, used, by omega, rfl, HFIN.out.1, HFIN.out.2⟩
set_option maxRecDepth 100000 in
set_option maxHeartbeats 4000000 in
theorem rdo_30 (r base used : Nat) (vL vD : Value) (lo st draws : List Int) (a b : Int) (w : World) (h : RfS w r base vL (lo ++ [a, b]) st vD draws used) (hlo : lo.length + 2 ≤ 48) (ha : mayB a = true) (hb : mayB b = true) (m q : Nat) (hfit : a / 65536 = m ∧ 1 ≤ m ∧ q + m = lo.length) :
    Calls Try.prog 20 #[.pointer (some ⟨r, 0, none⟩), .int .i64 30] w (RDo w r base vL vD draws used (0, lo.take q ++ rr (lo.drop q) ((b / 65536) % m).toNat, st, draws.drop used)) := by
  have HPL : Hid (∀ (a b : Int) (W : World), Calls Try.prog 29 #[.int .i64 30, .int .i64 a, .int .i64 b] W fun e w' => e = .returned (.tuple #[.int .i64 0, .int .i64 0, .bool false]) ∧ Kp [] W w') := fun a b W => rplain_mov 30 a b (by simp [isMov]) W
  have HLO := Lib.hid hlo
  have HFT := Lib.hid hfit
  clear hfit
  have H := Lib.hid h
  obtain ⟨g, c, rfl, hc1, hc2, hC0, hF0, hCX, hIL⟩ := h.parts (by simp)
  have C00 := Lib.hid hC0
  have F00 := Lib.hid hF0
  have CX := Lib.hid hCX
  have HIL := Lib.hid hIL
  have HM2 := Lib.hid hc2
  simp only [List.length_cons, List.length_nil, Nat.zero_add, Nat.reduceAdd] at hc1 C00 H ⊢
  have hcN : ¬ (c = 0) := by omega
  have hcN2 : ¬ (c = lo.length) := by omega
  have hcI : (lo.length : Int) ≤ c := by omega
  have hl0 : (0 : Int) ≤ lo.length := by omega
  have hlI : (lo.length : Int) ≤ (lo.length : Int) + 2 := by omega
  have w3' : IntKind.i64.wrap (lo.length : Int) = (lo.length : Int) := wI _ (by omega) (by omega)
  have w4' : wrap64 (lo.length : Int) = (lo.length : Int) := w64 _ (by omega) (by omega)
  have w2' : IntKind.i64.wrap ((lo.length : Int) + 2 - 2) = (lo.length : Int) := (wI _ (by omega) (by omega)).trans (by omega)
  have q0 : Hid (∀ W, Kp [] w W → W.cell? ⟨g, lo.length, none⟩ = some (.int .i64 a)) := fun W hW => CX.out W hW 0 (by simp)
  have q1 : Hid (∀ W, Kp [] w W → W.cell? ⟨g, lo.length + 1, none⟩ = some (.int .i64 b)) := fun W hW => CX.out W hW 1 (by simp)
  clear h hC0 hF0 hCX hIL hc2
  have c0 := C00.out w (Kp.refl _ _)
  have q := KW.cell c0
  go_enter Try.func20, Try.ntmps20
  go_wp2_with fail
  refine (rneed_calls 30 _).mono ?_; rintro e w0 ⟨rfl, rfl⟩
  rw [show rneed 30 = 2 by decide]
  go_wp2_with fail
  refine wp_region_kq (by kernel_rfl) (by kernel_rfl) ?_
  repeat (go_big_quiet_step (fail))
  refine wpQuiet_nil ?_
  intro w1 hw'
  obtain ⟨⟨_, hkw1⟩, rfl⟩ := hw'
  clear q c0 w2' w3' w4'
  go_wp2_with fail
  have hba := may_le ha
  have hbb := may_le hb
  have HFa : Hid (∀ W, Calls Try.prog 30 #[.int .i64 a, .int .i64 65536] W fun e w' => e = .returned (.int .i64 (a / 65536)) ∧ Kp [] W w') := fun W => rfloor_kq a 65536 (by omega) (by omega) (by omega) (by decide) (by decide) W
  have HFb : Hid (∀ W, Calls Try.prog 30 #[.int .i64 b, .int .i64 65536] W fun e w' => e = .returned (.int .i64 (b / 65536)) ∧ Kp [] W w') := fun W => rfloor_kq b 65536 (by omega) (by omega) (by omega) (by decide) (by decide) W
  have hz1 : -32768 ≤ a / 65536 ∧ a / 65536 ≤ 32768 := by omega
  have hz2 : Hid (-32768 ≤ b / 65536 ∧ b / 65536 ≤ 32768) := by show _ ∧ _; omega
  generalize a / 65536 = z at *
  generalize b / 65536 = y at *
  clear hba hbb ha hb
  have qq0 := KW.cell (q0.out w1 hkw1)
  have qq1 := KW.cell (q1.out w1 hkw1)
  refine wp_region_kq (by kernel_rfl) (by kernel_rfl) ?_
  repeat (go_big_quiet_step ((go_at_call 29; exact Calls.kq (HPL.out _ _ _))))
  refine wpQuiet_nil ?_
  intro w2 hw'
  obtain ⟨⟨_, hkw2⟩, rfl⟩ := hw'
  clear qq0
  clear qq1
  have hkt2 : Kp [] w w2 := hkw1.trans hkw2
  go_wp2_with fail
  have qq0 := KW.cell (q0.out w2 hkt2)
  have qq1 := KW.cell (q1.out w2 hkt2)
  refine wp_region_kq (by kernel_rfl) (by kernel_rfl) ?_
  repeat (go_big_quiet_step ((go_at_call 30; first | with_reducible exact Calls.kq (HFa.out _) | with_reducible exact Calls.kq (HFb.out _))))
  refine wpQuiet_nil ?_
  intro w3 hw'
  obtain ⟨⟨_, hkw3⟩, rfl⟩ := hw'
  clear qq0 qq1
  have hkt3 : Kp [] w w3 := hkt2.trans hkw3
  obtain ⟨hf, hm1, hqm⟩ := HFT.out
  subst hf
  have HQM := Lib.hid hqm
  have ILQ : Hid (∀ V, Kp [] w3 V → IsInts .i64 V (.slice (some ⟨g, 0, none⟩) q c) (lo.take q)) := fun V hV => HIL.out V (hkt3.trans hV) q (by omega)
  have ILD : Hid (IsInts .i64 w3 (.slice (some ⟨g, q, none⟩) m (c - q)) (lo.drop q)) := by
    refine .inr ⟨g, q, c - q, by rw [show (lo.drop q).length = m by simp; omega], by simp; omega, by have := HM2.out; omega, fun i hi => ?_⟩
    have hi2 : q + i < lo.length := by simp at hi; omega
    obtain ⟨g', off', e, h2, _⟩ := (HIL.out w3 hkt3 lo.length (Nat.le_refl _)).at (by simp) (q + i) hi2
    cases e
    rw [Nat.zero_add] at h2
    rw [h2, List.take_length]; simp [List.getD_eq_getElem?_getD, List.getElem?_drop]
  have hDl : Hid ((lo.drop q).length = m) := by show _ = _; simp; omega
  have HLEN : Hid (q + m ≤ 48) := by have := HLO.out; show _ ≤ _; omega
  have hmn : ¬ ((m : Int) < 0) := by omega
  have hmg : ¬ ((lo.length : Int) < m) := by omega
  have hm0 : (0 : Int) < m := by omega
  have hqI : (q : Int) ≤ lo.length := by omega
  have hqc : (q : Int) ≤ c := by omega
  have hlq : lo.length - q = m := by omega
  have hcq : ¬ (c = q) := by omega
  have e1 : IntKind.i64.wrap ((lo.length : Int) - m) = q := (wI _ (by omega) (by omega)).trans (by omega)
  have e2 : wrap64 ((lo.length : Int) - m) = q := (w64 _ (by omega) (by omega)).trans (by omega)
  clear hqm
  go_wp2_with fail
  refine (rroll_calls (.slice (some ⟨g, q, none⟩) m (c - q)) (lo.drop q) y (by have := hDl.out; omega) (by have := hDl.out; have := HLEN.out; omega) hz2.out.1 hz2.out.2 _ ILD.out).mono ?_; rintro e w4 ⟨p4, c4, rfl, hI4, hk4⟩
  rw [hDl.out] at hI4 ⊢
  have HI4 := Lib.hid hI4
  have hkt4 : Kp [] w w4 := hkt3.trans hk4
  have ILW : Hid (∀ V, Kp [] w4 V → IsInts .i64 V (.slice (some ⟨g, 0, none⟩) q c) (lo.take q)) := fun V hV => ILQ.out V (hk4.trans hV)
  have IOL : Hid (∀ V, Kp [] w4 V → IsInts .i64 V (.slice p4 m c4) (rr (lo.drop q) (y % m).toNat)) := fun V hV => HI4.out.kp hV (by simp)
  have hTl : Hid ((lo.take q).length = q ∧ (rr (lo.drop q) (y % m).toNat).length = m) := ⟨by have := HQM.out; simp; omega, by rw [rr_len]; exact hDl.out⟩
  have hng : decide ((48 : Int) < (q : Int) + m) = false := decide_eq_false (by have := HLEN.out; omega)
  clear hI4
  have Hhwl : Hid (wrap64 ((q : Int) + m) = (q : Int) + m) := w64 _ (by omega) (by omega)
  have Hhwl2 : Hid (IntKind.i64.wrap ((q : Int) + m) = (q : Int) + m) := wI _ (by omega) (by omega)
  have HKW : Hid (Kp [] w (w4)) := hkt4
  have HSZ : Hid (w.heap.size ≤ w4.heap.size) := by have := HKW.out.size; (try simp at this); show _ ≤ _; first | omega | (simp [World.setCell]; done)
  have hwl := Hhwl.out
  have hwl2 := Hhwl2.out
  go_wp2_with (at_builtin; refine wpList_app rfl _ _ 22 rfl (w4.heap.size) 3 (.int .i64 0) 1 8 Try.underlying22 infoIntS rfl (by decide) (by decide) (.slice (some ⟨w4.heap.size, 0, none⟩) 0 0) 0 [] rfl ?xown (.slice (some ⟨g, 0, none⟩) q c) (q) ((lo.take q).map (Value.int .i64)) rfl ?xsrc (oneCell_ints _ _) ?xb1 (by first | (simp; done) | (simp [World.setCell]; done)) ?xk)
  case xown => exact own_empty _ _ _ _ _ (by first | (simp; done) | (simp [World.setCell]; done)) (Nat.le_refl _)
  case xsrc => exact (ILW.out _ ((Kp.refl [] (w4)).alloc _)).reads'
  try (case xb1 => (clear hwl hwl2; have := HLEN.out; omega))
  case xk =>
  intro v7 w7 hown hgr
  clear hwl hwl2
  try simp only [Nat.zero_add, List.nil_append] at hown
  have hk7 : Kp [] (w4) w7 := Kp.grown ((Kp.refl _ _).alloc _) hgr (by intro k hk; right; simp [Value.ownBlock] at hk ⊢; first | omega | (simp [World.setCell]; omega))
  have HBL := Lib.hid (own_ge hown)
  obtain ⟨p7, q7, rfl⟩ := slice_own hown
  have HO := Lib.hid hown
  have HK7 := Lib.hid hk7
  clear hown hgr hk7
  go_wp2_with (at_builtin; refine wpList_app rfl _ _ 22 rfl (w4.heap.size) 3 (.int .i64 0) 1 8 Try.underlying22 infoIntS rfl (by decide) (by decide) (.slice p7 (q) q7) (q) ((lo.take q).map (Value.int .i64)) rfl ?yown (.slice p4 m c4) (m) ((rr (lo.drop q) (y % m).toNat).map (Value.int .i64)) rfl ?ysrc (oneCell_ints _ _) ?yb1 (by have := HK7.out.size; (try simp at this); first | omega | (simp [World.setCell] at this; omega)) ?yk)
  case yown => first | exact HO.out | (rw [List.map_take]; exact HO.out) | simpa using HO.out
  case ysrc => exact (IOL.out _ HK7.out).reads'
  try (case yb1 => (have := HLEN.out; omega))
  case yk =>
  intro v8 w8 hown hgr
  have hk8 : Kp [] (w4) w8 := Kp.grown HK7.out hgr (fun k hk => .inr (by have := HBL.out k hk; (try simp); first | omega | (simp [World.setCell]; omega)))
  have hkw8 : Kp [] w w8 := HKW.out.trans hk8
  have ho : OwnC w8 w.heap.size 3 v8 (lo.take q ++ rr (lo.drop q) (y % m).toNat) := OwnC_mono (OwnC.owned (n := q + m) (Nat.le_refl _) (by rw [List.length_append, hTl.out.1, hTl.out.2]) (by first | (rw [List.map_append]; exact hown) | simpa using hown)) HSZ.out
  have HFIN := Lib.hid (H.out.put hkw8 ho)
  have c8 := C00.out _ hkw8
  have f8 := F00.out _ hkw8
  obtain ⟨p8, q8, rfl⟩ := slice_own hown
  clear hown hgr hk8 ho hkw8
  go_wp2_with fail
  go_ret
  exact ⟨rfl, _, used, by omega, rfl, HFIN.out.1, HFIN.out.2⟩
theorem RfS.putUsed {w : World} {r base : Nat} {vL vD : Value} {l st draws : List Int} {used : Nat} (h : RfS w r base vL l st vD draws used) (n : Nat) :
    RfS (w.setCell ⟨r, 34, none⟩ (.int .i64 n)) r base vL l st vD draws n ∧ Kp [r] w (w.setCell ⟨r, 34, none⟩ (.int .i64 n)) := by
  have hk : Kp [r] w (w.setCell ⟨r, 34, none⟩ (.int .i64 n)) := (Kp.refl _ _).setCell (.inl (by simp)) _
  have hr := h.lt
  obtain ⟨c1, c2, c3, c4, c5, c6, c7⟩ := h
  refine ⟨⟨?_, c2, c3, c4.kp hk (fun t ht => by simp at ht; subst ht; exact c5), c5, c6.kp hk (fun t ht e => by simp at ht; subst ht; have := c7 _ e; omega), c7⟩, hk⟩
  rw [heap_setCell_same w r 34 _ _ (.int .i64 n) c1]
  have : ((vL :: (st.map (Value.int .i64) ++ [vD, .int .i64 used])).toArray.setIfInBounds 34 (.int .i64 n)) = (vL :: (st.map (Value.int .i64) ++ [vD, .int .i64 n])).toArray := by
    apply Array.ext'
    simp only [Array.toList_setIfInBounds, List.set_cons_succ]
    rw [List.set_append_right _ _ (by simp; omega)]
    simp [c2]
  rw [this]
theorem drop_cons (draws : List Int) (used : Nat) (h : used < draws.length) : draws.drop used = draws.getD used 0 :: draws.drop (used + 1) := by
  rw [List.drop_eq_getElem_cons h, List.getD_eq_getElem?_getD, List.getElem?_eq_getElem h]; rfl
/-- Which number is drawn. -/
def drawnQ (dr : List Int) : Int := match dr with | [] => 65536 | d :: _ => 1 + d % 65536
set_option maxRecDepth 100000 in
set_option maxHeartbeats 4000000 in
theorem rdo_23_nil (r base used : Nat) (pd : Option Addr) (cd : Nat) (l st draws : List Int)  (w : World) (h : RfS w r base (.slice none 0 0) ([] : List Int) st (.slice pd draws.length cd) draws used) (hl : ([] : List Int).length + 1 ≤ 48) (hu : used ≤ 100000) (hil : ∀ W, Kp [] w W → IsInts .i64 W (.slice none 0 0) ([] : List Int)) :
    Calls Try.prog 20 #[.pointer (some ⟨r, 0, none⟩), .int .i64 23] w (RDo w r base (.slice none 0 0) (.slice pd draws.length cd) draws used (0, ([] : List Int) ++ [drawnQ (draws.drop used)], st, draws.drop (used + 1))) := by
  have H := Lib.hid h
  have HLO := Lib.hid hl
  have HU := Lib.hid hu
  have HIL := Lib.hid hil
  have C00 : Hid (∀ W, Kp [] w W → W.cell? ⟨r, 0, none⟩ = some (.slice none 0 0)) := fun W hW => hW.cell h.cell0 (by simp)
  have hn0 : (0 : Int) ≤ 0 := by omega
  clear hil
  have c0 := C00.out w (Kp.refl _ _)
  have q := KW.cell c0
  clear h
  go_enter Try.func20, Try.ntmps20
  go_wp2_with fail
  refine (rneed_calls 23 _).mono ?_; rintro e w0 ⟨rfl, rfl⟩
  rw [show rneed 23 = 0 by decide]
  go_wp2_with fail
  refine wp_region_kq (by kernel_rfl) (by kernel_rfl) ?_
  repeat (go_big_quiet_step (fail))
  refine wpQuiet_nil ?_
  intro w1 hw'
  obtain ⟨⟨_, hkw1⟩, rfl⟩ := hw'
  clear q c0
  try clear w0 w0b
  have qu := KW.cell (H.out.kp hkw1 (fun t ht => nomatch ht)).used
  have qd := KW.cell (H.out.kp hkw1 (fun t ht => nomatch ht)).draws
  go_wp2_with fail
  refine wp_region_kq (by kernel_rfl) (by kernel_rfl) ?_
  repeat (go_big_quiet_step (fail))
  refine wpQuiet_nil ?_
  intro w2 hw'
  obtain ⟨⟨_, hkw2⟩, rfl⟩ := hw'
  clear qu qd
  have hkt2 : Kp [] w w2 := hkw1.trans hkw2
  by_cases hud : used < draws.length
  · have hudI : (used : Int) < draws.length := by omega
    have hu0 : (0 : Int) ≤ used := by omega
    have HDQ : Hid (drawnQ (draws.drop used) = 1 + draws.getD used 0 % 65536) := by show _ = _; rw [drop_cons draws used hud]; rfl
    obtain ⟨gd, od, rfl, hcd, hcc⟩ := ((H.out.kp hkt2 (fun t ht => nomatch ht)).2.2.2.2.2.1).at rfl used hud
    generalize draws.getD used 0 = d at *
    have hmask := i64_and65535 d
    have HW1 : Hid (IntKind.i64.wrap (1 + d % 65536) = 1 + d % 65536) := wI _ (by omega) (by omega)
    have hw1 := HW1.out
    have qu := KW.cell (H.out.kp hkt2 (fun t ht => nomatch ht)).used
    have qd := KW.cell (H.out.kp hkt2 (fun t ht => nomatch ht)).draws
    have qc := KW.cell hcd
    go_wp2_with fail
    refine wp_region_kq (by kernel_rfl) (by kernel_rfl) ?_
    repeat (go_big_quiet_step (fail))
    refine wpQuiet_nil ?_
    intro w3 hw'
    obtain ⟨⟨_, hkw3⟩, rfl⟩ := hw'
    clear qu qd qc hcd
    have hkt3 : Kp [] w w3 := hkt2.trans hkw3
    have hR3 := H.out.kp hkt3 (fun t ht => nomatch ht)
    have c34 := hR3.used
    have f34 := hR3.frozen 34
    have hrl := hR3.lt
    obtain ⟨HS, HKS⟩ := hR3.putUsed (used + 1)
    rw [show ((used + 1 : Nat) : Int) = (used : Int) + 1 by omega] at HS HKS
    have HS9 := Lib.hid HS
    have HK9 : Hid (Kp [r] w (w3.setCell ⟨r, 34, none⟩ (.int .i64 ((used : Int) + 1))) ∧ w.heap.size ≤ w3.heap.size) := ⟨(hkt3.more (fun t ht => nomatch ht)).trans HKS, hkt3.size⟩
    have C9 : Hid (∀ V, Kp [] (w3.setCell ⟨r, 34, none⟩ (.int .i64 ((used : Int) + 1))) V → V.cell? ⟨r, 0, none⟩ = some (.slice none 0 0)) := fun V hV => hV.cell HS.cell0 (by simp)
    have F9 : Hid (∀ V, Kp [] (w3.setCell ⟨r, 34, none⟩ (.int .i64 ((used : Int) + 1))) V → V.frozen? ⟨r, 0, none⟩ = false) := fun V hV => frozen_of_row V r 0 _ _ (hV.heap HS.1 (by simp))
    have ILW : Hid (∀ V, Kp [] ((w3.setCell ⟨r, 34, none⟩ (.int .i64 ((used : Int) + 1))).alloc (.cells #[.int .i64 (1 + d % 65536)] 3)) V → IsInts .i64 V (.slice none 0 0) ([] : List Int)) := fun V hV => ((HIL.out w3 hkt3).kp HKS (fun t ht e => by simp at ht; subst ht; exact H.out.2.2.2.2.1 (blockOf_own e))).kp (((Kp.refl [] _).alloc _).trans hV) (by simp)
    have IOL : Hid (∀ V, Kp [] ((w3.setCell ⟨r, 34, none⟩ (.int .i64 ((used : Int) + 1))).alloc (.cells #[.int .i64 (1 + d % 65536)] 3)) V → IsInts .i64 V (.slice (some ⟨w3.heap.size, 0, none⟩) 1 1) [1 + d % 65536]) := fun V hV => by
      have := lit_ints (w3.setCell ⟨r, 34, none⟩ (.int .i64 ((used : Int) + 1))) V [1 + d % 65536] 3 #[.int .i64 (1 + d % 65536)] rfl (by simp [maxLen]) hV
      simpa [World.setCell] using this
    have HLEN : Hid (0 + 1 ≤ 48) := by have := HLO.out; show _ ≤ _; omega
    have hng : decide ((48 : Int) < (0 : Int) + 1) = false := decide_eq_false (by have := HLEN.out; omega)
    clear HS HKS hR3
    have Hhwl : Hid (wrap64 ((0 : Int) + 1) = (0 : Int) + 1) := w64 _ (by have := HLEN.out; omega) (by have := HLEN.out; omega)
    have Hhwl2 : Hid (IntKind.i64.wrap ((0 : Int) + 1) = (0 : Int) + 1) := wI _ (by have := HLEN.out; omega) (by have := HLEN.out; omega)
    have Hhwu : Hid (IntKind.i64.wrap ((used : Int) + 1) = (used : Int) + 1) := wI _ (by have := HU.out; omega) (by have := HU.out; omega)
    have HKW : Hid (Kp [] (w3.setCell ⟨r, 34, none⟩ (.int .i64 ((used : Int) + 1))) (((w3.setCell ⟨r, 34, none⟩ (.int .i64 ((used : Int) + 1))).alloc (.cells #[.int .i64 (1 + d % 65536)] 3)))) := (Kp.refl _ _).alloc _
    have HSZ : Hid ((w3.setCell ⟨r, 34, none⟩ (.int .i64 ((used : Int) + 1))).heap.size ≤ w3.heap.size + 1) := by have := HKW.out.size; (try simp at this); show _ ≤ _; first | omega | (simp [World.setCell]; done)
    have hwl := Hhwl.out
    have hwl2 := Hhwl2.out
    have hwu := Hhwu.out
    go_wp2_with (at_builtin; refine wpList_app rfl _ _ 22 rfl (w3.heap.size + 1) 3 (.int .i64 0) 1 8 Try.underlying22 infoIntS rfl (by decide) (by decide) (.slice (some ⟨w3.heap.size + 1, 0, none⟩) 0 0) 0 [] rfl ?xown (.slice none 0 0) (0) ((([] : List Int)).map (Value.int .i64)) rfl ?xsrc (oneCell_ints _ _) ?xb1 (by first | (simp; done) | (simp [World.setCell]; done)) ?xk)
    case xown => exact own_empty _ _ _ _ _ (by first | (simp; done) | (simp [World.setCell]; done)) (Nat.le_refl _)
    case xsrc => exact (ILW.out _ ((Kp.refl [] (((w3.setCell ⟨r, 34, none⟩ (.int .i64 ((used : Int) + 1))).alloc (.cells #[.int .i64 (1 + d % 65536)] 3)))).alloc _)).reads'
    try (case xb1 => (clear hwl hwl2 hwu; have := HLEN.out; omega))
    case xk =>
    intro v7 w7 hown hgr
    clear hwl hwl2 hwu
    try simp only [Nat.zero_add, List.nil_append] at hown
    have hk7 : Kp [] (((w3.setCell ⟨r, 34, none⟩ (.int .i64 ((used : Int) + 1))).alloc (.cells #[.int .i64 (1 + d % 65536)] 3))) w7 := Kp.grown ((Kp.refl _ _).alloc _) hgr (by intro k hk; right; simp [Value.ownBlock] at hk ⊢; first | omega | (simp [World.setCell]; omega))
    have HBL := Lib.hid (own_ge hown)
    obtain ⟨p7, q7, rfl⟩ := slice_own hown
    have HO := Lib.hid hown
    have HK7 := Lib.hid hk7
    clear hown hgr hk7
    go_wp2_with (at_builtin; refine wpList_app rfl _ _ 22 rfl (w3.heap.size + 1) 3 (.int .i64 0) 1 8 Try.underlying22 infoIntS rfl (by decide) (by decide) (.slice p7 (0) q7) (0) ((([] : List Int)).map (Value.int .i64)) rfl ?yown (.slice (some ⟨w3.heap.size, 0, none⟩) 1 1) (1) (([1 + d % 65536]).map (Value.int .i64)) rfl ?ysrc (oneCell_ints _ _) ?yb1 (by have := HK7.out.size; (try simp at this); first | omega | (simp [World.setCell] at this; omega)) ?yk)
    case yown => first | exact HO.out | (rw [List.map_take]; exact HO.out) | simpa using HO.out
    case ysrc => exact (IOL.out _ HK7.out).reads'
    try (case yb1 => (have := HLEN.out; omega))
    case yk =>
    intro v8 w8 hown hgr
    have hk8 : Kp [] (((w3.setCell ⟨r, 34, none⟩ (.int .i64 ((used : Int) + 1))).alloc (.cells #[.int .i64 (1 + d % 65536)] 3))) w8 := Kp.grown HK7.out hgr (fun k hk => .inr (by have := HBL.out k hk; (try simp); first | omega | (simp [World.setCell]; omega)))
    have hkw8 : Kp [] (w3.setCell ⟨r, 34, none⟩ (.int .i64 ((used : Int) + 1))) w8 := HKW.out.trans hk8
    have ho : OwnC w8 (w3.setCell ⟨r, 34, none⟩ (.int .i64 ((used : Int) + 1))).heap.size 3 v8 (([] : List Int) ++ [1 + d % 65536]) := OwnC_mono (OwnC.owned (n := 0 + 1) (Nat.le_refl _) (by have := HLEN.out; simp; try omega) (by first | (rw [List.map_append]; exact hown) | simpa using hown)) HSZ.out
    have HFIN := Lib.hid (HS9.out.put hkw8 ho)
    have c8 := C9.out _ hkw8
    have f8 := F9.out _ hkw8
    obtain ⟨p8, q8, rfl⟩ := slice_own hown
    clear hown hgr hk8 ho hkw8
    go_wp2_with fail
    go_ret
    exact ⟨rfl, _, used + 1, Nat.le_refl _, rfl, by have q := HFIN.out.1; rw [← HDQ.out] at q; exact q, HK9.out.1.trans HFIN.out.2.1, fun k e => by
      rcases HFIN.out.2.2 k e with q | q
      · exact .inl q
      · exact .inr (Nat.le_trans HK9.out.2 (by simp [World.setCell] at q; omega))⟩
  · have hudI : ¬ ((used : Int) < draws.length) := by omega
    have HDQ : Hid (drawnQ (draws.drop used) = 65536) := by show _ = _; rw [List.drop_eq_nil_of_le (by omega)]; rfl
    have hR3 := H.out.kp hkt2 (fun t ht => nomatch ht)
    have c34 := hR3.used
    have f34 := hR3.frozen 34
    have hrl := hR3.lt
    obtain ⟨HS, HKS⟩ := hR3.putUsed (used + 1)
    rw [show ((used + 1 : Nat) : Int) = (used : Int) + 1 by omega] at HS HKS
    have HS9 := Lib.hid HS
    have HK9 : Hid (Kp [r] w (w2.setCell ⟨r, 34, none⟩ (.int .i64 ((used : Int) + 1))) ∧ w.heap.size ≤ w2.heap.size) := ⟨(hkt2.more (fun t ht => nomatch ht)).trans HKS, hkt2.size⟩
    have C9 : Hid (∀ V, Kp [] (w2.setCell ⟨r, 34, none⟩ (.int .i64 ((used : Int) + 1))) V → V.cell? ⟨r, 0, none⟩ = some (.slice none 0 0)) := fun V hV => hV.cell HS.cell0 (by simp)
    have F9 : Hid (∀ V, Kp [] (w2.setCell ⟨r, 34, none⟩ (.int .i64 ((used : Int) + 1))) V → V.frozen? ⟨r, 0, none⟩ = false) := fun V hV => frozen_of_row V r 0 _ _ (hV.heap HS.1 (by simp))
    have ILW : Hid (∀ V, Kp [] ((w2.setCell ⟨r, 34, none⟩ (.int .i64 ((used : Int) + 1))).alloc (.cells #[.int .i64 (65536)] 3)) V → IsInts .i64 V (.slice none 0 0) ([] : List Int)) := fun V hV => ((HIL.out w2 hkt2).kp HKS (fun t ht e => by simp at ht; subst ht; exact H.out.2.2.2.2.1 (blockOf_own e))).kp (((Kp.refl [] _).alloc _).trans hV) (by simp)
    have IOL : Hid (∀ V, Kp [] ((w2.setCell ⟨r, 34, none⟩ (.int .i64 ((used : Int) + 1))).alloc (.cells #[.int .i64 (65536)] 3)) V → IsInts .i64 V (.slice (some ⟨w2.heap.size, 0, none⟩) 1 1) [65536]) := fun V hV => by
      have := lit_ints (w2.setCell ⟨r, 34, none⟩ (.int .i64 ((used : Int) + 1))) V [65536] 3 #[.int .i64 (65536)] rfl (by simp [maxLen]) hV
      simpa [World.setCell] using this
    have HLEN : Hid (0 + 1 ≤ 48) := by have := HLO.out; show _ ≤ _; omega
    have hng : decide ((48 : Int) < (0 : Int) + 1) = false := decide_eq_false (by have := HLEN.out; omega)
    clear HS HKS hR3
    have Hhwl : Hid (wrap64 ((0 : Int) + 1) = (0 : Int) + 1) := w64 _ (by have := HLEN.out; omega) (by have := HLEN.out; omega)
    have Hhwl2 : Hid (IntKind.i64.wrap ((0 : Int) + 1) = (0 : Int) + 1) := wI _ (by have := HLEN.out; omega) (by have := HLEN.out; omega)
    have Hhwu : Hid (IntKind.i64.wrap ((used : Int) + 1) = (used : Int) + 1) := wI _ (by have := HU.out; omega) (by have := HU.out; omega)
    have HKW : Hid (Kp [] (w2.setCell ⟨r, 34, none⟩ (.int .i64 ((used : Int) + 1))) (((w2.setCell ⟨r, 34, none⟩ (.int .i64 ((used : Int) + 1))).alloc (.cells #[.int .i64 (65536)] 3)))) := (Kp.refl _ _).alloc _
    have HSZ : Hid ((w2.setCell ⟨r, 34, none⟩ (.int .i64 ((used : Int) + 1))).heap.size ≤ w2.heap.size + 1) := by have := HKW.out.size; (try simp at this); show _ ≤ _; first | omega | (simp [World.setCell]; done)
    have hwl := Hhwl.out
    have hwl2 := Hhwl2.out
    have hwu := Hhwu.out
    go_wp2_with (at_builtin; refine wpList_app rfl _ _ 22 rfl (w2.heap.size + 1) 3 (.int .i64 0) 1 8 Try.underlying22 infoIntS rfl (by decide) (by decide) (.slice (some ⟨w2.heap.size + 1, 0, none⟩) 0 0) 0 [] rfl ?xown (.slice none 0 0) (0) ((([] : List Int)).map (Value.int .i64)) rfl ?xsrc (oneCell_ints _ _) ?xb1 (by first | (simp; done) | (simp [World.setCell]; done)) ?xk)
    case xown => exact own_empty _ _ _ _ _ (by first | (simp; done) | (simp [World.setCell]; done)) (Nat.le_refl _)
    case xsrc => exact (ILW.out _ ((Kp.refl [] (((w2.setCell ⟨r, 34, none⟩ (.int .i64 ((used : Int) + 1))).alloc (.cells #[.int .i64 (65536)] 3)))).alloc _)).reads'
    try (case xb1 => (clear hwl hwl2 hwu; have := HLEN.out; omega))
    case xk =>
    intro v7 w7 hown hgr
    clear hwl hwl2 hwu
    try simp only [Nat.zero_add, List.nil_append] at hown
    have hk7 : Kp [] (((w2.setCell ⟨r, 34, none⟩ (.int .i64 ((used : Int) + 1))).alloc (.cells #[.int .i64 (65536)] 3))) w7 := Kp.grown ((Kp.refl _ _).alloc _) hgr (by intro k hk; right; simp [Value.ownBlock] at hk ⊢; first | omega | (simp [World.setCell]; omega))
    have HBL := Lib.hid (own_ge hown)
    obtain ⟨p7, q7, rfl⟩ := slice_own hown
    have HO := Lib.hid hown
    have HK7 := Lib.hid hk7
    clear hown hgr hk7
    go_wp2_with (at_builtin; refine wpList_app rfl _ _ 22 rfl (w2.heap.size + 1) 3 (.int .i64 0) 1 8 Try.underlying22 infoIntS rfl (by decide) (by decide) (.slice p7 (0) q7) (0) ((([] : List Int)).map (Value.int .i64)) rfl ?yown (.slice (some ⟨w2.heap.size, 0, none⟩) 1 1) (1) (([65536]).map (Value.int .i64)) rfl ?ysrc (oneCell_ints _ _) ?yb1 (by have := HK7.out.size; (try simp at this); first | omega | (simp [World.setCell] at this; omega)) ?yk)
    case yown => first | exact HO.out | (rw [List.map_take]; exact HO.out) | simpa using HO.out
    case ysrc => exact (IOL.out _ HK7.out).reads'
    try (case yb1 => (have := HLEN.out; omega))
    case yk =>
    intro v8 w8 hown hgr
    have hk8 : Kp [] (((w2.setCell ⟨r, 34, none⟩ (.int .i64 ((used : Int) + 1))).alloc (.cells #[.int .i64 (65536)] 3))) w8 := Kp.grown HK7.out hgr (fun k hk => .inr (by have := HBL.out k hk; (try simp); first | omega | (simp [World.setCell]; omega)))
    have hkw8 : Kp [] (w2.setCell ⟨r, 34, none⟩ (.int .i64 ((used : Int) + 1))) w8 := HKW.out.trans hk8
    have ho : OwnC w8 (w2.setCell ⟨r, 34, none⟩ (.int .i64 ((used : Int) + 1))).heap.size 3 v8 (([] : List Int) ++ [65536]) := OwnC_mono (OwnC.owned (n := 0 + 1) (Nat.le_refl _) (by have := HLEN.out; simp; try omega) (by first | (rw [List.map_append]; exact hown) | simpa using hown)) HSZ.out
    have HFIN := Lib.hid (HS9.out.put hkw8 ho)
    have c8 := C9.out _ hkw8
    have f8 := F9.out _ hkw8
    obtain ⟨p8, q8, rfl⟩ := slice_own hown
    clear hown hgr hk8 ho hkw8
    go_wp2_with fail
    go_ret
    exact ⟨rfl, _, used + 1, Nat.le_refl _, rfl, by have q := HFIN.out.1; rw [← HDQ.out] at q; exact q, HK9.out.1.trans HFIN.out.2.1, fun k e => by
      rcases HFIN.out.2.2 k e with q | q
      · exact .inl q
      · exact .inr (Nat.le_trans HK9.out.2 (by simp [World.setCell] at q; omega))⟩
set_option maxRecDepth 100000 in
set_option maxHeartbeats 4000000 in
theorem rdo_23_zero (r base used : Nat) (pd : Option Addr) (cd : Nat) (l st draws : List Int) (p : Addr) (w : World) (h : RfS w r base (.slice (some p) 0 0) ([] : List Int) st (.slice pd draws.length cd) draws used) (hl : ([] : List Int).length + 1 ≤ 48) (hu : used ≤ 100000) (hil : ∀ W, Kp [] w W → IsInts .i64 W (.slice (some p) 0 0) ([] : List Int)) :
    Calls Try.prog 20 #[.pointer (some ⟨r, 0, none⟩), .int .i64 23] w (RDo w r base (.slice (some p) 0 0) (.slice pd draws.length cd) draws used (0, ([] : List Int) ++ [drawnQ (draws.drop used)], st, draws.drop (used + 1))) := by
  have H := Lib.hid h
  have HLO := Lib.hid hl
  have HU := Lib.hid hu
  have HIL := Lib.hid hil
  have C00 : Hid (∀ W, Kp [] w W → W.cell? ⟨r, 0, none⟩ = some (.slice (some p) 0 0)) := fun W hW => hW.cell h.cell0 (by simp)
  have hn0 : (0 : Int) ≤ 0 := by omega
  clear hil
  have c0 := C00.out w (Kp.refl _ _)
  have q := KW.cell c0
  clear h
  go_enter Try.func20, Try.ntmps20
  go_wp2_with fail
  refine (rneed_calls 23 _).mono ?_; rintro e w0 ⟨rfl, rfl⟩
  rw [show rneed 23 = 0 by decide]
  go_wp2_with fail
  refine wp_region_kq (by kernel_rfl) (by kernel_rfl) ?_
  repeat (go_big_quiet_step (fail))
  refine wpQuiet_nil ?_
  intro w1 hw'
  obtain ⟨⟨_, hkw1⟩, rfl⟩ := hw'
  clear q c0
  try clear w0 w0b
  have qu := KW.cell (H.out.kp hkw1 (fun t ht => nomatch ht)).used
  have qd := KW.cell (H.out.kp hkw1 (fun t ht => nomatch ht)).draws
  go_wp2_with fail
  refine wp_region_kq (by kernel_rfl) (by kernel_rfl) ?_
  repeat (go_big_quiet_step (fail))
  refine wpQuiet_nil ?_
  intro w2 hw'
  obtain ⟨⟨_, hkw2⟩, rfl⟩ := hw'
  clear qu qd
  have hkt2 : Kp [] w w2 := hkw1.trans hkw2
  by_cases hud : used < draws.length
  · have hudI : (used : Int) < draws.length := by omega
    have hu0 : (0 : Int) ≤ used := by omega
    have HDQ : Hid (drawnQ (draws.drop used) = 1 + draws.getD used 0 % 65536) := by show _ = _; rw [drop_cons draws used hud]; rfl
    obtain ⟨gd, od, rfl, hcd, hcc⟩ := ((H.out.kp hkt2 (fun t ht => nomatch ht)).2.2.2.2.2.1).at rfl used hud
    generalize draws.getD used 0 = d at *
    have hmask := i64_and65535 d
    have HW1 : Hid (IntKind.i64.wrap (1 + d % 65536) = 1 + d % 65536) := wI _ (by omega) (by omega)
    have hw1 := HW1.out
    have qu := KW.cell (H.out.kp hkt2 (fun t ht => nomatch ht)).used
    have qd := KW.cell (H.out.kp hkt2 (fun t ht => nomatch ht)).draws
    have qc := KW.cell hcd
    go_wp2_with fail
    refine wp_region_kq (by kernel_rfl) (by kernel_rfl) ?_
    repeat (go_big_quiet_step (fail))
    refine wpQuiet_nil ?_
    intro w3 hw'
    obtain ⟨⟨_, hkw3⟩, rfl⟩ := hw'
    clear qu qd qc hcd
    have hkt3 : Kp [] w w3 := hkt2.trans hkw3
    have hR3 := H.out.kp hkt3 (fun t ht => nomatch ht)
    have c34 := hR3.used
    have f34 := hR3.frozen 34
    have hrl := hR3.lt
    obtain ⟨HS, HKS⟩ := hR3.putUsed (used + 1)
    rw [show ((used + 1 : Nat) : Int) = (used : Int) + 1 by omega] at HS HKS
    have HS9 := Lib.hid HS
    have HK9 : Hid (Kp [r] w (w3.setCell ⟨r, 34, none⟩ (.int .i64 ((used : Int) + 1))) ∧ w.heap.size ≤ w3.heap.size) := ⟨(hkt3.more (fun t ht => nomatch ht)).trans HKS, hkt3.size⟩
    have C9 : Hid (∀ V, Kp [] (w3.setCell ⟨r, 34, none⟩ (.int .i64 ((used : Int) + 1))) V → V.cell? ⟨r, 0, none⟩ = some (.slice (some p) 0 0)) := fun V hV => hV.cell HS.cell0 (by simp)
    have F9 : Hid (∀ V, Kp [] (w3.setCell ⟨r, 34, none⟩ (.int .i64 ((used : Int) + 1))) V → V.frozen? ⟨r, 0, none⟩ = false) := fun V hV => frozen_of_row V r 0 _ _ (hV.heap HS.1 (by simp))
    have ILW : Hid (∀ V, Kp [] ((w3.setCell ⟨r, 34, none⟩ (.int .i64 ((used : Int) + 1))).alloc (.cells #[.int .i64 (1 + d % 65536)] 3)) V → IsInts .i64 V (.slice (some p) 0 0) ([] : List Int)) := fun V hV => ((HIL.out w3 hkt3).kp HKS (fun t ht e => by simp at ht; subst ht; exact H.out.2.2.2.2.1 (blockOf_own e))).kp (((Kp.refl [] _).alloc _).trans hV) (by simp)
    have IOL : Hid (∀ V, Kp [] ((w3.setCell ⟨r, 34, none⟩ (.int .i64 ((used : Int) + 1))).alloc (.cells #[.int .i64 (1 + d % 65536)] 3)) V → IsInts .i64 V (.slice (some ⟨w3.heap.size, 0, none⟩) 1 1) [1 + d % 65536]) := fun V hV => by
      have := lit_ints (w3.setCell ⟨r, 34, none⟩ (.int .i64 ((used : Int) + 1))) V [1 + d % 65536] 3 #[.int .i64 (1 + d % 65536)] rfl (by simp [maxLen]) hV
      simpa [World.setCell] using this
    have HLEN : Hid (0 + 1 ≤ 48) := by have := HLO.out; show _ ≤ _; omega
    have hng : decide ((48 : Int) < (0 : Int) + 1) = false := decide_eq_false (by have := HLEN.out; omega)
    clear HS HKS hR3
    have Hhwl : Hid (wrap64 ((0 : Int) + 1) = (0 : Int) + 1) := w64 _ (by have := HLEN.out; omega) (by have := HLEN.out; omega)
    have Hhwl2 : Hid (IntKind.i64.wrap ((0 : Int) + 1) = (0 : Int) + 1) := wI _ (by have := HLEN.out; omega) (by have := HLEN.out; omega)
    have Hhwu : Hid (IntKind.i64.wrap ((used : Int) + 1) = (used : Int) + 1) := wI _ (by have := HU.out; omega) (by have := HU.out; omega)
    have HKW : Hid (Kp [] (w3.setCell ⟨r, 34, none⟩ (.int .i64 ((used : Int) + 1))) (((w3.setCell ⟨r, 34, none⟩ (.int .i64 ((used : Int) + 1))).alloc (.cells #[.int .i64 (1 + d % 65536)] 3)))) := (Kp.refl _ _).alloc _
    have HSZ : Hid ((w3.setCell ⟨r, 34, none⟩ (.int .i64 ((used : Int) + 1))).heap.size ≤ w3.heap.size + 1) := by have := HKW.out.size; (try simp at this); show _ ≤ _; first | omega | (simp [World.setCell]; done)
    have hwl := Hhwl.out
    have hwl2 := Hhwl2.out
    have hwu := Hhwu.out
    go_wp2_with (at_builtin; refine wpList_app rfl _ _ 22 rfl (w3.heap.size + 1) 3 (.int .i64 0) 1 8 Try.underlying22 infoIntS rfl (by decide) (by decide) (.slice (some ⟨w3.heap.size + 1, 0, none⟩) 0 0) 0 [] rfl ?xown (.slice (some p) 0 0) (0) ((([] : List Int)).map (Value.int .i64)) rfl ?xsrc (oneCell_ints _ _) ?xb1 (by first | (simp; done) | (simp [World.setCell]; done)) ?xk)
    case xown => exact own_empty _ _ _ _ _ (by first | (simp; done) | (simp [World.setCell]; done)) (Nat.le_refl _)
    case xsrc => exact (ILW.out _ ((Kp.refl [] (((w3.setCell ⟨r, 34, none⟩ (.int .i64 ((used : Int) + 1))).alloc (.cells #[.int .i64 (1 + d % 65536)] 3)))).alloc _)).reads'
    try (case xb1 => (clear hwl hwl2 hwu; have := HLEN.out; omega))
    case xk =>
    intro v7 w7 hown hgr
    clear hwl hwl2 hwu
    try simp only [Nat.zero_add, List.nil_append] at hown
    have hk7 : Kp [] (((w3.setCell ⟨r, 34, none⟩ (.int .i64 ((used : Int) + 1))).alloc (.cells #[.int .i64 (1 + d % 65536)] 3))) w7 := Kp.grown ((Kp.refl _ _).alloc _) hgr (by intro k hk; right; simp [Value.ownBlock] at hk ⊢; first | omega | (simp [World.setCell]; omega))
    have HBL := Lib.hid (own_ge hown)
    obtain ⟨p7, q7, rfl⟩ := slice_own hown
    have HO := Lib.hid hown
    have HK7 := Lib.hid hk7
    clear hown hgr hk7
    go_wp2_with (at_builtin; refine wpList_app rfl _ _ 22 rfl (w3.heap.size + 1) 3 (.int .i64 0) 1 8 Try.underlying22 infoIntS rfl (by decide) (by decide) (.slice p7 (0) q7) (0) ((([] : List Int)).map (Value.int .i64)) rfl ?yown (.slice (some ⟨w3.heap.size, 0, none⟩) 1 1) (1) (([1 + d % 65536]).map (Value.int .i64)) rfl ?ysrc (oneCell_ints _ _) ?yb1 (by have := HK7.out.size; (try simp at this); first | omega | (simp [World.setCell] at this; omega)) ?yk)
    case yown => first | exact HO.out | (rw [List.map_take]; exact HO.out) | simpa using HO.out
    case ysrc => exact (IOL.out _ HK7.out).reads'
    try (case yb1 => (have := HLEN.out; omega))
    case yk =>
    intro v8 w8 hown hgr
    have hk8 : Kp [] (((w3.setCell ⟨r, 34, none⟩ (.int .i64 ((used : Int) + 1))).alloc (.cells #[.int .i64 (1 + d % 65536)] 3))) w8 := Kp.grown HK7.out hgr (fun k hk => .inr (by have := HBL.out k hk; (try simp); first | omega | (simp [World.setCell]; omega)))
    have hkw8 : Kp [] (w3.setCell ⟨r, 34, none⟩ (.int .i64 ((used : Int) + 1))) w8 := HKW.out.trans hk8
    have ho : OwnC w8 (w3.setCell ⟨r, 34, none⟩ (.int .i64 ((used : Int) + 1))).heap.size 3 v8 (([] : List Int) ++ [1 + d % 65536]) := OwnC_mono (OwnC.owned (n := 0 + 1) (Nat.le_refl _) (by have := HLEN.out; simp; try omega) (by first | (rw [List.map_append]; exact hown) | simpa using hown)) HSZ.out
    have HFIN := Lib.hid (HS9.out.put hkw8 ho)
    have c8 := C9.out _ hkw8
    have f8 := F9.out _ hkw8
    obtain ⟨p8, q8, rfl⟩ := slice_own hown
    clear hown hgr hk8 ho hkw8
    go_wp2_with fail
    go_ret
    exact ⟨rfl, _, used + 1, Nat.le_refl _, rfl, by have q := HFIN.out.1; rw [← HDQ.out] at q; exact q, HK9.out.1.trans HFIN.out.2.1, fun k e => by
      rcases HFIN.out.2.2 k e with q | q
      · exact .inl q
      · exact .inr (Nat.le_trans HK9.out.2 (by simp [World.setCell] at q; omega))⟩
  · have hudI : ¬ ((used : Int) < draws.length) := by omega
    have HDQ : Hid (drawnQ (draws.drop used) = 65536) := by show _ = _; rw [List.drop_eq_nil_of_le (by omega)]; rfl
    have hR3 := H.out.kp hkt2 (fun t ht => nomatch ht)
    have c34 := hR3.used
    have f34 := hR3.frozen 34
    have hrl := hR3.lt
    obtain ⟨HS, HKS⟩ := hR3.putUsed (used + 1)
    rw [show ((used + 1 : Nat) : Int) = (used : Int) + 1 by omega] at HS HKS
    have HS9 := Lib.hid HS
    have HK9 : Hid (Kp [r] w (w2.setCell ⟨r, 34, none⟩ (.int .i64 ((used : Int) + 1))) ∧ w.heap.size ≤ w2.heap.size) := ⟨(hkt2.more (fun t ht => nomatch ht)).trans HKS, hkt2.size⟩
    have C9 : Hid (∀ V, Kp [] (w2.setCell ⟨r, 34, none⟩ (.int .i64 ((used : Int) + 1))) V → V.cell? ⟨r, 0, none⟩ = some (.slice (some p) 0 0)) := fun V hV => hV.cell HS.cell0 (by simp)
    have F9 : Hid (∀ V, Kp [] (w2.setCell ⟨r, 34, none⟩ (.int .i64 ((used : Int) + 1))) V → V.frozen? ⟨r, 0, none⟩ = false) := fun V hV => frozen_of_row V r 0 _ _ (hV.heap HS.1 (by simp))
    have ILW : Hid (∀ V, Kp [] ((w2.setCell ⟨r, 34, none⟩ (.int .i64 ((used : Int) + 1))).alloc (.cells #[.int .i64 (65536)] 3)) V → IsInts .i64 V (.slice (some p) 0 0) ([] : List Int)) := fun V hV => ((HIL.out w2 hkt2).kp HKS (fun t ht e => by simp at ht; subst ht; exact H.out.2.2.2.2.1 (blockOf_own e))).kp (((Kp.refl [] _).alloc _).trans hV) (by simp)
    have IOL : Hid (∀ V, Kp [] ((w2.setCell ⟨r, 34, none⟩ (.int .i64 ((used : Int) + 1))).alloc (.cells #[.int .i64 (65536)] 3)) V → IsInts .i64 V (.slice (some ⟨w2.heap.size, 0, none⟩) 1 1) [65536]) := fun V hV => by
      have := lit_ints (w2.setCell ⟨r, 34, none⟩ (.int .i64 ((used : Int) + 1))) V [65536] 3 #[.int .i64 (65536)] rfl (by simp [maxLen]) hV
      simpa [World.setCell] using this
    have HLEN : Hid (0 + 1 ≤ 48) := by have := HLO.out; show _ ≤ _; omega
    have hng : decide ((48 : Int) < (0 : Int) + 1) = false := decide_eq_false (by have := HLEN.out; omega)
    clear HS HKS hR3
    have Hhwl : Hid (wrap64 ((0 : Int) + 1) = (0 : Int) + 1) := w64 _ (by have := HLEN.out; omega) (by have := HLEN.out; omega)
    have Hhwl2 : Hid (IntKind.i64.wrap ((0 : Int) + 1) = (0 : Int) + 1) := wI _ (by have := HLEN.out; omega) (by have := HLEN.out; omega)
    have Hhwu : Hid (IntKind.i64.wrap ((used : Int) + 1) = (used : Int) + 1) := wI _ (by have := HU.out; omega) (by have := HU.out; omega)
    have HKW : Hid (Kp [] (w2.setCell ⟨r, 34, none⟩ (.int .i64 ((used : Int) + 1))) (((w2.setCell ⟨r, 34, none⟩ (.int .i64 ((used : Int) + 1))).alloc (.cells #[.int .i64 (65536)] 3)))) := (Kp.refl _ _).alloc _
    have HSZ : Hid ((w2.setCell ⟨r, 34, none⟩ (.int .i64 ((used : Int) + 1))).heap.size ≤ w2.heap.size + 1) := by have := HKW.out.size; (try simp at this); show _ ≤ _; first | omega | (simp [World.setCell]; done)
    have hwl := Hhwl.out
    have hwl2 := Hhwl2.out
    have hwu := Hhwu.out
    go_wp2_with (at_builtin; refine wpList_app rfl _ _ 22 rfl (w2.heap.size + 1) 3 (.int .i64 0) 1 8 Try.underlying22 infoIntS rfl (by decide) (by decide) (.slice (some ⟨w2.heap.size + 1, 0, none⟩) 0 0) 0 [] rfl ?xown (.slice (some p) 0 0) (0) ((([] : List Int)).map (Value.int .i64)) rfl ?xsrc (oneCell_ints _ _) ?xb1 (by first | (simp; done) | (simp [World.setCell]; done)) ?xk)
    case xown => exact own_empty _ _ _ _ _ (by first | (simp; done) | (simp [World.setCell]; done)) (Nat.le_refl _)
    case xsrc => exact (ILW.out _ ((Kp.refl [] (((w2.setCell ⟨r, 34, none⟩ (.int .i64 ((used : Int) + 1))).alloc (.cells #[.int .i64 (65536)] 3)))).alloc _)).reads'
    try (case xb1 => (clear hwl hwl2 hwu; have := HLEN.out; omega))
    case xk =>
    intro v7 w7 hown hgr
    clear hwl hwl2 hwu
    try simp only [Nat.zero_add, List.nil_append] at hown
    have hk7 : Kp [] (((w2.setCell ⟨r, 34, none⟩ (.int .i64 ((used : Int) + 1))).alloc (.cells #[.int .i64 (65536)] 3))) w7 := Kp.grown ((Kp.refl _ _).alloc _) hgr (by intro k hk; right; simp [Value.ownBlock] at hk ⊢; first | omega | (simp [World.setCell]; omega))
    have HBL := Lib.hid (own_ge hown)
    obtain ⟨p7, q7, rfl⟩ := slice_own hown
    have HO := Lib.hid hown
    have HK7 := Lib.hid hk7
    clear hown hgr hk7
    go_wp2_with (at_builtin; refine wpList_app rfl _ _ 22 rfl (w2.heap.size + 1) 3 (.int .i64 0) 1 8 Try.underlying22 infoIntS rfl (by decide) (by decide) (.slice p7 (0) q7) (0) ((([] : List Int)).map (Value.int .i64)) rfl ?yown (.slice (some ⟨w2.heap.size, 0, none⟩) 1 1) (1) (([65536]).map (Value.int .i64)) rfl ?ysrc (oneCell_ints _ _) ?yb1 (by have := HK7.out.size; (try simp at this); first | omega | (simp [World.setCell] at this; omega)) ?yk)
    case yown => first | exact HO.out | (rw [List.map_take]; exact HO.out) | simpa using HO.out
    case ysrc => exact (IOL.out _ HK7.out).reads'
    try (case yb1 => (have := HLEN.out; omega))
    case yk =>
    intro v8 w8 hown hgr
    have hk8 : Kp [] (((w2.setCell ⟨r, 34, none⟩ (.int .i64 ((used : Int) + 1))).alloc (.cells #[.int .i64 (65536)] 3))) w8 := Kp.grown HK7.out hgr (fun k hk => .inr (by have := HBL.out k hk; (try simp); first | omega | (simp [World.setCell]; omega)))
    have hkw8 : Kp [] (w2.setCell ⟨r, 34, none⟩ (.int .i64 ((used : Int) + 1))) w8 := HKW.out.trans hk8
    have ho : OwnC w8 (w2.setCell ⟨r, 34, none⟩ (.int .i64 ((used : Int) + 1))).heap.size 3 v8 (([] : List Int) ++ [65536]) := OwnC_mono (OwnC.owned (n := 0 + 1) (Nat.le_refl _) (by have := HLEN.out; simp; try omega) (by first | (rw [List.map_append]; exact hown) | simpa using hown)) HSZ.out
    have HFIN := Lib.hid (HS9.out.put hkw8 ho)
    have c8 := C9.out _ hkw8
    have f8 := F9.out _ hkw8
    obtain ⟨p8, q8, rfl⟩ := slice_own hown
    clear hown hgr hk8 ho hkw8
    go_wp2_with fail
    go_ret
    exact ⟨rfl, _, used + 1, Nat.le_refl _, rfl, by have q := HFIN.out.1; rw [← HDQ.out] at q; exact q, HK9.out.1.trans HFIN.out.2.1, fun k e => by
      rcases HFIN.out.2.2 k e with q | q
      · exact .inl q
      · exact .inr (Nat.le_trans HK9.out.2 (by simp [World.setCell] at q; omega))⟩
set_option maxRecDepth 100000 in
set_option maxHeartbeats 4000000 in
theorem rdo_23_full (r base used : Nat) (pd : Option Addr) (cd : Nat) (l st draws : List Int) (p : Nat) (hc : 1 ≤ l.length) (w : World) (h : RfS w r base (.slice (some ⟨p, 0, none⟩) l.length l.length) l st (.slice pd draws.length cd) draws used) (hl : l.length + 1 ≤ 48) (hu : used ≤ 100000) (hil : ∀ W, Kp [] w W → IsInts .i64 W (.slice (some ⟨p, 0, none⟩) l.length l.length) l) :
    Calls Try.prog 20 #[.pointer (some ⟨r, 0, none⟩), .int .i64 23] w (RDo w r base (.slice (some ⟨p, 0, none⟩) l.length l.length) (.slice pd draws.length cd) draws used (0, l ++ [drawnQ (draws.drop used)], st, draws.drop (used + 1))) := by
  have H := Lib.hid h
  have HLO := Lib.hid hl
  have HU := Lib.hid hu
  have HIL := Lib.hid hil
  have C00 : Hid (∀ W, Kp [] w W → W.cell? ⟨r, 0, none⟩ = some (.slice (some ⟨p, 0, none⟩) l.length l.length)) := fun W hW => hW.cell h.cell0 (by simp)
  have hn0 : (0 : Int) ≤ l.length := by omega
  clear hil
  have hc0 : ¬ (l.length = 0) := by omega
  have hcn : ¬ (l = []) := fun e => hc0 (by rw [e]; rfl)
  have w0 : wrap64 (l.length : Int) = l.length := w64 _ (by omega) (by omega)
  have w0b : IntKind.i64.wrap ((l.length : Int) - 0) = l.length := (wI _ (by omega) (by omega)).trans (by omega)
  clear hc
  have c0 := C00.out w (Kp.refl _ _)
  have q := KW.cell c0
  clear h
  go_enter Try.func20, Try.ntmps20
  go_wp2_with fail
  refine (rneed_calls 23 _).mono ?_; rintro e w0 ⟨rfl, rfl⟩
  rw [show rneed 23 = 0 by decide]
  go_wp2_with fail
  refine wp_region_kq (by kernel_rfl) (by kernel_rfl) ?_
  repeat (go_big_quiet_step (fail))
  refine wpQuiet_nil ?_
  intro w1 hw'
  obtain ⟨⟨_, hkw1⟩, rfl⟩ := hw'
  clear q c0
  try clear w0 w0b
  have qu := KW.cell (H.out.kp hkw1 (fun t ht => nomatch ht)).used
  have qd := KW.cell (H.out.kp hkw1 (fun t ht => nomatch ht)).draws
  go_wp2_with fail
  refine wp_region_kq (by kernel_rfl) (by kernel_rfl) ?_
  repeat (go_big_quiet_step (fail))
  refine wpQuiet_nil ?_
  intro w2 hw'
  obtain ⟨⟨_, hkw2⟩, rfl⟩ := hw'
  clear qu qd
  have hkt2 : Kp [] w w2 := hkw1.trans hkw2
  by_cases hud : used < draws.length
  · have hudI : (used : Int) < draws.length := by omega
    have hu0 : (0 : Int) ≤ used := by omega
    have HDQ : Hid (drawnQ (draws.drop used) = 1 + draws.getD used 0 % 65536) := by show _ = _; rw [drop_cons draws used hud]; rfl
    obtain ⟨gd, od, rfl, hcd, hcc⟩ := ((H.out.kp hkt2 (fun t ht => nomatch ht)).2.2.2.2.2.1).at rfl used hud
    generalize draws.getD used 0 = d at *
    have hmask := i64_and65535 d
    have HW1 : Hid (IntKind.i64.wrap (1 + d % 65536) = 1 + d % 65536) := wI _ (by omega) (by omega)
    have hw1 := HW1.out
    have qu := KW.cell (H.out.kp hkt2 (fun t ht => nomatch ht)).used
    have qd := KW.cell (H.out.kp hkt2 (fun t ht => nomatch ht)).draws
    have qc := KW.cell hcd
    go_wp2_with fail
    refine wp_region_kq (by kernel_rfl) (by kernel_rfl) ?_
    repeat (go_big_quiet_step (fail))
    refine wpQuiet_nil ?_
    intro w3 hw'
    obtain ⟨⟨_, hkw3⟩, rfl⟩ := hw'
    clear qu qd qc hcd
    have hkt3 : Kp [] w w3 := hkt2.trans hkw3
    have hR3 := H.out.kp hkt3 (fun t ht => nomatch ht)
    have c34 := hR3.used
    have f34 := hR3.frozen 34
    have hrl := hR3.lt
    obtain ⟨HS, HKS⟩ := hR3.putUsed (used + 1)
    rw [show ((used + 1 : Nat) : Int) = (used : Int) + 1 by omega] at HS HKS
    have HS9 := Lib.hid HS
    have HK9 : Hid (Kp [r] w (w3.setCell ⟨r, 34, none⟩ (.int .i64 ((used : Int) + 1))) ∧ w.heap.size ≤ w3.heap.size) := ⟨(hkt3.more (fun t ht => nomatch ht)).trans HKS, hkt3.size⟩
    have C9 : Hid (∀ V, Kp [] (w3.setCell ⟨r, 34, none⟩ (.int .i64 ((used : Int) + 1))) V → V.cell? ⟨r, 0, none⟩ = some (.slice (some ⟨p, 0, none⟩) l.length l.length)) := fun V hV => hV.cell HS.cell0 (by simp)
    have F9 : Hid (∀ V, Kp [] (w3.setCell ⟨r, 34, none⟩ (.int .i64 ((used : Int) + 1))) V → V.frozen? ⟨r, 0, none⟩ = false) := fun V hV => frozen_of_row V r 0 _ _ (hV.heap HS.1 (by simp))
    have ILW : Hid (∀ V, Kp [] ((w3.setCell ⟨r, 34, none⟩ (.int .i64 ((used : Int) + 1))).alloc (.cells #[.int .i64 (1 + d % 65536)] 3)) V → IsInts .i64 V (.slice (some ⟨p, 0, none⟩) l.length l.length) l) := fun V hV => ((HIL.out w3 hkt3).kp HKS (fun t ht e => by simp at ht; subst ht; exact H.out.2.2.2.2.1 (blockOf_own e))).kp (((Kp.refl [] _).alloc _).trans hV) (by simp)
    have IOL : Hid (∀ V, Kp [] ((w3.setCell ⟨r, 34, none⟩ (.int .i64 ((used : Int) + 1))).alloc (.cells #[.int .i64 (1 + d % 65536)] 3)) V → IsInts .i64 V (.slice (some ⟨w3.heap.size, 0, none⟩) 1 1) [1 + d % 65536]) := fun V hV => by
      have := lit_ints (w3.setCell ⟨r, 34, none⟩ (.int .i64 ((used : Int) + 1))) V [1 + d % 65536] 3 #[.int .i64 (1 + d % 65536)] rfl (by simp [maxLen]) hV
      simpa [World.setCell] using this
    have HLEN : Hid (l.length + 1 ≤ 48) := by have := HLO.out; show _ ≤ _; omega
    have hng : decide ((48 : Int) < (l.length : Int) + 1) = false := decide_eq_false (by have := HLEN.out; omega)
    clear HS HKS hR3
    have Hhwl : Hid (wrap64 ((l.length : Int) + 1) = (l.length : Int) + 1) := w64 _ (by have := HLEN.out; omega) (by have := HLEN.out; omega)
    have Hhwl2 : Hid (IntKind.i64.wrap ((l.length : Int) + 1) = (l.length : Int) + 1) := wI _ (by have := HLEN.out; omega) (by have := HLEN.out; omega)
    have Hhwu : Hid (IntKind.i64.wrap ((used : Int) + 1) = (used : Int) + 1) := wI _ (by have := HU.out; omega) (by have := HU.out; omega)
    have HKW : Hid (Kp [] (w3.setCell ⟨r, 34, none⟩ (.int .i64 ((used : Int) + 1))) (((w3.setCell ⟨r, 34, none⟩ (.int .i64 ((used : Int) + 1))).alloc (.cells #[.int .i64 (1 + d % 65536)] 3)))) := (Kp.refl _ _).alloc _
    have HSZ : Hid ((w3.setCell ⟨r, 34, none⟩ (.int .i64 ((used : Int) + 1))).heap.size ≤ w3.heap.size + 1) := by have := HKW.out.size; (try simp at this); show _ ≤ _; first | omega | (simp [World.setCell]; done)
    have hwl := Hhwl.out
    have hwl2 := Hhwl2.out
    have hwu := Hhwu.out
    go_wp2_with (at_builtin; refine wpList_app rfl _ _ 22 rfl (w3.heap.size + 1) 3 (.int .i64 0) 1 8 Try.underlying22 infoIntS rfl (by decide) (by decide) (.slice (some ⟨w3.heap.size + 1, 0, none⟩) 0 0) 0 [] rfl ?xown (.slice (some ⟨p, 0, none⟩) l.length l.length) (l.length) ((l).map (Value.int .i64)) rfl ?xsrc (oneCell_ints _ _) ?xb1 (by first | (simp; done) | (simp [World.setCell]; done)) ?xk)
    case xown => exact own_empty _ _ _ _ _ (by first | (simp; done) | (simp [World.setCell]; done)) (Nat.le_refl _)
    case xsrc => exact (ILW.out _ ((Kp.refl [] (((w3.setCell ⟨r, 34, none⟩ (.int .i64 ((used : Int) + 1))).alloc (.cells #[.int .i64 (1 + d % 65536)] 3)))).alloc _)).reads'
    try (case xb1 => (clear hwl hwl2 hwu; have := HLEN.out; omega))
    case xk =>
    intro v7 w7 hown hgr
    clear hwl hwl2 hwu
    try simp only [Nat.zero_add, List.nil_append] at hown
    have hk7 : Kp [] (((w3.setCell ⟨r, 34, none⟩ (.int .i64 ((used : Int) + 1))).alloc (.cells #[.int .i64 (1 + d % 65536)] 3))) w7 := Kp.grown ((Kp.refl _ _).alloc _) hgr (by intro k hk; right; simp [Value.ownBlock] at hk ⊢; first | omega | (simp [World.setCell]; omega))
    have HBL := Lib.hid (own_ge hown)
    obtain ⟨p7, q7, rfl⟩ := slice_own hown
    have HO := Lib.hid hown
    have HK7 := Lib.hid hk7
    clear hown hgr hk7
    go_wp2_with (at_builtin; refine wpList_app rfl _ _ 22 rfl (w3.heap.size + 1) 3 (.int .i64 0) 1 8 Try.underlying22 infoIntS rfl (by decide) (by decide) (.slice p7 (l.length) q7) (l.length) ((l).map (Value.int .i64)) rfl ?yown (.slice (some ⟨w3.heap.size, 0, none⟩) 1 1) (1) (([1 + d % 65536]).map (Value.int .i64)) rfl ?ysrc (oneCell_ints _ _) ?yb1 (by have := HK7.out.size; (try simp at this); first | omega | (simp [World.setCell] at this; omega)) ?yk)
    case yown => first | exact HO.out | (rw [List.map_take]; exact HO.out) | simpa using HO.out
    case ysrc => exact (IOL.out _ HK7.out).reads'
    try (case yb1 => (have := HLEN.out; omega))
    case yk =>
    intro v8 w8 hown hgr
    have hk8 : Kp [] (((w3.setCell ⟨r, 34, none⟩ (.int .i64 ((used : Int) + 1))).alloc (.cells #[.int .i64 (1 + d % 65536)] 3))) w8 := Kp.grown HK7.out hgr (fun k hk => .inr (by have := HBL.out k hk; (try simp); first | omega | (simp [World.setCell]; omega)))
    have hkw8 : Kp [] (w3.setCell ⟨r, 34, none⟩ (.int .i64 ((used : Int) + 1))) w8 := HKW.out.trans hk8
    have ho : OwnC w8 (w3.setCell ⟨r, 34, none⟩ (.int .i64 ((used : Int) + 1))).heap.size 3 v8 (l ++ [1 + d % 65536]) := OwnC_mono (OwnC.owned (n := l.length + 1) (Nat.le_refl _) (by have := HLEN.out; simp; try omega) (by first | (rw [List.map_append]; exact hown) | simpa using hown)) HSZ.out
    have HFIN := Lib.hid (HS9.out.put hkw8 ho)
    have c8 := C9.out _ hkw8
    have f8 := F9.out _ hkw8
    obtain ⟨p8, q8, rfl⟩ := slice_own hown
    clear hown hgr hk8 ho hkw8
    go_wp2_with fail
    go_ret
    exact ⟨rfl, _, used + 1, Nat.le_refl _, rfl, by have q := HFIN.out.1; rw [← HDQ.out] at q; exact q, HK9.out.1.trans HFIN.out.2.1, fun k e => by
      rcases HFIN.out.2.2 k e with q | q
      · exact .inl q
      · exact .inr (Nat.le_trans HK9.out.2 (by simp [World.setCell] at q; omega))⟩
  · have hudI : ¬ ((used : Int) < draws.length) := by omega
    have HDQ : Hid (drawnQ (draws.drop used) = 65536) := by show _ = _; rw [List.drop_eq_nil_of_le (by omega)]; rfl
    have hR3 := H.out.kp hkt2 (fun t ht => nomatch ht)
    have c34 := hR3.used
    have f34 := hR3.frozen 34
    have hrl := hR3.lt
    obtain ⟨HS, HKS⟩ := hR3.putUsed (used + 1)
    rw [show ((used + 1 : Nat) : Int) = (used : Int) + 1 by omega] at HS HKS
    have HS9 := Lib.hid HS
    have HK9 : Hid (Kp [r] w (w2.setCell ⟨r, 34, none⟩ (.int .i64 ((used : Int) + 1))) ∧ w.heap.size ≤ w2.heap.size) := ⟨(hkt2.more (fun t ht => nomatch ht)).trans HKS, hkt2.size⟩
    have C9 : Hid (∀ V, Kp [] (w2.setCell ⟨r, 34, none⟩ (.int .i64 ((used : Int) + 1))) V → V.cell? ⟨r, 0, none⟩ = some (.slice (some ⟨p, 0, none⟩) l.length l.length)) := fun V hV => hV.cell HS.cell0 (by simp)
    have F9 : Hid (∀ V, Kp [] (w2.setCell ⟨r, 34, none⟩ (.int .i64 ((used : Int) + 1))) V → V.frozen? ⟨r, 0, none⟩ = false) := fun V hV => frozen_of_row V r 0 _ _ (hV.heap HS.1 (by simp))
    have ILW : Hid (∀ V, Kp [] ((w2.setCell ⟨r, 34, none⟩ (.int .i64 ((used : Int) + 1))).alloc (.cells #[.int .i64 (65536)] 3)) V → IsInts .i64 V (.slice (some ⟨p, 0, none⟩) l.length l.length) l) := fun V hV => ((HIL.out w2 hkt2).kp HKS (fun t ht e => by simp at ht; subst ht; exact H.out.2.2.2.2.1 (blockOf_own e))).kp (((Kp.refl [] _).alloc _).trans hV) (by simp)
    have IOL : Hid (∀ V, Kp [] ((w2.setCell ⟨r, 34, none⟩ (.int .i64 ((used : Int) + 1))).alloc (.cells #[.int .i64 (65536)] 3)) V → IsInts .i64 V (.slice (some ⟨w2.heap.size, 0, none⟩) 1 1) [65536]) := fun V hV => by
      have := lit_ints (w2.setCell ⟨r, 34, none⟩ (.int .i64 ((used : Int) + 1))) V [65536] 3 #[.int .i64 (65536)] rfl (by simp [maxLen]) hV
      simpa [World.setCell] using this
    have HLEN : Hid (l.length + 1 ≤ 48) := by have := HLO.out; show _ ≤ _; omega
    have hng : decide ((48 : Int) < (l.length : Int) + 1) = false := decide_eq_false (by have := HLEN.out; omega)
    clear HS HKS hR3
    have Hhwl : Hid (wrap64 ((l.length : Int) + 1) = (l.length : Int) + 1) := w64 _ (by have := HLEN.out; omega) (by have := HLEN.out; omega)
    have Hhwl2 : Hid (IntKind.i64.wrap ((l.length : Int) + 1) = (l.length : Int) + 1) := wI _ (by have := HLEN.out; omega) (by have := HLEN.out; omega)
    have Hhwu : Hid (IntKind.i64.wrap ((used : Int) + 1) = (used : Int) + 1) := wI _ (by have := HU.out; omega) (by have := HU.out; omega)
    have HKW : Hid (Kp [] (w2.setCell ⟨r, 34, none⟩ (.int .i64 ((used : Int) + 1))) (((w2.setCell ⟨r, 34, none⟩ (.int .i64 ((used : Int) + 1))).alloc (.cells #[.int .i64 (65536)] 3)))) := (Kp.refl _ _).alloc _
    have HSZ : Hid ((w2.setCell ⟨r, 34, none⟩ (.int .i64 ((used : Int) + 1))).heap.size ≤ w2.heap.size + 1) := by have := HKW.out.size; (try simp at this); show _ ≤ _; first | omega | (simp [World.setCell]; done)
    have hwl := Hhwl.out
    have hwl2 := Hhwl2.out
    have hwu := Hhwu.out
    go_wp2_with (at_builtin; refine wpList_app rfl _ _ 22 rfl (w2.heap.size + 1) 3 (.int .i64 0) 1 8 Try.underlying22 infoIntS rfl (by decide) (by decide) (.slice (some ⟨w2.heap.size + 1, 0, none⟩) 0 0) 0 [] rfl ?xown (.slice (some ⟨p, 0, none⟩) l.length l.length) (l.length) ((l).map (Value.int .i64)) rfl ?xsrc (oneCell_ints _ _) ?xb1 (by first | (simp; done) | (simp [World.setCell]; done)) ?xk)
    case xown => exact own_empty _ _ _ _ _ (by first | (simp; done) | (simp [World.setCell]; done)) (Nat.le_refl _)
    case xsrc => exact (ILW.out _ ((Kp.refl [] (((w2.setCell ⟨r, 34, none⟩ (.int .i64 ((used : Int) + 1))).alloc (.cells #[.int .i64 (65536)] 3)))).alloc _)).reads'
    try (case xb1 => (clear hwl hwl2 hwu; have := HLEN.out; omega))
    case xk =>
    intro v7 w7 hown hgr
    clear hwl hwl2 hwu
    try simp only [Nat.zero_add, List.nil_append] at hown
    have hk7 : Kp [] (((w2.setCell ⟨r, 34, none⟩ (.int .i64 ((used : Int) + 1))).alloc (.cells #[.int .i64 (65536)] 3))) w7 := Kp.grown ((Kp.refl _ _).alloc _) hgr (by intro k hk; right; simp [Value.ownBlock] at hk ⊢; first | omega | (simp [World.setCell]; omega))
    have HBL := Lib.hid (own_ge hown)
    obtain ⟨p7, q7, rfl⟩ := slice_own hown
    have HO := Lib.hid hown
    have HK7 := Lib.hid hk7
    clear hown hgr hk7
    go_wp2_with (at_builtin; refine wpList_app rfl _ _ 22 rfl (w2.heap.size + 1) 3 (.int .i64 0) 1 8 Try.underlying22 infoIntS rfl (by decide) (by decide) (.slice p7 (l.length) q7) (l.length) ((l).map (Value.int .i64)) rfl ?yown (.slice (some ⟨w2.heap.size, 0, none⟩) 1 1) (1) (([65536]).map (Value.int .i64)) rfl ?ysrc (oneCell_ints _ _) ?yb1 (by have := HK7.out.size; (try simp at this); first | omega | (simp [World.setCell] at this; omega)) ?yk)
    case yown => first | exact HO.out | (rw [List.map_take]; exact HO.out) | simpa using HO.out
    case ysrc => exact (IOL.out _ HK7.out).reads'
    try (case yb1 => (have := HLEN.out; omega))
    case yk =>
    intro v8 w8 hown hgr
    have hk8 : Kp [] (((w2.setCell ⟨r, 34, none⟩ (.int .i64 ((used : Int) + 1))).alloc (.cells #[.int .i64 (65536)] 3))) w8 := Kp.grown HK7.out hgr (fun k hk => .inr (by have := HBL.out k hk; (try simp); first | omega | (simp [World.setCell]; omega)))
    have hkw8 : Kp [] (w2.setCell ⟨r, 34, none⟩ (.int .i64 ((used : Int) + 1))) w8 := HKW.out.trans hk8
    have ho : OwnC w8 (w2.setCell ⟨r, 34, none⟩ (.int .i64 ((used : Int) + 1))).heap.size 3 v8 (l ++ [65536]) := OwnC_mono (OwnC.owned (n := l.length + 1) (Nat.le_refl _) (by have := HLEN.out; simp; try omega) (by first | (rw [List.map_append]; exact hown) | simpa using hown)) HSZ.out
    have HFIN := Lib.hid (HS9.out.put hkw8 ho)
    have c8 := C9.out _ hkw8
    have f8 := F9.out _ hkw8
    obtain ⟨p8, q8, rfl⟩ := slice_own hown
    clear hown hgr hk8 ho hkw8
    go_wp2_with fail
    go_ret
    exact ⟨rfl, _, used + 1, Nat.le_refl _, rfl, by have q := HFIN.out.1; rw [← HDQ.out] at q; exact q, HK9.out.1.trans HFIN.out.2.1, fun k e => by
      rcases HFIN.out.2.2 k e with q | q
      · exact .inl q
      · exact .inr (Nat.le_trans HK9.out.2 (by simp [World.setCell] at q; omega))⟩
set_option maxRecDepth 100000 in
set_option maxHeartbeats 4000000 in
theorem rdo_23_full_over (r base used : Nat) (pd : Option Addr) (cd : Nat) (l st draws : List Int) (p : Nat) (hc : 1 ≤ l.length) (w : World) (h : RfS w r base (.slice (some ⟨p, 0, none⟩) l.length l.length) l st (.slice pd draws.length cd) draws used) (hl : l.length = 48) (hu : used ≤ 100000) (hil : ∀ W, Kp [] w W → IsInts .i64 W (.slice (some ⟨p, 0, none⟩) l.length l.length) l) :
    Calls Try.prog 20 #[.pointer (some ⟨r, 0, none⟩), .int .i64 23] w (RDo w r base (.slice (some ⟨p, 0, none⟩) l.length l.length) (.slice pd draws.length cd) draws used (170, l, st, draws.drop used)) := by
  have H := Lib.hid h
  have HLO := Lib.hid hl
  have HU := Lib.hid hu
  have HIL := Lib.hid hil
  have C00 : Hid (∀ W, Kp [] w W → W.cell? ⟨r, 0, none⟩ = some (.slice (some ⟨p, 0, none⟩) l.length l.length)) := fun W hW => hW.cell h.cell0 (by simp)
  clear hl
  have hn0 : (0 : Int) ≤ l.length := by omega
  clear hil
  have hc0 : ¬ (l.length = 0) := by omega
  have hcn : ¬ (l = []) := fun e => hc0 (by rw [e]; rfl)
  have w0 : wrap64 (l.length : Int) = l.length := w64 _ (by have := HLO.out; omega) (by have := HLO.out; omega)
  have w0b : IntKind.i64.wrap ((l.length : Int) - 0) = l.length := (wI _ (by have := HLO.out; omega) (by have := HLO.out; omega)).trans (by have := HLO.out; omega)
  clear hc
  have c0 := C00.out w (Kp.refl _ _)
  have q := KW.cell c0
  clear h
  go_enter Try.func20, Try.ntmps20
  go_wp2_with fail
  refine (rneed_calls 23 _).mono ?_; rintro e w0 ⟨rfl, rfl⟩
  rw [show rneed 23 = 0 by decide]
  go_wp2_with fail
  refine wp_region_kq (by kernel_rfl) (by kernel_rfl) ?_
  repeat (go_big_quiet_step (fail))
  refine wpQuiet_nil ?_
  intro w1 hw'
  obtain ⟨⟨_, hkw1⟩, rfl⟩ := hw'
  clear q c0
  try clear w0 w0b
  have qu := KW.cell (H.out.kp hkw1 (fun t ht => nomatch ht)).used
  have qd := KW.cell (H.out.kp hkw1 (fun t ht => nomatch ht)).draws
  go_wp2_with fail
  refine wp_region_kq (by kernel_rfl) (by kernel_rfl) ?_
  repeat (go_big_quiet_step (fail))
  refine wpQuiet_nil ?_
  intro w2 hw'
  obtain ⟨⟨_, hkw2⟩, rfl⟩ := hw'
  clear qu qd
  have hkt2 : Kp [] w w2 := hkw1.trans hkw2
  by_cases hud : used < draws.length
  · have hudI : (used : Int) < draws.length := by omega
    have hu0 : (0 : Int) ≤ used := by omega
    have HDQ : Hid (drawnQ (draws.drop used) = 1 + draws.getD used 0 % 65536) := by show _ = _; rw [drop_cons draws used hud]; rfl
    obtain ⟨gd, od, rfl, hcd, hcc⟩ := ((H.out.kp hkt2 (fun t ht => nomatch ht)).2.2.2.2.2.1).at rfl used hud
    generalize draws.getD used 0 = d at *
    have hmask := i64_and65535 d
    have HW1 : Hid (IntKind.i64.wrap (1 + d % 65536) = 1 + d % 65536) := wI _ (by omega) (by omega)
    have hw1 := HW1.out
    have qu := KW.cell (H.out.kp hkt2 (fun t ht => nomatch ht)).used
    have qd := KW.cell (H.out.kp hkt2 (fun t ht => nomatch ht)).draws
    have qc := KW.cell hcd
    go_wp2_with fail
    refine wp_region_kq (by kernel_rfl) (by kernel_rfl) ?_
    repeat (go_big_quiet_step (fail))
    refine wpQuiet_nil ?_
    intro w3 hw'
    obtain ⟨⟨_, hkw3⟩, rfl⟩ := hw'
    clear qu qd qc hcd
    have hkt3 : Kp [] w w3 := hkt2.trans hkw3
    have HSM := Lib.hid (RDo.same H.out (hkt3.alloc (.cells #[.int .i64 (1 + d % 65536)] 3)) 170)
    have hng : decide ((48 : Int) < (l.length : Int) + 1) = true := decide_eq_true (by have := HLO.out; omega)
    have hwl : wrap64 ((l.length : Int) + 1) = (l.length : Int) + 1 := w64 _ (by have := HLO.out; omega) (by have := HLO.out; omega)
    have hwl2 : IntKind.i64.wrap ((l.length : Int) + 1) = (l.length : Int) + 1 := wI _ (by have := HLO.out; omega) (by have := HLO.out; omega)
    go_wp2_with fail
    go_ret
    exact HSM.out
  · have hudI : ¬ ((used : Int) < draws.length) := by omega
    have HDQ : Hid (drawnQ (draws.drop used) = 65536) := by show _ = _; rw [List.drop_eq_nil_of_le (by omega)]; rfl
    have HSM := Lib.hid (RDo.same H.out (hkt2.alloc (.cells #[.int .i64 (65536)] 3)) 170)
    have hng : decide ((48 : Int) < (l.length : Int) + 1) = true := decide_eq_true (by have := HLO.out; omega)
    have hwl : wrap64 ((l.length : Int) + 1) = (l.length : Int) + 1 := w64 _ (by have := HLO.out; omega) (by have := HLO.out; omega)
    have hwl2 : IntKind.i64.wrap ((l.length : Int) + 1) = (l.length : Int) + 1 := wI _ (by have := HLO.out; omega) (by have := HLO.out; omega)
    go_wp2_with fail
    go_ret
    exact HSM.out
set_option maxRecDepth 100000 in
set_option maxHeartbeats 4000000 in
theorem rdo_23_room (r base used : Nat) (pd : Option Addr) (cd : Nat) (l st draws : List Int) (p c : Nat) (hc : l.length < c) (w : World) (h : RfS w r base (.slice (some ⟨p, 0, none⟩) l.length c) l st (.slice pd draws.length cd) draws used) (hl : l.length + 1 ≤ 48) (hu : used ≤ 100000) (hil : ∀ W, Kp [] w W → IsInts .i64 W (.slice (some ⟨p, 0, none⟩) l.length c) l) :
    Calls Try.prog 20 #[.pointer (some ⟨r, 0, none⟩), .int .i64 23] w (RDo w r base (.slice (some ⟨p, 0, none⟩) l.length c) (.slice pd draws.length cd) draws used (0, l ++ [drawnQ (draws.drop used)], st, draws.drop (used + 1))) := by
  have H := Lib.hid h
  have HLO := Lib.hid hl
  have HU := Lib.hid hu
  have HIL := Lib.hid hil
  have C00 : Hid (∀ W, Kp [] w W → W.cell? ⟨r, 0, none⟩ = some (.slice (some ⟨p, 0, none⟩) l.length c)) := fun W hW => hW.cell h.cell0 (by simp)
  have hn0 : (0 : Int) ≤ l.length := by omega
  clear hil
  have hc0 : ¬ (c = 0) := by omega
  have hcn : ¬ (c = l.length) := by omega
  have hcI : (l.length : Int) ≤ c := by omega
  have w0 : wrap64 (l.length : Int) = l.length := w64 _ (by omega) (by omega)
  have w0b : IntKind.i64.wrap ((l.length : Int) - 0) = l.length := (wI _ (by omega) (by omega)).trans (by omega)
  clear hc
  have c0 := C00.out w (Kp.refl _ _)
  have q := KW.cell c0
  clear h
  go_enter Try.func20, Try.ntmps20
  go_wp2_with fail
  refine (rneed_calls 23 _).mono ?_; rintro e w0 ⟨rfl, rfl⟩
  rw [show rneed 23 = 0 by decide]
  go_wp2_with fail
  refine wp_region_kq (by kernel_rfl) (by kernel_rfl) ?_
  repeat (go_big_quiet_step (fail))
  refine wpQuiet_nil ?_
  intro w1 hw'
  obtain ⟨⟨_, hkw1⟩, rfl⟩ := hw'
  clear q c0
  try clear w0 w0b
  have qu := KW.cell (H.out.kp hkw1 (fun t ht => nomatch ht)).used
  have qd := KW.cell (H.out.kp hkw1 (fun t ht => nomatch ht)).draws
  go_wp2_with fail
  refine wp_region_kq (by kernel_rfl) (by kernel_rfl) ?_
  repeat (go_big_quiet_step (fail))
  refine wpQuiet_nil ?_
  intro w2 hw'
  obtain ⟨⟨_, hkw2⟩, rfl⟩ := hw'
  clear qu qd
  have hkt2 : Kp [] w w2 := hkw1.trans hkw2
  by_cases hud : used < draws.length
  · have hudI : (used : Int) < draws.length := by omega
    have hu0 : (0 : Int) ≤ used := by omega
    have HDQ : Hid (drawnQ (draws.drop used) = 1 + draws.getD used 0 % 65536) := by show _ = _; rw [drop_cons draws used hud]; rfl
    obtain ⟨gd, od, rfl, hcd, hcc⟩ := ((H.out.kp hkt2 (fun t ht => nomatch ht)).2.2.2.2.2.1).at rfl used hud
    generalize draws.getD used 0 = d at *
    have hmask := i64_and65535 d
    have HW1 : Hid (IntKind.i64.wrap (1 + d % 65536) = 1 + d % 65536) := wI _ (by omega) (by omega)
    have hw1 := HW1.out
    have qu := KW.cell (H.out.kp hkt2 (fun t ht => nomatch ht)).used
    have qd := KW.cell (H.out.kp hkt2 (fun t ht => nomatch ht)).draws
    have qc := KW.cell hcd
    go_wp2_with fail
    refine wp_region_kq (by kernel_rfl) (by kernel_rfl) ?_
    repeat (go_big_quiet_step (fail))
    refine wpQuiet_nil ?_
    intro w3 hw'
    obtain ⟨⟨_, hkw3⟩, rfl⟩ := hw'
    clear qu qd qc hcd
    have hkt3 : Kp [] w w3 := hkt2.trans hkw3
    have hR3 := H.out.kp hkt3 (fun t ht => nomatch ht)
    have c34 := hR3.used
    have f34 := hR3.frozen 34
    have hrl := hR3.lt
    obtain ⟨HS, HKS⟩ := hR3.putUsed (used + 1)
    rw [show ((used + 1 : Nat) : Int) = (used : Int) + 1 by omega] at HS HKS
    have HS9 := Lib.hid HS
    have HK9 : Hid (Kp [r] w (w3.setCell ⟨r, 34, none⟩ (.int .i64 ((used : Int) + 1))) ∧ w.heap.size ≤ w3.heap.size) := ⟨(hkt3.more (fun t ht => nomatch ht)).trans HKS, hkt3.size⟩
    have C9 : Hid (∀ V, Kp [] (w3.setCell ⟨r, 34, none⟩ (.int .i64 ((used : Int) + 1))) V → V.cell? ⟨r, 0, none⟩ = some (.slice (some ⟨p, 0, none⟩) l.length c)) := fun V hV => hV.cell HS.cell0 (by simp)
    have F9 : Hid (∀ V, Kp [] (w3.setCell ⟨r, 34, none⟩ (.int .i64 ((used : Int) + 1))) V → V.frozen? ⟨r, 0, none⟩ = false) := fun V hV => frozen_of_row V r 0 _ _ (hV.heap HS.1 (by simp))
    have ILW : Hid (∀ V, Kp [] ((w3.setCell ⟨r, 34, none⟩ (.int .i64 ((used : Int) + 1))).alloc (.cells #[.int .i64 (1 + d % 65536)] 3)) V → IsInts .i64 V (.slice (some ⟨p, 0, none⟩) l.length c) l) := fun V hV => ((HIL.out w3 hkt3).kp HKS (fun t ht e => by simp at ht; subst ht; exact H.out.2.2.2.2.1 (blockOf_own e))).kp (((Kp.refl [] _).alloc _).trans hV) (by simp)
    have IOL : Hid (∀ V, Kp [] ((w3.setCell ⟨r, 34, none⟩ (.int .i64 ((used : Int) + 1))).alloc (.cells #[.int .i64 (1 + d % 65536)] 3)) V → IsInts .i64 V (.slice (some ⟨w3.heap.size, 0, none⟩) 1 1) [1 + d % 65536]) := fun V hV => by
      have := lit_ints (w3.setCell ⟨r, 34, none⟩ (.int .i64 ((used : Int) + 1))) V [1 + d % 65536] 3 #[.int .i64 (1 + d % 65536)] rfl (by simp [maxLen]) hV
      simpa [World.setCell] using this
    have HLEN : Hid (l.length + 1 ≤ 48) := by have := HLO.out; show _ ≤ _; omega
    have hng : decide ((48 : Int) < (l.length : Int) + 1) = false := decide_eq_false (by have := HLEN.out; omega)
    clear HS HKS hR3
    have Hhwl : Hid (wrap64 ((l.length : Int) + 1) = (l.length : Int) + 1) := w64 _ (by have := HLEN.out; omega) (by have := HLEN.out; omega)
    have Hhwl2 : Hid (IntKind.i64.wrap ((l.length : Int) + 1) = (l.length : Int) + 1) := wI _ (by have := HLEN.out; omega) (by have := HLEN.out; omega)
    have Hhwu : Hid (IntKind.i64.wrap ((used : Int) + 1) = (used : Int) + 1) := wI _ (by have := HU.out; omega) (by have := HU.out; omega)
    have HKW : Hid (Kp [] (w3.setCell ⟨r, 34, none⟩ (.int .i64 ((used : Int) + 1))) (((w3.setCell ⟨r, 34, none⟩ (.int .i64 ((used : Int) + 1))).alloc (.cells #[.int .i64 (1 + d % 65536)] 3)))) := (Kp.refl _ _).alloc _
    have HSZ : Hid ((w3.setCell ⟨r, 34, none⟩ (.int .i64 ((used : Int) + 1))).heap.size ≤ w3.heap.size + 1) := by have := HKW.out.size; (try simp at this); show _ ≤ _; first | omega | (simp [World.setCell]; done)
    have hwl := Hhwl.out
    have hwl2 := Hhwl2.out
    have hwu := Hhwu.out
    go_wp2_with (at_builtin; refine wpList_app rfl _ _ 22 rfl (w3.heap.size + 1) 3 (.int .i64 0) 1 8 Try.underlying22 infoIntS rfl (by decide) (by decide) (.slice (some ⟨w3.heap.size + 1, 0, none⟩) 0 0) 0 [] rfl ?xown (.slice (some ⟨p, 0, none⟩) l.length c) (l.length) ((l).map (Value.int .i64)) rfl ?xsrc (oneCell_ints _ _) ?xb1 (by first | (simp; done) | (simp [World.setCell]; done)) ?xk)
    case xown => exact own_empty _ _ _ _ _ (by first | (simp; done) | (simp [World.setCell]; done)) (Nat.le_refl _)
    case xsrc => exact (ILW.out _ ((Kp.refl [] (((w3.setCell ⟨r, 34, none⟩ (.int .i64 ((used : Int) + 1))).alloc (.cells #[.int .i64 (1 + d % 65536)] 3)))).alloc _)).reads'
    try (case xb1 => (clear hwl hwl2 hwu; have := HLEN.out; omega))
    case xk =>
    intro v7 w7 hown hgr
    clear hwl hwl2 hwu
    try simp only [Nat.zero_add, List.nil_append] at hown
    have hk7 : Kp [] (((w3.setCell ⟨r, 34, none⟩ (.int .i64 ((used : Int) + 1))).alloc (.cells #[.int .i64 (1 + d % 65536)] 3))) w7 := Kp.grown ((Kp.refl _ _).alloc _) hgr (by intro k hk; right; simp [Value.ownBlock] at hk ⊢; first | omega | (simp [World.setCell]; omega))
    have HBL := Lib.hid (own_ge hown)
    obtain ⟨p7, q7, rfl⟩ := slice_own hown
    have HO := Lib.hid hown
    have HK7 := Lib.hid hk7
    clear hown hgr hk7
    go_wp2_with (at_builtin; refine wpList_app rfl _ _ 22 rfl (w3.heap.size + 1) 3 (.int .i64 0) 1 8 Try.underlying22 infoIntS rfl (by decide) (by decide) (.slice p7 (l.length) q7) (l.length) ((l).map (Value.int .i64)) rfl ?yown (.slice (some ⟨w3.heap.size, 0, none⟩) 1 1) (1) (([1 + d % 65536]).map (Value.int .i64)) rfl ?ysrc (oneCell_ints _ _) ?yb1 (by have := HK7.out.size; (try simp at this); first | omega | (simp [World.setCell] at this; omega)) ?yk)
    case yown => first | exact HO.out | (rw [List.map_take]; exact HO.out) | simpa using HO.out
    case ysrc => exact (IOL.out _ HK7.out).reads'
    try (case yb1 => (have := HLEN.out; omega))
    case yk =>
    intro v8 w8 hown hgr
    have hk8 : Kp [] (((w3.setCell ⟨r, 34, none⟩ (.int .i64 ((used : Int) + 1))).alloc (.cells #[.int .i64 (1 + d % 65536)] 3))) w8 := Kp.grown HK7.out hgr (fun k hk => .inr (by have := HBL.out k hk; (try simp); first | omega | (simp [World.setCell]; omega)))
    have hkw8 : Kp [] (w3.setCell ⟨r, 34, none⟩ (.int .i64 ((used : Int) + 1))) w8 := HKW.out.trans hk8
    have ho : OwnC w8 (w3.setCell ⟨r, 34, none⟩ (.int .i64 ((used : Int) + 1))).heap.size 3 v8 (l ++ [1 + d % 65536]) := OwnC_mono (OwnC.owned (n := l.length + 1) (Nat.le_refl _) (by have := HLEN.out; simp; try omega) (by first | (rw [List.map_append]; exact hown) | simpa using hown)) HSZ.out
    have HFIN := Lib.hid (HS9.out.put hkw8 ho)
    have c8 := C9.out _ hkw8
    have f8 := F9.out _ hkw8
    obtain ⟨p8, q8, rfl⟩ := slice_own hown
    clear hown hgr hk8 ho hkw8
    go_wp2_with fail
    go_ret
    exact ⟨rfl, _, used + 1, Nat.le_refl _, rfl, by have q := HFIN.out.1; rw [← HDQ.out] at q; exact q, HK9.out.1.trans HFIN.out.2.1, fun k e => by
      rcases HFIN.out.2.2 k e with q | q
      · exact .inl q
      · exact .inr (Nat.le_trans HK9.out.2 (by simp [World.setCell] at q; omega))⟩
  · have hudI : ¬ ((used : Int) < draws.length) := by omega
    have HDQ : Hid (drawnQ (draws.drop used) = 65536) := by show _ = _; rw [List.drop_eq_nil_of_le (by omega)]; rfl
    have hR3 := H.out.kp hkt2 (fun t ht => nomatch ht)
    have c34 := hR3.used
    have f34 := hR3.frozen 34
    have hrl := hR3.lt
    obtain ⟨HS, HKS⟩ := hR3.putUsed (used + 1)
    rw [show ((used + 1 : Nat) : Int) = (used : Int) + 1 by omega] at HS HKS
    have HS9 := Lib.hid HS
    have HK9 : Hid (Kp [r] w (w2.setCell ⟨r, 34, none⟩ (.int .i64 ((used : Int) + 1))) ∧ w.heap.size ≤ w2.heap.size) := ⟨(hkt2.more (fun t ht => nomatch ht)).trans HKS, hkt2.size⟩
    have C9 : Hid (∀ V, Kp [] (w2.setCell ⟨r, 34, none⟩ (.int .i64 ((used : Int) + 1))) V → V.cell? ⟨r, 0, none⟩ = some (.slice (some ⟨p, 0, none⟩) l.length c)) := fun V hV => hV.cell HS.cell0 (by simp)
    have F9 : Hid (∀ V, Kp [] (w2.setCell ⟨r, 34, none⟩ (.int .i64 ((used : Int) + 1))) V → V.frozen? ⟨r, 0, none⟩ = false) := fun V hV => frozen_of_row V r 0 _ _ (hV.heap HS.1 (by simp))
    have ILW : Hid (∀ V, Kp [] ((w2.setCell ⟨r, 34, none⟩ (.int .i64 ((used : Int) + 1))).alloc (.cells #[.int .i64 (65536)] 3)) V → IsInts .i64 V (.slice (some ⟨p, 0, none⟩) l.length c) l) := fun V hV => ((HIL.out w2 hkt2).kp HKS (fun t ht e => by simp at ht; subst ht; exact H.out.2.2.2.2.1 (blockOf_own e))).kp (((Kp.refl [] _).alloc _).trans hV) (by simp)
    have IOL : Hid (∀ V, Kp [] ((w2.setCell ⟨r, 34, none⟩ (.int .i64 ((used : Int) + 1))).alloc (.cells #[.int .i64 (65536)] 3)) V → IsInts .i64 V (.slice (some ⟨w2.heap.size, 0, none⟩) 1 1) [65536]) := fun V hV => by
      have := lit_ints (w2.setCell ⟨r, 34, none⟩ (.int .i64 ((used : Int) + 1))) V [65536] 3 #[.int .i64 (65536)] rfl (by simp [maxLen]) hV
      simpa [World.setCell] using this
    have HLEN : Hid (l.length + 1 ≤ 48) := by have := HLO.out; show _ ≤ _; omega
    have hng : decide ((48 : Int) < (l.length : Int) + 1) = false := decide_eq_false (by have := HLEN.out; omega)
    clear HS HKS hR3
    have Hhwl : Hid (wrap64 ((l.length : Int) + 1) = (l.length : Int) + 1) := w64 _ (by have := HLEN.out; omega) (by have := HLEN.out; omega)
    have Hhwl2 : Hid (IntKind.i64.wrap ((l.length : Int) + 1) = (l.length : Int) + 1) := wI _ (by have := HLEN.out; omega) (by have := HLEN.out; omega)
    have Hhwu : Hid (IntKind.i64.wrap ((used : Int) + 1) = (used : Int) + 1) := wI _ (by have := HU.out; omega) (by have := HU.out; omega)
    have HKW : Hid (Kp [] (w2.setCell ⟨r, 34, none⟩ (.int .i64 ((used : Int) + 1))) (((w2.setCell ⟨r, 34, none⟩ (.int .i64 ((used : Int) + 1))).alloc (.cells #[.int .i64 (65536)] 3)))) := (Kp.refl _ _).alloc _
    have HSZ : Hid ((w2.setCell ⟨r, 34, none⟩ (.int .i64 ((used : Int) + 1))).heap.size ≤ w2.heap.size + 1) := by have := HKW.out.size; (try simp at this); show _ ≤ _; first | omega | (simp [World.setCell]; done)
    have hwl := Hhwl.out
    have hwl2 := Hhwl2.out
    have hwu := Hhwu.out
    go_wp2_with (at_builtin; refine wpList_app rfl _ _ 22 rfl (w2.heap.size + 1) 3 (.int .i64 0) 1 8 Try.underlying22 infoIntS rfl (by decide) (by decide) (.slice (some ⟨w2.heap.size + 1, 0, none⟩) 0 0) 0 [] rfl ?xown (.slice (some ⟨p, 0, none⟩) l.length c) (l.length) ((l).map (Value.int .i64)) rfl ?xsrc (oneCell_ints _ _) ?xb1 (by first | (simp; done) | (simp [World.setCell]; done)) ?xk)
    case xown => exact own_empty _ _ _ _ _ (by first | (simp; done) | (simp [World.setCell]; done)) (Nat.le_refl _)
    case xsrc => exact (ILW.out _ ((Kp.refl [] (((w2.setCell ⟨r, 34, none⟩ (.int .i64 ((used : Int) + 1))).alloc (.cells #[.int .i64 (65536)] 3)))).alloc _)).reads'
    try (case xb1 => (clear hwl hwl2 hwu; have := HLEN.out; omega))
    case xk =>
    intro v7 w7 hown hgr
    clear hwl hwl2 hwu
    try simp only [Nat.zero_add, List.nil_append] at hown
    have hk7 : Kp [] (((w2.setCell ⟨r, 34, none⟩ (.int .i64 ((used : Int) + 1))).alloc (.cells #[.int .i64 (65536)] 3))) w7 := Kp.grown ((Kp.refl _ _).alloc _) hgr (by intro k hk; right; simp [Value.ownBlock] at hk ⊢; first | omega | (simp [World.setCell]; omega))
    have HBL := Lib.hid (own_ge hown)
    obtain ⟨p7, q7, rfl⟩ := slice_own hown
    have HO := Lib.hid hown
    have HK7 := Lib.hid hk7
    clear hown hgr hk7
    go_wp2_with (at_builtin; refine wpList_app rfl _ _ 22 rfl (w2.heap.size + 1) 3 (.int .i64 0) 1 8 Try.underlying22 infoIntS rfl (by decide) (by decide) (.slice p7 (l.length) q7) (l.length) ((l).map (Value.int .i64)) rfl ?yown (.slice (some ⟨w2.heap.size, 0, none⟩) 1 1) (1) (([65536]).map (Value.int .i64)) rfl ?ysrc (oneCell_ints _ _) ?yb1 (by have := HK7.out.size; (try simp at this); first | omega | (simp [World.setCell] at this; omega)) ?yk)
    case yown => first | exact HO.out | (rw [List.map_take]; exact HO.out) | simpa using HO.out
    case ysrc => exact (IOL.out _ HK7.out).reads'
    try (case yb1 => (have := HLEN.out; omega))
    case yk =>
    intro v8 w8 hown hgr
    have hk8 : Kp [] (((w2.setCell ⟨r, 34, none⟩ (.int .i64 ((used : Int) + 1))).alloc (.cells #[.int .i64 (65536)] 3))) w8 := Kp.grown HK7.out hgr (fun k hk => .inr (by have := HBL.out k hk; (try simp); first | omega | (simp [World.setCell]; omega)))
    have hkw8 : Kp [] (w2.setCell ⟨r, 34, none⟩ (.int .i64 ((used : Int) + 1))) w8 := HKW.out.trans hk8
    have ho : OwnC w8 (w2.setCell ⟨r, 34, none⟩ (.int .i64 ((used : Int) + 1))).heap.size 3 v8 (l ++ [65536]) := OwnC_mono (OwnC.owned (n := l.length + 1) (Nat.le_refl _) (by have := HLEN.out; simp; try omega) (by first | (rw [List.map_append]; exact hown) | simpa using hown)) HSZ.out
    have HFIN := Lib.hid (HS9.out.put hkw8 ho)
    have c8 := C9.out _ hkw8
    have f8 := F9.out _ hkw8
    obtain ⟨p8, q8, rfl⟩ := slice_own hown
    clear hown hgr hk8 ho hkw8
    go_wp2_with fail
    go_ret
    exact ⟨rfl, _, used + 1, Nat.le_refl _, rfl, by have q := HFIN.out.1; rw [← HDQ.out] at q; exact q, HK9.out.1.trans HFIN.out.2.1, fun k e => by
      rcases HFIN.out.2.2 k e with q | q
      · exact .inl q
      · exact .inr (Nat.le_trans HK9.out.2 (by simp [World.setCell] at q; omega))⟩
set_option maxRecDepth 100000 in
set_option maxHeartbeats 4000000 in
theorem rdo_23_room_over (r base used : Nat) (pd : Option Addr) (cd : Nat) (l st draws : List Int) (p c : Nat) (hc : l.length < c) (w : World) (h : RfS w r base (.slice (some ⟨p, 0, none⟩) l.length c) l st (.slice pd draws.length cd) draws used) (hl : l.length = 48) (hu : used ≤ 100000) (hil : ∀ W, Kp [] w W → IsInts .i64 W (.slice (some ⟨p, 0, none⟩) l.length c) l) :
    Calls Try.prog 20 #[.pointer (some ⟨r, 0, none⟩), .int .i64 23] w (RDo w r base (.slice (some ⟨p, 0, none⟩) l.length c) (.slice pd draws.length cd) draws used (170, l, st, draws.drop used)) := by
  have H := Lib.hid h
  have HLO := Lib.hid hl
  have HU := Lib.hid hu
  have HIL := Lib.hid hil
  have C00 : Hid (∀ W, Kp [] w W → W.cell? ⟨r, 0, none⟩ = some (.slice (some ⟨p, 0, none⟩) l.length c)) := fun W hW => hW.cell h.cell0 (by simp)
  clear hl
  have hn0 : (0 : Int) ≤ l.length := by omega
  clear hil
  have hc0 : ¬ (c = 0) := by omega
  have hcn : ¬ (c = l.length) := by omega
  have hcI : (l.length : Int) ≤ c := by omega
  have w0 : wrap64 (l.length : Int) = l.length := w64 _ (by have := HLO.out; omega) (by have := HLO.out; omega)
  have w0b : IntKind.i64.wrap ((l.length : Int) - 0) = l.length := (wI _ (by have := HLO.out; omega) (by have := HLO.out; omega)).trans (by have := HLO.out; omega)
  clear hc
  have c0 := C00.out w (Kp.refl _ _)
  have q := KW.cell c0
  clear h
  go_enter Try.func20, Try.ntmps20
  go_wp2_with fail
  refine (rneed_calls 23 _).mono ?_; rintro e w0 ⟨rfl, rfl⟩
  rw [show rneed 23 = 0 by decide]
  go_wp2_with fail
  refine wp_region_kq (by kernel_rfl) (by kernel_rfl) ?_
  repeat (go_big_quiet_step (fail))
  refine wpQuiet_nil ?_
  intro w1 hw'
  obtain ⟨⟨_, hkw1⟩, rfl⟩ := hw'
  clear q c0
  try clear w0 w0b
  have qu := KW.cell (H.out.kp hkw1 (fun t ht => nomatch ht)).used
  have qd := KW.cell (H.out.kp hkw1 (fun t ht => nomatch ht)).draws
  go_wp2_with fail
  refine wp_region_kq (by kernel_rfl) (by kernel_rfl) ?_
  repeat (go_big_quiet_step (fail))
  refine wpQuiet_nil ?_
  intro w2 hw'
  obtain ⟨⟨_, hkw2⟩, rfl⟩ := hw'
  clear qu qd
  have hkt2 : Kp [] w w2 := hkw1.trans hkw2
  by_cases hud : used < draws.length
  · have hudI : (used : Int) < draws.length := by omega
    have hu0 : (0 : Int) ≤ used := by omega
    have HDQ : Hid (drawnQ (draws.drop used) = 1 + draws.getD used 0 % 65536) := by show _ = _; rw [drop_cons draws used hud]; rfl
    obtain ⟨gd, od, rfl, hcd, hcc⟩ := ((H.out.kp hkt2 (fun t ht => nomatch ht)).2.2.2.2.2.1).at rfl used hud
    generalize draws.getD used 0 = d at *
    have hmask := i64_and65535 d
    have HW1 : Hid (IntKind.i64.wrap (1 + d % 65536) = 1 + d % 65536) := wI _ (by omega) (by omega)
    have hw1 := HW1.out
    have qu := KW.cell (H.out.kp hkt2 (fun t ht => nomatch ht)).used
    have qd := KW.cell (H.out.kp hkt2 (fun t ht => nomatch ht)).draws
    have qc := KW.cell hcd
    go_wp2_with fail
    refine wp_region_kq (by kernel_rfl) (by kernel_rfl) ?_
    repeat (go_big_quiet_step (fail))
    refine wpQuiet_nil ?_
    intro w3 hw'
    obtain ⟨⟨_, hkw3⟩, rfl⟩ := hw'
    clear qu qd qc hcd
    have hkt3 : Kp [] w w3 := hkt2.trans hkw3
    have HSM := Lib.hid (RDo.same H.out (hkt3.alloc (.cells #[.int .i64 (1 + d % 65536)] 3)) 170)
    have hng : decide ((48 : Int) < (l.length : Int) + 1) = true := decide_eq_true (by have := HLO.out; omega)
    have hwl : wrap64 ((l.length : Int) + 1) = (l.length : Int) + 1 := w64 _ (by have := HLO.out; omega) (by have := HLO.out; omega)
    have hwl2 : IntKind.i64.wrap ((l.length : Int) + 1) = (l.length : Int) + 1 := wI _ (by have := HLO.out; omega) (by have := HLO.out; omega)
    go_wp2_with fail
    go_ret
    exact HSM.out
  · have hudI : ¬ ((used : Int) < draws.length) := by omega
    have HDQ : Hid (drawnQ (draws.drop used) = 65536) := by show _ = _; rw [List.drop_eq_nil_of_le (by omega)]; rfl
    have HSM := Lib.hid (RDo.same H.out (hkt2.alloc (.cells #[.int .i64 (65536)] 3)) 170)
    have hng : decide ((48 : Int) < (l.length : Int) + 1) = true := decide_eq_true (by have := HLO.out; omega)
    have hwl : wrap64 ((l.length : Int) + 1) = (l.length : Int) + 1 := w64 _ (by have := HLO.out; omega) (by have := HLO.out; omega)
    have hwl2 : IntKind.i64.wrap ((l.length : Int) + 1) = (l.length : Int) + 1 := wI _ (by have := HLO.out; omega) (by have := HLO.out; omega)
    go_wp2_with fail
    go_ret
    exact HSM.out
end Go.Proofs.Ytlnmpffpieofeaa

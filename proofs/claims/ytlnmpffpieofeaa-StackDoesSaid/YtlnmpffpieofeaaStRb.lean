/- stack: the reference's Stack in memory (RfS); its Push, Pop, roll. (Written by wip/stack/genrb.py.) -/
import Derived.Test.YtlnmpffpieofeaaStRa
import Derived.Test.YtlnmpffpieofeaaStZ
import Derived.OwnWalk
import Derived.Deep.RegionLaw
namespace Go.Proofs.Ytlnmpffpieofeaa
open Go.RowKit
set_option linter.unusedVariables false
set_option linter.unusedSimpArgs false
/-- Where a Stack of the reference lies. -/
def RfS (w : World) (r base : Nat) (vL : Value) (l st : List Int) (vD : Value) (draws : List Int) (used : Nat) : Prop :=
  w.heap[r]? = some (.cells (vL :: (st.map (Value.int .i64) ++ [vD, .int .i64 used])).toArray 42 (0, 0)) ∧ st.length = 32 ∧ base ≤ r ∧ OwnC w base 3 vL l ∧ vL.ownBlock ≠ some r ∧ IsInts .i64 w vD draws ∧ ∀ b, blockOf vD = some b → b < base
theorem RfS.cell0 {w : World} {r base : Nat} {vL vD : Value} {l st draws : List Int} {used : Nat} (h : RfS w r base vL l st vD draws used) : w.cell? ⟨r, 0, none⟩ = some vL := by rw [cell_of_row w r 0 _ _ _ h.1]; rfl
theorem RfS.frozen {w : World} {r base : Nat} {vL vD : Value} {l st draws : List Int} {used : Nat} (h : RfS w r base vL l st vD draws used) (j : Nat) : w.frozen? ⟨r, j, none⟩ = false := frozen_of_row w r j _ _ h.1
theorem RfS.store {w : World} {r base : Nat} {vL vD : Value} {l st draws : List Int} {used : Nat} (h : RfS w r base vL l st vD draws used) (i : Nat) (hi : i < 32) : w.cell? ⟨r, i + 1, none⟩ = some (.int .i64 (st.getD i 0)) := by
  have hl := h.2.1
  rw [cell_of_row w r (i + 1) _ _ _ h.1, ← Array.getElem?_toList]
  simp only [List.getElem?_cons_succ]
  rw [List.getElem?_append_left (by simp; omega), List.getElem?_map, List.getElem?_eq_getElem (by omega), List.getD_eq_getElem?_getD, List.getElem?_eq_getElem (by omega)]; rfl
theorem RfS.draws {w : World} {r base : Nat} {vL vD : Value} {l st draws : List Int} {used : Nat} (h : RfS w r base vL l st vD draws used) : w.cell? ⟨r, 33, none⟩ = some vD := by
  have hl := h.2.1
  rw [cell_of_row w r 33 _ _ _ h.1, ← Array.getElem?_toList]
  simp only [List.getElem?_cons_succ]
  rw [List.getElem?_append_right (by simp; omega)]; simp [hl]
theorem RfS.used {w : World} {r base : Nat} {vL vD : Value} {l st draws : List Int} {used : Nat} (h : RfS w r base vL l st vD draws used) : w.cell? ⟨r, 34, none⟩ = some (.int .i64 used) := by
  have hl := h.2.1
  rw [cell_of_row w r 34 _ _ _ h.1, ← Array.getElem?_toList]
  simp only [List.getElem?_cons_succ]
  rw [List.getElem?_append_right (by simp; omega)]; simp [hl]
theorem RfS.kp {S : List Nat} {w w' : World} {r base : Nat} {vL vD : Value} {l st draws : List Int} {used : Nat} (h : RfS w r base vL l st vD draws used) (hk : Kp S w w') (hS : ∀ t ∈ S, t ≠ r ∧ vL.ownBlock ≠ some t ∧ blockOf vD ≠ some t) : RfS w' r base vL l st vD draws used :=
  ⟨hk.heap h.1 (fun hs => (hS r hs).1 rfl), h.2.1, h.2.2.1, h.2.2.2.1.kp hk (fun t ht => (hS t ht).2.1), h.2.2.2.2.1, h.2.2.2.2.2.1.kp hk (fun t ht => (hS t ht).2.2), h.2.2.2.2.2.2⟩
theorem RfS.lt {w : World} {r base : Nat} {vL vD : Value} {l st draws : List Int} {used : Nat} (h : RfS w r base vL l st vD draws used) : r < w.heap.size := lt_of_block h.1
/-- What a call on it leaves: only its own block has changed; its numbers' row is the same or new. -/
def RfK (w wr : World) (r : Nat) (v v' : Value) : Prop := Kp [r] w wr ∧ ∀ k, v'.ownBlock = some k → v.ownBlock = some k ∨ w.heap.size ≤ k
theorem RfS.put {w w1 : World} {r base : Nat} {vL vD v' : Value} {l l' st draws : List Int} {used : Nat} (h : RfS w r base vL l st vD draws used) (hk : Kp [] w w1) (ho : OwnC w1 w.heap.size 3 v' l') :
    RfS (w1.setCell ⟨r, 0, none⟩ v') r base v' l' st vD draws used ∧ RfK w (w1.setCell ⟨r, 0, none⟩ v') r vL v' := by
  have hr := h.lt
  obtain ⟨c1, c2, c3, c4, c5, c6, c7⟩ := h
  have hb := hk.heap c1 (by simp)
  have hn : ∀ k, v'.ownBlock = some k → w.heap.size ≤ k := fun k e => (ho.lt k e).1
  have hk2 : Kp [r] w1 (w1.setCell ⟨r, 0, none⟩ v') := (Kp.refl _ _).setCell (.inl (by simp)) _
  have n1 : v'.ownBlock ≠ some r := fun e => by have := hn r e; omega
  refine ⟨⟨?_, c2, c3, (OwnC_mono ho (by omega)).kp hk2 (fun t ht => by simp at ht; subst ht; exact n1), n1, (c6.kp hk (by simp)).kp hk2 (fun t ht e => by simp at ht; subst ht; have := c7 _ e; omega), c7⟩, (hk.more (fun t ht => nomatch ht)).trans hk2, fun k e => .inr (hn k e)⟩
  rw [heap_setCell_same w1 r 0 _ _ v' hb]; rfl
theorem RfK.same {w w1 : World} (r : Nat) (v : Value) (hk : Kp [] w w1) : RfK w w1 r v v := ⟨hk.more (fun t ht => nomatch ht), fun k e => .inl e⟩
set_option maxRecDepth 100000 in
set_option maxHeartbeats 2000000 in
theorem rpush_no (r base : Nat) (vL vD : Value) (l st draws : List Int) (used : Nat) (x : Int) (w : World) (h : RfS w r base vL l st vD draws used) (hl : l.length ≤ 48) (hno : mayB x = false ∨ l.length = 48) :
    Calls Try.prog 18 #[.pointer (some ⟨r, 0, none⟩), .int .i64 x] w fun e w' => e = .returned (.int .i64 (if mayB x = false then 10 else 170)) ∧ w = w' := by
  have c0 := h.cell0
  obtain ⟨p, c, rfl⟩ := h.2.2.2.1.form
  cases hx : mayB x
  · have HX : Hid (mayB x = false) := hx
    clear h hx hno
    go_enter Try.func18, Try.ntmps18
    go_wp2_with fail
    refine (rmay_calls x w).mono ?_; rintro e w1 ⟨rfl, rfl⟩
    rw [HX.out]
    go_wp2_with fail
    go_ret
    exact ⟨by simp, rfl⟩
  · have HX : Hid (mayB x = true) := hx
    have h48 : l.length = 48 := by rcases hno with g | g; rw [hx] at g; cases g; exact g
    clear h hx hno
    rw [h48] at c0
    go_enter Try.func18, Try.ntmps18
    go_wp2_with fail
    refine (rmay_calls x w).mono ?_; rintro e w1 ⟨rfl, rfl⟩
    rw [HX.out]
    go_wp2_with fail
    go_ret
    exact ⟨by simp, rfl⟩
set_option maxRecDepth 100000 in
set_option maxHeartbeats 4000000 in
theorem rpush_calls (r base : Nat) (vL vD : Value) (l st draws : List Int) (used : Nat) (x : Int) (hx : mayB x = true) (w : World) (h : RfS w r base vL l st vD draws used) (hl : l.length < 48) :
    Calls Try.prog 18 #[.pointer (some ⟨r, 0, none⟩), .int .i64 x] w fun e w' => e = .returned (.int .i64 0) ∧ ∃ vL', RfS w' r base vL' (l ++ [x]) st vD draws used ∧ RfK w w' r vL vL' := by
  have H : Hid (RfS w r base vL l st vD draws used) := h
  have HX : Hid _ := hx
  have c0 := h.cell0
  have c00 : ∀ W, Kp [] w W → W.cell? ⟨r, 0, none⟩ = some vL := fun W hW => hW.cell h.cell0 (by simp)
  have C00 := Lib.hid c00
  have F00 : Hid (∀ W, Kp [] w W → W.frozen? ⟨r, 0, none⟩ = false) := fun W hW => frozen_of_row W r 0 _ _ (hW.heap h.1 (by simp))
  obtain ⟨p, c, rfl⟩ := h.2.2.2.1.form
  have hl8 : decide ((l.length : Int) = 48) = false := decide_eq_false (by omega)
  have hl9 : ((l.length : Int) == 48) = false := by simpa using hl8
  have hi := h.2.2.2.1.ints
  have HI := Lib.hid hi
  have HL := Lib.hid hl
  clear h hx hi c00 hl
  go_enter Try.func18, Try.ntmps18
  go_wp2_with fail
  refine (rmay_calls x w).mono ?_; rintro e w1 ⟨rfl, rfl⟩
  rw [HX.out]
  have c1 := C00.out (w.alloc (.cells #[] 3)) ((Kp.refl _ _).alloc _)
  go_wp2_with (at_builtin; refine wpList_app rfl _ _ 22 rfl w.heap.size 3 (.int .i64 0) 1 8 Try.underlying22 infoIntS rfl (by decide) (by decide) (.slice (some ⟨w.heap.size, 0, none⟩) 0 0) 0 [] rfl ?aown (.slice p l.length c) l.length (l.map (Value.int .i64)) rfl ?asrc (oneCell_ints _ _) ?ab1 ?ab2 ?ak)
  case aown => exact own_empty _ _ _ _ _ rfl (Nat.le_refl _)
  case asrc => exact (HI.out.kp (S := []) ((Kp.refl _ _).alloc _) (by simp)).reads
  case ab1 => have := HL.out; first | omega | (simp; omega) | simp
  case ab2 => first | omega | (simp; omega) | simp
  case ak =>
  intro v1 w1 hown hgr
  try simp only [Nat.zero_add, List.nil_append] at hown
  have hk1 : Kp [] w w1 := Kp.grown ((Kp.refl _ _).alloc _) hgr (by intro k hk; right; simp [Value.ownBlock] at hk; omega)
  have hbl := own_ge hown
  obtain ⟨p1, q1, rfl⟩ := slice_own hown
  have HO := Lib.hid hown
  have HK1 := Lib.hid hk1
  have HBL := Lib.hid hbl
  clear hown hgr c1 hk1 hbl
  go_wp2_with (at_builtin; refine wpList_app rfl _ _ 22 rfl w.heap.size 3 (.int .i64 0) 1 8 Try.underlying22 infoIntS rfl (by decide) (by decide) (.slice p1 l.length q1) l.length (l.map (Value.int .i64)) rfl ?bown (.slice (some ⟨w1.heap.size, 0, none⟩) 1 1) 1 ([x].map (Value.int .i64)) rfl ?bsrc (oneCell_ints _ _) ?bb1 ?bb2 ?bk)
  case bown => exact (Kp.refl [] w1 |>.alloc _).row HO.out (fun s hs => nomatch hs)
  case bsrc => exact Reads.made w1 w1.heap.size 1 1 [.int .i64 x] 3 rfl rfl (by decide)
  case bb1 => have := HL.out; first | omega | (simp; omega) | simp
  case bb2 => have := HK1.out.size; first | omega | (simp; omega) | simp
  case bk =>
  intro v2 w2 hown hgr
  have hk2 : Kp [] w w2 := Kp.grown (HK1.out.alloc _) hgr (fun k hk => .inr (HBL.out k hk))
  have ho : OwnC w2 w.heap.size 3 v2 (l ++ [x]) := OwnC.owned (n := l.length + 1) (Nat.le_refl _) (by simp) (by rw [List.map_append]; exact hown)
  have hfin := Lib.hid (H.out.put hk2 ho)
  have c2 := C00.out _ hk2
  have f2 := F00.out _ hk2
  obtain ⟨p2, q2, rfl⟩ := ho.form
  rw [show (l ++ [x]).length = l.length + 1 by simp] at hfin
  clear hown hgr hk2 ho
  rw [show (l ++ [x]).length = l.length + 1 by simp]
  go_wp2_with fail
  go_ret
  exact ⟨rfl, _, hfin.out⟩

theorem OwnC.pos {w : World} {base : Nat} {e : TypeId} {p : Option Addr} {n c : Nat} {l : List Int} (h : OwnC w base e (.slice p n c) l) (hl : l ≠ []) : ∃ g, p = some ⟨g, 0, none⟩ ∧ n = l.length ∧ l.length ≤ c ∧ c ≤ maxLen ∧ base ≤ g ∧ ∀ i, i < l.length → w.cell? ⟨g, i, none⟩ = some (.int .i64 (l.getD i 0)) := by
  rcases h with ⟨_, h0⟩ | ⟨g, cap, cur, e0, h1, h2, h3, h4, h5, h6⟩
  · exact absurd h0 hl
  · cases e0
    refine ⟨g, rfl, rfl, h3, h4, h1, fun i hi => ?_⟩
    rw [cell_of_row w g i _ _ _ h2, ← Array.getElem?_toList, take_getD h6 i hi]
theorem own_emptyD (w : World) (n base : Nat) (e : TypeId) (size : Nat) (hn : n = w.heap.size) (hb : base ≤ n) : ((w.alloc (.cells #[] e)).drew).ownsRow base e size (.slice (some ⟨n, 0, none⟩) 0 0) 0 [] :=
  ((Kp.refl [] (w.alloc (.cells #[] e))).drew).row (own_empty w n base e size hn hb) (by simp)
set_option maxRecDepth 100000 in
set_option maxHeartbeats 4000000 in
theorem rpop_calls (r base : Nat) (vL vD : Value) (l st draws : List Int) (used : Nat) (x : Int) (w : World) (h : RfS w r base vL (l ++ [x]) st vD draws used) (hl : l.length < 48) :
    Calls Try.prog 19 #[.pointer (some ⟨r, 0, none⟩)] w fun e w' => e = .returned (.tuple #[.int .i64 x, .int .i64 0]) ∧ ∃ vL', RfS w' r base vL' l st vD draws used ∧ RfK w w' r vL vL' := by
  have H : Hid (RfS w r base vL (l ++ [x]) st vD draws used) := h
  obtain ⟨p, c, rfl⟩ := h.2.2.2.1.form
  obtain ⟨g, rfl, _, hlc, hcm, hbg, hcs⟩ := h.2.2.2.1.pos (by simp)
  have C00 : Hid (∀ W, Kp [] w W → W.cell? ⟨r, 0, none⟩ = some (.slice (some ⟨g, 0, none⟩) (l.length + 1) c)) := fun W hW => by have := hW.cell h.cell0 (by simp); simpa using this
  have F00 : Hid (∀ W, Kp [] w W → W.frozen? ⟨r, 0, none⟩ = false) := fun W hW => frozen_of_row W r 0 _ _ (hW.heap h.1 (by simp))
  have CX : Hid (∀ W, Kp [] w W → W.cell? ⟨g, l.length, none⟩ = some (.int .i64 x)) := fun W hW => by
    have := hcs l.length (by simp)
    exact hW.cell (by rw [this]; simp [List.getD_eq_getElem?_getD]) (by simp)
  have CL : Hid (∀ W, Kp [] w W → ∀ j u, (l.map (Value.int .i64))[j]? = some u → W.cell? ⟨g, 0 + j, none⟩ = some u) := fun W hW j u hu => by
    have hj : j < l.length := by have := (List.getElem?_eq_some_iff.1 hu).1; simpa using this
    have := hcs j (by simp; omega)
    rw [List.getElem?_map, List.getElem?_eq_getElem hj] at hu
    rw [Nat.zero_add, hW.cell this (by simp), List.getD_eq_getElem?_getD, List.getElem?_append_left hj, List.getElem?_eq_getElem hj]; exact hu
  have hlc' : l.length + 1 ≤ c := by simpa using hlc
  have HL := Lib.hid hl
  have hli : (l.length : Int) < (l.length : Int) + 1 := by omega
  have hlcI : (l.length : Int) ≤ c := by omega
  have hcN : ¬ (c = 0) := by omega
  have w3' : IntKind.i64.wrap (l.length : Int) = (l.length : Int) := by rw [IntKind.wrap_i64]; omega
  have w4' : wrap64 (l.length : Int) = (l.length : Int) := by unfold wrap64; omega
  have w2' : IntKind.i64.wrap ((l.length : Int) + 1 - 1) = (l.length : Int) := by rw [IntKind.wrap_i64]; omega
  rw [show (l ++ [x]).length = l.length + 1 by simp] at H ⊢
  clear h hcs hlc
  have c0 := C00.out w (Kp.refl _ _)
  have q0 := KW.cell c0
  have q1 := KW.cell (CX.out w (Kp.refl _ _))
  go_enter Try.func19, Try.ntmps19
  go_wp2_with fail
  refine wp_region_kq (by kernel_rfl) (by kernel_rfl) ?_
  repeat (go_big_quiet_step (fail))
  refine wpQuiet_nil ?_
  intro w1 hw'
  obtain ⟨⟨_, hkw1⟩, rfl⟩ := hw'
  clear q0 q1 c0
  go_wp2_with fail
  have c1 := C00.out w1 hkw1
  have hwr1 : r < w1.heap.size := Nat.lt_of_lt_of_le H.out.lt hkw1.size
  have f1 := F00.out w1 hkw1
  go_region_law ((first
      | (refine step_app (by rfl) _ _ 22 (by rfl) w1.heap.size 3 (.int .i64 0) 1 8 Try.underlying22 infoIntS rfl (by decide) (by decide) (.slice (some ⟨w1.heap.size, 0, none⟩) 0 0) 0 [] (by rfl) (Kp.row (S := []) (by (repeat (first | exact Kp.refl _ _ | assumption | refine Kp.drew ?_ | refine Kp.drewN ?_ _ | refine Kp.alloc ?_ _ | (refine Kp.setCell ?_ (by first | (left; simp; done) | (right; simp; try omega)) _) | (refine Kp.trans' ?_ (by assumption) (by simp; try omega))))) (own_empty w1 w1.heap.size w1.heap.size 3 1 rfl (Nat.le_refl _)) (by simp)) g 0 c l.length (l.map (Value.int .i64)) (by rfl) (by simp) (CL.out _ (hkw1.trans (by (repeat (first | exact Kp.refl _ _ | assumption | refine Kp.drew ?_ | refine Kp.drewN ?_ _ | refine Kp.alloc ?_ _ | (refine Kp.setCell ?_ (by first | (left; simp; done) | (right; simp; try omega)) _) | (refine Kp.trans' ?_ (by assumption) (by simp; try omega))))))) (oneCell_ints _ _) (by have := HL.out; omega) (by simp) ?_
         intro v5 w5 hown5 hgr5
         have hk5 : Kp [] w1 w5 := Kp.grown (by (repeat (first | exact Kp.refl _ _ | assumption | refine Kp.drew ?_ | refine Kp.drewN ?_ _ | refine Kp.alloc ?_ _ | (refine Kp.setCell ?_ (by first | (left; simp; done) | (right; simp; try omega)) _) | (refine Kp.trans' ?_ (by assumption) (by simp; try omega))))) hgr5 (by intro k hk; right; simp [Value.ownBlock] at hk; omega)
         simp only [Nat.zero_add, List.nil_append] at hown5
         have ho5 : OwnC w5 w1.heap.size 3 v5 l := OwnC.owned (n := l.length) (Nat.le_refl _) rfl hown5
         have c5 := C00.out _ (hkw1.trans hk5)
         have H5 := Lib.hid (H.out.put (hkw1.trans hk5) (OwnC_mono ho5 hkw1.size))
         have f5 := F00.out _ (hkw1.trans hk5)
         obtain ⟨p5, q5, rfl⟩ := slice_own hown5)))
  all_goals
    clear c5 f5 hown5 ho5 c1 f1
    go_wp2_with fail
    go_ret2
    exact ⟨rfl, _, H5.out⟩
theorem rpop_empty (r base : Nat) (vL vD : Value) (st draws : List Int) (used : Nat) (w : World) (h : RfS w r base vL [] st vD draws used) :
    Calls Try.prog 19 #[.pointer (some ⟨r, 0, none⟩)] w fun e w' => e = .returned (.tuple #[.int .i64 0, .int .i64 170]) ∧ w = w' := by
  have c0 := h.cell0
  obtain ⟨p, c, rfl⟩ := h.2.2.2.1.form
  clear h
  go_enter Try.func19, Try.ntmps19
  go_wp2_with fail
  go_ret2
  exact ⟨rfl, rfl⟩
end Go.Proofs.Ytlnmpffpieofeaa

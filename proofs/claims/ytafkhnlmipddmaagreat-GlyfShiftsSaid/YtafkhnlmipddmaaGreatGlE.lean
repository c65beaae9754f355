/- glyf: the walk over plain parts. -/
import Derived.Test.YtafkhnlmipddmaaGreatGlD
import Derived.BigQuiet
import Derived.Deep.DeepCutAuto
namespace Go.Proofs.YtafkhnlmipddmaaGreat
open Go.RowKit
set_option linter.unusedVariables false
set_option linter.unusedSimpArgs false
def WkAt (W : World) (B T : Nat) (v : Nat) : Prop := W.heap[B]? = some (.cells #[.pointer (some ⟨T, 0, none⟩), .int .i64 v] 83 (0, 0))
theorem WkAt.cells {W : World} {B T v : Nat} (h : WkAt W B T v) : W.cell? ⟨B, 0, none⟩ = some (.pointer (some ⟨T, 0, none⟩)) ∧ W.cell? ⟨B, 1, none⟩ = some (.int .i64 v) ∧ W.frozen? ⟨B, 1, none⟩ = false ∧ B < W.heap.size :=
  ⟨by rw [cell_of_row W B 0 _ _ (0, 0) h]; rfl, by rw [cell_of_row W B 1 _ _ (0, 0) h]; rfl, frozen_of_row W B 1 _ _ h, lt_of_block h⟩
theorem WkAt.kp0 {W W' : World} {B T v : Nat} (h : WkAt W B T v) (hk : Kp [] W W') : WkAt W' B T v := hk.heap h (by simp)
theorem WkAt.set {W : World} {B T v : Nat} (h : WkAt W B T v) (x : Nat) : WkAt (W.setCell ⟨B, 1, none⟩ (.int .i64 x)) B T x := heap_setCell_same W B 1 _ _ _ h
theorem WkAt.no {W : World} {B T v : Nat} (h : WkAt W B T v) {j : Nat} (hj : 2 ≤ j) : W.cell? ⟨B, j, none⟩ = none := by
  rw [cell_of_row W B j _ _ (0, 0) h]
  exact Array.getElem?_eq_none (by simpa using hj)
/-- What a store into the walk's own box leaves. -/
theorem reads_kpB {size : Nat} {W W' : World} {B T n : Nat} {v : Value} {k : Nat} {xs : List Value} (h : Reads size W v k xs) (hb : WkAt W B T n) (hk : Kp [B] W W') (hx : ∀ u, xs[0]? = some u → u ≠ .pointer (some ⟨T, 0, none⟩)) (h1 : ∀ u, xs[0]? = some u → u = .int .i64 n → xs[1]?.isSome) : Reads size W' v k xs := by
  obtain ⟨hl, h2⟩ := h
  rcases h2 with ⟨⟨ad, rfl⟩, h0⟩ | ⟨g, off, c, rfl, h3, h4, h5⟩
  · exact ⟨hl, .inl ⟨⟨ad, rfl⟩, h0⟩⟩
  · refine ⟨hl, .inr ⟨g, off, c, rfl, h3, h4, fun j u hu => ?_⟩⟩
    have hc := h5 j u hu
    refine hk.cell hc ?_
    intro hm
    simp at hm
    subst hm
    -- the row's first cell lies in the box
    have hj : 0 < xs.length := by have := (List.getElem?_eq_some_iff.1 hu).1; omega
    have hf := h5 0 _ (List.getElem?_eq_getElem hj)
    have hf0 := hx _ (List.getElem?_eq_getElem hj)
    have hf1 := h1 _ (List.getElem?_eq_getElem hj)
    rw [Nat.add_zero] at hf
    by_cases e0 : off = 0
    · subst e0
      rw [hb.cells.1] at hf
      exact hf0 (Option.some.inj hf).symm
    · by_cases e1 : off = 1
      · subst e1
        rw [hb.cells.2.1] at hf
        have h9 := hf1 (Option.some.inj hf).symm
        obtain ⟨u2, hu2⟩ := Option.isSome_iff_exists.1 h9
        have h8 := h5 1 u2 hu2
        rw [hb.no (by omega)] at h8
        cases h8
      · rw [hb.no (by omega)] at hf
        cases hf
theorem IsPs.kpB {W W' : World} {B T n : Nat} {v : Value} {c : List Pn} (h : IsPs W v c) (hb : WkAt W B T n) (hk : Kp [B] W W') : IsPs W' v c := by
  cases c with
  | nil => exact reads_kpB h hb hk (fun u hu => by cases hu) (fun u hu => by cases hu)
  | cons p c =>
    refine reads_kpB h hb hk (fun u hu => ?_) (fun u hu _ => rfl)
    have hu2 : some (Value.int .i64 p.x) = some u := hu
    cases hu2
    simp
theorem IsOut.kpB {W W' : World} {B T n : Nat} {v : Value} {o : List (List Pn)} (h : IsOut W v o) (hb : WkAt W B T n) (hk : Kp [B] W W') : IsOut W' v o := by
  obtain ⟨vs, h1, h2⟩ := h
  refine ⟨vs, reads_kpB h1 hb hk (fun u hu => ?_) (fun u hu e => ?_), fun i hi => (h2 i hi).kpB hb hk⟩
  · have hlt := (List.getElem?_eq_some_iff.1 hu).1
    have hl := h1.1
    obtain ⟨p, c, hp⟩ := (h2 0 (by omega)).form
    rw [List.getD_eq_getElem?_getD, hu] at hp
    have hp2 : u = _ := hp
    rw [hp2]; simp
  · have hlt := (List.getElem?_eq_some_iff.1 hu).1
    have hl := h1.1
    obtain ⟨p, c, hp⟩ := (h2 0 (by omega)).form
    rw [List.getD_eq_getElem?_getD, hu] at hp
    have hp2 : u = _ := hp
    rw [hp2] at e; cases e
theorem IsPts.kpB {W W' : World} {B T n : Nat} {v : Value} {l : List Cp.Pt} (h : Cp.IsPts W v l) (hb : WkAt W B T n) (hk : Kp [B] W W') : Cp.IsPts W' v l := by
  cases l with
  | nil => exact reads_kpB h hb hk (fun u hu => by cases hu) (fun u hu => by cases hu)
  | cons p l =>
    refine reads_kpB h hb hk (fun u hu => ?_) (fun u hu _ => rfl)
    have hu2 : some (Value.int .i64 p.g) = some u := hu
    cases hu2
    simp
/-- The walk's contract at so many levels. -/
def EvC (n0 T B : Nat) (zs A : List Int) (d : Int) (ev : Int → Nat → GRes) : Prop :=
  ∀ (g : Int) (v : Nat) (W : World), TbAt W n0 T zs A → WkAt W B T v → v ≤ 1024 → (-4294967296 ≤ g ∧ g ≤ 4294967296) →
    Calls Tryz.prog 34 #[.pointer (some ⟨B, 0, none⟩), .int .i64 g, .int .i64 d] W fun e w' => ∃ v', e = .returned (.tuple #[v', .int .i64 (ev g v).1.2]) ∧ IsOut w' v' (ev g v).1.1 ∧ WkAt w' B T (ev g v).2 ∧ Kp [B] W w'
set_option maxRecDepth 100000 in
set_option maxHeartbeats 8000000 in
theorem part_calls (n0 T B : Nat) (zs A : List Int) (d : Int) (hd : 0 ≤ d ∧ d ≤ 5) (ev : Int → Nat → GRes) (hev : EvC n0 T B zs A (d + 1) ev) (hok : ∀ g v, v ≤ 1024 → okE (ev g v)) (hn : n0 ≤ B)
    (va : Value) (all : List (List Pn)) (p : Cp.Pt) (v : Nat) (W : World) (ha : IsOut W va all) (hA : checkO all = 0) (hp : plainP p) (hg : -4294967296 ≤ p.g ∧ p.g ≤ 4294967296) (ht : TbAt W n0 T zs A) (hw : WkAt W B T v) (hv : v ≤ 1024) :
    Calls Tryz.prog 62 #[.pointer (some ⟨B, 0, none⟩), va, .agg (Cp.ptCells p), .int .i64 d] W fun e w' => ∃ v', e = .returned (.tuple #[v', .int .i64 (partG ev p all v).1.2]) ∧ IsOut w' v' (partG ev p all v).1.1 ∧ WkAt w' B T (partG ev p all v).2 ∧ Kp [B] W w' := by
  have HT := Lib.hid ht
  have HW := Lib.hid hw
  have HA := Lib.hid ha
  have HPL := Lib.hid (fun (pa : Option Addr) (na ca : Nat) (vo : Value) (o : List (List Pn)) (w : World) (hv : IsOut w vo o) (hE : checkO o = 0) => placed_calls pa na ca vo o p w hv hE hp)
  obtain ⟨pa, ca, rfl⟩ := ha.form
  have hBl := hw.cells.2.2.2
  have HE : Hid (∀ (x : Nat) (W : World), TbAt W n0 T zs A → WkAt W B T x → x ≤ 1024 → Calls Tryz.prog 34 #[.pointer (some ⟨B, 0, none⟩), .int .i64 p.g, .int .i64 (d + 1)] W fun e w' => ∃ v', e = .returned (.tuple #[v', .int .i64 (ev p.g x).1.2]) ∧ IsOut w' v' (ev p.g x).1.1 ∧ WkAt w' B T (ev p.g x).2 ∧ Kp [B] W w') := fun x W h1 h2 h3 => hev p.g x W h1 h2 h3 hg
  obtain ⟨hA1, hA2, hA3⟩ := checkO_zero hA
  have HJ := Lib.hid (fun (vb : Value) (b : List (List Pn)) (w : World) (h1 : IsOut w (.slice pa all.length ca) all) (h2 : IsOut w vb b) (hb : checkO b = 0) => by
    obtain ⟨b1, b2, b3⟩ := checkO_zero hb
    exact join_calls _ vb all b w h1 h2 ⟨by omega, fun j hj => by have := len_le_cnt all hj; omega⟩ ⟨by omega, fun j hj => by have := len_le_cnt b hj; omega⟩ (by omega) (by omega))
  have HOK := Lib.hid (hok p.g)
  obtain ⟨N, hN⟩ : ∃ N, all.length = N := ⟨_, rfl⟩
  rw [hN] at HJ HA ⊢
  clear ha hw ht hp hev hok hg hN hA hA1 hA2 hA3
  by_cases h24 : 1024 ≤ v
  · have HR : Hid (partG ev p all v = (([], 120), v)) := by show _ = _; unfold partG; rw [if_pos h24]
    obtain rfl : v = 1024 := by omega
    show Calls Tryz.prog 62 #[.pointer (some ⟨B, 0, none⟩), .slice pa N ca, .agg #[.int .i64 p.g, .int .i64 p.xx, .int .i64 p.xy, .int .i64 p.yx, .int .i64 p.yy, .bool p.m, .int .i64 p.dx, .int .i64 p.dy, .bool p.t, .int .i64 p.pa, .int .i64 p.ch], .int .i64 d] W _
    rw [HR.out]
    go_enter Tryz.func62, Tryz.ntmps62
    go_upto_region 1 with fail
    refine wp_gen ?_; intro W0 hW0
    have hk0 : Kp [] W W0 := by rw [hW0]; exact (Kp.refl _ _).alloc _
    have HP : Hid (PtAt W0 W.heap.size p) := by show PtAt _ _ _; rw [hW0]; exact heap_alloc_new W _
    replace HW : Hid (WkAt W0 B T 1024) := HW.out.kp0 hk0
    replace HT : Hid (TbAt W0 n0 T zs A) := HT.out.kp0 hk0
    replace HA : Hid (IsOut W0 (.slice pa N ca) all) := HA.out.kp0 hk0
    have HK0 := Lib.hid hk0
    clear hW0 hk0
    obtain ⟨w0, w1, f1, _⟩ := HW.out.cells
    go_wp2_with fail
    go_ret2
    exact ⟨_, rfl, IsOut.nil _ _, HW.out, HK0.out.more (fun s hs => nomatch hs)⟩
  · have hv1 : v + 1 ≤ 1024 := by omega
    have HRE : Hid ((ev p.g (v + 1)).1.2 ≠ 0 → partG ev p all v = (([], (ev p.g (v + 1)).1.2), (ev p.g (v + 1)).2)) := fun h => by unfold partG; rw [if_neg h24, if_pos h]
    have HR1 : Hid ((ev p.g (v + 1)).1.2 = 0 → (applyM (ev p.g (v + 1)).1.1 (p.dx * 65536) (p.dy * 65536)).2 ≠ 0 → partG ev p all v = (([], (applyM (ev p.g (v + 1)).1.1 (p.dx * 65536) (p.dy * 65536)).2), (ev p.g (v + 1)).2)) := fun h h2 => by unfold partG; rw [if_neg h24, if_neg (by omega), if_pos h2]
    have HR0 : Hid ((ev p.g (v + 1)).1.2 = 0 → (applyM (ev p.g (v + 1)).1.1 (p.dx * 65536) (p.dy * 65536)).2 = 0 → partG ev p all v = (joinM all (applyM (ev p.g (v + 1)).1.1 (p.dx * 65536) (p.dy * 65536)).1, (ev p.g (v + 1)).2)) := fun h h2 => by unfold partG; rw [if_neg h24, if_neg (by omega), if_neg (by omega)]
    have HEV := Lib.hid (HE.out (v + 1))
    have HOK1 := Lib.hid (HOK.out (v + 1) hv1)
    obtain ⟨RES, hRES⟩ : ∃ R, partG ev p all v = R := ⟨_, rfl⟩
    rw [hRES] at HRE HR1 HR0 ⊢
    obtain ⟨⟨⟨eo, ee⟩, vv⟩, hev⟩ : ∃ r, ev p.g (v + 1) = r := ⟨_, rfl⟩
    rw [hev] at HRE HR1 HR0 HEV HOK1
    dsimp only at HRE HR1 HR0 HEV
    have HCK : Hid (checkO eo = 0) := HOK1.out.1
    have hdv : decide ((1024 : Int) ≤ (v : Int)) = false := decide_eq_false (by omega)
    clear hRES hev HOK HOK1 HE h24
    show Calls Tryz.prog 62 #[.pointer (some ⟨B, 0, none⟩), .slice pa N ca, .agg #[.int .i64 p.g, .int .i64 p.xx, .int .i64 p.xy, .int .i64 p.yx, .int .i64 p.yy, .bool p.m, .int .i64 p.dx, .int .i64 p.dy, .bool p.t, .int .i64 p.pa, .int .i64 p.ch], .int .i64 d] W _
    go_enter Tryz.func62, Tryz.ntmps62
    go_upto_region 1 with fail
    refine wp_gen ?_; intro W0 hW0
    have hk0 : Kp [] W W0 := by rw [hW0]; exact (Kp.refl _ _).alloc _
    have HP : Hid (PtAt W0 W.heap.size p) := by show PtAt _ _ _; rw [hW0]; exact heap_alloc_new W _
    replace HW : Hid (WkAt W0 B T v) := HW.out.kp0 hk0
    replace HT : Hid (TbAt W0 n0 T zs A) := HT.out.kp0 hk0
    replace HA : Hid (IsOut W0 (.slice pa N ca) all) := HA.out.kp0 hk0
    have HK0 := Lib.hid hk0
    clear hW0 hk0
    obtain ⟨w0, w1, f1, _⟩ := HW.out.cells
    go_upto_region 4 with fail
    refine wp_gen ?_; intro W1 hW1
    clear w0 w1 f1
    have hk1 : Kp [B] W0 W1 := by rw [hW1]; exact (Kp.refl _ _).setCell (.inl (by simp)) _
    have HW1 : Hid (WkAt W1 B T (v + 1)) := by
      show WkAt _ _ _ _
      rw [hW1]
      have h := HW.out.set (v + 1)
      rwa [show (((v + 1 : Nat)) : Int) = (v : Int) + 1 by omega] at h
    replace HA : Hid (IsOut W1 (.slice pa N ca) all) := HA.out.kpB HW.out hk1
    replace HP : Hid (PtAt W1 W.heap.size p) := HP.out.kp hk1 (by simp; omega)
    replace HT : Hid (TbAt W1 n0 T zs A) := HT.out.kp hk1 (by intro s hs; simp at hs; omega)
    replace HK0 : Hid (Kp [B] W W1) := (HK0.out.more (fun s hs => nomatch hs)).trans hk1
    clear hW1 hk1 HW
    obtain ⟨c0, c1, c2, c3, c4, c5, c6, c7, c8, c9, c10⟩ := HP.out.cells
    go_wp2_with fail
    refine (HEV.out _ HT.out HW1.out hv1).mono ?_; rintro e w2 ⟨v2, rfl, ho2, hw2, hk2⟩
    clear c0 c1 c2 c3 c4 c5 c6 c7 c8 c9 c10
    obtain ⟨po, co, rfl⟩ := ho2.form
    have HO := Lib.hid ho2
    replace HA : Hid (IsOut w2 (.slice pa N ca) all) := HA.out.kpB HW1.out hk2
    replace HP : Hid (PtAt w2 W.heap.size p) := HP.out.kp hk2 (by simp; omega)
    replace HK0 : Hid (Kp [B] W w2) := HK0.out.trans hk2
    replace HW1 : Hid (WkAt w2 B T vv) := hw2
    clear ho2 hw2 hk2 HEV HT
    by_cases hee : ee = 0
    · subst hee
      have HPL2 := Lib.hid (HPL.out pa N ca _ eo _ HO.out HCK.out)
      have HCA : Hid (checkO (applyM eo (p.dx * 65536) (p.dy * 65536)).1 = 0) := apply_check HCK.out
      have HR1' := Lib.hid (HR1.out rfl)
      have HR0' := Lib.hid (HR0.out rfl)
      obtain ⟨⟨ao, ae⟩, hae⟩ : ∃ r, applyM eo (p.dx * 65536) (p.dy * 65536) = r := ⟨_, rfl⟩
      rw [hae] at HPL2 HCA HR1' HR0'
      dsimp only at HPL2 HCA HR1' HR0'
      generalize eo.length = NO at *
      clear hae HR1 HR0 HRE HPL
      obtain ⟨c0, c1, c2, c3, c4, c5, c6, c7, c8, c9, c10⟩ := HP.out.cells
      go_wp2_with fail
      refine HPL2.out.mono ?_; rintro e w3 ⟨v3, rfl, ho3, hk3⟩
      clear c0 c1 c2 c3 c4 c5 c6 c7 c8 c9 c10
      obtain ⟨pq, cq, rfl⟩ := ho3.form
      have HO3 := Lib.hid ho3
      replace HA : Hid (IsOut w3 (.slice pa N ca) all) := HA.out.kp0 hk3
      replace HK0 : Hid (Kp [B] W w3) := HK0.out.trans (hk3.more (fun s hs => nomatch hs))
      replace HW1 : Hid (WkAt w3 B T vv) := HW1.out.kp0 hk3
      clear ho3 hk3 HPL2
      by_cases hae : ae = 0
      · subst hae
        have HRX := Lib.hid (HR0'.out rfl)
        have HJX := Lib.hid (HJ.out _ ao _ HA.out HO3.out HCA.out)
        generalize ao.length = NA at *
        clear HR1' HR0'
        go_wp2_with fail
        refine HJX.out.mono ?_; rintro e w4 ⟨v4, rfl, ho4, hk4⟩
        have HO4 := Lib.hid ho4
        replace HK0 : Hid (Kp [B] W w4) := HK0.out.trans (hk4.more (fun s hs => nomatch hs))
        replace HW1 : Hid (WkAt w4 B T vv) := HW1.out.kp0 hk4
        clear ho4 hk4 HJX
        go_wp2_with fail
        go_ret2
        rw [HRX.out]
        exact ⟨_, rfl, HO4.out, HW1.out, HK0.out⟩
      · have hb : (ae != 0) = true := by simpa using hae
        have HRX := Lib.hid (HR1'.out hae)
        generalize ao.length = NA at *
        clear HR1' HR0'
        go_wp2_with fail
        go_ret2
        rw [HRX.out]
        exact ⟨_, rfl, IsOut.nil _ _, HW1.out, HK0.out⟩
    · have hb : (ee != 0) = true := by simpa using hee
      have HRX := Lib.hid (HRE.out hee)
      generalize eo.length = NO at *
      clear HR1 HR0 HRE
      go_wp2_with fail
      go_ret2
      rw [HRX.out]
      exact ⟨_, rfl, IsOut.nil _ _, HW1.out, HK0.out⟩
end Go.Proofs.YtafkhnlmipddmaaGreat

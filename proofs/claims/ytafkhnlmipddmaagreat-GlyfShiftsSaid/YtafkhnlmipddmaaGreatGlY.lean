/- glyf: Build of any glyphs' bytes. -/
import Derived.Test.YtafkhnlmipddmaaGreatGlX
import Derived.Test.YtafkhnlmipddmaaGreatGlI
import Derived.BigQuiet
import Derived.Deep.DeepCutAuto
namespace Go.Proofs.YtafkhnlmipddmaaGreat
open Go.RowKit
set_option linter.unusedVariables false
set_option linter.unusedSimpArgs false
def DataSp (acc : List Int) (f : Bool) (l : List Int) (acc' : List Int) (f' : Bool) : Prop :=
  (f = false ∧ acc.length + l.length ≤ 1048576 ∧ acc' = acc ++ l ∧ f' = false) ∨ ((f = true ∨ 1048576 < acc.length + l.length) ∧ acc' = acc ∧ f' = true)
def PadSp (acc : List Int) (f : Bool) (acc' : List Int) (f' : Bool) : Prop :=
  (f = false ∧ acc' = padL acc ∧ f' = false) ∨ (f = true ∧ acc' = acc ∧ f' = true)
theorem wdata_any (r : Nat) (v : Value) (acc : List Int) (f : Bool) (b : Value) (zs : List Int) (w : World) (h : WSg w r v acc f) (ha : acc.length ≤ 1048576) (hb : IsInts .u8 w b zs) (hl : zs.length ≤ 4611686018427387904) (hbr : zs ≠ [] → ∀ k, blockOf b = some k → k ≠ r) :
    Calls Tryz.prog 38 #[.pointer (some ⟨r, 0, none⟩), b] w fun e w' => e = .returned (.pointer (some ⟨r, 0, none⟩)) ∧ ∃ v' acc' f', WSg w' r v' acc' f' ∧ Kp (r :: v.ownBlock.toList) w w' ∧ DataSp acc f zs acc' f' := by
  obtain ⟨p, c, rfl⟩ := ints_formB hb
  by_cases hn : f = true ∨ 1048576 < acc.length + zs.length
  · exact (wdata_no r v acc f p zs.length c w h hn ha hl).mono fun e w' ⟨h1, h2, h3⟩ => ⟨h1, v, acc, true, h2, h3.more (fun s hs => .inl (by simp at hs; simp [hs])), .inr ⟨hn, rfl, rfl⟩⟩
  · have hf : f = false := by cases f; rfl; exact absurd (.inl rfl) hn
    subst hf
    have hle : acc.length + zs.length ≤ 1048576 := by omega
    by_cases h0 : zs = []
    · subst h0
      exact (wdata0_calls r 1048576 v acc p c w h (by omega) (by omega)).mono fun e w' ⟨h1, h2, h3⟩ => ⟨h1, v, acc, false, h2, h3.more (fun s hs => .inl (by simp at hs; simp [hs])), .inl ⟨rfl, hle, by simp, rfl⟩⟩
    · exact (wdataA_calls r 1048576 v acc _ zs w h hb (hbr h0) (by omega) (by omega)).mono fun e w' ⟨h1, v', h2, h3⟩ => ⟨h1, v', acc ++ zs, false, h2, h3.1, .inl ⟨rfl, hle, rfl, rfl⟩⟩
theorem padL_len {acc : List Int} (h : acc.length ≤ 1048576) : (padL acc).length ≤ 1048576 := by
  unfold padL padN
  rw [List.length_append, List.length_replicate]
  split <;> omega
theorem wpad_any (r : Nat) (v : Value) (acc : List Int) (f : Bool) (w : World) (h : WSg w r v acc f) (ha : acc.length ≤ 1048576) :
    Calls Tryz.prog 39 #[.pointer (some ⟨r, 0, none⟩), .int .i64 4] w fun e w' => e = .returned (.pointer (some ⟨r, 0, none⟩)) ∧ ∃ v' acc' f', WSg w' r v' acc' f' ∧ Kp (r :: v.ownBlock.toList) w w' ∧ PadSp acc f acc' f' := by
  by_cases h4 : acc.length % 4 = 0
  · refine (wpad_same r v acc f w h ha h4).mono fun e w' ⟨h1, h2⟩ => ⟨h1, v, acc, f, h.kp0 h2, h2.more (fun s hs => nomatch hs), ?_⟩
    cases f
    · exact .inl ⟨rfl, by unfold padL padN; rw [if_pos h4]; simp, rfl⟩
    · exact .inr ⟨rfl, rfl, rfl⟩
  · cases f
    · exact (wpad_yes r v acc w h h4 (by omega)).mono fun e w' ⟨h1, v', h2, h3⟩ => ⟨h1, v', _, false, h2, h3, .inl ⟨rfl, by unfold padL padN; rw [if_neg h4], rfl⟩⟩
    · exact (wpad_no r v acc true w h ha h4 (.inl rfl)).mono fun e w' ⟨h1, h2, h3⟩ => ⟨h1, v, acc, true, h2, h3.more (fun s hs => .inl (by simp at hs; simp [hs])), .inr ⟨rfl, rfl, rfl⟩⟩
/-- What is written of the first j glyphs. -/
def bldO (o : List (List Int)) : Nat → List Int
  | 0 => []
  | j + 1 => padL (bldO o j ++ o.getD j [])
def offsB (o : List (List Int)) (n : Nat) : List Int := (List.range (n + 1)).map fun j => ((bldO o j).length : Int)
theorem offsB_len (o : List (List Int)) (n : Nat) : (offsB o n).length = n + 1 := by simp [offsB]
theorem offsB_succ (o : List (List Int)) (n : Nat) : offsB o (n + 1) = offsB o n ++ [((bldO o (n + 1)).length : Int)] := by
  unfold offsB; rw [List.range_succ, List.map_append]; rfl
theorem bldO_mono (o : List (List Int)) : ∀ d j, (bldO o j).length ≤ (bldO o (j + d)).length := by
  intro d
  induction d with
  | zero => intro j; exact Nat.le_refl _
  | succ d ih =>
    intro j
    refine Nat.le_trans (ih j) ?_
    show _ ≤ (padL (bldO o (j + d) ++ o.getD (j + d) [])).length
    unfold padL
    rw [List.length_append, List.length_append]; omega
def buildM (o : List (List Int)) : (List Int × List Int) × Int :=
  if o.length < 1 ∨ 65535 < o.length then (([], []), 1) else if 1048576 < (bldO o o.length).length then (([], []), 3) else ((bldO o o.length, offsB o o.length), 0)
/-- What the loop keeps. -/
def BlSt (w wr : World) (r : Nat) (o : List (List Int)) (j : Nat) (vo : Value) : Prop :=
  ∃ (v : Value) (acc : List Int) (f : Bool) (ol : List Int), WSg wr r v acc f ∧ acc.length ≤ 1048576 ∧ (f = false → acc = bldO o j ∧ ol = offsB o j) ∧ (f = true → 1048576 < (bldO o j).length) ∧ wr.ownsRow (r + 1) 3 1 vo (j + 1) (ol.map (Value.int .i64)) ∧ ol.length = j + 1 ∧ Kp [] w wr
theorem bl_step {o : List (List Int)} {j : Nat} {acc a1 a2 : List Int} {f f1 f2 : Bool} (h0 : f = false → acc = bldO o j) (h1 : f = true → 1048576 < (bldO o j).length) (ha : acc.length ≤ 1048576) (hd : DataSp acc f (o.getD j []) a1 f1) (hp : PadSp a1 f1 a2 f2) :
    a1.length ≤ 1048576 ∧ a2.length ≤ 1048576 ∧ (f2 = false → f = false ∧ a2 = bldO o (j + 1)) ∧ (f2 = true → 1048576 < (bldO o (j + 1)).length) := by
  rcases hd with ⟨rfl, d1, rfl, rfl⟩ | ⟨d1, rfl, rfl⟩
  · rcases hp with ⟨_, rfl, rfl⟩ | ⟨e, _, _⟩
    · obtain rfl := h0 rfl
      have hl : (bldO o j ++ o.getD j []).length ≤ 1048576 := by rw [List.length_append]; exact d1
      exact ⟨hl, padL_len hl, fun _ => ⟨rfl, rfl⟩, fun e => by cases e⟩
    · cases e
  · rcases hp with ⟨e, _, _⟩ | ⟨_, rfl, rfl⟩
    · cases e
    · refine ⟨ha, ha, (fun e => by cases e), fun _ => ?_⟩
      rcases d1 with e | e
      · exact Nat.lt_of_lt_of_le (h1 e) (bldO_mono o 1 j)
      · cases f
        · obtain rfl := h0 rfl
          show 1048576 < (padL (bldO o j ++ o.getD j [])).length
          unfold padL
          rw [List.length_append, List.length_append]; omega
        · exact Nat.lt_of_lt_of_le (h1 rfl) (bldO_mono o 1 j)
set_option maxRecDepth 100000 in
set_option maxHeartbeats 8000000 in
theorem gbuild_calls (v : Value) (o : List (List Int)) (w : World) (hv : IsBs w v o) (hb : ∀ i, i < o.length → (o.getD i []).length ≤ 1125899906842624) :
    Calls Tryz.prog 18 #[v] w fun e w' => ∃ v1 v2, e = .returned (.tuple #[v1, v2, .int .i64 (buildM o).2]) ∧ IsInts .u8 w' v1 (buildM o).1.1 ∧ IsInts .i64 w' v2 (buildM o).1.2 ∧ Kp [] w w' := by
  have HV := Lib.hid (fun W (hk : Kp [] w W) => hv.kp0 hk)
  have HB := Lib.hid hb
  have hle : o.length ≤ 9223372036854775807 := by
    obtain ⟨vs, h1, _⟩ := hv
    rcases h1.2 with ⟨_, h0⟩ | ⟨g, off, c, _, h3, h4, _⟩
    · omega
    · unfold maxLen at h4; omega
  have HBL : Hid (∀ i, i < o.length → ∀ p c, IsInts .u8 w (.slice p (o.getD i []).length c) (o.getD i []) → o.getD i [] ≠ [] → ∀ k, blockOf (.slice p (o.getD i []).length c) = some k → k < w.heap.size) := fun i hi p c h hne => intsG_lt h hne
  have HR1 : Hid (o.length < 1 ∨ 65535 < o.length → buildM o = (([], []), 1)) := fun h => by unfold buildM; rw [if_pos h]
  have HR3 : Hid (¬ (o.length < 1 ∨ 65535 < o.length) → 1048576 < (bldO o o.length).length → buildM o = (([], []), 3)) := fun h h2 => by unfold buildM; rw [if_neg h, if_pos h2]
  have HR0 : Hid (¬ (o.length < 1 ∨ 65535 < o.length) → ¬ 1048576 < (bldO o o.length).length → buildM o = ((bldO o o.length, offsB o o.length), 0)) := fun h h2 => by unfold buildM; rw [if_neg h, if_neg h2]
  have HV0 := Lib.hid hv
  obtain ⟨pa, ca, rfl⟩ := hv.form
  obtain ⟨RES, hRES⟩ : ∃ R, buildM o = R := ⟨_, rfl⟩
  rw [hRES] at HR1 HR3 HR0 ⊢
  obtain ⟨N, hN⟩ : ∃ N, o.length = N := ⟨_, rfl⟩
  have HN := Lib.hid hN
  rw [hN] at HV HB HBL HR1 HR3 HR0 HV0 hle ⊢
  clear hv hb hN hRES
  by_cases hbad : N < 1 ∨ 65535 < N
  · have HX := Lib.hid (HR1.out hbad)
    have hc : N = 0 ∨ (1 ≤ N ∧ 65535 < N) := by omega
    rcases hc with rfl | ⟨h1, h2⟩
    · go_enter Tryz.func18, Tryz.ntmps18
      go_wp2_with fail
      go_ret3
      rw [HX.out]
      exact ⟨_, _, rfl, .inl ⟨⟨_, rfl⟩, rfl⟩, .inl ⟨⟨_, rfl⟩, rfl⟩, by (repeat (first | exact Kp.refl _ _ | assumption | refine Kp.drew ?_ | refine Kp.drewN ?_ _ | refine Kp.alloc ?_ _ | (refine Kp.setCell ?_ (by first | (left; simp; done) | (right; simp; try omega)) _) | (refine Kp.trans' ?_ (by assumption) (by simp; try omega))))⟩
    · have d1 : decide ((N : Int) < 1) = false := decide_eq_false (by omega)
      have d2 : decide ((65535 : Int) < (N : Int)) = true := decide_eq_true (by omega)
      go_enter Tryz.func18, Tryz.ntmps18
      go_wp2_with fail
      go_ret3
      rw [HX.out]
      exact ⟨_, _, rfl, .inl ⟨⟨_, rfl⟩, rfl⟩, .inl ⟨⟨_, rfl⟩, rfl⟩, by (repeat (first | exact Kp.refl _ _ | assumption | refine Kp.drew ?_ | refine Kp.drewN ?_ _ | refine Kp.alloc ?_ _ | (refine Kp.setCell ?_ (by first | (left; simp; done) | (right; simp; try omega)) _) | (refine Kp.trans' ?_ (by assumption) (by simp; try omega))))⟩
  · have d1 : decide ((N : Int) < 1) = false := decide_eq_false (by omega)
    have d2 : decide ((65535 : Int) < (N : Int)) = false := decide_eq_false (by omega)
    have hN6 : N ≤ 65535 := by omega
    have HR3' := Lib.hid (HR3.out hbad)
    have HR0' := Lib.hid (HR0.out hbad)
    clear HR1 HR3 HR0 hbad
    go_enter Tryz.func18, Tryz.ntmps18
    go_wp2_with fail
    refine (to_calls 1048576 (by decide) _).mono ?_; rintro e w1 ⟨rfl, hs1, hk1⟩
    have HS1 : Hid (WSg w1 w.heap.size (.slice none 0 0) [] false) := hs1
    have HK1 := Lib.hid hk1
    clear hs1 hk1
    go_wp2_with fail
    refine wp_gen ?_; intro W0 hW0
    have hk0 : Kp [] w1 W0 := by rw [hW0]; exact (Kp.refl _ _).alloc _
    have HS0 : Hid (WSg W0 w.heap.size (.slice none 0 0) [] false) := HS1.out.kp0 hk0
    have hs1 : w.heap.size + 1 ≤ w1.heap.size := by have := HS1.out.2.2; omega
    have HO0 : Hid (W0.ownsRow (w.heap.size + 1) 3 1 (.slice (some ⟨w1.heap.size, 0, none⟩) 1 1) 1 ((offsB o 0).map (Value.int .i64))) := by
      show World.ownsRow _ _ _ _ _ _ _
      rw [hW0]
      exact own_lit w1 _ _ 3 1 1 #[.int .i64 0] rfl hs1 (by decide) rfl
    have HK0 : Hid (Kp [] w W0) := HK1.out.trans hk0
    clear hW0 hk0 HS1 HK1 hs1
    go_loopw [6, 8, 23] (fun u _ i wr => ∃ (j : Nat) (vo : Value), j ≤ N ∧ i = .int .i64 j ∧ vo = u ∧ Hid (BlSt w wr w.heap.size o j vo)) (fun _ _ i _ => N - (intOf i).toNat)
    case atStart => exact ⟨0, _, by omega, rfl, rfl, _, [], false, offsB o 0, HS0.out, by simp, fun _ => ⟨rfl, rfl⟩, (fun e => by cases e), HO0.out, offsB_len o 0, HK0.out⟩
    case round =>
      obtain ⟨j, vo, hj, rfl, rfl, HJ⟩ := hrel
      by_cases hlt : j < N
      · have hjo : j < o.length := by rw [HN.out]; exact hlt
        obtain ⟨vb, acc, f, ol, hs, hal, hf0, hf1, hro, hol, hkj⟩ := HJ.out
        obtain ⟨g1, o1, c1, p1, cv, e1, _, _, hc1, hi1⟩ := (HV.out _ hkj).row hjo
        rw [HN.out] at e1
        cases e1
        obtain ⟨pf, qf, rfl⟩ := slice_own hro
        have hbr : o.getD j [] ≠ [] → ∀ k, blockOf (.slice p1 (o.getD j []).length cv) = some k → k ≠ w.heap.size := fun hne k hk => by
          obtain ⟨g2, o2, c2, p2, cv2, e2, _, _, hc2, hi2⟩ := HV0.out.row hjo
          rw [HN.out] at e2
          cases e2
          have h9 := hkj.cell hc2 (by simp)
          rw [hc1] at h9
          cases h9
          have := HBL.out j hlt _ _ hi2 hne k hk
          omega
        have HD := Lib.hid (wdata_any w.heap.size vb acc f _ (o.getD j []) wr hs hal hi1 (by have := HB.out j hlt; omega) hbr)
        have HST := Lib.hid (fun (a1 a2 : List Int) (f1 f2 : Bool) => bl_step (o := o) (j := j) (acc := acc) (a1 := a1) (a2 := a2) (f := f) (f1 := f1) (f2 := f2) (fun h => (hf0 h).1) hf1 hal)
        have HOF : Hid (f = false → ol = offsB o j) := fun h => (hf0 h).2
        have HOS := Lib.hid (offsB_succ o j)
        have HRO := Lib.hid hro
        have HSW := Lib.hid hs
        have HKJ := Lib.hid hkj
        have HOL := Lib.hid hol
        generalize o.getD j [] = G at *
        generalize hGl : G.length = GL at *
        clear hs hal hf0 hf1 hro hol hkj hi1 hbr HJ hjo hGl
        go_wp2_with fail
        refine HD.out.mono ?_; rintro e w2 ⟨rfl, v2, a1, f1, hs2, hk2, hd⟩
        have HS2 := Lib.hid hs2
        have HDS := Lib.hid hd
        have HR2 : Hid (w2.ownsRow (w.heap.size + 1) 3 1 (.slice pf (j + 1) qf) (j + 1) (ol.map (Value.int .i64))) := hk2.row HRO.out (fun s hs e => by
          rcases List.mem_cons.1 hs with rfl | hs
          · have := own_ge HRO.out _ e; omega
          · exact own_ne HSW.out.2.1 HRO.out (by decide) s (by simpa using hs) e)
        have HK2 : Hid (Kp [] w w2) := HKJ.out.trans' hk2 (fun t ht => .inr (by
          rcases List.mem_cons.1 ht with rfl | ht
          · exact Nat.le_refl _
          · have := own_ge HSW.out.2.1 t (by simpa using ht); omega))
        clear hs2 hk2 hd HRO HSW HKJ HD
        have ha1 : a1.length ≤ 1048576 := by
          have hp9 : ∃ a2 f2, PadSp a1 f1 a2 f2 := by
            cases f1
            · exact ⟨_, _, .inl ⟨rfl, rfl, rfl⟩⟩
            · exact ⟨_, _, .inr ⟨rfl, rfl, rfl⟩⟩
          obtain ⟨a2, f2, hp9⟩ := hp9
          exact (HST.out a1 a2 f1 f2 HDS.out hp9).1
        have HP := Lib.hid (wpad_any w.heap.size v2 a1 f1 w2 HS2.out ha1)
        go_wp2_with fail
        refine HP.out.mono ?_; rintro e w3 ⟨rfl, v3, a2, f2, hs3, hk3, hp⟩
        have HFX := Lib.hid (HST.out a1 a2 f1 f2 HDS.out hp)
        have HS3 := Lib.hid hs3
        have HR3 : Hid (w3.ownsRow (w.heap.size + 1) 3 1 (.slice pf (j + 1) qf) (j + 1) (ol.map (Value.int .i64))) := hk3.row HR2.out (fun s hs e => by
          rcases List.mem_cons.1 hs with rfl | hs
          · have := own_ge HR2.out _ e; omega
          · exact own_ne HS2.out.2.1 HR2.out (by decide) s (by simpa using hs) e)
        have HK3 : Hid (Kp [] w w3) := HK2.out.trans' hk3 (fun t ht => .inr (by
          rcases List.mem_cons.1 ht with rfl | ht
          · exact Nat.le_refl _
          · have := own_ge HS2.out.2.1 t (by simpa using ht); omega))
        clear hs3 hk3 hp HR2 HS2 HK2 HP HST HDS ha1
        have HL := Lib.hid (wlen_calls w.heap.size v3 a2 f2 w3 HS3.out)
        go_wp2_with fail
        refine HL.out.mono ?_; rintro e w4 ⟨rfl, hk4⟩
        have HS4 : Hid (WSg w4 w.heap.size v3 a2 f2) := HS3.out.kp0 hk4
        have HR4 : Hid (w4.ownsRow (w.heap.size + 1) 3 1 (.slice pf (j + 1) qf) (j + 1) (ol.map (Value.int .i64))) := hk4.row HR3.out (by simp)
        have HK4 : Hid (Kp [] w w4) := HK3.out.trans hk4
        have hsz4 : w.heap.size + 1 ≤ w4.heap.size := by have := HS4.out.2.2; omega
        clear hk4 HS3 HR3 HK3 HL
        go_wp2_with (at_builtin; refine wpList_appM rfl _ _ 51 3 .i64 8 Tryz.underlying51 infoIntM (by decide) rfl (w.heap.size + 1) (.slice pf (j + 1) qf) ol (j + 1) HOL.out rfl ?hown (.slice (some ⟨w4.heap.size, 0, none⟩) 1 1) [(a2.length : Int)] rfl ?hsrc ?hl2 ?hb2 ?hk2)
        case hown => exact Kp.row (S := []) (by (repeat (first | exact Kp.refl _ _ | assumption | refine Kp.drew ?_ | refine Kp.drewN ?_ _ | refine Kp.alloc ?_ _ | (refine Kp.setCell ?_ (by first | (left; simp; done) | (right; simp; try omega)) _) | (refine Kp.trans' ?_ (by assumption) (by simp; try omega))))) HR4.out (by simp)
        case hsrc => exact .inr ⟨w4.heap.size, 0, 1, rfl, by simp, by decide, fun i hi => by
          obtain rfl : i = 0 := by simpa using hi
          rw [cell_of_row _ w4.heap.size 0 _ _ (0, 0) (heap_alloc_new w4 _)]; rfl⟩
        case hl2 => simp; omega
        case hb2 => simp; omega
        case hk2 =>
        intro v6 w6 hown6 hk6 hbl6
        have hka : Kp [] w4 (w4.alloc (.cells #[.int .i64 (a2.length : Int)] 3)) := (Kp.refl _ _).alloc _
        obtain ⟨p6, q6, rfl⟩ := slice_own hown6
        have hsa := HS4.out.kp0 hka
        have hfa : (w4.alloc (.cells #[.int .i64 (a2.length : Int)] 3)).ownsRow (w.heap.size + 1) 3 1 (.slice pf (j + 1) qf) (j + 1) (ol.map (Value.int .i64)) := hka.row HR4.out (by simp)
        have HBS : Hid (BlSt w w6 w.heap.size o (j + 1) (.slice p6 (j + 1 + 1) q6)) := by
          refine ⟨v3, a2, f2, ol ++ [(a2.length : Int)], ?_, HFX.out.2.1, fun e => ?_, HFX.out.2.2.2, ?_, ?_, ?_⟩
          · exact hsa.kp hk6 (fun hm => by have := own_ge hfa _ (by simpa using hm); omega) (fun s hs e => own_ne hfa hsa.2.1 (by decide) s (by simpa using hs) e)
          · obtain ⟨e1, e2⟩ := HFX.out.2.2.1 e
            exact ⟨e2, by rw [HOS.out, HOF.out e1, ← e2]⟩
          · simpa using hown6
          · rw [List.length_append, HOL.out]; rfl
          · exact (HK4.out.trans hka).trans' hk6 (fun t ht => .inr (by have := own_ge hfa t (by simpa using ht); omega))
        clear hown6 hk6 hbl6 hka hsa hfa HS4 HR4 HK4 HFX HOF
        go_wp2_with fail
        go_roundw
        case rel => first | exact ⟨j + 1, _, by omega, int_eq' (by omega), rfl, HBS⟩ | ((repeat apply Exists.intro); exact ⟨⟨j + 1, _, by omega, int_eq' (by omega), rfl, HBS⟩, rfl⟩)
        case measure => simp [intOf] <;> omega
      · obtain rfl : j = N := by omega
        obtain ⟨vb, acc, f, ol, hs, hal, hf0, hf1, hro, hol, hkj⟩ := HJ.out
        have HKJ := Lib.hid hkj
        have HSW := Lib.hid hs
        have HRO := Lib.hid hro
        obtain ⟨pf, qf, rfl⟩ := slice_own hro
        cases f with
        | true =>
          have HX := Lib.hid (HR3'.out (hf1 (by first | rfl | trivial)))
          have HDN := Lib.hid (wdone_full w.heap.size vb acc wr hs)
          clear hs hal hf0 hf1 hro hol hkj HJ HR3' HR0'
          go_wp2_with fail
          refine HDN.out.mono ?_; rintro e w2 ⟨rfl, hk2⟩
          have HKF : Hid (Kp [] w w2) := HKJ.out.trans hk2
          clear hk2
          go_wp2_with fail
          go_ret3
          rw [HX.out]
          exact ⟨_, _, rfl, .inl ⟨⟨_, rfl⟩, rfl⟩, .inl ⟨⟨_, rfl⟩, rfl⟩, HKF.out⟩
        | false =>
          obtain ⟨ea, eo⟩ := hf0 (by first | rfl | trivial)
          have HX := Lib.hid (HR0'.out (by rw [← ea]; omega))
          have HDN := Lib.hid (wdone_calls w.heap.size 1048576 vb acc wr hs (by omega))
          have HEA := Lib.hid ea
          have HEO := Lib.hid eo
          clear hs hal hf0 hf1 hro hol hkj HJ HR3' HR0' ea eo
          go_wp2_with fail
          refine HDN.out.mono ?_; rintro e w2 ⟨v2, rfl, hi2, hk2, _⟩
          obtain ⟨p2, c2, rfl⟩ := ints_formB hi2
          have HI2 := Lib.hid hi2
          have HKF : Hid (Kp [] w w2) := HKJ.out.trans hk2
          have HRF : Hid (w2.ownsRow (w.heap.size + 1) 3 1 (.slice pf (j + 1) qf) (j + 1) (ol.map (Value.int .i64))) := hk2.row HRO.out (by simp)
          generalize acc.length = AL at *
          clear hi2 hk2 HRO
          go_wp2_with fail
          go_ret3
          rw [HX.out, ← HEA.out, ← HEO.out]
          exact ⟨_, _, rfl, HI2.out, IsInts.owned HRF.out, HKF.out⟩
end Go.Proofs.YtafkhnlmipddmaaGreat

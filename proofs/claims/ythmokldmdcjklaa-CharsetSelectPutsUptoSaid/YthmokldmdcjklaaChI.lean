/- charset.parts: a selection, range by range. -/
import Derived.Test.YthmokldmdcjklaaChH
import Derived.BigQuiet
import Derived.Deep.QuietTactic
namespace Go.Proofs.Ythmokldmdcjklaa
open Go.RowKit
set_option linter.unusedVariables false
set_option linter.unusedSimpArgs false
theorem infoPart : (Try.prog.info? 104).map (fun i => (i.zero, i.size, i.bytes)) = some (some (.agg #[.int .i64 0, .int .i64 0]), 2, 16) := by kernel_rfl
/-- Ranges as cells. -/
def partCells (l : List (Int × Int)) : List Value := l.flatMap fun p => [.int .i64 p.1, .int .i64 p.2]
theorem partCells_length (l : List (Int × Int)) : (partCells l).length = l.length * 2 := by
  induction l with
  | nil => rfl
  | cons p l ih => simp [partCells] at ih ⊢; omega
theorem partCells_snoc (l : List (Int × Int)) (a b : Int) : partCells (l ++ [(a, b)]) = partCells l ++ [.int .i64 a, .int .i64 b] := by simp [partCells]
theorem partCells_at (l : List (Int × Int)) (i : Nat) (h : i < l.length) : (partCells l)[2 * i]? = some (.int .i64 (l.getD i (0, 0)).1) ∧ (partCells l)[2 * i + 1]? = some (.int .i64 (l.getD i (0, 0)).2) := by
  induction l generalizing i with
  | nil => simp at h
  | cons p l ih =>
    cases i with
    | zero => simp [partCells]
    | succ i =>
      have := ih i (by simpa using h)
      rw [show 2 * (i + 1) = 2 * i + 1 + 1 by omega]
      simpa [partCells] using this
def pF (zs : List Int) (k : Nat) : Int := rdV zs k false 2
def pX (zs : List Int) (k : Nat) : Int := rdV zs (rdK zs k false 2) (rdB zs k false 2) 1
def pK (zs : List Int) (k : Nat) : Nat := rdK zs (rdK zs k false 2) (rdB zs k false 2) 1
def pB (zs : List Int) (k : Nat) : Bool := rdB zs (rdK zs k false 2) (rdB zs k false 2) 1
/-- Is the next range none that may be, behind these? -/
def pBad (n q : Int) (l : List (Int × Int)) (f x : Int) (b : Bool) : Prop :=
  b = true ∨ q ≤ x ∨ n ≤ f ∨ ¬ (l = [] ↔ f = 0) ∨ (l ≠ [] ∧ f ≤ (l.getD (l.length - 1) (0, 0)).1)
instance (n q : Int) (l : List (Int × Int)) (f x : Int) (b : Bool) : Decidable (pBad n q l f x b) := by unfold pBad; infer_instance
/-- So many ranges. -/
def partGo (zs : List Int) (n q : Int) : Nat → List (Int × Int) → Nat → Option (List (Int × Int) × Nat)
  | 0, l, k => some (l, k)
  | m + 1, l, k => if pBad n q l (pF zs k) (pX zs k) (pB zs k) then none else partGo zs n q m (l ++ [(pF zs k, pX zs k)]) (pK zs k)
/-- Where 'parts' stands in memory. -/
def PaSt (w wr : World) (B r : Nat) (v : Value) (zs : List Int) (k : Nat) (l : List (Int × Int)) (v8 : Value) : Prop :=
  wr.ownsRow B 104 2 v8 l.length (partCells l) ∧ Rdr wr r v k false ∧ IsInts .u8 wr v zs ∧ Kp [r] w wr ∧ w.heap.size = B ∧ r < B ∧ (∀ b, blockOf v = some b → b < B ∧ b ≠ r) ∧ k ≤ zs.length
/-- The ranges, and behind them the number of glyphs. -/
def partFin (zs : List Int) (n : Int) (p : List (Int × Int) × Nat) : Option (List (Int × Int)) :=
  if p.1 ≠ [] ∧ rdV zs p.2 false 2 = n ∧ rdB zs p.2 false 2 = false then some p.1 else none
def partsOf (zs : List Int) (n q : Int) (k : Nat) : Option (List (Int × Int)) :=
  if rdB zs k false 2 = true then none else (partGo zs n q (rdV zs k false 2).toNat [] (rdK zs k false 2)).bind (partFin zs n)
/-- What 'parts' hands back. -/
def PartsD (R : Option (List (Int × Int))) (w : World) (r : Nat) (e : Ending) (w' : World) : Prop :=
  (R = none ∧ ∃ v, e = .returned (.tuple #[v, .bool false]) ∧ Kp [r] w w') ∨
  (∃ l v, R = some l ∧ e = .returned (.tuple #[v, .bool true]) ∧ Reads 2 w' v l.length (partCells l) ∧ Kp [r] w w' ∧ ∀ b, blockOf v = some b → w.heap.size ≤ b)
set_option maxRecDepth 100000 in
set_option maxHeartbeats 4000000 in
theorem parts_calls (r : Nat) (v : Value) (zs : List Int) (k n : Nat) (q : Int) (hn : n ≤ 65535) (hn1 : 1 ≤ n) (w : World) (h : Rdr w r v k false) (hz : IsInts .u8 w v zs) (hb : ∀ c ∈ zs, 0 ≤ c ∧ c ≤ 255) (hv : ∀ b, blockOf v = some b → b < w.heap.size ∧ b ≠ r) (hk : k ≤ zs.length)
    (hB0 : Hid (rdB zs k false 2 = false)) :
    Calls Try.prog 56 #[.pointer (some ⟨r, 0, none⟩), .int .i64 n, .int .i64 q] w (PartsD (partsOf zs n q k) w r) := by
  have hPO : Hid (partsOf zs n q k = (partGo zs n q (rdV zs k false 2).toNat [] (rdK zs k false 2)).bind (partFin zs n)) := if_neg (by rw [hB0.out]; simp)
  have HB := Lib.hid hb
  have HV := Lib.hid hv
  have hrl : r < w.heap.size := lt_of_block h
  have hne : blockOf v ≠ some r := fun e => (hv r e).2 rfl
  clear hb hv
  go_enter Try.func56, Try.ntmps56
  go_wp2_with fail
  refine (u16_calls r v zs k false _ h hz HB.out hne hk).mono ?_; rintro e w1 ⟨rfl, hr1, hk1⟩
  rw [hB0.out] at hr1
  have hst : PaSt w w1 w.heap.size r v zs (rdK zs k false 2) [] (.slice none 0 0) := ⟨World.ownsRow_nil _ _ _ _, hr1, hz.kp hk1 (by intro s hs; simp at hs; subst hs; exact hne), hk1, rfl, hrl, HV.out, rdK_le _ _ _ _ hk⟩
  obtain ⟨q0, q1'⟩ := rdV_bounds zs k false 2 HB.out
  have q1 : rdV zs k false 2 < 65536 := by omega
  clear q1' hr1 hk1 h hz hrl
  generalize hB : w.heap.size = B at *
  generalize rdK zs k false 2 = k0 at *
  obtain ⟨cnt, hcnt⟩ : ∃ cnt : Nat, rdV zs k false 2 = cnt := ⟨(rdV zs k false 2).toNat, by omega⟩
  rw [hcnt] at q0 q1 ⊢
  rw [hcnt, Int.toNat_natCast] at hPO
  have hcl : cnt ≤ 65535 := by omega
  clear hcnt q0 q1
  go_wp2_with fail
  go_loopw [8, 9, 10, 13] (fun v8 _ _ i wr => ∃ (j k2 : Nat) (l : List (Int × Int)), j ≤ cnt ∧ i = .int .i64 j ∧ l.length = j ∧ PaSt w wr B r v zs k2 l v8 ∧ partGo zs n q (cnt - j) l k2 = partGo zs n q cnt [] k0) (fun _ _ _ i _ => cnt - (intOf i).toNat)
  case atStart => exact ⟨0, k0, [], by omega, rfl, rfl, hst, rfl⟩
  case round =>
    obtain ⟨j, k2, l, hj, rfl, hlj, hs, hgo⟩ := hrel
    have HS := Lib.hid hs
    obtain ⟨p8, c8, rfl⟩ := slice_own hs.1
    obtain ⟨hown, hrd, hzz, hkp, hwB, hrB, hvB, hk2⟩ := hs
    have HO := Lib.hid hown
    have HJ := Lib.hid hlj
    have HVB := Lib.hid hvB
    clear hown hlj hvB
    have hszr := hkp.size
    rw [hwB] at hszr
    by_cases hlt : j < cnt
    · rw [show cnt - j = (cnt - (j + 1)) + 1 by omega] at hgo
      have HG := Lib.hid hgo
      clear hgo
      go_wp2_with fail
      refine (u16_calls r v zs k2 false _ hrd hzz HB.out hne hk2).mono ?_; rintro e wa ⟨rfl, hra, hka⟩
      have hza := hzz.kp hka (by intro s hs; simp at hs; subst hs; exact hne)
      have hoa := hka.row HO.out (by intro s hs e; simp at hs; subst hs; have := own_ge HO.out _ e; omega)
      go_wp2_with fail
      refine (u8_calls r v zs _ _ _ hra hza HB.out hne (rdK_le _ _ _ _ hk2)).mono ?_; rintro e wb ⟨rfl, hrb, hkb⟩
      have hzb := hza.kp hkb (by intro s hs; simp at hs; subst hs; exact hne)
      have hob := hkb.row hoa (by intro s hs e; simp at hs; subst hs; have := own_ge HO.out _ e; omega)
      have hkwb : Kp [r] w wb := (hkp.trans hka).trans hkb
      have hk3 := rdK_le zs _ (rdB zs k2 false 2) 1 (rdK_le zs k2 false 2 hk2)
      obtain ⟨f0, f1⟩ := rdV_bounds zs k2 false 2 HB.out
      obtain ⟨x0, x1⟩ := rdV_bounds zs (rdK zs k2 false 2) (rdB zs k2 false 2) 1 HB.out
      have f2 : rdV zs k2 false 2 < 65536 := by omega
      have x2 : rdV zs (rdK zs k2 false 2) (rdB zs k2 false 2) 1 < 256 := by omega
      have hstep := Lib.hid (show partGo zs n q ((cnt - (j + 1)) + 1) l k2 = if pBad n q l (pF zs k2) (pX zs k2) (pB zs k2) then none else partGo zs n q (cnt - (j + 1)) (l ++ [(pF zs k2, pX zs k2)]) (pK zs k2) from rfl)
      rw [show pF zs k2 = rdV zs k2 false 2 from rfl, show pX zs k2 = rdV zs (rdK zs k2 false 2) (rdB zs k2 false 2) 1 from rfl, show pB zs k2 = rdB zs (rdK zs k2 false 2) (rdB zs k2 false 2) 1 from rfl, show pK zs k2 = rdK zs (rdK zs k2 false 2) (rdB zs k2 false 2) 1 from rfl] at hstep
      clear f1 x1 hka hkb hra hza hoa hrd hzz hkp HO HS
      generalize rdV zs (rdK zs k2 false 2) (rdB zs k2 false 2) 1 = x at *
      generalize rdK zs (rdK zs k2 false 2) (rdB zs k2 false 2) 1 = k3 at *
      generalize rdB zs (rdK zs k2 false 2) (rdB zs k2 false 2) 1 = b3 at *
      generalize rdV zs k2 false 2 = f at *
      have hrb4 : Rdr (wb.alloc (.cells #[.int .i64 f, .int .i64 x] 104)) r v k3 b3 := hrb.kp (S := []) (by (repeat (first | exact Kp.refl _ _ | assumption | refine Kp.drew ?_ | refine Kp.drewN ?_ _ | refine Kp.alloc ?_ _ | (refine Kp.setCell ?_ (by first | (left; simp; done) | (right; simp; try omega)) _) | (refine Kp.trans' ?_ (by assumption) (by simp; try omega))))) (by simp)
      cases b3
      · by_cases hq : q ≤ x
        · skip
          go_wp2_with fail
          go_quiet ((go_at_call 46; exact Calls.quiet_of_same ((done_calls r v k3 false _ (by exact hrb4)).mono fun _ _ ⟨a, b⟩ => ⟨a, b.symm⟩)))
          go_wp2_with fail
          go_ret2
          exact .inl ⟨by rw [hPO.out, ← HG.out, hstep.out, if_pos (.inr (.inl hq))]; rfl, _, rfl, by subst hwB; (repeat (first | exact Kp.refl _ _ | assumption | refine Kp.drew ?_ | refine Kp.drewN ?_ _ | refine Kp.alloc ?_ _ | (refine Kp.setCell ?_ (by first | (left; simp; done) | (right; simp; try omega)) _) | (refine Kp.trans' ?_ (by assumption) (by simp; try omega))))⟩
        · have hq' : decide (q ≤ x) = false := by simpa using hq
          by_cases hnf : (n : Int) ≤ f
          · skip
            go_wp2_with fail
            go_quiet ((go_at_call 46; exact Calls.quiet_of_same ((done_calls r v k3 false _ (by exact hrb4)).mono fun _ _ ⟨a, b⟩ => ⟨a, b.symm⟩)))
            go_wp2_with fail
            go_ret2
            exact .inl ⟨by rw [hPO.out, ← HG.out, hstep.out, if_pos (.inr (.inr (.inl hnf)))]; rfl, _, rfl, by subst hwB; (repeat (first | exact Kp.refl _ _ | assumption | refine Kp.drew ?_ | refine Kp.drewN ?_ _ | refine Kp.alloc ?_ _ | (refine Kp.setCell ?_ (by first | (left; simp; done) | (right; simp; try omega)) _) | (refine Kp.trans' ?_ (by assumption) (by simp; try omega))))⟩
          · have hnf' : decide ((n : Int) ≤ f) = false := by simpa using hnf
            cases hj0 : ((j : Int) == 0) <;> cases hf0 : (f == 0)
            · have hjp : 0 < j := by have := beq_eq_false_iff_ne.1 hj0; omega
              have hlne : Hid (l ≠ []) := fun e => by have := HJ.out; rw [e] at this; simp at this; omega
              have hfne := Lib.hid (beq_eq_false_iff_ne.1 hf0)
              obtain ⟨g8, rfl⟩ : ∃ g, p8 = some ⟨g, 0, none⟩ := by
                rcases hob.2 with ⟨he, h0⟩ | ⟨g, cap, cur, he, _⟩
                · have := HJ.out; omega
                · exact ⟨g, by simp only [Value.slice.injEq] at he; exact he.1⟩
              have hlast := hob.cells (g := g8) rfl (2 * (j - 1)) (.int .i64 (l.getD (l.length - 1) (0, 0)).1) (by have := HJ.out; rw [← this]; exact (partCells_at l _ (by omega)).1)
              rw [add_lit, Nat.zero_add, Nat.mul_comm] at hlast
              have hg8 : g8 < wb.heap.size := World.block_lt_of_cell? _ _ hlast
              generalize hlf : (l.getD (l.length - 1) (0, 0)).1 = lf at *
              have HLF := Lib.hid hlf
              clear hlf
              have hb1 : (0 : Int) ≤ (j : Int) - 1 := by omega
              have hb2 : (j : Int) - 1 < (l.length : Int) := by have := HJ.out; omega
              by_cases hfl : f ≤ lf
              · skip
                go_wp2_with fail
                go_quiet ((go_at_call 46; exact Calls.quiet_of_same ((done_calls r v k3 false _ (by exact hrb4)).mono fun _ _ ⟨a, b⟩ => ⟨a, b.symm⟩)))
                go_wp2_with fail
                go_ret2
                exact .inl ⟨by rw [hPO.out, ← HG.out, hstep.out, if_pos (.inr (.inr (.inr (.inr ⟨hlne.out, by rw [HLF.out]; exact hfl⟩))))]; rfl, _, rfl, by subst hwB; (repeat (first | exact Kp.refl _ _ | assumption | refine Kp.drew ?_ | refine Kp.drewN ?_ _ | refine Kp.alloc ?_ _ | (refine Kp.setCell ?_ (by first | (left; simp; done) | (right; simp; try omega)) _) | (refine Kp.trans' ?_ (by assumption) (by simp; try omega))))⟩
              · have hfl' : decide (f ≤ lf) = false := by simpa using hfl
                go_wp2_with fail
                go_quiet ((go_at_call 46; exact Calls.quiet_of_same ((done_calls r v k3 false _ (by exact hrb4)).mono fun _ _ ⟨a, b⟩ => ⟨a, b.symm⟩)))
                go_wp2_with (at_builtin; refine wpList_app rfl _ _ 88 rfl B 104 (.agg #[.int .i64 0, .int .i64 0]) 2 16 Try.underlying88 infoPart rfl (by decide) (by decide) (.slice (some ⟨g8, 0, none⟩) l.length c8) l.length (partCells l) rfl ?hown (.slice (some ⟨wb.heap.size + 1, 0, none⟩) 1 1) 1 [.int .i64 f, .int .i64 x] rfl ?hsrc ?hone ?hb1 ?hb2 ?hk)
                case hown => exact (Kp.row (S := []) (by (repeat (first | exact Kp.refl _ _ | assumption | refine Kp.drew ?_ | refine Kp.drewN ?_ _ | refine Kp.alloc ?_ _ | (refine Kp.setCell ?_ (by first | (left; simp; done) | (right; simp; try omega)) _) | (refine Kp.trans' ?_ (by assumption) (by simp; try omega))))) hob (by simp))
                case hsrc => exact Reads.made _ _ 2 1 [.int .i64 f, .int .i64 x] _ (by simp) rfl (by decide)
                case hone => intro u hu; simp at hu; rcases hu with rfl | rfl <;> rfl
                case hb1 => have := HJ.out; omega
                case hb2 => have := hkwb.size; rw [hwB] at this; simp; omega
                case hk =>
                intro v7 w3 hown hgrow
                have hR := Lib.hid ((hstep.out.trans (if_neg (by unfold pBad; rintro (h | h | h | h | h); exact absurd h (by simp); omega; omega; exact h ⟨fun e => absurd e hlne.out, fun e => absurd e hfne.out⟩; have h9 := h.2; rw [HLF.out] at h9; omega))).symm.trans HG.out)
                have hge := own_ge hob
                have hkg : Kp (Value.slice (some ⟨g8, 0, none⟩) l.length c8).ownBlock.toList wb w3 := Kp.grown (by (repeat (first | exact Kp.refl _ _ | assumption | refine Kp.drew ?_ | refine Kp.drewN ?_ _ | refine Kp.alloc ?_ _ | (refine Kp.setCell ?_ (by first | (left; simp; done) | (right; simp; try omega)) _) | (refine Kp.trans' ?_ (by assumption) (by simp; try omega))))) hgrow (fun k hk => .inl (by rw [hk]; simp))
                have hnr : ∀ s ∈ (Value.slice (some ⟨g8, 0, none⟩) l.length c8).ownBlock.toList, B ≤ s := by
                  intro s hs; cases hv' : (Value.slice (some ⟨g8, 0, none⟩) l.length c8).ownBlock with
                  | none => simp [hv'] at hs
                  | some b => simp [hv'] at hs; subst hs; exact hge _ hv'
                have hr3 := hrb.kp hkg (fun hm => by have := hnr _ hm; omega)
                have hz3 := hzb.kp hkg (fun s hs e => by have := hnr _ hs; have := (HVB.out _ e).1; omega)
                have hk4 : Kp [r] w w3 := hkwb.trans' hkg (fun t ht => .inr (by rw [hwB]; exact hnr t ht))
                have HPS : Hid (PaSt w w3 B r v zs k3 (l ++ [(f, x)]) v7) := ⟨by rw [partCells_snoc, List.length_append]; exact hown, hr3, hz3, hk4, hwB, hrB, HVB.out, hk3⟩
                clear hown hgrow hkg hnr hob hrb hzb hkwb hge hrb4 hr3 hz3 hk4
                go_wp2_with fail
                go_roundw
                case rel => first | exact ⟨j + 1, k3, l ++ [(f, x)], by omega, by go_num, by simp [HJ.out], HPS.out, hR.out⟩ | (repeat apply Exists.intro; exact ⟨⟨j + 1, k3, l ++ [(f, x)], by omega, by go_num, by simp [HJ.out], HPS.out, hR.out⟩, rfl⟩)
                case measure => simp [intOf]; omega
            · skip
              go_wp2_with fail
              go_quiet ((go_at_call 46; exact Calls.quiet_of_same ((done_calls r v k3 false _ (by exact hrb4)).mono fun _ _ ⟨a, b⟩ => ⟨a, b.symm⟩)))
              go_wp2_with fail
              go_ret2
              exact .inl ⟨by rw [hPO.out, ← HG.out, hstep.out, if_pos (.inr (.inr (.inr (.inl (by have h1 := beq_eq_false_iff_ne.1 hj0; have h2 := beq_iff_eq.1 hf0; intro h3; have h4 := h3.2 h2; have h5 := HJ.out; rw [h4] at h5; simp at h5; omega)))))]; rfl, _, rfl, by subst hwB; (repeat (first | exact Kp.refl _ _ | assumption | refine Kp.drew ?_ | refine Kp.drewN ?_ _ | refine Kp.alloc ?_ _ | (refine Kp.setCell ?_ (by first | (left; simp; done) | (right; simp; try omega)) _) | (refine Kp.trans' ?_ (by assumption) (by simp; try omega))))⟩
            · skip
              go_wp2_with fail
              go_quiet ((go_at_call 46; exact Calls.quiet_of_same ((done_calls r v k3 false _ (by exact hrb4)).mono fun _ _ ⟨a, b⟩ => ⟨a, b.symm⟩)))
              go_wp2_with fail
              go_ret2
              exact .inl ⟨by rw [hPO.out, ← HG.out, hstep.out, if_pos (.inr (.inr (.inr (.inl (by have h1 := beq_iff_eq.1 hj0; have h2 := beq_eq_false_iff_ne.1 hf0; intro h3; exact h2 (h3.1 (List.eq_nil_of_length_eq_zero (by have := HJ.out; omega))))))))]; rfl, _, rfl, by subst hwB; (repeat (first | exact Kp.refl _ _ | assumption | refine Kp.drew ?_ | refine Kp.drewN ?_ _ | refine Kp.alloc ?_ _ | (refine Kp.setCell ?_ (by first | (left; simp; done) | (right; simp; try omega)) _) | (refine Kp.trans' ?_ (by assumption) (by simp; try omega))))⟩
            · have hjz := beq_iff_eq.1 hj0
              have hlz : Hid (l = []) := List.eq_nil_of_length_eq_zero (by have := HJ.out; omega)
              have hfz := Lib.hid (beq_iff_eq.1 hf0)
              have hd0 : decide (0 < j) = false := by simp; omega
              clear hjz
              go_wp2_with fail
              go_quiet ((go_at_call 46; exact Calls.quiet_of_same ((done_calls r v k3 false _ (by exact hrb4)).mono fun _ _ ⟨a, b⟩ => ⟨a, b.symm⟩)))
              go_wp2_with (at_builtin; refine wpList_app rfl _ _ 88 rfl B 104 (.agg #[.int .i64 0, .int .i64 0]) 2 16 Try.underlying88 infoPart rfl (by decide) (by decide) (.slice p8 l.length c8) l.length (partCells l) rfl ?hown (.slice (some ⟨wb.heap.size + 1, 0, none⟩) 1 1) 1 [.int .i64 f, .int .i64 x] rfl ?hsrc ?hone ?hb1 ?hb2 ?hk)
              case hown => exact (Kp.row (S := []) (by (repeat (first | exact Kp.refl _ _ | assumption | refine Kp.drew ?_ | refine Kp.drewN ?_ _ | refine Kp.alloc ?_ _ | (refine Kp.setCell ?_ (by first | (left; simp; done) | (right; simp; try omega)) _) | (refine Kp.trans' ?_ (by assumption) (by simp; try omega))))) hob (by simp))
              case hsrc => exact Reads.made _ _ 2 1 [.int .i64 f, .int .i64 x] _ (by simp) rfl (by decide)
              case hone => intro u hu; simp at hu; rcases hu with rfl | rfl <;> rfl
              case hb1 => have := HJ.out; omega
              case hb2 => have := hkwb.size; rw [hwB] at this; simp; omega
              case hk =>
              intro v7 w3 hown hgrow
              have hR := Lib.hid ((hstep.out.trans (if_neg (by unfold pBad; rintro (h | h | h | h | h); exact absurd h (by simp); omega; omega; exact h ⟨fun _ => hfz.out, fun _ => hlz.out⟩; exact h.1 hlz.out))).symm.trans HG.out)
              have hge := own_ge hob
              have hkg : Kp (Value.slice p8 l.length c8).ownBlock.toList wb w3 := Kp.grown (by (repeat (first | exact Kp.refl _ _ | assumption | refine Kp.drew ?_ | refine Kp.drewN ?_ _ | refine Kp.alloc ?_ _ | (refine Kp.setCell ?_ (by first | (left; simp; done) | (right; simp; try omega)) _) | (refine Kp.trans' ?_ (by assumption) (by simp; try omega))))) hgrow (fun k hk => .inl (by rw [hk]; simp))
              have hnr : ∀ s ∈ (Value.slice p8 l.length c8).ownBlock.toList, B ≤ s := by
                intro s hs; cases hv' : (Value.slice p8 l.length c8).ownBlock with
                | none => simp [hv'] at hs
                | some b => simp [hv'] at hs; subst hs; exact hge _ hv'
              have hr3 := hrb.kp hkg (fun hm => by have := hnr _ hm; omega)
              have hz3 := hzb.kp hkg (fun s hs e => by have := hnr _ hs; have := (HVB.out _ e).1; omega)
              have hk4 : Kp [r] w w3 := hkwb.trans' hkg (fun t ht => .inr (by rw [hwB]; exact hnr t ht))
              have HPS : Hid (PaSt w w3 B r v zs k3 (l ++ [(f, x)]) v7) := ⟨by rw [partCells_snoc, List.length_append]; exact hown, hr3, hz3, hk4, hwB, hrB, HVB.out, hk3⟩
              clear hown hgrow hkg hnr hob hrb hzb hkwb hge hrb4 hr3 hz3 hk4
              go_wp2_with fail
              go_roundw
              case rel => first | exact ⟨j + 1, k3, l ++ [(f, x)], by omega, by go_num, by simp [HJ.out], HPS.out, hR.out⟩ | (repeat apply Exists.intro; exact ⟨⟨j + 1, k3, l ++ [(f, x)], by omega, by go_num, by simp [HJ.out], HPS.out, hR.out⟩, rfl⟩)
              case measure => simp [intOf]; omega
      · skip
        go_wp2_with fail
        go_quiet ((go_at_call 46; exact Calls.quiet_of_same ((done_calls r v k3 true _ (by exact hrb4)).mono fun _ _ ⟨a, b⟩ => ⟨a, b.symm⟩)))
        go_wp2_with fail
        go_ret2
        exact .inl ⟨by rw [hPO.out, ← HG.out, hstep.out, if_pos (.inl rfl)]; rfl, _, rfl, by subst hwB; (repeat (first | exact Kp.refl _ _ | assumption | refine Kp.drew ?_ | refine Kp.drewN ?_ _ | refine Kp.alloc ?_ _ | (refine Kp.setCell ?_ (by first | (left; simp; done) | (right; simp; try omega)) _) | (refine Kp.trans' ?_ (by assumption) (by simp; try omega))))⟩
    · obtain rfl : j = cnt := by omega
      rw [Nat.sub_self] at hgo
      have HG := Lib.hid (show partGo zs n q j [] k0 = some (l, k2) from hgo.symm)
      clear hgo
      by_cases hl0 : l = []
      · have hj0 : j = 0 := by have := HJ.out; rw [hl0] at this; simpa using this.symm
        have hd0 : decide (0 < l.length) = false := by rw [hl0]; rfl
        have hR := Lib.hid (show partFin zs n (l, k2) = none from if_neg (fun h => h.1 hl0))
        clear hl0 hj0
        go_wp2_with fail
        go_ret2
        exact .inl ⟨by rw [hPO.out, HG.out]; exact hR.out, _, rfl, by subst hwB; exact hkp⟩
      · have hlp : 0 < l.length := List.length_pos_iff.2 hl0
        have HL0 := Lib.hid hl0
        clear hl0
        go_wp2_with fail
        refine (u16_calls r v zs k2 false _ hrd hzz HB.out hne hk2).mono ?_; rintro e wa ⟨rfl, hra, hka⟩
        have hkwa : Kp [r] w wa := hkp.trans hka
        have hoa := hka.row HO.out (by intro s hs e; simp at hs; subst hs; have := own_ge HO.out _ e; omega)
        by_cases hn2 : rdV zs k2 false 2 = n
        · have hb2 : rdB zs k2 false 2 = false := by
            cases hx : rdB zs k2 false 2
            · rfl
            · unfold rdV at hn2; rw [hx] at hn2; simp at hn2; omega
          have hR := Lib.hid (show partFin zs n (l, k2) = some l from if_pos ⟨HL0.out, hn2, hb2⟩)
          have hbq : (rdV zs k2 false 2 == (n : Int)) = true := by rw [beq_iff_eq]; exact hn2
          rw [hb2] at hra
          clear hn2 hb2
          go_wp2_with fail
          refine (done_calls r v _ _ _ hra).mono ?_; rintro e w' ⟨rfl, rfl⟩
          go_wp2_with fail
          go_ret2
          exact .inr ⟨l, _, by rw [hPO.out, HG.out]; exact hR.out, rfl, Reads.owned hoa, by subst hwB; exact hkwa, fun b hb => by have := own_geb hoa b hb; omega⟩
        · have hR := Lib.hid (show partFin zs n (l, k2) = none from if_neg (fun h => hn2 h.2.1))
          have hbq : (rdV zs k2 false 2 == (n : Int)) = false := by rw [beq_eq_false_iff_ne]; exact hn2
          clear hn2
          go_wp2_with fail
          go_ret2
          exact .inl ⟨by rw [hPO.out, HG.out]; exact hR.out, _, rfl, by subst hwB; exact hkwa⟩
theorem parts_bad (r : Nat) (v : Value) (zs : List Int) (k n : Nat) (q : Int) (w : World) (h : Rdr w r v k false) (hz : IsInts .u8 w v zs) (hb : ∀ c ∈ zs, 0 ≤ c ∧ c ≤ 255) (hne : blockOf v ≠ some r) (hk : k ≤ zs.length)
    (hB0 : rdB zs k false 2 = true) :
    Calls Try.prog 56 #[.pointer (some ⟨r, 0, none⟩), .int .i64 n, .int .i64 q] w (PartsD (partsOf zs n q k) w r) := by
  have hPO : Hid (partsOf zs n q k = none) := if_pos hB0
  have h0 : Hid (rdV zs k false 2 = 0) := by unfold Hid rdV; rw [hB0]; rfl
  clear hB0
  go_enter Try.func56, Try.ntmps56
  go_wp2_with fail
  refine (u16_calls r v zs k false _ h hz hb hne hk).mono ?_; rintro e w1 ⟨rfl, hr1, hk1⟩
  rw [h0.out]
  clear hr1
  go_wp2_with fail
  go_loopw [8, 9, 10, 13] (fun v8 _ _ i wr => v8 = .slice none 0 0 ∧ i = .int .i64 0 ∧ wr = w1) (fun _ _ _ _ _ => 0)
  case atStart => exact ⟨rfl, rfl, rfl⟩
  case round =>
    obtain ⟨rfl, rfl, rfl⟩ := hrel
    go_wp2_with fail
    go_ret2
    exact .inl ⟨hPO.out, _, rfl, hk1⟩
end Go.Proofs.Ythmokldmdcjklaa

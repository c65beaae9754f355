/- outline: clone, whose rows are the call's own; Reverse. (Written by wip/outline/genovf.py.) -/
import Derived.Test.YtodjohoonbkklaaOvE
namespace Go.Proofs.Ytodjohoonbkklaa
open Go.RowKit
set_option linter.unusedVariables false
set_option linter.unusedSimpArgs false
def nilS : Value := .slice none 0 0
/-- The contours' rows are the call's own, each in a block of its own. -/
def EO (w : World) (base : Nat) (v : Value) (vs : List Value) (o : List (List Pn)) : Prop :=
  (∀ i, i < o.length → w.ownsRow base 61 3 (vs.getD i nilS) (o.getD i []).length (psCells (o.getD i []))) ∧
  (∀ i j, i < o.length → j < o.length → i ≠ j → ∀ b, (vs.getD i nilS).ownBlock = some b → (vs.getD j nilS).ownBlock ≠ some b) ∧
  ∀ i, i < o.length → ∀ b, (vs.getD i nilS).ownBlock = some b → v.ownBlock ≠ some b
theorem EO.kp0 {w w' : World} {base : Nat} {v : Value} {vs : List Value} {o : List (List Pn)} (h : EO w base v vs o) (hk : Kp [] w w') : EO w' base v vs o :=
  ⟨fun i hi => hk.row (h.1 i hi) (by simp), h.2.1, h.2.2⟩
theorem EO.nil (w : World) (base : Nat) (v : Value) : EO w base v [] [] := ⟨fun i hi => by simp at hi, fun i j hi => by simp at hi, fun i hi => by simp at hi⟩
theorem getD_app1 {α : Type} (l : List α) (x d : α) (n i : Nat) (hl : l.length = n) (h : i < n) : (l ++ [x]).getD i d = l.getD i d := by
  rw [List.getD_eq_getElem?_getD, List.getElem?_append_left (by omega), ← List.getD_eq_getElem?_getD]
theorem getD_app2 {α : Type} (l : List α) (x d : α) (n : Nat) (hl : l.length = n) : (l ++ [x]).getD n d = x := by
  rw [List.getD_eq_getElem?_getD, List.getElem?_append_right (by omega), hl, Nat.sub_self]; rfl
theorem ownsRow_base {w : World} {b1 b2 : Nat} {e : TypeId} {size : Nat} {v : Value} {n : Nat} {xs : List Value} (h : w.ownsRow b1 e size v n xs) (hb : b2 ≤ b1) : w.ownsRow b2 e size v n xs :=
  ⟨h.1, h.2.imp_right fun ⟨g, cap, cur, a, b, d⟩ => ⟨g, cap, cur, a, Nat.le_trans hb b, d⟩⟩
theorem EO.push {w w4 : World} {base : Nat} {v cv : Value} {vs : List Value} {o : List (List Pn)} {c : List Pn} {g4 c4 n H : Nat} (h : EO w base v vs o) (hvl : vs.length = o.length)
    (hc : w.ownsRow base 61 3 cv c.length (psCells c)) (hd : ∀ i, i < o.length → ∀ b, (vs.getD i nilS).ownBlock = some b → cv.ownBlock ≠ some b) (hcv : ∀ b, cv.ownBlock = some b → v.ownBlock ≠ some b)
    (hgr : w.grownBy w4 v.ownBlock) (hat : v.ownBlock = some g4 ∨ g4 = H) (hH : w.heap.size ≤ H) : EO w4 base (.slice (some ⟨g4, 0, none⟩) n c4) (vs ++ [cv]) (o ++ [c]) := by
  have hk : Kp v.ownBlock.toList w w4 := Kp.grown (Kp.refl _ _) hgr (fun k hk => .inl (by rw [hk]; simp))
  have fresh : ∀ (u : Value) (d : List Pn), w.ownsRow base 61 3 u d.length (psCells d) → (∀ b, u.ownBlock = some b → v.ownBlock ≠ some b) → ∀ b, u.ownBlock = some b → (Value.slice (some ⟨g4, 0, none⟩) n c4).ownBlock ≠ some b := by
    intro u d hu hne b hb e
    have e2 : g4 = b := by simpa [Value.ownBlock] using e
    subst e2
    rcases hat with h1 | h1
    · exact hne _ hb h1
    · have := (hu.lt g4 hb).2; omega
  refine ⟨fun i hi => ?_, fun i j hi hj hij b hb => ?_, fun i hi b hb => ?_⟩
  · by_cases e : i < o.length
    · rw [getD_app1 vs cv nilS o.length i hvl e, getD_app1 o c [] o.length i rfl e]
      exact hk.row (h.1 i e) (fun s hs e2 => h.2.2 i e s e2 (by simpa using hs))
    · obtain rfl : i = o.length := by simp at hi; omega
      rw [getD_app2 vs cv nilS o.length hvl, getD_app2 o c [] o.length rfl]
      exact hk.row hc (fun s hs e2 => hcv s e2 (by simpa using hs))
  · by_cases e : i < o.length
    · rw [getD_app1 vs cv nilS o.length i hvl e] at hb
      by_cases e2 : j < o.length
      · rw [getD_app1 vs cv nilS o.length j hvl e2]; exact h.2.1 i j e e2 hij b hb
      · obtain rfl : j = o.length := by simp at hj; omega
        rw [getD_app2 vs cv nilS o.length hvl]; exact hd i e b hb
    · obtain rfl : i = o.length := by simp at hi; omega
      rw [getD_app2 vs cv nilS o.length hvl] at hb
      have e2 : j < o.length := by simp at hj; omega
      rw [getD_app1 vs cv nilS o.length j hvl e2]
      exact fun e3 => hd j e2 b e3 hb
  · by_cases e : i < o.length
    · rw [getD_app1 vs cv nilS o.length i hvl e] at hb
      exact fresh _ _ (h.1 i e) (h.2.2 i e) b hb
    · obtain rfl : i = o.length := by simp at hi; omega
      rw [getD_app2 vs cv nilS o.length hvl] at hb
      exact fresh _ _ hc hcv b hb
set_option maxRecDepth 100000 in
set_option maxHeartbeats 4000000 in
theorem oclone2_calls (v : Value) (o : List (List Pn)) (w : World) (hv : IsOut w v o) (hf : fewO o) :
    Calls Try.prog 89 #[v] w fun e w' => ∃ v', e = .returned v' ∧ (∃ vs, WVs w' w.heap.size v' vs o ∧ EO w' w.heap.size v' vs o) ∧ Kp [] w w' := by
  obtain ⟨i0, hi, hz0, hz1, hz2⟩ := info_parts infoPs
  have HV := Lib.hid hv
  have HF := Lib.hid hf
  obtain ⟨pa, ca, rfl⟩ := hv.form
  obtain ⟨N, hN⟩ : ∃ N, o.length = N := ⟨_, rfl⟩
  have HN := Lib.hid hN
  have hN1 : N ≤ 1048576 := by rw [← hN]; exact hf.1
  rw [hN] at HV ⊢
  clear hN hv hf
  go_enter Try.func89, Try.ntmps89
  go_wp2_with fail
  go_loopw [3, 5, 8] (fun u _ i wr => ∃ (j : Nat) (l : Value), j ≤ N ∧ i = .int .i64 j ∧ l = u ∧ Hid ((∃ vs, WVs wr w.heap.size l vs (o.take j) ∧ EO wr w.heap.size l vs (o.take j)) ∧ Kp [] w wr)) (fun _ _ i _ => N - (intOf i).toNat)
  case atStart => exact ⟨0, _, by omega, rfl, rfl, ⟨[], ⟨World.ownsRow_nil _ _ _ _, fun i hi => by simp at hi⟩, by simpa using EO.nil _ _ _⟩, Kp.refl _ _⟩
  case round =>
    obtain ⟨j, l, hj, rfl, rfl, HJ⟩ := hrel
    by_cases hlt : j < N
    · have hjo : j < o.length := by rw [HN.out]; exact hlt
      obtain ⟨g1, o1, c1, p1, cv, e1, _, _, h1, hp⟩ := (HV.out.kp0 HJ.out.2).row hjo
      rw [HN.out] at e1
      cases e1
      have hL := HF.out.2 j hjo
      have HTK : Hid (o.take (j + 1) = o.take j ++ [o.getD j []]) := by show _ = _; rw [List.take_succ_eq_append_getElem hjo, List.getD_eq_getElem?_getD, List.getElem?_eq_getElem hjo]; rfl
      have HTL : Hid ((o.take j).length = j) := by show _ = _; rw [List.length_take]; omega
      obtain ⟨vs, HW, HEO⟩ : ∃ vs, Hid (WVs wr w.heap.size l vs (o.take j)) ∧ Hid (EO wr w.heap.size l vs (o.take j)) := by obtain ⟨vs, h1, h2⟩ := HJ.out.1; exact ⟨vs, h1, h2⟩
      have hr := HW.out.1
      rw [HTL.out] at hr
      obtain ⟨pl, cl, hl⟩ := slice_own hr
      subst hl
      have HR := Lib.hid hr
      have HOB := Lib.hid (fun b (hb : (Value.slice pl j cl).ownBlock = some b) => (hr.lt b hb).2)
      have HCP := Lib.hid (clonep_calls _ _ wr hp hL)
      have HKW : Hid (Kp [] w wr) := HJ.out.2
      generalize o.getD j [] = c at *
      clear hp hr hjo HJ
      obtain ⟨L, hcl⟩ : ∃ L, c.length = L := ⟨_, rfl⟩
      have HCL := Lib.hid hcl
      rw [hcl] at h1 HCP hL
      clear hcl
      go_wp2_with fail
      refine HCP.out.mono ?_; rintro e w1 ⟨v1, rfl, hown, hk1⟩
      have hi1 : IsPs w1 v1 c := IsPs.owned HCL.out.symm hown
      have hb1 : ∀ b, blockOf v1 = some b → wr.heap.size ≤ b ∧ b < w1.heap.size := fun b hb => hown.lt b (blockOf_own hb)
      obtain ⟨pv, qv, hv1⟩ := slice_own hown
      subst hv1
      have HI1 := Lib.hid hi1
      have HB1 := Lib.hid hb1
      have HW1 := Lib.hid (HW.out.kp0 hk1)
      have HE1 := Lib.hid (HEO.out.kp0 hk1)
      have HCO : Hid (w1.ownsRow w.heap.size 61 3 (.slice pv L qv) c.length (psCells c)) := by show World.ownsRow _ _ _ _ _ _ _; rw [HCL.out]; exact ownsRow_base hown HKW.out.size
      have HCD : Hid (∀ i, i < (o.take j).length → ∀ b, (vs.getD i nilS).ownBlock = some b → (Value.slice pv L qv).ownBlock ≠ some b) := fun i hi b hb e => by
        have h8 := ((HEO.out.1 i hi).lt b hb).2
        have h9 := (hown.lt b e).1
        omega
      have HCV : Hid (∀ b, (Value.slice pv L qv).ownBlock = some b → (Value.slice pl j cl).ownBlock ≠ some b) := fun b hb e => by
        have h8 := HOB.out b e
        have h9 := (hown.lt b hb).1
        omega
      have HR1 := Lib.hid (hk1.row HR.out (by simp))
      have HK1 := Lib.hid hk1
      have hsz1 : wr.heap.size ≤ w1.heap.size := HK1.out.size
      have hszw : w.heap.size ≤ wr.heap.size := HKW.out.size
      have hvl : vs.length = j := by have := HR1.out.1; omega
      clear hown hi1 hb1 hk1 HW HR
      go_wp2_with (at_builtin; refine wpList_append_lies _ rfl _ _ 42 rfl w.heap.size 96 i0 (.slice none 0 0) 1 24 Try.underlying42 hi hz0 hz1 hz2 rfl (by decide) (.slice pl j cl) j vs rfl ?hown ⟨w1.heap.size, 0, none⟩ 1 1 [.slice pv L qv] rfl rfl ?hnews ?hone (by decide) ?hm ?hb1 ?hb2 (w1.heap.size + 1) ?hH ?hk)
      case hown => exact Kp.row (S := []) (by (repeat (first | exact Kp.refl _ _ | assumption | refine Kp.drew ?_ | refine Kp.drewN ?_ _ | refine Kp.alloc ?_ _ | (refine Kp.setCell ?_ (by first | (left; simp; done) | (right; simp; try omega)) _) | (refine Kp.trans' ?_ (by assumption) (by simp; try omega))))) HR1.out (by simp)
      case hnews => exact World.news_of_block (heap_alloc_new w1 _)
      case hone => intro u hu; simp at hu; subst hu; rfl
      case hm => unfold maxLen; omega
      case hb1 => omega
      case hb2 => simp; omega
      case hH => simp
      case hk =>
      intro g4 c4 w4 hown hgr hat hlt4
      have hka : Kp [] w1 (w1.alloc (.cells #[.slice pv L qv] 96)) := by (repeat (first | exact Kp.refl _ _ | assumption | refine Kp.drew ?_ | refine Kp.drewN ?_ _ | refine Kp.alloc ?_ _ | (refine Kp.setCell ?_ (by first | (left; simp; done) | (right; simp; try omega)) _) | (refine Kp.trans' ?_ (by assumption) (by simp; try omega))))
      have HW2 := HW1.out.kp0 hka
      have hpush := WVs.push (H := w1.heap.size + 1) HW2 ((HI1.out : IsPs w1 (.slice pv L qv) c).kp0 hka) (fun b hb => by
        have h9 := HB1.out b hb
        exact ⟨fun e => by have := HOB.out b e; omega, by simp; omega, by omega⟩) (by rw [HTL.out]; exact hown) hgr hat (by simp)
      have hpush2 := EO.push (H := w1.heap.size + 1) (HE1.out.kp0 hka) (by rw [HTL.out]; exact hvl) (Kp.row (S := []) hka HCO.out (by simp)) HCD.out HCV.out hgr hat (n := j + 1) (c4 := c4) (by simp)
      rw [← HTK.out] at hpush2
      rw [HTL.out, ← HTK.out] at hpush
      have HPU : Hid ((∃ vs, WVs w4 w.heap.size (.slice (some ⟨g4, 0, none⟩) (j + 1) c4) vs (o.take (j + 1)) ∧ EO w4 w.heap.size (.slice (some ⟨g4, 0, none⟩) (j + 1) c4) vs (o.take (j + 1))) ∧ Kp [] w w4) := ⟨⟨_, hpush, hpush2⟩, by
        have hkk : Kp [] w wr := HKW.out
        exact Kp.grown (hkk.trans (HK1.out.trans hka)) hgr (fun k hk => .inr (own_ge HR1.out k hk))⟩
      clear hown hgr hat hka HW2 hpush hpush2 hlt4
      go_wp2_with fail
      go_roundw
      case rel => first | exact ⟨j + 1, _, by omega, int_eq' (by omega), rfl, HPU⟩ | ((repeat apply Exists.intro); exact ⟨⟨j + 1, _, by omega, int_eq' (by omega), rfl, HPU⟩, rfl⟩)
      case measure => simp [intOf]; omega
    · obtain rfl : j = N := by omega
      have HE := Lib.hid HJ.out
      rw [List.take_of_length_le (by rw [HN.out]; exact Nat.le_refl _)] at HE
      clear HJ
      go_wp2_with fail
      go_ret
      exact ⟨_, rfl, HE.out.1, HE.out.2⟩
theorem sreverse_nil (p : Option Addr) (c : Nat) (w : World) : Calls Try.prog 90 #[.slice p 0 c] w fun e w' => e = .returned (.tuple #[]) ∧ w = w' := by
  go_enter Try.func90, Try.ntmps90
  go_wp2_with fail
  go_loopw [2, 3] (fun i j wr => i = .int .i64 0 ∧ j = .int .i64 (-1) ∧ w = wr) (fun _ _ _ => 0)
  case atStart => exact ⟨rfl, rfl, rfl⟩
  case round =>
    obtain ⟨rfl, rfl, rfl⟩ := hrel
    go_wp2_with fail
    go_end0
    exact ⟨rfl, rfl⟩
/-- A contour the other way round. -/
def revP : List Pn → List Pn
  | [] => []
  | p :: l => p :: l.reverse
theorem revP_len (c : List Pn) : (revP c).length = c.length := by cases c <;> simp [revP]
theorem revP_revP (c : List Pn) : revP (revP c) = c := by cases c <;> simp [revP]
/-- The first j contours the other way round. -/
def revTo (o : List (List Pn)) (j : Nat) : List (List Pn) := (o.take j).map revP ++ o.drop j
theorem revTo_len (o : List (List Pn)) (j : Nat) : (revTo o j).length = o.length := by simp [revTo]; omega
theorem revTo_zero (o : List (List Pn)) : revTo o 0 = o := by simp [revTo]
theorem revTo_all (o : List (List Pn)) : revTo o o.length = o.map revP := by simp [revTo]
theorem revTo_at (o : List (List Pn)) (j i : Nat) (hi : i < o.length) : (revTo o j).getD i [] = if i < j then revP (o.getD i []) else o.getD i [] := by
  unfold revTo
  by_cases h : i < j
  · rw [if_pos h, List.getD_eq_getElem?_getD, List.getElem?_append_left (by simp; omega), List.getElem?_map, List.getElem?_take, if_pos h, List.getD_eq_getElem?_getD, List.getElem?_eq_getElem hi]; rfl
  · rw [if_neg h, List.getD_eq_getElem?_getD, List.getElem?_append_right (by simp; omega), List.getElem?_drop, List.getD_eq_getElem?_getD]
    congr 2; simp; omega
theorem EO.turn {w w' : World} {base : Nat} {v : Value} {vs : List Value} {o : List (List Pn)} {j g : Nat} (h : EO w base v vs (revTo o j)) (hj : j < o.length)
    (hg : (vs.getD j nilS).ownBlock = some g) (hk : Kp [g] w w') (hrow : w'.ownsRow base 61 3 (vs.getD j nilS) (revP (o.getD j [])).length (psCells (revP (o.getD j [])))) : EO w' base v vs (revTo o (j + 1)) := by
  have hl1 := revTo_len o j
  have hl2 := revTo_len o (j + 1)
  refine ⟨fun i hi => ?_, fun i k hi hk2 hik => h.2.1 i k (by omega) (by omega) hik, fun i hi => h.2.2 i (by omega)⟩
  rw [hl2] at hi
  rw [revTo_at o (j + 1) i hi]
  by_cases e : i = j
  · subst e; rw [if_pos (by omega)]; exact hrow
  · have h1 := h.1 i (by omega)
    rw [revTo_at o j i hi] at h1
    have h2 : (if i < j + 1 then revP (o.getD i []) else o.getD i []) = (if i < j then revP (o.getD i []) else o.getD i []) := by
      by_cases e2 : i < j
      · rw [if_pos e2, if_pos (by omega)]
      · rw [if_neg e2, if_neg (by omega)]
    rw [h2]
    exact hk.row h1 (fun s hs e3 => by
      obtain rfl : s = g := by simpa using hs
      exact h.2.1 i j (by omega) (by omega) e s e3 hg)
theorem EO.same {w w' : World} {base : Nat} {v : Value} {vs : List Value} {o : List (List Pn)} {j : Nat} (h : EO w base v vs (revTo o j)) (hj : j < o.length) (hk : Kp [] w w') (h0 : revP (o.getD j []) = o.getD j []) : EO w' base v vs (revTo o (j + 1)) := by
  have : revTo o (j + 1) = revTo o j := by
    refine eq_of_all [] _ _ (by rw [revTo_len, revTo_len]) fun t ht => ?_
    rw [revTo_len] at ht
    rw [revTo_at o _ t ht, revTo_at o _ t ht]
    by_cases e : t = j
    · subst e; rw [h0, if_pos (by omega), if_neg (by omega)]
    · by_cases e2 : t < j
      · rw [if_pos e2, if_pos (by omega)]
      · rw [if_neg e2, if_neg (by omega)]
  rw [this]; exact h.kp0 hk
theorem EO.out {w : World} {base : Nat} {v : Value} {vs : List Value} {o : List (List Pn)} (h : EO w base v vs o) (hv : w.ownsRow base 96 1 v o.length vs) : IsOut w v o :=
  ⟨vs, Reads.owned hv, fun i hi => IsPs.owned rfl (h.1 i hi)⟩
theorem row_at3 {w : World} {base : Nat} {v : Value} {p : Pn} {l : List Pn} (h : w.ownsRow base 61 3 v (l.length + 1) (psCells (p :: l))) :
    ∃ g cap post, v = .slice (some ⟨g, 0, none⟩) (l.length + 1) cap ∧ v.ownBlock = some g ∧ base ≤ g ∧ l.length + 1 ≤ cap ∧ cap ≤ maxLen ∧ At3 w g (pnCells p).toList post l ∧ ∀ (w' : World) (l' : List Pn), l'.length = l.length → At3 w' g (pnCells p).toList post l' → w'.ownsRow base 61 3 v (l.length + 1) (psCells (p :: l')) := by
  rcases h.2 with ⟨_, h0⟩ | ⟨g, cap, cur, rfl, hb, hg, hc, hm, hs, ht⟩
  · omega
  · have hps : ∀ l' : List Pn, psCells (p :: l') = (pnCells p).toList ++ psCells l' := fun l' => rfl
    refine ⟨g, cap, cur.toList.drop ((l.length + 1) * 3), rfl, rfl, hb, hc, hm, ?_, fun w' l' hl' hw' => ?_⟩
    · unfold At3
      rw [hg, ← hps, ← ht, List.take_append_drop]
    · have hpl : (psCells (p :: l')).length = (l.length + 1) * 3 := by rw [psCells_length, List.length_cons, hl']
      refine ⟨hpl, .inr ⟨g, cap, _, rfl, hb, hw', hc, hm, ?_, ?_⟩⟩
      · rw [← hps]
        have : cur.toList.length = cap * 3 := by simpa using hs
        simp only [List.size_toArray, List.length_append, List.length_drop, hpl, this]
        omega
      · rw [← hps]
        simp only
        rw [List.take_left' hpl]
set_option maxRecDepth 100000 in
set_option maxHeartbeats 4000000 in
theorem oreverse_calls (v : Value) (o : List (List Pn)) (w : World) (hv : IsOut w v o) (hf : fewO o) :
    Calls Try.prog 40 #[v] w fun e w' => ∃ v', e = .returned v' ∧ IsOut w' v' (o.map revP) ∧ Kp [] w w' := by
  have HCL := Lib.hid (oclone2_calls v o w hv hf)
  have HF := Lib.hid hf
  obtain ⟨pa, ca, rfl⟩ := hv.form
  obtain ⟨N, hN⟩ : ∃ N, o.length = N := ⟨_, rfl⟩
  have HN := Lib.hid hN
  have hN1 : N ≤ 1048576 := by rw [← hN]; exact hf.1
  rw [hN] at HCL ⊢
  clear hN hv hf
  go_enter Try.func40, Try.ntmps40
  go_wp2_with fail
  refine HCL.out.mono ?_; rintro e w1 ⟨v1, rfl, ⟨vs, hwv, heo⟩, hk1⟩
  have hr := hwv.1
  rw [HN.out] at hr
  obtain ⟨pv, cv, hv1⟩ := slice_own hr
  subst hv1
  have HK1 := Lib.hid hk1
  have HR1 := Lib.hid hr
  have HE0 : Hid (EO w1 w.heap.size (.slice pv N cv) vs (revTo o 0)) := by show EO _ _ _ _ _; rw [revTo_zero]; exact heo
  have HOB : Hid (∀ b, (Value.slice pv N cv).ownBlock = some b → w.heap.size ≤ b ∧ b < w1.heap.size) := fun b hb => hr.lt b hb
  clear hwv heo hk1 hr HCL
  go_wp2_with fail
  go_loopw [5, 10] (fun _ i wr => ∃ j : Nat, j ≤ N ∧ i = .int .i64 j ∧ Hid (EO wr w.heap.size (.slice pv N cv) vs (revTo o j) ∧ wr.ownsRow w.heap.size 96 1 (.slice pv N cv) N vs ∧ Kp [] w wr)) (fun _ i _ => N - (intOf i).toNat)
  case atStart => exact ⟨0, by omega, rfl, HE0.out, HR1.out, HK1.out⟩
  case round =>
    obtain ⟨j, hj, rfl, HJ⟩ := hrel
    by_cases hlt : j < N
    · have hjo : j < o.length := by rw [HN.out]; exact hlt
      have hrow := HJ.out.1.1 j (by rw [revTo_len]; exact hjo)
      rw [revTo_at o j j hjo, if_neg (by omega)] at hrow
      have hcell := HJ.out.2.1
      have hvl : vs.length = N := by have := HJ.out.2.1.1; omega
      obtain ⟨g0, h1, hc0⟩ : ∃ g0, pv = some ⟨g0, 0, none⟩ ∧ wr.cell? ⟨g0, j, none⟩ = some (vs.getD j nilS) := by
        rcases hcell.2 with ⟨_, h0⟩ | ⟨g, cap, cur, e, hb, hg, hc, hm, hs, ht⟩
        · omega
        · cases e
          refine ⟨g, rfl, ?_⟩
          have hj2 : j < vs.length := by omega
          have := hcell.cells (g := g) rfl j (vs[j]) (List.getElem?_eq_getElem hj2)
          rw [add_lit, Nat.zero_add] at this
          rw [this, List.getD_eq_getElem?_getD, List.getElem?_eq_getElem hj2]; rfl
      subst h1
      have hL := HF.out.2 j hjo
      obtain ⟨c, hcc⟩ : ∃ c, o.getD j [] = c := ⟨_, rfl⟩
      have HCC := Lib.hid hcc
      rw [hcc] at hrow hL
      clear hcell hcc
      cases c with
      | nil =>
        obtain ⟨q1, q2, q3⟩ := slice_own hrow
        rw [q3] at hc0
        have HF0 : Hid (EO wr w.heap.size (.slice (some ⟨g0, 0, none⟩) N cv) vs (revTo o (j + 1)) ∧ wr.ownsRow w.heap.size 96 1 (.slice (some ⟨g0, 0, none⟩) N cv) N vs ∧ Kp [] w wr) := ⟨HJ.out.1.same hjo (Kp.refl _ _) (by rw [HCC.out]; rfl), HJ.out.2⟩
        clear HJ hrow q3
        simp only [List.length_nil] at hc0
        go_wp2_with fail
        go_roundw
        case rel => first | exact ⟨j + 1, by omega, int_eq' (by omega), HF0⟩ | ((repeat apply Exists.intro); exact ⟨⟨j + 1, by omega, int_eq' (by omega), HF0⟩, rfl⟩)
        case measure => simp [intOf] <;> omega
      | cons p l =>
        simp only [List.length_cons] at hrow hL
        obtain ⟨g, cap, post, hvj, hgo, hgb, hcap, hmx, hat, hback⟩ := row_at3 hrow
        rw [hvj] at hc0
        have HSR := Lib.hid (sreverse_calls g (pnCells p).toList post l (cap - 1) wr hat (by omega))
        rw [show (pnCells p).toList.length = 3 from rfl] at HSR
        have HVJ := Lib.hid hvj
        have HGO := Lib.hid hgo
        have HBK := Lib.hid hback
        have hgn : (Value.slice (some ⟨g0, 0, none⟩) N cv).ownBlock ≠ some g := HJ.out.1.2.2 j (by rw [revTo_len]; exact hjo) g hgo
        unfold maxLen at hmx
        obtain ⟨L, hLL⟩ : ∃ L, l.length = L := ⟨_, rfl⟩
        have HLL := Lib.hid hLL
        rw [hLL] at hc0 hcap HSR hL
        clear hrow hvj hgo hat hback hLL
        have n1 : (1 : Int) ≤ (cap : Int) := by omega
        have n2 : (1 : Int) ≤ (L : Int) + 1 := by omega
        have n3 : (L : Int) + 1 ≤ (cap : Int) := by omega
        by_cases n4 : cap = 1
        · subst n4
          obtain rfl : L = 0 := by omega
          have hl0 : l = [] := List.eq_nil_of_length_eq_zero HLL.out
          have HF0 : Hid (EO wr w.heap.size (.slice (some ⟨g0, 0, none⟩) N cv) vs (revTo o (j + 1)) ∧ wr.ownsRow w.heap.size 96 1 (.slice (some ⟨g0, 0, none⟩) N cv) N vs ∧ Kp [] w wr) := ⟨HJ.out.1.same hjo (Kp.refl _ _) (by rw [HCC.out, hl0]; rfl), HJ.out.2⟩
          clear HJ HSR HBK hl0
          go_wp2_with fail
          refine (sreverse_nil _ _ _).mono ?_; rintro e w2 ⟨rfl, rfl⟩
          go_wp2_with fail
          go_roundw
          case rel => first | exact ⟨j + 1, by omega, int_eq' (by omega), HF0⟩ | ((repeat apply Exists.intro); exact ⟨⟨j + 1, by omega, int_eq' (by omega), HF0⟩, rfl⟩)
          case measure => simp [intOf] <;> omega
        · go_wp2_with fail
          refine HSR.out.mono ?_; rintro e w2 ⟨rfl, hat2, hk2⟩
          have HF0 : Hid (EO w2 w.heap.size (.slice (some ⟨g0, 0, none⟩) N cv) vs (revTo o (j + 1)) ∧ w2.ownsRow w.heap.size 96 1 (.slice (some ⟨g0, 0, none⟩) N cv) N vs ∧ Kp [] w w2) := by
            refine ⟨HJ.out.1.turn hjo HGO.out hk2 ?_, hk2.row HJ.out.2.1 (fun s hs => by rw [List.mem_singleton.1 hs]; exact hgn), HJ.out.2.2.trans' hk2 (fun t ht => .inr (by rw [List.mem_singleton.1 ht]; exact hgb))⟩
            rw [HCC.out]
            have h := HBK.out w2 l.reverse List.length_reverse hat2
            rw [show (revP (p :: l)).length = l.length + 1 by rw [revP_len, List.length_cons]]
            exact h
          clear HJ HSR HBK hat2 hk2
          go_wp2_with fail
          go_roundw
          case rel => first | exact ⟨j + 1, by omega, int_eq' (by omega), HF0⟩ | ((repeat apply Exists.intro); exact ⟨⟨j + 1, by omega, int_eq' (by omega), HF0⟩, rfl⟩)
          case measure => simp [intOf] <;> omega
    · obtain rfl : j = N := by omega
      have HE : Hid (IsOut wr (.slice pv j cv) (o.map revP) ∧ Kp [] w wr) := by
        show _ ∧ _
        have h1 := HJ.out.1
        have h2 : revTo o j = o.map revP := by rw [← revTo_all, HN.out]
        rw [h2] at h1
        exact ⟨h1.out (by rw [List.length_map, HN.out]; exact HJ.out.2.1), HJ.out.2.2⟩
      clear HJ
      go_wp2_with fail
      go_ret
      exact ⟨_, rfl, HE.out.1, HE.out.2⟩
end Go.Proofs.Ytodjohoonbkklaa

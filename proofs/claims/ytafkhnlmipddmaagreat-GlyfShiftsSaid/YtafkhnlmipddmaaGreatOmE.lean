/- outline: Hull. (Written by wip/outline/genova.py.) · outline: the reference's Hull. (Written by wip/outline/genovb.py.). (Merged by wip/tools/mergetpl.py out of OvA, OvB.) -/
import Derived.Test.YtafkhnlmipddmaaGreatOmD
import Derived.Test.YtafkhnlmipddmaaGreatTwo
import Derived.Deep.RegionHeld3
namespace Go.Proofs.YtafkhnlmipddmaaGreat
open Go.RowKit
set_option linter.unusedVariables false
set_option linter.unusedSimpArgs false
/-- The points of the first j contours. -/
def flatTo (o : List (List Pn)) (j : Nat) : List Pn := (o.take j).flatten
theorem flatTo_succ (o : List (List Pn)) (j : Nat) (h : j < o.length) : flatTo o (j + 1) = flatTo o j ++ o.getD j [] := by
  unfold flatTo
  rw [List.take_succ_eq_append_getElem h, List.flatten_append, List.getD_eq_getElem?_getD, List.getElem?_eq_getElem h]
  simp
theorem flatTo_len (o : List (List Pn)) : ∀ j, j ≤ o.length → (flatTo o j).length = cntTo o j := by
  intro j
  induction j with
  | zero => intro _; rfl
  | succ j ih => intro h; rw [flatTo_succ o j (by omega), List.length_append, ih (by omega), cntTo]
def xsP (l : List Pn) : List Int := l.map (·.x)
def ysP (l : List Pn) : List Int := l.map (·.y)
/-- The hull of an outline. -/
def hullO (o : List (List Pn)) : Bx := hullB (xsP (flatTo o o.length)) (ysP (flatTo o o.length)) (cnt o)
theorem infoInt : (Tryz.prog.info? 3).map (fun i => (i.zero, i.size, i.bytes)) = some (some (.int .i64 0), 1, 8) := by kernel_rfl
/-- Where the loops of Hull stand. -/
def HlSt (W1 W : World) (vx vy : Value) (l : List Pn) : Prop := TwoR 3 W W1.heap.size vx (xsP l) vy (ysP l) ∧ Kp [] W1 W
theorem HlSt.kp0 {W1 W W' : World} {vx vy : Value} {l : List Pn} (h : HlSt W1 W vx vy l) (hk : Kp [] W W') : HlSt W1 W' vx vy l := ⟨h.1.kp0 hk, h.2.trans hk⟩
theorem xsP_len (l : List Pn) : (xsP l).length = l.length := by simp [xsP]
theorem ysP_len (l : List Pn) : (ysP l).length = l.length := by simp [ysP]
theorem numsI_x {l : List Pn} (h : ∀ p ∈ l, numF p.x = true ∧ numF p.y = true) : numsI (xsP l) ∧ numsI (ysP l) := by
  refine ⟨fun i hi => ?_, fun i hi => ?_⟩
  · rw [xsP_len] at hi
    unfold xsP
    rw [List.getD_eq_getElem?_getD, List.getElem?_map, List.getElem?_eq_getElem hi]
    exact (h _ (List.getElem_mem hi)).1
  · rw [ysP_len] at hi
    unfold ysP
    rw [List.getD_eq_getElem?_getD, List.getElem?_map, List.getElem?_eq_getElem hi]
    exact (h _ (List.getElem_mem hi)).2
theorem flat_nums {o : List (List Pn)} (h : ∀ j, j < o.length → mayCo (o.getD j []) = true) : ∀ p ∈ flatTo o o.length, numF p.x = true ∧ numF p.y = true := by
  intro p hp
  unfold flatTo at hp
  rw [List.take_length, List.mem_flatten] at hp
  obtain ⟨c, hc, hpc⟩ := hp
  obtain ⟨i, hi, rfl⟩ := List.mem_iff_getElem.1 hc
  have := h i hi
  rw [List.getD_eq_getElem?_getD, List.getElem?_eq_getElem hi] at this
  exact numsP_mem (mayCo_facts this).2.1 p hpc
theorem HlSt.two {W1 Wa Wb wx wy : World} {vx vy vx' vy' : Value} {l : List Pn} {p : Pn} (h : HlSt W1 Wa vx vy l)
    (hX : ∀ vy ys, TwoR 3 Wa W1.heap.size vx (xsP l) vy ys → TwoR 3 wx W1.heap.size vx' (xsP l ++ [p.x]) vy ys) (hkx : ∀ w0, w0.heap.size ≤ W1.heap.size → Kp [] w0 Wa → Kp [] w0 wx) (hk : Kp [] wx Wb)
    (hY : ∀ vx xs, TwoR 3 Wb W1.heap.size vy (ysP l) vx xs → TwoR 3 wy W1.heap.size vy' (ysP l ++ [p.y]) vx xs) (hky : ∀ w0, w0.heap.size ≤ W1.heap.size → Kp [] w0 Wb → Kp [] w0 wy) : HlSt W1 wy vx' vy' (l ++ [p]) := by
  have h1 := (hY _ _ ((hX _ _ h.1).kp0 hk).swap).swap
  refine ⟨?_, hky _ (Nat.le_refl _) ((hkx _ (Nat.le_refl _) h.2).trans hk)⟩
  simpa [xsP, ysP] using h1
theorem HlSt.two' {W1 Wa Wb wx wy : World} {vx vy vx' vy' : Value} {l : List Pn} {p : Pn} (h : HlSt W1 Wa vx vy l)
    (hY : ∀ vx xs, TwoR 3 Wa W1.heap.size vy (ysP l) vx xs → TwoR 3 wy W1.heap.size vy' (ysP l ++ [p.y]) vx xs) (hky : ∀ w0, w0.heap.size ≤ W1.heap.size → Kp [] w0 Wa → Kp [] w0 wy) (hk : Kp [] wy Wb)
    (hX : ∀ vy ys, TwoR 3 Wb W1.heap.size vx (xsP l) vy ys → TwoR 3 wx W1.heap.size vx' (xsP l ++ [p.x]) vy ys) (hkx : ∀ w0, w0.heap.size ≤ W1.heap.size → Kp [] w0 Wb → Kp [] w0 wx) : HlSt W1 wx vx' vy' (l ++ [p]) := by
  have h1 := hX _ _ ((hY _ _ h.1.swap).kp0 hk).swap
  refine ⟨?_, hkx _ (Nat.le_refl _) ((hky _ (Nat.le_refl _) h.2).trans hk)⟩
  simpa [xsP, ysP] using h1
theorem HlSt.rowX {W1 Wa Wb wy : World} {vx vy vy' : Value} {l : List Pn} {n : Nat} {p : Int} (hn : (xsP l).length = n) (h : HlSt W1 Wa vx vy l)
    (hY : ∀ vx xs, TwoR 3 Wa W1.heap.size vy (ysP l) vx xs → TwoR 3 wy W1.heap.size vy' (ysP l ++ [p]) vx xs) (hk : Kp [] wy Wb) : Wb.ownsRow W1.heap.size 3 1 vx n (intsV (xsP l)) := by
  have h1 := ((hY _ _ h.1.swap).kp0 hk).2.1
  rwa [hn] at h1
theorem HlSt.rowY {W1 Wa Wb wx : World} {vx vy vx' : Value} {l : List Pn} {n : Nat} {p : Int} (hn : (ysP l).length = n) (h : HlSt W1 Wa vx vy l)
    (hX : ∀ vy ys, TwoR 3 Wa W1.heap.size vx (xsP l) vy ys → TwoR 3 wx W1.heap.size vx' (xsP l ++ [p]) vy ys) (hk : Kp [] wx Wb) : Wb.ownsRow W1.heap.size 3 1 vy n (intsV (ysP l)) := by
  have h1 := ((hX _ _ h.1).kp0 hk).2.1
  rwa [hn] at h1
end Go.Proofs.YtafkhnlmipddmaaGreat
namespace Go.Proofs.YtafkhnlmipddmaaGreat
open Go.RowKit
set_option linter.unusedVariables false
set_option linter.unusedSimpArgs false
set_option maxRecDepth 100000 in
set_option maxHeartbeats 4000000 in
theorem rohull_calls (v : Value) (o : List (List Pn)) (w : World) (hv : IsOut w v o) (hE : checkO o = 0) :
    Calls Tryz.prog 27 #[v] w fun e w' => e = .returned (bxV (hullO o)) ∧ Kp [] w w' := by
  obtain ⟨hz1, hz2, hz3⟩ := checkO_zero hE
  have HF : Hid (∀ j, j < o.length → (o.getD j []).length ≤ 4096) := fun j hj => by have := len_le_cnt o hj; omega
  have HV := Lib.hid hv
  have HNU := Lib.hid (numsI_x (flat_nums hz3))
  have HFL := Lib.hid (flatTo_len o)
  have HCT := Lib.hid (fun j hj => Nat.le_trans (cntTo_le o (j := j) hj) hz2)
  obtain ⟨pa, ca, rfl⟩ := hv.form
  have HH : Hid (hullO o = hullB (xsP (flatTo o o.length)) (ysP (flatTo o o.length)) (cnt o)) := rfl
  have HCN := Lib.hid (flatTo_len o o.length (Nat.le_refl _))
  obtain ⟨N, hN⟩ : ∃ N, o.length = N := ⟨_, rfl⟩
  have HN := Lib.hid hN
  have hN1 : N ≤ 256 := by rw [← hN]; exact hz1
  rw [hN] at HV HH HNU HCN ⊢
  clear hN hv hz1 hz2 hz3 hE
  go_enter Tryz.func27, Tryz.ntmps27
  go_wp2_with fail
  refine wp_gen ?_; intro W1 hW1
  have HBX : Hid (BxAt W1 w.heap.size ⟨0, 0, 0, 0⟩) := by show BxAt _ _ _; rw [hW1]; exact heap_alloc_new w _
  have HK1 : Hid (Kp [] w W1) := by show Kp _ _ _; rw [hW1]; (repeat (first | exact Kp.refl _ _ | assumption | refine Kp.drew ?_ | refine Kp.drewN ?_ _ | refine Kp.alloc ?_ _ | (refine Kp.setCell ?_ (by first | (left; simp; done) | (right; simp; try omega)) _) | (refine Kp.trans' ?_ (by assumption) (by simp; try omega))))
  have HV0 := Lib.hid (HV.out.kp0 HK1.out)
  clear hW1 HV
  go_loopw [3, 4, 5, 6] (fun vx vy i _ wr => ∃ j : Nat, j ≤ N ∧ i = .int .i64 j ∧ Hid (HlSt W1 wr vx vy (flatTo o j))) (fun _ _ i _ _ => N - (intOf i).toNat)
  case atStart => exact ⟨0, by omega, rfl, TwoR.nil _ _ _, Kp.refl _ _⟩
  case round =>
    obtain ⟨j, hj, rfl, HJ⟩ := hrel
    by_cases hlt : j < N
    · have hjo : j < o.length := by rw [HN.out]; exact hlt
      obtain ⟨g1, o1, c1, p1, cv, e1, _, _, h1, hp⟩ := HV0.out.row hjo
      rw [HN.out] at e1
      cases e1
      have HP : Hid (∀ W, Kp [] W1 W → IsPs W (.slice p1 (o.getD j []).length cv) (o.getD j [])) := fun W hW => hp.kp0 hW
      have HH1 : Hid (∀ W, Kp [] W1 W → W.cell? ⟨g1, o1 + j, none⟩ = some (.slice p1 (o.getD j []).length cv)) := fun W hW => hW.cell h1 (by simp)
      have hg1 : g1 < W1.heap.size := World.block_lt_of_cell? W1 _ h1
      replace h1 := HJ.out.2.cell h1 (by simp)
      have hL := HF.out j hjo
      have HFS := Lib.hid (flatTo_succ o j hjo)
      have HFL2 : Hid ((flatTo o j).length ≤ 4096) := by show _ ≤ _; rw [HFL.out j (by rw [HN.out]; exact hj)]; exact HCT.out j (by rw [HN.out]; exact hj)
      have HJ0 : Hid (HlSt W1 wr u3 u4 (flatTo o j ++ (o.getD j []).take 0)) := by show HlSt _ _ _ _ _; simpa using HJ.out
      generalize flatTo o j = F at *
      clear hp HJ
      generalize o.getD j [] = c at *
      obtain ⟨L, hcl⟩ : ∃ L, c.length = L := ⟨_, rfl⟩
      have HCL := Lib.hid hcl
      rw [hcl] at h1 hL HP HH1
      clear hcl
      have hr5 := HJ0.out.1.1
      have hr6 := HJ0.out.1.2.1
      rw [xsP_len] at hr5
      rw [ysP_len] at hr6
      obtain ⟨p5, q5, e5⟩ := slice_own hr5
      obtain ⟨p6, q6, e6⟩ := slice_own hr6
      subst e5; subst e6
      clear hr5 hr6
      go_wp2_with fail
      go_loopw [3, 4, 6] (fun vx vy i wr2 => ∃ m : Nat, m ≤ L ∧ i = .int .i64 m ∧ Hid (HlSt W1 wr2 vx vy (F ++ c.take m))) (fun _ _ i _ => L - (intOf i).toNat)
      case atStart => exact ⟨0, by omega, rfl, HJ0.out⟩
      case round =>
        obtain ⟨m, hm, rfl, HI⟩ := hrel
        clear HJ0
        clear h1
        have h1 := HH1.out _ HI.out.2
        have d0 : (0 : Int) ≤ (j : Int) := by omega
        have d1 : (j : Int) < (N : Int) := by omega
        have d2 : (0 : Int) ≤ (m : Int) := by omega
        by_cases hml : m < L
        · obtain ⟨g2, o2, q2, e2, _, _, x1, y1, k1⟩ := (HP.out _ (Kp.refl _ _)).row (i := m) (by rw [HCL.out]; exact hml)
          rw [HCL.out] at e2
          cases e2
          have hg2 : g2 < W1.heap.size := World.block_lt_of_cell? W1 _ x1
          replace x1 := HI.out.2.cell x1 (by simp)
          replace y1 := HI.out.2.cell y1 (by simp)
          have d3 : (m : Int) < (L : Int) := by omega
          have HTS : Hid (F ++ c.take (m + 1) = (F ++ c.take m) ++ [c.getD m pn0]) := by
            show _ = _
            have hmc : m < c.length := by rw [HCL.out]; exact hml
            rw [List.take_succ_eq_append_getElem hmc, List.getD_eq_getElem?_getD, List.getElem?_eq_getElem hmc, List.append_assoc]; rfl
          have HLN : Hid ((F ++ c.take m).length ≤ 8192) := by show _ ≤ _; have := HFL2.out; rw [List.length_append, List.length_take]; omega
          generalize F ++ c.take m = l at *
          generalize c.getD m pn0 = P at *
          obtain ⟨X, Y, K⟩ := P
          dsimp only at x1 y1 k1
          obtain ⟨n, hn⟩ : ∃ n, l.length = n := ⟨_, rfl⟩
          have HNL := Lib.hid hn
          have hln := HLN.out
          rw [hn] at hln
          have HXL : Hid ((xsP l).length = n) := by show _ = _; rw [xsP_len]; exact hn
          have HYL : Hid ((ysP l).length = n) := by show _ = _; rw [ysP_len]; exact hn
          have hr5 := HI.out.1.1
          have hr6 := HI.out.1.2.1
          rw [HXL.out] at hr5
          rw [HYL.out] at hr6
          obtain ⟨p5, q5, e5⟩ := slice_own hr5
          obtain ⟨p6, q6, e6⟩ := slice_own hr6
          subst e5; subst e6
          have HB5 : Hid (∀ k, (Value.slice p5 n q5).ownBlock = some k → k < wr.heap.size) := fun k hk => (hr5.lt k hk).2
          have HB6 : Hid (∀ k, (Value.slice p6 n q6).ownBlock = some k → k < wr.heap.size) := fun k hk => (hr6.lt k hk).2
          have HR5 := Lib.hid hr5
          have HR6 := Lib.hid hr6
          clear hn hr5 hr6
          go_wp2_with fail
          have hs0 : wr.heap.size = wr.heap.size := rfl
          have hk0 : Kp [] wr wr := Kp.refl _ _
          have hw1 : W1.heap.size ≤ wr.heap.size := HI.out.2.size
          have HG5 : Hid (∀ k, (Value.slice p5 n q5).ownBlock = some k → W1.heap.size ≤ k) := fun k hk => (HR5.out.lt k hk).1
          have HG6 : Hid (∀ k, (Value.slice p6 n q6).ownBlock = some k → W1.heap.size ≤ k) := fun k hk => (HR6.out.lt k hk).1
          obtain ⟨S2, hS2⟩ : ∃ S2, (Value.slice p5 n q5).ownBlock.toList ++ (Value.slice p6 n q6).ownBlock.toList = S2 := ⟨_, rfl⟩
          have HS5 : Hid (∀ s ∈ (Value.slice p5 n q5).ownBlock.toList, s ∈ S2) := fun s hs => by rw [← hS2]; exact List.mem_append_left _ hs
          have HS6 : Hid (∀ s ∈ (Value.slice p6 n q6).ownBlock.toList, s ∈ S2) := fun s hs => by rw [← hS2]; exact List.mem_append_right _ hs
          have HSL : Hid (∀ s ∈ S2, W1.heap.size ≤ s) := fun s hs => by
            rw [← hS2] at hs
            rcases List.mem_append.1 hs with h | h
            · exact HG5.out s (by simpa using h)
            · exact HG6.out s (by simpa using h)
          clear hS2
          have hn1 : g1 ∉ S2 := fun h => by have := HSL.out _ h; omega
          have hn2 : g2 ∉ S2 := fun h => by have := HSL.out _ h; omega
          go_region_held3 (fun w' => w'.cell? ⟨g1, o1 + j, none⟩ = some (.slice (some ⟨g2, o2, none⟩) L cv) ∧ w'.cell? ⟨g2, o2 + m * 3, none⟩ = some (.int .i64 X) ∧ w'.cell? ⟨g2, o2 + m * 3 + 1, none⟩ = some (.int .i64 Y))
            (first | go_keep | exact ⟨hX0.cell h1 hn1, hX0.cell x1 hn2, hX0.cell y1 hn2⟩ | exact ⟨hY0.cell h1 hn1, hY0.cell x1 hn2, hY0.cell y1 hn2⟩)
            ((first
              | (refine step_appI rfl _ _ 51 rfl W1.heap.size 3 Tryz.underlying51 infoInt (.slice p5 n q5) (xsP l) n HXL.out (by rfl) (by first | (refine Kp.row (S := []) ?_ HR5.out (by simp); ((repeat (first | exact Kp.refl _ _ | assumption | refine Kp.drew ?_ | refine Kp.drewN ?_ _ | refine Kp.alloc ?_ _)); done)) | (refine HlSt.rowX HXL.out (HlSt.kp0 HI.out ?_) hY ?_ <;> ((repeat (first | exact Kp.refl _ _ | assumption | refine Kp.drew ?_ | refine Kp.drewN ?_ _ | refine Kp.alloc ?_ _)); done))) _ 1 X rfl (by first | (go_simp; done) | (refine hbY.cell ?_ (fun h => by have h9 := HB6.out _ (by simpa using h); omega); go_simp; done)) (by omega) (by first | (simp; omega) | omega) ?_
                 intro gX cX wX hX hkX hbX
                 have hX0 : Kp S2 wr wX := Kp.trans (by ((repeat (first | exact Kp.refl _ _ | assumption | refine Kp.drew ?_ | refine Kp.drewN ?_ _ | refine Kp.alloc ?_ _)); done)) (hbX.more (fun s hs => .inl (HS5.out s hs)))
                 have hsX : wr.heap.size ≤ wX.heap.size := hX0.size)
              | (refine step_appI rfl _ _ 51 rfl W1.heap.size 3 Tryz.underlying51 infoInt (.slice p6 n q6) (ysP l) n HYL.out (by rfl) (by first | (refine Kp.row (S := []) ?_ HR6.out (by simp); ((repeat (first | exact Kp.refl _ _ | assumption | refine Kp.drew ?_ | refine Kp.drewN ?_ _ | refine Kp.alloc ?_ _)); done)) | (refine HlSt.rowY HYL.out (HlSt.kp0 HI.out ?_) hX ?_ <;> ((repeat (first | exact Kp.refl _ _ | assumption | refine Kp.drew ?_ | refine Kp.drewN ?_ _ | refine Kp.alloc ?_ _)); done))) _ 1 Y rfl (by first | (go_simp; done) | (refine hbX.cell ?_ (fun h => by have h9 := HB5.out _ (by simpa using h); omega); go_simp; done)) (by omega) (by first | (simp; omega) | omega) ?_
                 intro gY cY wY hY hkY hbY
                 have hY0 : Kp S2 wr wY := Kp.trans (by ((repeat (first | exact Kp.refl _ _ | assumption | refine Kp.drew ?_ | refine Kp.drewN ?_ _ | refine Kp.alloc ?_ _)); done)) (hbY.more (fun s hs => .inl (HS6.out s hs)))
                 have hsY : wr.heap.size ≤ wY.heap.size := hY0.size)))
          all_goals first
            | (have HF : Hid (HlSt W1 wY (.slice (some ⟨gX, 0, none⟩) (n + 1) cX) (.slice (some ⟨gY, 0, none⟩) (n + 1) cY) (l ++ [⟨X, Y, K⟩])) := by
                 refine HlSt.two (HlSt.kp0 HI.out ?_) hX hkX ?_ hY hkY <;> ((repeat (first | exact Kp.refl _ _ | assumption | refine Kp.drew ?_ | refine Kp.drewN ?_ _ | refine Kp.alloc ?_ _)); done)
               rw [← HTS.out] at HF
               clear hX hkX hbX hX0 hsX hY hkY hbY hY0 hsY HR5 HR6 HS5 HS6 HSL hn1 hn2 hk0 h1 x1 y1 k1
               go_wp2_with fail
               go_roundw
               case rel => first | exact ⟨m + 1, by omega, int_eq' (by omega), HF⟩ | ((repeat apply Exists.intro); exact ⟨⟨m + 1, by omega, int_eq' (by omega), HF⟩, rfl⟩)
               case measure => simp [intOf] <;> omega)
            | (have HF : Hid (HlSt W1 wX (.slice (some ⟨gX, 0, none⟩) (n + 1) cX) (.slice (some ⟨gY, 0, none⟩) (n + 1) cY) (l ++ [⟨X, Y, K⟩])) := by
                 refine HlSt.two' (HlSt.kp0 HI.out ?_) hY hkY ?_ hX hkX <;> ((repeat (first | exact Kp.refl _ _ | assumption | refine Kp.drew ?_ | refine Kp.drewN ?_ _ | refine Kp.alloc ?_ _)); done)
               rw [← HTS.out] at HF
               clear hX hkX hbX hX0 hsX hY hkY hbY hY0 hsY HR5 HR6 HS5 HS6 HSL hn1 hn2 hk0 h1 x1 y1 k1
               go_wp2_with fail
               go_roundw
               case rel => first | exact ⟨m + 1, by omega, int_eq' (by omega), HF⟩ | ((repeat apply Exists.intro); exact ⟨⟨m + 1, by omega, int_eq' (by omega), HF⟩, rfl⟩)
               case measure => simp [intOf] <;> omega)
        · obtain rfl : m = L := by omega
          have HF : Hid (HlSt W1 wr u3 u4 (flatTo o (j + 1))) := by
            show HlSt _ _ _ _ _
            have h := HI.out
            rw [List.take_of_length_le (by rw [HCL.out]; exact Nat.le_refl _)] at h
            rw [HFS.out]; exact h
          clear HI
          go_wp2_with fail
          go_roundw
          case rel => first | exact ⟨j + 1, by omega, int_eq' (by omega), HF⟩ | ((repeat apply Exists.intro); exact ⟨⟨j + 1, by omega, int_eq' (by omega), HF⟩, rfl⟩)
          case measure => simp [intOf] <;> omega
    · obtain rfl : j = N := by omega
      have HA := Lib.hid (rahull_calls u3 u4 (xsP (flatTo o j)) (ysP (flatTo o j)) wr (IsInts.owned HJ.out.1.1) (IsInts.owned HJ.out.1.2.1) (by rw [xsP_len, ysP_len]))
      have hlx : (xsP (flatTo o j)).length = cnt o := by rw [xsP_len, HCN.out]; unfold cnt; rw [HN.out]
      rw [hlx, ← HH.out] at HA
      have hb := HBX.out.kp HJ.out.2 (by simp)
      have HKF : Hid (Kp [] w wr) := HK1.out.trans HJ.out.2
      have HBR := Lib.hid hb
      obtain ⟨p5, q5, e5⟩ := slice_own HJ.out.1.1
      obtain ⟨p6, q6, e6⟩ := slice_own HJ.out.1.2.1
      subst e5; subst e6
      obtain ⟨b, hbb⟩ : ∃ b, hullO o = b := ⟨_, rfl⟩
      rw [hbb] at HA HH
      have HBB := Lib.hid hbb
      clear hbb
      clear HJ hb hlx HCN HNU HH HBX
      go_wp2_with fail
      refine HA.out.mono ?_; rintro e w2 ⟨rfl, hk2⟩
      have hb2 := HBR.out.kp hk2 (by simp)
      obtain ⟨b0, b1, b2, b3⟩ := hb2.cells
      obtain ⟨f0, f1, f2, f3⟩ := hb2.frozen
      have hkf : Kp [] w w2 := HKF.out.trans hk2
      rw [show bxV b = .agg #[.int .i64 b.x0, .int .i64 b.y0, .int .i64 b.x1, .int .i64 b.y1] from rfl]
      clear hk2 HA
      go_wp2_with fail
      refine bodyPost_ret (v := bxV b) (by simp [results, Tryz.results27, go_sem, bxV, b0, b1, b2, b3]) rfl ⟨by rw [HBB.out], by (repeat (first | exact Kp.refl _ _ | assumption | refine Kp.drew ?_ | refine Kp.drewN ?_ _ | refine Kp.alloc ?_ _ | (refine Kp.setCell ?_ (by first | (left; simp; done) | (right; simp; try omega)) _) | (refine Kp.trans' ?_ (by assumption) (by simp; try omega))))⟩
end Go.Proofs.YtafkhnlmipddmaaGreat

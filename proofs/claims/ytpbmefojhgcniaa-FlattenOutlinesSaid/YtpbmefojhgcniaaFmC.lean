/- flatten: Advance · flatten: dots, one by one, onto a row of the call's own; contours onto theirs · flatten: the reference's Move. (Written by wip/flatten/genflo.py.) · flatten: the reference's Box. (Written by wip/flatten/genflp.py.). (Merged by wip/tools/mergetpl.py out of FlM, FlN, FlO, FlP.) -/
import Derived.Test.YtpbmefojhgcniaaFmA
import Derived.Deep.DeepCutAuto
import Derived.Test.YtpbmefojhgcniaaFmB
import Derived.Lib.MinMax
import Derived.Test.YtpbmefojhgcniaaPlan
import Derived.BigQuiet
namespace Go.Proofs.Ytpbmefojhgcniaa
open Go.RowKit
set_option linter.unusedVariables false
set_option linter.unusedSimpArgs false
def advS (s : Sc) (u : Int) : Int × Int := if mayS s = true then (if u < -65536 ∨ 65536 < u then (0, 10) else (nearQ (u * s.p * 64) s.u, 0)) else (0, 210)
set_option maxRecDepth 100000 in
set_option maxHeartbeats 4000000 in
theorem adv_no (s : Sc) (u : Int) (hs : mayS s = false) (w : World) : Calls Try.prog 9 #[scV s, .int .i64 u] w fun e w' => e = .returned (.tuple #[.int .i64 0, .int .i64 210]) ∧ Kp [] w w' := by
  have HM := Lib.hid (fun W => mayscale_calls s W)
  rw [hs] at HM
  unfold scV at HM
  clear hs
  unfold scV
  go_enter Try.func9, Try.ntmps9
  go_wp2_with fail
  refine (HM.out _).mono ?_; rintro e w1 ⟨rfl, hk⟩
  go_wp2_with fail
  go_ret2
  exact ⟨rfl, Kp.trans (by (repeat (first | exact Kp.refl _ _ | assumption | refine Kp.drew ?_ | refine Kp.drewN ?_ _ | refine Kp.alloc ?_ _ | (refine Kp.setCell ?_ (by first | (left; simp; done) | (right; simp; try omega)) _) | (refine Kp.trans' ?_ (by assumption) (by simp; try omega))))) hk⟩
set_option maxRecDepth 100000 in
set_option maxHeartbeats 4000000 in
theorem adv_far (s : Sc) (u : Int) (hs : mayS s = true) (hu : u < -65536 ∨ 65536 < u) (w : World) : Calls Try.prog 9 #[scV s, .int .i64 u] w fun e w' => e = .returned (.tuple #[.int .i64 0, .int .i64 10]) ∧ Kp [] w w' := by
  have HM := Lib.hid (fun W => mayscale_calls s W)
  rw [hs] at HM
  unfold scV at HM
  clear hs
  unfold scV
  rcases (show decide (u < -65536) = true ∨ decide (u < -65536) = false ∧ decide (65536 < u) = true by by_cases h : u < -65536 <;> simp [h] <;> omega) with h1 | ⟨h1, h2⟩
  all_goals
    clear hu
    go_enter Try.func9, Try.ntmps9
    go_wp2_with fail
    refine (HM.out _).mono ?_; rintro e w1 ⟨rfl, hk⟩
    go_wp2_with fail
    go_ret2
    exact ⟨rfl, Kp.trans (by (repeat (first | exact Kp.refl _ _ | assumption | refine Kp.drew ?_ | refine Kp.drewN ?_ _ | refine Kp.alloc ?_ _ | (refine Kp.setCell ?_ (by first | (left; simp; done) | (right; simp; try omega)) _) | (refine Kp.trans' ?_ (by assumption) (by simp; try omega))))) hk⟩
set_option maxRecDepth 100000 in
set_option maxHeartbeats 4000000 in
theorem adv_ok (s : Sc) (u : Int) (hs : mayS s = true) (h1 : -65536 ≤ u) (h2 : u ≤ 65536) (w : World) : Calls Try.prog 9 #[scV s, .int .i64 u] w fun e w' => e = .returned (.tuple #[.int .i64 (nearQ (u * s.p * 64) s.u), .int .i64 0]) ∧ Kp [] w w' := by
  have HM := Lib.hid (fun W => mayscale_calls s W)
  rw [hs] at HM
  obtain ⟨⟨a1, a2⟩, ⟨b1, b2⟩, _⟩ := mayS_facts hs
  have hmm := mul_small u s.p (by omega) ⟨b1, b2⟩
  have e1 : IntKind.i64.wrap (u * s.p) = u * s.p := wrI _ (by omega) (by omega)
  have e2 : IntKind.i64.wrap (u * s.p * 64) = u * s.p * 64 := wrI _ (by omega) (by omega)
  have HN := Lib.hid (fun W => nearS_calls (u * s.p * 64) s.u (by omega) (by omega) (by omega) (by omega) W)
  unfold scV at HM
  have d1 : decide (u < -65536) = false := decide_eq_false (by omega)
  have d2 : decide (65536 < u) = false := decide_eq_false (by omega)
  clear hs a1 a2 b1 b2 hmm h1 h2
  unfold scV
  go_enter Try.func9, Try.ntmps9
  go_wp2_with fail
  refine (HM.out _).mono ?_; rintro e w1 ⟨rfl, hk⟩
  have HS : Hid (ScAt w1 w.heap.size s) := hk.heap (heap_alloc_new w _) (by simp)
  have HK : Hid (Kp [] w w1) := Kp.trans (by (repeat (first | exact Kp.refl _ _ | assumption | refine Kp.drew ?_ | refine Kp.drewN ?_ _ | refine Kp.alloc ?_ _ | (refine Kp.setCell ?_ (by first | (left; simp; done) | (right; simp; try omega)) _) | (refine Kp.trans' ?_ (by assumption) (by simp; try omega))))) hk
  clear hk
  obtain ⟨s0, s1, s2, s3⟩ := HS.out.cells
  go_wp2_with fail
  refine (HN.out _).mono ?_; rintro e w2 ⟨rfl, hk⟩
  go_wp2_with fail
  go_ret2
  exact ⟨rfl, HK.out.trans (Kp.trans (by (repeat (first | exact Kp.refl _ _ | assumption | refine Kp.drew ?_ | refine Kp.drewN ?_ _ | refine Kp.alloc ?_ _ | (refine Kp.setCell ?_ (by first | (left; simp; done) | (right; simp; try omega)) _) | (refine Kp.trans' ?_ (by assumption) (by simp; try omega))))) hk)⟩
theorem fadv_calls (s : Sc) (u : Int) (w : World) : Calls Try.prog 9 #[scV s, .int .i64 u] w fun e w' => e = .returned (.tuple #[.int .i64 (advS s u).1, .int .i64 (advS s u).2]) ∧ Kp [] w w' := by
  unfold advS
  cases hs : mayS s with
  | false => exact adv_no s u hs w
  | true =>
    by_cases h : u < -65536 ∨ 65536 < u
    · simpa [h] using adv_far s u hs h w
    · simpa [h] using adv_ok s u hs (by omega) (by omega) w
end Go.Proofs.Ytpbmefojhgcniaa
namespace Go.Proofs.Ytpbmefojhgcniaa
open Go.RowKit
set_option linter.unusedVariables false
set_option linter.unusedSimpArgs false
section
variable {P : Program} {w : World} {ops : Array Oper} {o : Oper} {rest : List Oper} {a : Act} {Q : Exit → Act → World → Prop}
theorem wpList_pushD (hgd : o.guard = none) (s x : Operand) (ho : o.op = .call { callee := .builtin .append, args := #[s, x], argTypes := #[61, 61] })
    (base : Nat) (v : Value) (l : List (Int × Int)) (n : Nat) (hn : l.length = n) (hs : a.eval s = v) (hown : w.ownsRow base 27 2 v n (pairCells l)) (G C : Nat) (p : Int × Int)
    (hx : a.eval x = .slice (some ⟨G, 0, none⟩) 1 C) (hc : DtAt w G p.1 p.2)
    (hl : (n + 1) * 16 ≤ 140737488355328) (hbase : base ≤ w.heap.size)
    (h : ∀ v' w', w'.ownsRow base 27 2 v' (n + 1) (pairCells (l ++ [p])) → (∀ w0, w0.heap.size ≤ base → Kp [] w0 w → Kp [] w0 w') → Kp v.ownBlock.toList w w' → wpList Try.prog ops Q rest (a.put o.dst v') w') : wpList Try.prog ops Q (o :: rest) a w := by
  obtain ⟨i, hi, hz, hsize, hby⟩ := info_parts infoDt
  subst hn
  have hll : (pairCells l).length = l.length * 2 := pairCells_length l
  obtain ⟨c0, c1, _, _⟩ := hc.cells
  refine wpList_append_own w hgd s x _ ho base 27 i (.agg #[.int .i64 0, .int .i64 0]) 2 16 Try.underlying61 hi hz hsize hby rfl (by decide) v l.length (pairCells l) hs hown ⟨G, 0, none⟩ 1 C (pairCells [p]) hx rfl (by
    intro j u hj
    rw [add_lit]
    rcases j with _ | _ | j
    · simp [pairCells] at hj; subst hj; exact c0
    · simp [pairCells] at hj; subst hj; exact c1
    · simp [pairCells] at hj) (oneCell_pairs [p]) (by unfold maxLen; omega) hl hbase ?_
  intro v' w' r1 r2 _
  exact h v' w' (by rw [pairCells_app]; exact r1) (fun w0 h0 hk => Kp.grown hk r2 (fun k hk' => .inr (by have := own_ge hown k hk'; omega))) (Kp.grown (Kp.refl _ _) r2 (fun k hk => .inl (by rw [hk]; simp)))
end
def mv2 (dx dy : Int) (q : Int × Int) : Int × Int := (q.1 + dx, q.2 + dy)
def farM (dx dy : Int) : Bool := decide (min dx dy < -2097152) || decide (2097152 < max dx dy)
def badM (dx dy : Int) (q : Int × Int) : Bool := farM dx dy || (!inD (q.1 + dx) || !inD (q.2 + dy))
def moveM (L : List (List (Int × Int))) (dx dy : Int) : List (List (Int × Int)) × Int := if (flTo L L.length).any (badM dx dy) = true then ([], 10) else (L.map (List.map (mv2 dx dy)), 0)
def moveF (L : List (List (Int × Int))) (dx dy : Int) : List (List (Int × Int)) × Int := if mayF L ≠ 0 then ([], mayF L) else moveM L dx dy
theorem any_at {T : List (Int × Int)} {f : Int × Int → Bool} {n : Nat} (hn : n < T.length) (h : f (T.getD n (0, 0)) = true) : T.any f = true := by
  rw [List.any_eq_true]
  refine ⟨T.getD n (0, 0), ?_, h⟩
  rw [List.getD_eq_getElem?_getD, List.getElem?_eq_getElem hn]; exact List.getElem_mem hn
theorem any_no {T : List (Int × Int)} {f : Int × Int → Bool} (h : ∀ t, t < T.length → f (T.getD t (0, 0)) = false) : T.any f = false := by
  rw [List.any_eq_false]
  intro q hq
  obtain ⟨i, hi, rfl⟩ := List.mem_iff_getElem.1 hq
  have := h i hi
  rw [List.getD_eq_getElem?_getD, List.getElem?_eq_getElem hi] at this
  simpa using this
theorem map_take_d (c : List (Int × Int)) (f : Int × Int → Int × Int) (i : Nat) (h : i < c.length) : (c.take (i + 1)).map f = (c.take i).map f ++ [f (c.getD i (0, 0))] := by
  rw [List.take_succ_eq_append_getElem h, List.map_append, List.getD_eq_getElem?_getD, List.getElem?_eq_getElem h]; rfl
theorem map_take_c {o : List (List (Int × Int))} {j : Nat} (f : List (Int × Int) → List (Int × Int)) (hj : j < o.length) : (o.map f).take (j + 1) = (o.map f).take j ++ [f (o.getD j [])] := by
  rw [List.take_succ_eq_append_getElem (by simpa using hj), List.getElem_map, List.getD_eq_getElem?_getD, List.getElem?_eq_getElem hj]; rfl
theorem farM_no {dx dy : Int} (h : farM dx dy = false) : (-2097152 ≤ dx ∧ dx ≤ 2097152) ∧ -2097152 ≤ dy ∧ dy ≤ 2097152 := by
  unfold farM at h
  simp only [Bool.or_eq_false_iff, decide_eq_false_iff_not] at h
  omega
/-- What a dot's sums are. -/
theorem mv_facts {dx dy : Int} {q : Int × Int} (h : farM dx dy = false) (hq : dotQ q = true) : IntKind.i64.wrap (q.1 + dx) = q.1 + dx ∧ IntKind.i64.wrap (q.2 + dy) = q.2 + dy := by
  obtain ⟨a, b⟩ := farM_no h
  obtain ⟨c, d⟩ := dotQ_iff.1 hq
  exact ⟨wrI _ (by omega) (by omega), wrI _ (by omega) (by omega)⟩
set_option maxRecDepth 100000 in
set_option maxHeartbeats 4000000 in
theorem fmove_no (v : Value) (L : List (List (Int × Int))) (dx dy : Int) (w : World) (hv : IsFl w v L) (hs : smF L) (E : Int) (hm : mayF L = E) (hE : E ≠ 0) : Calls Try.prog 26 #[v, .int .i64 dx, .int .i64 dy] w fun e w' => ∃ v', e = .returned (.tuple #[v', .int .i64 E]) ∧ IsFl w' v' [] ∧ Kp [] w w' := by
  have HMY := Lib.hid (fmay_flat v L w hv hs)
  rw [hm] at HMY
  obtain ⟨pa, ca, rfl⟩ := hv.form
  generalize L.length = N at *
  have hb : (E != 0) = true := by simpa using hE
  clear hv hs hm
  go_enter Try.func26, Try.ntmps26
  go_wp2_with fail
  refine HMY.out.mono ?_; rintro e w1 ⟨rfl, hk1⟩
  clear HMY
  go_wp2_with fail
  go_ret2
  exact ⟨_, rfl, IsFl.nil _ _, by (repeat (first | exact Kp.refl _ _ | assumption | refine Kp.drew ?_ | refine Kp.drewN ?_ _ | refine Kp.alloc ?_ _ | (refine Kp.setCell ?_ (by first | (left; simp; done) | (right; simp; try omega)) _) | (refine Kp.trans' ?_ (by assumption) (by simp; try omega))))⟩
set_option maxRecDepth 100000 in
set_option maxHeartbeats 8000000 in
theorem fmove_ok (v : Value) (L : List (List (Int × Int))) (dx dy : Int) (w : World) (hv : IsFl w v L) (hs : smF L) (hN5 : L.length ≤ 1048576) (hm : mayF L = 0) : Calls Try.prog 26 #[v, .int .i64 dx, .int .i64 dy] w fun e w' => ∃ v', e = .returned (.tuple #[v', .int .i64 (moveM L dx dy).2]) ∧ IsFl w' v' (moveM L dx dy).1 ∧ Kp [] w w' := by
  have HMY := Lib.hid (fmay_flat v L w hv hs)
  rw [hm] at HMY
  have HV := Lib.hid hv
  have HTL := (mayF_facts hm).2
  have HDT : Hid (∀ j, j < L.length → ∀ q ∈ L.getD j [], dotQ q = true) := fun j hj q hq => HTL q (mem_flTo hj q hq)
  have HCT : Hid (∀ j, j ≤ L.length → fcntTo L j ≤ 65536) := fun j hj => Nat.le_trans (fcntTo_le L hj) (mayF_cnt hm)
  have HCM : Hid (∀ j, j ≤ L.length → fcntTo L j ≤ fcnt L) := fun j hj => fcntTo_le L hj
  have HT := Lib.hid (flTo_at L)
  have HLN := Lib.hid (flTo_len L)
  have HR1 : Hid ((flTo L L.length).any (badM dx dy) = true → moveM L dx dy = ([], 10)) := fun h => by unfold moveM; rw [if_pos h]
  have HR0 : Hid ((flTo L L.length).any (badM dx dy) = false → moveM L dx dy = (L.map (List.map (mv2 dx dy)), 0)) := fun h => by unfold moveM; rw [if_neg (by simp [h])]
  have HTK0 : Hid (∀ j, j < L.length → (L.map (List.map (mv2 dx dy))).take (j + 1) = (L.map (List.map (mv2 dx dy))).take j ++ [(L.getD j []).map (mv2 dx dy)]) := fun j hj => map_take_c (List.map (mv2 dx dy)) hj
  have HXL : Hid ((L.map (List.map (mv2 dx dy))).length = L.length) := List.length_map _
  obtain ⟨i0, hi, hzz0, hzz1, hzz2⟩ := info_parts infoDs
  obtain ⟨pa, ca, rfl⟩ := hv.form
  generalize moveM L dx dy = RES at *
  generalize flTo L L.length = T at *
  generalize L.map (List.map (mv2 dx dy)) = X at *
  obtain ⟨N, hN⟩ : ∃ N, L.length = N := ⟨_, rfl⟩
  have HN := Lib.hid hN
  have HCE : Hid (fcntTo L N = fcnt L) := by show _ = _; rw [← hN]; rfl
  rw [hN] at HV HMY HDT HCT HCM HT HTK0 HXL hN5 ⊢
  obtain ⟨F, hF⟩ : ∃ F, farM dx dy = F := ⟨_, rfl⟩
  have HF := Lib.hid hF
  have HFD : Hid (F = (decide (min dx dy < -2097152) || decide (2097152 < max dx dy))) := by show _ = _; rw [← hF]; rfl
  clear hv hs hm HTL hN hF
  go_enter Try.func26, Try.ntmps26
  go_wp2_with fail
  refine HMY.out.mono ?_; rintro e w1 ⟨rfl, hk1⟩
  have HK1 := Lib.hid hk1
  have HV1 := Lib.hid (HV.out.kp0 hk1)
  clear hk1 HMY HV
  go_upto_region 4 with fail
  go_cut [9] (fun s9 wx => s9 = .bool F ∧ w1 = wx)
  case first =>
    cases h1 : decide (min dx dy < -2097152) with
    | true =>
      have HX : Hid (F = true) := by show _ = _; rw [HFD.out, h1]; rfl
      go_wp2_with fail
      go_meet
      exact ⟨by rw [HX.out], rfl⟩
    | false =>
      have HX : Hid (F = decide (2097152 < max dx dy)) := by show _ = _; rw [HFD.out, h1]; rfl
      go_wp2_with fail
      go_meet
      exact ⟨by rw [HX.out], rfl⟩
  obtain ⟨rfl, rfl⟩ := hcut
  go_wp2_with fail
  go_loopw [10, 12, 13, 15, 33] (fun u _ _ _ i wr => ∃ (j : Nat) (l : Value), j ≤ N ∧ i = .int .i64 j ∧ l = u ∧ Hid ((∀ t, t < fcntTo L j → badM dx dy (T.getD t (0, 0)) = false) ∧ WFl wr w1.heap.size l (X.take j) ∧ Kp [] w1 wr)) (fun _ _ _ _ i _ => N - (intOf i).toNat)
  case atStart => exact ⟨0, _, by omega, rfl, rfl, fun t ht => absurd ht (by simp [fcntTo]), WFl.nil _ _, Kp.refl _ _⟩
  case round =>
    obtain ⟨j, l, hj, rfl, rfl, HJ⟩ := hrel
    by_cases hlt : j < N
    · have hjo : j < L.length := by rw [HN.out]; exact hlt
      obtain ⟨g1, o1, c1, p1, cv, e1, _, _, h1, hp⟩ := (HV1.out.kp0 HJ.out.2.2).row hjo
      rw [HN.out] at e1
      cases e1
      have HP : Hid (∀ W, Kp [] wr W → IsPairs W (.slice p1 (L.getD j []).length cv) (L.getD j [])) := fun W hW => hp.kp0 hW
      have HTJ := Lib.hid (HT.out j hlt)
      have HD := Lib.hid (HDT.out j hlt)
      have HCJ : Hid (fcntTo L (j + 1) = fcntTo L j + (L.getD j []).length ∧ fcntTo L (j + 1) ≤ fcnt L ∧ fcntTo L (j + 1) ≤ 65536) := ⟨rfl, HCM.out (j + 1) (by omega), HCT.out (j + 1) (by omega)⟩
      have HTK := Lib.hid (HTK0.out j hlt)
      have HTL : Hid ((X.take j).length = j) := by show _ = _; rw [List.length_take, HXL.out]; omega
      have HNB := Lib.hid HJ.out.1
      obtain ⟨vs, HW⟩ : ∃ vs, Hid (WFs wr w1.heap.size l vs (X.take j)) := by obtain ⟨vs, h⟩ := HJ.out.2.1; exact ⟨vs, h⟩
      have hr := HW.out.1
      rw [HTL.out] at hr
      obtain ⟨pl, cl, hl⟩ := slice_own hr
      subst hl
      have HKW : Hid (Kp [] w1 wr) := HJ.out.2.2
      generalize L.getD j [] = c at *
      clear hp hr hjo HJ
      obtain ⟨K, hcl⟩ : ∃ K, c.length = K := ⟨_, rfl⟩
      have HCL := Lib.hid hcl
      rw [hcl] at h1 HP HTJ HCJ
      have hK65 : K ≤ 65536 := by have := HCJ.out; omega
      clear hcl
      obtain ⟨w5, hw5⟩ : ∃ w5, w5 = wr := ⟨_, rfl⟩
      subst hw5
      have hszw : w1.heap.size ≤ w5.heap.size := HKW.out.size
      go_wp2_with fail
      go_loopw [13, 15, 39] (fun u _ i wr => ∃ (m : Nat) (l2 : Value), m ≤ K ∧ i = .int .i64 m ∧ l2 = u ∧ Hid ((∀ t, t < fcntTo L j + m → badM dx dy (T.getD t (0, 0)) = false) ∧ wr.ownsRow w5.heap.size 27 2 l2 m (pairCells ((c.take m).map (mv2 dx dy))) ∧ Kp [] w5 wr)) (fun _ _ i _ => K - (intOf i).toNat)
      case atStart => exact ⟨0, _, by omega, rfl, rfl, fun t ht => HNB.out t (by omega), World.ownsRow_nil _ _ _ _, Kp.refl _ _⟩
      case round =>
        obtain ⟨m, l2, hm, rfl, rfl, HI⟩ := hrel
        by_cases hml : m < K
        · obtain ⟨g3, o3, c3, e3, _, _, x1, y1⟩ := (HP.out _ HI.out.2.2).row (i := m) (by rw [HCL.out]; exact hml)
          rw [HCL.out] at e3
          cases e3
          have htm := HTJ.out m hml
          have htl : fcntTo L j + m < T.length := by rw [HLN.out]; have := HCJ.out; omega
          have HBAD : Hid (badM dx dy (c.getD m (0, 0)) = true → RES = ([], 10)) := fun h => HR1.out (any_at htl (by rw [htm]; exact h))
          have HSU : Hid (badM dx dy (c.getD m (0, 0)) = false → ∀ t, t < fcntTo L j + (m + 1) → badM dx dy (T.getD t (0, 0)) = false) := fun h t ht => by
            by_cases e : t < fcntTo L j + m
            · exact HI.out.1 t e
            · obtain rfl : t = fcntTo L j + m := by omega
              rw [htm]; exact h
          have hqd : dotQ (c.getD m (0, 0)) = true := getD_dot HD.out m
          have HMT := Lib.hid (map_take_d c (mv2 dx dy) m (by rw [HCL.out]; exact hml))
          have hr2 := HI.out.2.1
          obtain ⟨p2, c2, e2⟩ := slice_own hr2
          subst e2
          have HR2 := Lib.hid hr2
          have HK5 : Hid (Kp [] w5 wr) := HI.out.2.2
          have hsq : w5.heap.size ≤ wr.heap.size := HK5.out.size
          have HML : Hid (((c.take m).map (mv2 dx dy)).length = m) := by show _ = _; rw [List.length_map, List.length_take, HCL.out]; omega
          generalize c.getD m (0, 0) = q at *
          generalize (c.take m).map (mv2 dx dy) = A at *
          obtain ⟨q1, q2⟩ := q
          dsimp only at x1 y1
          clear hr2 HI htm htl
          have HKF : Hid (Kp [] w wr) := HK1.out.trans (HKW.out.trans HK5.out)
          cases F with
          | true =>
            have HB : Hid (RES = ([], 10)) := HBAD.out (by unfold badM; rw [HF.out]; rfl)
            clear HBAD HSU hqd
            go_wp2_with fail
            go_ret2
            rw [HB.out]
            exact ⟨_, rfl, IsFl.nil _ _, HKF.out.trans (by (repeat (first | exact Kp.refl _ _ | assumption | refine Kp.drew ?_ | refine Kp.drewN ?_ _ | refine Kp.alloc ?_ _ | (refine Kp.setCell ?_ (by first | (left; simp; done) | (right; simp; try omega)) _) | (refine Kp.trans' ?_ (by assumption) (by simp; try omega)))))⟩
          | false =>
            obtain ⟨f1, f2⟩ := mv_facts HF.out hqd
            dsimp only at f1 f2
            have HQ1 := Lib.hid (fun W => fwithin_calls (q1 + dx) W)
            have HQ2 := Lib.hid (fun W => fwithin_calls (q2 + dy) W)
            cases hq1 : inD (q1 + dx) with
            | false =>
              have HB : Hid (RES = ([], 10)) := HBAD.out (by unfold badM; dsimp only; rw [HF.out, hq1]; rfl)
              rw [hq1] at HQ1
              clear HBAD HSU hqd hq1
              go_wp2_with fail
              refine (HQ1.out _).mono ?_; rintro e w2 ⟨rfl, hk2⟩
              go_wp2_with fail
              go_ret2
              rw [HB.out]
              exact ⟨_, rfl, IsFl.nil _ _, HKF.out.trans (Kp.trans (by (repeat (first | exact Kp.refl _ _ | assumption | refine Kp.drew ?_ | refine Kp.drewN ?_ _ | refine Kp.alloc ?_ _ | (refine Kp.setCell ?_ (by first | (left; simp; done) | (right; simp; try omega)) _) | (refine Kp.trans' ?_ (by assumption) (by simp; try omega))))) hk2)⟩
            | true =>
              rw [hq1] at HQ1
              cases hq2 : inD (q2 + dy) with
              | false =>
                have HB : Hid (RES = ([], 10)) := HBAD.out (by unfold badM; dsimp only; rw [HF.out, hq1, hq2]; rfl)
                rw [hq2] at HQ2
                clear HBAD HSU hqd hq1 hq2
                go_wp2_with fail
                refine (HQ1.out _).mono ?_; rintro e w2 ⟨rfl, hk2⟩
                have HK2 : Hid (Kp [] wr w2) := Kp.trans (by (repeat (first | exact Kp.refl _ _ | assumption | refine Kp.drew ?_ | refine Kp.drewN ?_ _ | refine Kp.alloc ?_ _ | (refine Kp.setCell ?_ (by first | (left; simp; done) | (right; simp; try omega)) _) | (refine Kp.trans' ?_ (by assumption) (by simp; try omega))))) hk2
                have HB2 : Hid (DtAt w2 wr.heap.size q1 q2) := hk2.heap (heap_alloc_new wr _) (by simp)
                clear hk2
                obtain ⟨b0, b1, _, _⟩ := HB2.out.cells
                go_wp2_with fail
                refine (HQ2.out _).mono ?_; rintro e w3 ⟨rfl, hk3⟩
                go_wp2_with fail
                go_ret2
                rw [HB.out]
                exact ⟨_, rfl, IsFl.nil _ _, HKF.out.trans (HK2.out.trans (Kp.trans (by (repeat (first | exact Kp.refl _ _ | assumption | refine Kp.drew ?_ | refine Kp.drewN ?_ _ | refine Kp.alloc ?_ _ | (refine Kp.setCell ?_ (by first | (left; simp; done) | (right; simp; try omega)) _) | (refine Kp.trans' ?_ (by assumption) (by simp; try omega))))) hk3))⟩
              | true =>
                rw [hq2] at HQ2
                have HSN := Lib.hid (HSU.out (by unfold badM; dsimp only; rw [HF.out, hq1, hq2]; rfl))
                clear HBAD HSU hqd hq1 hq2
                go_wp2_with fail
                refine (HQ1.out _).mono ?_; rintro e w2 ⟨rfl, hk2⟩
                have HK2 : Hid (Kp [] wr w2) := Kp.trans (by (repeat (first | exact Kp.refl _ _ | assumption | refine Kp.drew ?_ | refine Kp.drewN ?_ _ | refine Kp.alloc ?_ _ | (refine Kp.setCell ?_ (by first | (left; simp; done) | (right; simp; try omega)) _) | (refine Kp.trans' ?_ (by assumption) (by simp; try omega))))) hk2
                have HB2 : Hid (DtAt w2 wr.heap.size q1 q2) := hk2.heap (heap_alloc_new wr _) (by simp)
                clear hk2
                obtain ⟨b0, b1, _, _⟩ := HB2.out.cells
                go_wp2_with fail
                refine (HQ2.out _).mono ?_; rintro e w3 ⟨rfl, hk3⟩
                have HK3 : Hid (Kp [] wr w3) := HK2.out.trans (Kp.trans (by (repeat (first | exact Kp.refl _ _ | assumption | refine Kp.drew ?_ | refine Kp.drewN ?_ _ | refine Kp.alloc ?_ _ | (refine Kp.setCell ?_ (by first | (left; simp; done) | (right; simp; try omega)) _) | (refine Kp.trans' ?_ (by assumption) (by simp; try omega))))) hk3)
                have HB3 : Hid (DtAt w3 wr.heap.size q1 q2) := HB2.out.kp0 (Kp.trans (by (repeat (first | exact Kp.refl _ _ | assumption | refine Kp.drew ?_ | refine Kp.drewN ?_ _ | refine Kp.alloc ?_ _ | (refine Kp.setCell ?_ (by first | (left; simp; done) | (right; simp; try omega)) _) | (refine Kp.trans' ?_ (by assumption) (by simp; try omega))))) hk3)
                have hsr : wr.heap.size ≤ w3.heap.size := HK3.out.size
                clear hk3 b0 b1 HK2 HB2 x1 y1
                obtain ⟨b0, b1, _, _⟩ := HB3.out.cells
                go_wp2_with (at_builtin; refine holdT ?hh)
                case hh =>
                intro _
                refine wpList_pushD rfl _ _ rfl w5.heap.size _ A m HML.out (by rfl) (Kp.row (S := []) (HK3.out.trans (by (repeat (first | exact Kp.refl _ _ | assumption | refine Kp.drew ?_ | refine Kp.drewN ?_ _ | refine Kp.alloc ?_ _ | (refine Kp.setCell ?_ (by first | (left; simp; done) | (right; simp; try omega)) _) | (refine Kp.trans' ?_ (by assumption) (by simp; try omega)))))) HR2.out (by simp)) _ 1 (q1 + dx, q2 + dy) rfl (heap_alloc_new _ _) (by omega) (by simp; omega) ?_
                intro v6 w6 hown6 hgr6 hkb6
                obtain ⟨p6, q6, rfl⟩ := slice_own hown6
                have HF6 : Hid ((∀ t, t < fcntTo L j + (m + 1) → badM dx dy (T.getD t (0, 0)) = false) ∧ w6.ownsRow w5.heap.size 27 2 (.slice p6 (m + 1) q6) (m + 1) (pairCells ((c.take (m + 1)).map (mv2 dx dy))) ∧ Kp [] w5 w6) := by
                  show _ ∧ _ ∧ _
                  rw [HMT.out]
                  exact ⟨HSN.out, hown6, hgr6 w5 (Nat.le_refl _) (HK5.out.trans (HK3.out.trans (by (repeat (first | exact Kp.refl _ _ | assumption | refine Kp.drew ?_ | refine Kp.drewN ?_ _ | refine Kp.alloc ?_ _ | (refine Kp.setCell ?_ (by first | (left; simp; done) | (right; simp; try omega)) _) | (refine Kp.trans' ?_ (by assumption) (by simp; try omega)))))))⟩
                clear hown6 hgr6 hkb6 HR2 HK3 HSN b0 b1 f1 f2
                go_wp2_with fail
                go_roundw
                case rel => first | exact ⟨m + 1, _, by omega, int_eq' (by omega), rfl, HF6⟩ | ((repeat apply Exists.intro); exact ⟨⟨m + 1, _, by omega, int_eq' (by omega), rfl, HF6⟩, rfl⟩)
                case measure => simp [intOf] <;> omega
        · obtain rfl : m = K := by omega
          have HI1 : Hid (IsPairs wr l2 (c.map (mv2 dx dy))) := by
            have h := HI.out.2.1
            rw [List.take_of_length_le (by rw [HCL.out]; exact Nat.le_refl _)] at h
            show Reads 2 wr l2 (c.map (mv2 dx dy)).length _
            rw [List.length_map, HCL.out]
            exact Reads.owned h
          have HB1 : Hid (∀ b, blockOf l2 = some b → w5.heap.size ≤ b ∧ b < wr.heap.size) := fun b hb => HI.out.2.1.lt b (blockOf_own hb)
          have HNX : Hid (∀ t, t < fcntTo L (j + 1) → badM dx dy (T.getD t (0, 0)) = false) := fun t ht => HI.out.1 t (by have := HCJ.out.1; omega)
          have HK5 : Hid (Kp [] w5 wr) := HI.out.2.2
          obtain ⟨pv, qv, hv1⟩ := slice_own HI.out.2.1
          subst hv1
          have HW1 := Lib.hid (HW.out.kp0 HK5.out)
          have HR1' : Hid (wr.ownsRow w1.heap.size 61 1 (.slice pl j cl) j vs) := by have h := HW1.out.1; rw [HTL.out] at h; exact h
          have HOB : Hid (∀ b, (Value.slice pl j cl).ownBlock = some b → b < w5.heap.size) := fun b hb => by have h := HW.out.1; exact (h.lt b hb).2
          have hsz1 : w5.heap.size ≤ wr.heap.size := HK5.out.size
          have hvl : vs.length = j := by have := HR1'.out.1; omega
          clear HI HW
          go_wp2_with (at_builtin; refine wpList_append_lies _ rfl _ _ 39 rfl w1.heap.size 61 i0 (.slice none 0 0) 1 24 Try.underlying39 hi hzz0 hzz1 hzz2 rfl (by decide) (.slice pl j cl) j vs rfl ?hown ⟨wr.heap.size, 0, none⟩ 1 1 [.slice pv m qv] rfl rfl ?hnews ?hone (by decide) ?hm ?hb1 ?hb2 (wr.heap.size + 1) ?hH ?hk)
          case hown => exact Kp.row (S := []) (by (repeat (first | exact Kp.refl _ _ | assumption | refine Kp.drew ?_ | refine Kp.drewN ?_ _ | refine Kp.alloc ?_ _ | (refine Kp.setCell ?_ (by first | (left; simp; done) | (right; simp; try omega)) _) | (refine Kp.trans' ?_ (by assumption) (by simp; try omega))))) HR1'.out (by simp)
          case hnews => exact World.news_of_block (heap_alloc_new wr _)
          case hone => intro u hu; simp at hu; subst hu; rfl
          case hm => unfold maxLen; omega
          case hb1 => omega
          case hb2 => simp; omega
          case hH => simp
          case hk =>
          intro g4 c4 w4 hown hgr hat hlt4
          have hka : Kp [] wr (wr.alloc (.cells #[.slice pv m qv] 61)) := by (repeat (first | exact Kp.refl _ _ | assumption | refine Kp.drew ?_ | refine Kp.drewN ?_ _ | refine Kp.alloc ?_ _ | (refine Kp.setCell ?_ (by first | (left; simp; done) | (right; simp; try omega)) _) | (refine Kp.trans' ?_ (by assumption) (by simp; try omega))))
          have HW2 := HW1.out.kp0 hka
          have hpush := WFs.push (H := wr.heap.size + 1) HW2 ((HI1.out : IsPairs wr (.slice pv m qv) (c.map (mv2 dx dy))).kp0 hka) (fun b hb => by
            have h9 := HB1.out b hb
            exact ⟨fun e => by have := HOB.out b e; omega, by simp; omega, by omega⟩) (by rw [HTL.out]; exact hown) hgr hat (by simp)
          rw [HTL.out, ← HTK.out] at hpush
          have HPU : Hid ((∀ t, t < fcntTo L (j + 1) → badM dx dy (T.getD t (0, 0)) = false) ∧ WFl w4 w1.heap.size (.slice (some ⟨g4, 0, none⟩) (j + 1) c4) (X.take (j + 1)) ∧ Kp [] w1 w4) := ⟨HNX.out, ⟨_, hpush⟩, by
            have hkk : Kp [] w1 w5 := HKW.out
            exact Kp.grown (hkk.trans (HK5.out.trans hka)) hgr (fun k hk => .inr (own_ge HR1'.out k hk))⟩
          clear hown hgr hat hka HW2 hpush hlt4
          go_wp2_with fail
          go_roundw
          case rel => first | exact ⟨j + 1, _, by omega, int_eq' (by omega), rfl, HPU⟩ | ((repeat apply Exists.intro); exact ⟨⟨j + 1, _, by omega, int_eq' (by omega), rfl, HPU⟩, rfl⟩)
          case measure => simp [intOf] <;> omega
    · obtain rfl : j = N := by omega
      have HE := Lib.hid HJ.out
      rw [List.take_of_length_le (by rw [HXL.out]; exact Nat.le_refl _)] at HE
      have HW : Hid (IsFl wr l X) := HE.out.2.1.out
      have HK : Hid (Kp [] w wr) := HK1.out.trans HE.out.2.2
      have HZ : Hid (RES = (X, 0)) := HR0.out (any_no (fun t ht => HE.out.1 t (by rw [HCE.out, ← HLN.out]; exact ht)))
      clear HJ HE
      go_wp2_with fail
      go_ret2
      rw [HZ.out]
      exact ⟨_, rfl, HW.out, HK.out⟩
theorem fmove_calls (v : Value) (L : List (List (Int × Int))) (dx dy : Int) (w : World) (hv : IsFl w v L) (hs : smF L) (hN5 : L.length ≤ 1048576) : Calls Try.prog 26 #[v, .int .i64 dx, .int .i64 dy] w fun e w' => ∃ v', e = .returned (.tuple #[v', .int .i64 (moveF L dx dy).2]) ∧ IsFl w' v' (moveF L dx dy).1 ∧ Kp [] w w' := by
  by_cases hm : mayF L = 0
  · have he : moveF L dx dy = moveM L dx dy := by unfold moveF; rw [if_neg (by simp [hm])]
    rw [he]; exact fmove_ok v L dx dy w hv hs hN5 hm
  · have he : moveF L dx dy = ([], mayF L) := by unfold moveF; rw [if_pos hm]
    rw [he]; exact fmove_no v L dx dy w hv hs _ rfl hm
end Go.Proofs.Ytpbmefojhgcniaa
namespace Go.Proofs.Ytpbmefojhgcniaa
open Go.RowKit
set_option linter.unusedVariables false
set_option linter.unusedSimpArgs false
theorem farM_yes {dx dy : Int} (h : farM dx dy = true) : decide (dx < -2097152) = true ∨ (decide (dx < -2097152) = false ∧ decide (2097152 < dx) = true) ∨ (decide (dx < -2097152) = false ∧ decide (2097152 < dx) = false ∧ decide (dy < -2097152) = true) ∨ (decide (dx < -2097152) = false ∧ decide (2097152 < dx) = false ∧ decide (dy < -2097152) = false ∧ decide (2097152 < dy) = true) := by
  unfold farM at h
  simp only [Bool.or_eq_true, decide_eq_true_eq] at h
  simp only [decide_eq_true_eq, decide_eq_false_iff_not]
  omega
set_option maxRecDepth 100000 in
set_option maxHeartbeats 8000000 in
theorem rfmove_calls (v : Value) (L : List (List (Int × Int))) (dx dy : Int) (w : World) (hv : IsFl w v L) (hN5 : L.length ≤ 1048576) (hm : mayF L = 0) : Calls Try.prog 27 #[v, .int .i64 dx, .int .i64 dy] w fun e w' => ∃ v', e = .returned (.tuple #[v', .int .i64 (moveM L dx dy).2]) ∧ IsFl w' v' (moveM L dx dy).1 ∧ Kp [] w w' := by
  have HV := Lib.hid hv
  have HTL := (mayF_facts hm).2
  have HDT : Hid (∀ j, j < L.length → ∀ q ∈ L.getD j [], dotQ q = true) := fun j hj q hq => HTL q (mem_flTo hj q hq)
  have HCT : Hid (∀ j, j ≤ L.length → fcntTo L j ≤ 65536) := fun j hj => Nat.le_trans (fcntTo_le L hj) (mayF_cnt hm)
  have HCM : Hid (∀ j, j ≤ L.length → fcntTo L j ≤ fcnt L) := fun j hj => fcntTo_le L hj
  have HT := Lib.hid (flTo_at L)
  have HLN := Lib.hid (flTo_len L)
  have HR1 : Hid ((flTo L L.length).any (badM dx dy) = true → moveM L dx dy = ([], 10)) := fun h => by unfold moveM; rw [if_pos h]
  have HR0 : Hid ((flTo L L.length).any (badM dx dy) = false → moveM L dx dy = (L.map (List.map (mv2 dx dy)), 0)) := fun h => by unfold moveM; rw [if_neg (by simp [h])]
  have HTK0 : Hid (∀ j, j < L.length → (L.map (List.map (mv2 dx dy))).take (j + 1) = (L.map (List.map (mv2 dx dy))).take j ++ [(L.getD j []).map (mv2 dx dy)]) := fun j hj => map_take_c (List.map (mv2 dx dy)) hj
  have HXL : Hid ((L.map (List.map (mv2 dx dy))).length = L.length) := List.length_map _
  obtain ⟨i0, hi, hzz0, hzz1, hzz2⟩ := info_parts infoDs
  obtain ⟨pa, ca, rfl⟩ := hv.form
  generalize moveM L dx dy = RES at *
  generalize flTo L L.length = T at *
  generalize L.map (List.map (mv2 dx dy)) = X at *
  obtain ⟨N, hN⟩ : ∃ N, L.length = N := ⟨_, rfl⟩
  have HN := Lib.hid hN
  have HCE : Hid (fcntTo L N = fcnt L) := by show _ = _; rw [← hN]; rfl
  rw [hN] at HV HDT HCT HCM HT HTK0 HXL hN5 ⊢
  clear hv hm HTL hN
  go_enter Try.func27, Try.ntmps27
  go_wp2_with fail
  go_loopw [8, 9, 10, 11] (fun u i _ _ wr => ∃ (j : Nat) (l : Value), j ≤ N ∧ i = .int .i64 j ∧ l = u ∧ Hid ((∀ t, t < fcntTo L j → badM dx dy (T.getD t (0, 0)) = false) ∧ WFl wr w.heap.size l (X.take j) ∧ Kp [] w wr)) (fun _ i _ _ _ => N - (intOf i).toNat)
  case atStart => exact ⟨0, _, by omega, rfl, rfl, fun t ht => absurd ht (by simp [fcntTo]), WFl.nil _ _, Kp.refl _ _⟩
  case round =>
    obtain ⟨j, l, hj, rfl, rfl, HJ⟩ := hrel
    by_cases hlt : j < N
    · have hjo : j < L.length := by rw [HN.out]; exact hlt
      obtain ⟨g1, o1, c1, p1, cv, e1, _, _, h1, hp⟩ := (HV.out.kp0 HJ.out.2.2).row hjo
      rw [HN.out] at e1
      cases e1
      have HP : Hid (∀ W, Kp [] wr W → IsPairs W (.slice p1 (L.getD j []).length cv) (L.getD j [])) := fun W hW => hp.kp0 hW
      have HTJ := Lib.hid (HT.out j hlt)
      have HD := Lib.hid (HDT.out j hlt)
      have HCJ : Hid (fcntTo L (j + 1) = fcntTo L j + (L.getD j []).length ∧ fcntTo L (j + 1) ≤ fcnt L ∧ fcntTo L (j + 1) ≤ 65536) := ⟨rfl, HCM.out (j + 1) (by omega), HCT.out (j + 1) (by omega)⟩
      have HTK := Lib.hid (HTK0.out j hlt)
      have HTL : Hid ((X.take j).length = j) := by show _ = _; rw [List.length_take, HXL.out]; omega
      have HNB := Lib.hid HJ.out.1
      obtain ⟨vs, HW⟩ : ∃ vs, Hid (WFs wr w.heap.size l vs (X.take j)) := by obtain ⟨vs, h⟩ := HJ.out.2.1; exact ⟨vs, h⟩
      have hr := HW.out.1
      rw [HTL.out] at hr
      obtain ⟨pl, cl, hl⟩ := slice_own hr
      subst hl
      have HKW : Hid (Kp [] w wr) := HJ.out.2.2
      generalize L.getD j [] = c at *
      clear hp hr hjo HJ
      obtain ⟨K, hcl⟩ : ∃ K, c.length = K := ⟨_, rfl⟩
      have HCL := Lib.hid hcl
      rw [hcl] at h1 HP HTJ HCJ
      have hK65 : K ≤ 65536 := by have := HCJ.out; omega
      have H1 := Lib.hid h1
      clear hcl
      obtain ⟨w5, hw5⟩ : ∃ w5, w5 = wr := ⟨_, rfl⟩
      subst hw5
      have hszw : w.heap.size ≤ w5.heap.size := HKW.out.size
      go_wp2_with fail
      go_loopw [10, 11] (fun u i wr => ∃ (m : Nat) (l2 : Value), m ≤ K ∧ i = .int .i64 m ∧ l2 = u ∧ Hid ((∀ t, t < fcntTo L j + m → badM dx dy (T.getD t (0, 0)) = false) ∧ wr.ownsRow w5.heap.size 27 2 l2 m (pairCells ((c.take m).map (mv2 dx dy))) ∧ Kp [] w5 wr)) (fun _ i _ => K - (intOf i).toNat)
      case atStart => exact ⟨0, _, by omega, rfl, rfl, fun t ht => HNB.out t (by omega), World.ownsRow_nil _ _ _ _, Kp.refl _ _⟩
      case round =>
        obtain ⟨m, l2, hm, rfl, rfl, HI⟩ := hrel
        have h1r := HI.out.2.2.cell H1.out (by simp)
        by_cases hml : m < K
        · obtain ⟨g3, o3, c3, e3, _, _, x1, y1⟩ := (HP.out _ HI.out.2.2).row (i := m) (by rw [HCL.out]; exact hml)
          rw [HCL.out] at e3
          cases e3
          have htm := HTJ.out m hml
          have htl : fcntTo L j + m < T.length := by rw [HLN.out]; have := HCJ.out; omega
          have HBAD : Hid (badM dx dy (c.getD m (0, 0)) = true → RES = ([], 10)) := fun h => HR1.out (any_at htl (by rw [htm]; exact h))
          have HSU : Hid (badM dx dy (c.getD m (0, 0)) = false → ∀ t, t < fcntTo L j + (m + 1) → badM dx dy (T.getD t (0, 0)) = false) := fun h t ht => by
            by_cases e : t < fcntTo L j + m
            · exact HI.out.1 t e
            · obtain rfl : t = fcntTo L j + m := by omega
              rw [htm]; exact h
          have hqd : dotQ (c.getD m (0, 0)) = true := getD_dot HD.out m
          have HMT := Lib.hid (map_take_d c (mv2 dx dy) m (by rw [HCL.out]; exact hml))
          have hr2 := HI.out.2.1
          obtain ⟨p2, c2, e2⟩ := slice_own hr2
          subst e2
          have HR2 := Lib.hid hr2
          have HK5 : Hid (Kp [] w5 wr) := HI.out.2.2
          have hsq : w5.heap.size ≤ wr.heap.size := HK5.out.size
          have HML : Hid (((c.take m).map (mv2 dx dy)).length = m) := by show _ = _; rw [List.length_map, List.length_take, HCL.out]; omega
          generalize c.getD m (0, 0) = q at *
          generalize (c.take m).map (mv2 dx dy) = A at *
          obtain ⟨q1, q2⟩ := q
          dsimp only at x1 y1
          clear hr2 HI htm htl
          have HKF : Hid (Kp [] w wr) := HKW.out.trans HK5.out
          cases hF : farM dx dy with
          | true =>
            have HB : Hid (RES = ([], 10)) := HBAD.out (by unfold badM; rw [hF]; rfl)
            have hfy := farM_yes hF
            clear HBAD HSU hqd hF
            rcases hfy with d1 | ⟨d1, d2⟩ | ⟨d1, d2, d3⟩ | ⟨d1, d2, d3, d4⟩
            all_goals
              go_wp2_with fail
              go_ret2
              rw [HB.out]
              exact ⟨_, rfl, IsFl.nil _ _, HKF.out.trans (by (repeat (first | exact Kp.refl _ _ | assumption | refine Kp.drew ?_ | refine Kp.drewN ?_ _ | refine Kp.alloc ?_ _ | (refine Kp.setCell ?_ (by first | (left; simp; done) | (right; simp; try omega)) _) | (refine Kp.trans' ?_ (by assumption) (by simp; try omega)))))⟩
          | false =>
            obtain ⟨f1, f2⟩ := mv_facts hF hqd
            dsimp only at f1 f2
            obtain ⟨⟨a1, a2⟩, a3, a4⟩ := farM_no hF
            have d1 : decide (dx < -2097152) = false := decide_eq_false (by omega)
            have d2 : decide (2097152 < dx) = false := decide_eq_false (by omega)
            have d3 : decide (dy < -2097152) = false := decide_eq_false (by omega)
            have d4 : decide (2097152 < dy) = false := decide_eq_false (by omega)
            have HQ1 := Lib.hid (fun W => rfits_calls (q1 + dx) W)
            have HQ2 := Lib.hid (fun W => rfits_calls (q2 + dy) W)
            clear a1 a2 a3 a4
            cases hq1 : inD (q1 + dx) with
            | false =>
              have HB : Hid (RES = ([], 10)) := HBAD.out (by unfold badM; dsimp only; rw [hF, hq1]; rfl)
              rw [hq1] at HQ1
              clear HBAD HSU hqd hq1 hF
              go_wp2_with fail
              refine (HQ1.out _).mono ?_; rintro e w2 ⟨rfl, hk2⟩
              go_wp2_with fail
              go_ret2
              rw [HB.out]
              exact ⟨_, rfl, IsFl.nil _ _, HKF.out.trans (Kp.trans (by (repeat (first | exact Kp.refl _ _ | assumption | refine Kp.drew ?_ | refine Kp.drewN ?_ _ | refine Kp.alloc ?_ _ | (refine Kp.setCell ?_ (by first | (left; simp; done) | (right; simp; try omega)) _) | (refine Kp.trans' ?_ (by assumption) (by simp; try omega))))) hk2)⟩
            | true =>
              rw [hq1] at HQ1
              cases hq2 : inD (q2 + dy) with
              | false =>
                have HB : Hid (RES = ([], 10)) := HBAD.out (by unfold badM; dsimp only; rw [hF, hq1, hq2]; rfl)
                rw [hq2] at HQ2
                clear HBAD HSU hqd hq1 hq2 hF
                go_wp2_with fail
                refine (HQ1.out _).mono ?_; rintro e w2 ⟨rfl, hk2⟩
                have HK2 : Hid (Kp [] wr w2) := Kp.trans (by (repeat (first | exact Kp.refl _ _ | assumption | refine Kp.drew ?_ | refine Kp.drewN ?_ _ | refine Kp.alloc ?_ _ | (refine Kp.setCell ?_ (by first | (left; simp; done) | (right; simp; try omega)) _) | (refine Kp.trans' ?_ (by assumption) (by simp; try omega))))) hk2
                replace h1r := HK2.out.cell h1r (by simp)
                replace y1 := HK2.out.cell y1 (by simp)
                clear hk2 x1
                go_wp2_with fail
                refine (HQ2.out _).mono ?_; rintro e w3 ⟨rfl, hk3⟩
                go_wp2_with fail
                go_ret2
                rw [HB.out]
                exact ⟨_, rfl, IsFl.nil _ _, HKF.out.trans (HK2.out.trans (Kp.trans (by (repeat (first | exact Kp.refl _ _ | assumption | refine Kp.drew ?_ | refine Kp.drewN ?_ _ | refine Kp.alloc ?_ _ | (refine Kp.setCell ?_ (by first | (left; simp; done) | (right; simp; try omega)) _) | (refine Kp.trans' ?_ (by assumption) (by simp; try omega))))) hk3))⟩
              | true =>
                rw [hq2] at HQ2
                have HSN := Lib.hid (HSU.out (by unfold badM; dsimp only; rw [hF, hq1, hq2]; rfl))
                clear HBAD HSU hqd hq1 hq2 hF
                go_wp2_with fail
                refine (HQ1.out _).mono ?_; rintro e w2 ⟨rfl, hk2⟩
                have HK2 : Hid (Kp [] wr w2) := Kp.trans (by (repeat (first | exact Kp.refl _ _ | assumption | refine Kp.drew ?_ | refine Kp.drewN ?_ _ | refine Kp.alloc ?_ _ | (refine Kp.setCell ?_ (by first | (left; simp; done) | (right; simp; try omega)) _) | (refine Kp.trans' ?_ (by assumption) (by simp; try omega))))) hk2
                replace h1r := HK2.out.cell h1r (by simp)
                replace x1 := HK2.out.cell x1 (by simp)
                replace y1 := HK2.out.cell y1 (by simp)
                clear hk2
                go_wp2_with fail
                refine (HQ2.out _).mono ?_; rintro e w3 ⟨rfl, hk3⟩
                have hk23 : Kp [] w2 w3 := Kp.trans (by (repeat (first | exact Kp.refl _ _ | assumption | refine Kp.drew ?_ | refine Kp.drewN ?_ _ | refine Kp.alloc ?_ _ | (refine Kp.setCell ?_ (by first | (left; simp; done) | (right; simp; try omega)) _) | (refine Kp.trans' ?_ (by assumption) (by simp; try omega))))) hk3
                have HK3 : Hid (Kp [] wr w3) := HK2.out.trans hk23
                have u0 := fun n : KW w3 => KW.cell (hk23.cell h1r (by simp)) n
                have u1 := fun n : KW w3 => KW.cell (hk23.cell x1 (by simp)) n
                have u2 := fun n : KW w3 => KW.cell (hk23.cell y1 (by simp)) n
                have hsr : wr.heap.size ≤ w3.heap.size := HK3.out.size
                clear hk3 hk23 HK2 x1 y1 h1r d1 d2 d3 d4
                go_wp2_with fail
                refine wp_region_plan [0] [1, 2, 3, 4, 5, 6, 7, 8, 9, 10, 11, 12, 13, 14, 15, 16, 17, 18, 19, 20, 21] [22, 23, 24] (by kernel_rfl) (by kernel_rfl) ?_
                simp only [pickAt_nil, pickAt_cons, List.getElem?_cons_zero, List.getElem?_cons_succ, Option.toList_some, List.cons_append, List.nil_append]
                repeat (go_big_quiet_step (fail))
                refine wpQuiet_nil ?_
                repeat (go_big_quiet_step (fail))
                refine wpQuiet_nil ?_
                intro w4 hw'
                obtain ⟨⟨_, hkw4⟩, rfl⟩ := hw'
                try dsimp only
                have HK4 : Hid (Kp [] wr w4) := HK3.out.trans hkw4
                have hsr4 : wr.heap.size ≤ w4.heap.size := HK4.out.size
                clear u0 u1 u2 hkw4 HK3 hsr
                go_wp2_with (at_builtin; refine holdT ?hh)
                case hh =>
                intro _
                refine wpList_pushD rfl _ _ rfl w5.heap.size _ A m HML.out (by rfl) (Kp.row (S := []) (HK4.out.trans (by (repeat (first | exact Kp.refl _ _ | assumption | refine Kp.drew ?_ | refine Kp.drewN ?_ _ | refine Kp.alloc ?_ _ | (refine Kp.setCell ?_ (by first | (left; simp; done) | (right; simp; try omega)) _) | (refine Kp.trans' ?_ (by assumption) (by simp; try omega)))))) HR2.out (by simp)) _ 1 (q1 + dx, q2 + dy) rfl (heap_alloc_new _ _) (by omega) (by simp; omega) ?_
                intro v6 w6 hown6 hgr6 hkb6
                obtain ⟨p6, q6, rfl⟩ := slice_own hown6
                have HF6 : Hid ((∀ t, t < fcntTo L j + (m + 1) → badM dx dy (T.getD t (0, 0)) = false) ∧ w6.ownsRow w5.heap.size 27 2 (.slice p6 (m + 1) q6) (m + 1) (pairCells ((c.take (m + 1)).map (mv2 dx dy))) ∧ Kp [] w5 w6) := by
                  show _ ∧ _ ∧ _
                  rw [HMT.out]
                  exact ⟨HSN.out, hown6, hgr6 w5 (Nat.le_refl _) (HK5.out.trans (HK4.out.trans (by (repeat (first | exact Kp.refl _ _ | assumption | refine Kp.drew ?_ | refine Kp.drewN ?_ _ | refine Kp.alloc ?_ _ | (refine Kp.setCell ?_ (by first | (left; simp; done) | (right; simp; try omega)) _) | (refine Kp.trans' ?_ (by assumption) (by simp; try omega)))))))⟩
                clear hown6 hgr6 hkb6 HR2 HK4 HSN f1 f2
                go_wp2_with fail
                refine QN.intro ?_
                go_wp2_with fail
                go_roundw
                case rel => first | exact ⟨m + 1, _, by omega, int_eq' (by omega), rfl, HF6⟩ | ((repeat apply Exists.intro); exact ⟨⟨m + 1, _, by omega, int_eq' (by omega), rfl, HF6⟩, rfl⟩)
                case measure => simp [intOf] <;> omega
        · obtain rfl : m = K := by omega
          have HI1 : Hid (IsPairs wr l2 (c.map (mv2 dx dy))) := by
            have h := HI.out.2.1
            rw [List.take_of_length_le (by rw [HCL.out]; exact Nat.le_refl _)] at h
            show Reads 2 wr l2 (c.map (mv2 dx dy)).length _
            rw [List.length_map, HCL.out]
            exact Reads.owned h
          have HB1 : Hid (∀ b, blockOf l2 = some b → w5.heap.size ≤ b ∧ b < wr.heap.size) := fun b hb => HI.out.2.1.lt b (blockOf_own hb)
          have HNX : Hid (∀ t, t < fcntTo L (j + 1) → badM dx dy (T.getD t (0, 0)) = false) := fun t ht => HI.out.1 t (by have := HCJ.out.1; omega)
          have HK5 : Hid (Kp [] w5 wr) := HI.out.2.2
          obtain ⟨pv, qv, hv1⟩ := slice_own HI.out.2.1
          subst hv1
          have HW1 := Lib.hid (HW.out.kp0 HK5.out)
          have HR1' : Hid (wr.ownsRow w.heap.size 61 1 (.slice pl j cl) j vs) := by have h := HW1.out.1; rw [HTL.out] at h; exact h
          have HOB : Hid (∀ b, (Value.slice pl j cl).ownBlock = some b → b < w5.heap.size) := fun b hb => by have h := HW.out.1; exact (h.lt b hb).2
          have hsz1 : w5.heap.size ≤ wr.heap.size := HK5.out.size
          have hvl : vs.length = j := by have := HR1'.out.1; omega
          clear HI HW
          go_wp2_with (at_builtin; refine wpList_append_lies _ rfl _ _ 39 rfl w.heap.size 61 i0 (.slice none 0 0) 1 24 Try.underlying39 hi hzz0 hzz1 hzz2 rfl (by decide) (.slice pl j cl) j vs rfl ?hown ⟨wr.heap.size, 0, none⟩ 1 1 [.slice pv m qv] rfl rfl ?hnews ?hone (by decide) ?hm ?hb1 ?hb2 (wr.heap.size + 1) ?hH ?hk)
          case hown => exact Kp.row (S := []) (by (repeat (first | exact Kp.refl _ _ | assumption | refine Kp.drew ?_ | refine Kp.drewN ?_ _ | refine Kp.alloc ?_ _ | (refine Kp.setCell ?_ (by first | (left; simp; done) | (right; simp; try omega)) _) | (refine Kp.trans' ?_ (by assumption) (by simp; try omega))))) HR1'.out (by simp)
          case hnews => exact World.news_of_block (heap_alloc_new wr _)
          case hone => intro u hu; simp at hu; subst hu; rfl
          case hm => unfold maxLen; omega
          case hb1 => omega
          case hb2 => simp; omega
          case hH => simp
          case hk =>
          intro g4 c4 w4 hown hgr hat hlt4
          have hka : Kp [] wr (wr.alloc (.cells #[.slice pv m qv] 61)) := by (repeat (first | exact Kp.refl _ _ | assumption | refine Kp.drew ?_ | refine Kp.drewN ?_ _ | refine Kp.alloc ?_ _ | (refine Kp.setCell ?_ (by first | (left; simp; done) | (right; simp; try omega)) _) | (refine Kp.trans' ?_ (by assumption) (by simp; try omega))))
          have HW2 := HW1.out.kp0 hka
          have hpush := WFs.push (H := wr.heap.size + 1) HW2 ((HI1.out : IsPairs wr (.slice pv m qv) (c.map (mv2 dx dy))).kp0 hka) (fun b hb => by
            have h9 := HB1.out b hb
            exact ⟨fun e => by have := HOB.out b e; omega, by simp; omega, by omega⟩) (by rw [HTL.out]; exact hown) hgr hat (by simp)
          rw [HTL.out, ← HTK.out] at hpush
          have HPU : Hid ((∀ t, t < fcntTo L (j + 1) → badM dx dy (T.getD t (0, 0)) = false) ∧ WFl w4 w.heap.size (.slice (some ⟨g4, 0, none⟩) (j + 1) c4) (X.take (j + 1)) ∧ Kp [] w w4) := ⟨HNX.out, ⟨_, hpush⟩, by
            have hkk : Kp [] w w5 := HKW.out
            exact Kp.grown (hkk.trans (HK5.out.trans hka)) hgr (fun k hk => .inr (own_ge HR1'.out k hk))⟩
          clear hown hgr hat hka HW2 hpush hlt4
          go_wp2_with fail
          go_roundw
          case rel => first | exact ⟨j + 1, _, by omega, int_eq' (by omega), rfl, HPU⟩ | ((repeat apply Exists.intro); exact ⟨⟨j + 1, _, by omega, int_eq' (by omega), rfl, HPU⟩, rfl⟩)
          case measure => simp [intOf] <;> omega
    · obtain rfl : j = N := by omega
      have HE := Lib.hid HJ.out
      rw [List.take_of_length_le (by rw [HXL.out]; exact Nat.le_refl _)] at HE
      have HW : Hid (IsFl wr l X) := HE.out.2.1.out
      have HK : Hid (Kp [] w wr) := HE.out.2.2
      have HZ : Hid (RES = (X, 0)) := HR0.out (any_no (fun t ht => HE.out.1 t (by rw [HCE.out, ← HLN.out]; exact ht)))
      clear HJ HE
      go_wp2_with fail
      go_ret2
      rw [HZ.out]
      exact ⟨_, rfl, HW.out, HK.out⟩
end Go.Proofs.Ytpbmefojhgcniaa
namespace Go.Proofs.Ytpbmefojhgcniaa
open Go.RowKit
set_option linter.unusedVariables false
set_option linter.unusedSimpArgs false
/-- The box of the first n dots. -/
def bst (T : List (Int × Int)) (n : Nat) : Bx := boxH (hullB (fX T) (fY T) n)
def bst1 (q : Int × Int) : Bx := ⟨q.1 / 64, q.2 / 64, ceil64 q.1, ceil64 q.2⟩
def bstN (b c : Bx) : Bx := ⟨min b.x0 c.x0, min b.y0 c.y0, max b.x1 c.x1, max b.y1 c.y1⟩
theorem ceil64_neg (x : Int) : -(-x / 64) = ceil64 x := by unfold ceil64; split <;> omega
theorem ceil64_max (a b : Int) : ceil64 (max a b) = max (ceil64 a) (ceil64 b) := by rw [← ceil64_neg, ← ceil64_neg, ← ceil64_neg]; omega
theorem fX_at (T : List (Int × Int)) (n : Nat) : (fX T).getD n 0 = (T.getD n (0, 0)).1 := by
  unfold fX
  rw [List.getD_eq_getElem?_getD, List.getElem?_map, List.getD_eq_getElem?_getD]
  cases T[n]? <;> rfl
theorem fY_at (T : List (Int × Int)) (n : Nat) : (fY T).getD n 0 = (T.getD n (0, 0)).2 := by
  unfold fY
  rw [List.getD_eq_getElem?_getD, List.getElem?_map, List.getD_eq_getElem?_getD]
  cases T[n]? <;> rfl
theorem bst_one (T : List (Int × Int)) : bst T 1 = bst1 (T.getD 0 (0, 0)) := by
  unfold bst bst1 boxH
  rw [hullB_one, fX_at, fY_at]
theorem bst_succ (T : List (Int × Int)) (n : Nat) (h : n ≠ 0) : bst T (n + 1) = bstN (bst T n) (bst1 (T.getD n (0, 0))) := by
  unfold bst bst1 boxH bstN
  rw [hullB_succ _ _ _ h, fX_at, fY_at]
  simp only [ceil64_max]
  congr 1 <;> omega
theorem bx_set0 {W : World} {B : Nat} {x0 y0 x1 y1 : Int} (h : BxAt W B ⟨x0, y0, x1, y1⟩) (z : Int) : BxAt (W.setCell ⟨B, 0, none⟩ (.int .i64 z)) B ⟨z, y0, x1, y1⟩ := heap_setCell_same W B 0 _ _ _ h
theorem bx_set1 {W : World} {B : Nat} {x0 y0 x1 y1 : Int} (h : BxAt W B ⟨x0, y0, x1, y1⟩) (z : Int) : BxAt (W.setCell ⟨B, 1, none⟩ (.int .i64 z)) B ⟨x0, z, x1, y1⟩ := heap_setCell_same W B 1 _ _ _ h
theorem bx_set2 {W : World} {B : Nat} {x0 y0 x1 y1 : Int} (h : BxAt W B ⟨x0, y0, x1, y1⟩) (z : Int) : BxAt (W.setCell ⟨B, 2, none⟩ (.int .i64 z)) B ⟨x0, y0, z, y1⟩ := heap_setCell_same W B 2 _ _ _ h
theorem bx_set3 {W : World} {B : Nat} {x0 y0 x1 y1 : Int} (h : BxAt W B ⟨x0, y0, x1, y1⟩) (z : Int) : BxAt (W.setCell ⟨B, 3, none⟩ (.int .i64 z)) B ⟨x0, y0, x1, z⟩ := heap_setCell_same W B 3 _ _ _ h
/-- What Box keeps in its rounds. -/
def RbSt (w W : World) (b : Bx) : Prop := BxAt W w.heap.size ⟨0, 0, 0, 0⟩ ∧ BxAt W (w.heap.size + 1) b ∧ Kp [] w W
theorem RbSt.kp {w W W' : World} {b : Bx} (h : RbSt w W b) (hk : Kp [] W W') : RbSt w W' b := ⟨h.1.kp hk (by simp), h.2.1.kp hk (by simp), h.2.2.trans hk⟩
theorem RbSt.s0 {w W : World} {x0 y0 x1 y1 : Int} (h : RbSt w W ⟨x0, y0, x1, y1⟩) (z : Int) : RbSt w (W.setCell ⟨w.heap.size + 1, 0, none⟩ (.int .i64 z)) ⟨z, y0, x1, y1⟩ :=
  ⟨h.1.far (by simp) _, bx_set0 h.2.1 z, h.2.2.setCell (.inr (by show _ ≤ w.heap.size + 1; omega)) _⟩
theorem RbSt.s1 {w W : World} {x0 y0 x1 y1 : Int} (h : RbSt w W ⟨x0, y0, x1, y1⟩) (z : Int) : RbSt w (W.setCell ⟨w.heap.size + 1, 1, none⟩ (.int .i64 z)) ⟨x0, z, x1, y1⟩ :=
  ⟨h.1.far (by simp) _, bx_set1 h.2.1 z, h.2.2.setCell (.inr (by show _ ≤ w.heap.size + 1; omega)) _⟩
theorem RbSt.s2 {w W : World} {x0 y0 x1 y1 : Int} (h : RbSt w W ⟨x0, y0, x1, y1⟩) (z : Int) : RbSt w (W.setCell ⟨w.heap.size + 1, 2, none⟩ (.int .i64 z)) ⟨x0, y0, z, y1⟩ :=
  ⟨h.1.far (by simp) _, bx_set2 h.2.1 z, h.2.2.setCell (.inr (by show _ ≤ w.heap.size + 1; omega)) _⟩
theorem RbSt.s3 {w W : World} {x0 y0 x1 y1 : Int} (h : RbSt w W ⟨x0, y0, x1, y1⟩) (z : Int) : RbSt w (W.setCell ⟨w.heap.size + 1, 3, none⟩ (.int .i64 z)) ⟨x0, y0, x1, z⟩ :=
  ⟨h.1.far (by simp) _, bx_set3 h.2.1 z, h.2.2.setCell (.inr (by show _ ≤ w.heap.size + 1; omega)) _⟩
theorem RbSt.m0 {w W : World} {c0 c1 c2 c3 X : Int} (h : RbSt w W ⟨c0, c1, c2, c3⟩) (hlt : X < c0) : RbSt w (W.setCell ⟨w.heap.size + 1, 0, none⟩ (.int .i64 X)) ⟨(min c0 X), c1, c2, c3⟩ := by
  have e : min c0 X = X := by omega
  rw [e]; exact h.s0 X
theorem RbSt.n0 {w W : World} {c0 c1 c2 c3 X : Int} (h : RbSt w W ⟨c0, c1, c2, c3⟩) (hlt : c0 ≤ X) : RbSt w W ⟨(min c0 X), c1, c2, c3⟩ := by
  have e : min c0 X = c0 := by omega
  rw [e]; exact h
theorem RbSt.m1 {w W : World} {c0 c1 c2 c3 X : Int} (h : RbSt w W ⟨c0, c1, c2, c3⟩) (hlt : X < c1) : RbSt w (W.setCell ⟨w.heap.size + 1, 1, none⟩ (.int .i64 X)) ⟨c0, (min c1 X), c2, c3⟩ := by
  have e : min c1 X = X := by omega
  rw [e]; exact h.s1 X
theorem RbSt.n1 {w W : World} {c0 c1 c2 c3 X : Int} (h : RbSt w W ⟨c0, c1, c2, c3⟩) (hlt : c1 ≤ X) : RbSt w W ⟨c0, (min c1 X), c2, c3⟩ := by
  have e : min c1 X = c1 := by omega
  rw [e]; exact h
theorem RbSt.m2 {w W : World} {c0 c1 c2 c3 X : Int} (h : RbSt w W ⟨c0, c1, c2, c3⟩) (hlt : c2 < X) : RbSt w (W.setCell ⟨w.heap.size + 1, 2, none⟩ (.int .i64 X)) ⟨c0, c1, (max c2 X), c3⟩ := by
  have e : max c2 X = X := by omega
  rw [e]; exact h.s2 X
theorem RbSt.n2 {w W : World} {c0 c1 c2 c3 X : Int} (h : RbSt w W ⟨c0, c1, c2, c3⟩) (hlt : X ≤ c2) : RbSt w W ⟨c0, c1, (max c2 X), c3⟩ := by
  have e : max c2 X = c2 := by omega
  rw [e]; exact h
theorem RbSt.m3 {w W : World} {c0 c1 c2 c3 X : Int} (h : RbSt w W ⟨c0, c1, c2, c3⟩) (hlt : c3 < X) : RbSt w (W.setCell ⟨w.heap.size + 1, 3, none⟩ (.int .i64 X)) ⟨c0, c1, c2, (max c3 X)⟩ := by
  have e : max c3 X = X := by omega
  rw [e]; exact h.s3 X
theorem RbSt.n3 {w W : World} {c0 c1 c2 c3 X : Int} (h : RbSt w W ⟨c0, c1, c2, c3⟩) (hlt : X ≤ c3) : RbSt w W ⟨c0, c1, c2, (max c3 X)⟩ := by
  have e : max c3 X = c3 := by omega
  rw [e]; exact h
theorem min_cases (a b : Int) : (decide (b < a) = true ∧ min a b = b) ∨ (decide (b < a) = false ∧ min a b = a) := by
  simp only [decide_eq_true_eq, decide_eq_false_iff_not]; omega
theorem max_cases (a b : Int) : (decide (a < b) = true ∧ max a b = b) ∨ (decide (a < b) = false ∧ max a b = a) := by
  simp only [decide_eq_true_eq, decide_eq_false_iff_not]; omega
theorem rfl64_calls (x : Int) (h : inD x = true) (W : World) : Calls Try.prog 35 #[.int .i64 x, .int .i64 64] W fun e w' => e = .returned (.int .i64 (x / 64)) ∧ Kp [] W w' := by
  have hx : -1048576 ≤ x ∧ x ≤ 1048576 := by simpa [inD] using h
  exact (rfloor_calls x 64 (by omega) (by omega) (by omega) (by omega) (by omega) W).mono fun e w' ⟨h, k⟩ => ⟨h, kpOf k⟩
theorem inD_neg {x : Int} (h : inD x = true) : inD (-x) = true := by
  have hx : -1048576 ≤ x ∧ x ≤ 1048576 := by simpa [inD] using h
  simp [inD]; omega
/-- What the walk of one dot wants. -/
theorem bx_facts {x : Int} (h : inD x = true) : IntKind.i64.wrap (-x) = -x ∧ IntKind.i64.wrap (-(-x / 64)) = -(-x / 64) := by
  have hx : -1048576 ≤ x ∧ x ≤ 1048576 := by simpa [inD] using h
  exact ⟨wrI _ (by omega) (by omega), wrI _ (by omega) (by omega)⟩
theorem dotQ_parts {a b : Int} (h : dotQ (a, b) = true) : inD a = true ∧ inD b = true := by simpa [dotQ] using h
set_option maxRecDepth 100000 in
set_option maxHeartbeats 8000000 in
theorem rfbox_ok (v : Value) (L : List (List (Int × Int))) (w : World) (hv : IsFl w v L) (hm : mayF L = 0) (R : Bx) (hR : (if emptyB (bst (flTo L L.length) (fcnt L)) = true then (⟨0, 0, 0, 0⟩ : Bx) else bst (flTo L L.length) (fcnt L)) = R) : Calls Try.prog 24 #[v] w fun e w' => e = .returned (bxV R) ∧ Kp [] w w' := by
  have HV := Lib.hid hv
  have hle := hv.le
  unfold maxLen at hle
  have HTL := (mayF_facts hm).2
  have HDT : Hid (∀ j, j < L.length → ∀ q ∈ L.getD j [], dotQ q = true) := fun j hj q hq => HTL q (mem_flTo hj q hq)
  have HCT : Hid (∀ j, j ≤ L.length → fcntTo L j ≤ 65536) := fun j hj => Nat.le_trans (fcntTo_le L hj) (mayF_cnt hm)
  have HT := Lib.hid (flTo_at L)
  have HS1 := Lib.hid (bst_one (flTo L L.length))
  have HSS := Lib.hid (bst_succ (flTo L L.length))
  have HB0 : Hid (bst (flTo L L.length) 0 = ⟨0, 0, 0, 0⟩) := rfl
  have HRR := Lib.hid hR
  obtain ⟨pa, ca, rfl⟩ := hv.form
  generalize flTo L L.length = T at *
  obtain ⟨N, hN⟩ : ∃ N, L.length = N := ⟨_, rfl⟩
  have HN := Lib.hid hN
  have HCE : Hid (fcntTo L N = fcnt L) := by show _ = _; rw [← hN]; rfl
  rw [hN] at HV HDT HCT HT hle ⊢
  clear hv hm HTL hN hR
  go_enter Try.func24, Try.ntmps24
  go_wp2_with fail
  go_loopw [4, 5, 6, 7, 8, 9, 10, 11] (fun s i _ _ _ _ _ _ wr => ∃ j : Nat, j ≤ N ∧ i = .int .i64 j ∧ s = .bool (decide (fcntTo L j = 0)) ∧ Hid (RbSt w wr (bst T (fcntTo L j)))) (fun _ i _ _ _ _ _ _ _ => N - (intOf i).toNat)
  case atStart =>
    refine ⟨0, by omega, rfl, rfl, ?_⟩
    show RbSt _ _ _
    rw [show fcntTo L 0 = 0 from rfl, HB0.out]
    obtain ⟨t1, t2⟩ := two_heap (w := w) (A := .cells #[.int .i64 0, .int .i64 0, .int .i64 0, .int .i64 0] 48) (B := .cells #[.int .i64 0, .int .i64 0, .int .i64 0, .int .i64 0] 48) rfl
    exact ⟨t1, t2, by (repeat (first | exact Kp.refl _ _ | assumption | refine Kp.drew ?_ | refine Kp.drewN ?_ _ | refine Kp.alloc ?_ _ | (refine Kp.setCell ?_ (by first | (left; simp; done) | (right; simp; try omega)) _) | (refine Kp.trans' ?_ (by assumption) (by simp; try omega))))⟩
  case round =>
    obtain ⟨j, hj, rfl, rfl, HJ⟩ := hrel
    by_cases hlt : j < N
    · have hjo : j < L.length := by rw [HN.out]; exact hlt
      obtain ⟨g1, o1, cc, p1, cv, e1, _, _, h1, hp⟩ := HV.out.row hjo
      rw [HN.out] at e1
      cases e1
      have HP : Hid (∀ W, Kp [] w W → IsPairs W (.slice p1 (L.getD j []).length cv) (L.getD j [])) := fun W hW => hp.kp0 hW
      have HD := Lib.hid (HDT.out j hlt)
      have HTJ := Lib.hid (HT.out j hlt)
      have HC : Hid (fcntTo L (j + 1) = fcntTo L j + (L.getD j []).length ∧ fcntTo L (j + 1) ≤ 65536) := ⟨rfl, HCT.out (j + 1) (by omega)⟩
      generalize L.getD j [] = c at *
      obtain ⟨K, hK⟩ : ∃ K, c.length = K := ⟨_, rfl⟩
      have HKK := Lib.hid hK
      rw [hK] at h1 HC HP HTJ
      have hK65 : K ≤ 65536 := by have := HC.out; omega
      have H1 := Lib.hid h1
      have h1r := HJ.out.2.2.cell h1 (by simp)
      obtain ⟨C, hC⟩ : ∃ C, fcntTo L j = C := ⟨_, rfl⟩
      have HCC := Lib.hid hC
      rw [hC] at HC HTJ HJ ⊢
      clear hp hK h1 hC
      obtain ⟨wA, hwA⟩ : ∃ wA, wA = wr := ⟨_, rfl⟩
      subst hwA
      go_wp2_with fail
      clear h1r
      go_loopw [4, 6, 7, 8, 9, 10, 11] (fun s i _ _ _ _ _ wr => ∃ m : Nat, m ≤ K ∧ i = .int .i64 m ∧ s = .bool (decide (C + m = 0)) ∧ Hid (RbSt w wr (bst T (C + m)))) (fun _ i _ _ _ _ _ _ => K - (intOf i).toNat)
      case atStart => exact ⟨0, by omega, rfl, rfl, HJ.out⟩
      case round =>
        obtain ⟨m, hm, rfl, rfl, HI⟩ := hrel
        have h1r := HI.out.2.2.cell H1.out (by simp)
        by_cases hml : m < K
        · obtain ⟨g3, o3, c3, e3, _, _, x1, y1⟩ := (HP.out _ HI.out.2.2).row (i := m) (by rw [HKK.out]; exact hml)
          rw [HKK.out] at e3
          cases e3
          have htm := HTJ.out m hml
          have hqd : dotQ (c.getD m (0, 0)) = true := getD_dot HD.out m
          have HNX : Hid (bst T (C + (m + 1)) = bstN (if decide (C + m = 0) = true then bst1 (c.getD m (0, 0)) else bst T (C + m)) (bst1 (c.getD m (0, 0)))) := by
            show _ = _
            by_cases h0 : C + m = 0
            · rw [if_pos (decide_eq_true h0), show C + (m + 1) = 1 by omega, HS1.out, ← htm, h0]; unfold bstN; simp
            · rw [if_neg (by simpa using h0), show C + (m + 1) = C + m + 1 by omega, HSS.out _ h0, htm]
          generalize c.getD m (0, 0) = q at *
          obtain ⟨q1, q2⟩ := q
          dsimp only at x1 y1
          obtain ⟨i1, i2⟩ := dotQ_parts hqd
          obtain ⟨k1, k2⟩ := bx_facts i1
          obtain ⟨k3, k4⟩ := bx_facts i2
          have HF1 := Lib.hid (fun W => rfl64_calls q1 i1 W)
          have HF2 := Lib.hid (fun W => rfl64_calls q2 i2 W)
          have HF3 := Lib.hid (fun W => rfl64_calls (-q1) (inD_neg i1) W)
          have HF4 := Lib.hid (fun W => rfl64_calls (-q2) (inD_neg i2) W)
          have HQB : Hid (bst1 (q1, q2) = ⟨q1 / 64, q2 / 64, -(-q1 / 64), -(-q2 / 64)⟩) := by show _ = _; unfold bst1; dsimp only; rw [← ceil64_neg, ← ceil64_neg]
          rw [HQB.out] at HNX
          generalize q1 / 64 = X at *
          generalize q2 / 64 = Y at *
          generalize -q1 / 64 = U at *
          generalize -q2 / 64 = V at *
          generalize bst T (C + m) = b0 at *
          generalize decide (C + m = 0) = F0 at *
          have HDC : Hid ((.bool false : Value) = .bool (decide (C + (m + 1) = 0))) := by show _ = _; rw [decide_eq_false (by omega)]
          clear htm hqd i1 i2 HQB
          go_upto_region 10 with fail
          refine wp_gen ?_; intro W0 hW0
          have hka : Kp [] wr W0 := by rw [hW0]; (repeat (first | exact Kp.refl _ _ | assumption | refine Kp.drew ?_ | refine Kp.drewN ?_ _ | refine Kp.alloc ?_ _ | (refine Kp.setCell ?_ (by first | (left; simp; done) | (right; simp; try omega)) _) | (refine Kp.trans' ?_ (by assumption) (by simp; try omega))))
          have HD0 : Hid (DtAt W0 wr.heap.size q1 q2) := by show DtAt _ _ _ _; rw [hW0]; exact heap_alloc_new wr _
          have HI0 : Hid (RbSt w W0 b0) := HI.out.kp hka
          obtain ⟨B, hB⟩ : ∃ B, wr.heap.size = B := ⟨_, rfl⟩
          rw [hB] at HD0 ⊢
          clear hW0 hka hB x1 y1 h1r HI
          obtain ⟨t0, t1, _, _⟩ := HD0.out.cells
          have u0 := fun n : KW W0 => KW.cell t0 n
          have u1 := fun n : KW W0 => KW.cell t1 n
          clear t0 t1
          refine wp_region_kq (by kernel_rfl) (by kernel_rfl) ?_
          repeat (go_big_quiet_step ((go_at_call 35; first | with_reducible exact Calls.kq (HF1.out _) | with_reducible exact Calls.kq (HF2.out _))))
          refine wpQuiet_nil ?_
          intro w2 hw'
          obtain ⟨⟨_, hkw2⟩, rfl⟩ := hw'
          clear u0 u1
          replace HD0 : Hid (DtAt w2 B q1 q2) := HD0.out.kp0 hkw2
          replace HI0 : Hid (RbSt w w2 b0) := HI0.out.kp hkw2
          clear hkw2
          go_wp2_with fail
          obtain ⟨t0, t1, _, _⟩ := HD0.out.cells
          have u0 := fun n : KW w2 => KW.cell t0 n
          have u1 := fun n : KW w2 => KW.cell t1 n
          clear t0 t1
          refine wp_region_kq (by kernel_rfl) (by kernel_rfl) ?_
          repeat (go_big_quiet_step ((go_at_call 35; first | with_reducible exact Calls.kq (HF3.out _) | with_reducible exact Calls.kq (HF4.out _))))
          refine wpQuiet_nil ?_
          intro w3 hw'
          obtain ⟨⟨_, hkw3⟩, rfl⟩ := hw'
          clear u0 u1
          replace HI0 : Hid (RbSt w w3 b0) := HI0.out.kp hkw3
          clear hkw3 HD0 k1 k2 k3 k4
          go_upto_if 50 with fail
          go_cut [4] from 18 to 79 (fun s4 wx => s4 = .bool false ∧ Hid (RbSt w wx (if F0 = true then (⟨X, Y, -U, -V⟩ : Bx) else b0)))
          case first =>
            obtain ⟨b00, b01, b02, b03⟩ := b0
            obtain ⟨t0, t1, t2, t3⟩ := HI0.out.2.1.cells
            obtain ⟨f0, f1, f2, f3⟩ := HI0.out.2.1.frozen
            cases F0 with
            | true =>
              go_wp2_with fail
              go_meet
              exact ⟨rfl, (((HI0.out.s0 _).s1 _).s2 _).s3 _⟩
            | false =>
              go_wp2_with fail
              go_meet
              exact ⟨rfl, HI0.out⟩
          obtain ⟨rfl, HB1⟩ := hcut
          generalize (if F0 = true then (⟨X, Y, -U, -V⟩ : Bx) else b0) = b1 at *
          obtain ⟨c0, c1, c2, c3⟩ := b1
          generalize -U = U' at *
          generalize -V = V' at *
          clear HI0 HC HP HTJ HD H1 HJ
          obtain ⟨t0, t1, t2, t3⟩ := HB1.out.2.1.cells
          obtain ⟨f0, f1, f2, f3⟩ := HB1.out.2.1.frozen
          dsimp only at t0 t1 t2 t3
          go_upto_if 59 with fail
          go_cut [4] from 18 to 79 (fun s4 wx => s4 = .bool false ∧ Hid (RbSt w wx (⟨(min c0 X), c1, c2, c3⟩ : Bx)))
          case first =>
            go_wp2_with fail
            all_goals
              go_meet
              first | exact ⟨rfl, HB1.out.m0 (by assumption)⟩ | exact ⟨rfl, HB1.out.n0 (by assumption)⟩
          clear HB1 t0 t1 t2 t3 f0 f1 f2 f3
          obtain ⟨rfl, HB1⟩ := hcut
          generalize hn0 : min c0 X = n0 at HB1
          obtain ⟨t0, t1, t2, t3⟩ := HB1.out.2.1.cells
          obtain ⟨f0, f1, f2, f3⟩ := HB1.out.2.1.frozen
          dsimp only at t0 t1 t2 t3
          go_upto_if 65 with fail
          go_cut [4] from 18 to 79 (fun s4 wx => s4 = .bool false ∧ Hid (RbSt w wx (⟨n0, (min c1 Y), c2, c3⟩ : Bx)))
          case first =>
            go_wp2_with fail
            all_goals
              go_meet
              first | exact ⟨rfl, HB1.out.m1 (by assumption)⟩ | exact ⟨rfl, HB1.out.n1 (by assumption)⟩
          clear HB1 t0 t1 t2 t3 f0 f1 f2 f3
          obtain ⟨rfl, HB1⟩ := hcut
          generalize hn1 : min c1 Y = n1 at HB1
          obtain ⟨t0, t1, t2, t3⟩ := HB1.out.2.1.cells
          obtain ⟨f0, f1, f2, f3⟩ := HB1.out.2.1.frozen
          dsimp only at t0 t1 t2 t3
          go_upto_if 71 with fail
          go_cut [4] from 18 to 79 (fun s4 wx => s4 = .bool false ∧ Hid (RbSt w wx (⟨n0, n1, (max c2 U'), c3⟩ : Bx)))
          case first =>
            go_wp2_with fail
            all_goals
              go_meet
              first | exact ⟨rfl, HB1.out.m2 (by assumption)⟩ | exact ⟨rfl, HB1.out.n2 (by assumption)⟩
          clear HB1 t0 t1 t2 t3 f0 f1 f2 f3
          obtain ⟨rfl, HB1⟩ := hcut
          generalize hn2 : max c2 U' = n2 at HB1
          obtain ⟨t0, t1, t2, t3⟩ := HB1.out.2.1.cells
          obtain ⟨f0, f1, f2, f3⟩ := HB1.out.2.1.frozen
          dsimp only at t0 t1 t2 t3
          go_upto_if 77 with fail
          have HEQ : Hid (bst T (C + (m + 1)) = ⟨n0, n1, n2, max c3 V'⟩) := by
            show _ = _
            rw [HNX.out]
            unfold bstN
            dsimp only
            rw [hn0, hn1, hn2]
          clear hn0 hn1 hn2
          have HB2 : Hid (∀ W, RbSt w W ⟨n0, n1, n2, max c3 V'⟩ → RbSt w W (bst T (C + (m + 1)))) := fun W h => by rw [HEQ.out]; exact h
          go_wp2_with fail
          · have HFN := Lib.hid (HB2.out _ (HB1.out.m3 (by assumption)))
            clear t0 t1 t2 t3 f0 f1 f2 f3
            go_roundw
            case rel => first | exact ⟨m + 1, by omega, int_eq' (by omega), HDC.out, HFN⟩ | ((repeat apply Exists.intro); exact ⟨⟨m + 1, by omega, int_eq' (by omega), HDC.out, HFN⟩, rfl⟩)
            case measure => simp [intOf]; omega
          · have HFN := Lib.hid (HB2.out _ (HB1.out.n3 (by assumption)))
            clear t0 t1 t2 t3 f0 f1 f2 f3
            go_roundw
            case rel => first | exact ⟨m + 1, by omega, int_eq' (by omega), HDC.out, HFN⟩ | ((repeat apply Exists.intro); exact ⟨⟨m + 1, by omega, int_eq' (by omega), HDC.out, HFN⟩, rfl⟩)
            case measure => simp [intOf]; omega
        · obtain rfl : m = K := by omega
          have HZ : Hid (RbSt w wr (bst T (fcntTo L (j + 1)))) := by show RbSt _ _ _; rw [HC.out.1]; exact HI.out
          have HZ2 : Hid (C + m = fcntTo L (j + 1)) := HC.out.1.symm
          clear HI HC HP HD
          go_wp2_with fail
          go_roundw
          case rel => first | exact ⟨j + 1, by omega, int_eq' (by omega), by rw [HZ2.out], HZ⟩ | ((repeat apply Exists.intro); exact ⟨⟨j + 1, by omega, int_eq' (by omega), by rw [HZ2.out], HZ⟩, rfl⟩)
          case measure => simp [intOf] <;> omega
    · obtain rfl : j = N := by omega
      have HBX := Lib.hid HJ.out
      rw [HCE.out] at HBX
      have HRX := HRR.out
      generalize bst T (fcnt L) = b at *
      obtain ⟨c0, c1, c2, c3⟩ := b
      have HEB : Hid (emptyB ⟨c0, c1, c2, c3⟩ = (decide (c2 ≤ c0) || decide (c3 ≤ c1))) := rfl
      have HRX := Lib.hid HRX
      obtain ⟨t0, t1, t2, t3⟩ := HBX.out.2.1.cells
      obtain ⟨f0, f1, f2, f3⟩ := HBX.out.1.frozen
      obtain ⟨r0, r1, r2, r3⟩ := HBX.out.1.cells
      obtain ⟨z0, z1, z2, z3⟩ := (HBX.out.1.set ⟨0, 0, 0, 0⟩).cells
      obtain ⟨x0, x1, x2, x3⟩ := (HBX.out.1.set ⟨c0, c1, c2, c3⟩).cells
      dsimp only at t0 t1 t2 t3 z0 z1 z2 z3 x0 x1 x2 x3
      clear HJ HT HCT HDT HS1 HSS HRR
      cases h1 : decide (c2 ≤ c0) with
      | true =>
        have HQ : Hid (R = ⟨0, 0, 0, 0⟩) := by show _ = _; rw [← HRX.out, if_pos (by rw [HEB.out, h1]; rfl)]
        clear x0 x1 x2 x3
        go_wp2_with fail
        refine bodyPost_ret (v := bxV ⟨0, 0, 0, 0⟩) (by simp [results, Try.results24, go_sem, bxV, z0, z1, z2, z3]) rfl ⟨by rw [HQ.out], ?_⟩
        exact (((HBX.out.2.2.setCell (.inr (Nat.le_refl _)) _).setCell (.inr (Nat.le_refl _)) _).setCell (.inr (Nat.le_refl _)) _).setCell (.inr (Nat.le_refl _)) _
      | false =>
        cases h2 : decide (c3 ≤ c1) with
        | true =>
          have HQ : Hid (R = ⟨0, 0, 0, 0⟩) := by show _ = _; rw [← HRX.out, if_pos (by rw [HEB.out, h1, h2]; rfl)]
          clear x0 x1 x2 x3
          go_wp2_with fail
          refine bodyPost_ret (v := bxV ⟨0, 0, 0, 0⟩) (by simp [results, Try.results24, go_sem, bxV, z0, z1, z2, z3]) rfl ⟨by rw [HQ.out], ?_⟩
          exact (((HBX.out.2.2.setCell (.inr (Nat.le_refl _)) _).setCell (.inr (Nat.le_refl _)) _).setCell (.inr (Nat.le_refl _)) _).setCell (.inr (Nat.le_refl _)) _
        | false =>
          have HQ : Hid (R = ⟨c0, c1, c2, c3⟩) := by show _ = _; rw [← HRX.out, if_neg (by rw [HEB.out, h1, h2]; simp)]
          clear z0 z1 z2 z3
          go_wp2_with fail
          refine bodyPost_ret (v := bxV ⟨c0, c1, c2, c3⟩) (by simp [results, Try.results24, go_sem, bxV, x0, x1, x2, x3]) rfl ⟨by rw [HQ.out], ?_⟩
          exact (((HBX.out.2.2.setCell (.inr (Nat.le_refl _)) _).setCell (.inr (Nat.le_refl _)) _).setCell (.inr (Nat.le_refl _)) _).setCell (.inr (Nat.le_refl _)) _
theorem rfbox_calls (v : Value) (L : List (List (Int × Int))) (w : World) (hv : IsFl w v L) (hm : mayF L = 0) : Calls Try.prog 24 #[v] w fun e w' => e = .returned (bxV (boxF L).1) ∧ Kp [] w w' := by
  have e : (fX (flTo L L.length)).length = fcnt L := by rw [fX, List.length_map, flTo_len]
  refine rfbox_ok v L w hv hm _ ?_
  rw [boxF_ok L hm, e]
  rfl
end Go.Proofs.Ytpbmefojhgcniaa

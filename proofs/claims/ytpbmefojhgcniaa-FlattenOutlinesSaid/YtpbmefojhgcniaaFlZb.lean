/- flatten: the reference's Flatten. -/
import Derived.Test.YtpbmefojhgcniaaFmF
import Derived.Test.YtpbmefojhgcniaaFlZa
import Derived.BigQuiet
import Derived.Deep.DeepCutAuto
namespace Go.Proofs.Ytpbmefojhgcniaa
open Go.RowKit
set_option linter.unusedVariables false
set_option linter.unusedSimpArgs false
theorem IsOut.sub {w : World} {v : Value} {o : List (List Pn)} (h : IsOut w v o) {j : Nat} (hj : j < o.length) {g off c : Nat} (e : v = .slice (some ⟨g, off, none⟩) o.length c) : IsOut w (.slice (some ⟨g, off + j, none⟩) 1 (c - j)) [o.getD j []] := by
  obtain ⟨g1, o1, c1, p, cv, e1, h1, h2, h3, h4⟩ := h.row hj
  rw [e] at e1
  simp only [Value.slice.injEq, Option.some.injEq, Addr.mk.injEq] at e1
  obtain ⟨⟨rfl, rfl, _⟩, _, rfl⟩ := e1
  refine ⟨[.slice p (o.getD j []).length cv], ⟨rfl, .inr ⟨g, off + j, c - j, rfl, by simp; omega, by omega, fun i u hu => ?_⟩⟩, fun i hi => ?_⟩
  · obtain rfl : i = 0 := by
      have := (List.getElem?_eq_some_iff.1 hu).1
      simp at this; omega
    simp at hu; subst hu
    exact h3
  · obtain rfl : i = 0 := by simp at hi; omega
    exact h4
theorem cvAt_kind (e : List Pn) (i : Nat) : (cvAt e i).k = 1 ∨ (cvAt e i).k = 2 ∨ (cvAt e i).k = 3 := by
  unfold cvAt
  split
  · exact .inr (.inl rfl)
  · split
    · exact .inr (.inr rfl)
    · exact .inl rfl
theorem refTo_kind (e : List Pn) (n : Nat) : ∀ q ∈ refTo e n, q.k = 1 ∨ q.k = 2 ∨ q.k = 3 := by
  induction n with
  | zero => intro q hq; simp [refTo] at hq
  | succ n ih =>
    intro q hq
    rw [refTo] at hq
    rcases List.mem_append.1 hq with hq | hq
    · exact ih q hq
    · split at hq
      · simp at hq; subst hq; exact cvAt_kind e n
      · cases hq
theorem curvesTo_kind (o : List (List Pn)) (n : Nat) : ∀ q ∈ curvesTo o n, q.k = 1 ∨ q.k = 2 ∨ q.k = 3 := by
  induction n with
  | zero => intro q hq; simp [curvesTo] at hq
  | succ n ih =>
    intro q hq
    rw [curvesTo] at hq
    rcases List.mem_append.1 hq with hq | hq
    · exact ih q hq
    · exact refTo_kind _ _ q hq
theorem curves_one_len {o : List (List Pn)} (h : checkO o = 0) {j : Nat} (hj : j < o.length) : (curvesTo (expO [o.getD j []]) 1).length ≤ 8193 := by
  have hE := check_one h hj
  obtain ⟨z1, z2, z3⟩ := checkO_zero hE
  have a := (expC_len _ (mayCo_facts (z3 0 (by simp))).1).2
  have b := len_le_cnt [o.getD j []] (j := 0) (by simp)
  have d := expO_at [o.getD j []] 0 (by simp)
  have e : curvesTo (expO [o.getD j []]) 1 = [] ++ refTo ((expO [o.getD j []]).getD 0 []) ((expO [o.getD j []]).getD 0 []).length := rfl
  rw [e, List.nil_append, d]
  have f := refTo_lenW (expC (([o.getD j []] : List (List Pn)).getD 0 [])) (expC (([o.getD j []] : List (List Pn)).getD 0 [])).length
  omega
theorem take_cv (s : Sc) (l : List Cv) {m : Nat} (h : m < l.length) : ctrS s (l.take (m + 1)) = ctrS s (l.take m) ++ bowDots (bowS s (l.getD m cv0)) ∧ ∀ E, ctrE s 0 (l.take m) = 0 → bowE s (l.getD m cv0) = E → ctrE s 0 (l.take (m + 1)) = E := by
  have e : l.take (m + 1) = l.take m ++ [l.getD m cv0] := by
    rw [List.take_succ_eq_append_getElem h, List.getD_eq_getElem?_getD, List.getElem?_eq_getElem h]; rfl
  rw [e]
  refine ⟨?_, fun E h0 h1 => ?_⟩
  · rw [ctrS_app]
    congr 1
    show bowDots (bowS s (l.getD m cv0)) ++ [] = _
    rw [List.append_nil]
  · rw [ctrE_app, h0]; exact h1
theorem ctrE_stop (s : Sc) (l : List Cv) (m : Nat) (h : ctrE s 0 (l.take m) ≠ 0) : ctrE s 0 l = ctrE s 0 (l.take m) := by
  have e : l = l.take m ++ l.drop m := (List.take_append_drop m l).symm
  calc ctrE s 0 l = ctrE s 0 (l.take m ++ l.drop m) := by rw [← e]
    _ = ctrE s (ctrE s 0 (l.take m)) (l.drop m) := ctrE_app s _ _ 0
    _ = _ := ctrE_keep s _ _ h
theorem bowE_cases {s : Sc} (hs : mayS s = true) (q : Cv) : bowE s q = 0 ∨ bowE s q = 10 := by
  unfold bowE
  have key : ∀ (l : List Pn) (e : Int), (e = 0 ∨ e = 10) → bowErr s e l = 0 ∨ bowErr s e l = 10 := by
    intro l
    induction l with
    | nil => intro e h; exact h
    | cons p l ih =>
      intro e h
      show bowErr s (if e = 0 then (dotS s p).2 else e) l = 0 ∨ bowErr s (if e = 0 then (dotS s p).2 else e) l = 10
      refine ih _ ?_
      split
      · rw [dotS_P hs]; exact dotP_err s p
      · exact h
  exact key _ 0 (.inl rfl)
theorem bow_dots {s : Sc} {q : Cv} (hk : q.k = 1 ∨ q.k = 2 ∨ q.k = 3) (h : bowE s q = 0) : mayW (bowS s q) = true ∧ bowDots (bowS s q) = uptoF (fun t => atQ (bowS s q) ((t : Int) + 1) (piecesQ (needsQ (bowS s q)))) (piecesQ (needsQ (bowS s q))) ∧ piecesQ (needsQ (bowS s q)) ≤ 256 := by
  have hm := mayW_bow hk h
  have hn := bowN_le (bowS s q)
  have e : bowN (bowS s q) = piecesQ (needsQ (bowS s q)) := by unfold bowN; rw [if_pos hm]
  rw [e] at hn
  refine ⟨hm, ?_, hn⟩
  unfold bowDots
  rw [e]
theorem own_not_bow {W : World} {base n Bx : Nat} {v : Value} {xs : List Value} {q : Bw} (h : W.ownsRow base 27 2 v n xs) (hd : BowAt W Bx q) : v.ownBlock ≠ some Bx := by
  intro e
  rcases h.2 with ⟨rfl, _⟩ | ⟨g, cap, cur, rfl, hb, hgg, _⟩
  · simp [Value.ownBlock] at e
  · simp [Value.ownBlock] at e
    subst e
    have h2 : W.heap[g]? = _ := hd
    rw [h2] at hgg
    simp at hgg
/-- What the middle loop keeps. -/
def RlSt (W0 wr : World) (s : Sc) (L : List Cv) (base : Nat) (v : Value) (m : Nat) : Prop :=
  ctrE s 0 (L.take m) = 0 ∧ wr.ownsRow base 27 2 v (ctrS s (L.take m)).length (pairCells (ctrS s (L.take m))) ∧ Kp [] W0 wr
set_option maxRecDepth 100000 in
set_option maxHeartbeats 8000000 in
theorem rflat_calls (s : Sc) (v : Value) (o : List (List Pn)) (w : World) (hv : IsOut w v o) (hs : mayS s = true) (hE : checkO o = 0) :
    Calls Try.prog 17 #[scV s, v] w fun e w' => ∃ v', e = .returned (.tuple #[v', .int .i64 (flatM s o).2]) ∧ IsFl w' v' (flatM s o).1 ∧ Kp [] w w' := by
  obtain ⟨z1, z2, z3⟩ := checkO_zero hE
  have HV := Lib.hid hv
  have HONE : Hid (∀ j, j < o.length → checkO [o.getD j []] = 0) := fun j hj => check_one hE hj
  have HCL : Hid (∀ j, j < o.length → (curvesTo (expO [o.getD j []]) 1).length ≤ 8193) := fun j hj => curves_one_len hE hj
  have HSM : Hid (∀ j, j ≤ o.length → sumTo s o j ≤ j * 2097408) := sumTo_le s hE
  have HRE : Hid (∀ E, E ≠ 0 → errTo s o o.length = E → flatM s o = ([], E)) := fun E h0 h => by unfold flatM; rw [if_neg (by simp [hs]), if_neg (by simp [hE]), if_pos (by rw [h]; exact h0), h]
  have HRL : Hid (errTo s o o.length = 0 → 65536 < sumTo s o o.length → flatM s o = ([], 3)) := fun h0 h => by unfold flatM; rw [if_neg (by simp [hs]), if_neg (by simp [hE]), if_neg (by simp [h0]), if_pos h]
  have HR0 : Hid (errTo s o o.length = 0 → ¬ 65536 < sumTo s o o.length → flatM s o = (o.map (flatC s), 0)) := fun h0 h => by unfold flatM; rw [if_neg (by simp [hs]), if_neg (by simp [hE]), if_neg (by simp [h0]), if_neg h]
  have HKEEP : Hid (∀ j, j ≤ o.length → errTo s o j ≠ 0 → errTo s o o.length = errTo s o j) := fun j hj h => by
    obtain ⟨d, hd⟩ : ∃ d, o.length = j + d := ⟨o.length - j, by omega⟩
    rw [hd]; exact errTo_keep s o h d
  have HTK0 : Hid (∀ j, j < o.length → (o.map (flatC s)).take (j + 1) = (o.map (flatC s)).take j ++ [flatC s (o.getD j [])]) := fun j hj => by
    show _ = _
    rw [List.take_succ_eq_append_getElem (by simpa using hj), List.getElem_map, List.getD_eq_getElem?_getD, List.getElem?_eq_getElem hj]; rfl
  have HXL : Hid ((o.map (flatC s)).length = o.length) := List.length_map _
  have HBO : Hid (∀ q : Cv, (q.k = 1 ∨ q.k = 2 ∨ q.k = 3) → ∀ W, Calls Try.prog 41 #[scV s, cvV q] W fun r w' => r = .returned (.tuple #[bowV (bowR s q), .int .i64 (bowE s q)]) ∧ Kp [] W w') := fun q hq W => rbow_calls s q hs hq W
  have HBC : Hid (∀ q, bowE s q = 0 ∨ bowE s q = 10) := bowE_cases hs
  obtain ⟨i0, hi, hzz0, hzz1, hzz2⟩ := info_parts infoDs
  obtain ⟨pa, ca, rfl⟩ := hv.form
  generalize flatM s o = RES at *
  generalize o.map (flatC s) = X at *
  obtain ⟨N, hN⟩ : ∃ N, o.length = N := ⟨_, rfl⟩
  have HN := Lib.hid hN
  rw [hN] at HV HONE HCL HSM HRE HRL HR0 HKEEP HTK0 HXL z1 ⊢
  clear hv hs hE z2 z3 hN
  unfold scV at HBO ⊢
  go_enter Try.func17, Try.ntmps17
  go_wp2_with fail
  refine wp_gen ?_; intro W0 hW0
  have HS0 : Hid (ScAt W0 w.heap.size s) := by show ScAt _ _ _; rw [hW0]; exact heap_alloc_new w _
  have HK0 : Hid (Kp [] w W0) := by rw [hW0]; show Kp _ _ _; (repeat (first | exact Kp.refl _ _ | assumption | refine Kp.drew ?_ | refine Kp.drewN ?_ _ | refine Kp.alloc ?_ _ | (refine Kp.setCell ?_ (by first | (left; simp; done) | (right; simp; try omega)) _) | (refine Kp.trans' ?_ (by assumption) (by simp; try omega))))
  clear hW0
  go_loopw [6, 7, 8, 9, 10, 11, 12, 13, 14, 15] (fun u n i _ _ _ _ _ _ _ wr => ∃ (j : Nat) (l : Value), j ≤ N ∧ i = .int .i64 j ∧ l = u ∧ n = .int .i64 (sumTo s o j : Nat) ∧ Hid (errTo s o j = 0 ∧ WFl wr W0.heap.size l (X.take j) ∧ Kp [] W0 wr)) (fun _ _ i _ _ _ _ _ _ _ _ => N - (intOf i).toNat)
  case atStart => exact ⟨0, _, by omega, rfl, rfl, rfl, rfl, WFl.nil _ _, Kp.refl _ _⟩
  case round =>
    obtain ⟨j, l, hj, rfl, rfl, rfl, HJ⟩ := hrel
    have HKW : Hid (Kp [] w wr) := HK0.out.trans HJ.out.2.2
    have HS : Hid (ScAt wr w.heap.size s) := HS0.out.kp0 HJ.out.2.2
    by_cases hlt : j < N
    · have hjo : j < o.length := by rw [HN.out]; exact hlt
      obtain ⟨g1, o1, c1, p1, cv, e1, h2, h3, _, _⟩ := (HV.out.kp0 HKW.out).row hjo
      have HSUB := Lib.hid ((HV.out.kp0 HKW.out).sub hjo e1)
      rw [HN.out] at e1 h2
      cases e1
      have hONE := HONE.out j hlt
      have HRC : Hid (Calls Try.prog 40 #[.slice (some ⟨g1, o1 + j, none⟩) 1 (ca - j)] wr fun r w' => ∃ v', r = .returned v' ∧ IsCvs w' v' (curvesTo (expO [o.getD j []]) 1) ∧ Kp [] wr w' ∧ ∀ b, blockOf v' = some b → wr.heap.size ≤ b ∧ b < w'.heap.size) := rcurves_calls _ [o.getD j []] wr HSUB.out hONE
      have HCLJ := Lib.hid (HCL.out j hlt)
      have HTK := Lib.hid (HTK0.out j hlt)
      have HSJ := Lib.hid (HSM.out j hj)
      have HSN : Hid (sumTo s o (j + 1) = sumTo s o j + (flatC s (o.getD j [])).length) := rfl
      have HEN : Hid (errTo s o (j + 1) = errC s (o.getD j [])) := if_pos HJ.out.1
      have HKE := Lib.hid (HKEEP.out (j + 1) (by omega))
      have HKD := Lib.hid (curvesTo_kind (expO [o.getD j []]) 1)
      rw [show flatC s (o.getD j []) = ctrS s (curvesTo (expO [o.getD j []]) 1) from rfl] at HSN HTK
      rw [show errC s (o.getD j []) = ctrE s 0 (curvesTo (expO [o.getD j []]) 1) from rfl] at HEN
      generalize curvesTo (expO [o.getD j []]) 1 = L at *
      have HLL : Hid (∀ m, m ≤ L.length → (ctrS s (L.take m)).length ≤ 2097408) := fun m hm => by
        have h1 := ctrS_len s (L.take m)
        have h2 := HCLJ.out
        rw [List.length_take] at h1
        have h3 : min m L.length ≤ 8193 := by omega
        omega
      have HTL : Hid ((X.take j).length = j) := by show _ = _; rw [List.length_take, HXL.out]; omega
      obtain ⟨vs, HW⟩ : ∃ vs, Hid (WFs wr W0.heap.size l vs (X.take j)) := by obtain ⟨vs, h⟩ := HJ.out.2.1; exact ⟨vs, h⟩
      have hr := HW.out.1
      rw [HTL.out] at hr
      obtain ⟨pl, cl, hl⟩ := slice_own hr
      subst hl
      clear hONE hjo HSUB hr
      go_wp2_with fail
      refine HRC.out.mono ?_; rintro r w2 ⟨v2, rfl, hcv, hk2, hb2⟩
      obtain ⟨p2, c2, rfl⟩ := hcv.form
      have HW2 : Hid (WFs w2 W0.heap.size (.slice pl j cl) vs (X.take j)) := HW.out.kp0 hk2
      have HK02 : Hid (Kp [] W0 w2) := HJ.out.2.2.trans hk2
      have HCV := Lib.hid hcv
      have hsr : wr.heap.size ≤ w2.heap.size := hk2.size
      have hs0 : W0.heap.size ≤ wr.heap.size := HJ.out.2.2.size
      have HOB : Hid (∀ b, (Value.slice pl j cl).ownBlock = some b → b < w2.heap.size) := fun b hb => by have h := HW2.out.1; exact (h.lt b hb).2
      have HE0 : Hid (errTo s o j = 0) := HJ.out.1
      obtain ⟨NL, hNL⟩ : ∃ NL, L.length = NL := ⟨_, rfl⟩
      have HNL := Lib.hid hNL
      rw [hNL] at HCV HCLJ HLL ⊢
      clear hcv hk2 hb2 HRC HJ HW hNL
      go_wp2_with fail
      go_loopw [10, 11, 12, 13, 14, 15] (fun u k _ _ _ _ wa => ∃ (m : Nat) (c : Value), m ≤ NL ∧ k = .int .i64 m ∧ c = u ∧ Hid (RlSt w2 wa s L w2.heap.size c m)) (fun _ k _ _ _ _ _ => NL - (intOf k).toNat)
      case atStart => exact ⟨0, _, by omega, rfl, rfl, rfl, World.ownsRow_nil _ _ _ _, Kp.refl _ _⟩
      case round =>
        rename World => wa
        obtain ⟨m, c, hm, rfl, rfl, HM⟩ := hrel
        have HK2A : Hid (Kp [] w2 wa) := HM.out.2.2
        by_cases hml : m < NL
        · have hmL : m < L.length := by rw [HNL.out]; exact hml
          obtain ⟨g2, o2, cc, e2, _, _, hcell⟩ := (HCV.out.kp0 HK2A.out).row hmL
          rw [HNL.out] at e2
          cases e2
          have HTC := Lib.hid (take_cv s L hmL)
          have hq := HKD.out (L.getD m cv0) (by rw [List.getD_eq_getElem?_getD, List.getElem?_eq_getElem hmL]; exact List.getElem_mem _)
          have HBO1 := Lib.hid (HBO.out (L.getD m cv0) hq)
          have HBD := Lib.hid (fun h => bow_dots (s := s) hq h)
          have HBCq := HBC.out (L.getD m cv0)
          have HSA : Hid (ScAt wa w.heap.size s) := HS0.out.kp0 (HK02.out.trans HK2A.out)
          have HLM := HLL.out m hm
          have HAZ := Lib.hid HM.out.1
          have hrow := HM.out.2.1
          generalize ctrS s (L.take m) = A at *
          obtain ⟨q, hqe⟩ : ∃ q, L.getD m cv0 = q := ⟨_, rfl⟩
          rw [hqe] at HTC HBO1 HBD HBCq hcell
          obtain ⟨b, hbe⟩ : ∃ b, bowR s q = b := ⟨_, rfl⟩
          have HBE : Hid (bowE s q = 0 → b = bowS s q) := fun h => by rw [← hbe]; unfold bowR; rw [if_pos h]
          rw [hbe] at HBO1
          obtain ⟨AL, hAL⟩ : ∃ AL, A.length = AL := ⟨_, rfl⟩
          have HAL := Lib.hid hAL
          rw [hAL] at hrow HLM
          obtain ⟨pc, qc, rfl⟩ := slice_own hrow
          have HROW := Lib.hid hrow
          have HQK := Lib.hid hq
          clear hq hqe hbe hrow hAL hmL HM
          obtain ⟨E, hEe⟩ : ∃ E, bowE s q = E := ⟨_, rfl⟩
          rw [hEe] at HBO1 HBE HBCq HBD
          have HEE := Lib.hid hEe
          clear hEe
          rw [show bowV b = .agg #[.int .i64 b.k, .int .i64 b.a.1, .int .i64 b.a.2, .int .i64 b.b.1, .int .i64 b.b.2, .int .i64 b.c.1, .int .i64 b.c.2, .int .i64 b.d.1, .int .i64 b.d.2] from rfl, show cvV q = .agg #[.int .i64 q.k, .int .i64 q.a.x, .int .i64 q.a.y, .int .i64 q.a.k, .int .i64 q.b.x, .int .i64 q.b.y, .int .i64 q.b.k, .int .i64 q.c.x, .int .i64 q.c.y, .int .i64 q.c.k, .int .i64 q.d.x, .int .i64 q.d.y, .int .i64 q.d.k] from rfl] at HBO1
          have HKC : Hid (∀ w', Kp [] wa w' → (w'.cell? ⟨w.heap.size, 0, none⟩ = some (.int .i64 s.u) ∧ w'.cell? ⟨w.heap.size, 1, none⟩ = some (.int .i64 s.p) ∧ w'.cell? ⟨w.heap.size, 2, none⟩ = some (.int .i64 s.fx) ∧ w'.cell? ⟨w.heap.size, 3, none⟩ = some (.int .i64 s.fy)) ∧ w'.cell? ⟨g2, o2 + m * 13, none⟩ = some (.int .i64 q.k) ∧ w'.cell? ⟨g2, o2 + m * 13 + 1, none⟩ = some (.int .i64 q.a.x) ∧ w'.cell? ⟨g2, o2 + m * 13 + 2, none⟩ = some (.int .i64 q.a.y) ∧ w'.cell? ⟨g2, o2 + m * 13 + 3, none⟩ = some (.int .i64 q.a.k) ∧ w'.cell? ⟨g2, o2 + m * 13 + 4, none⟩ = some (.int .i64 q.b.x) ∧ w'.cell? ⟨g2, o2 + m * 13 + 5, none⟩ = some (.int .i64 q.b.y) ∧ w'.cell? ⟨g2, o2 + m * 13 + 6, none⟩ = some (.int .i64 q.b.k) ∧ w'.cell? ⟨g2, o2 + m * 13 + 7, none⟩ = some (.int .i64 q.c.x) ∧ w'.cell? ⟨g2, o2 + m * 13 + 8, none⟩ = some (.int .i64 q.c.y) ∧ w'.cell? ⟨g2, o2 + m * 13 + 9, none⟩ = some (.int .i64 q.c.k) ∧ w'.cell? ⟨g2, o2 + m * 13 + 10, none⟩ = some (.int .i64 q.d.x) ∧ w'.cell? ⟨g2, o2 + m * 13 + 11, none⟩ = some (.int .i64 q.d.y) ∧ w'.cell? ⟨g2, o2 + m * 13 + 12, none⟩ = some (.int .i64 q.d.k)) := fun w' hk => by
            obtain ⟨b0, b1, b2, b3⟩ := (HSA.out.kp0 hk).cells
            refine ⟨⟨b0, b1, b2, b3⟩, hk.cell (hcell 0 _ rfl) (by simp), hk.cell (hcell 1 _ rfl) (by simp), hk.cell (hcell 2 _ rfl) (by simp), hk.cell (hcell 3 _ rfl) (by simp), hk.cell (hcell 4 _ rfl) (by simp), hk.cell (hcell 5 _ rfl) (by simp), hk.cell (hcell 6 _ rfl) (by simp), hk.cell (hcell 7 _ rfl) (by simp), hk.cell (hcell 8 _ rfl) (by simp), hk.cell (hcell 9 _ rfl) (by simp), hk.cell (hcell 10 _ rfl) (by simp), hk.cell (hcell 11 _ rfl) (by simp), hk.cell (hcell 12 _ rfl) (by simp)⟩
          clear hcell
          go_wp2_with fail
          go_upto_region 12 with fail
          go_cut [12, 13] from 28 to 59 (fun s12 s13 wx => ∃ D, s12 = .pointer (some ⟨D, 0, none⟩) ∧ s13 = .int .i64 E ∧ Hid (BowAt wx D b ∧ Kp [] wa wx))
          case first =>
            obtain ⟨⟨b0, b1, b2, b3⟩, x0, x1, x2, x3, x4, x5, x6, x7, x8, x9, x10, x11, x12⟩ := HKC.out wa (Kp.refl _ _)
            have hz0 : (wa.alloc (.cells #[.int .i64 0, .int .i64 0, .int .i64 0, .int .i64 0, .int .i64 0, .int .i64 0, .int .i64 0, .int .i64 0, .int .i64 0] 71)).heap[wa.heap.size]? = some (.cells #[.int .i64 0, .int .i64 0, .int .i64 0, .int .i64 0, .int .i64 0, .int .i64 0, .int .i64 0, .int .i64 0, .int .i64 0] 71) := heap_alloc_new wa _
            have hz1 : (wa.alloc (.cells #[.int .i64 0, .int .i64 0, .int .i64 0, .int .i64 0, .int .i64 0, .int .i64 0, .int .i64 0, .int .i64 0, .int .i64 0] 71)).drew.heap[wa.heap.size]? = some (.cells #[.int .i64 0, .int .i64 0, .int .i64 0, .int .i64 0, .int .i64 0, .int .i64 0, .int .i64 0, .int .i64 0, .int .i64 0] 71) := heap_alloc_new wa _
            go_region_held3 (fun w' => (w'.cell? ⟨w.heap.size, 0, none⟩ = some (.int .i64 s.u) ∧ w'.cell? ⟨w.heap.size, 1, none⟩ = some (.int .i64 s.p) ∧ w'.cell? ⟨w.heap.size, 2, none⟩ = some (.int .i64 s.fx) ∧ w'.cell? ⟨w.heap.size, 3, none⟩ = some (.int .i64 s.fy)) ∧ w'.cell? ⟨g2, o2 + m * 13, none⟩ = some (.int .i64 q.k) ∧ w'.cell? ⟨g2, o2 + m * 13 + 1, none⟩ = some (.int .i64 q.a.x) ∧ w'.cell? ⟨g2, o2 + m * 13 + 2, none⟩ = some (.int .i64 q.a.y) ∧ w'.cell? ⟨g2, o2 + m * 13 + 3, none⟩ = some (.int .i64 q.a.k) ∧ w'.cell? ⟨g2, o2 + m * 13 + 4, none⟩ = some (.int .i64 q.b.x) ∧ w'.cell? ⟨g2, o2 + m * 13 + 5, none⟩ = some (.int .i64 q.b.y) ∧ w'.cell? ⟨g2, o2 + m * 13 + 6, none⟩ = some (.int .i64 q.b.k) ∧ w'.cell? ⟨g2, o2 + m * 13 + 7, none⟩ = some (.int .i64 q.c.x) ∧ w'.cell? ⟨g2, o2 + m * 13 + 8, none⟩ = some (.int .i64 q.c.y) ∧ w'.cell? ⟨g2, o2 + m * 13 + 9, none⟩ = some (.int .i64 q.c.k) ∧ w'.cell? ⟨g2, o2 + m * 13 + 10, none⟩ = some (.int .i64 q.d.x) ∧ w'.cell? ⟨g2, o2 + m * 13 + 11, none⟩ = some (.int .i64 q.d.y) ∧ w'.cell? ⟨g2, o2 + m * 13 + 12, none⟩ = some (.int .i64 q.d.k)) (with_reducible (refine HKC.out _ ?_; (repeat (first | assumption | exact Kp.refl _ _ | refine Kp.alloc ?_ _ | refine Kp.drew ?_ | refine Kp.drewN ?_ _ | refine Kp.setCell ?_ (.inr (by first | exact Nat.le_refl _ | exact hA1.size)) _)); done))
              ((go_at_call 41
                with_reducible refine (HBO1.out _).mono ?_
                rintro r x1 ⟨rfl, hk1⟩
                have hA1 : Kp [] wa x1 := Kp.trans (by ((repeat (first | exact Kp.refl _ _ | assumption | refine Kp.drew ?_ | refine Kp.drewN ?_ _ | refine Kp.alloc ?_ _)); done)) hk1
                try (have hy0 : x1.heap[wa.heap.size]? = some (.cells #[.int .i64 0, .int .i64 0, .int .i64 0, .int .i64 0, .int .i64 0, .int .i64 0, .int .i64 0, .int .i64 0, .int .i64 0] 71) := (by first | with_reducible exact hk1.heap hz0 List.not_mem_nil | with_reducible exact hk1.heap hz1 List.not_mem_nil); obtain ⟨⟨y0, y1, y2, y3, y4, y5, y6, y7, y8⟩, g0, g1, g2, g3, g4, g5, g6, g7, g8⟩ := bow0_cells hy0)))
            all_goals go_wp2_with fail
            all_goals go_meet
            · exact ⟨_, rfl, rfl, heap_alloc_new _ _, hA1.alloc _⟩
            · exact ⟨_, rfl, rfl, BowAt.put9 (q0 := bw0) hy0 b, put9_kp hA1 (Nat.le_refl _) b⟩
          obtain ⟨D, rfl, rfl, HD⟩ := hcut
          clear HKC HBO1
          rcases HBCq with rfl | rfl
          · obtain ⟨hmw, hbd, hp256⟩ := HBD.out rfl
            have hbS := HBE.out rfl
            rw [← hbS] at hmw hbd hp256
            have HPI := Lib.hid (rpieces_calls b hmw)
            have HSTA : Hid (ctrS s (L.take (m + 1)) = A ++ bowDots b) := by show _ = _; rw [HTC.out.1, ← hbS]
            have HSTE : Hid (ctrE s 0 (L.take (m + 1)) = 0) := HTC.out.2 0 HAZ.out HEE.out
            rw [hbd] at HSTA
            obtain ⟨P, hP⟩ : ∃ P, piecesQ (needsQ b) = P := ⟨_, rfl⟩
            rw [hP] at HSTA HPI hp256
            have HAT : Hid (∀ (n : Nat), n < P → ∀ W, Calls Try.prog 43 #[bowV b, .int .i64 ((n : Int) + 1), .int .i64 P] W fun e w' => e = .returned (dotV (atQ b ((n : Int) + 1) P)) ∧ Kp [] W w') := fun n hn W => rat_calls b hmw _ _ (by omega) (by omega) (by omega) (by omega) W
            rw [show bowV b = .agg #[.int .i64 b.k, .int .i64 b.a.1, .int .i64 b.a.2, .int .i64 b.b.1, .int .i64 b.b.2, .int .i64 b.c.1, .int .i64 b.c.2, .int .i64 b.d.1, .int .i64 b.d.2] from rfl] at HPI HAT
            have HFS : Hid (∀ n, uptoF (fun t => atQ b ((t : Int) + 1) P) (n + 1) = uptoF (fun t => atQ b ((t : Int) + 1) P) n ++ [atQ b ((n : Int) + 1) P]) := fun n => uptoF_succ _ n
            have HFL : Hid (∀ n, (A ++ uptoF (fun t => atQ b ((t : Int) + 1) P) n).length = AL + n) := fun n => by rw [List.length_append, uptoF_length, HAL.out]
            have HR0 : Hid (wc.ownsRow w2.heap.size 27 2 (.slice pc AL qc) (AL + 0) (pairCells (A ++ uptoF (fun t => atQ b ((t : Int) + 1) P) 0))) := by
              have e : A ++ uptoF (fun t => atQ b ((t : Int) + 1) P) 0 = A := by unfold uptoF; simp
              show World.ownsRow _ _ _ _ _ _ _
              rw [e]; exact HD.out.2.row HROW.out (by simp)
            obtain ⟨f, hf⟩ : ∃ f, f = uptoF (fun t => atQ b ((t : Int) + 1) P) := ⟨_, rfl⟩
            rw [← hf] at HSTA HFS HFL HR0
            have HDB : Hid (BowAt wc D b) := HD.out.1
            have HKC2 : Hid (Kp [] w2 wc) := HK2A.out.trans HD.out.2
            have hNL8 := HCLJ.out
            obtain ⟨b0, b1, b2, b3, b4, b5, b6, b7, b8⟩ := HDB.out.cells
            clear hmw hbd hbS hP hf HBD HBE HTC HD HQK HROW
            go_wp2_with fail
            refine (HPI.out _).mono ?_; rintro e wp ⟨rfl, hkp⟩
            clear b0 b1 b2 b3 b4 b5 b6 b7 b8
            replace HR0 : Hid (wp.ownsRow w2.heap.size 27 2 (.slice pc AL qc) (AL + 0) (pairCells (A ++ f 0))) := hkp.row HR0.out (by simp)
            replace HDB : Hid (BowAt wp D b) := HDB.out.kp hkp (by simp)
            replace HKC2 : Hid (Kp [] w2 wp) := HKC2.out.trans hkp
            clear hkp HPI
            go_wp2_with fail
            go_loopw [10, 15] (fun u t wb => ∃ (n : Nat) (c3 : Value), n ≤ P ∧ t = .int .i64 ((n : Int) + 1) ∧ c3 = u ∧ Hid (wb.ownsRow w2.heap.size 27 2 c3 (AL + n) (pairCells (A ++ f n)) ∧ BowAt wb D b ∧ Kp [] w2 wb)) (fun _ t _ => P + 1 - (intOf t).toNat)
            case atStart => exact ⟨0, _, by omega, by first | rfl | simp, rfl, HR0.out, HDB.out, HKC2.out⟩
            case round =>
              rename World => wb
              obtain ⟨n, c3, hn, rfl, rfl, HB⟩ := hrel
              by_cases hnp : n < P
              · have hrow := HB.out.1
                obtain ⟨p3, q3, rfl⟩ := slice_own hrow
                have HROW := Lib.hid hrow
                have HKB : Hid (Kp [] w2 wb) := HB.out.2.2
                have HDN : Hid (BowAt wb D b) := HB.out.2.1
                have HAn := Lib.hid (HAT.out n hnp)
                have HFn := Lib.hid (HFS.out n)
                have HLn := Lib.hid (HFL.out n)
                obtain ⟨b0, b1, b2, b3, b4, b5, b6, b7, b8⟩ := HDN.out.cells
                obtain ⟨⟨dx, dy⟩, hd⟩ : ∃ d, atQ b ((n : Int) + 1) P = d := ⟨_, rfl⟩
                rw [hd] at HAn HFn
                rw [show dotV (dx, dy) = .agg #[.int .i64 dx, .int .i64 dy] from rfl] at HAn
                have d1 : decide ((n : Int) + 1 ≤ (P : Int)) = true := decide_eq_true (by omega)
                clear hd hrow HB
                go_wp2_with fail
                refine (HAn.out _).mono ?_; rintro e w3 ⟨rfl, hk3⟩
                have HK3 : Hid (Kp [] w2 w3) := HKB.out.trans hk3
                have HD3 : Hid (BowAt w3 D b) := HDN.out.kp hk3 (by simp)
                have HR3 : Hid (w3.ownsRow w2.heap.size 27 2 (.slice p3 (AL + n) q3) (AL + n) (pairCells (A ++ f n))) := hk3.row HROW.out (by simp)
                have hsz : w2.heap.size ≤ w3.heap.size := HK3.out.size
                clear hk3 HROW HDN b0 b1 b2 b3 b4 b5 b6 b7 b8
                go_wp2_with (at_builtin; refine wpList_pushD rfl _ _ rfl w2.heap.size _ (A ++ f n) (AL + n) HLn.out (by rfl) (Kp.row (S := []) (by (repeat (first | exact Kp.refl _ _ | assumption | refine Kp.drew ?_ | refine Kp.drewN ?_ _ | refine Kp.alloc ?_ _ | (refine Kp.setCell ?_ (by first | (left; simp; done) | (right; simp; try omega)) _) | (refine Kp.trans' ?_ (by assumption) (by simp; try omega))))) HR3.out (by simp)) _ 1 (dx, dy) rfl (heap_alloc_new _ _) ?hb1 ?hb2 ?hk)
                case hb1 => omega
                case hb2 => simp; omega
                case hk =>
                intro v6 w6 hown6 hgr6 hkb6
                obtain ⟨p6, q6, rfl⟩ := slice_own hown6
                have HF6 : Hid (w6.ownsRow w2.heap.size 27 2 (.slice p6 (AL + n + 1) q6) (AL + (n + 1)) (pairCells (A ++ f (n + 1))) ∧ BowAt w6 D b ∧ Kp [] w2 w6) := by
                  show _ ∧ _ ∧ _
                  have hka : Kp [] w3 (w3.alloc (.cells #[.int .i64 dx, .int .i64 dy] 27)) := (Kp.refl _ _).alloc _
                  have hnb := own_not_bow (hka.row HR3.out (by simp)) (HD3.out.kp hka (by simp))
                  rw [HFn.out]
                  exact ⟨hown6, (HD3.out.kp hka (by simp)).kp hkb6 (by simpa using hnb), hgr6 w2 (Nat.le_refl _) (HK3.out.trans hka)⟩
                clear hown6 hgr6 hkb6 HR3 HK3 HD3
                go_wp2_with fail
                go_roundw
                case rel => first | exact ⟨n + 1, _, by omega, int_eq' (by omega), rfl, HF6⟩ | ((repeat apply Exists.intro); exact ⟨⟨n + 1, _, by omega, int_eq' (by omega), rfl, HF6⟩, rfl⟩)
                case measure => simp [intOf] <;> omega
              · obtain rfl : n = P := by omega
                have d1 : decide ((n : Int) + 1 ≤ (n : Int)) = false := decide_eq_false (by omega)
                have HF : Hid (RlSt w2 wb s L w2.heap.size c3 (m + 1)) := by
                  refine ⟨HSTE.out, ?_, HB.out.2.2⟩
                  rw [HSTA.out, HFL.out]
                  exact HB.out.1
                clear HB
                go_wp2_with fail
                go_roundw
                case rel => first | exact ⟨m + 1, _, by omega, int_eq' (by omega), rfl, HF⟩ | ((repeat apply Exists.intro); exact ⟨⟨m + 1, _, by omega, int_eq' (by omega), rfl, HF⟩, rfl⟩)
                case measure => simp [intOf] <;> omega
          · have HSTE : Hid (ctrE s 0 (L.take (m + 1)) = 10) := HTC.out.2 10 HAZ.out HEE.out
            have HB : Hid (RES = ([], 10)) := by
              have h1 : ctrE s 0 L = 10 := by rw [ctrE_stop s L (m + 1) (by rw [HSTE.out]; decide)]; exact HSTE.out
              have h2 : errTo s o (j + 1) = 10 := by rw [HEN.out]; exact h1
              exact HRE.out 10 (by decide) (by rw [HKE.out (by rw [h2]; decide)]; exact h2)
            have HKF : Hid (Kp [] w wc) := HK0.out.trans (HK02.out.trans (HK2A.out.trans HD.out.2))
            clear HBD HBE HTC HD HQK HROW
            go_wp2_with fail
            go_ret2
            rw [HB.out]
            exact ⟨_, rfl, IsFl.nil _ _, HKF.out⟩
        · obtain rfl : m = NL := by omega
          have HTA : Hid (L.take m = L) := List.take_of_length_le (by rw [HNL.out]; exact Nat.le_refl _)
          have hrow := HM.out.2.1
          have hlen := HLL.out m hm
          have hez := HM.out.1
          rw [HTA.out] at hrow hez hlen
          have HEZ : Hid (errTo s o (j + 1) = 0) := by show _ = _; rw [HEN.out]; exact hez
          clear hez
          generalize ctrS s L = fc at *
          obtain ⟨F, hFl⟩ : ∃ F, fc.length = F := ⟨_, rfl⟩
          have HFF := Lib.hid hFl
          have HSX := Lib.hid HSN.out
          rw [hFl] at HSX hrow hlen
          have hS1 : sumTo s o j ≤ 536936448 := by have := HSJ.out; omega
          obtain ⟨pv, qv, hv1⟩ := slice_own hrow
          subst hv1
          have HR3 := Lib.hid hrow
          have HW3 : Hid (WFs wa W0.heap.size (.slice pl j cl) vs (X.take j)) := HW2.out.kp0 HM.out.2.2
          have HK3 : Hid (Kp [] W0 wa) := HK02.out.trans HM.out.2.2
          have hs34 : w2.heap.size ≤ wa.heap.size := HM.out.2.2.size
          have HR1' : Hid (wa.ownsRow W0.heap.size 61 1 (.slice pl j cl) j vs) := by have h := HW3.out.1; rw [HTL.out] at h; exact h
          have hvl : vs.length = j := by have := HR1'.out.1; omega
          generalize sumTo s o j = Sj at *
          clear hrow HM HSN HSJ HEN HKE hFl HW2
          go_wp2_with (at_builtin; refine wpList_append_lies _ rfl _ _ 39 rfl W0.heap.size 61 i0 (.slice none 0 0) 1 24 Try.underlying39 hi hzz0 hzz1 hzz2 rfl (by decide) (.slice pl j cl) j vs rfl ?hown ⟨wa.heap.size, 0, none⟩ 1 1 [.slice pv F qv] rfl rfl ?hnews ?hone (by decide) ?hm ?hb1 ?hb2 (wa.heap.size + 1) ?hH ?hk)
          case hown => exact Kp.row (S := []) (by (repeat (first | exact Kp.refl _ _ | assumption | refine Kp.drew ?_ | refine Kp.drewN ?_ _ | refine Kp.alloc ?_ _ | (refine Kp.setCell ?_ (by first | (left; simp; done) | (right; simp; try omega)) _) | (refine Kp.trans' ?_ (by assumption) (by simp; try omega))))) HR1'.out (by simp)
          case hnews => exact World.news_of_block (heap_alloc_new wa _)
          case hone => intro u hu; simp at hu; subst hu; rfl
          case hm => unfold maxLen; omega
          case hb1 => omega
          case hb2 => simp; omega
          case hH => simp
          case hk =>
          intro g4 c4 w4 hown hgr hat hlt4
          have hka : Kp [] wa (wa.alloc (.cells #[.slice pv F qv] 61)) := by (repeat (first | exact Kp.refl _ _ | assumption | refine Kp.drew ?_ | refine Kp.drewN ?_ _ | refine Kp.alloc ?_ _ | (refine Kp.setCell ?_ (by first | (left; simp; done) | (right; simp; try omega)) _) | (refine Kp.trans' ?_ (by assumption) (by simp; try omega))))
          have HW5 := HW3.out.kp0 hka
          have hip : IsPairs wa (.slice pv F qv) fc := by
            show Reads 2 wa (.slice pv F qv) fc.length _
            rw [HFF.out]; exact Reads.owned HR3.out
          have hpush := WFs.push (H := wa.heap.size + 1) HW5 (hip.kp0 hka) (fun b hb => by
            have h9 := HR3.out.lt b (blockOf_own hb)
            exact ⟨fun e => by have := HOB.out b e; omega, by simp; omega, by omega⟩) (by rw [HTL.out]; exact hown) hgr hat (by simp)
          rw [HTL.out, ← HTK.out] at hpush
          have HPU : Hid (errTo s o (j + 1) = 0 ∧ WFl w4 W0.heap.size (.slice (some ⟨g4, 0, none⟩) (j + 1) c4) (X.take (j + 1)) ∧ Kp [] W0 w4) := ⟨HEZ.out, ⟨_, hpush⟩, Kp.grown (HK3.out.trans0 hka) hgr (fun k hk => .inr (own_ge HR1'.out k hk))⟩
          clear hown hgr hat hka HW5 hpush hlt4 hip
          go_wp2_with fail
          go_roundw
          case rel => first | exact ⟨j + 1, _, by omega, int_eq' (by omega), rfl, int_eq' (by have := HSX.out; omega), HPU⟩ | ((repeat apply Exists.intro); exact ⟨⟨j + 1, _, by omega, int_eq' (by omega), rfl, int_eq' (by have := HSX.out; omega), HPU⟩, rfl⟩)
          case measure => simp [intOf] <;> omega
    · obtain rfl : j = N := by omega
      have HE := Lib.hid HJ.out
      rw [List.take_of_length_le (by rw [HXL.out]; exact Nat.le_refl _)] at HE
      have HWF : Hid (IsFl wr l X) := HE.out.2.1.out
      have HZ0 := Lib.hid HE.out.1
      have hS2 : sumTo s o j ≤ 536936448 := by have := HSM.out j hj; omega
      by_cases hbig : 65536 < sumTo s o j
      · have HB : Hid (RES = ([], 3)) := HRL.out HZ0.out hbig
        have hd : decide ((65536 : Int) < (sumTo s o j : Int)) = true := decide_eq_true (by omega)
        generalize sumTo s o j = Sj at *
        clear HJ HE
        go_wp2_with fail
        go_ret2
        rw [HB.out]
        exact ⟨_, rfl, IsFl.nil _ _, HKW.out⟩
      · have HB : Hid (RES = (X, 0)) := HR0.out HZ0.out hbig
        have hd : decide ((65536 : Int) < (sumTo s o j : Int)) = false := decide_eq_false (by omega)
        generalize sumTo s o j = Sj at *
        clear HJ HE
        go_wp2_with fail
        go_ret2
        rw [HB.out]
        exact ⟨_, rfl, HWF.out, HKW.out⟩
end Go.Proofs.Ytpbmefojhgcniaa

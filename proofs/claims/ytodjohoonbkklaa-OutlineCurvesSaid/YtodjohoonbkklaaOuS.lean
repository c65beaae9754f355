/- outline: explicit (the walk). (Written by wip/outline/genous.py.) -/
import Derived.Test.YtodjohoonbkklaaOuR
import Derived.Deep.RegionHeld3
namespace Go.Proofs.Ytodjohoonbkklaa
open Go.RowKit
set_option linter.unusedVariables false
set_option linter.unusedSimpArgs false
theorem ps_some {w : World} {base : Nat} {v : Value} {l : List Pn} (h : w.ownsRow base 61 3 v l.length (psCells l)) (h0 : 0 < l.length) : ∃ g c, v = .slice (some ⟨g, 0, none⟩) l.length c ∧ base ≤ g ∧ g < w.heap.size ∧ l.length ≤ c ∧ c ≤ maxLen := by
  rcases h.2 with ⟨_, e⟩ | ⟨g, cap, cur, rfl, h1, h2, h3, h4, _⟩
  · omega
  · exact ⟨g, cap, rfl, h1, (Array.getElem?_eq_some_iff.1 h2).1, h3, h4⟩
section
variable {w : World} {ops : Array Oper} {rest : List Oper} {o : Oper} {a : Act} {Q : Exit → Act → World → Prop}
theorem wpList_growP (hgd : o.guard = none) (s x : Operand) (ho : o.op = .call { callee := .builtin .append, args := #[s, x], argTypes := #[96, 96] })
    (base : Nat) (v : Value) (l : List Pn) (hs : a.eval s = v) (hg : GrowR w base v l) (G C m : Nat) (news : List Pn) (hm : news.length = m) (hm0 : 0 < m)
    (hx : a.eval x = .slice (some ⟨G, 0, none⟩) m C) (hc : ∀ j u, (psCells news)[j]? = some u → w.cell? ⟨G, 0 + j, none⟩ = some u)
    (hl : (l.length + m) * 24 ≤ 140737488355328) (hbase : base ≤ w.heap.size)
    (h : ∀ v' w', w'.ownsRow base 61 3 v' (l.length + m) (psCells (l ++ news)) → (∀ w0, w0.heap.size ≤ base → Kp [] w0 w → Kp [] w0 w') → wpList Try.prog ops Q rest (a.put o.dst v') w') : wpList Try.prog ops Q (o :: rest) a w := by
  obtain ⟨i, hi, hz, hsize, hby⟩ := info_parts infoPn
  subst hm
  have hnl : (psCells news).length = news.length * 3 := psCells_length news
  have hll : (psCells l).length = l.length * 3 := psCells_length l
  rcases hg with hown | ⟨g, rfl, h1, h2⟩
  · refine wpList_append_own w hgd s x _ ho base 61 i (.agg #[.int .i64 0, .int .i64 0, .int .i64 0]) 3 24 Try.underlying96 hi hz hsize hby rfl (by decide) v l.length (psCells l) hs hown ⟨G, 0, none⟩ news.length C (psCells news) hx hnl (by intro j u hj; rw [add_lit]; exact hc j u hj) (oneCell_ps news) (by unfold maxLen; omega) hl hbase ?_
    intro v' w' r1 r2 _
    exact h v' w' (by rw [psCells_app]; exact r1) (fun w0 h0 hk => Kp.grown hk r2 (fun k hk' => .inr (by have := own_ge hown k hk'; omega)))
  · refine wpList_append_grows w hgd s x _ ho 61 i (.agg #[.int .i64 0, .int .i64 0, .int .i64 0]) 3 24 Try.underlying96 hi hz hsize hby rfl (by decide) (some ⟨g, 0, none⟩) l.length l.length (psCells l) hs (fun hn => by cases hn) hll (fun b hb j u hj => ?_) ⟨G, 0, none⟩ news.length C (psCells news) hx hnl (by intro j u hj; rw [add_lit]; exact hc j u hj) (oneCell_ps news) (by omega) (by unfold maxLen; omega) hl ?_
    · cases hb; rw [add_lit, Nat.zero_add]; exact h2 j u hj
    · intro v' w' r1 r2
      exact h v' w' (by rw [psCells_app]; exact ⟨r1.1, r1.2.imp_right fun ⟨g, cap, cur, a, b, d⟩ => ⟨g, cap, cur, a, Nat.le_trans hbase b, d⟩⟩) (fun w0 h0 hk => Kp.grown hk r2 (fun k hk' => by cases hk'))
end
theorem GrowR.owned {w : World} {base : Nat} {v : Value} {n : Nat} {l : List Pn} (hn : n = l.length) (h : w.ownsRow base 61 3 v n (psCells l)) : GrowR w base v l := by
  subst hn; exact .inl h
theorem holdT {p : Prop} (h : Unit → p) : p := h ()
theorem expG_mid (c : List Pn) (j : Nat) (h1 : (c.getD (j + 1) pn0).k = 2) (h2 : (c.getD j pn0).k = 2) : expG c (j + 1) = (expG c j ++ [midP (c.getD j pn0) (c.getD (j + 1) pn0)]) ++ [c.getD (j + 1) pn0] := by
  rw [expG, if_pos ⟨h1, h2⟩]
theorem expG_no (c : List Pn) (j : Nat) (h : ¬ ((c.getD (j + 1) pn0).k = 2 ∧ (c.getD j pn0).k = 2)) : expG c (j + 1) = expG c j ++ [c.getD (j + 1) pn0] := by
  rw [expG, if_neg h, List.append_nil]
theorem expG_mid' (c : List Pn) (j : Nat) (hj : 1 ≤ j) (h1 : (c.getD j pn0).k = 2) (h2 : (c.getD (j - 1) pn0).k = 2) : expG c j = (expG c (j - 1) ++ [midP (c.getD (j - 1) pn0) (c.getD j pn0)]) ++ [c.getD j pn0] := by
  obtain ⟨i, rfl⟩ : ∃ i, j = i + 1 := ⟨j - 1, by omega⟩
  exact expG_mid c i h1 h2
theorem expG_no' (c : List Pn) (j : Nat) (hj : 1 ≤ j) (h : ¬ ((c.getD j pn0).k = 2 ∧ (c.getD (j - 1) pn0).k = 2)) : expG c j = expG c (j - 1) ++ [c.getD j pn0] := by
  obtain ⟨i, rfl⟩ : ∃ i, j = i + 1 := ⟨j - 1, by omega⟩
  exact expG_no c i h
theorem lit3 {w W : World} {x y k : Int} (hk : Kp [] (w.alloc (.cells #[.int .i64 x, .int .i64 y, .int .i64 k] 61)) W) : ∀ j u, (psCells [⟨x, y, k⟩])[j]? = some u → W.cell? ⟨w.heap.size, 0 + j, none⟩ = some u := by
  obtain ⟨h0, h1, h2⟩ := pbox hk
  intro j u hu
  have hj : j < 3 := (List.getElem?_eq_some_iff.1 hu).1
  obtain rfl | rfl | rfl : j = 0 ∨ j = 1 ∨ j = 2 := by omega
  · cases hu; exact h0
  · cases hu; exact h1
  · cases hu; exact h2
theorem GrowR.isps {w : World} {base : Nat} {v : Value} {l : List Pn} (h : GrowR w base v l) : IsPs w v l := by
  rcases h with h | ⟨g, rfl, h1, h2⟩
  · exact IsPs.owned rfl h
  · exact ⟨psCells_length l, .inr ⟨g, 0, l.length, rfl, Nat.le_refl _, h1, fun j u hu => by rw [Nat.zero_add]; exact h2 j u hu⟩⟩
set_option maxRecDepth 100000 in
set_option maxHeartbeats 4000000 in
theorem explicit_calls (v : Value) (c : List Pn) (w : World) (h : IsPs w v c) (h0 : 0 < c.length) (hl : c.length ≤ 1048575) (hn : numsP c) :
    Calls Try.prog 84 #[v] w fun e w' => ∃ v', e = .returned v' ∧ IsPs w' v' (expC c) ∧ (∀ b, blockOf v' = some b → w.heap.size ≤ b ∧ b < w'.heap.size) ∧ Kp [] w w' := by
  have HT := Lib.hid (turned_calls v c w h h0 (by omega) hn)
  obtain ⟨pa, ca, rfl⟩ := h.form
  have hT0 := turnP_len c h0
  have HNU := Lib.hid (numsP_turn h0 hn)
  unfold expC
  clear h hn
  generalize c.length = L at *
  generalize turnP c = T at *
  go_enter Try.func84, Try.ntmps84
  go_wp2_with fail
  refine HT.out.mono ?_; rintro e w1 ⟨v1, rfl, hown1, hk1⟩
  obtain ⟨g, c1, rfl, hg1, hg2, hc1, hc2⟩ := ps_some hown1 hT0.1
  have HP : Hid (IsPs w1 (.slice (some ⟨g, 0, none⟩) T.length c1) T) := IsPs.owned rfl hown1
  have HK1 := Lib.hid hk1
  have HG0 : Hid (GrowR w1 w1.heap.size (.slice (some ⟨g, 0, none⟩) 1 1) (expG T 0)) := by
    refine .inr ⟨g, rfl, by simp [expG, maxLen], fun j u hu => ?_⟩
    have ht := (HP.out.take 1 hT0.1).flat j u (by
      rw [show T.take 1 = [T.getD 0 pn0] by
        match T, hT0.1 with
        | p :: l, _ => rfl]; exact hu)
    rwa [Nat.zero_add] at ht
  have HB0 : Hid (∀ b, blockOf (.slice (some ⟨g, 0, none⟩) 1 1) = some b → w.heap.size ≤ b ∧ b < w1.heap.size) := fun b hb => by simp [blockOf] at hb; omega
  obtain ⟨N, hN⟩ : ∃ N, T.length = N := ⟨_, rfl⟩
  have HN := Lib.hid hN
  rw [hN] at hT0 HP hc1 ⊢
  obtain ⟨hT1, hT2⟩ := hT0
  unfold maxLen at hc2
  clear hN hown1 hk1 HT
  have b1 : (1 : Int) ≤ (c1 : Int) := by omega
  have b2 : (1 : Int) ≤ (N : Int) := by omega
  have b3 : 1 ≤ c1 := by omega
  have hww : w.heap.size ≤ w1.heap.size := HK1.out.size
  go_wp2_with fail
  go_loopw [3, 4] (fun u i wr => ∃ j : Nat, 1 ≤ j ∧ j ≤ N ∧ i = .int .i64 (j : Int) ∧ Hid (GrowR wr w1.heap.size u (expG T (j - 1)) ∧ (∀ b, blockOf u = some b → w.heap.size ≤ b ∧ b < wr.heap.size) ∧ Kp [] w1 wr)) (fun _ i _ => N - (intOf i).toNat)
  case atStart => exact ⟨1, by omega, hT1, rfl, HG0.out, HB0.out, Kp.refl _ _⟩
  case round =>
    obtain ⟨j, hj1, hj, rfl, HJ⟩ := hrel
    by_cases hlt : j < N
    · obtain ⟨g1, o1, q1, e1, _, _, x1, y1, k1⟩ := HP.out.row (i := j) (by rw [HN.out]; exact hlt)
      obtain ⟨g2, o2, q2, e2, _, _, x2, y2, k2⟩ := HP.out.row (i := j - 1) (by rw [HN.out]; omega)
      rw [HN.out] at e1 e2
      cases e1; cases e2
      rw [Nat.zero_add] at x1 y1 k1 x2 y2 k2
      have HLEN := Lib.hid (expG_len T (j - 1)).2
      have w1j : IntKind.i64.wrap ((j : Int) - 1) = (j : Int) - 1 := by rw [IntKind.wrap_i64]; omega
      have c1j : ((j : Int) - 1).toNat = j - 1 := by omega
      have c2j : (j : Int) < (N : Int) := by omega
      have c3j : (1 : Int) ≤ (j : Int) := by omega
      have c5j : (j : Int) - 1 < (N : Int) := by omega
      have hNU1 := HNU.out (j) (by rw [HN.out]; exact hlt)
      have hNU2 := HNU.out (j - 1) (by rw [HN.out]; omega)
      have HM := Lib.hid (fun W => mid_calls (T.getD (j - 1) pn0) (T.getD j pn0) W hNU2.1 hNU2.2 hNU1.1 hNU1.2)
      clear hNU1 hNU2
      obtain ⟨pu, cu, hu3⟩ := HJ.out.1.form
      subst hu3
      have HMID := Lib.hid (expG_mid' T j hj1)
      have HNO := Lib.hid (expG_no' T j hj1)
      have hwr : w1.heap.size ≤ wr.heap.size := HJ.out.2.2.size
      have hgr : g < wr.heap.size := by omega
      rw [show pnV (T.getD (j - 1) pn0) = .agg #[.int .i64 (T.getD (j - 1) pn0).x, .int .i64 (T.getD (j - 1) pn0).y, .int .i64 (T.getD (j - 1) pn0).k] from rfl, show pnV (T.getD j pn0) = .agg #[.int .i64 (T.getD j pn0).x, .int .i64 (T.getD j pn0).y, .int .i64 (T.getD j pn0).k] from rfl] at HM
      obtain ⟨M, HMM⟩ : ∃ M, Hid (midP (T.getD (j - 1) pn0) (T.getD j pn0) = M) := ⟨_, rfl⟩
      have HM2 : Hid (∀ (W : World), Calls Try.prog 136 #[.agg #[.int .i64 (T.getD (j - 1) pn0).x, .int .i64 (T.getD (j - 1) pn0).y, .int .i64 (T.getD (j - 1) pn0).k], .agg #[.int .i64 (T.getD j pn0).x, .int .i64 (T.getD j pn0).y, .int .i64 (T.getD j pn0).k]] W fun e w' => e = Ending.returned (.agg #[.int .i64 M.x, .int .i64 M.y, .int .i64 M.k]) ∧ Kp [] W w') := fun W => by
        have := HM.out W; rw [HMM.out] at this; exact this
      rw [HMM.out] at HMID
      clear HM HMM
      obtain ⟨Q1, HQ1⟩ : ∃ Q1, T.getD j pn0 = Q1 := ⟨_, rfl⟩
      obtain ⟨Q2, HQ2⟩ : ∃ Q2, T.getD (j - 1) pn0 = Q2 := ⟨_, rfl⟩
      rw [HQ1] at HMID HNO HM2 x1 y1 k1
      rw [HQ2] at HMID HNO HM2 x2 y2 k2
      clear HQ1 HQ2
      obtain ⟨X1, Y1, K1⟩ := Q1
      obtain ⟨X2, Y2, K2⟩ := Q2
      obtain ⟨mx, my, mk⟩ := M
      dsimp only at HMID HNO HM2 x1 y1 k1 x2 y2 k2
      by_cases hq1 : K1 = 2
      · by_cases hq2 : K2 = 2
        · subst hq1
          subst hq2
          have HEX := Lib.hid (HMID.out rfl rfl)
          clear HMID HNO
          have hkp : Kp [] w1 wr := HJ.out.2.2
          have HGR := Lib.hid HJ.out.1
          have hLL := HLEN.out
          obtain ⟨E, hE⟩ : ∃ E, expG T (j - 1) = E := ⟨_, rfl⟩
          rw [hE] at HEX HGR hLL ⊢
          clear hE HJ HLEN
          obtain ⟨EL, hEL⟩ : ∃ EL, E.length = EL := ⟨_, rfl⟩
          have HEL := Lib.hid hEL
          rw [hEL] at HGR hLL ⊢
          have HC1 : Hid (∀ W, Kp [] w1 W → W.cell? ⟨g, j * 3, none⟩ = some (.int .i64 X1) ∧ W.cell? ⟨g, j * 3 + 1, none⟩ = some (.int .i64 Y1) ∧ W.cell? ⟨g, j * 3 + 2, none⟩ = some (.int .i64 2)) := fun W hW => ⟨hW.cell x1 (by simp), hW.cell y1 (by simp), hW.cell k1 (by simp)⟩
          have HC2 : Hid (∀ W, Kp [] w1 W → W.cell? ⟨g, (j - 1) * 3, none⟩ = some (.int .i64 X2) ∧ W.cell? ⟨g, (j - 1) * 3 + 1, none⟩ = some (.int .i64 Y2) ∧ W.cell? ⟨g, (j - 1) * 3 + 2, none⟩ = some (.int .i64 2)) := fun W hW => ⟨hW.cell x2 (by simp), hW.cell y2 (by simp), hW.cell k2 (by simp)⟩
          clear hEL x1 y1 k1 x2 y2 k2
          obtain ⟨x1, y1, k1⟩ := HC1.out wr hkp
          obtain ⟨x2, y2, k2⟩ := HC2.out wr hkp
          have c4j : ¬ ((j : Int) - 1 < 0) := by omega
          have c6j : (j : Int) - 1 ≤ (N : Int) := by omega
          have c7j : j - 1 < N := by omega
          have d5j : wrap64 ((j : Int) - 1) = (j : Int) - 1 := by unfold wrap64; omega
          go_wp2_with fail
          go_region_held3 (fun w' => w'.cell? ⟨g, (j - 1) * 3, none⟩ = some (.int .i64 X2) ∧ w'.cell? ⟨g, (j - 1) * 3 + 1, none⟩ = some (.int .i64 Y2) ∧ w'.cell? ⟨g, (j - 1) * 3 + 2, none⟩ = some (.int .i64 2) ∧ w'.cell? ⟨g, j * 3, none⟩ = some (.int .i64 X1) ∧ w'.cell? ⟨g, j * 3 + 1, none⟩ = some (.int .i64 Y1) ∧ w'.cell? ⟨g, j * 3 + 2, none⟩ = some (.int .i64 2))
            (first | go_keep | exact ⟨(HC2.out _ hk12).1, (HC2.out _ hk12).2.1, (HC2.out _ hk12).2.2, (HC1.out _ hk12).1, (HC1.out _ hk12).2.1, (HC1.out _ hk12).2.2⟩ | exact ⟨(HC2.out _ hk14).1, (HC2.out _ hk14).2.1, (HC2.out _ hk14).2.2, (HC1.out _ hk14).1, (HC1.out _ hk14).2.1, (HC1.out _ hk14).2.2⟩)
            ((first
              | (go_at_call 136
                 refine (HM2.out _).mono ?_
                 rintro e w2 ⟨rfl, hk2⟩
                 have hk12 : Kp [] w1 w2 := hkp.trans (Kp.trans (by (repeat (first | exact Kp.refl _ _ | assumption | refine Kp.drew ?_ | refine Kp.drewN ?_ _ | refine Kp.alloc ?_ _ | (refine Kp.setCell ?_ (by first | (left; simp; done) | (right; simp; try omega)) _) | (refine Kp.trans' ?_ (by assumption) (by simp; try omega))))) hk2)
                 have hks2 : wr.heap.size ≤ w2.heap.size := by have a1 := hk2.size; simp at a1; omega)
              | (refine step_growP rfl _ _ rfl w1.heap.size (.slice pu EL cu) E (by rfl) (HGR.out.kp0 (Kp.trans (by (repeat (first | exact Kp.refl _ _ | assumption | refine Kp.drew ?_ | refine Kp.drewN ?_ _ | refine Kp.alloc ?_ _ | (refine Kp.setCell ?_ (by first | (left; simp; done) | (right; simp; try omega)) _) | (refine Kp.trans' ?_ (by assumption) (by simp; try omega))))) (Kp.trans hk2 (by (repeat (first | exact Kp.refl _ _ | assumption | refine Kp.drew ?_ | refine Kp.drewN ?_ _ | refine Kp.alloc ?_ _ | (refine Kp.setCell ?_ (by first | (left; simp; done) | (right; simp; try omega)) _) | (refine Kp.trans' ?_ (by assumption) (by simp; try omega)))))))) w2.heap.size 1 1 [⟨mx, my, mk⟩] rfl (by decide) (by rfl) (lit3 (Kp.refl _ _)) (by rw [HEL.out]; omega) (by simp; omega) ?_
                 intro v4 w4 hown4 hgr4
                 have hk14 : Kp [] w1 w4 := hgr4 w1 (Nat.le_refl _) (hk12.trans (by (repeat (first | exact Kp.refl _ _ | assumption | refine Kp.drew ?_ | refine Kp.drewN ?_ _ | refine Kp.alloc ?_ _ | (refine Kp.setCell ?_ (by first | (left; simp; done) | (right; simp; try omega)) _) | (refine Kp.trans' ?_ (by assumption) (by simp; try omega)))))))))
          obtain ⟨p4, q4, rfl⟩ := slice_own hown4
          rw [HEL.out] at hown4 ⊢
          have HGR4 : Hid (GrowR w4 w1.heap.size (.slice p4 (EL + 1) q4) (E ++ [⟨mx, my, mk⟩])) := GrowR.owned (by simp [HEL.out]) hown4
          have HEL4 : Hid ((E ++ [(⟨mx, my, mk⟩ : Pn)]).length = EL + 1) := by show _ = _; simp [HEL.out]
          obtain ⟨x1, y1, k1⟩ := HC1.out w4 hk14
          have hwr4 : w1.heap.size ≤ w4.heap.size := hk14.size
          clear hown4 hgr4 hk12 hk2 hks2 HM2 HGR HEL hkp
          obtain ⟨E4, hE4⟩ : ∃ E4, E ++ [(⟨mx, my, mk⟩ : Pn)] = E4 := ⟨_, rfl⟩
          rw [hE4] at HEX HGR4 HEL4
          clear hE4
          obtain ⟨EL4, hEL4⟩ : ∃ n, EL + 1 = n := ⟨_, rfl⟩
          have hLL4 : EL4 ≤ 2 * (j - 1) + 2 := by omega
          rw [hEL4] at HGR4 HEL4 ⊢
          clear hEL4 c4j c6j c7j d5j
          go_wp2_with (at_builtin; refine holdT ?hh)
          case hh =>
          intro _
          refine wpList_growP rfl _ _ rfl w1.heap.size _ E4 (by rfl) (by first | exact HGR4.out.kp0 (by (repeat (first | exact Kp.refl _ _ | assumption | refine Kp.drew ?_ | refine Kp.drewN ?_ _ | refine Kp.alloc ?_ _ | (refine Kp.setCell ?_ (by first | (left; simp; done) | (right; simp; try omega)) _) | (refine Kp.trans' ?_ (by assumption) (by simp; try omega)))))) w4.heap.size 1 1 [⟨X1, Y1, _⟩] rfl (by decide) rfl (lit3 (Kp.refl _ _)) (by rw [HEL4.out]; omega) (by simp; omega) ?_
          intro v9 w9 hown9 hgr9
          have hk9 : Kp [] w1 w9 := hgr9 w1 (Nat.le_refl _) (hk14.trans (by (repeat (first | exact Kp.refl _ _ | assumption | refine Kp.drew ?_ | refine Kp.drewN ?_ _ | refine Kp.alloc ?_ _ | (refine Kp.setCell ?_ (by first | (left; simp; done) | (right; simp; try omega)) _) | (refine Kp.trans' ?_ (by assumption) (by simp; try omega))))))
          rw [HEL4.out] at hown9
          obtain ⟨p9, q9, rfl⟩ := slice_own hown9
          have HR : Hid (GrowR w9 w1.heap.size (.slice p9 (EL4 + 1) q9) (expG T (j + 1 - 1)) ∧ (∀ b, blockOf (.slice p9 (EL4 + 1) q9) = some b → w.heap.size ≤ b ∧ b < w9.heap.size) ∧ Kp [] w1 w9) := by
            refine ⟨?_, fun b hb => ?_, hk9⟩
            · rw [Nat.add_sub_cancel, HEX.out]; exact GrowR.owned (by simp [HEL4.out]) hown9
            · have := hown9.lt b (blockOf_own hb); omega
          clear hown9 hgr9 hk9 x1 y1 k1 HGR4 hk14
          go_wp2_with fail
          go_roundw
          case rel => first | exact ⟨j + 1, by omega, by omega, int_eq' (by omega), HR⟩ | ((repeat apply Exists.intro); exact ⟨⟨j + 1, by omega, by omega, int_eq' (by omega), HR⟩, rfl⟩)
          case measure => simp [intOf]; omega
        · have hq2f : (K2 == 2) = false := by simpa using hq2
          subst hq1
          have HEX := Lib.hid (HNO.out (fun e => hq2 e.2))
          clear HMID HNO HM2
          have hkp : Kp [] w1 wr := HJ.out.2.2
          have HGR := Lib.hid HJ.out.1
          have hLL := HLEN.out
          obtain ⟨E, hE⟩ : ∃ E, expG T (j - 1) = E := ⟨_, rfl⟩
          rw [hE] at HEX HGR hLL ⊢
          clear hE HJ HLEN
          obtain ⟨EL, hEL⟩ : ∃ EL, E.length = EL := ⟨_, rfl⟩
          have HEL := Lib.hid hEL
          rw [hEL] at HGR hLL ⊢
          have HC1 : Hid (∀ W, Kp [] w1 W → W.cell? ⟨g, j * 3, none⟩ = some (.int .i64 X1) ∧ W.cell? ⟨g, j * 3 + 1, none⟩ = some (.int .i64 Y1) ∧ W.cell? ⟨g, j * 3 + 2, none⟩ = some (.int .i64 2)) := fun W hW => ⟨hW.cell x1 (by simp), hW.cell y1 (by simp), hW.cell k1 (by simp)⟩
          have HC2 : Hid (∀ W, Kp [] w1 W → W.cell? ⟨g, (j - 1) * 3, none⟩ = some (.int .i64 X2) ∧ W.cell? ⟨g, (j - 1) * 3 + 1, none⟩ = some (.int .i64 Y2) ∧ W.cell? ⟨g, (j - 1) * 3 + 2, none⟩ = some (.int .i64 K2)) := fun W hW => ⟨hW.cell x2 (by simp), hW.cell y2 (by simp), hW.cell k2 (by simp)⟩
          clear hEL x1 y1 k1 x2 y2 k2
          obtain ⟨x1, y1, k1⟩ := HC1.out wr hkp
          obtain ⟨x2, y2, k2⟩ := HC2.out wr hkp
          clear x2 y2
          go_wp2_with (at_builtin; refine holdT ?hh)
          case hh =>
          intro _
          refine wpList_growP rfl _ _ rfl w1.heap.size _ E (by rfl) (by first | exact HGR.out.kp0 (by (repeat (first | exact Kp.refl _ _ | assumption | refine Kp.drew ?_ | refine Kp.drewN ?_ _ | refine Kp.alloc ?_ _ | (refine Kp.setCell ?_ (by first | (left; simp; done) | (right; simp; try omega)) _) | (refine Kp.trans' ?_ (by assumption) (by simp; try omega)))))) wr.heap.size 1 1 [⟨X1, Y1, _⟩] rfl (by decide) rfl (lit3 (Kp.refl _ _)) (by rw [HEL.out]; omega) (by simp; omega) ?_
          intro v9 w9 hown9 hgr9
          have hk9 : Kp [] w1 w9 := hgr9 w1 (Nat.le_refl _) (hkp.trans (by (repeat (first | exact Kp.refl _ _ | assumption | refine Kp.drew ?_ | refine Kp.drewN ?_ _ | refine Kp.alloc ?_ _ | (refine Kp.setCell ?_ (by first | (left; simp; done) | (right; simp; try omega)) _) | (refine Kp.trans' ?_ (by assumption) (by simp; try omega))))))
          rw [HEL.out] at hown9
          obtain ⟨p9, q9, rfl⟩ := slice_own hown9
          have HR : Hid (GrowR w9 w1.heap.size (.slice p9 (EL + 1) q9) (expG T (j + 1 - 1)) ∧ (∀ b, blockOf (.slice p9 (EL + 1) q9) = some b → w.heap.size ≤ b ∧ b < w9.heap.size) ∧ Kp [] w1 w9) := by
            refine ⟨?_, fun b hb => ?_, hk9⟩
            · rw [Nat.add_sub_cancel, HEX.out]; exact GrowR.owned (by simp [HEL.out]) hown9
            · have := hown9.lt b (blockOf_own hb); omega
          clear hown9 hgr9 hk9 x1 y1 k1 HGR hkp
          go_wp2_with fail
          go_roundw
          case rel => first | exact ⟨j + 1, by omega, by omega, int_eq' (by omega), HR⟩ | ((repeat apply Exists.intro); exact ⟨⟨j + 1, by omega, by omega, int_eq' (by omega), HR⟩, rfl⟩)
          case measure => simp [intOf]; omega
      · have hq1f : (K1 == 2) = false := by simpa using hq1
        have HEX := Lib.hid (HNO.out (fun e => hq1 e.1))
        clear HMID HNO HM2
        have hkp : Kp [] w1 wr := HJ.out.2.2
        have HGR := Lib.hid HJ.out.1
        have hLL := HLEN.out
        obtain ⟨E, hE⟩ : ∃ E, expG T (j - 1) = E := ⟨_, rfl⟩
        rw [hE] at HEX HGR hLL ⊢
        clear hE HJ HLEN
        obtain ⟨EL, hEL⟩ : ∃ EL, E.length = EL := ⟨_, rfl⟩
        have HEL := Lib.hid hEL
        rw [hEL] at HGR hLL ⊢
        have HC1 : Hid (∀ W, Kp [] w1 W → W.cell? ⟨g, j * 3, none⟩ = some (.int .i64 X1) ∧ W.cell? ⟨g, j * 3 + 1, none⟩ = some (.int .i64 Y1) ∧ W.cell? ⟨g, j * 3 + 2, none⟩ = some (.int .i64 K1)) := fun W hW => ⟨hW.cell x1 (by simp), hW.cell y1 (by simp), hW.cell k1 (by simp)⟩
        have HC2 : Hid (∀ W, Kp [] w1 W → W.cell? ⟨g, (j - 1) * 3, none⟩ = some (.int .i64 X2) ∧ W.cell? ⟨g, (j - 1) * 3 + 1, none⟩ = some (.int .i64 Y2) ∧ W.cell? ⟨g, (j - 1) * 3 + 2, none⟩ = some (.int .i64 K2)) := fun W hW => ⟨hW.cell x2 (by simp), hW.cell y2 (by simp), hW.cell k2 (by simp)⟩
        clear hEL x1 y1 k1 x2 y2 k2
        obtain ⟨x1, y1, k1⟩ := HC1.out wr hkp
        obtain ⟨x2, y2, k2⟩ := HC2.out wr hkp
        clear x2 y2
        go_wp2_with (at_builtin; refine holdT ?hh)
        case hh =>
        intro _
        refine wpList_growP rfl _ _ rfl w1.heap.size _ E (by rfl) (by first | exact HGR.out.kp0 (by (repeat (first | exact Kp.refl _ _ | assumption | refine Kp.drew ?_ | refine Kp.drewN ?_ _ | refine Kp.alloc ?_ _ | (refine Kp.setCell ?_ (by first | (left; simp; done) | (right; simp; try omega)) _) | (refine Kp.trans' ?_ (by assumption) (by simp; try omega)))))) wr.heap.size 1 1 [⟨X1, Y1, _⟩] rfl (by decide) rfl (lit3 (Kp.refl _ _)) (by rw [HEL.out]; omega) (by simp; omega) ?_
        intro v9 w9 hown9 hgr9
        have hk9 : Kp [] w1 w9 := hgr9 w1 (Nat.le_refl _) (hkp.trans (by (repeat (first | exact Kp.refl _ _ | assumption | refine Kp.drew ?_ | refine Kp.drewN ?_ _ | refine Kp.alloc ?_ _ | (refine Kp.setCell ?_ (by first | (left; simp; done) | (right; simp; try omega)) _) | (refine Kp.trans' ?_ (by assumption) (by simp; try omega))))))
        rw [HEL.out] at hown9
        obtain ⟨p9, q9, rfl⟩ := slice_own hown9
        have HR : Hid (GrowR w9 w1.heap.size (.slice p9 (EL + 1) q9) (expG T (j + 1 - 1)) ∧ (∀ b, blockOf (.slice p9 (EL + 1) q9) = some b → w.heap.size ≤ b ∧ b < w9.heap.size) ∧ Kp [] w1 w9) := by
          refine ⟨?_, fun b hb => ?_, hk9⟩
          · rw [Nat.add_sub_cancel, HEX.out]; exact GrowR.owned (by simp [HEL.out]) hown9
          · have := hown9.lt b (blockOf_own hb); omega
        clear hown9 hgr9 hk9 x1 y1 k1 HGR hkp
        go_wp2_with fail
        go_roundw
        case rel => first | exact ⟨j + 1, by omega, by omega, int_eq' (by omega), HR⟩ | ((repeat apply Exists.intro); exact ⟨⟨j + 1, by omega, by omega, int_eq' (by omega), HR⟩, rfl⟩)
        case measure => simp [intOf]; omega
    · obtain rfl : N = j := by omega
      have HG := Lib.hid HJ.out.1.isps
      have HB := Lib.hid HJ.out.2.1
      have HK := Lib.hid (HK1.out.trans HJ.out.2.2)
      clear HJ
      go_wp2_with fail
      go_ret
      exact ⟨_, rfl, by rw [HN.out]; exact HG.out, HB.out, HK.out⟩
end Go.Proofs.Ytodjohoonbkklaa

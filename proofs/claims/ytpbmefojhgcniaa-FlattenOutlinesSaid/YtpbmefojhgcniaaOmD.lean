/- outline: the reference's explicit (the walk). (Written by wip/outline/genouv.py.) · outline: the reference's Explicit. (Written by wip/outline/genouw.py.) · outline: boxes: pair, least, most · outline: the hull of numbers, by both · outline: the reference's hull of numbers. (Written by wip/outline/genouz.py.). (Merged by wip/tools/mergetpl.py out of OuV, OuW, OuX, OuY, OuZ.) -/
import Derived.Test.YtpbmefojhgcniaaOmC
import Derived.Deep.RegionHeld3
import Derived.Deep.DeepCutAuto
namespace Go.Proofs.Ytpbmefojhgcniaa
open Go.RowKit
set_option linter.unusedVariables false
set_option linter.unusedSimpArgs false
section
variable {w : World} {ops : Array Oper} {rest : List Oper} {o : Oper} {a : Act} {Q : Exit → Act → World → Prop}
/-- One point more, onto a row of the call's own. -/
theorem wpList_pushP (hgd : o.guard = none) (s x : Operand) (ho : o.op = .call { callee := .builtin .append, args := #[s, x], argTypes := #[56, 56] })
    (base : Nat) (v : Value) (l : List Pn) (n : Nat) (hn : l.length = n) (hs : a.eval s = v) (hown : w.ownsRow base 25 3 v n (psCells l)) (G C : Nat) (p : Pn)
    (hx : a.eval x = .slice (some ⟨G, 0, none⟩) 1 C) (hc : ∀ j u, (psCells [p])[j]? = some u → w.cell? ⟨G, 0 + j, none⟩ = some u)
    (hl : (n + 1) * 24 ≤ 140737488355328) (hbase : base ≤ w.heap.size)
    (h : ∀ v' w', w'.ownsRow base 25 3 v' (n + 1) (psCells (l ++ [p])) → (∀ w0, w0.heap.size ≤ base → Kp [] w0 w → Kp [] w0 w') → Kp v.ownBlock.toList w w' → wpList Try.prog ops Q rest (a.put o.dst v') w') : wpList Try.prog ops Q (o :: rest) a w := by
  obtain ⟨i, hi, hz, hsize, hby⟩ := info_parts infoPn
  subst hn
  have hll : (psCells l).length = l.length * 3 := psCells_length l
  refine wpList_append_own w hgd s x _ ho base 25 i (.agg #[.int .i64 0, .int .i64 0, .int .i64 0]) 3 24 Try.underlying56 hi hz hsize hby rfl (by decide) v l.length (psCells l) hs hown ⟨G, 0, none⟩ 1 C (psCells [p]) hx rfl (by intro j u hj; rw [add_lit]; exact hc j u hj) (oneCell_ps [p]) (by unfold maxLen; omega) hl hbase ?_
  intro v' w' r1 r2 _
  exact h v' w' (by rw [psCells_app]; exact r1) (fun w0 h0 hk => Kp.grown hk r2 (fun k hk' => .inr (by have := own_ge hown k hk'; omega))) (Kp.grown (Kp.refl _ _) r2 (fun k hk => .inl (by rw [hk]; simp)))
/-- The same inside a region that draws its order. -/
theorem step_pushP {K : Act → World → Prop} {E : Prop} (hgd : o.guard = none) (s x : Operand) (ho : o.op = .call { callee := .builtin .append, args := #[s, x], argTypes := #[56, 56] })
    (base : Nat) (v : Value) (l : List Pn) (n : Nat) (hn : l.length = n) (hs : a.eval s = v) (hown : w.ownsRow base 25 3 v n (psCells l)) (G C : Nat) (p : Pn)
    (hx : a.eval x = .slice (some ⟨G, 0, none⟩) 1 C) (hc : ∀ j u, (psCells [p])[j]? = some u → w.cell? ⟨G, 0 + j, none⟩ = some u)
    (hl : (n + 1) * 24 ≤ 140737488355328) (hbase : base ≤ w.heap.size)
    (h : ∀ v' w', w'.ownsRow base 25 3 v' (n + 1) (psCells (l ++ [p])) → (∀ w0, w0.heap.size ≤ base → Kp [] w0 w → Kp [] w0 w') → Kp v.ownBlock.toList w w' → K (a.put o.dst v') w') :
    if Region.wanted o (yielded ops a.tmps) = true then Oper.wp Try.prog o a w K Q else E := by
  have hw : Region.wanted o (yielded ops a.tmps) = true := by simp [Region.wanted, hgd]
  rw [if_pos hw]
  obtain ⟨i, hi, hz, hsize, hby⟩ := info_parts infoPn
  subst hn
  have hll : (psCells l).length = l.length * 3 := psCells_length l
  refine wp_append_own w s x _ ho base 25 i (.agg #[.int .i64 0, .int .i64 0, .int .i64 0]) 3 24 Try.underlying56 hi hz hsize hby rfl (by decide) v l.length (psCells l) hs hown ⟨G, 0, none⟩ 1 C (psCells [p]) hx rfl (by intro j u hj; rw [add_lit]; exact hc j u hj) (oneCell_ps [p]) (by unfold maxLen; omega) hl hbase ?_
  intro v' w' r1 r2 _
  exact h v' w' (by rw [psCells_app]; exact r1) (fun w0 h0 hk => Kp.grown hk r2 (fun k hk' => .inr (by have := own_ge hown k hk'; omega))) (Kp.grown (Kp.refl _ _) r2 (fun k hk => .inl (by rw [hk]; simp)))
end
theorem outR_yes (c : List Pn) (f : Nat) (pre : List Pn) (k : Nat) (P Q : Pn) (hP : ringAt c ((f : Int) + k) = P) (hQ : ringAt c ((f : Int) + k + 1) = Q) (h1 : P.k = 2) (h2 : Q.k = 2) (h3 : ¬ (k + 1 = c.length ∧ (c.getD f pn0).k = 2)) : outR c f pre (k + 1) = (outR c f pre k ++ [P]) ++ [midP P Q] := by
  subst hP; subst hQ
  rw [outR, if_pos ⟨⟨h1, h2⟩, h3⟩]
theorem outR_no (c : List Pn) (f : Nat) (pre : List Pn) (k : Nat) (P Q : Pn) (hP : ringAt c ((f : Int) + k) = P) (hQ : ringAt c ((f : Int) + k + 1) = Q) (h : ¬ ((P.k = 2 ∧ Q.k = 2) ∧ ¬ (k + 1 = c.length ∧ (c.getD f pn0).k = 2))) : outR c f pre (k + 1) = outR c f pre k ++ [P] := by
  subst hP; subst hQ
  rw [outR, if_neg h, List.append_nil]
/-- The least place of a point on the outline behind place i. -/
def fromOn (c : List Pn) (i : Nat) (F : Int) : Prop := (F = -1 ∧ ∀ t, i ≤ t → t < c.length → (c.getD t pn0).k ≠ 1) ∨ ∃ m : Nat, F = m ∧ i ≤ m ∧ m < c.length ∧ (c.getD m pn0).k = 1 ∧ ∀ t, i ≤ t → t < m → (c.getD t pn0).k ≠ 1
theorem fromOn_end (c : List Pn) (F : Int) (h : fromOn c 0 F) : F = firstOn c := by
  unfold firstOn
  rcases h with ⟨rfl, h⟩ | ⟨m, rfl, _, h2, h3, h4⟩
  · rw [onAt_none c (fun t ht => h t (by omega) ht), if_neg (by omega)]
  · rw [onAt_found c m h2 (fun t ht => h4 t (by omega) ht) h3, if_pos h2]
theorem fromOn_yes {c : List Pn} {i : Nat} {F : Int} (hi : i < c.length) (h : (c.getD i pn0).k = 1) : fromOn c i (i : Nat) :=
  .inr ⟨i, rfl, Nat.le_refl _, hi, h, fun t h1 h2 => by omega⟩
theorem fromOn_no {c : List Pn} {i : Nat} {F : Int} (hf : fromOn c (i + 1) F) (h : (c.getD i pn0).k ≠ 1) : fromOn c i F := by
  rcases hf with ⟨rfl, h1⟩ | ⟨m, rfl, h1, h2, h3, h4⟩
  · refine .inl ⟨rfl, fun t h2 h3 => ?_⟩
    by_cases e : t = i
    · rw [e]; exact h
    · exact h1 t (by omega) h3
  · refine .inr ⟨m, rfl, by omega, h2, h3, fun t h5 h6 => ?_⟩
    by_cases e : t = i
    · rw [e]; exact h
    · exact h4 t (by omega) h6
theorem lit3g {w W : World} {x y k : Int} {G : Nat} (hk : Kp [] (w.alloc (.cells #[.int .i64 x, .int .i64 y, .int .i64 k] 25)) W) (hG : G = w.heap.size) : ∀ j u, (psCells [⟨x, y, k⟩])[j]? = some u → W.cell? ⟨G, 0 + j, none⟩ = some u := by
  subst hG; exact lit3 hk
theorem two_boxes {S : List Nat} {w W : World} {t1 t2 : TypeId} {v0 v1 v2 u0 u1 u2 : Value} {C : Obj} (hk : Kp S (((w.alloc (.cells #[v0, v1, v2] t1)).alloc (.cells #[u0, u1, u2] t2)).alloc C) W) (hS : ∀ s ∈ S, s < w.heap.size) :
    (W.cell? ⟨w.heap.size, 0, none⟩ = some v0 ∧ W.cell? ⟨w.heap.size, 1, none⟩ = some v1 ∧ W.cell? ⟨w.heap.size, 2, none⟩ = some v2) ∧ W.cell? ⟨w.heap.size + 1, 0, none⟩ = some u0 ∧ W.cell? ⟨w.heap.size + 1, 1, none⟩ = some u1 ∧ W.cell? ⟨w.heap.size + 1, 2, none⟩ = some u2 := by
  have n0 : w.heap.size ∉ S := fun h => by have := hS _ h; omega
  have n1 : w.heap.size + 1 ∉ S := fun h => by have := hS _ h; omega
  exact ⟨⟨hk.cell (by go_simp) n0, hk.cell (by go_simp) n0, hk.cell (by go_simp) n0⟩, hk.cell (by go_simp) n1, hk.cell (by go_simp) n1, hk.cell (by go_simp) n1⟩
set_option maxRecDepth 100000 in
set_option maxHeartbeats 4000000 in
theorem rexplicit_calls (v : Value) (c : List Pn) (w : World) (h : IsPs w v c) (hm : mayCo c = true) (hl : c.length ≤ 1048575) :
    Calls Try.prog 81 #[v] w fun e w' => ∃ v', e = .returned v' ∧ IsPs w' v' (expC c) ∧ (∀ b, blockOf v' = some b → w.heap.size ≤ b ∧ b < w'.heap.size) ∧ Kp [] w w' := by
  obtain ⟨h0, hn, _⟩ := mayCo_facts hm
  obtain ⟨pa, ca, rfl⟩ := h.form
  have HV := Lib.hid h
  have HNU := Lib.hid hn
  have HM := Lib.hid hm
  obtain ⟨N, hN⟩ : ∃ N, c.length = N := ⟨_, rfl⟩
  have HN := Lib.hid hN
  have HAT : Hid (∀ (i : Int) (W : World), Kp [] w W → -(N : Int) ≤ i → i ≤ 4194304 → Calls Try.prog 62 #[.slice pa N ca, .int .i64 i] W fun e w' => e = .returned (pnV (ringAt c i)) ∧ Kp [] W w') := fun i W hW h1 h2 => by
    have := rat10_calls (.slice pa c.length ca) c i W (h.kp0 hW) h0 (by omega) (by omega) (by omega)
    rwa [hN] at this
  rw [hN] at HV h0 hl ⊢
  clear h hn hm
  clear hN
  go_enter Try.func81, Try.ntmps81
  go_wp2_with fail
  go_loopw [3, 4] (fun f i wr => ∃ (j : Nat) (F : Int), j ≤ N ∧ i = .int .i64 ((j : Int) - 1) ∧ f = .int .i64 F ∧ Hid (fromOn c j F) ∧ w = wr) (fun _ i _ => ((intOf i) + 1).toNat)
  case atStart => exact ⟨N, -1, Nat.le_refl _, rfl, rfl, .inl ⟨rfl, fun t h1 h2 => by rw [HN.out] at h2; omega⟩, rfl⟩
  case round =>
    obtain ⟨j, F, hj, rfl, rfl, HF, rfl⟩ := hrel
    by_cases hlt : 0 < j
    · obtain ⟨i, rfl⟩ : ∃ i, j = i + 1 := ⟨j - 1, by omega⟩
      obtain ⟨g1, o1, q1, e1, _, _, x1, y1, k1⟩ := HV.out.row (i := i) (by rw [HN.out]; omega)
      rw [HN.out] at e1
      cases e1
      have hij : (((i + 1 : Nat) : Int) - 1) = (i : Int) := by omega
      rw [hij]
      have hF1 := Lib.hid (fun h => fromOn_yes (c := c) (i := i) (F := F) (by rw [HN.out]; omega) h)
      have hF2 := Lib.hid (fun h => fromOn_no (c := c) (i := i) HF.out h)
      generalize c.getD i pn0 = P at *
      obtain ⟨X, Y, K⟩ := P
      dsimp only at x1 y1 k1 hF1 hF2
      clear hij HF
      by_cases hK : K = 1
      · subst hK
        have HF3 := Lib.hid (hF1.out rfl)
        clear hF1 hF2
        go_wp2_with fail
        go_roundw
        case rel => exact ⟨i, _, by omega, int_eq' (by omega), rfl, HF3, by first | rfl | trivial⟩
        case measure => simp [intOf] <;> omega
      · have HF3 := Lib.hid (hF2.out hK)
        have hKf : (K == 1) = false := by simpa using hK
        clear hF1 hF2
        go_wp2_with fail
        go_roundw
        case rel => exact ⟨i, _, by omega, int_eq' (by omega), rfl, HF3, by first | rfl | trivial⟩
        case measure => simp [intOf] <;> omega
    · obtain rfl : j = 0 := by omega
      have HFF := Lib.hid (fromOn_end c F HF.out)
      clear HF hlt
      go_upto_if 25 with fail
      go_cut [3, 5] (fun s3 s5 wx => ∃ (f PL : Nat) (pre : List Pn), s3 = .int .i64 (f : Nat) ∧ f < N ∧ Hid (outR c f pre N = expC c ∧ pre.length = PL ∧ PL ≤ 1 ∧ wx.ownsRow w.heap.size 25 3 s5 PL (psCells pre) ∧ Kp [] w wx))
      case first =>
        by_cases hF0 : F < 0
        · have HO : Hid (c.length ≤ onAt c) := by
            show _ ≤ _
            have h := HFF.out
            unfold firstOn at h
            split at h
            · omega
            · omega
          have HEX := Lib.hid (outR_expC0 c HM.out HO.out)
          rw [HN.out] at HEX
          have a12 := HNU.out (N - 1) (by rw [HN.out]; omega)
          have b12 := HNU.out 0 (by rw [HN.out]; omega)
          have HM0 := Lib.hid (fun W => rmid_calls (c.getD (N - 1) pn0) (c.getD 0 pn0) W a12.1 a12.2 b12.1 b12.2)
          clear a12 b12
          have hN1 : IntKind.i64.wrap ((N : Int) - 1) = (N : Int) - 1 := by rw [IntKind.wrap_i64]; omega
          have hN2 : (((N : Int) - 1)).toNat = N - 1 := by omega
          have hN3 : (1 : Int) ≤ (N : Int) := by omega
          have hN8 : ¬ ((N : Int) - 1 < 0) := by omega
          have hN9 : N - 1 < N := by omega
          have hN4 : (N : Int) - 1 ≤ (N : Int) := by omega
          have hN5 : (N : Int) - 1 < (N : Int) := by omega
          have hN6 : (0 : Int) < (N : Int) := by omega
          obtain ⟨g1, o1, c1, e1, _, _, x1, y1, k1⟩ := HV.out.row (i := N - 1) (by rw [HN.out]; omega)
          obtain ⟨g2, o2, c2, e2, _, _, x2, y2, k2⟩ := HV.out.row (i := 0) (by rw [HN.out]; omega)
          rw [HN.out] at e1 e2
          cases e1; cases e2
          rw [Nat.zero_mul, Nat.add_zero] at x2 y2 k2
          generalize c.getD (N - 1) pn0 = P at *
          generalize c.getD 0 pn0 = Q at *
          obtain ⟨X1, Y1, K1⟩ := P
          obtain ⟨X2, Y2, K2⟩ := Q
          rw [show pnV ⟨X1, Y1, K1⟩ = .agg #[.int .i64 X1, .int .i64 Y1, .int .i64 K1] from rfl, show pnV ⟨X2, Y2, K2⟩ = .agg #[.int .i64 X2, .int .i64 Y2, .int .i64 K2] from rfl] at HM0
          obtain ⟨M, hM⟩ : ∃ M, midP ⟨X1, Y1, K1⟩ ⟨X2, Y2, K2⟩ = M := ⟨_, rfl⟩
          rw [hM] at HM0 HEX
          obtain ⟨mx, my, mk⟩ := M
          rw [show pnV ⟨mx, my, mk⟩ = .agg #[.int .i64 mx, .int .i64 my, .int .i64 mk] from rfl] at HM0
          clear hM
          go_wp2_with fail
          go_region_held3 (fun w' => w'.cell? ⟨g1, o1 + (N - 1) * 3, none⟩ = some (.int .i64 X1) ∧ w'.cell? ⟨g1, o1 + (N - 1) * 3 + 1, none⟩ = some (.int .i64 Y1) ∧ w'.cell? ⟨g1, o1 + (N - 1) * 3 + 2, none⟩ = some (.int .i64 K1) ∧ w'.cell? ⟨g1, o1, none⟩ = some (.int .i64 X2) ∧ w'.cell? ⟨g1, o1 + 1, none⟩ = some (.int .i64 Y2) ∧ w'.cell? ⟨g1, o1 + 2, none⟩ = some (.int .i64 K2))
            (first | go_keep | exact ⟨hk12.cell x1 (by simp), hk12.cell y1 (by simp), hk12.cell k1 (by simp), hk12.cell x2 (by simp), hk12.cell y2 (by simp), hk12.cell k2 (by simp)⟩ | exact ⟨hk14.cell x1 (by simp), hk14.cell y1 (by simp), hk14.cell k1 (by simp), hk14.cell x2 (by simp), hk14.cell y2 (by simp), hk14.cell k2 (by simp)⟩)
            ((first
              | (go_at_call 92
                 refine (HM0.out _).mono ?_
                 rintro e w2 ⟨rfl, hk2⟩
                 have hk12 : Kp [] w w2 := Kp.trans (by (repeat (first | exact Kp.refl _ _ | assumption | refine Kp.drew ?_ | refine Kp.drewN ?_ _ | refine Kp.alloc ?_ _ | (refine Kp.setCell ?_ (by first | (left; simp; done) | (right; simp; try omega)) _) | (refine Kp.trans' ?_ (by assumption) (by simp; try omega))))) hk2)
              | (refine step_pushP (by rfl) _ _ (by rfl) w.heap.size (.slice none 0 0) [] 0 rfl (by rfl) (World.ownsRow_nil _ _ _ _) w2.heap.size 1 ⟨mx, my, mk⟩ (by rfl) (lit3 (Kp.refl _ _)) (by omega) (by have a1 := hk12.size; simp; omega) ?_
                 intro v4 w4 hown4 hgr4 hkb4
                 have hk14 : Kp [] w w4 := hgr4 w (Nat.le_refl _) (hk12.trans (by (repeat (first | exact Kp.refl _ _ | assumption | refine Kp.drew ?_ | refine Kp.drewN ?_ _ | refine Kp.alloc ?_ _ | (refine Kp.setCell ?_ (by first | (left; simp; done) | (right; simp; try omega)) _) | (refine Kp.trans' ?_ (by assumption) (by simp; try omega)))))))))
          go_wp2_with fail
          go_meet
          case rel => exact ⟨0, 1, [⟨mx, my, mk⟩], rfl, by omega, HEX.out, rfl, by omega, hown4, hk14⟩
        · have HO : Hid (onAt c < c.length ∧ F = (onAt c : Nat)) := by
            show _ ∧ _
            have h := HFF.out
            unfold firstOn at h
            split at h
            · rename_i h1; exact ⟨h1, h⟩
            · omega
          obtain ⟨f, hf⟩ : ∃ f, onAt c = f := ⟨_, rfl⟩
          have HEX := Lib.hid (outR_expC c HO.out.1)
          rw [hf] at HEX HO
          rw [HN.out] at HEX HO
          obtain ⟨hfN, rfl⟩ := HO.out
          clear HO HFF hf
          have hff : ((f : Int) < 0) = False := by simp
          go_wp2_with fail
          go_meet
          case rel => exact ⟨f, 0, [], rfl, hfN, HEX.out, rfl, by omega, World.ownsRow_nil _ _ _ _, Kp.refl _ _⟩
      case rest =>
        obtain ⟨f, PL, pre, rfl, hfN, HC⟩ := hcut
        have HEX := Lib.hid HC.out.1
        have HPL := Lib.hid HC.out.2.1
        have hPL := HC.out.2.2.1
        have HPRE := Lib.hid HC.out.2.2.2.1
        have HK4 := Lib.hid HC.out.2.2.2.2
        clear HC HFF
        go_wp2_with fail
        have hw4 : w.heap.size ≤ wc.heap.size := HK4.out.size
        go_loopw [5, 6] (fun u i wr => ∃ (k : Nat) (l : Value), k ≤ N ∧ i = .int .i64 k ∧ l = u ∧ Hid (wr.ownsRow w.heap.size 25 3 l (outR c f pre k).length (psCells (outR c f pre k)) ∧ Kp [] w wr)) (fun _ i _ => N - (intOf i).toNat)
        case atStart => exact ⟨0, _, by omega, rfl, rfl, by show _ ∧ _; rw [outR, HPL.out]; exact ⟨HPRE.out, HK4.out⟩⟩
        case round =>
          obtain ⟨k, l, hk, rfl, rfl, HJ⟩ := hrel
          by_cases hlt : k < N
          · obtain ⟨OL, hOL⟩ : ∃ OL, (outR c f pre k).length = OL := ⟨_, rfl⟩
            have hlen := outR_len c f pre k
            rw [HPL.out] at hlen
            have HOL := Lib.hid hOL
            have HR : Hid (wr.ownsRow w.heap.size 25 3 l OL (psCells (outR c f pre k))) := by rw [← hOL]; exact HJ.out.1
            have HKW : Hid (Kp [] w wr) := HJ.out.2
            rw [hOL] at hlen
            obtain ⟨pl, ql, rfl⟩ := slice_own HR.out
            obtain ⟨P, hP⟩ : ∃ P, ringAt c ((f : Int) + k) = P := ⟨_, rfl⟩
            obtain ⟨Q, hQ⟩ : ∃ Q, ringAt c ((f : Int) + k + 1) = Q := ⟨_, rfl⟩
            have HYES := Lib.hid (outR_yes c f pre k P Q hP hQ)
            have HNO := Lib.hid (outR_no c f pre k P Q hP hQ)
            have HA1 := Lib.hid (HAT.out ((f : Int) + k) wr HKW.out (by omega) (by omega))
            have HA2 := Lib.hid (fun W hW => HAT.out ((f : Int) + k + 1) W (Kp.trans HKW.out hW) (by omega) (by omega))
            have HNP : Hid (numF P.x = true ∧ numF P.y = true ∧ numF Q.x = true ∧ numF Q.y = true) := by
              obtain ⟨k1, hk1, _, hr1⟩ := ring_idx c ((f : Int) + k) (by rw [HN.out]; exact h0)
              obtain ⟨k2, hk2, _, hr2⟩ := ring_idx c ((f : Int) + k + 1) (by rw [HN.out]; exact h0)
              rw [hP] at hr1; rw [hQ] at hr2
              rw [hr1, hr2]
              exact ⟨(HNU.out k1 hk1).1, (HNU.out k1 hk1).2, (HNU.out k2 hk2).1, (HNU.out k2 hk2).2⟩
            have HMID := Lib.hid (fun W => rmid_calls P Q W HNP.out.1 HNP.out.2.1 HNP.out.2.2.1 HNP.out.2.2.2)
            rw [hP] at HA1
            rw [hQ] at HA2
            obtain ⟨gq, oq, cq, eq1, _, _, xf, yf, kf⟩ := HV.out.row (i := f) (by rw [HN.out]; omega)
            rw [HN.out] at eq1 HYES HNO
            cases eq1
            obtain ⟨KF, hKF⟩ : ∃ KF, (c.getD f pn0).k = KF := ⟨_, rfl⟩
            rw [hKF] at kf HYES HNO
            clear hKF hP hQ xf yf HNP hOL HJ
            have HKF : Hid (∀ W, Kp [] w W → W.cell? ⟨gq, oq + f * 3 + 2, none⟩ = some (.int .i64 KF)) := fun W hW => hW.cell kf (by simp)
            obtain ⟨X1, Y1, K1⟩ := P
            obtain ⟨X2, Y2, K2⟩ := Q
            rw [show pnV ⟨X1, Y1, K1⟩ = .agg #[.int .i64 X1, .int .i64 Y1, .int .i64 K1] from rfl] at HA1
            rw [show pnV ⟨X2, Y2, K2⟩ = .agg #[.int .i64 X2, .int .i64 Y2, .int .i64 K2] from rfl] at HA2
            rw [show pnV ⟨X1, Y1, K1⟩ = .agg #[.int .i64 X1, .int .i64 Y1, .int .i64 K1] from rfl, show pnV ⟨X2, Y2, K2⟩ = .agg #[.int .i64 X2, .int .i64 Y2, .int .i64 K2] from rfl] at HMID
            obtain ⟨M, hM⟩ : ∃ M, midP ⟨X1, Y1, K1⟩ ⟨X2, Y2, K2⟩ = M := ⟨_, rfl⟩
            rw [hM] at HMID HYES
            obtain ⟨mx, my, mk⟩ := M
            rw [show pnV ⟨mx, my, mk⟩ = .agg #[.int .i64 mx, .int .i64 my, .int .i64 mk] from rfl] at HMID
            clear hM kf
            have hszw : w.heap.size ≤ wr.heap.size := HKW.out.size
            generalize outR c f pre k = O at *
            go_wp2_with fail
            refine HA1.out.mono ?_; rintro e w1 ⟨rfl, hk1⟩
            go_wp2_with fail
            refine (HA2.out _ hk1).mono ?_; rintro e w2 ⟨rfl, hk2⟩
            have hk12 := hk1.trans hk2
            have HR2 := Lib.hid (hk12.row HR.out (by simp))
            have HK2 := Lib.hid (HKW.out.trans hk12)
            have hs2 : wr.heap.size ≤ w2.heap.size := hk12.size
            have HOB : Hid (∀ b, (Value.slice pl OL ql).ownBlock = some b → b < w2.heap.size) := fun b hb => (HR2.out.lt b hb).2
            clear hk1 hk2 HA1 HA2 HR HKW hk12
            go_wp2_with (at_builtin; refine holdT ?hh)
            case hh =>
            intro _
            refine wpList_pushP rfl _ _ rfl w.heap.size _ O OL HOL.out (by rfl) (Kp.row (S := []) (by (repeat (first | exact Kp.refl _ _ | assumption | refine Kp.drew ?_ | refine Kp.drewN ?_ _ | refine Kp.alloc ?_ _ | (refine Kp.setCell ?_ (by first | (left; simp; done) | (right; simp; try omega)) _) | (refine Kp.trans' ?_ (by assumption) (by simp; try omega))))) HR2.out (by simp)) _ 1 ⟨X1, Y1, K1⟩ rfl (lit3g (Kp.refl _ _) (by simp)) (by omega) (by simp; omega) ?_
            intro v4 w4 hown4 hgr4 hkb4
            obtain ⟨⟨bx1, by1, bk1⟩, bx2, by2, bk2⟩ := two_boxes hkb4 (fun s hs => HOB.out s (by simpa using hs))
            have HK4 : Hid (Kp [] w w4) := hgr4 w (Nat.le_refl _) (HK2.out.trans (by (repeat (first | exact Kp.refl _ _ | assumption | refine Kp.drew ?_ | refine Kp.drewN ?_ _ | refine Kp.alloc ?_ _ | (refine Kp.setCell ?_ (by first | (left; simp; done) | (right; simp; try omega)) _) | (refine Kp.trans' ?_ (by assumption) (by simp; try omega))))))
            have HR4 := Lib.hid hown4
            obtain ⟨p4, q4, rfl⟩ := slice_own hown4
            have kf := HKF.out w4 HK4.out
            have HOL4 : Hid ((O ++ [(⟨X1, Y1, K1⟩ : Pn)]).length = OL + 1) := by show _ = _; rw [List.length_append, HOL.out]; rfl
            have hsw4 : w.heap.size ≤ w4.heap.size := HK4.out.size
            obtain ⟨O4, hO4⟩ : ∃ O4, O ++ [(⟨X1, Y1, K1⟩ : Pn)] = O4 := ⟨_, rfl⟩
            rw [hO4] at HR4 HOL4 HYES HNO
            clear hown4 hgr4 hkb4 HKF HR2 HOB hO4 HOL HK2
            obtain ⟨L4, hL4⟩ : ∃ L4, OL + 1 = L4 := ⟨_, rfl⟩
            have hlen4 : L4 ≤ PL + 2 * k + 1 := by omega
            rw [hL4] at HR4 HOL4 ⊢
            clear hL4 hlen
            have hwn : IntKind.i64.wrap ((N : Int) - 1) = (N : Int) - 1 := by rw [IntKind.wrap_i64]; omega
            by_cases hK1 : K1 = 2
            · subst hK1
              by_cases hK2 : K2 = 2
              · subst hK2
                by_cases hlast : k + 1 = N
                · have hlb : ((k : Int) == (N : Int) - 1) = true := by simp; omega
                  have hlp : (k : Int) = (N : Int) - 1 := by omega
                  by_cases hKF : KF = 2
                  · subst hKF
                    have HEX1 := Lib.hid (HNO.out (fun h => h.2 ⟨hlast, rfl⟩))
                    clear HMID
                    have HF : Hid (w4.ownsRow w.heap.size 25 3 (.slice p4 L4 q4) (outR c f pre (k + 1)).length (psCells (outR c f pre (k + 1))) ∧ Kp [] w w4) := by
                      show _ ∧ _
                      rw [HEX1.out, HOL4.out]; exact ⟨HR4.out, HK4.out⟩
                    clear HYES HNO HEX1 HR4
                    go_wp2_with fail
                    go_roundw
                    case rel => first | exact ⟨k + 1, _, by omega, int_eq' (by omega), rfl, HF⟩ | ((repeat apply Exists.intro); exact ⟨⟨k + 1, _, by omega, int_eq' (by omega), rfl, HF⟩, rfl⟩)
                    case measure => simp [intOf] <;> omega
                  · have hKFb : (KF == 2) = false := by simpa using hKF
                    have HEX1 := Lib.hid (HYES.out rfl rfl (fun h => hKF h.2))
                    clear HYES HNO
                    go_wp2_with fail
                    refine (HMID.out _).mono ?_; rintro e w5 ⟨rfl, hk5⟩
                    have HR5 := Lib.hid (hk5.row HR4.out (by simp))
                    have HK5 := Lib.hid (HK4.out.trans hk5)
                    have hs5 := hk5.size
                    clear hk5 HR4 HK4 bx1 by1 bk1 bx2 by2 bk2 kf
                    go_wp2_with (at_builtin; refine holdT ?hh)
                    case hh =>
                    intro _
                    refine wpList_pushP rfl _ _ rfl w.heap.size _ O4 L4 HOL4.out (by rfl) (Kp.row (S := []) (by (repeat (first | exact Kp.refl _ _ | assumption | refine Kp.drew ?_ | refine Kp.drewN ?_ _ | refine Kp.alloc ?_ _ | (refine Kp.setCell ?_ (by first | (left; simp; done) | (right; simp; try omega)) _) | (refine Kp.trans' ?_ (by assumption) (by simp; try omega))))) HR5.out (by simp)) _ 1 ⟨mx, my, mk⟩ rfl (lit3g (Kp.refl _ _) (by simp)) (by omega) (by simp; omega) ?_
                    intro v6 w6 hown6 hgr6 hkb6
                    obtain ⟨p6, q6, rfl⟩ := slice_own hown6
                    have HF : Hid (w6.ownsRow w.heap.size 25 3 (.slice p6 (L4 + 1) q6) (outR c f pre (k + 1)).length (psCells (outR c f pre (k + 1))) ∧ Kp [] w w6) := by
                      show _ ∧ _
                      have e : (O4 ++ [(⟨mx, my, mk⟩ : Pn)]).length = L4 + 1 := by rw [List.length_append, HOL4.out]; rfl
                      rw [HEX1.out, e]; exact ⟨hown6, hgr6 w (Nat.le_refl _) (HK5.out.trans (by (repeat (first | exact Kp.refl _ _ | assumption | refine Kp.drew ?_ | refine Kp.drewN ?_ _ | refine Kp.alloc ?_ _ | (refine Kp.setCell ?_ (by first | (left; simp; done) | (right; simp; try omega)) _) | (refine Kp.trans' ?_ (by assumption) (by simp; try omega))))))⟩
                    clear HEX1 HR5 hown6 hgr6 hkb6
                    go_wp2_with fail
                    go_roundw
                    case rel => first | exact ⟨k + 1, _, by omega, int_eq' (by omega), rfl, HF⟩ | ((repeat apply Exists.intro); exact ⟨⟨k + 1, _, by omega, int_eq' (by omega), rfl, HF⟩, rfl⟩)
                    case measure => simp [intOf] <;> omega
                · have hlb : ((k : Int) == (N : Int) - 1) = false := by simp; omega
                  have hlp : ¬ (k : Int) = (N : Int) - 1 := by omega
                  have HEX1 := Lib.hid (HYES.out rfl rfl (fun h => hlast h.1))
                  clear HYES HNO
                  go_wp2_with fail
                  refine (HMID.out _).mono ?_; rintro e w5 ⟨rfl, hk5⟩
                  have HR5 := Lib.hid (hk5.row HR4.out (by simp))
                  have HK5 := Lib.hid (HK4.out.trans hk5)
                  have hs5 := hk5.size
                  clear hk5 HR4 HK4 bx1 by1 bk1 bx2 by2 bk2 kf
                  go_wp2_with (at_builtin; refine holdT ?hh)
                  case hh =>
                  intro _
                  refine wpList_pushP rfl _ _ rfl w.heap.size _ O4 L4 HOL4.out (by rfl) (Kp.row (S := []) (by (repeat (first | exact Kp.refl _ _ | assumption | refine Kp.drew ?_ | refine Kp.drewN ?_ _ | refine Kp.alloc ?_ _ | (refine Kp.setCell ?_ (by first | (left; simp; done) | (right; simp; try omega)) _) | (refine Kp.trans' ?_ (by assumption) (by simp; try omega))))) HR5.out (by simp)) _ 1 ⟨mx, my, mk⟩ rfl (lit3g (Kp.refl _ _) (by simp)) (by omega) (by simp; omega) ?_
                  intro v6 w6 hown6 hgr6 hkb6
                  obtain ⟨p6, q6, rfl⟩ := slice_own hown6
                  have HF : Hid (w6.ownsRow w.heap.size 25 3 (.slice p6 (L4 + 1) q6) (outR c f pre (k + 1)).length (psCells (outR c f pre (k + 1))) ∧ Kp [] w w6) := by
                    show _ ∧ _
                    have e : (O4 ++ [(⟨mx, my, mk⟩ : Pn)]).length = L4 + 1 := by rw [List.length_append, HOL4.out]; rfl
                    rw [HEX1.out, e]; exact ⟨hown6, hgr6 w (Nat.le_refl _) (HK5.out.trans (by (repeat (first | exact Kp.refl _ _ | assumption | refine Kp.drew ?_ | refine Kp.drewN ?_ _ | refine Kp.alloc ?_ _ | (refine Kp.setCell ?_ (by first | (left; simp; done) | (right; simp; try omega)) _) | (refine Kp.trans' ?_ (by assumption) (by simp; try omega))))))⟩
                  clear HEX1 HR5 hown6 hgr6 hkb6
                  go_wp2_with fail
                  go_roundw
                  case rel => first | exact ⟨k + 1, _, by omega, int_eq' (by omega), rfl, HF⟩ | ((repeat apply Exists.intro); exact ⟨⟨k + 1, _, by omega, int_eq' (by omega), rfl, HF⟩, rfl⟩)
                  case measure => simp [intOf] <;> omega
              · have hK2b : (K2 == 2) = false := by simpa using hK2
                have HEX1 := Lib.hid (HNO.out (fun h => hK2 h.1.2))
                clear HMID
                have HF : Hid (w4.ownsRow w.heap.size 25 3 (.slice p4 L4 q4) (outR c f pre (k + 1)).length (psCells (outR c f pre (k + 1))) ∧ Kp [] w w4) := by
                  show _ ∧ _
                  rw [HEX1.out, HOL4.out]; exact ⟨HR4.out, HK4.out⟩
                clear HYES HNO HEX1 HR4
                go_wp2_with fail
                go_roundw
                case rel => first | exact ⟨k + 1, _, by omega, int_eq' (by omega), rfl, HF⟩ | ((repeat apply Exists.intro); exact ⟨⟨k + 1, _, by omega, int_eq' (by omega), rfl, HF⟩, rfl⟩)
                case measure => simp [intOf] <;> omega
            · have hK1b : (K1 == 2) = false := by simpa using hK1
              have HEX1 := Lib.hid (HNO.out (fun h => hK1 h.1.1))
              clear HMID
              have HF : Hid (w4.ownsRow w.heap.size 25 3 (.slice p4 L4 q4) (outR c f pre (k + 1)).length (psCells (outR c f pre (k + 1))) ∧ Kp [] w w4) := by
                show _ ∧ _
                rw [HEX1.out, HOL4.out]; exact ⟨HR4.out, HK4.out⟩
              clear HYES HNO HEX1 HR4
              go_wp2_with fail
              go_roundw
              case rel => first | exact ⟨k + 1, _, by omega, int_eq' (by omega), rfl, HF⟩ | ((repeat apply Exists.intro); exact ⟨⟨k + 1, _, by omega, int_eq' (by omega), rfl, HF⟩, rfl⟩)
              case measure => simp [intOf] <;> omega
          · obtain rfl : k = N := by omega
            have HE : Hid (IsPs wr l (expC c) ∧ (∀ b, blockOf l = some b → w.heap.size ≤ b ∧ b < wr.heap.size) ∧ Kp [] w wr) := by
              show _ ∧ _
              have h1 := HJ.out.1
              rw [HEX.out] at h1
              exact ⟨IsPs.owned rfl h1, fun b hb => h1.lt b (blockOf_own hb), HJ.out.2⟩
            clear HJ
            go_wp2_with fail
            go_ret
            exact ⟨_, rfl, HE.out.1, HE.out.2.1, HE.out.2.2⟩
end Go.Proofs.Ytpbmefojhgcniaa
namespace Go.Proofs.Ytpbmefojhgcniaa
open Go.RowKit
set_option linter.unusedVariables false
set_option linter.unusedSimpArgs false
set_option maxRecDepth 100000 in
set_option maxHeartbeats 4000000 in
theorem roexplicit_calls (v : Value) (o : List (List Pn)) (w : World) (hv : IsOut w v o) (hE : checkO o = 0) :
    Calls Try.prog 61 #[v] w fun e w' => ∃ v', e = .returned v' ∧ WOut w' w.heap.size v' (expO o) ∧ Kp [] w w' := by
  obtain ⟨hz1, hz2, hz3⟩ := checkO_zero hE
  have HF : Hid (∀ j, j < o.length → (o.getD j []).length ≤ 4096) := fun j hj => by have := len_le_cnt o hj; omega
  obtain ⟨i0, hi, hzz0, hzz1, hzz2⟩ := info_parts infoPs
  have HV := Lib.hid hv
  have HM := Lib.hid hz3
  obtain ⟨pa, ca, rfl⟩ := hv.form
  obtain ⟨N, hN⟩ : ∃ N, o.length = N := ⟨_, rfl⟩
  have HN := Lib.hid hN
  have hN1 : N ≤ 256 := by rw [← hN]; exact hz1
  rw [hN] at HV ⊢
  clear hN hv hz1 hz2 hz3 hE
  obtain ⟨w0, hw0⟩ : ∃ w0, w = w0 := ⟨_, rfl⟩
  have HV0 := HV
  rw [hw0] at HV0 ⊢
  clear HV hw0
  go_enter Try.func61, Try.ntmps61
  go_wp2_with fail
  go_loopw [3, 4] (fun u i wr => ∃ (j : Nat) (l : Value), j ≤ N ∧ i = .int .i64 j ∧ l = u ∧ Hid (WOut wr w0.heap.size l ((expO o).take j) ∧ Kp [] w0 wr)) (fun _ i _ => N - (intOf i).toNat)
  case atStart => exact ⟨0, _, by omega, rfl, rfl, WOut.nil _ _, Kp.refl _ _⟩
  case round =>
    obtain ⟨j, l, hj, rfl, rfl, HJ⟩ := hrel
    by_cases hlt : j < N
    · have hjo : j < o.length := by rw [HN.out]; exact hlt
      obtain ⟨g1, o1, c1, p1, cv, e1, _, _, h1, hp⟩ := (HV0.out.kp0 HJ.out.2).row hjo
      rw [HN.out] at e1
      cases e1
      have hL := HF.out j hjo
      obtain ⟨hM1, hM2, _⟩ := mayCo_facts (HM.out j hjo)
      have HTK : Hid ((expO o).take (j + 1) = (expO o).take j ++ [expC (o.getD j [])]) := map_take expC hjo
      have HTL : Hid (((expO o).take j).length = j) := by show _ = _; unfold expO; rw [List.length_take, List.length_map]; omega
      obtain ⟨vs, HW⟩ : ∃ vs, Hid (WVs wr w0.heap.size l vs ((expO o).take j)) := by obtain ⟨vs, h⟩ := HJ.out.1; exact ⟨vs, h⟩
      have hr := HW.out.1
      rw [HTL.out] at hr
      obtain ⟨pl, cl, hl⟩ := slice_own hr
      subst hl
      have HR := Lib.hid hr
      have HOB := Lib.hid (fun b (hb : (Value.slice pl j cl).ownBlock = some b) => (hr.lt b hb).2)
      have HCP := Lib.hid (rexplicit_calls _ _ wr hp (HM.out j hjo) (by omega))
      have HKW : Hid (Kp [] w0 wr) := HJ.out.2
      generalize o.getD j [] = c at *
      generalize expO o = X at *
      generalize expC c = d at *
      clear hp hr hjo HJ hM2
      obtain ⟨L, hcl⟩ : ∃ L, c.length = L := ⟨_, rfl⟩
      rw [hcl] at h1 HCP hL
      clear hcl hM1 hL
      go_wp2_with fail
      refine HCP.out.mono ?_; rintro e w1 ⟨v1, rfl, hi1, hb1, hk1⟩
      obtain ⟨pv, qv, hv1⟩ := hi1.form
      subst hv1
      have HI1 := Lib.hid hi1
      have HB1 := Lib.hid hb1
      have HW1 := Lib.hid (HW.out.kp0 hk1)
      have HR1 := Lib.hid (hk1.row HR.out (by simp))
      have HK1 := Lib.hid hk1
      have hsz1 : wr.heap.size ≤ w1.heap.size := HK1.out.size
      have hszw : w0.heap.size ≤ wr.heap.size := HKW.out.size
      have hvl : vs.length = j := by have := HR1.out.1; omega
      clear hi1 hb1 hk1 HW HR HCP
      generalize d.length = D at *
      go_wp2_with (at_builtin; refine wpList_append_lies _ rfl _ _ 37 rfl w0.heap.size 56 i0 (.slice none 0 0) 1 24 Try.underlying37 hi hzz0 hzz1 hzz2 rfl (by decide) (.slice pl j cl) j vs rfl ?hown ⟨w1.heap.size, 0, none⟩ 1 1 [.slice pv D qv] rfl rfl ?hnews ?hone (by decide) ?hm ?hb1 ?hb2 (w1.heap.size + 1) ?hH ?hk)
      case hown => exact Kp.row (S := []) (by (repeat (first | exact Kp.refl _ _ | assumption | refine Kp.drew ?_ | refine Kp.drewN ?_ _ | refine Kp.alloc ?_ _ | (refine Kp.setCell ?_ (by first | (left; simp; done) | (right; simp; try omega)) _) | (refine Kp.trans' ?_ (by assumption) (by simp; try omega))))) HR1.out (by simp)
      case hnews => exact World.news_of_block (heap_alloc_new w1 _)
      case hone => intro u hu; simp at hu; subst hu; rfl
      case hm => unfold maxLen; omega
      case hb1 => omega
      case hb2 => simp; omega
      case hH => simp
      case hk =>
      intro g4 c4 w4 hown hgr hat hlt4
      have hka : Kp [] w1 (w1.alloc (.cells #[.slice pv D qv] 56)) := by (repeat (first | exact Kp.refl _ _ | assumption | refine Kp.drew ?_ | refine Kp.drewN ?_ _ | refine Kp.alloc ?_ _ | (refine Kp.setCell ?_ (by first | (left; simp; done) | (right; simp; try omega)) _) | (refine Kp.trans' ?_ (by assumption) (by simp; try omega))))
      have HW2 := HW1.out.kp0 hka
      have hpush := WVs.push (H := w1.heap.size + 1) HW2 ((HI1.out : IsPs w1 (.slice pv D qv) d).kp0 hka) (fun b hb => by
        have h9 := HB1.out b hb
        exact ⟨fun e => by have := HOB.out b e; omega, by simp; omega, by omega⟩) (by rw [HTL.out]; exact hown) hgr hat (by simp)
      rw [HTL.out, ← HTK.out] at hpush
      have HPU : Hid (WOut w4 w0.heap.size (.slice (some ⟨g4, 0, none⟩) (j + 1) c4) (X.take (j + 1)) ∧ Kp [] w0 w4) := ⟨⟨_, hpush⟩, by
        have hkk : Kp [] w0 wr := HKW.out
        exact Kp.grown (hkk.trans (HK1.out.trans hka)) hgr (fun k hk => .inr (own_ge HR1.out k hk))⟩
      clear hown hgr hat hka HW2 hpush hlt4
      go_wp2_with fail
      go_roundw
      case rel => first | exact ⟨j + 1, _, by omega, int_eq' (by omega), rfl, HPU⟩ | ((repeat apply Exists.intro); exact ⟨⟨j + 1, _, by omega, int_eq' (by omega), rfl, HPU⟩, rfl⟩)
      case measure => simp [intOf]; omega
    · obtain rfl : j = N := by omega
      have HE := Lib.hid HJ.out
      rw [List.take_of_length_le (by unfold expO; rw [List.length_map, HN.out]; exact Nat.le_refl _)] at HE
      have HW : Hid (WOut wr w0.heap.size l (expO o)) := HE.out.1
      have HK : Hid (Kp [] w0 wr) := HE.out.2
      clear HJ HE
      go_wp2_with fail
      go_ret
      exact ⟨_, rfl, HW.out, HK.out⟩
end Go.Proofs.Ytpbmefojhgcniaa
namespace Go.Proofs.Ytpbmefojhgcniaa
open Go.RowKit
set_option linter.unusedVariables false
set_option linter.unusedSimpArgs false
/-- A box. -/
structure Bx where
  x0 : Int
  y0 : Int
  x1 : Int
  y1 : Int
deriving DecidableEq
def bxV (b : Bx) : Value := .agg #[.int .i64 b.x0, .int .i64 b.y0, .int .i64 b.x1, .int .i64 b.y1]
/-- A world by a name. -/
theorem wp_gen {P : Program} {c : Code} {Q : Exit → Act → World → Prop} {a : Act} {w : World} (h : ∀ W, W = w → Code.wp P c Q a W) : Code.wp P c Q a w := h w rfl
theorem three_heap {w W : World} {A B C : Obj} (h : W = ((w.alloc A).alloc B).alloc C) : W.heap[w.heap.size]? = some A ∧ W.heap[w.heap.size + 1]? = some B ∧ W.heap[w.heap.size + 1 + 1]? = some C := by
  have h1 := heap_alloc_new w A
  have h2 := heap_alloc_new (w.alloc A) B
  have h3 := heap_alloc_new ((w.alloc A).alloc B) C
  have s1 : (w.alloc A).heap.size = w.heap.size + 1 := by simp
  have s2 : ((w.alloc A).alloc B).heap.size = w.heap.size + 1 + 1 := by simp
  rw [s1] at h2
  rw [s2] at h3
  subst h
  exact ⟨(((Kp.refl [] (w.alloc A)).alloc B).alloc C).heap h1 (by simp), ((Kp.refl [] ((w.alloc A).alloc B)).alloc C).heap h2 (by simp), h3⟩
theorem less_calls (a b : Int) (w : World) : Calls Try.prog 67 #[.int .i64 a, .int .i64 b] w fun e w' => e = .returned (.int .i64 (min a b)) ∧ Kp [] w w' := by
  go_enter Try.func67, Try.ntmps67
  go_wp2_with fail
  go_ret
  exact ⟨rfl, by (repeat (first | exact Kp.refl _ _ | assumption | refine Kp.drew ?_ | refine Kp.drewN ?_ _ | refine Kp.alloc ?_ _ | (refine Kp.setCell ?_ (by first | (left; simp; done) | (right; simp; try omega)) _) | (refine Kp.trans' ?_ (by assumption) (by simp; try omega))))⟩
theorem more_calls (a b : Int) (w : World) : Calls Try.prog 68 #[.int .i64 a, .int .i64 b] w fun e w' => e = .returned (.int .i64 (max a b)) ∧ Kp [] w w' := by
  go_enter Try.func68, Try.ntmps68
  go_wp2_with fail
  go_ret
  exact ⟨rfl, by (repeat (first | exact Kp.refl _ _ | assumption | refine Kp.drew ?_ | refine Kp.drewN ?_ _ | refine Kp.alloc ?_ _ | (refine Kp.setCell ?_ (by first | (left; simp; done) | (right; simp; try omega)) _) | (refine Kp.trans' ?_ (by assumption) (by simp; try omega))))⟩
set_option maxRecDepth 100000 in
set_option maxHeartbeats 4000000 in
theorem pair_calls (a0 a1 a2 a3 b0 b1 b2 b3 : Int) (w : World) :
    Calls Try.prog 66 #[.agg #[.int .i64 a0, .int .i64 a1, .int .i64 a2, .int .i64 a3], .agg #[.int .i64 b0, .int .i64 b1, .int .i64 b2, .int .i64 b3], .func (.func 67) #[] #[], .func (.func 68) #[] #[]] w
      fun e w' => e = .returned (.agg #[.int .i64 (min a0 b0), .int .i64 (min a1 b1), .int .i64 (max a2 b2), .int .i64 (max a3 b3)]) ∧ Kp [] w w' := by
  go_enter Try.func66, Try.ntmps66
  go_wp2_with fail
  refine wp_gen ?_; intro W hW
  obtain ⟨hA, hB, hC⟩ := three_heap hW
  have HKW : Hid (Kp [] w W) := by rw [hW]; show Kp [] _ _; (repeat (first | exact Kp.refl _ _ | assumption | refine Kp.drew ?_ | refine Kp.drewN ?_ _ | refine Kp.alloc ?_ _ | (refine Kp.setCell ?_ (by first | (left; simp; done) | (right; simp; try omega)) _) | (refine Kp.trans' ?_ (by assumption) (by simp; try omega))))
  have hsz : Hid (W.heap.size = w.heap.size + 1 + 1 + 1) := by show _ = _; rw [hW]; simp
  have HB := Lib.hid hC
  have q0 := KW.cell (show W.cell? ⟨w.heap.size, 0, none⟩ = some (.int .i64 a0) by rw [cell_of_row W _ 0 _ _ (0, 0) hA]; rfl)
  have q1 := KW.cell (show W.cell? ⟨w.heap.size, 1, none⟩ = some (.int .i64 a1) by rw [cell_of_row W _ 1 _ _ (0, 0) hA]; rfl)
  have q2 := KW.cell (show W.cell? ⟨w.heap.size, 2, none⟩ = some (.int .i64 a2) by rw [cell_of_row W _ 2 _ _ (0, 0) hA]; rfl)
  have q3 := KW.cell (show W.cell? ⟨w.heap.size, 3, none⟩ = some (.int .i64 a3) by rw [cell_of_row W _ 3 _ _ (0, 0) hA]; rfl)
  have q4 := KW.cell (show W.cell? ⟨w.heap.size + 1, 0, none⟩ = some (.int .i64 b0) by rw [cell_of_row W _ 0 _ _ (0, 0) hB]; rfl)
  have q5 := KW.cell (show W.cell? ⟨w.heap.size + 1, 1, none⟩ = some (.int .i64 b1) by rw [cell_of_row W _ 1 _ _ (0, 0) hB]; rfl)
  have q6 := KW.cell (show W.cell? ⟨w.heap.size + 1, 2, none⟩ = some (.int .i64 b2) by rw [cell_of_row W _ 2 _ _ (0, 0) hB]; rfl)
  have q7 := KW.cell (show W.cell? ⟨w.heap.size + 1, 3, none⟩ = some (.int .i64 b3) by rw [cell_of_row W _ 3 _ _ (0, 0) hB]; rfl)
  clear hA hB hC hW
  refine wp_region_kqt 25 (by kernel_rfl) (by kernel_rfl) ?_
  simp only [List.take_succ_cons, List.take_zero, List.drop_succ_cons, List.drop_zero]
  repeat (go_big_quiet_step ((first | (go_at_call 67; exact Calls.kq (less_calls _ _ _)) | (go_at_call 68; exact Calls.kq (more_calls _ _ _)))))
  refine wpQuiet_nil ?_
  intro w1 hw'
  obtain ⟨⟨_, hkw1⟩, rfl⟩ := hw'
  try dsimp only
  have hb2 := hkw1.heap HB.out (by simp)
  have HK : Hid (Kp [] w w1) := HKW.out.trans hkw1
  have hs1 : w.heap.size + 1 + 1 + 1 ≤ w1.heap.size := by have := hkw1.size; have := hsz.out; omega
  have f0 : w1.frozen? ⟨w.heap.size + 1 + 1, 0, none⟩ = false := frozen_of_row w1 _ 0 _ _ hb2
  have f1 : w1.frozen? ⟨w.heap.size + 1 + 1, 1, none⟩ = false := frozen_of_row w1 _ 1 _ _ hb2
  have f2 : w1.frozen? ⟨w.heap.size + 1 + 1, 2, none⟩ = false := frozen_of_row w1 _ 2 _ _ hb2
  have f3 : w1.frozen? ⟨w.heap.size + 1 + 1, 3, none⟩ = false := frozen_of_row w1 _ 3 _ _ hb2
  have c0 : w1.cell? ⟨w.heap.size + 1 + 1, 0, none⟩ = some (.int .i64 0) := by rw [cell_of_row w1 _ 0 _ _ (0, 0) hb2]; rfl
  have c1 : w1.cell? ⟨w.heap.size + 1 + 1, 1, none⟩ = some (.int .i64 0) := by rw [cell_of_row w1 _ 1 _ _ (0, 0) hb2]; rfl
  have c2 : w1.cell? ⟨w.heap.size + 1 + 1, 2, none⟩ = some (.int .i64 0) := by rw [cell_of_row w1 _ 2 _ _ (0, 0) hb2]; rfl
  have c3 : w1.cell? ⟨w.heap.size + 1 + 1, 3, none⟩ = some (.int .i64 0) := by rw [cell_of_row w1 _ 3 _ _ (0, 0) hb2]; rfl
  clear q0 q1 q2 q3 q4 q5 q6 q7
  go_wp2_with fail
  have hk := HK.out
  refine bodyPost_ret (v := .agg #[.int .i64 (min a0 b0), .int .i64 (min a1 b1), .int .i64 (max a2 b2), .int .i64 (max a3 b3)]) (by simp [results, Try.results66, go_sem, c0, c1, c2, c3]) rfl ⟨rfl, by (repeat (first | exact Kp.refl _ _ | assumption | refine Kp.drew ?_ | refine Kp.drewN ?_ _ | refine Kp.alloc ?_ _ | (refine Kp.setCell ?_ (by first | (left; simp; done) | (right; simp; try omega)) _) | (refine Kp.trans' ?_ (by assumption) (by simp; try omega))))⟩
end Go.Proofs.Ytpbmefojhgcniaa
namespace Go.Proofs.Ytpbmefojhgcniaa
open Go.RowKit
set_option linter.unusedVariables false
set_option linter.unusedSimpArgs false
/-- The hull of the first j places. -/
def hullB (xs ys : List Int) : Nat → Bx
  | 0 => ⟨0, 0, 0, 0⟩
  | j + 1 =>
    let b := if j = 0 then (⟨xs.getD 0 0, ys.getD 0 0, xs.getD 0 0, ys.getD 0 0⟩ : Bx) else hullB xs ys j
    ⟨min b.x0 (xs.getD j 0), min b.y0 (ys.getD j 0), max b.x1 (xs.getD j 0), max b.y1 (ys.getD j 0)⟩
theorem hullB_one (xs ys : List Int) : hullB xs ys 1 = ⟨xs.getD 0 0, ys.getD 0 0, xs.getD 0 0, ys.getD 0 0⟩ := by
  rw [hullB, if_pos rfl]; simp
theorem hullB_succ (xs ys : List Int) (j : Nat) (h : j ≠ 0) : hullB xs ys (j + 1) = ⟨min (hullB xs ys j).x0 (xs.getD j 0), min (hullB xs ys j).y0 (ys.getD j 0), max (hullB xs ys j).x1 (xs.getD j 0), max (hullB xs ys j).y1 (ys.getD j 0)⟩ := by
  rw [hullB, if_neg h]
/-- A box lies in block B. -/
def BxAt (W : World) (B : Nat) (b : Bx) : Prop := W.heap[B]? = some (.cells #[.int .i64 b.x0, .int .i64 b.y0, .int .i64 b.x1, .int .i64 b.y1] 48)
theorem BxAt.cells {W : World} {B : Nat} {b : Bx} (h : BxAt W B b) : W.cell? ⟨B, 0, none⟩ = some (.int .i64 b.x0) ∧ W.cell? ⟨B, 1, none⟩ = some (.int .i64 b.y0) ∧ W.cell? ⟨B, 2, none⟩ = some (.int .i64 b.x1) ∧ W.cell? ⟨B, 3, none⟩ = some (.int .i64 b.y1) :=
  ⟨by rw [cell_of_row W B 0 _ _ (0, 0) h]; rfl, by rw [cell_of_row W B 1 _ _ (0, 0) h]; rfl, by rw [cell_of_row W B 2 _ _ (0, 0) h]; rfl, by rw [cell_of_row W B 3 _ _ (0, 0) h]; rfl⟩
theorem BxAt.frozen {W : World} {B : Nat} {b : Bx} (h : BxAt W B b) : W.frozen? ⟨B, 0, none⟩ = false ∧ W.frozen? ⟨B, 1, none⟩ = false ∧ W.frozen? ⟨B, 2, none⟩ = false ∧ W.frozen? ⟨B, 3, none⟩ = false :=
  ⟨frozen_of_row W B 0 _ _ h, frozen_of_row W B 1 _ _ h, frozen_of_row W B 2 _ _ h, frozen_of_row W B 3 _ _ h⟩
theorem BxAt.put {W : World} {B : Nat} {b : Bx} (h : BxAt W B b) (x y z u : Int) : BxAt ((((W.setCell ⟨B, 0, none⟩ (.int .i64 x)).setCell ⟨B, 1, none⟩ (.int .i64 y)).setCell ⟨B, 2, none⟩ (.int .i64 z)).setCell ⟨B, 3, none⟩ (.int .i64 u)) B ⟨x, y, z, u⟩ := by
  have h1 := heap_setCell_same W B 0 _ _ (.int .i64 x) h
  have h2 := heap_setCell_same _ B 1 _ _ (.int .i64 y) h1
  have h3 := heap_setCell_same _ B 2 _ _ (.int .i64 z) h2
  have h4 := heap_setCell_same _ B 3 _ _ (.int .i64 u) h3
  simpa [BxAt] using h4
theorem BxAt.far {W : World} {B : Nat} {b : Bx} (h : BxAt W B b) {p : Addr} (hp : B ≠ p.block) (u : Value) : BxAt (W.setCell p u) B b := by
  unfold BxAt at h ⊢; rw [heap_setCell_other W p B u hp]; exact h
theorem BxAt.kp {S : List Nat} {W W' : World} {B : Nat} {b : Bx} (h : BxAt W B b) (hk : Kp S W W') (hB : B ∉ S) : BxAt W' B b := hk.heap h hB
theorem two_heap {w W : World} {A B : Obj} (h : W = (w.alloc A).alloc B) : W.heap[w.heap.size]? = some A ∧ W.heap[w.heap.size + 1]? = some B := by
  have h1 := heap_alloc_new w A
  have h2 := heap_alloc_new (w.alloc A) B
  have s1 : (w.alloc A).heap.size = w.heap.size + 1 := by simp
  rw [s1] at h2
  subst h
  exact ⟨((Kp.refl [] (w.alloc A)).alloc B).heap h1 (by simp), h2⟩
/-- All of them lie in the bounds. -/
def numsI (xs : List Int) : Prop := ∀ i, i < xs.length → numF (xs.getD i 0) = true
theorem ints_form {k : IntKind} {w : World} {v : Value} {zs : List Int} (h : IsInts k w v zs) : ∃ p c, v = .slice p zs.length c := by
  rcases h with ⟨⟨a, rfl⟩, rfl⟩ | ⟨g, off, c, rfl, _⟩
  · exact ⟨_, _, rfl⟩
  · exact ⟨_, _, rfl⟩
theorem ints_row {k : IntKind} {w : World} {v : Value} {zs : List Int} (h : IsInts k w v zs) {i : Nat} (hi : i < zs.length) : ∃ g off c, v = .slice (some ⟨g, off, none⟩) zs.length c ∧ w.cell? ⟨g, off + i, none⟩ = some (.int k (zs.getD i 0)) := by
  rcases h with ⟨⟨a, rfl⟩, rfl⟩ | ⟨g, off, c, rfl, _, _, h⟩
  · simp at hi
  · exact ⟨g, off, c, rfl, h i hi⟩
theorem ints_kp0 {k : IntKind} {w w' : World} {v : Value} {zs : List Int} (h : IsInts k w v zs) (hk : Kp [] w w') : IsInts k w' v zs := h.kp hk (by simp)
/-- Where Hull stands: the result's block, the box's block. -/
def HuSt (w W : World) (b : Bx) : Prop := BxAt W w.heap.size ⟨0, 0, 0, 0⟩ ∧ BxAt W (w.heap.size + 1) b ∧ Kp [] w W
theorem HuSt.kp {w W W' : World} {b : Bx} (h : HuSt w W b) (hk : Kp [] W W') : HuSt w W' b := ⟨h.1.kp hk (by simp), h.2.1.kp hk (by simp), h.2.2.trans hk⟩
theorem HuSt.put {w W : World} {b : Bx} (h : HuSt w W b) (x y z u : Int) : HuSt w ((((W.setCell ⟨w.heap.size + 1, 0, none⟩ (.int .i64 x)).setCell ⟨w.heap.size + 1, 1, none⟩ (.int .i64 y)).setCell ⟨w.heap.size + 1, 2, none⟩ (.int .i64 z)).setCell ⟨w.heap.size + 1, 3, none⟩ (.int .i64 u)) ⟨x, y, z, u⟩ :=
  ⟨(((h.1.far (by simp) _).far (by simp) _).far (by simp) _).far (by simp) _, h.2.1.put x y z u, by have := h.2.2; (repeat (first | exact Kp.refl _ _ | assumption | refine Kp.drew ?_ | refine Kp.drewN ?_ _ | refine Kp.alloc ?_ _ | (refine Kp.setCell ?_ (by first | (left; simp; done) | (right; simp; try omega)) _) | (refine Kp.trans' ?_ (by assumption) (by simp; try omega))))⟩
theorem HuSt.lt {w W : World} {b : Bx} (h : HuSt w W b) : w.heap.size + 1 < W.heap.size := lt_of_block h.2.1
set_option maxRecDepth 100000 in
set_option maxHeartbeats 4000000 in
theorem ahull_calls (vx vy : Value) (xs ys : List Int) (w : World) (hx : IsInts .i64 w vx xs) (hy : IsInts .i64 w vy ys) (hl : xs.length = ys.length) (nx : numsI xs) (ny : numsI ys) :
    Calls Try.prog 45 #[vx, vy] w fun e w' => e = .returned (.tuple #[bxV (hullB xs ys xs.length), .int .i64 0]) ∧ Kp [] w w' := by
  have hle := hx.le
  unfold maxLen at hle
  obtain ⟨px, cx, rfl⟩ := ints_form hx
  obtain ⟨py, cy, rfl⟩ := ints_form hy
  have HX := Lib.hid hx
  have HY := Lib.hid hy
  have HNX := Lib.hid nx
  have HNY := Lib.hid ny
  obtain ⟨N, hN⟩ : ∃ N, xs.length = N := ⟨_, rfl⟩
  have HN := Lib.hid hN
  have HM : Hid (ys.length = N) := by show _ = _; omega
  rw [hN] at HX hle ⊢
  rw [HM.out] at HY ⊢
  clear hx hy nx ny hN hl
  go_enter Try.func45, Try.ntmps45
  go_wp2_with fail
  refine wp_gen ?_; intro W hW
  obtain ⟨hA, hB⟩ := two_heap hW
  have HS0 : Hid (HuSt w W ⟨0, 0, 0, 0⟩) := ⟨hA, hB, by rw [hW]; (repeat (first | exact Kp.refl _ _ | assumption | refine Kp.drew ?_ | refine Kp.drewN ?_ _ | refine Kp.alloc ?_ _ | (refine Kp.setCell ?_ (by first | (left; simp; done) | (right; simp; try omega)) _) | (refine Kp.trans' ?_ (by assumption) (by simp; try omega))))⟩
  clear hA hB hW
  have hsz0 : w.heap.size + 1 < W.heap.size := by have := HS0.out.2.1; have := lt_of_block this; omega
  go_wp2_with fail
  go_loopw [7, 8, 9, 10, 19] (fun _ _ _ _ i wr => ∃ j : Nat, j ≤ N ∧ i = .int .i64 j ∧ Hid (HuSt w wr (hullB xs ys j))) (fun _ _ _ _ i _ => N - (intOf i).toNat)
  case atStart => exact ⟨0, by omega, rfl, HS0.out⟩
  case round =>
    obtain ⟨j, hj, rfl, HJ⟩ := hrel
    clear HS0 hsz0
    by_cases hlt : j < N
    · obtain ⟨gx, ox, cx', ex, xj⟩ := ints_row (ints_kp0 HX.out HJ.out.2.2) (i := j) (by rw [HN.out]; exact hlt)
      obtain ⟨gy, oy, cy', ey, yj⟩ := ints_row (ints_kp0 HY.out HJ.out.2.2) (i := j) (by rw [HM.out]; exact hlt)
      rw [HN.out] at ex
      rw [HM.out] at ey
      cases ex; cases ey
      have HFX : Hid (∀ W, Calls Try.prog 29 #[.int .i64 (xs.getD j 0)] W fun e w' => e = .returned (.bool true) ∧ W = w') := fun W => by
        have := fmay_calls (xs.getD j 0) W; rwa [HNX.out j (by rw [HN.out]; exact hlt)] at this
      have HFY : Hid (∀ W, Calls Try.prog 29 #[.int .i64 (ys.getD j 0)] W fun e w' => e = .returned (.bool true) ∧ W = w') := fun W => by
        have := fmay_calls (ys.getD j 0) W; rwa [HNY.out j (by rw [HM.out]; exact hlt)] at this
      have HH1 := Lib.hid (hullB_one xs ys)
      have HHS := Lib.hid (hullB_succ xs ys j)
      by_cases hj0 : j = 0
      · subst hj0
        generalize xs.getD 0 0 = x at *
        generalize ys.getD 0 0 = y at *
        generalize hullB xs ys 0 = b at *
        rw [Nat.add_zero] at xj yj
        have q0 := KW.cell xj
        have q1 := KW.cell yj
        clear HHS xj yj
        go_wp2_with fail
        refine wp_region_kq (by kernel_rfl) (by kernel_rfl) ?_
        repeat (go_big_quiet_step (fail))
        refine wpQuiet_nil ?_
        intro w1 hw'
        obtain ⟨⟨_, hkw1⟩, rfl⟩ := hw'
        have HJ1 := Lib.hid (HJ.out.kp hkw1)
        clear q0 q1 hkw1
        go_wp2_with fail
        refine (HFX.out _).mono ?_; rintro e w2 ⟨rfl, rfl⟩
        go_wp2_with fail
        refine (HFY.out _).mono ?_; rintro e w2 ⟨rfl, rfl⟩
        have hlt1 := HJ1.out.lt
        obtain ⟨b0, b1, b2, b3⟩ := HJ1.out.2.1.cells
        obtain ⟨f0, f1, f2, f3⟩ := HJ1.out.2.1.frozen
        go_wp2_with fail
        clear b0 b1 b2 b3 f0 f1 f2 f3
        refine (pair_calls _ _ _ _ _ _ _ _ _).mono ?_; rintro e w3 ⟨rfl, hk3⟩
        have HJ3 := Lib.hid (HuSt.kp ((HJ1.out.put x y x y).kp ((Kp.refl [] _).alloc _)) hk3)
        have hlt3 := HJ3.out.lt
        obtain ⟨b0, b1, b2, b3⟩ := HJ3.out.2.1.cells
        obtain ⟨f0, f1, f2, f3⟩ := HJ3.out.2.1.frozen
        clear hk3 hlt1 HJ1 HJ
        have HF := Lib.hid (HJ3.out.put x y x y)
        rw [← HH1.out] at HF
        go_wp2_with fail
        go_roundw
        case rel => first | exact ⟨0 + 1, by omega, int_eq' (by omega), HF.out⟩ | ((repeat apply Exists.intro); exact ⟨⟨0 + 1, by omega, int_eq' (by omega), HF.out⟩, rfl⟩)
        case measure => simp [intOf] <;> omega
      · have hjb : ((j : Int) == 0) = false := by simpa using hj0
        have HHS1 := Lib.hid (HHS.out hj0)
        generalize xs.getD j 0 = x at *
        generalize ys.getD j 0 = y at *
        generalize hullB xs ys j = b at *
        have q0 := KW.cell xj
        have q1 := KW.cell yj
        clear HHS HH1 xj yj
        go_wp2_with fail
        refine wp_region_kq (by kernel_rfl) (by kernel_rfl) ?_
        repeat (go_big_quiet_step (fail))
        refine wpQuiet_nil ?_
        intro w1 hw'
        obtain ⟨⟨_, hkw1⟩, rfl⟩ := hw'
        have HJ1 := Lib.hid (HJ.out.kp hkw1)
        clear q0 q1 hkw1
        go_wp2_with fail
        refine (HFX.out _).mono ?_; rintro e w2 ⟨rfl, rfl⟩
        go_wp2_with fail
        refine (HFY.out _).mono ?_; rintro e w2 ⟨rfl, rfl⟩
        have hlt1 := HJ1.out.lt
        obtain ⟨b0, b1, b2, b3⟩ := HJ1.out.2.1.cells
        obtain ⟨f0, f1, f2, f3⟩ := HJ1.out.2.1.frozen
        go_wp2_with fail
        clear b0 b1 b2 b3 f0 f1 f2 f3
        refine (pair_calls _ _ _ _ _ _ _ _ _).mono ?_; rintro e w3 ⟨rfl, hk3⟩
        have HJ3 := Lib.hid (HuSt.kp ((HJ1.out).kp ((Kp.refl [] _).alloc _)) hk3)
        have hlt3 := HJ3.out.lt
        obtain ⟨b0, b1, b2, b3⟩ := HJ3.out.2.1.cells
        obtain ⟨f0, f1, f2, f3⟩ := HJ3.out.2.1.frozen
        clear hk3 hlt1 HJ1 HJ
        have HF := Lib.hid (HJ3.out.put (min b.x0 x) (min b.y0 y) (max b.x1 x) (max b.y1 y))
        rw [← HHS1.out] at HF
        go_wp2_with fail
        go_roundw
        case rel => first | exact ⟨j + 1, by omega, int_eq' (by omega), HF.out⟩ | ((repeat apply Exists.intro); exact ⟨⟨j + 1, by omega, int_eq' (by omega), HF.out⟩, rfl⟩)
        case measure => simp [intOf] <;> omega
    · obtain rfl : j = N := by omega
      obtain ⟨b, hb⟩ : ∃ b, hullB xs ys j = b := ⟨_, rfl⟩
      rw [hb] at HJ
      have HE := Lib.hid HJ.out
      have HB := Lib.hid hb
      clear HJ hb
      obtain ⟨r0, r1, r2, r3⟩ := HE.out.1.cells
      obtain ⟨s0, s1, s2, s3⟩ := HE.out.1.frozen
      obtain ⟨b0, b1, b2, b3⟩ := HE.out.2.1.cells
      have hk := HE.out.2.2
      go_wp2_with fail
      refine bodyPost_ret (v := .tuple #[bxV b, .int .i64 0]) (by simp [results, Try.results45, go_sem, bxV, r0, r1, r2, r3]) rfl ⟨by rw [HB.out], by (repeat (first | exact Kp.refl _ _ | assumption | refine Kp.drew ?_ | refine Kp.drewN ?_ _ | refine Kp.alloc ?_ _ | (refine Kp.setCell ?_ (by first | (left; simp; done) | (right; simp; try omega)) _) | (refine Kp.trans' ?_ (by assumption) (by simp; try omega))))⟩
end Go.Proofs.Ytpbmefojhgcniaa
namespace Go.Proofs.Ytpbmefojhgcniaa
open Go.RowKit
set_option linter.unusedVariables false
set_option linter.unusedSimpArgs false
end Go.Proofs.Ytpbmefojhgcniaa

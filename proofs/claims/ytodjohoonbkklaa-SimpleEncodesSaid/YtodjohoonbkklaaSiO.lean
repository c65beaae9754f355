/- simple: Encode where all points may be put. -/
import Derived.Test.YtodjohoonbkklaaSiN
import Derived.BigQuiet
import Derived.Deep.CutBlock
import Derived.Deep.DeepCutAuto
namespace Go.Proofs.Ytodjohoonbkklaa
open Go.RowKit
set_option linter.unusedVariables false
set_option linter.unusedSimpArgs false
/-- The bytes of the contours' last points. -/
def encEnds (o : List (List Pn)) : Nat → List Int
  | 0 => []
  | j + 1 => encEnds o j ++ bytesN 2 ((cntTo o (j + 1) : Nat) - 1 : Int)
theorem encEnds_len (o : List (List Pn)) : ∀ j, (encEnds o j).length = 2 * j := by
  intro j
  induction j with
  | zero => rfl
  | succ j ih => rw [encEnds, List.length_append, ih, bytesN_length]; omega
def encTop (n : Nat) (b : Bx) : List Int := ((((([] ++ bytesN 2 (n : Int)) ++ bytesN 2 (b.x0.tdiv 65536)) ++ bytesN 2 (b.y0.tdiv 65536)) ++ bytesN 2 (b.x1.tdiv 65536)) ++ bytesN 2 (b.y1.tdiv 65536))
theorem encTop_len (n : Nat) (b : Bx) : (encTop n b).length = 10 := by simp [encTop, bytesN_length]
def encB (o : List (List Pn)) (b : Bx) (t : EnS) : List Int := ((((encTop o.length b ++ encEnds o o.length) ++ bytesN 2 0) ++ packM t.fl.length t.fl) ++ t.ax) ++ t.ay
theorem packM_len : ∀ (f : Nat) (l : List Int), (packM f l).length ≤ 2 * l.length := by
  intro f
  induction f with
  | zero => intro l; simp [packM]
  | succ f ih =>
    intro l
    cases l with
    | nil => simp [packM]
    | cons c cs =>
      have h1 := ih ((c :: cs).drop (runLen (c :: cs)))
      obtain ⟨h2, _⟩ := runLen_le (c :: cs)
      have h3 : 1 ≤ runLen (c :: cs) := by simp [runLen]
      rw [packM, List.length_append]
      rw [List.length_drop] at h1
      split <;> simp only [List.length_cons, List.length_nil] at * <;> omega
/-- The writer r in Encode: its bytes; all that was there at w2 is kept. -/
def EnW (w2 W : World) (r : Nat) (room : Int) (u : Value) (acc : List Int) : Prop := WSt W r room u acc ∧ Kp [] w2 W ∧ w2.heap.size ≤ r
theorem wr64 (x : Int) (h0 : -9223372036854775808 ≤ x) (h1 : x ≤ 9223372036854775807) : IntKind.i64.wrap x = x := by
  simp [IntKind.wrap, IntKind.signed, IntKind.bits]; omega
theorem room_wrap (j M X Y : Nat) (h1 : j ≤ 256) (h2 : M ≤ 8192) (h3 : X ≤ 8192) (h4 : Y ≤ 8192) : IntKind.i64.wrap (IntKind.i64.wrap (IntKind.i64.wrap (IntKind.i64.wrap (14 + IntKind.i64.wrap (2 * (j : Int))) + M) + X) + Y) = 14 + 2 * (j : Int) + M + X + Y := by
  rw [wr64 (2 * (j : Int)) (by omega) (by omega), wr64 (14 + 2 * (j : Int)) (by omega) (by omega), wr64 (14 + 2 * (j : Int) + M) (by omega) (by omega), wr64 (14 + 2 * (j : Int) + M + X) (by omega) (by omega), wr64 _ (by omega) (by omega)]
def numB4 (b : Bx) : Prop := numF b.x0 = true ∧ numF b.y0 = true ∧ numF b.x1 = true ∧ numF b.y1 = true
theorem numF_min {a b : Int} (h1 : numF a = true) (h2 : numF b = true) : numF (min a b) = true := by rw [numF_iff] at *; omega
theorem numF_max {a b : Int} (h1 : numF a = true) (h2 : numF b = true) : numF (max a b) = true := by rw [numF_iff] at *; omega
theorem hullB_num (xs ys : List Int) (nx : numsI xs) (ny : numsI ys) (hl : xs.length = ys.length) : ∀ n, n ≤ xs.length → numB4 (hullB xs ys n) := by
  intro n
  induction n with
  | zero => intro _; exact ⟨rfl, rfl, rfl, rfl⟩
  | succ n ih =>
    intro h
    have hx := nx n (by omega)
    have hy := ny n (by omega)
    by_cases h0 : n = 0
    · subst h0
      rw [hullB_one]
      exact ⟨hx, hy, hx, hy⟩
    · obtain ⟨a, b, c, d⟩ := ih (by omega)
      rw [hullB_succ _ _ _ h0]
      exact ⟨numF_min a hx, numF_min b hy, numF_max c hx, numF_max d hy⟩
theorem hull_num {o : List (List Pn)} (h : ∀ j, j < o.length → mayCo (o.getD j []) = true) : numB4 (hullO o) := by
  obtain ⟨hx, hy⟩ := numsI_x (flat_nums h)
  refine hullB_num _ _ hx hy (by rw [xsP_len, ysP_len]) _ ?_
  rw [xsP_len, flatTo_len o o.length (Nat.le_refl _)]
  exact Nat.le_refl _
/-- The box's numbers in units. -/
theorem numB4.units {b : Bx} (h : numB4 b) : (-32768 ≤ b.x0.tdiv 65536 ∧ b.x0.tdiv 65536 ≤ 32768) ∧ (-32768 ≤ b.y0.tdiv 65536 ∧ b.y0.tdiv 65536 ≤ 32768) ∧ (-32768 ≤ b.x1.tdiv 65536 ∧ b.x1.tdiv 65536 ≤ 32768) ∧ (-32768 ≤ b.y1.tdiv 65536 ∧ b.y1.tdiv 65536 ≤ 32768) := by
  obtain ⟨h1, h2, h3, h4⟩ := h
  rw [numF_iff] at *
  have key : ∀ x : Int, -2147483648 ≤ x ∧ x ≤ 2147483648 → -32768 ≤ x.tdiv 65536 ∧ x.tdiv 65536 ≤ 32768 := by
    intro x hx
    rcases Int.le_total 0 x with h | h
    · rw [Int.tdiv_eq_ediv_of_nonneg h]; omega
    · have : x.tdiv 65536 = -((-x).tdiv 65536) := by rw [Int.neg_tdiv, Int.neg_neg]
      rw [this, Int.tdiv_eq_ediv_of_nonneg (by omega)]; omega
  exact ⟨key _ h1, key _ h2, key _ h3, key _ h4⟩
set_option maxRecDepth 100000 in
set_option maxHeartbeats 4000000 in
theorem enc_some (v : Value) (o : List (List Pn)) (w : World) (hv : IsOut w v o) (hE : checkO o = 0) (h0 : o ≠ []) (t : EnS) (hR : encS (restF o 0) en0 = some t) :
    Calls Try.prog 49 #[v] w fun e w' => ∃ v', e = .returned (.tuple #[v', .int .i64 0]) ∧ IsInts .u8 w' v' (encB o (hullO o) t) ∧ Kp [] w w' ∧ ∀ k, blockOf v' = some k → w.heap.size ≤ k := by
  obtain ⟨hz1, hz2, hz3⟩ := checkO_zero hE
  have HC := Lib.hid (ohull_ok v o w hv hE)
  have HF : Hid (∀ j, j < o.length → (o.getD j []).length ≤ 4096) := fun j hj => by have := len_le_cnt o hj; omega
  have HV := Lib.hid hv
  have HNU : Hid (∀ p ∈ flatTo o o.length, numF p.x = true ∧ numF p.y = true) := flat_nums hz3
  have HNP : Hid (∀ j, j < o.length → ∀ m, m < (o.getD j []).length → ((-9223372036854775808 ≤ ((o.getD j []).getD m pn0).x ∧ ((o.getD j []).getD m pn0).x ≤ 9223372036854775807) ∧ (-9223372036854775808 ≤ ((o.getD j []).getD m pn0).y ∧ ((o.getD j []).getD m pn0).y ≤ 9223372036854775807))) := by
    intro j hj m hm
    have h := HNU.out ((o.getD j []).getD m pn0) (by
      unfold flatTo
      rw [List.take_length, List.mem_flatten]
      refine ⟨o.getD j [], ?_, ?_⟩
      · rw [List.getD_eq_getElem?_getD, List.getElem?_eq_getElem hj]; exact List.getElem_mem hj
      · rw [List.getD_eq_getElem?_getD (l := o.getD j []), List.getElem?_eq_getElem hm]; exact List.getElem_mem hm)
    have h1 := (numF_iff _).1 h.1
    have h2 := (numF_iff _).1 h.2
    omega
  have HCT := Lib.hid (fun j hj => Nat.le_trans (cntTo_le o (j := j) hj) hz2)
  obtain ⟨pa, ca, rfl⟩ := hv.form
  have HR : Hid (encS (restF o 0) en0 = some t) := hR
  have HRE := Lib.hid (restF_end o)
  obtain ⟨N, hN⟩ : ∃ N, o.length = N := ⟨_, rfl⟩
  have HN := Lib.hid hN
  have hN1 : N ≤ 256 := by rw [← hN]; exact hz1
  have hN0 : 0 < N := by rw [← hN]; exact List.length_pos_iff.2 h0
  have hn0 : ((N : Int) == 0) = false := by rw [beq_eq_false_iff_ne]; omega
  rw [hN] at HV HC HCT HRE ⊢
  have HBX := Lib.hid (hull_num hz3)
  generalize hullO o = b at *
  clear hN hv hz1 hz2 hz3 hE hR h0 HNU
  go_enter Try.func49, Try.ntmps49
  go_wp2_with fail
  refine HC.out.mono ?_; rintro e w1 ⟨rfl, hk1⟩
  have HK1 := Lib.hid hk1
  have HV1 := Lib.hid (HV.out.kp0 hk1)
  rw [show bxV b = .agg #[.int .i64 b.x0, .int .i64 b.y0, .int .i64 b.x1, .int .i64 b.y1] from rfl]
  clear hk1 HC HV
  go_wp2_with fail
  refine wp_gen ?_; intro W0 hW0
  obtain ⟨q1, q2, q3⟩ := three_heap hW0
  have hs0 : W0.heap.size = w1.heap.size + 3 := by rw [hW0]; simp
  have hk0 : Kp [] w1 W0 := by rw [hW0]; (repeat (first | exact Kp.refl _ _ | assumption | refine Kp.drew ?_ | refine Kp.drewN ?_ _ | refine Kp.alloc ?_ _ | (refine Kp.setCell ?_ (by first | (left; simp; done) | (right; simp; try omega)) _) | (refine Kp.trans' ?_ (by assumption) (by simp; try omega))))
  have HP0 : Hid (∃ vx vy, PEn w1 W0 w1.heap.size (.slice none 0 0) vx vy en0.fl en0.ax en0.ay en0.lx en0.ly b) :=
    ⟨_, _, Nat.le_refl _, ⟨q2, World.ownsRow_nil _ _ _ _, by omega, by omega⟩, ⟨q3, World.ownsRow_nil _ _ _ _, by omega, by omega⟩, World.ownsRow_nil _ _ _ _, by simp [Value.ownBlock], by simp [Value.ownBlock], q1, hk0⟩
  clear hW0 q1 q2 q3 hs0
  go_loopw [8, 10, 12, 13, 14, 38] (fun f _ _ _ _ i wr => ∃ (j : Nat) (s : EnS), j ≤ N ∧ i = .int .i64 j ∧ Hid (∃ vx vy, PEn w1 wr w1.heap.size f vx vy s.fl s.ax s.ay s.lx s.ly b) ∧ Hid (EnB s (cntTo o j)) ∧ Hid (encS (restF o j) s = some t)) (fun _ _ _ _ _ i _ => N - (intOf i).toNat)
  case atStart => exact ⟨0, en0, by omega, rfl, HP0.out, ⟨rfl, by simp [en0], by simp [en0], by simp [en0], by simp [en0], by simp [en0]⟩, HR.out⟩
  case round =>
    obtain ⟨j, s, hj, rfl, HJ, HB, HS⟩ := hrel
    clear HP0 HR hk0
    by_cases hlt : j < N
    · have hjo : j < o.length := by rw [HN.out]; exact hlt
      obtain ⟨g1, o1, c1, p1, cv, e1, _, _, h1, hp⟩ := HV1.out.row hjo
      rw [HN.out] at e1
      cases e1
      have hkw : Kp [] w1 wr := HJ.out.choose_spec.choose_spec.2.2.2.2.2.2.2
      have HP : Hid (∀ W, Kp [] w1 W → IsPs W (.slice p1 (o.getD j []).length cv) (o.getD j [])) := fun W hW => hp.kp0 hW
      replace h1 := hkw.cell h1 (by simp)
      have hL := HF.out j hjo
      have HNC := Lib.hid (HNP.out j hjo)
      have HCS : Hid (cntTo o (j + 1) = cntTo o j + (o.getD j []).length ∧ cntTo o j ≤ 4096 ∧ cntTo o (j + 1) ≤ 4096) := ⟨rfl, HCT.out j hj, HCT.out (j + 1) (by omega)⟩
      have HS0 : Hid (encS ((o.getD j []).drop 0 ++ restF o (j + 1)) s = some t) := by show _ = _; rw [List.drop_zero, ← restF_at o j hjo]; exact HS.out
      generalize o.getD j [] = c at *
      obtain ⟨L, hcl⟩ : ∃ L, c.length = L := ⟨_, rfl⟩
      have HCL := Lib.hid hcl
      rw [hcl] at h1 hL HP HCS HNC
      obtain ⟨f0, hf0⟩ : ∃ f0, u8 = f0 := ⟨_, rfl⟩
      clear hcl hp hkw HS
      go_wp2_with fail
      go_loopw [8, 12, 13, 14, 44] (fun f _ _ _ i wr2 => ∃ (m : Nat) (s2 : EnS), m ≤ L ∧ i = .int .i64 m ∧ Hid (∃ vx vy, PEn w1 wr2 w1.heap.size f vx vy s2.fl s2.ax s2.ay s2.lx s2.ly b) ∧ Hid (EnB s2 (cntTo o j + m)) ∧ Hid (encS (c.drop m ++ restF o (j + 1)) s2 = some t)) (fun _ _ _ _ i _ => L - (intOf i).toNat)
      case atStart => exact ⟨0, s, by omega, rfl, HJ.out, HB.out, HS0.out⟩
      case round =>
        obtain ⟨m, s2, hm, rfl, HI, HB2, HS2⟩ := hrel
        clear HJ HB HS0
        by_cases hml : m < L
        · obtain ⟨vx, vy, hpe⟩ := HI.out
          have HPE := Lib.hid hpe
          have hkw : Kp [] w1 wr := hpe.2.2.2.2.2.2.2
          obtain ⟨g2, o2, q2, e2, _, _, x1, y1, k1⟩ := (HP.out _ hkw).row (i := m) (by rw [HCL.out]; exact hml)
          rw [HCL.out] at e2
          cases e2
          have HTS : Hid (encS (c.getD m pn0 :: (c.drop (m + 1) ++ restF o (j + 1))) s2 = some t) := by
            show _ = _
            have hmc : m < c.length := by rw [HCL.out]; exact hml
            have h := HS2.out
            rw [List.drop_eq_getElem_cons hmc] at h
            rw [List.getD_eq_getElem?_getD, List.getElem?_eq_getElem hmc]; exact h
          have HBN := Lib.hid (HNC.out m hml)
          generalize c.getD m pn0 = P at *
          have HB3 := Lib.hid (HB2.out.next HBN.out.1 HBN.out.2)
          have hcnt := HCS.out.2.2
          rw [HCS.out.1] at hcnt
          obtain ⟨e1, e2, e3, e4, e5, _⟩ := HB2.out
          have HPO := Lib.hid (fun hpo => point_ok P hpo HBN.out.1 HBN.out.2 (hpe.kp0 ((Kp.refl _ _).alloc (.cells #[.int .i64 P.x, .int .i64 P.y, .int .i64 P.k] 61))).2.1 (hpe.kp0 ((Kp.refl _ _).alloc (.cells #[.int .i64 P.x, .int .i64 P.y, .int .i64 P.k] 61))).2.2.1 (by omega) hpe.2.2.2.2.1 e4 e5 (by omega) (by omega))
          have HPN := Lib.hid (fun hpo => point_no (w := wr.alloc (.cells #[.int .i64 P.x, .int .i64 P.y, .int .i64 P.k] 61)) (w1.heap.size + 1) (w1.heap.size + 2) P hpo HBN.out.1 HBN.out.2)
          have HPK := Lib.hid (hpe.kp0 ((Kp.refl _ _).alloc (.cells #[.int .i64 P.x, .int .i64 P.y, .int .i64 P.k] 61)))
          have HST : Hid (∀ q, ptOk P = q → encS (P :: (c.drop (m + 1) ++ restF o (j + 1))) s2 = if (q && (putK (P.x.tdiv 65536 - s2.lx) && putK (P.y.tdiv 65536 - s2.ly))) then encS (c.drop (m + 1) ++ restF o (j + 1)) (encPt s2 P) else none) := fun q hq => by subst hq; rfl
          have HEP : Hid (encPt s2 P = ⟨s2.fl ++ [flagP P.k (P.x.tdiv 65536 - s2.lx) (P.y.tdiv 65536 - s2.ly)], s2.ax ++ putB (P.x.tdiv 65536 - s2.lx), s2.ay ++ putB (P.y.tdiv 65536 - s2.ly), P.x.tdiv 65536, P.y.tdiv 65536⟩) := rfl
          obtain ⟨pf, cf, hf⟩ := slice_own hpe.2.2.2.1
          subst hf
          obtain ⟨A, hA⟩ : ∃ A, s2.fl.length = A := ⟨_, rfl⟩
          have HA := Lib.hid hA
          rw [hA]
          have hA1 : A ≤ 4096 := by omega
          clear hpe HB2 HS2 HI hA e1 e2 e3 e4 e5 hkw
          by_cases hpo : ptOk P = true
          · have HQ := Lib.hid (HPO.out hpo)
            have HST2 := Lib.hid (HST.out true hpo)
            clear HPO HPN HST
            go_wp2_with fail
            refine HQ.out.mono ?_; intro e w3 hpt
            obtain ⟨rfl, vx3, vy3, hpe3⟩ := HPK.out.point hpt
            have HPE3 := Lib.hid hpe3
            obtain ⟨fb, hfb⟩ : ∃ fb, flagP P.k (P.x.tdiv 65536 - s2.lx) (P.y.tdiv 65536 - s2.ly) = fb := ⟨_, rfl⟩
            obtain ⟨kk, hkk⟩ : ∃ kk, (putK (P.x.tdiv 65536 - s2.lx) && putK (P.y.tdiv 65536 - s2.ly)) = kk := ⟨_, rfl⟩
            rw [hfb] at HEP ⊢
            rw [hkk] at HST2 ⊢
            have HT2 : Hid ((if kk = true then encS (c.drop (m + 1) ++ restF o (j + 1)) (encPt s2 P) else none) = some t) := by
              show _ = _
              have h9 := HTS.out
              rw [HST2.out, Bool.true_and] at h9
              exact h9
            have hk3 : Kp [] w1 w3 := hpe3.2.2.2.2.2.2.2
            have HK3 := Lib.hid hk3
            have hsz3 : w1.heap.size + 3 ≤ w3.heap.size := hpe3.2.1.2.2.2
            clear hpt hpe3 HPK HPE HQ HST2 HTS hk3 hfb hkk
            cases kk with
            | false =>
              cases HT2.out
            | true =>
              have HT3 : Hid (encS (c.drop (m + 1) ++ restF o (j + 1)) (encPt s2 P) = some t) := by show _ = _; have := HT2.out; simpa using this
              clear HT2
              go_wp2_with (at_builtin; go_loud (refine wpList_pushM rfl _ _ 22 5 .u8 1 Try.underlying22 infoByte (by decide) rfl (w1.heap.size + 3) (.slice pf A cf) s2.fl A HA.out rfl ?hown w3.heap.size [fb] 1 rfl (by decide) rfl ?hc ?hl ?hbase ?hk))
              case hown => have h := HPE3.out.2.2.2.1; rw [HA.out] at h; exact Kp.row (S := []) (by (repeat (first | exact Kp.refl _ _ | assumption | refine Kp.drew ?_ | refine Kp.drewN ?_ _ | refine Kp.alloc ?_ _ | (refine Kp.setCell ?_ (by first | (left; simp; done) | (right; simp; try omega)) _) | (refine Kp.trans' ?_ (by assumption) (by simp; try omega))))) h (by simp)
              try case hc => exact litI (k := .u8) (zs := [fb]) (Kp.refl _ _)
              case hl => omega
              case hbase => simp; omega
              case hk =>
              intro v5 w5 hown5 hk5 hk6
              have HO5 : Hid (∃ vx vy, PEn w1 w5 w1.heap.size v5 vx vy (encPt s2 P).fl (encPt s2 P).ax (encPt s2 P).ay (encPt s2 P).lx (encPt s2 P).ly b) := by
                rw [HEP.out]
                have hpx := HPE3.out
                rw [HA.out] at hpx
                refine ⟨vx3, vy3, PEn.push (news := [fb]) (n := A + 1) (PEn.kp0 hpx ?_) (by rw [List.length_append, HA.out]; rfl) (by rw [List.map_append]; exact hown5) hk5 (fun k hk => by have := hk6 k hk; simpa using this)⟩
                (repeat (first | exact Kp.refl _ _ | assumption | refine Kp.drew ?_ | refine Kp.drewN ?_ _ | refine Kp.alloc ?_ _ | (refine Kp.setCell ?_ (by first | (left; simp; done) | (right; simp; try omega)) _) | (refine Kp.trans' ?_ (by assumption) (by simp; try omega))))
              clear hown5 hk5 hk6 HPE3 HK3
              go_wp2_with fail
              go_roundw
              case rel => first | exact ⟨m + 1, encPt s2 P, by omega, int_eq' (by omega), HO5, HB3, HT3⟩ | ((repeat apply Exists.intro); exact ⟨⟨m + 1, encPt s2 P, by omega, int_eq' (by omega), HO5, HB3, HT3⟩, rfl⟩)
              case measure => simp [intOf] <;> omega
          · have hpf : ptOk P = false := by simpa using hpo
            have HQ := Lib.hid (HPN.out hpf)
            have HT2 : Hid ((none : Option EnS) = some t) := by show _ = _; rw [← HTS.out, HST.out false hpf] <;> rfl
            clear HPO HPN HST HTS
            cases HT2.out
        · obtain rfl : m = L := by omega
          have HFB : Hid (EnB s2 (cntTo o (j + 1))) := by show EnB _ _; rw [HCS.out.1]; exact HB2.out
          have HFS : Hid (encS (restF o (j + 1)) s2 = some t) := by
            have h := HS2.out
            rw [List.drop_eq_nil_of_le (by rw [HCL.out]; exact Nat.le_refl _), List.nil_append] at h
            exact h
          clear HB2 HS2
          go_wp2_with fail
          go_roundw
          case rel => first | exact ⟨j + 1, s2, by omega, int_eq' (by omega), HI, HFB, HFS⟩ | ((repeat apply Exists.intro); exact ⟨⟨j + 1, s2, by omega, int_eq' (by omega), HI, HFB, HFS⟩, rfl⟩)
          case measure => simp [intOf] <;> omega
    · obtain rfl : j = N := by omega
      obtain ⟨vx, vy, hpe⟩ := HJ.out
      have hst : s = t := by have h := HS.out; rw [HRE.out j (Nat.le_refl _)] at h; exact Option.some.inj h
      subst hst
      obtain ⟨e1, e2, e3, _, _, hbyte⟩ := HB.out
      have hcn := HCT.out j (Nat.le_refl _)
      have HPC := Lib.hid (packed_calls (w := wr) u8 s.fl (IsInts.owned hpe.2.2.2.1) hbyte (by omega))
      have hpl := packM_len s.fl.length s.fl
      have HE : Hid (encB o b s = ((((encTop j b ++ encEnds o j) ++ bytesN 2 0) ++ packM s.fl.length s.fl) ++ s.ax) ++ s.ay) := by show _ = _; unfold encB; rw [HN.out]
      obtain ⟨X, hX⟩ : ∃ X, s.ax.length = X := ⟨_, rfl⟩
      obtain ⟨Y, hY⟩ : ∃ Y, s.ay.length = Y := ⟨_, rfl⟩
      obtain ⟨M, hM⟩ : ∃ M, (packM s.fl.length s.fl).length = M := ⟨_, rfl⟩
      have HX := Lib.hid hX
      have HY := Lib.hid hY
      have HM := Lib.hid hM
      have hX1 : X ≤ 8192 := by omega
      have hY1 : Y ≤ 8192 := by omega
      have hM1 : M ≤ 8192 := by omega
      have HPE := Lib.hid hpe
      obtain ⟨px, cx, hvx⟩ := slice_own hpe.2.1.2.1
      obtain ⟨py, cy, hvy⟩ := slice_own hpe.2.2.1.2.1
      subst hvx; subst hvy
      rw [hX, hY] at HPE
      clear HJ HB HS hpe e1 e2 e3 hbyte hcn hpl hX hY hM
      go_wp2_with fail
      refine HPC.out.mono ?_; rintro e w2 ⟨pk, rfl, hown, hk2⟩
      rw [HM.out] at hown
      obtain ⟨pp, cp, rfl⟩ := slice_own hown
      have HOW := Lib.hid hown
      have HP2 := Lib.hid (HPE.out.kp0 hk2)
      have a0 : w2.cell? ⟨w1.heap.size + 1, 0, none⟩ = some (.slice px X cx) := HP2.out.2.1.facts.1
      have a1 : w2.cell? ⟨w1.heap.size + 1 + 1, 0, none⟩ = some (.slice py Y cy) := HP2.out.2.2.1.facts.1
      clear hown hk2 HPC HPE
      go_upto_region 20 with fail
      go_cut [15] (fun s15 wx => ∃ (r : Nat), s15 = .pointer (some ⟨r, 0, none⟩) ∧ EnW w2 wx r (14 + 2 * (j : Int) + M + X + Y) (.slice none 0 0) [])
      case first =>
        go_region_with ((go_at_call 61
                         rw [room_wrap j M X Y hN1 hM1 hX1 hY1]
                         refine (to_calls _ (by omega) _).mono ?_
                         rintro e w3 ⟨rfl, hs3, hk3⟩))
        all_goals
          go_wp2_with fail
          go_meet
          exact ⟨_, rfl, hs3, Kp.trans (by (repeat (first | exact Kp.refl _ _ | assumption | refine Kp.drew ?_ | refine Kp.drewN ?_ _ | refine Kp.alloc ?_ _ | (refine Kp.setCell ?_ (by first | (left; simp; done) | (right; simp; try omega)) _) | (refine Kp.trans' ?_ (by assumption) (by simp; try omega))))) hk3, by simp⟩
      --CUT1
      obtain ⟨r, rfl, HW⟩ := hcut
      have HWA : Hid (EnW w2 wc r (14 + 2 * (j : Int) + M + X + Y) (.slice none 0 0) []) := HW
      have hr2 : w2.heap.size ≤ r := HW.2.2
      have hrc : r < wc.heap.size := HW.1.2.2
      obtain ⟨⟨q1, q2⟩, ⟨q3, q4⟩, ⟨q5, q6⟩, ⟨q7, q8⟩⟩ := HBX.out.units
      have d0 := wr64 (b.x0.tdiv 65536) (by omega) (by omega)
      have d1 := wr64 (b.y0.tdiv 65536) (by omega) (by omega)
      have d2 := wr64 (b.x1.tdiv 65536) (by omega) (by omega)
      have d3 := wr64 (b.y1.tdiv 65536) (by omega) (by omega)
      obtain ⟨RM, hRM⟩ : ∃ RM : Int, 14 + 2 * (j : Int) + M + X + Y = RM := ⟨_, rfl⟩
      have HRM := Lib.hid hRM
      have hRM1 : 14 ≤ RM := by omega
      have hRM2 : RM ≤ 1073741824 := by omega
      rw [hRM] at HWA
      have hbx := (HP2.out.2.2.2.2.2.2.1)
      obtain ⟨c0, c1, c2, c3⟩ := hbx.cells
      have hkc := HWA.out.2.1
      have b0 := hkc.cell c0 (by simp)
      have b1 := hkc.cell c1 (by simp)
      have b2 := hkc.cell c2 (by simp)
      have b3 := hkc.cell c3 (by simp)
      have hs1 := HWA.out.1
      clear HW hRM hbx a0 a1
      have hW1 : w1.heap.size < w2.heap.size := lt_of_block HP2.out.2.2.2.2.2.2.1
      have HE0 : Hid (encTop j b = ((((([] ++ bytesN 2 (j : Int)) ++ bytesN 2 (b.x0.tdiv 65536)) ++ bytesN 2 (b.y0.tdiv 65536)) ++ bytesN 2 (b.x1.tdiv 65536)) ++ bytesN 2 (b.y1.tdiv 65536))) := rfl
      rename World => wA
      go_upto_region 21 with fail
      go_cut [15] (fun s15 wx => s15 = .pointer (some ⟨r, 0, none⟩) ∧ ∃ u, EnW w2 wx r RM u (encTop j b))
      case first =>
        go_region_held3 (fun w' => w'.cell? ⟨w1.heap.size, 0, none⟩ = some (.int .i64 b.x0) ∧ w'.cell? ⟨w1.heap.size, 1, none⟩ = some (.int .i64 b.y0) ∧ w'.cell? ⟨w1.heap.size, 2, none⟩ = some (.int .i64 b.x1) ∧ w'.cell? ⟨w1.heap.size, 3, none⟩ = some (.int .i64 b.y1)) (first | go_keep | exact ⟨b0, b1, b2, b3⟩ | exact ⟨hA6.cell c0 (by simp), hA6.cell c1 (by simp), hA6.cell c2 (by simp), hA6.cell c3 (by simp)⟩ | exact ⟨hA5.cell c0 (by simp), hA5.cell c1 (by simp), hA5.cell c2 (by simp), hA5.cell c3 (by simp)⟩ | exact ⟨hA4.cell c0 (by simp), hA4.cell c1 (by simp), hA4.cell c2 (by simp), hA4.cell c3 (by simp)⟩ | exact ⟨hA3.cell c0 (by simp), hA3.cell c1 (by simp), hA3.cell c2 (by simp), hA3.cell c3 (by simp)⟩ | exact ⟨hA2.cell c0 (by simp), hA2.cell c1 (by simp), hA2.cell c2 (by simp), hA2.cell c3 (by simp)⟩)
          (first
            | (go_at_call 62
               with_reducible refine (wi16_calls r RM v5 (((([] ++ bytesN 2 (j : Int)) ++ bytesN 2 (b.x0.tdiv 65536)) ++ bytesN 2 (b.y0.tdiv 65536)) ++ bytesN 2 (b.x1.tdiv 65536)) (b.y1.tdiv 65536) (by omega) (by omega) _ (WSt.kp (S := []) (w := x5) hs5 (by (repeat (first | exact Kp.refl _ _ | assumption | refine Kp.drew ?_ | refine Kp.drewN ?_ _ | refine Kp.alloc ?_ _ | (refine Kp.setCell ?_ (by first | (left; simp; done) | (right; simp; try omega)) _) | (refine Kp.trans' ?_ (by assumption) (by simp; try omega))))) (by simp) (by simp)) (by simp [bytesN_length]; omega) hRM2).mono ?_
               rintro e x6 ⟨rfl, v6, hs6, hk6⟩
               have hA6 : Kp [] w2 x6 := hk6.kp0 (WSt.kp (S := []) (w := x5) hs5 (by (repeat (first | exact Kp.refl _ _ | assumption | refine Kp.drew ?_ | refine Kp.drewN ?_ _ | refine Kp.alloc ?_ _ | (refine Kp.setCell ?_ (by first | (left; simp; done) | (right; simp; try omega)) _) | (refine Kp.trans' ?_ (by assumption) (by simp; try omega))))) (by simp) (by simp)) (by (repeat (first | exact Kp.refl _ _ | assumption | refine Kp.drew ?_ | refine Kp.drewN ?_ _ | refine Kp.alloc ?_ _ | (refine Kp.setCell ?_ (by first | (left; simp; done) | (right; simp; try omega)) _) | (refine Kp.trans' ?_ (by assumption) (by simp; try omega))))) hr2)
            | (go_at_call 62
               with_reducible refine (wi16_calls r RM v4 ((([] ++ bytesN 2 (j : Int)) ++ bytesN 2 (b.x0.tdiv 65536)) ++ bytesN 2 (b.y0.tdiv 65536)) (b.x1.tdiv 65536) (by omega) (by omega) _ (WSt.kp (S := []) (w := x4) hs4 (by (repeat (first | exact Kp.refl _ _ | assumption | refine Kp.drew ?_ | refine Kp.drewN ?_ _ | refine Kp.alloc ?_ _ | (refine Kp.setCell ?_ (by first | (left; simp; done) | (right; simp; try omega)) _) | (refine Kp.trans' ?_ (by assumption) (by simp; try omega))))) (by simp) (by simp)) (by simp [bytesN_length]; omega) hRM2).mono ?_
               rintro e x5 ⟨rfl, v5, hs5, hk5⟩
               have hA5 : Kp [] w2 x5 := hk5.kp0 (WSt.kp (S := []) (w := x4) hs4 (by (repeat (first | exact Kp.refl _ _ | assumption | refine Kp.drew ?_ | refine Kp.drewN ?_ _ | refine Kp.alloc ?_ _ | (refine Kp.setCell ?_ (by first | (left; simp; done) | (right; simp; try omega)) _) | (refine Kp.trans' ?_ (by assumption) (by simp; try omega))))) (by simp) (by simp)) (by (repeat (first | exact Kp.refl _ _ | assumption | refine Kp.drew ?_ | refine Kp.drewN ?_ _ | refine Kp.alloc ?_ _ | (refine Kp.setCell ?_ (by first | (left; simp; done) | (right; simp; try omega)) _) | (refine Kp.trans' ?_ (by assumption) (by simp; try omega))))) hr2)
            | (go_at_call 62
               with_reducible refine (wi16_calls r RM v3 (([] ++ bytesN 2 (j : Int)) ++ bytesN 2 (b.x0.tdiv 65536)) (b.y0.tdiv 65536) (by omega) (by omega) _ (WSt.kp (S := []) (w := x3) hs3 (by (repeat (first | exact Kp.refl _ _ | assumption | refine Kp.drew ?_ | refine Kp.drewN ?_ _ | refine Kp.alloc ?_ _ | (refine Kp.setCell ?_ (by first | (left; simp; done) | (right; simp; try omega)) _) | (refine Kp.trans' ?_ (by assumption) (by simp; try omega))))) (by simp) (by simp)) (by simp [bytesN_length]; omega) hRM2).mono ?_
               rintro e x4 ⟨rfl, v4, hs4, hk4⟩
               have hA4 : Kp [] w2 x4 := hk4.kp0 (WSt.kp (S := []) (w := x3) hs3 (by (repeat (first | exact Kp.refl _ _ | assumption | refine Kp.drew ?_ | refine Kp.drewN ?_ _ | refine Kp.alloc ?_ _ | (refine Kp.setCell ?_ (by first | (left; simp; done) | (right; simp; try omega)) _) | (refine Kp.trans' ?_ (by assumption) (by simp; try omega))))) (by simp) (by simp)) (by (repeat (first | exact Kp.refl _ _ | assumption | refine Kp.drew ?_ | refine Kp.drewN ?_ _ | refine Kp.alloc ?_ _ | (refine Kp.setCell ?_ (by first | (left; simp; done) | (right; simp; try omega)) _) | (refine Kp.trans' ?_ (by assumption) (by simp; try omega))))) hr2)
            | (go_at_call 62
               with_reducible refine (wi16_calls r RM v2 ([] ++ bytesN 2 (j : Int)) (b.x0.tdiv 65536) (by omega) (by omega) _ (WSt.kp (S := []) (w := x2) hs2 (by (repeat (first | exact Kp.refl _ _ | assumption | refine Kp.drew ?_ | refine Kp.drewN ?_ _ | refine Kp.alloc ?_ _ | (refine Kp.setCell ?_ (by first | (left; simp; done) | (right; simp; try omega)) _) | (refine Kp.trans' ?_ (by assumption) (by simp; try omega))))) (by simp) (by simp)) (by simp [bytesN_length]; omega) hRM2).mono ?_
               rintro e x3 ⟨rfl, v3, hs3, hk3⟩
               have hA3 : Kp [] w2 x3 := hk3.kp0 (WSt.kp (S := []) (w := x2) hs2 (by (repeat (first | exact Kp.refl _ _ | assumption | refine Kp.drew ?_ | refine Kp.drewN ?_ _ | refine Kp.alloc ?_ _ | (refine Kp.setCell ?_ (by first | (left; simp; done) | (right; simp; try omega)) _) | (refine Kp.trans' ?_ (by assumption) (by simp; try omega))))) (by simp) (by simp)) (by (repeat (first | exact Kp.refl _ _ | assumption | refine Kp.drew ?_ | refine Kp.drewN ?_ _ | refine Kp.alloc ?_ _ | (refine Kp.setCell ?_ (by first | (left; simp; done) | (right; simp; try omega)) _) | (refine Kp.trans' ?_ (by assumption) (by simp; try omega))))) hr2)
            | (go_at_call 62
               with_reducible refine (wi16_calls r RM (.slice none 0 0) [] (j : Int) (by omega) (by omega) _ (WSt.kp (S := []) (w := wA) hs1 (by (repeat (first | exact Kp.refl _ _ | assumption | refine Kp.drew ?_ | refine Kp.drewN ?_ _ | refine Kp.alloc ?_ _ | (refine Kp.setCell ?_ (by first | (left; simp; done) | (right; simp; try omega)) _) | (refine Kp.trans' ?_ (by assumption) (by simp; try omega))))) (by simp) (by simp)) (by simp [bytesN_length]; omega) hRM2).mono ?_
               rintro e x2 ⟨rfl, v2, hs2, hk2⟩
               have hA2 : Kp [] w2 x2 := hk2.kp0 (WSt.kp (S := []) (w := wA) hs1 (by (repeat (first | exact Kp.refl _ _ | assumption | refine Kp.drew ?_ | refine Kp.drewN ?_ _ | refine Kp.alloc ?_ _ | (refine Kp.setCell ?_ (by first | (left; simp; done) | (right; simp; try omega)) _) | (refine Kp.trans' ?_ (by assumption) (by simp; try omega))))) (by simp) (by simp)) (by (repeat (first | exact Kp.refl _ _ | assumption | refine Kp.drew ?_ | refine Kp.drewN ?_ _ | refine Kp.alloc ?_ _ | (refine Kp.setCell ?_ (by first | (left; simp; done) | (right; simp; try omega)) _) | (refine Kp.trans' ?_ (by assumption) (by simp; try omega))))) hr2))
        all_goals
          go_wp2_with fail
          go_meet
          exact ⟨rfl, v6, by rw [HE0.out]; exact hs6, hA6, hr2⟩
      --CUT2
      obtain ⟨rfl, u, HW5⟩ := hcut
      have HW0 : Hid (EnW w2 wc r RM u (encTop j b ++ encEnds o 0)) := by show EnW _ _ _ _ _ _; simpa [encEnds] using HW5
      have HK12 : Hid (Kp [] w1 w2) := HP2.out.2.2.2.2.2.2.2
      clear HW5 hs1 b0 b1 b2 b3 hkc HWA HE0 c0 c1 c2 c3 d0 d1 d2 d3 q1 q2 q3 q4 q5 q6 q7 q8
      go_wp2_with fail
      go_loopw [16, 18, 107] (fun l _ i wr => ∃ (m : Nat) (u : Value), m ≤ j ∧ i = .int .i64 m ∧ l = .int .i64 (((cntTo o m : Nat) : Int) - 1) ∧ Hid (EnW w2 wr r RM u (encTop j b ++ encEnds o m))) (fun _ _ i _ => j - (intOf i).toNat)
      case atStart => exact ⟨0, u, by omega, rfl, rfl, HW0.out⟩
      case round =>
        obtain ⟨m, u2, hm, rfl, rfl, HI⟩ := hrel
        clear HW0
        have HKW : Hid (Kp [] w1 wr) := HK12.out.trans HI.out.2.1
        by_cases hml : m < j
        · obtain ⟨g1, o1, c1, p1, cv, e1, _, _, h1, hp⟩ := (HV1.out.kp0 HKW.out).row (i := m) (by rw [HN.out]; exact hml)
          rw [HN.out] at e1
          cases e1
          have HSL : Hid ((encTop j b ++ encEnds o m).length = 10 + 2 * m) := by show _ = _; rw [List.length_append, encTop_len, encEnds_len]
          have hcm := HCT.out (m + 1) (by omega)
          have hce : cntTo o (m + 1) = cntTo o m + (o.getD m []).length := rfl
          obtain ⟨L, hL⟩ : ∃ L, (o.getD m []).length = L := ⟨_, rfl⟩
          rw [hL] at h1 hce
          rw [hce] at hcm
          have HST : Hid (encTop j b ++ encEnds o (m + 1) = (encTop j b ++ encEnds o m) ++ bytesN 2 (((cntTo o m : Nat) : Int) - 1 + (L : Int)) ∧ (((cntTo o (m + 1) : Nat) : Int) - 1 = ((cntTo o m : Nat) : Int) - 1 + (L : Int))) := by
            have e2 : ((cntTo o (m + 1) : Nat) : Int) - 1 = ((cntTo o m : Nat) : Int) - 1 + (L : Int) := by rw [hce]; push_cast; omega
            exact ⟨by rw [encEnds, e2, List.append_assoc], e2⟩
          generalize encTop j b ++ encEnds o m = ac at *
          generalize cntTo o m = C at *
          have hC1 : C ≤ 4096 := by omega
          have hL1 : L ≤ 4096 := by omega
          have HU := Lib.hid (fun W h => wu16_calls r RM u2 ac ((C : Int) - 1 + (L : Int)) (by omega) (by omega) W h (by have := HSL.out; have := HRM.out; omega) hRM2)
          clear hp hL hce hcm
          go_wp2_with fail
          refine (HU.out _ (HI.out.1.kp (S := []) (by (repeat (first | exact Kp.refl _ _ | assumption | refine Kp.drew ?_ | refine Kp.drewN ?_ _ | refine Kp.alloc ?_ _ | (refine Kp.setCell ?_ (by first | (left; simp; done) | (right; simp; try omega)) _) | (refine Kp.trans' ?_ (by assumption) (by simp; try omega))))) (by simp) (by simp))).mono ?_; rintro e w5 ⟨rfl, u5, hs5, hk5⟩
          have HS5 : Hid (EnW w2 w5 r RM u5 (encTop j b ++ encEnds o (m + 1))) := by
            refine ⟨?_, hk5.kp0 (HI.out.1.kp (S := []) (by (repeat (first | exact Kp.refl _ _ | assumption | refine Kp.drew ?_ | refine Kp.drewN ?_ _ | refine Kp.alloc ?_ _ | (refine Kp.setCell ?_ (by first | (left; simp; done) | (right; simp; try omega)) _) | (refine Kp.trans' ?_ (by assumption) (by simp; try omega))))) (by simp) (by simp)) (HI.out.2.1.trans (by (repeat (first | exact Kp.refl _ _ | assumption | refine Kp.drew ?_ | refine Kp.drewN ?_ _ | refine Kp.alloc ?_ _ | (refine Kp.setCell ?_ (by first | (left; simp; done) | (right; simp; try omega)) _) | (refine Kp.trans' ?_ (by assumption) (by simp; try omega)))))) HI.out.2.2, HI.out.2.2⟩
            rw [HST.out.1]; exact hs5
          clear hs5 hk5 HU
          go_wp2_with fail
          go_roundw
          case rel => first | exact ⟨m + 1, u5, by omega, int_eq' (by omega), int_eq' (by rw [HST.out.2]), HS5⟩ | ((repeat apply Exists.intro); exact ⟨⟨m + 1, u5, by omega, int_eq' (by omega), int_eq' (by rw [HST.out.2]), HS5⟩, rfl⟩)
          case measure => simp [intOf]; omega
        · obtain rfl : m = j := by omega
          have HACL : Hid ((encTop m b ++ encEnds o m).length = 10 + 2 * m) := by show _ = _; rw [List.length_append, encTop_len, encEnds_len]
          obtain ⟨AC, hAC⟩ : ∃ AC, encTop m b ++ encEnds o m = AC := ⟨_, rfl⟩
          obtain ⟨PZ, hPZ⟩ : ∃ PZ, packM s.fl.length s.fl = PZ := ⟨_, rfl⟩
          rw [hAC] at HE HI HACL
          rw [hPZ] at HE HM HOW
          have hkc := HI.out.2.1
          have b0 := hkc.cell (HP2.out.2.1.facts.1) (by simp)
          have b1 : wr.cell? ⟨w1.heap.size + 1 + 1, 0, none⟩ = some (.slice py Y cy) := hkc.cell (HP2.out.2.2.1.facts.1) (by simp)
          have HOX := Lib.hid (HP2.out.2.1.2.1)
          have HOY := Lib.hid (HP2.out.2.2.1.2.1)
          have HBF : Hid (∀ k, blockOf (.slice pp M cp) = some k → k ≠ r) := fun k hk => by have := (HOW.out.lt k (blockOf_own hk)).2; omega
          have HBXX : Hid (∀ k, blockOf (.slice px X cx) = some k → k ≠ r) := fun k hk => by have := (HOX.out.lt k (blockOf_own hk)).2; omega
          have HBYY : Hid (∀ k, blockOf (.slice py Y cy) = some k → k ≠ r) := fun k hk => by have := (HOY.out.lt k (blockOf_own hk)).2; omega
          have hs1 := HI.out.1
          have hA0 := HI.out.2.1
          clear hAC hPZ
          rename World => wB
          go_wp2_with fail
          go_region_held3 (fun w' => w'.cell? ⟨w1.heap.size + 1, 0, none⟩ = some (.slice px X cx) ∧ w'.cell? ⟨w1.heap.size + 1 + 1, 0, none⟩ = some (.slice py Y cy)) (first | go_keep | exact ⟨b0, b1⟩ | exact ⟨hA6.cell HP2.out.2.1.facts.1 (by simp), hA6.cell HP2.out.2.2.1.facts.1 (by simp)⟩ | exact ⟨hA5.cell HP2.out.2.1.facts.1 (by simp), hA5.cell HP2.out.2.2.1.facts.1 (by simp)⟩ | exact ⟨hA4.cell HP2.out.2.1.facts.1 (by simp), hA4.cell HP2.out.2.2.1.facts.1 (by simp)⟩ | exact ⟨hA3.cell HP2.out.2.1.facts.1 (by simp), hA3.cell HP2.out.2.2.1.facts.1 (by simp)⟩ | exact ⟨hA2.cell HP2.out.2.1.facts.1 (by simp), hA2.cell HP2.out.2.2.1.facts.1 (by simp)⟩)
            (first
              | (go_at_call 65
                 with_reducible refine (wdone_calls r RM v5 ((((AC ++ bytesN 2 0) ++ PZ) ++ s.ax) ++ s.ay) _ (WSt.kp (S := []) (w := x5) hs5 (by (repeat (first | exact Kp.refl _ _ | assumption | refine Kp.drew ?_ | refine Kp.drewN ?_ _ | refine Kp.alloc ?_ _ | (refine Kp.setCell ?_ (by first | (left; simp; done) | (right; simp; try omega)) _) | (refine Kp.trans' ?_ (by assumption) (by simp; try omega))))) (by simp) (by simp)) (by have := HX.out; have := HY.out; have := HM.out; have := HACL.out; have := HRM.out; (try simp only [List.length_append, bytesN_length]); omega)).mono ?_
                 rintro e x6 ⟨v6, rfl, hi6, hk6, hb6⟩
                 have hA6 : Kp [] w2 x6 := Kp.trans (by (repeat (first | exact Kp.refl _ _ | assumption | refine Kp.drew ?_ | refine Kp.drewN ?_ _ | refine Kp.alloc ?_ _ | (refine Kp.setCell ?_ (by first | (left; simp; done) | (right; simp; try omega)) _) | (refine Kp.trans' ?_ (by assumption) (by simp; try omega))))) hk6
                 have hsz6 : w2.heap.size ≤ x5.heap.size := hA5.size)
              | (go_at_call 63
                 with_reducible refine (wdataA_calls r RM v4 (((AC ++ bytesN 2 0) ++ PZ) ++ s.ax) (.slice py Y cy) s.ay _ (WSt.kp (S := []) (w := x4) hs4 (by (repeat (first | exact Kp.refl _ _ | assumption | refine Kp.drew ?_ | refine Kp.drewN ?_ _ | refine Kp.alloc ?_ _ | (refine Kp.setCell ?_ (by first | (left; simp; done) | (right; simp; try omega)) _) | (refine Kp.trans' ?_ (by assumption) (by simp; try omega))))) (by simp) (by simp)) ((IsInts.owned HOY.out).kp0 (by (repeat (first | exact Kp.refl _ _ | assumption | refine Kp.drew ?_ | refine Kp.drewN ?_ _ | refine Kp.alloc ?_ _ | (refine Kp.setCell ?_ (by first | (left; simp; done) | (right; simp; try omega)) _) | (refine Kp.trans' ?_ (by assumption) (by simp; try omega)))))) HBYY.out (by have := HX.out; have := HY.out; have := HM.out; have := HACL.out; have := HRM.out; (try simp only [List.length_append, bytesN_length]); omega) hRM2).mono ?_
                 rintro e x5 ⟨rfl, v5, hs5, hk5⟩
                 have hA5 : Kp [] w2 x5 := hk5.kp0 (WSt.kp (S := []) (w := x4) hs4 (by (repeat (first | exact Kp.refl _ _ | assumption | refine Kp.drew ?_ | refine Kp.drewN ?_ _ | refine Kp.alloc ?_ _ | (refine Kp.setCell ?_ (by first | (left; simp; done) | (right; simp; try omega)) _) | (refine Kp.trans' ?_ (by assumption) (by simp; try omega))))) (by simp) (by simp)) (by (repeat (first | exact Kp.refl _ _ | assumption | refine Kp.drew ?_ | refine Kp.drewN ?_ _ | refine Kp.alloc ?_ _ | (refine Kp.setCell ?_ (by first | (left; simp; done) | (right; simp; try omega)) _) | (refine Kp.trans' ?_ (by assumption) (by simp; try omega))))) hr2)
              | (go_at_call 63
                 with_reducible refine (wdataA_calls r RM v3 ((AC ++ bytesN 2 0) ++ PZ) (.slice px X cx) s.ax _ (WSt.kp (S := []) (w := x3) hs3 (by (repeat (first | exact Kp.refl _ _ | assumption | refine Kp.drew ?_ | refine Kp.drewN ?_ _ | refine Kp.alloc ?_ _ | (refine Kp.setCell ?_ (by first | (left; simp; done) | (right; simp; try omega)) _) | (refine Kp.trans' ?_ (by assumption) (by simp; try omega))))) (by simp) (by simp)) ((IsInts.owned HOX.out).kp0 (by (repeat (first | exact Kp.refl _ _ | assumption | refine Kp.drew ?_ | refine Kp.drewN ?_ _ | refine Kp.alloc ?_ _ | (refine Kp.setCell ?_ (by first | (left; simp; done) | (right; simp; try omega)) _) | (refine Kp.trans' ?_ (by assumption) (by simp; try omega)))))) HBXX.out (by have := HX.out; have := HY.out; have := HM.out; have := HACL.out; have := HRM.out; (try simp only [List.length_append, bytesN_length]); omega) hRM2).mono ?_
                 rintro e x4 ⟨rfl, v4, hs4, hk4⟩
                 have hA4 : Kp [] w2 x4 := hk4.kp0 (WSt.kp (S := []) (w := x3) hs3 (by (repeat (first | exact Kp.refl _ _ | assumption | refine Kp.drew ?_ | refine Kp.drewN ?_ _ | refine Kp.alloc ?_ _ | (refine Kp.setCell ?_ (by first | (left; simp; done) | (right; simp; try omega)) _) | (refine Kp.trans' ?_ (by assumption) (by simp; try omega))))) (by simp) (by simp)) (by (repeat (first | exact Kp.refl _ _ | assumption | refine Kp.drew ?_ | refine Kp.drewN ?_ _ | refine Kp.alloc ?_ _ | (refine Kp.setCell ?_ (by first | (left; simp; done) | (right; simp; try omega)) _) | (refine Kp.trans' ?_ (by assumption) (by simp; try omega))))) hr2)
              | (go_at_call 63
                 with_reducible refine (wdataA_calls r RM v2 (AC ++ bytesN 2 0) (.slice pp M cp) PZ _ (WSt.kp (S := []) (w := x2) hs2 (by (repeat (first | exact Kp.refl _ _ | assumption | refine Kp.drew ?_ | refine Kp.drewN ?_ _ | refine Kp.alloc ?_ _ | (refine Kp.setCell ?_ (by first | (left; simp; done) | (right; simp; try omega)) _) | (refine Kp.trans' ?_ (by assumption) (by simp; try omega))))) (by simp) (by simp)) ((IsInts.owned HOW.out).kp0 (by (repeat (first | exact Kp.refl _ _ | assumption | refine Kp.drew ?_ | refine Kp.drewN ?_ _ | refine Kp.alloc ?_ _ | (refine Kp.setCell ?_ (by first | (left; simp; done) | (right; simp; try omega)) _) | (refine Kp.trans' ?_ (by assumption) (by simp; try omega)))))) HBF.out (by have := HX.out; have := HY.out; have := HM.out; have := HACL.out; have := HRM.out; (try simp only [List.length_append, bytesN_length]); omega) hRM2).mono ?_
                 rintro e x3 ⟨rfl, v3, hs3, hk3⟩
                 have hA3 : Kp [] w2 x3 := hk3.kp0 (WSt.kp (S := []) (w := x2) hs2 (by (repeat (first | exact Kp.refl _ _ | assumption | refine Kp.drew ?_ | refine Kp.drewN ?_ _ | refine Kp.alloc ?_ _ | (refine Kp.setCell ?_ (by first | (left; simp; done) | (right; simp; try omega)) _) | (refine Kp.trans' ?_ (by assumption) (by simp; try omega))))) (by simp) (by simp)) (by (repeat (first | exact Kp.refl _ _ | assumption | refine Kp.drew ?_ | refine Kp.drewN ?_ _ | refine Kp.alloc ?_ _ | (refine Kp.setCell ?_ (by first | (left; simp; done) | (right; simp; try omega)) _) | (refine Kp.trans' ?_ (by assumption) (by simp; try omega))))) hr2)
              | (go_at_call 105
                 with_reducible refine (wu16_calls r RM u2 AC 0 (by omega) (by omega) _ (WSt.kp (S := []) (w := wB) hs1 (by (repeat (first | exact Kp.refl _ _ | assumption | refine Kp.drew ?_ | refine Kp.drewN ?_ _ | refine Kp.alloc ?_ _ | (refine Kp.setCell ?_ (by first | (left; simp; done) | (right; simp; try omega)) _) | (refine Kp.trans' ?_ (by assumption) (by simp; try omega))))) (by simp) (by simp)) (by have := HX.out; have := HY.out; have := HM.out; have := HACL.out; have := HRM.out; (try simp only [List.length_append, bytesN_length]); omega) hRM2).mono ?_
                 rintro e x2 ⟨rfl, v2, hs2, hk2⟩
                 have hA2 : Kp [] w2 x2 := hk2.kp0 (WSt.kp (S := []) (w := wB) hs1 (by (repeat (first | exact Kp.refl _ _ | assumption | refine Kp.drew ?_ | refine Kp.drewN ?_ _ | refine Kp.alloc ?_ _ | (refine Kp.setCell ?_ (by first | (left; simp; done) | (right; simp; try omega)) _) | (refine Kp.trans' ?_ (by assumption) (by simp; try omega))))) (by simp) (by simp)) (by (repeat (first | exact Kp.refl _ _ | assumption | refine Kp.drew ?_ | refine Kp.drewN ?_ _ | refine Kp.alloc ?_ _ | (refine Kp.setCell ?_ (by first | (left; simp; done) | (right; simp; try omega)) _) | (refine Kp.trans' ?_ (by assumption) (by simp; try omega))))) hr2))
          all_goals
            have HI6 := Lib.hid hi6
            have HB6 : Hid (∀ k, blockOf v6 = some k → w.heap.size ≤ k) := fun k hk => by have h1 := hb6 k hk; have h2 := HK1.out.size; have h3 := HK12.out.size; (try simp at h1); omega
            have HK6 : Hid (Kp [] w x6) := HK1.out.trans (HK12.out.trans hA6)
            clear hi6 hb6 hk6 hA6 hs1 hs2 hs3 hs4 hs5 hk2 hk3 hk4 hk5 hA0 hA2 hA3 hA4 hA5 b0 b1 hkc
            go_wp2_with fail
            go_ret2
            rw [HE.out]
            exact ⟨v6, rfl, HI6.out.kp0 (by (repeat (first | exact Kp.refl _ _ | assumption | refine Kp.drew ?_ | refine Kp.drewN ?_ _ | refine Kp.alloc ?_ _ | (refine Kp.setCell ?_ (by first | (left; simp; done) | (right; simp; try omega)) _) | (refine Kp.trans' ?_ (by assumption) (by simp; try omega))))), Kp.trans HK6.out (by (repeat (first | exact Kp.refl _ _ | assumption | refine Kp.drew ?_ | refine Kp.drewN ?_ _ | refine Kp.alloc ?_ _ | (refine Kp.setCell ?_ (by first | (left; simp; done) | (right; simp; try omega)) _) | (refine Kp.trans' ?_ (by assumption) (by simp; try omega))))), HB6.out⟩
end Go.Proofs.Ytodjohoonbkklaa

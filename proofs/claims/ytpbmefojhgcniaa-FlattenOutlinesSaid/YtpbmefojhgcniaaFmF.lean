/- flatten: Flatten of any outline · flatten: the law's own scale, and large · flatten: plain facts: dots lie within, moved outlines, phases · flatten: plain facts: another phase moves each dot of a line. (Merged by wip/tools/mergetpl.py out of FlY, FlZ, FlaP, FlaQ.) -/
import Derived.Test.YtpbmefojhgcniaaFmE
import Derived.Test.YtpbmefojhgcniaaFmC
namespace Go.Proofs.Ytpbmefojhgcniaa
open Go.RowKit
set_option linter.unusedVariables false
set_option linter.unusedSimpArgs false
set_option maxRecDepth 100000 in
set_option maxHeartbeats 4000000 in
theorem fflat_scale (s : Sc) (v : Value) (o : List (List Pn)) (w : World) (hv : IsOut w v o) (hs : mayS s = false) :
    Calls Try.prog 15 #[scV s, v] w fun e w' => ∃ v', e = .returned (.tuple #[v', .int .i64 210]) ∧ IsFl w' v' [] ∧ Kp [] w w' := by
  have HM := Lib.hid (fun W => mayscale_calls s W)
  rw [hs] at HM
  unfold scV at HM
  obtain ⟨pa, ca, rfl⟩ := hv.form
  generalize o.length = N at *
  clear hs hv
  unfold scV
  go_enter Try.func15, Try.ntmps15
  go_wp2_with fail
  refine (HM.out _).mono ?_; rintro e w1 ⟨rfl, hk1⟩
  have HK1 : Hid (Kp [] w w1) := Kp.trans (by (repeat (first | exact Kp.refl _ _ | assumption | refine Kp.drew ?_ | refine Kp.drewN ?_ _ | refine Kp.alloc ?_ _ | (refine Kp.setCell ?_ (by first | (left; simp; done) | (right; simp; try omega)) _) | (refine Kp.trans' ?_ (by assumption) (by simp; try omega))))) hk1
  clear hk1
  go_wp2_with fail
  go_ret2
  exact ⟨_, rfl, IsFl.nil _ _, HK1.out⟩
set_option maxRecDepth 100000 in
set_option maxHeartbeats 4000000 in
theorem fflat_check (s : Sc) (v : Value) (o : List (List Pn)) (w : World) (hv : IsOut w v o) (hs : mayS s = true) (E : Int) (hE : checkO o = E) (hE0 : E ≠ 0) (hsm : smallO o) (hc : cnt o ≤ 4611686018427387904) :
    Calls Try.prog 15 #[scV s, v] w fun e w' => ∃ v', e = .returned (.tuple #[v', .int .i64 E]) ∧ IsFl w' v' [] ∧ Kp [] w w' := by
  have HM := Lib.hid (fun W => mayscale_calls s W)
  rw [hs] at HM
  unfold scV at HM
  have HCK := Lib.hid (fun W (hk : Kp [] w W) => check_calls v o W (hv.kp0 hk) hsm hc)
  rw [hE] at HCK
  have hb : (E != 0) = true := by simpa using hE0
  obtain ⟨pa, ca, rfl⟩ := hv.form
  generalize o.length = N at *
  clear hs hv hE hsm hc
  unfold scV
  go_enter Try.func15, Try.ntmps15
  go_wp2_with fail
  refine (HM.out _).mono ?_; rintro e w1 ⟨rfl, hk1⟩
  have HK1 : Hid (Kp [] w w1) := Kp.trans (by (repeat (first | exact Kp.refl _ _ | assumption | refine Kp.drew ?_ | refine Kp.drewN ?_ _ | refine Kp.alloc ?_ _ | (refine Kp.setCell ?_ (by first | (left; simp; done) | (right; simp; try omega)) _) | (refine Kp.trans' ?_ (by assumption) (by simp; try omega))))) hk1
  clear hk1
  go_wp2_with fail
  refine (HCK.out _ HK1.out).mono ?_; rintro e w2 ⟨rfl, hk2⟩
  have HK2 : Hid (Kp [] w w2) := HK1.out.trans hk2
  clear hk2 HCK HM HK1
  go_wp2_with fail
  go_ret2
  exact ⟨_, rfl, IsFl.nil _ _, HK2.out⟩
theorem fflat_calls (s : Sc) (v : Value) (o : List (List Pn)) (w : World) (hv : IsOut w v o) (hsm : smallO o) (hc : cnt o ≤ 4611686018427387904) :
    Calls Try.prog 15 #[scV s, v] w fun e w' => ∃ v', e = .returned (.tuple #[v', .int .i64 (flatM s o).2]) ∧ IsFl w' v' (flatM s o).1 ∧ Kp [] w w' := by
  cases hs : mayS s with
  | false =>
    have e : flatM s o = ([], 210) := by unfold flatM; rw [if_pos hs]
    rw [e]; exact fflat_scale s v o w hv hs
  | true =>
    by_cases hE : checkO o = 0
    · exact fflat_ok s v o w hv hs hE hsm
    · have e : flatM s o = ([], checkO o) := by unfold flatM; rw [if_neg (by simp [hs]), if_pos hE]
      rw [e]; exact fflat_check s v o w hv hs _ rfl hE hsm hc
end Go.Proofs.Ytpbmefojhgcniaa
namespace Go.Proofs.Ytpbmefojhgcniaa
open Go.RowKit
set_option linter.unusedVariables false
set_option linter.unusedSimpArgs false
theorem lscale_calls (w : World) : Calls Try.prog 32 #[] w fun e w' => e = .returned (scV ⟨1000, 10, 0, 0⟩) ∧ Kp [] w w' := by
  unfold scV
  go_enter Try.func32, Try.ntmps32
  go_wp2_with fail
  first
    | (go_ret; exact ⟨rfl, by (repeat (first | exact Kp.refl _ _ | assumption | refine Kp.drew ?_ | refine Kp.drewN ?_ _ | refine Kp.alloc ?_ _ | (refine Kp.setCell ?_ (by first | (left; simp; done) | (right; simp; try omega)) _) | (refine Kp.trans' ?_ (by assumption) (by simp; try omega))))⟩)
    | (refine bodyPost_ret (v := .agg #[.int .i64 1000, .int .i64 10, .int .i64 0, .int .i64 0]) (by simp [results, Try.results32, go_sem]) rfl ⟨rfl, by (repeat (first | exact Kp.refl _ _ | assumption | refine Kp.drew ?_ | refine Kp.drewN ?_ _ | refine Kp.alloc ?_ _ | (refine Kp.setCell ?_ (by first | (left; simp; done) | (right; simp; try omega)) _) | (refine Kp.trans' ?_ (by assumption) (by simp; try omega))))⟩)
set_option maxRecDepth 100000 in
set_option maxHeartbeats 2000000 in
theorem flarge_calls (v : Value) (o : List (List Pn)) (w : World) (hv : IsOut w v o) (hb : ∀ j, j < o.length → (o.getD j []).length ≤ 1125899906842624) :
    Calls Try.prog 14 #[v] w fun e w' => e = .returned (.bool (largeB o)) ∧ w = w' := by
  have hle := hv.le
  unfold maxLen at hle
  obtain ⟨pa, ca, rfl⟩ := hv.form
  have HO := Lib.hid hv
  have HC := Lib.hid (fun j hj (h4 : j ≤ 400) => (show cntTo o j ≤ 450359962737049600 from Nat.le_trans (cntTo_bound o _ hb j hj) (by omega)))
  obtain ⟨N, hN⟩ : ∃ N, o.length = N := ⟨_, rfl⟩
  have HN := Lib.hid hN
  obtain ⟨M, hM⟩ : ∃ M, min N 400 = M := ⟨_, rfl⟩
  have HE : Hid (largeB o = (decide (300 < N) || decide (5000 < cntTo o M))) := by show _ = _; unfold largeB; rw [hN, hM]
  have hM1 : M ≤ N := by omega
  have hM2 : M ≤ 400 := by omega
  have hM3 : M = N ∨ M = 400 := by omega
  rw [hN] at HO HC hle ⊢
  generalize largeB o = R at *
  clear hN hM hv hb
  go_enter Try.func14, Try.ntmps14
  go_wp2_with fail
  go_loopw [3, 4] (fun n i wr => ∃ j : Nat, j ≤ M ∧ i = .int .i64 j ∧ n = .int .i64 (cntTo o j : Nat) ∧ wr = w) (fun n i _ => M - (intOf i).toNat)
  case atStart => exact ⟨0, by omega, rfl, rfl, rfl⟩
  case round =>
    obtain ⟨j, hj, rfl, rfl, rfl⟩ := hrel
    by_cases hlt : j < M
    · obtain ⟨g1, o1, c1, p1, cv, e1, _, _, h1, _⟩ := HO.out.row (i := j) (by rw [HN.out]; omega)
      rw [HN.out] at e1
      cases e1
      have hb := HC.out (j + 1) (by omega) (by omega)
      have hs : Hid (cntTo o (j + 1) = cntTo o j + (o.getD j []).length) := rfl
      have hb2 : cntTo o j + (o.getD j []).length ≤ 450359962737049600 := by rw [← hs.out]; exact hb
      have hj4 : j < 400 := by omega
      have hjN : j < N := by omega
      generalize (o.getD j []).length = L at *
      generalize cntTo o j = A at *
      clear hb
      go_wp2_with fail
      go_roundw
      case rel => first | exact ⟨j + 1, by omega, int_eq' (by omega), int_eq' (by rw [hs.out]; omega), by first | rfl | trivial⟩ | ((repeat apply Exists.intro); exact ⟨⟨j + 1, by omega, int_eq' (by omega), int_eq' (by rw [hs.out]; omega), by first | rfl | trivial⟩, rfl⟩)
      case measure => simp [intOf]; omega
    · obtain rfl : j = M := by omega
      have hb := HC.out j hM1 hM2
      generalize cntTo o j = A at *
      rcases hM3 with rfl | rfl
      · by_cases h3 : 300 < j
        · have HX : Hid (R = true) := by show _ = _; rw [HE.out, decide_eq_true h3]; rfl
          go_wp2_with fail
          go_ret
          exact ⟨by rw [HX.out]; rfl, rfl⟩
        · have HX : Hid (R = decide (5000 < A)) := by show _ = _; rw [HE.out, decide_eq_false h3]; rfl
          go_wp2_with fail
          go_ret
          have e1 : decide ((300 : Int) < (j : Int)) = false := decide_eq_false (by omega)
          have e2 : decide ((5000 : Int) < (A : Int)) = decide (5000 < A) := decide_eq_decide.2 (by omega)
          refine ⟨?_, rfl⟩
          rw [HX.out]
          show Ending.returned (.bool (decide ((300 : Int) < (j : Int)) || decide ((5000 : Int) < (A : Int)))) = _
          rw [e1, e2, Bool.false_or]
      · by_cases h4 : N = 400
        · subst h4
          have HX : Hid (R = true) := by show _ = _; rw [HE.out, decide_eq_true (by decide)]; rfl
          go_wp2_with fail
          go_ret
          exact ⟨by rw [HX.out]; rfl, rfl⟩
        · have h5 : 400 < N := by omega
          have HX : Hid (R = true) := by show _ = _; rw [HE.out, decide_eq_true (by omega)]; rfl
          go_wp2_with fail
          go_ret
          exact ⟨by rw [HX.out]; rfl, rfl⟩
end Go.Proofs.Ytpbmefojhgcniaa
namespace Go.Proofs.Ytpbmefojhgcniaa
open Go.RowKit
set_option linter.unusedVariables false
set_option linter.unusedSimpArgs false
theorem near_in (p c D : Int) (hc : 0 < c) (h1 : -(c * D) ≤ p) (h2 : p ≤ c * D) : -D ≤ nearQ p c ∧ nearQ p c ≤ D := by
  have e := near_err p c hc
  constructor
  · apply Classical.byContradiction; intro h
    have h3 : nearQ p c + 1 ≤ -D := by omega
    have h4 := Int.mul_le_mul_of_nonneg_left h3 (Int.le_of_lt hc)
    rw [Int.mul_add, Int.mul_neg] at h4
    generalize c * nearQ p c = X at *; generalize c * D = Y at *; omega
  · apply Classical.byContradiction; intro h
    have h3 : D + 1 ≤ nearQ p c := by omega
    have h4 := Int.mul_le_mul_of_nonneg_left h3 (Int.le_of_lt hc)
    rw [Int.mul_add] at h4
    generalize c * nearQ p c = X at *; generalize c * D = Y at *; omega
theorem mulIn {k a D : Int} (hk : 0 ≤ k) (h : -D ≤ a ∧ a ≤ D) : -(k * D) ≤ k * a ∧ k * a ≤ k * D := by
  have h1 := Int.mul_le_mul_of_nonneg_left h.1 hk
  have h2 := Int.mul_le_mul_of_nonneg_left h.2 hk
  rw [Int.mul_neg] at h1
  exact ⟨h1, h2⟩
theorem sum1_in {i n a d D : Int} (hi : 0 ≤ i) (hk : i ≤ n) (ha : -D ≤ a ∧ a ≤ D) (hd : -D ≤ d ∧ d ≤ D) : -(n * D) ≤ sum1 i (n - i) a d ∧ sum1 i (n - i) a d ≤ n * D := by
  have e1 := mulIn (k := n - i) (by omega) ha
  have e2 := mulIn hi hd
  have e : n * D = (n - i) * D + i * D := by rw [← Int.add_mul]; congr 1; omega
  unfold sum1; omega
theorem sum2_in {i n a b d D : Int} (hi : 0 ≤ i) (hk : i ≤ n) (ha : -D ≤ a ∧ a ≤ D) (hb : -D ≤ b ∧ b ≤ D) (hd : -D ≤ d ∧ d ≤ D) : -(n * n * D) ≤ sum2 i (n - i) a b d ∧ sum2 i (n - i) a b d ≤ n * n * D := by
  obtain ⟨k, hk1⟩ : ∃ k, n - i = k := ⟨_, rfl⟩
  have hk0 : 0 ≤ k := by omega
  have e1 := mulIn (Int.mul_nonneg hk0 hk0) ha
  have e2 := mulIn (k := 2 * i * k) (Int.mul_nonneg (by omega) hk0) hb
  have e3 := mulIn (Int.mul_nonneg hi hi) hd
  have e : n * n * D = k * k * D + 2 * i * k * D + i * i * D := by
    obtain rfl : n = i + k := by omega
    grind
  rw [hk1]; unfold sum2; omega
theorem sum3_in {i n a b c d D : Int} (hi : 0 ≤ i) (hk : i ≤ n) (ha : -D ≤ a ∧ a ≤ D) (hb : -D ≤ b ∧ b ≤ D) (hc : -D ≤ c ∧ c ≤ D) (hd : -D ≤ d ∧ d ≤ D) : -(n * n * n * D) ≤ sum3 i (n - i) a b c d ∧ sum3 i (n - i) a b c d ≤ n * n * n * D := by
  obtain ⟨k, hk1⟩ : ∃ k, n - i = k := ⟨_, rfl⟩
  have hk0 : 0 ≤ k := by omega
  have e1 := mulIn (Int.mul_nonneg (Int.mul_nonneg hk0 hk0) hk0) ha
  have e2 := mulIn (k := 3 * i * k * k) (Int.mul_nonneg (Int.mul_nonneg (by omega) hk0) hk0) hb
  have e4 := mulIn (k := 3 * i * i * k) (Int.mul_nonneg (Int.mul_nonneg (by omega) hi) hk0) hc
  have e3 := mulIn (Int.mul_nonneg (Int.mul_nonneg hi hi) hi) hd
  have e : n * n * n * D = k * k * k * D + 3 * i * k * k * D + 3 * i * i * k * D + i * i * i * D := by
    obtain rfl : n = i + k := by omega
    grind
  rw [hk1]; unfold sum3; omega
theorem at_in {q : Bw} (hm : mayW q = true) {i n : Int} (hn : 1 ≤ n) (hi : 0 ≤ i) (hin : i ≤ n) : dotQ (atQ q i n) = true := by
  have n2 : 0 < n * n := Int.mul_pos (by omega) (by omega)
  have n3 : 0 < n * n * n := Int.mul_pos n2 (by omega)
  rw [dotQ_iff]
  rcases may_kind hm with h1 | h1 | h1
  · rw [may_1 h1] at hm
    simp only [Bool.and_eq_true, dotQ_iff] at hm
    obtain ⟨ha, hd⟩ := hm
    rw [atQ_1 h1]
    exact ⟨near_in _ _ _ (by omega) (sum1_in hi hin ha.1 hd.1).1 (sum1_in hi hin ha.1 hd.1).2, near_in _ _ _ (by omega) (sum1_in hi hin ha.2 hd.2).1 (sum1_in hi hin ha.2 hd.2).2⟩
  · rw [may_2 h1] at hm
    simp only [Bool.and_eq_true, dotQ_iff] at hm
    obtain ⟨ha, hb, hd⟩ := hm
    rw [atQ_2 h1]
    exact ⟨near_in _ _ _ n2 (sum2_in hi hin ha.1 hb.1 hd.1).1 (sum2_in hi hin ha.1 hb.1 hd.1).2, near_in _ _ _ n2 (sum2_in hi hin ha.2 hb.2 hd.2).1 (sum2_in hi hin ha.2 hb.2 hd.2).2⟩
  · rw [may_3 h1] at hm
    simp only [Bool.and_eq_true, dotQ_iff] at hm
    obtain ⟨ha, hb, hc, hd⟩ := hm
    rw [atQ_3 h1]
    exact ⟨near_in _ _ _ n3 (sum3_in hi hin ha.1 hb.1 hc.1 hd.1).1 (sum3_in hi hin ha.1 hb.1 hc.1 hd.1).2, near_in _ _ _ n3 (sum3_in hi hin ha.2 hb.2 hc.2 hd.2).1 (sum3_in hi hin ha.2 hb.2 hc.2 hd.2).2⟩
theorem bowDots_in (b : Bw) : ∀ d ∈ bowDots b, dotQ d = true := by
  intro d hd
  unfold bowDots uptoF at hd
  obtain ⟨k, hk, rfl⟩ := List.mem_map.1 hd
  rw [List.mem_range] at hk
  cases hm : mayW b with
  | true => exact at_in hm (by omega) (by omega) (by omega)
  | false => unfold bowN at hk; rw [hm] at hk; simp at hk
theorem ctrS_in (s : Sc) (l : List Cv) : ∀ d ∈ ctrS s l, dotQ d = true := by
  intro d hd
  unfold ctrS at hd
  obtain ⟨q, _, hq⟩ := List.mem_flatMap.1 hd
  exact bowDots_in _ d hq
theorem fcntTo_sum (s : Sc) (o : List (List Pn)) : ∀ j, j ≤ o.length → fcntTo (o.map (flatC s)) j = sumTo s o j := by
  intro j
  induction j with
  | zero => intro _; rfl
  | succ j ih =>
    intro hj
    rw [fcntTo, sumTo, ih (by omega)]
    congr 1
    rw [List.getD_eq_getElem?_getD, List.getElem?_map, List.getD_eq_getElem?_getD, List.getElem?_eq_getElem (by omega)]; rfl
theorem flTo_all (L : List (List (Int × Int))) : flTo L L.length = L.flatten := by unfold flTo; rw [List.take_length]
theorem flat_may {s : Sc} {o : List (List Pn)} (h : (flatM s o).2 = 0) : mayF (flatM s o).1 = 0 := by
  unfold flatM at h ⊢
  split at h
  · cases h
  · split at h
    · rename_i h2; exact absurd h h2
    · split at h
      · rename_i h2; exact absurd h h2
      · split at h
        · cases h
        · rename_i h1 h2 h3 h4
          rw [if_neg h1, if_neg h2, if_neg h3, if_neg h4]
          show mayF (o.map (flatC s)) = 0
          have hn : fcnt (o.map (flatC s)) = sumTo s o o.length := by unfold fcnt; rw [List.length_map]; exact fcntTo_sum s o _ (Nat.le_refl _)
          unfold mayF
          rw [if_neg (by rw [hn]; exact h4), if_pos]
          rw [flTo_all, List.all_eq_true]
          intro d hd
          obtain ⟨c, hc, hdc⟩ := List.mem_flatten.1 hd
          obtain ⟨p, _, rfl⟩ := List.mem_map.1 hc
          exact ctrS_in s _ d hdc
/-- A flat outline, further on. -/
def movL (dx dy : Int) (L : List (List (Int × Int))) : List (List (Int × Int)) := L.map (List.map (mv2 dx dy))
theorem getD_mv (c : List (Int × Int)) (dx dy : Int) {i : Nat} (h : i < c.length) : (c.map (mv2 dx dy)).getD i (0, 0) = mv2 dx dy (c.getD i (0, 0)) := by
  rw [List.getD_eq_getElem?_getD, List.getElem?_map, List.getD_eq_getElem?_getD, List.getElem?_eq_getElem h]; rfl
theorem cross_mv (p q : Int × Int) (dx dy : Int) : crossP (mv2 dx dy p) (mv2 dx dy q) = crossP p q + ((p.1 * dy - p.2 * dx) - (q.1 * dy - q.2 * dx)) := by
  unfold crossP mv2; grind
theorem chS_mv (c : List (Int × Int)) (dx dy : Int) : ∀ k, k < c.length → chS (c.map (mv2 dx dy)) k = chS c k + (((c.getD 0 (0, 0)).1 * dy - (c.getD 0 (0, 0)).2 * dx) - ((c.getD k (0, 0)).1 * dy - (c.getD k (0, 0)).2 * dx)) := by
  intro k
  induction k with
  | zero => intro _; simp only [chS]; omega
  | succ k ih =>
    intro hk
    rw [chS, chS, ih (by omega), getD_mv c dx dy hk, getD_mv c dx dy (by omega : k < c.length), cross_mv]
    generalize (c.getD 0 (0, 0)).1 * dy - (c.getD 0 (0, 0)).2 * dx = X
    generalize (c.getD k (0, 0)).1 * dy - (c.getD k (0, 0)).2 * dx = Y
    generalize (c.getD (k + 1) (0, 0)).1 * dy - (c.getD (k + 1) (0, 0)).2 * dx = Z
    omega
theorem areaC_mv (c : List (Int × Int)) (dx dy : Int) : areaC (c.map (mv2 dx dy)) = areaC c := by
  unfold areaC
  rw [List.length_map]
  by_cases h : c.length = 0
  · rw [if_pos h, if_pos h]
  · rw [if_neg h, if_neg h, chS_mv c dx dy _ (by omega), getD_mv c dx dy (by omega : c.length - 1 < c.length), getD_mv c dx dy (by omega : 0 < c.length), cross_mv]
    generalize (c.getD 0 (0, 0)).1 * dy - (c.getD 0 (0, 0)).2 * dx = X
    generalize (c.getD (c.length - 1) (0, 0)).1 * dy - (c.getD (c.length - 1) (0, 0)).2 * dx = Y
    omega
theorem movL_at (dx dy : Int) (L : List (List (Int × Int))) {j : Nat} (h : j < L.length) : (movL dx dy L).getD j [] = (L.getD j []).map (mv2 dx dy) := by
  unfold movL
  rw [List.getD_eq_getElem?_getD, List.getElem?_map, List.getD_eq_getElem?_getD, List.getElem?_eq_getElem h]; rfl
theorem area_mv (L : List (List (Int × Int))) (dx dy : Int) : ∀ j, j ≤ L.length → areaTo (movL dx dy L) j = areaTo L j := by
  intro j
  induction j with
  | zero => intro _; rfl
  | succ j ih => intro hj; rw [areaTo, areaTo, ih (by omega), movL_at dx dy L (by omega), areaC_mv]
theorem fcnt_mv (L : List (List (Int × Int))) (dx dy : Int) : ∀ j, j ≤ L.length → fcntTo (movL dx dy L) j = fcntTo L j := by
  intro j
  induction j with
  | zero => intro _; rfl
  | succ j ih => intro hj; rw [fcntTo, fcntTo, ih (by omega), movL_at dx dy L (by omega), List.length_map]
theorem flat_mv (L : List (List (Int × Int))) (dx dy : Int) : (movL dx dy L).flatten = L.flatten.map (mv2 dx dy) := by
  unfold movL; rw [List.map_flatten]
theorem move_ok {L : List (List (Int × Int))} {dx dy : Int} (h : (moveM L dx dy).2 = 0) : moveM L dx dy = (movL dx dy L, 0) ∧ ∀ q ∈ L.flatten, dotQ (mv2 dx dy q) = true := by
  unfold moveM at h ⊢
  by_cases h1 : (flTo L L.length).any (badM dx dy) = true
  · rw [if_pos h1] at h; cases h
  · rw [if_neg h1]
    refine ⟨rfl, fun q hq => ?_⟩
    rw [flTo_all] at h1
    have h2 : badM dx dy q = false := by
      cases hb : badM dx dy q with
      | false => rfl
      | true => exact absurd (List.any_eq_true.2 ⟨q, hq, hb⟩) h1
    unfold badM at h2
    simp only [Bool.or_eq_false_iff, Bool.not_eq_false'] at h2
    unfold dotQ mv2
    simp [h2.2.1, h2.2.2]
theorem move_may {L : List (List (Int × Int))} {dx dy : Int} (hm : mayF L = 0) (h : (moveM L dx dy).2 = 0) : mayF (movL dx dy L) = 0 := by
  have hl := mayF_facts hm
  have hq := (move_ok h).2
  have hlen : (movL dx dy L).length = L.length := by unfold movL; rw [List.length_map]
  have hn : fcnt (movL dx dy L) = fcnt L := by unfold fcnt; rw [hlen]; exact fcnt_mv L dx dy _ (Nat.le_refl _)
  have hn2 : ¬ 65536 < fcnt L := by rw [← flTo_len]; omega
  unfold mayF
  rw [if_neg (by rw [hn]; exact hn2), if_pos]
  rw [flTo_all, flat_mv, List.all_eq_true]
  intro d hd
  obtain ⟨p, hp, rfl⟩ := List.mem_map.1 hd
  exact hq p hp
/-- A box, further on. -/
def movB (b : Bx) (a c : Int) : Bx := ⟨b.x0 + a, b.y0 + c, b.x1 + a, b.y1 + c⟩
theorem bst1_mv (q : Int × Int) (a c : Int) : bst1 (mv2 (64 * a) (64 * c) q) = movB (bst1 q) a c := by
  unfold bst1 mv2 movB
  simp only [← ceil64_neg]
  congr 1 <;> omega
theorem bst_mv (T : List (Int × Int)) (a c : Int) : ∀ n, 0 < n → n ≤ T.length → bst (T.map (mv2 (64 * a) (64 * c))) n = movB (bst T n) a c := by
  intro n
  induction n with
  | zero => intro h _; omega
  | succ n ih =>
    intro _ hn
    by_cases h0 : n = 0
    · subst h0
      rw [bst_one, bst_one, getD_mv T _ _ (by omega), bst1_mv]
    · rw [bst_succ _ _ h0, bst_succ _ _ h0, ih (by omega) (by omega), getD_mv T _ _ (by omega), bst1_mv]
      unfold bstN movB
      simp only
      congr 1 <;> omega
theorem empty_mv (b : Bx) (a c : Int) : emptyB (movB b a c) = emptyB b := by
  unfold emptyB movB
  simp only
  congr 1 <;> exact decide_eq_decide.2 (by omega)
theorem fX_len (T : List (Int × Int)) : (fX T).length = T.length := by unfold fX; rw [List.length_map]
theorem box_is {L : List (List (Int × Int))} (h : mayF L = 0) : boxF L = (if emptyB (bst L.flatten L.flatten.length) = true then ⟨0, 0, 0, 0⟩ else bst L.flatten L.flatten.length, 0) := by
  rw [boxF_ok L h, fX_len, flTo_all]; rfl
/-- By whole pixels a box moves as far. -/
theorem box_mv {L : List (List (Int × Int))} {a c : Int} (hm : mayF L = 0) (h2 : mayF (movL (64 * a) (64 * c) L) = 0) (hne : (boxF L).1 ≠ ⟨0, 0, 0, 0⟩) : (boxF (movL (64 * a) (64 * c) L)).1 = movB (boxF L).1 a c := by
  rw [box_is hm] at hne ⊢
  rw [box_is h2, flat_mv, List.length_map]
  generalize L.flatten = T at *
  by_cases h0 : T.length = 0
  · exfalso; apply hne
    rw [h0]
    show (if emptyB (bst T 0) = true then (⟨0, 0, 0, 0⟩ : Bx) else bst T 0) = _
    have e : bst T 0 = ⟨0, 0, 0, 0⟩ := rfl
    rw [e]; rfl
  · rw [bst_mv T a c _ (by omega) (Nat.le_refl _), empty_mv]
    by_cases he : emptyB (bst T T.length) = true
    · exfalso; apply hne; rw [if_pos he]
    · rw [if_neg he, if_neg he]
theorem boxF_facts {L : List (List (Int × Int))} (hm : mayF L = 0) : (-32768 ≤ (boxF L).1.x0 ∧ (boxF L).1.x0 ≤ 32768) ∧ (-32768 ≤ (boxF L).1.y0 ∧ (boxF L).1.y0 ≤ 32768) ∧ (-32768 ≤ (boxF L).1.x1 ∧ (boxF L).1.x1 ≤ 32768) ∧ (-32768 ≤ (boxF L).1.y1 ∧ (boxF L).1.y1 ≤ 32768) := by
  have hq := (mayF_facts hm).2
  rw [flTo_all] at hq
  rw [box_is hm]
  generalize L.flatten = T at *
  have key : ∀ n, 0 < n → n ≤ T.length → (-16384 ≤ (bst T n).x0 ∧ (bst T n).x0 ≤ 16384) ∧ (-16384 ≤ (bst T n).y0 ∧ (bst T n).y0 ≤ 16384) ∧ (-16384 ≤ (bst T n).x1 ∧ (bst T n).x1 ≤ 16384) ∧ (-16384 ≤ (bst T n).y1 ∧ (bst T n).y1 ≤ 16384) := by
    intro n
    induction n with
    | zero => intro h _; omega
    | succ n ih =>
      intro _ hn
      have hd := hq (T.getD n (0, 0)) (by rw [List.getD_eq_getElem?_getD, List.getElem?_eq_getElem (by omega)]; exact List.getElem_mem _)
      rw [dotQ_iff] at hd
      by_cases h0 : n = 0
      · subst h0
        rw [bst_one]; unfold bst1; simp only [← ceil64_neg]; omega
      · rw [bst_succ _ _ h0]
        have := ih (by omega) (by omega)
        unfold bstN bst1; simp only [← ceil64_neg]; omega
  simp only
  split
  · simp
  · by_cases h0 : T.length = 0
    · rw [h0]; simp [bst, hullB, boxH, ceil64]
    · have := key _ (by omega) (Nat.le_refl _); omega
end Go.Proofs.Ytpbmefojhgcniaa
namespace Go.Proofs.Ytpbmefojhgcniaa
open Go.RowKit
set_option linter.unusedVariables false
set_option linter.unusedSimpArgs false
theorem turnP_in (c : List Pn) (h : ∀ p ∈ c, p.k = 1) : (∀ p ∈ turnP c, p.k = 1) ∧ 0 < (turnP c).length := by
  unfold turnP
  split
  · rename_i h1
    refine ⟨fun p hp => ?_, by rw [List.length_append, List.length_drop]; omega⟩
    rcases List.mem_append.1 hp with hp | hp
    · exact h p (List.mem_of_mem_drop hp)
    · exact h p (List.mem_of_mem_take hp)
  · refine ⟨fun p hp => ?_, by simp⟩
    rcases List.mem_cons.1 hp with rfl | hp
    · rfl
    · exact h p hp
theorem getD_in {c : List Pn} (h : ∀ p ∈ c, p.k = 1) {i : Nat} (hi : i < c.length) : (c.getD i pn0).k = 1 := by
  rw [List.getD_eq_getElem?_getD, List.getElem?_eq_getElem hi]; exact h _ (List.getElem_mem _)
theorem expG_in {c : List Pn} (h : ∀ p ∈ c, p.k = 1) : ∀ j, j < c.length → ∀ p ∈ expG c j, p.k = 1 := by
  intro j
  induction j with
  | zero => intro hj p hp; simp [expG] at hp; subst hp; exact getD_in h hj
  | succ j ih =>
    intro hj p hp
    rw [expG, if_neg (by rw [getD_in h hj]; omega), List.append_nil] at hp
    rcases List.mem_append.1 hp with hp | hp
    · exact ih (by omega) p hp
    · simp at hp; subst hp; exact getD_in h hj
theorem expC_in {c : List Pn} (h : ∀ p ∈ c, p.k = 1) : ∀ p ∈ expC c, p.k = 1 := by
  obtain ⟨h1, h2⟩ := turnP_in c h
  exact expG_in h1 _ (by omega)
theorem ring_in {e : List Pn} (h : ∀ p ∈ e, p.k = 1) (h0 : 0 < e.length) (i : Int) : (ringAt e i).k = 1 := by
  unfold ringAt
  have h1 := Int.emod_nonneg i (show (e.length : Int) ≠ 0 by omega)
  have h2 := Int.emod_lt_of_pos i (show (0 : Int) < (e.length : Int) by omega)
  exact getD_in h (by omega)
theorem refTo_in {e : List Pn} (h : ∀ p ∈ e, p.k = 1) : ∀ n, n ≤ e.length → ∀ q ∈ refTo e n, q.k = 1 := by
  intro n
  induction n with
  | zero => intro _ q hq; simp [refTo] at hq
  | succ n ih =>
    intro hn q hq
    rw [refTo] at hq
    rcases List.mem_append.1 hq with hq | hq
    · exact ih (by omega) q hq
    · rw [if_pos (getD_in h (by omega))] at hq
      simp at hq; subst hq
      unfold cvAt
      have := ring_in h (by omega) ((n : Int) + 1)
      rw [if_neg (by omega), if_neg (by omega)]
theorem curves_in {c : List Pn} (h : ∀ p ∈ c, p.k = 1) : ∀ q ∈ curvesTo (expO [c]) 1, q.k = 1 := by
  intro q hq
  have e : curvesTo (expO [c]) 1 = [] ++ refTo (expC c) (expC c).length := rfl
  rw [e, List.nil_append] at hq
  exact refTo_in (expC_in h) _ (Nat.le_refl _) q hq
theorem ctrE_cons {s : Sc} {q : Cv} {l : List Cv} (h : ctrE s 0 (q :: l) = 0) : bowErr s 0 (bowPs q) = 0 ∧ ctrE s 0 l = 0 := by
  have h1 : ctrE s (bowErr s 0 (bowPs q)) l = 0 := h
  by_cases h0 : bowErr s 0 (bowPs q) = 0
  · rw [h0] at h1; exact ⟨h0, h1⟩
  · rw [ctrE_keep s l _ h0] at h1; exact absurd h1 h0
theorem bow_line {s : Sc} {q : Cv} (hk : q.k = 1) (h : bowErr s 0 (bowPs q) = 0) : bowDots (bowS s q) = [(dotS s q.d).1] ∧ (dotS s q.d).2 = 0 := by
  have hm := mayW_bow (.inl hk) h
  have hz := bowErr_zero s _ h
  unfold bowPs at hz
  rw [if_neg (by omega), if_neg (by omega)] at hz
  refine ⟨?_, hz q.d (by simp)⟩
  have hb : (bowS s q).k = 1 := hk
  have hn : bowN (bowS s q) = 1 := by
    unfold bowN needsQ bendQ
    rw [if_pos hm, if_neg (by omega), if_neg (by omega), if_neg (by omega)]
    rfl
  unfold bowDots
  rw [hn]
  show [atQ (bowS s q) 1 1] = _
  rw [at_n _ 1 (by omega)]; rfl
theorem ctr_line (s : Sc) : ∀ l : List Cv, (∀ q ∈ l, q.k = 1) → ctrE s 0 l = 0 → ctrS s l = l.map (fun q => (dotS s q.d).1) ∧ ∀ q ∈ l, (dotS s q.d).2 = 0 := by
  intro l
  induction l with
  | nil => intro _ _; exact ⟨rfl, fun q hq => by cases hq⟩
  | cons q l ih =>
    intro hk h
    obtain ⟨h1, h2⟩ := ctrE_cons h
    obtain ⟨i1, i2⟩ := ih (fun p hp => hk p (List.mem_cons_of_mem _ hp)) h2
    obtain ⟨b1, b2⟩ := bow_line (hk q List.mem_cons_self) h1
    refine ⟨?_, fun p hp => ?_⟩
    · have e : ctrS s (q :: l) = bowDots (bowS s q) ++ ctrS s l := rfl
      rw [e, b1, i1]; rfl
    · rcases List.mem_cons.1 hp with rfl | hp
      · exact b2
      · exact i2 p hp
def noPh (s : Sc) : Sc := ⟨s.u, s.p, 0, 0⟩
theorem dot_ph {s : Sc} {p : Pn} (h1 : (dotS s p).2 = 0) (h2 : (dotS (noPh s) p).2 = 0) : (dotS s p).1 = mv2 s.fx s.fy (dotS (noPh s) p).1 := by
  have key : ∀ s : Sc, (dotS s p).2 = 0 → (dotS s p).1 = (nxP s p, nyP s p) := by
    intro s h
    unfold dotS dotP at h ⊢
    split at h
    · rename_i a1
      rw [if_pos a1]
      split at h
      · rename_i a2
        rw [if_pos a2]
        split at h
        · rename_i a3; rw [if_pos a3]
        · cases h
      · cases h
    · cases h
  rw [key _ h1, key _ h2]
  unfold mv2 nxP nyP noPh
  simp
theorem flat_parts {s : Sc} {o : List (List Pn)} (h : (flatM s o).2 = 0) : mayS s = true ∧ checkO o = 0 ∧ errTo s o o.length = 0 ∧ flatM s o = (o.map (flatC s), 0) := by
  unfold flatM at h ⊢
  split at h
  · cases h
  · split at h
    · rename_i h2; exact absurd h h2
    · split at h
      · rename_i h2; exact absurd h h2
      · split at h
        · cases h
        · rename_i h1 h2 h3 h4
          rw [if_neg h1, if_neg h2, if_neg h3, if_neg h4]
          exact ⟨by simpa using h1, by omega, by omega, rfl⟩
theorem errTo_each {s : Sc} {o : List (List Pn)} : ∀ j, errTo s o j = 0 → ∀ i, i < j → errC s (o.getD i []) = 0 := by
  intro j
  induction j with
  | zero => intro _ i hi; omega
  | succ j ih =>
    intro h i hi
    rw [errTo] at h
    by_cases h0 : errTo s o j = 0
    · rw [if_pos h0] at h
      by_cases e : i = j
      · subst e; exact h
      · exact ih h0 i (by omega)
    · rw [if_neg h0] at h; exact absurd h h0
theorem phase_flat {s : Sc} {o : List (List Pn)} (hon : ∀ c ∈ o, ∀ p ∈ c, p.k = 1) (h1 : (flatM s o).2 = 0) (h2 : (flatM (noPh s) o).2 = 0) :
    (flatM s o).1 = movL s.fx s.fy (flatM (noPh s) o).1 := by
  obtain ⟨a1, a2, a3, a4⟩ := flat_parts h1
  obtain ⟨b1, b2, b3, b4⟩ := flat_parts h2
  rw [a4, b4]
  unfold movL
  show o.map (flatC s) = (o.map (flatC (noPh s))).map (List.map (mv2 s.fx s.fy))
  rw [List.map_map]
  apply List.map_congr_left
  intro c hc
  obtain ⟨i, hi, rfl⟩ := List.mem_iff_getElem.1 hc
  have ea := errTo_each _ a3 i hi
  have eb := errTo_each _ b3 i hi
  rw [List.getD_eq_getElem?_getD, List.getElem?_eq_getElem hi] at ea eb
  have hk := curves_in (hon _ hc)
  show flatC s o[i] = (flatC (noPh s) o[i]).map (mv2 s.fx s.fy)
  generalize o[i] = c at *
  obtain ⟨c1, c2⟩ := ctr_line s _ hk ea
  obtain ⟨d1, d2⟩ := ctr_line (noPh s) _ hk eb
  unfold flatC
  rw [c1, d1, List.map_map]
  apply List.map_congr_left
  intro q hq
  exact dot_ph (c2 q hq) (d2 q hq)
theorem phase_move {s : Sc} {o : List (List Pn)} (hon : ∀ c ∈ o, ∀ p ∈ c, p.k = 1) (h1 : (flatM s o).2 = 0) (h2 : (flatM (noPh s) o).2 = 0) :
    moveM (flatM (noPh s) o).1 s.fx s.fy = ((flatM s o).1, 0) := by
  have hs := mayS_facts (flat_parts h1).1
  have hq := (mayF_facts (flat_may h1)).2
  have e := phase_flat hon h1 h2
  rw [flTo_all, e, flat_mv] at hq
  unfold moveM
  rw [if_neg, e]
  · rfl
  · intro h
    obtain ⟨q, hm, hb⟩ := List.any_eq_true.1 h
    rw [flTo_all] at hm
    have h3 := hq _ (List.mem_map_of_mem hm)
    unfold badM farM at hb
    unfold dotQ mv2 at h3
    simp only [Bool.and_eq_true] at h3
    rw [h3.1, h3.2, decide_eq_false (by omega), decide_eq_false (by omega)] at hb
    simp at hb
end Go.Proofs.Ytpbmefojhgcniaa

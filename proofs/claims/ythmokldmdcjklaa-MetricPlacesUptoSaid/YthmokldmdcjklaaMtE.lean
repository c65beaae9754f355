/- metric.Load: metrics out of bytes. -/
import Derived.Test.YthmokldmdcjklaaMtA
import Derived.Test.YthmokldmdcjklaaMtD
import Derived.Lib.Hide
namespace Go.Proofs.Ythmokldmdcjklaa
open Go.RowKit
set_option linter.unusedVariables false
set_option linter.unusedSimpArgs false
/-- Block q holds metrics: advances A, bearings B. -/
def IsMet (w : World) (q : Nat) (A B : List Int) : Prop := ∃ va vb, w.heap[q]? = some (.cells #[va, vb] 96 (0, 0)) ∧ IsInts .i64 w va A ∧ IsInts .i64 w vb B
theorem IsMet.kp {w w' : World} {q : Nat} {A B : List Int} (h : IsMet w q A B) (hk : Kp [] w w') : IsMet w' q A B := by
  obtain ⟨va, vb, h1, h2, h3⟩ := h
  exact ⟨va, vb, hk.heap h1 (by simp), h2.kp hk (by simp), h3.kp hk (by simp)⟩
/-- What a load of metrics hands back. -/
def MetD (zs : List Int) (n m : Nat) (w : World) (e : Ending) (w' : World) : Prop :=
  (zs.length < kM m n ∧ e = .returned (.tuple #[.pointer none, .int .i64 60]) ∧ Kp [] w w') ∨
  (kM m n ≤ zs.length ∧ ∃ q, e = .returned (.tuple #[.pointer (some ⟨q, 0, none⟩), .int .i64 0]) ∧ IsMet w' q (advsL zs m n) (bearsL zs m n) ∧ Kp [] w w')
set_option maxRecDepth 100000 in
set_option maxHeartbeats 4000000 in
theorem metload_calls (v : Value) (zs : List Int) (n m : Nat) (h1 : 1 ≤ m) (h2 : m ≤ n) (h3 : n ≤ 65535) (w : World) (hz : IsInts .u8 w v zs) (hb : ∀ c ∈ zs, 0 ≤ c ∧ c ≤ 255) (hv : ∀ b, blockOf v = some b → b < w.heap.size) :
    Calls Try.prog 29 #[v, .int .i64 n, .int .i64 m] w (MetD zs n m w) := by
  obtain ⟨i0, hi, hz0, hz1, hz2⟩ := info_parts infoIntM
  obtain ⟨pa, ca, hva⟩ : ∃ p c, v = .slice p zs.length c := by
    rcases hz with ⟨⟨ad, rfl⟩, rfl⟩ | ⟨g, off, c, rfl, _⟩
    · exact ⟨_, 0, rfl⟩
    · exact ⟨_, c, rfl⟩
  have HB : Hid _ := hb
  have HV : Hid _ := hv
  have HVA : Hid _ := hva
  have hm1 : decide ((m : Int) < 1) = false := decide_eq_false (by omega)
  have hm2 : decide ((n : Int) < m) = false := decide_eq_false (by omega)
  clear hb hv hva
  go_enter Try.func29, Try.ntmps29
  go_wp2_with fail
  refine (mcount_yes _ (by omega) (by omega) _).mono ?_; rintro e w' ⟨rfl, rfl⟩
  go_wp2_with fail
  refine (new_calls v pa zs.length ca HVA.out _).mono ?_; rintro e w1 ⟨rfl, hw1⟩
  have hr1 : Rdr w1 w.heap.size v (0 : Nat) false := by subst hw1; exact heap_alloc_new w _
  have hk1 : Kp [] w w1 := by subst hw1; (repeat (first | exact Kp.refl _ _ | assumption | refine Kp.drew ?_ | refine Kp.drewN ?_ _ | refine Kp.alloc ?_ _ | (refine Kp.setCell ?_ (by first | (left; simp; done) | (right; simp; try omega)) _) | (refine Kp.trans' ?_ (by assumption) (by simp; try omega))))
  have hsz : w.heap.size < w1.heap.size := by subst hw1; simp
  clear hw1
  have hz1 := hz.kp hk1 (by simp)
  have hst : MSt w (w1.alloc (.cells #[.slice none 0 0, .slice none 0 0] 96)) w.heap.size w1.heap.size v zs (kM m 0) false (advsL zs m 0) (bearsL zs m 0) (.slice none 0 0) (.slice none 0 0) :=
    ⟨(hr1.kp (S := []) ((Kp.refl _ _).alloc _) (by simp)), heap_alloc_new w1 _, World.ownsRow_nil _ _ _ _, World.ownsRow_nil _ _ _ _, fun b h => by simp [Value.ownBlock] at h, hz1.kp (S := []) ((Kp.refl _ _).alloc _) (by simp), hk1.alloc _, by simp, by omega, Nat.le_refl _, HV.out⟩
  clear hz hr1 hk1 hz1
  generalize hr : w.heap.size = r at *
  generalize hq : w1.heap.size = q at *
  go_wp2_with fail
  go_loopw [10, 28] (fun _ i wr => ∃ (j : Nat) (va vb : Value), j ≤ n ∧ i = .int .i64 j ∧ kM m j ≤ zs.length ∧ MSt w wr r q v zs (kM m j) false (advsL zs m j) (bearsL zs m j) va vb) (fun _ i _ => n - (intOf i).toNat)
  case atStart => exact ⟨0, _, _, by omega, rfl, by simp [kM], hst⟩
  case round =>
    obtain ⟨j, va, vb, hj, rfl, hkl, hs⟩ := hrel
    clear hst
    by_cases hlt : j < n
    · have hmr := met_round zs m j hkl
      have hmono := kM_mono m (j + 1) n (by omega)
      have hla := advsL_length zs m j
      have hlb := bearsL_length zs m j
      have hBs : Hid (bearsL zs m (j + 1) = bearsL zs m j ++ [metB zs m j]) := bearsL_succ zs m j
      have hLA : (advsL zs m j).length ≤ 65535 := by omega
      have hLB : (bearsL zs m j).length ≤ 65535 := by omega
      clear hla hlb
      have hqw := hs.sz
      have hrq := hs.rq
      have hne : blockOf v ≠ some r := fun e => by have := hs.vb0 _ e; omega
      obtain ⟨pA, cA, rfl⟩ := slice_own hs.ownA
      obtain ⟨pB, cB, rfl⟩ := slice_own hs.ownB
      obtain ⟨c0, c1, f0, f1⟩ := hs.facts
      have HS : Hid (MSt w wr r q v zs (kM m j) false (advsL zs m j) (bearsL zs m j) (.slice pA (advsL zs m j).length cA) (.slice pB (bearsL zs m j).length cB)) := hs
      clear hs
      by_cases hjm : j < m
      · have HMR : Hid _ := hmr.1 hjm
        have hA : Hid (advsL zs m (j + 1) = advsL zs m j ++ [metA zs m j]) := advsL_succ zs m j hjm
        clear hmr
        have hkl2 : rdK zs (kM m j) false 2 ≤ zs.length := rdK_le _ _ _ _ hkl
        generalize hAe : advsL zs m j = A at *
        generalize hBe : bearsL zs m j = B at *
        generalize hke : kM m j = k at *
        have HX1 : Hid _ := hAe
        have HX2 : Hid _ := hBe
        have HX3 : Hid _ := hke
        clear hAe hBe hke
        go_wp2_with fail
        go_region_law ((first
          | (go_simp
             go_at_call 48
             refine (u16_calls r v zs k false _ (HS.out.drew (by (repeat (first | exact Kp.refl _ _ | assumption | refine Kp.drew ?_ | refine Kp.drewN ?_ _ | refine Kp.alloc ?_ _ | (refine Kp.setCell ?_ (by first | (left; simp; done) | (right; simp; try omega)) _) | (refine Kp.trans' ?_ (by assumption) (by simp; try omega)))))).rd (HS.out.drew (by (repeat (first | exact Kp.refl _ _ | assumption | refine Kp.drew ?_ | refine Kp.drewN ?_ _ | refine Kp.alloc ?_ _ | (refine Kp.setCell ?_ (by first | (left; simp; done) | (right; simp; try omega)) _) | (refine Kp.trans' ?_ (by assumption) (by simp; try omega)))))).ints HB.out hne hkl).mono ?_
             rintro e w3 ⟨rfl, hr3, hk3⟩
             have hs3 := (HS.out.drew (w2 := wr.drew) (by (repeat (first | exact Kp.refl _ _ | assumption | refine Kp.drew ?_ | refine Kp.drewN ?_ _ | refine Kp.alloc ?_ _ | (refine Kp.setCell ?_ (by first | (left; simp; done) | (right; simp; try omega)) _) | (refine Kp.trans' ?_ (by assumption) (by simp; try omega)))))).rkp hk3 hr3
             obtain ⟨c03, c13, f03, f13⟩ := hs3.facts
             have hsz3 := hs3.sz)
          | (refine step_append_lies _ (by rfl) _ _ 24 (by rfl) (q + 1) 3 i0 (.int .i64 0) 1 8 Try.underlying24 hi hz0 hz1 hz2 rfl (by decide) (.slice pA A.length cA) A.length (A.map (Value.int .i64)) (by rfl) (hs3.ownA.alloc _) ⟨w3.heap.size, 0, none⟩ 1 1 [.int .i64 (rdV zs k false 2)] (by rfl) rfl (World.news_of_block (by exact heap_alloc_new w3 _)) (by intro u hu; simp at hu; subst hu; rfl) (by decide) (by unfold maxLen; omega) (by omega) (by have := hs3.sz; simp; omega) _ rfl ?_
             intro g4 c4 w4 hown hgr hat hlt4
             obtain ⟨c04, c14, f04, f14⟩ := hs3.at4 (own_ge hs3.ownA) hgr)))
        all_goals
          have hs5 := hs3.wroteA hown hgr hat (by simp)
          clear hown hgr hat hlt4 c04 c14 f04 f14 c03 c13 f03 f13 c0 c1 f0 f1
          generalize hw5 : w4.setCell ⟨q, 0, none⟩ (.slice (some ⟨g4, 0, none⟩) (A.length + 1) c4) = w5 at *
          have HW5 : Hid _ := hw5
          clear hw5 hs3 hr3 hk3
          obtain ⟨c05, c15, f05, f15⟩ := hs5.facts
          go_wp2_with fail
          go_region_law ((first
            | (go_simp
               go_at_call 65
               refine (i16_calls r v zs (rdK zs k false 2) (rdB zs k false 2) _ (hs5.drew (by (repeat (first | exact Kp.refl _ _ | assumption | refine Kp.drew ?_ | refine Kp.drewN ?_ _ | refine Kp.alloc ?_ _ | (refine Kp.setCell ?_ (by first | (left; simp; done) | (right; simp; try omega)) _) | (refine Kp.trans' ?_ (by assumption) (by simp; try omega)))))).rd (hs5.drew (by (repeat (first | exact Kp.refl _ _ | assumption | refine Kp.drew ?_ | refine Kp.drewN ?_ _ | refine Kp.alloc ?_ _ | (refine Kp.setCell ?_ (by first | (left; simp; done) | (right; simp; try omega)) _) | (refine Kp.trans' ?_ (by assumption) (by simp; try omega)))))).ints HB.out hne (by exact hkl2)).mono ?_
               rintro e w6 ⟨rfl, hr6, hk6⟩
               have hs6 := (hs5.drew (w2 := w5.drew) (by (repeat (first | exact Kp.refl _ _ | assumption | refine Kp.drew ?_ | refine Kp.drewN ?_ _ | refine Kp.alloc ?_ _ | (refine Kp.setCell ?_ (by first | (left; simp; done) | (right; simp; try omega)) _) | (refine Kp.trans' ?_ (by assumption) (by simp; try omega)))))).rkp hk6 hr6
               obtain ⟨c06, c16, f06, f16⟩ := hs6.facts
               have hsz6 := hs6.sz)
            | (refine step_append_lies _ (by rfl) _ _ 24 (by rfl) (q + 1) 3 i0 (.int .i64 0) 1 8 Try.underlying24 hi hz0 hz1 hz2 rfl (by decide) (.slice pB B.length cB) B.length (B.map (Value.int .i64)) (by rfl) (hs6.ownB.alloc _) ⟨w6.heap.size, 0, none⟩ 1 1 [.int .i64 (s16 (rdV zs (rdK zs k false 2) (rdB zs k false 2) 2))] (by rfl) rfl (World.news_of_block (by exact heap_alloc_new w6 _)) (by intro u hu; simp at hu; subst hu; rfl) (by decide) (by unfold maxLen; omega) (by omega) (by have := hs6.sz; simp; omega) _ rfl ?_
               intro g4 c4 w4 hown hgr hat hlt4
               obtain ⟨c04, c14, f04, f14⟩ := hs6.at4 (own_ge hs6.ownB) hgr)))
          all_goals
            have hs7 := hs6.wroteB hown hgr hat (by simp)
            clear hown hgr hat hlt4 c04 c14 f04 f14 c06 c16 f06 f16
            have hs7k := hs7.kp
            cases hb2 : rdB zs (rdK zs k false 2) (rdB zs k false 2) 2
            · rw [hb2] at hs7
              obtain ⟨e1, e2, e3, e4⟩ := HMR.out.2 hb2
              have hs8 := hs7
              rw [e2, e3, e4, ← hA.out, ← hBs.out] at hs8
              have HE1 : Hid _ := e1
              clear e1 e2 hb2 HMR hs6
              clear hkl2
              go_wp2_with fail
              refine (done_calls r v _ _ _ hs7.rd).mono ?_; rintro e w9 ⟨rfl, rfl⟩
              clear hs7
              go_wp2_with fail
              go_roundw
              case rel => first | exact ⟨j + 1, _, _, by omega, int_eq' (by omega), HE1.out, hs8⟩ | ((repeat apply Exists.intro); exact ⟨⟨j + 1, _, _, by omega, int_eq' (by omega), HE1.out, hs8⟩, rfl⟩)
              case measure => simp [intOf]; omega
            · rw [hb2] at hs7
              have hbad := HMR.out.1 hb2
              have HBAD : Hid (zs.length < kM m n) := by unfold Hid; omega
              clear hbad hb2 HMR hs6
              go_wp2_with fail
              refine (done_calls r v _ _ _ hs7.rd).mono ?_; rintro e w9 ⟨rfl, rfl⟩
              go_wp2_with fail
              go_ret2
              exact .inl ⟨HBAD.out, rfl, hs7k⟩
      · have HMR : Hid _ := hmr.2 hjm
        have hA : Hid (advsL zs m (j + 1) = advsL zs m j) := advsL_same zs m j hjm
        clear hmr
        rw [← hA.out] at HS hLA c0
        generalize hAe : advsL zs m (j + 1) = A at *
        generalize hBe : bearsL zs m j = B at *
        generalize hke : kM m j = k at *
        have HX1 : Hid _ := hAe
        have HX2 : Hid _ := hBe
        have HX3 : Hid _ := hke
        clear hAe hBe hke
        go_wp2_with fail
        go_region_law ((first
          | (go_simp
             go_at_call 65
             refine (i16_calls r v zs (k) false _ (HS.out.drew (by (repeat (first | exact Kp.refl _ _ | assumption | refine Kp.drew ?_ | refine Kp.drewN ?_ _ | refine Kp.alloc ?_ _ | (refine Kp.setCell ?_ (by first | (left; simp; done) | (right; simp; try omega)) _) | (refine Kp.trans' ?_ (by assumption) (by simp; try omega)))))).rd (HS.out.drew (by (repeat (first | exact Kp.refl _ _ | assumption | refine Kp.drew ?_ | refine Kp.drewN ?_ _ | refine Kp.alloc ?_ _ | (refine Kp.setCell ?_ (by first | (left; simp; done) | (right; simp; try omega)) _) | (refine Kp.trans' ?_ (by assumption) (by simp; try omega)))))).ints HB.out hne (by exact hkl)).mono ?_
             rintro e w6 ⟨rfl, hr6, hk6⟩
             have hs6 := (HS.out.drew (w2 := wr.drew) (by (repeat (first | exact Kp.refl _ _ | assumption | refine Kp.drew ?_ | refine Kp.drewN ?_ _ | refine Kp.alloc ?_ _ | (refine Kp.setCell ?_ (by first | (left; simp; done) | (right; simp; try omega)) _) | (refine Kp.trans' ?_ (by assumption) (by simp; try omega)))))).rkp hk6 hr6
             obtain ⟨c06, c16, f06, f16⟩ := hs6.facts
             have hsz6 := hs6.sz)
          | (refine step_append_lies _ (by rfl) _ _ 24 (by rfl) (q + 1) 3 i0 (.int .i64 0) 1 8 Try.underlying24 hi hz0 hz1 hz2 rfl (by decide) (.slice pB B.length cB) B.length (B.map (Value.int .i64)) (by rfl) (hs6.ownB.alloc _) ⟨w6.heap.size, 0, none⟩ 1 1 [.int .i64 (s16 (rdV zs (k) false 2))] (by rfl) rfl (World.news_of_block (by exact heap_alloc_new w6 _)) (by intro u hu; simp at hu; subst hu; rfl) (by decide) (by unfold maxLen; omega) (by omega) (by have := hs6.sz; simp; omega) _ rfl ?_
             intro g4 c4 w4 hown hgr hat hlt4
             obtain ⟨c04, c14, f04, f14⟩ := hs6.at4 (own_ge hs6.ownB) hgr)))
        all_goals
          have hs7 := hs6.wroteB hown hgr hat (by simp)
          clear hown hgr hat hlt4 c04 c14 f04 f14 c06 c16 f06 f16
          have hs7k := hs7.kp
          cases hb2 : rdB zs (k) false 2
          · rw [hb2] at hs7
            obtain ⟨e1, e2, e4⟩ := HMR.out.2 hb2
            have hs8 := hs7
            rw [e2, e4, ← hBs.out, ← HX1.out] at hs8
            have HE1 : Hid _ := e1
            clear e1 e2 hb2 HMR hs6
            try clear c0 c1 f0 f1
            go_wp2_with fail
            refine (done_calls r v _ _ _ hs7.rd).mono ?_; rintro e w9 ⟨rfl, rfl⟩
            clear hs7
            go_wp2_with fail
            go_roundw
            case rel => first | exact ⟨j + 1, _, _, by omega, int_eq' (by omega), HE1.out, hs8⟩ | ((repeat apply Exists.intro); exact ⟨⟨j + 1, _, _, by omega, int_eq' (by omega), HE1.out, hs8⟩, rfl⟩)
            case measure => simp [intOf]; omega
          · rw [hb2] at hs7
            have hbad := HMR.out.1 hb2
            have HBAD : Hid (zs.length < kM m n) := by unfold Hid; omega
            clear hbad hb2 HMR hs6
            go_wp2_with fail
            refine (done_calls r v _ _ _ hs7.rd).mono ?_; rintro e w9 ⟨rfl, rfl⟩
            go_wp2_with fail
            go_ret2
            exact .inl ⟨HBAD.out, rfl, hs7k⟩
    · obtain rfl : j = n := by omega
      have hd : Hid (IsMet wr q (advsL zs m j) (bearsL zs m j)) := ⟨va, vb, hs.obj, IsInts.owned hs.ownA, IsInts.owned hs.ownB⟩
      have hkp := hs.kp
      clear hs
      go_wp2_with fail
      go_ret2
      exact .inr ⟨hkl, q, rfl, hd.out, hkp⟩
end Go.Proofs.Ythmokldmdcjklaa

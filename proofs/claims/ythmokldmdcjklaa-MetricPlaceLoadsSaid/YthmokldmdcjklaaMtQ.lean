/- The reference's LoadPlaces. (Written by wip/metric/genmtq.py.) -/
import Derived.Test.YthmokldmdcjklaaMtP
namespace Go.Proofs.Ythmokldmdcjklaa
open Go.RowKit
set_option linter.unusedVariables false
set_option linter.unusedSimpArgs false
set_option maxRecDepth 100000 in
set_option maxHeartbeats 4000000 in
theorem rplload_true (v : Value) (zs : List Int) (n : Nat) (size : Int) (h3 : n ≤ 65535) (s0 : 0 ≤ size) (s1 : size ≤ 1048576) (w : World) (hz : IsInts .u8 w v zs) (hb : ∀ c ∈ zs, 0 ≤ c ∧ c ≤ 255) (hv : ∀ b, blockOf v = some b → b < w.heap.size) :
    Calls Try.prog 38 #[v, .int .i64 n, .bool true, .int .i64 size] w (RPlD (plLoad zs n true size) w) := by
  have HB : Hid _ := hb
  have HV : Hid _ := hv
  have hr1 : Rrd (w.alloc (.cells #[v, .int .i64 0, .bool false] 81)) w.heap.size v (0 : Nat) false := heap_alloc_new w _
  have hk1 : Kp [] w (w.alloc (.cells #[v, .int .i64 0, .bool false] 81)) := by (repeat (first | exact Kp.refl _ _ | assumption | refine Kp.drew ?_ | refine Kp.drewN ?_ _ | refine Kp.alloc ?_ _ | (refine Kp.setCell ?_ (by first | (left; simp; done) | (right; simp; try omega)) _) | (refine Kp.trans' ?_ (by assumption) (by simp; try omega))))
  have hz1 := hz.kp hk1 (by simp)
  have hst : RPlSt w (w.alloc (.cells #[v, .int .i64 0, .bool false] 81)) w.heap.size v zs 0 false [] (.slice none 0 0) :=
    ⟨World.ownsRow_nil _ _ _ _, hr1, hz1, hk1, by simp, rfl, HV.out⟩
  obtain ⟨pa, ca, hva⟩ : ∃ p c, v = .slice p zs.length c := by
    rcases hz with ⟨⟨ad, rfl⟩, rfl⟩ | ⟨g, off, c, rfl, _⟩
    · exact ⟨_, 0, rfl⟩
    · exact ⟨_, c, rfl⟩
  clear hb hv hz hr1 hk1 hz1
  subst hva
  go_enter Try.func38, Try.ntmps38
  go_wp2_with fail
  generalize hvv : Value.slice pa zs.length ca = v at *
  clear hvv
  generalize w.alloc (.cells #[v, .int .i64 0, .bool false] 81) = w1 at *
  generalize hr : w.heap.size = r at *
  have hAT : Hid (plGo zs true size (n + 1 - 0) 0 [] 0 = plLoad zs n true size) := rfl
  go_loopw [11, 12, 13] (fun v9 i _ wr => ∃ (j k : Nat) (A : List Int) (lst : Int), j ≤ n + 1 ∧ i = .int .i64 j ∧ 0 ≤ lst ∧ k ≤ zs.length ∧ RPlSt w wr r v zs k false A v9 ∧ Hid (A.length = j) ∧ Hid ((A = [] → lst = 0) ∧ (A ≠ [] → lst = A.getD (A.length - 1) 0)) ∧ Hid (plGo zs true size (n + 1 - j) lst A k = plLoad zs n true size)) (fun _ i _ _ => n + 1 - (intOf i).toNat)
  case atStart => exact ⟨0, 0, [], 0, by omega, rfl, by omega, by omega, hst, rfl, ⟨fun _ => rfl, fun h => absurd rfl h⟩, hAT.out⟩
  case round =>
    obtain ⟨j, k, A, lst, hj, rfl, l0, hk, hs, HJ, HLS, HG⟩ := hrel
    clear hst hAT
    obtain ⟨pA, cA, rfl⟩ := slice_own hs.1
    by_cases hlt : j < n + 1
    · have hlt' : (j : Int) ≤ (n : Int) := by omega
      have HG2 : Hid ((if plB zs true k = true ∨ plV zs true k < lst ∨ size < plV zs true k then none else plGo zs true size (n + 1 - (j + 1)) (plV zs true k) (A ++ [plV zs true k]) (plK zs true k)) = plLoad zs n true size) := by
        unfold Hid; rw [← HG.out, show n + 1 - j = (n + 1 - (j + 1)) + 1 by omega]; rfl
      clear HG
      have hbd := plV_bounds zs true k HB.out
      have hk2 := plK_le zs true k hk
      have HS : Hid (RPlSt w wr r v zs k false A (.slice pA A.length cA)) := hs
      have hne : blockOf v ≠ some r := fun e => by have := hs.2.2.2.2.2.2 _ e; omega
      clear hs
      obtain ⟨x0, x1⟩ := hbd
      go_wp2_with fail
      refine (ru_calls r v zs k 4 false 4 rfl _ HS.out.2.1 HS.out.2.2.1 HB.out hne (by omega) (by omega) hk).mono ?_; rintro e w3 ⟨rfl, hr3, hk3⟩
      have hs3 := HS.out.rkp hk3 hr3
      clear hr3 hk3
      rw [show rdK zs k false 4 = plK zs true k from rfl, show rdB zs k false 4 = plB zs true k from rfl] at hs3
      rw [show rdV zs k false 4 = plV zs true k from rfl]
      generalize plV zs true k = x at *
      generalize plB zs true k = bad at *
      generalize plK zs true k = k2 at *
      have HS3 : Hid (RPlSt w w3 r v zs k2 bad A (.slice pA A.length cA)) := hs3
      obtain ⟨cb0, cb1, cb2, fb1, fb2⟩ := hs3.2.1.facts
      clear cb0 cb1 fb1 fb2
      have hkp3 := hs3.2.2.2.1
      have hqw := hs3.2.2.2.2.1
      clear hs3
      cases bad
      · by_cases hx2 : size < x
        · have hR : Hid (plLoad zs n true size = none) := by rw [Hid, ← HG2.out, if_pos (.inr (.inr hx2))]
          go_wp2_with fail
          go_ret2
          exact .inl ⟨hR.out, _, rfl, hkp3⟩
        · have hx2' : decide (size < x) = false := decide_eq_false hx2
          by_cases hj0 : j = 0
          · have hj0' : decide ((0 : Int) < j) = false := decide_eq_false (by omega)
            have hj0n : ¬ 0 < j := by omega
            have hA0 : A = [] := List.eq_nil_of_length_eq_zero (by have := HJ.out; omega)
            have hl0 : lst = 0 := HLS.out.1 hA0
            have HG3 : Hid (plGo zs true size (n + 1 - (j + 1)) x (A ++ [x]) k2 = plLoad zs n true size) := by
              rw [Hid, ← HG2.out, if_neg (by rintro (h | h | h); cases h; omega; exact hx2 h)]
            clear HG2 hA0 hj0
            have hAl : A.length ≤ 70000 := by have := HJ.out; omega
            go_wp2_with (at_builtin; refine wpList_app rfl _ _ 24 rfl (r + 1) 3 (.int .i64 0) 1 8 Try.underlying24 infoIntM rfl (by decide) (by decide) (.slice pA A.length cA) A.length (A.map (Value.int .i64)) rfl ?hown (.slice (some ⟨w3.heap.size, 0, none⟩) 1 1) 1 [.int .i64 x] rfl ?hsrc ?hone ?hb1 ?hb2 ?hk)
            case hown => exact HS3.out.1.alloc _
            case hsrc => exact Reads.made _ _ 1 1 [.int .i64 x] _ rfl rfl (by decide)
            case hone => first | (intro u hu; simp at hu; subst hu; rfl) | rfl
            case hb1 => omega
            case hb2 => simp; omega
            case hk =>
            intro u w4 hown hgr
            have hs5 := HS3.out.app hown hgr
            have HJ5 : Hid ((A ++ [x]).length = j + 1) := by unfold Hid; have := HJ.out; simp; omega
            have HL5 : Hid (((A ++ [x]) = [] → x = 0) ∧ ((A ++ [x]) ≠ [] → x = (A ++ [x]).getD ((A ++ [x]).length - 1) 0)) := ⟨fun e => by simp at e, fun _ => by simp [List.getD_eq_getElem?_getD]⟩
            clear hown hgr
            go_wp2_with fail
            go_roundw
            case rel => first | exact ⟨j + 1, k2, A ++ [x], x, by omega, int_eq' (by omega), x0, hk2, hs5, HJ5, HL5, HG3.out⟩ | ((repeat apply Exists.intro); exact ⟨⟨j + 1, k2, A ++ [x], x, by omega, int_eq' (by omega), x0, hk2, hs5, HJ5, HL5, HG3.out⟩, rfl⟩)
            case measure => simp [intOf]; omega
          · have hj1 : (1 : Int) ≤ j := by omega
            have hj1n : 0 < j := by omega
            have hA1 : A ≠ [] := fun e => by have := HJ.out; rw [e] at this; simp at this; omega
            have hls := HLS.out.2 hA1
            have hci : Hid (IsInts .i64 w3 (.slice pA A.length cA) A) := IsInts.owned HS3.out.1
            have hAp : 0 < A.length := List.length_pos_iff.2 hA1
            rcases hci.out with ⟨⟨ad, e⟩, e'⟩ | ⟨g1, o1, c1, e, _, _, h3⟩
            · exact absurd e' hA1
            · cases e
              have hcl := h3 (j - 1) (by have := HJ.out; omega)
              rw [show A.getD (j - 1) 0 = lst by rw [hls]; have := HJ.out; rw [this]] at hcl
              have hjA : (j : Int) - 1 < A.length := by have := HJ.out; omega
              have hjT : ((j : Int) - 1).toNat = j - 1 := by omega
              have hgw : g1 < w3.heap.size := World.block_lt_of_cell? w3 _ hcl
              clear h3 hls hA1 hj0
              by_cases hx1 : x < lst
              · have hR : Hid (plLoad zs n true size = none) := by rw [Hid, ← HG2.out, if_pos (.inr (.inl hx1))]
                go_wp2_with fail
                go_ret2
                exact .inl ⟨hR.out, _, rfl, hkp3⟩
              · have hx1' : decide (x < lst) = false := decide_eq_false hx1
                have HG3 : Hid (plGo zs true size (n + 1 - (j + 1)) x (A ++ [x]) k2 = plLoad zs n true size) := by
                  rw [Hid, ← HG2.out, if_neg (by rintro (h | h | h); cases h; exact hx1 h; exact hx2 h)]
                clear HG2
                have hAl : A.length ≤ 70000 := by have := HJ.out; omega
                go_wp2_with (at_builtin; refine wpList_app rfl _ _ 24 rfl (r + 1) 3 (.int .i64 0) 1 8 Try.underlying24 infoIntM rfl (by decide) (by decide) (.slice (some ⟨g1, o1, none⟩) A.length cA) A.length (A.map (Value.int .i64)) rfl ?hown (.slice (some ⟨w3.heap.size, 0, none⟩) 1 1) 1 [.int .i64 x] rfl ?hsrc ?hone ?hb1 ?hb2 ?hk)
                case hown => exact HS3.out.1.alloc _
                case hsrc => exact Reads.made _ _ 1 1 [.int .i64 x] _ rfl rfl (by decide)
                case hone => first | (intro u hu; simp at hu; subst hu; rfl) | rfl
                case hb1 => omega
                case hb2 => simp; omega
                case hk =>
                intro u w4 hown hgr
                have hs5 := HS3.out.app hown hgr
                have HJ5 : Hid ((A ++ [x]).length = j + 1) := by unfold Hid; have := HJ.out; simp; omega
                have HL5 : Hid (((A ++ [x]) = [] → x = 0) ∧ ((A ++ [x]) ≠ [] → x = (A ++ [x]).getD ((A ++ [x]).length - 1) 0)) := ⟨fun e => by simp at e, fun _ => by simp [List.getD_eq_getElem?_getD]⟩
                clear hown hgr
                go_wp2_with fail
                go_roundw
                case rel => first | exact ⟨j + 1, k2, A ++ [x], x, by omega, int_eq' (by omega), x0, hk2, hs5, HJ5, HL5, HG3.out⟩ | ((repeat apply Exists.intro); exact ⟨⟨j + 1, k2, A ++ [x], x, by omega, int_eq' (by omega), x0, hk2, hs5, HJ5, HL5, HG3.out⟩, rfl⟩)
                case measure => simp [intOf]; omega
      · have hR : Hid (plLoad zs n true size = none) := by rw [Hid, ← HG2.out, if_pos (.inl rfl)]
        go_wp2_with fail
        go_ret2
        exact .inl ⟨hR.out, _, rfl, hkp3⟩
    · obtain rfl : j = n + 1 := by omega
      have hR : Hid (plLoad zs n true size = some A) := by rw [Hid, ← HG.out, Nat.sub_self]; rfl
      have hd : Hid (IsInts .i64 wr (.slice pA A.length cA) A) := IsInts.owned hs.1
      have hkp := hs.2.2.2.1
      have hlt' : ¬ ((n : Int) + 1 ≤ (n : Int)) := by omega
      clear hs
      go_wp2_with fail
      go_ret2
      exact .inr ⟨A, _, hR.out, rfl, hd.out, hkp⟩
set_option maxRecDepth 100000 in
set_option maxHeartbeats 4000000 in
theorem rplload_false (v : Value) (zs : List Int) (n : Nat) (size : Int) (h3 : n ≤ 65535) (s0 : 0 ≤ size) (s1 : size ≤ 1048576) (w : World) (hz : IsInts .u8 w v zs) (hb : ∀ c ∈ zs, 0 ≤ c ∧ c ≤ 255) (hv : ∀ b, blockOf v = some b → b < w.heap.size) :
    Calls Try.prog 38 #[v, .int .i64 n, .bool false, .int .i64 size] w (RPlD (plLoad zs n false size) w) := by
  have HB : Hid _ := hb
  have HV : Hid _ := hv
  have hr1 : Rrd (w.alloc (.cells #[v, .int .i64 0, .bool false] 81)) w.heap.size v (0 : Nat) false := heap_alloc_new w _
  have hk1 : Kp [] w (w.alloc (.cells #[v, .int .i64 0, .bool false] 81)) := by (repeat (first | exact Kp.refl _ _ | assumption | refine Kp.drew ?_ | refine Kp.drewN ?_ _ | refine Kp.alloc ?_ _ | (refine Kp.setCell ?_ (by first | (left; simp; done) | (right; simp; try omega)) _) | (refine Kp.trans' ?_ (by assumption) (by simp; try omega))))
  have hz1 := hz.kp hk1 (by simp)
  have hst : RPlSt w (w.alloc (.cells #[v, .int .i64 0, .bool false] 81)) w.heap.size v zs 0 false [] (.slice none 0 0) :=
    ⟨World.ownsRow_nil _ _ _ _, hr1, hz1, hk1, by simp, rfl, HV.out⟩
  obtain ⟨pa, ca, hva⟩ : ∃ p c, v = .slice p zs.length c := by
    rcases hz with ⟨⟨ad, rfl⟩, rfl⟩ | ⟨g, off, c, rfl, _⟩
    · exact ⟨_, 0, rfl⟩
    · exact ⟨_, c, rfl⟩
  clear hb hv hz hr1 hk1 hz1
  subst hva
  go_enter Try.func38, Try.ntmps38
  go_wp2_with fail
  generalize hvv : Value.slice pa zs.length ca = v at *
  clear hvv
  generalize w.alloc (.cells #[v, .int .i64 0, .bool false] 81) = w1 at *
  generalize hr : w.heap.size = r at *
  have hAT : Hid (plGo zs false size (n + 1 - 0) 0 [] 0 = plLoad zs n false size) := rfl
  go_loopw [11, 12, 13] (fun v9 i _ wr => ∃ (j k : Nat) (A : List Int) (lst : Int), j ≤ n + 1 ∧ i = .int .i64 j ∧ 0 ≤ lst ∧ k ≤ zs.length ∧ RPlSt w wr r v zs k false A v9 ∧ Hid (A.length = j) ∧ Hid ((A = [] → lst = 0) ∧ (A ≠ [] → lst = A.getD (A.length - 1) 0)) ∧ Hid (plGo zs false size (n + 1 - j) lst A k = plLoad zs n false size)) (fun _ i _ _ => n + 1 - (intOf i).toNat)
  case atStart => exact ⟨0, 0, [], 0, by omega, rfl, by omega, by omega, hst, rfl, ⟨fun _ => rfl, fun h => absurd rfl h⟩, hAT.out⟩
  case round =>
    obtain ⟨j, k, A, lst, hj, rfl, l0, hk, hs, HJ, HLS, HG⟩ := hrel
    clear hst hAT
    obtain ⟨pA, cA, rfl⟩ := slice_own hs.1
    by_cases hlt : j < n + 1
    · have hlt' : (j : Int) ≤ (n : Int) := by omega
      have HG2 : Hid ((if plB zs false k = true ∨ plV zs false k < lst ∨ size < plV zs false k then none else plGo zs false size (n + 1 - (j + 1)) (plV zs false k) (A ++ [plV zs false k]) (plK zs false k)) = plLoad zs n false size) := by
        unfold Hid; rw [← HG.out, show n + 1 - j = (n + 1 - (j + 1)) + 1 by omega]; rfl
      clear HG
      have hbd := plV_bounds zs false k HB.out
      have hk2 := plK_le zs false k hk
      have HS : Hid (RPlSt w wr r v zs k false A (.slice pA A.length cA)) := hs
      have hne : blockOf v ≠ some r := fun e => by have := hs.2.2.2.2.2.2 _ e; omega
      clear hs
      obtain ⟨x0, x1⟩ := hbd
      go_wp2_with fail
      refine (ru_calls r v zs k 2 false 2 rfl _ HS.out.2.1 HS.out.2.2.1 HB.out hne (by omega) (by omega) hk).mono ?_; rintro e w3 ⟨rfl, hr3, hk3⟩
      have hs3 := HS.out.rkp hk3 hr3
      clear hr3 hk3
      rw [show rdK zs k false 2 = plK zs false k from rfl, show rdB zs k false 2 = plB zs false k from rfl] at hs3
      rw [show plV zs false k = 2 * rdV zs k false 2 from rfl] at HG2 x0 x1
      generalize plB zs false k = bad at *
      generalize plK zs false k = k2 at *
      generalize rdV zs k false 2 = x2 at *
      have hw2 : IntKind.i64.wrap (2 * x2) = 2 * x2 := by rw [IntKind.wrap_i64]; omega
      have HS3 : Hid (RPlSt w w3 r v zs k2 bad A (.slice pA A.length cA)) := hs3
      obtain ⟨cb0, cb1, cb2, fb1, fb2⟩ := hs3.2.1.facts
      clear cb0 cb1 fb1 fb2
      have hkp3 := hs3.2.2.2.1
      have hqw := hs3.2.2.2.2.1
      clear hs3
      cases bad
      · by_cases hx2 : size < (2 * x2)
        · have hR : Hid (plLoad zs n false size = none) := by rw [Hid, ← HG2.out, if_pos (.inr (.inr hx2))]
          go_wp2_with fail
          go_ret2
          exact .inl ⟨hR.out, _, rfl, hkp3⟩
        · have hx2' : decide (size < (2 * x2)) = false := decide_eq_false hx2
          by_cases hj0 : j = 0
          · have hj0' : decide ((0 : Int) < j) = false := decide_eq_false (by omega)
            have hj0n : ¬ 0 < j := by omega
            have hA0 : A = [] := List.eq_nil_of_length_eq_zero (by have := HJ.out; omega)
            have hl0 : lst = 0 := HLS.out.1 hA0
            have HG3 : Hid (plGo zs false size (n + 1 - (j + 1)) (2 * x2) (A ++ [(2 * x2)]) k2 = plLoad zs n false size) := by
              rw [Hid, ← HG2.out, if_neg (by rintro (h | h | h); cases h; omega; exact hx2 h)]
            clear HG2 hA0 hj0
            have hAl : A.length ≤ 70000 := by have := HJ.out; omega
            go_wp2_with (at_builtin; refine wpList_app rfl _ _ 24 rfl (r + 1) 3 (.int .i64 0) 1 8 Try.underlying24 infoIntM rfl (by decide) (by decide) (.slice pA A.length cA) A.length (A.map (Value.int .i64)) rfl ?hown (.slice (some ⟨w3.heap.size, 0, none⟩) 1 1) 1 [.int .i64 (2 * x2)] rfl ?hsrc ?hone ?hb1 ?hb2 ?hk)
            case hown => exact HS3.out.1.alloc _
            case hsrc => exact Reads.made _ _ 1 1 [.int .i64 (2 * x2)] _ rfl rfl (by decide)
            case hone => first | (intro u hu; simp at hu; subst hu; rfl) | rfl
            case hb1 => omega
            case hb2 => simp; omega
            case hk =>
            intro u w4 hown hgr
            have hs5 := HS3.out.app hown hgr
            have HJ5 : Hid ((A ++ [(2 * x2)]).length = j + 1) := by unfold Hid; have := HJ.out; simp; omega
            have HL5 : Hid (((A ++ [(2 * x2)]) = [] → (2 * x2) = 0) ∧ ((A ++ [(2 * x2)]) ≠ [] → (2 * x2) = (A ++ [(2 * x2)]).getD ((A ++ [(2 * x2)]).length - 1) 0)) := ⟨fun e => by simp at e, fun _ => by simp [List.getD_eq_getElem?_getD]⟩
            clear hown hgr
            go_wp2_with fail
            go_roundw
            case rel => first | exact ⟨j + 1, k2, A ++ [(2 * x2)], (2 * x2), by omega, int_eq' (by omega), x0, hk2, hs5, HJ5, HL5, HG3.out⟩ | ((repeat apply Exists.intro); exact ⟨⟨j + 1, k2, A ++ [(2 * x2)], (2 * x2), by omega, int_eq' (by omega), x0, hk2, hs5, HJ5, HL5, HG3.out⟩, rfl⟩)
            case measure => simp [intOf]; omega
          · have hj1 : (1 : Int) ≤ j := by omega
            have hj1n : 0 < j := by omega
            have hA1 : A ≠ [] := fun e => by have := HJ.out; rw [e] at this; simp at this; omega
            have hls := HLS.out.2 hA1
            have hci : Hid (IsInts .i64 w3 (.slice pA A.length cA) A) := IsInts.owned HS3.out.1
            have hAp : 0 < A.length := List.length_pos_iff.2 hA1
            rcases hci.out with ⟨⟨ad, e⟩, e'⟩ | ⟨g1, o1, c1, e, _, _, h3⟩
            · exact absurd e' hA1
            · cases e
              have hcl := h3 (j - 1) (by have := HJ.out; omega)
              rw [show A.getD (j - 1) 0 = lst by rw [hls]; have := HJ.out; rw [this]] at hcl
              have hjA : (j : Int) - 1 < A.length := by have := HJ.out; omega
              have hjT : ((j : Int) - 1).toNat = j - 1 := by omega
              have hgw : g1 < w3.heap.size := World.block_lt_of_cell? w3 _ hcl
              clear h3 hls hA1 hj0
              by_cases hx1 : (2 * x2) < lst
              · have hR : Hid (plLoad zs n false size = none) := by rw [Hid, ← HG2.out, if_pos (.inr (.inl hx1))]
                go_wp2_with fail
                go_ret2
                exact .inl ⟨hR.out, _, rfl, hkp3⟩
              · have hx1' : decide ((2 * x2) < lst) = false := decide_eq_false hx1
                have HG3 : Hid (plGo zs false size (n + 1 - (j + 1)) (2 * x2) (A ++ [(2 * x2)]) k2 = plLoad zs n false size) := by
                  rw [Hid, ← HG2.out, if_neg (by rintro (h | h | h); cases h; exact hx1 h; exact hx2 h)]
                clear HG2
                have hAl : A.length ≤ 70000 := by have := HJ.out; omega
                go_wp2_with (at_builtin; refine wpList_app rfl _ _ 24 rfl (r + 1) 3 (.int .i64 0) 1 8 Try.underlying24 infoIntM rfl (by decide) (by decide) (.slice (some ⟨g1, o1, none⟩) A.length cA) A.length (A.map (Value.int .i64)) rfl ?hown (.slice (some ⟨w3.heap.size, 0, none⟩) 1 1) 1 [.int .i64 (2 * x2)] rfl ?hsrc ?hone ?hb1 ?hb2 ?hk)
                case hown => exact HS3.out.1.alloc _
                case hsrc => exact Reads.made _ _ 1 1 [.int .i64 (2 * x2)] _ rfl rfl (by decide)
                case hone => first | (intro u hu; simp at hu; subst hu; rfl) | rfl
                case hb1 => omega
                case hb2 => simp; omega
                case hk =>
                intro u w4 hown hgr
                have hs5 := HS3.out.app hown hgr
                have HJ5 : Hid ((A ++ [(2 * x2)]).length = j + 1) := by unfold Hid; have := HJ.out; simp; omega
                have HL5 : Hid (((A ++ [(2 * x2)]) = [] → (2 * x2) = 0) ∧ ((A ++ [(2 * x2)]) ≠ [] → (2 * x2) = (A ++ [(2 * x2)]).getD ((A ++ [(2 * x2)]).length - 1) 0)) := ⟨fun e => by simp at e, fun _ => by simp [List.getD_eq_getElem?_getD]⟩
                clear hown hgr
                go_wp2_with fail
                go_roundw
                case rel => first | exact ⟨j + 1, k2, A ++ [(2 * x2)], (2 * x2), by omega, int_eq' (by omega), x0, hk2, hs5, HJ5, HL5, HG3.out⟩ | ((repeat apply Exists.intro); exact ⟨⟨j + 1, k2, A ++ [(2 * x2)], (2 * x2), by omega, int_eq' (by omega), x0, hk2, hs5, HJ5, HL5, HG3.out⟩, rfl⟩)
                case measure => simp [intOf]; omega
      · have hR : Hid (plLoad zs n false size = none) := by rw [Hid, ← HG2.out, if_pos (.inl rfl)]
        go_wp2_with fail
        go_ret2
        exact .inl ⟨hR.out, _, rfl, hkp3⟩
    · obtain rfl : j = n + 1 := by omega
      have hR : Hid (plLoad zs n false size = some A) := by rw [Hid, ← HG.out, Nat.sub_self]; rfl
      have hd : Hid (IsInts .i64 wr (.slice pA A.length cA) A) := IsInts.owned hs.1
      have hkp := hs.2.2.2.1
      have hlt' : ¬ ((n : Int) + 1 ≤ (n : Int)) := by omega
      clear hs
      go_wp2_with fail
      go_ret2
      exact .inr ⟨A, _, hR.out, rfl, hd.out, hkp⟩
theorem rplload_calls (v : Value) (zs : List Int) (n : Nat) (long : Bool) (size : Int) (h3 : n ≤ 65535) (s0 : 0 ≤ size) (s1 : size ≤ 1048576) (w : World) (hz : IsInts .u8 w v zs) (hb : ∀ c ∈ zs, 0 ≤ c ∧ c ≤ 255) (hv : ∀ b, blockOf v = some b → b < w.heap.size) :
    Calls Try.prog 38 #[v, .int .i64 n, .bool long, .int .i64 size] w (RPlD (plLoad zs n long size) w) := by
  cases long
  · exact rplload_false v zs n size h3 s0 s1 w hz hb hv
  · exact rplload_true v zs n size h3 s0 s1 w hz hb hv
end Go.Proofs.Ythmokldmdcjklaa

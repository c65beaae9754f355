/- type2: the law Type2Steps. -/
import Derived.Test.YtfgpocpfapnkkaaGreatTxH
import Derived.Deep.AppendLies
namespace Go.Proofs.YtfgpocpfapnkkaaGreat
open Go.RowKit
set_option linter.unusedVariables false
set_option linter.unusedSimpArgs false
theorem dop18 (l st dr : List Int) (x : Int) : doM 18 (l ++ [x]) st dr = (0, l, st, dr) := by
  unfold doM
  rw [if_neg (by decide), if_neg (by simp [show needM 18 = 1 from rfl])]
  unfold stepM
  dsimp only
  rw [if_neg (by decide), if_pos rfl]
  simp [show needM 18 = 1 from rfl]
theorem drop_cons {zs l : List Int} {k : Nat} {a : Int} (h : zs.drop k = a :: l) : k < zs.length ∧ zs.getD k 0 = a ∧ zs.drop (k + 1) = l := by
  have hk : k < zs.length := by
    rcases Nat.lt_or_ge k zs.length with h1 | h1
    · exact h1
    · rw [List.drop_of_length_le h1] at h; cases h
  rw [List.drop_eq_getElem_cons hk] at h
  refine ⟨hk, ?_, (List.cons.inj h).2⟩
  rw [List.getD_eq_getElem?_getD, List.getElem?_eq_getElem hk]; exact (List.cons.inj h).1
/-- So many numbers, taken away again; the end. -/
def stZ : Nat → List Int
  | 0 => [14]
  | t + 1 => 139 :: 12 :: 18 :: stZ t
section
variable {nom : Int} {G L : List (List Int)} {sub : Option (List Int → Ms → Rm)} {top : Bool} {zs : List Int}
theorem tok_num0 {k : Nat} {st : Ms} (hk : k ≤ zs.length) (hs : st.stk = []) : tokM nom G L sub zs k 139 st = (.ok { st with stk := [0] }, k) := by
  unfold tokM
  rw [if_pos (by decide), show numN 139 = 0 from rfl, if_neg (by omega), show cutB zs k 0 = [] by simp [cutB]]
  unfold pushM
  rw [if_neg (by decide), if_neg (by rw [hs]; decide), hs]; rfl
theorem tok_drop {k : Nat} {st : Ms} {l : List Int} {x : Int} (hk : zs.getD k 0 = 18) (hl : k < zs.length) (hs : st.stk = l ++ [x]) : tokM nom G L sub zs k 12 st = (.ok { st with stk := l }, k + 1) := by
  unfold tokM
  rw [if_neg (by decide), if_neg (by decide), if_neg (by decide), if_pos rfl, if_neg (by omega), hk]
  rw [if_pos (by decide)]
  unfold doR
  rw [hs, dop18]; rfl
theorem tok_end {k : Nat} {st : Ms} (hs : st.stk = []) : tokM nom G L sub zs k 14 st = (.ok { st with stk := [], wide := false, ended := true }, k) := by
  unfold tokM
  rw [if_neg (by decide), if_neg (by decide), if_neg (by decide), if_neg (by decide), if_neg (by decide), if_neg (by decide), if_pos rfl]
  unfold endM
  rw [hs]
  have : (st.wide && (decide (([] : List Int).length = 1) || decide (([] : List Int).length = 5))) = false := by cases st.wide <;> rfl
  rw [this]
  unfold allL allE allS
  rw [hs]
  simp
theorem loop_st : ∀ (t f k : Nat) (st : Ms), zs.drop k = stZ t → st.ended = false → st.stk = [] → 20000 < f + st.steps → st.steps ≤ 20000 →
    (20000 < st.steps + 2 * t + 1 → loopM nom G L sub top zs f k st = .error 181) ∧ (st.steps + 2 * t + 1 ≤ 20000 → ∃ st', loopM nom G L sub top zs f k st = .ok st' ∧ st'.steps = st.steps + 2 * t + 1 ∧ st'.pen = st.pen ∧ st'.width = st.width) := by
  intro t
  induction t with
  | zero =>
    intro f k st hz he hs hf h2
    obtain ⟨f, rfl⟩ : ∃ g, f = g + 1 := ⟨f - 1, by omega⟩
    obtain ⟨z1, z2, _⟩ := drop_cons hz
    refine ⟨fun h => ?_, fun h => ?_⟩
    · have h3 : st.steps = 20000 := by omega
      unfold loopM; rw [if_neg (by rw [he]; simp), if_neg (by omega), if_pos h3]
    · have ht := tok_end (nom := nom) (G := G) (L := L) (sub := sub) (zs := zs) (k := k + 1) (st := { st with steps := st.steps + 1 }) hs
      rw [loop_ok he (by omega) (by omega) (by rw [z2]; decide) (by rw [z2]; exact ht)]
      obtain ⟨f, rfl⟩ : ∃ g, f = g + 1 := ⟨f - 1, by omega⟩
      refine ⟨{ st with stk := [], steps := st.steps + 1, wide := false, ended := true }, ?_, rfl, rfl, rfl⟩
      unfold loopM; rw [if_pos rfl]
  | succ t ih =>
    intro f k st hz he hs hf h2
    obtain ⟨f, rfl⟩ : ∃ g, f = g + 1 := ⟨f - 1, by omega⟩
    obtain ⟨z1, z2, z3⟩ := drop_cons hz
    obtain ⟨y1, y2, y3⟩ := drop_cons z3
    obtain ⟨x1, x2, x3⟩ := drop_cons y3
    by_cases h3 : st.steps = 20000
    · refine ⟨fun h => ?_, fun h => by omega⟩
      unfold loopM; rw [if_neg (by rw [he]; simp), if_neg (by omega), if_pos h3]
    · have ht := tok_num0 (nom := nom) (G := G) (L := L) (sub := sub) (zs := zs) (k := k + 1) (st := { st with steps := st.steps + 1 }) (by omega) hs
      rw [loop_ok he (by omega) h3 (by rw [z2]; decide) (by rw [z2]; exact ht)]
      obtain ⟨f, rfl⟩ : ∃ g, f = g + 1 := ⟨f - 1, by omega⟩
      by_cases h4 : st.steps + 1 = 20000
      · refine ⟨fun h => ?_, fun h => by omega⟩
        unfold loopM; rw [if_neg (by show ¬ (st.ended = true); rw [he]; simp), if_neg (by omega), if_pos h4]
      · have ht2 := tok_drop (nom := nom) (G := G) (L := L) (sub := sub) (zs := zs) (k := k + 1 + 1) (st := { st with stk := [0], steps := st.steps + 1 + 1 }) (l := []) (x := 0) x2 x1 rfl
        rw [loop_ok (st := { st with stk := [0], steps := st.steps + 1 }) he (by omega) h4 (by rw [y2]; decide) (by rw [y2]; exact ht2)]
        have h9 := ih f (k + 1 + 1 + 1) { st with stk := [], steps := st.steps + 1 + 1 } x3 he rfl (by show 20000 < f + (st.steps + 1 + 1); omega) (by show st.steps + 1 + 1 ≤ 20000; omega)
        refine ⟨fun h => h9.1 (by show 20000 < st.steps + 1 + 1 + 2 * t + 1; omega), fun h => ?_⟩
        obtain ⟨st', g1, g2, g3, g4⟩ := h9.2 (by show st.steps + 1 + 1 + 2 * t + 1 ≤ 20000; omega)
        exact ⟨st', g1, by rw [g2]; show st.steps + 1 + 1 + 2 * t + 1 = _; omega, g3, g4⟩
end
theorem run_st (m : Nat) : runM (stZ m) [] [] 0 0 [] = if 20000 < 2 * m + 1 then (([], 0, 0), 181) else (([], 0, 2 * m + 1), 0) := by
  unfold runM
  rw [if_neg (by decide)]
  have h := loop_st (nom := 0) (G := []) (L := []) (sub := some (codeM 0 [] [] 9 false)) (top := true) (zs := stZ m) m 20001 0 (ms0 [] 0) rfl rfl rfl (by show 20000 < 20001 + 0; omega) (Nat.zero_le _)
  have hc : codeM 0 [] [] 10 true (stZ m) (ms0 [] 0) = loopM 0 [] [] (some (codeM 0 [] [] 9 false)) true (stZ m) 20001 0 (ms0 [] 0) := rfl
  rw [hc]
  have h0 : (ms0 [] 0).steps = 0 := rfl
  rw [h0, Nat.zero_add] at h
  by_cases hm : 20000 < 2 * m + 1
  · rw [if_pos hm, h.1 hm]
  · rw [if_neg hm]
    obtain ⟨st', g1, g2, g3, g4⟩ := h.2 (by omega)
    rw [g1]
    dsimp only
    rw [g3, g2, g4]
    rfl
def reZ : Nat → List Int
  | 0 => []
  | t + 1 => 139 :: 12 :: 18 :: reZ t
theorem reZ_len : ∀ t, (reZ t).length = 3 * t
  | 0 => rfl
  | t + 1 => by rw [reZ]; simp only [List.length_cons]; rw [reZ_len t]; omega
theorem reZ_app : ∀ t, reZ (t + 1) = reZ t ++ [139, 12, 18]
  | 0 => rfl
  | t + 1 => by
    show 139 :: 12 :: 18 :: reZ (t + 1) = 139 :: 12 :: 18 :: (reZ t ++ [139, 12, 18])
    rw [reZ_app t]
theorem reZ_two (t : Nat) : reZ (t + 2) = reZ t ++ [139, 12, 18, 139, 12, 18] := by rw [reZ_app (t + 1), reZ_app t, List.append_assoc]; rfl
theorem stZ_re : ∀ t, reZ t ++ [14] = stZ t
  | 0 => rfl
  | t + 1 => by rw [reZ, stZ, ← stZ_re t]; rfl
theorem stZ_bytes : ∀ t, ∀ c ∈ stZ t, 0 ≤ c ∧ c ≤ 255
  | 0 => by decide
  | t + 1 => fun c hc => by
    rw [stZ] at hc
    simp only [List.mem_cons] at hc
    rcases hc with rfl | rfl | rfl | h
    · decide
    · decide
    · decide
    · exact stZ_bytes t c h
set_option maxRecDepth 100000 in
set_option maxHeartbeats 8000000 in
theorem law_Type2Steps (n : Int) (w : World) : Calls Tryz.prog 6 #[.int .i64 n] w fun e w' => e = .returned (.bool true) ∧ Kp [] w w' := by
  by_cases hin : 0 ≤ n ∧ n ≤ 7000
  · obtain ⟨N, rfl⟩ : ∃ N : Nat, n = N := ⟨n.toNat, by omega⟩
    have hN2 : N ≤ 7000 := by omega
    have d1 : decide ((N : Int) < 0) = false := decide_eq_false (by omega)
    have d2 : decide ((7000 : Int) < (N : Int)) = false := decide_eq_false (by omega)
    obtain ⟨i0, hi0, hz0, hz1, hz2⟩ := info_parts infoByte
    clear hin
    have HRE := Lib.hid (fun t => reZ_two t)
    have HRL := Lib.hid (fun t => reZ_len t)
    go_enter Tryz.func6, Tryz.ntmps6
    go_wp2_with fail
    go_loopw [3, 4] (fun cv iv wr => ∃ (j : Nat) (p : Option Addr) (q : Nat), j ≤ N ∧ iv = .int .i64 j ∧ cv = .slice p (6 * j) q ∧ Hid (wr.ownsRow w.heap.size 5 1 (.slice p (6 * j) q) (6 * j) ((reZ (2 * j)).map (Value.int .u8)) ∧ Kp [] w wr)) (fun _ iv _ => N - (intOf iv).toNat)
    case atStart => exact ⟨0, none, 0, by omega, rfl, rfl, World.ownsRow_nil _ _ _ _, Kp.refl _ _⟩
    case round =>
      obtain ⟨j, p, q, hj, rfl, rfl, HJ⟩ := hrel
      by_cases hlt : j < N
      · obtain ⟨m, hm⟩ : ∃ m, 6 * j = m := ⟨_, rfl⟩
        have HM := Lib.hid hm
        rw [hm] at HJ ⊢
        have hm2 : m ≤ 42000 := by omega
        clear hm
        go_wp2_with (at_builtin; refine wpList_append_lies _ rfl _ _ 22 rfl w.heap.size 5 i0 (.int .u8 0) 1 1 Tryz.underlying22 hi0 hz0 hz1 hz2 rfl (by decide) (.slice p m q) m ((reZ (2 * j)).map (Value.int .u8)) rfl ?hown ⟨wr.heap.size, 0, none⟩ 6 6 [.int .u8 139, .int .u8 12, .int .u8 18, .int .u8 139, .int .u8 12, .int .u8 18] rfl rfl ?hnews ?hone (by decide) ?hm ?hb1 ?hb2 (wr.heap.size + 1) ?hH ?hk)
        case hown => exact Kp.row (S := []) (by (repeat (first | exact Kp.refl _ _ | assumption | refine Kp.drew ?_ | refine Kp.drewN ?_ _ | refine Kp.alloc ?_ _ | (refine Kp.setCell ?_ (by first | (left; simp; done) | (right; simp; try omega)) _) | (refine Kp.trans' ?_ (by assumption) (by simp; try omega))))) HJ.out.1 (by simp)
        case hnews => exact World.news_of_block (heap_alloc_new wr _)
        case hone => intro u hu; simp at hu; rcases hu with rfl | rfl | rfl | rfl | rfl | rfl <;> rfl
        case hm => unfold maxLen; omega
        case hb1 => omega
        case hb2 => have := HJ.out.2.size; simp; omega
        case hH => simp
        case hk =>
        intro g4 c4 w4 hown hgr hat hlt4
        have HJ2 : Hid (w4.ownsRow w.heap.size 5 1 (.slice (some ⟨g4, 0, none⟩) (6 * (j + 1)) c4) (6 * (j + 1)) ((reZ (2 * (j + 1))).map (Value.int .u8)) ∧ Kp [] w w4) := by
          have hk : Kp [] w w4 := Kp.grown (HJ.out.2.trans ((Kp.refl _ _).alloc _)) hgr (fun k hk => .inr (HJ.out.1.lt k hk).1)
          refine ⟨?_, hk⟩
          rw [show 2 * (j + 1) = 2 * j + 2 by omega, HRE.out, List.map_append, show 6 * (j + 1) = m + 6 by have := HM.out; omega]
          exact hown
        have hm6 : m + 6 = 6 * (j + 1) := by have := HM.out; omega
        rw [hm6]
        clear hown hgr hat hlt4 hm6
        go_wp2_with fail
        go_roundw
        case rel => first | exact ⟨j + 1, _, _, by omega, int_eq' (by omega), rfl, HJ2⟩ | ((repeat apply Exists.intro); exact ⟨⟨j + 1, _, _, by omega, int_eq' (by omega), rfl, HJ2⟩, rfl⟩)
        case measure => simp [intOf]; omega
      · obtain rfl : j = N := by omega
        obtain ⟨m, hm⟩ : ∃ m, 6 * j = m := ⟨_, rfl⟩
        have HM := Lib.hid hm
        rw [hm] at HJ ⊢
        have hm2 : m ≤ 42000 := by omega
        clear hm
        go_wp2_with (at_builtin; refine wpList_append_lies _ rfl _ _ 22 rfl w.heap.size 5 i0 (.int .u8 0) 1 1 Tryz.underlying22 hi0 hz0 hz1 hz2 rfl (by decide) (.slice p m q) m ((reZ (2 * j)).map (Value.int .u8)) rfl ?hown ⟨wr.heap.size, 0, none⟩ 1 1 [.int .u8 14] rfl rfl ?hnews ?hone (by decide) ?hm ?hb1 ?hb2 (wr.heap.size + 1) ?hH ?hk)
        case hown => exact Kp.row (S := []) (by (repeat (first | exact Kp.refl _ _ | assumption | refine Kp.drew ?_ | refine Kp.drewN ?_ _ | refine Kp.alloc ?_ _ | (refine Kp.setCell ?_ (by first | (left; simp; done) | (right; simp; try omega)) _) | (refine Kp.trans' ?_ (by assumption) (by simp; try omega))))) HJ.out.1 (by simp)
        case hnews => exact World.news_of_block (heap_alloc_new wr _)
        case hone => intro u hu; simp at hu; subst hu; rfl
        case hm => unfold maxLen; omega
        case hb1 => omega
        case hb2 => have := HJ.out.2.size; simp; omega
        case hH => simp
        case hk =>
        intro g4 c4 w4 hown hgr hat hlt4
        have hk : Kp [] w w4 := Kp.grown (HJ.out.2.trans ((Kp.refl _ _).alloc _)) hgr (fun k hk => .inr (HJ.out.1.lt k hk).1)
        have HK4 := Lib.hid hk
        have hrow : w4.ownsRow w.heap.size 5 1 (.slice (some ⟨g4, 0, none⟩) (m + 1) c4) (m + 1) ((stZ (2 * j)).map (Value.int .u8)) := by
          rw [← stZ_re, List.map_append]; exact hown
        have hby : BytesC w4 (.slice (some ⟨g4, 0, none⟩) (m + 1) c4) (stZ (2 * j)) := ⟨IsInts.owned hrow, stZ_bytes _, fun b e => (hrow.lt b (blockOf_own e)).2⟩
        have HRUN := Lib.hid (run_calls ⟨.slice (some ⟨g4, 0, none⟩) (m + 1) c4, .slice none 0 0, .slice none 0 0, 0, 0, .slice none 0 0⟩ (stZ (2 * j)) [] [] [] w4 hby (sub_nil _) (sub_nil _) (IsInts.nil _ _) (by decide))
        dsimp only at HRUN
        rw [run_st] at HRUN
        have hwm : IntKind.i64.wrap (4 * (j : Int)) = 4 * (j : Int) := by rw [IntKind.wrap_i64]; omega
        have hwm2 : IntKind.i64.wrap (4 * (j : Int) + 1) = 4 * (j : Int) + 1 := by rw [IntKind.wrap_i64]; omega
        clear hown hgr hat hlt4 hk hrow hby HJ HM hm2 hlt hj
        by_cases hbig : 20000 < 2 * (2 * j) + 1
        · rw [if_pos hbig] at HRUN
          have hd : decide ((20000 : Int) < 4 * (j : Int) + 1) = true := decide_eq_true (by omega)
          clear hbig
          go_wp2_with fail
          refine HRUN.out.mono ?_; rintro e w5 ⟨v5, rfl, ho5, hk5⟩
          obtain ⟨p5, c5, rfl⟩ := ho5.form
          have HK5 : Hid (Kp [] w w5) := HK4.out.trans hk5
          clear ho5 hk5 HRUN
          dsimp only
          go_upto_region 9 with fail
          refine wp_genT ?_; intro W6 hW6
          have hb6 : W6.heap[w5.heap.size]? = some (.cells #[.slice p5 0 c5, .int .i64 0, .int .i64 0] 31 (0, 0)) := by rw [hW6]; exact heap_alloc_new w5 _
          have HK6 : Hid (Kp [] w W6) := by show Kp [] _ _; rw [hW6]; exact HK5.out.alloc _
          have HB6 := Lib.hid hb6
          generalize w5.heap.size = X at *
          clear hW6 hb6
          go_wp2_with fail
          refine (lives18_calls W6).mono ?_; rintro e w7 ⟨rfl, hk7⟩
          have b2 : w7.cell? ⟨X, 2, none⟩ = some (.int .i64 0) := cell_of_row w7 X 2 _ _ _ (hk7.heap HB6.out (by simp))
          have HK7 : Hid (Kp [] w w7) := HK6.out.trans hk7
          clear hk7
          go_wp2_with fail
          go_ret
          exact ⟨by simp, HK7.out⟩
        · rw [if_neg hbig] at HRUN
          have hd : decide ((20000 : Int) < 4 * (j : Int) + 1) = false := decide_eq_false (by omega)
          have hst : (((2 * (2 * j) + 1 : Nat) : Int)) = 4 * (j : Int) + 1 := by omega
          have HST := Lib.hid hst
          clear hbig hst
          go_wp2_with fail
          refine HRUN.out.mono ?_; rintro e w5 ⟨v5, rfl, ho5, hk5⟩
          obtain ⟨p5, c5, rfl⟩ := ho5.form
          have HK5 : Hid (Kp [] w w5) := HK4.out.trans hk5
          clear ho5 hk5 HRUN
          dsimp only
          rw [HST.out]
          go_upto_region 9 with fail
          refine wp_genT ?_; intro W6 hW6
          have hb6 : W6.heap[w5.heap.size]? = some (.cells #[.slice p5 0 c5, .int .i64 0, .int .i64 (4 * (j : Int) + 1)] 31 (0, 0)) := by rw [hW6]; exact heap_alloc_new w5 _
          have HK6 : Hid (Kp [] w W6) := by show Kp [] _ _; rw [hW6]; exact HK5.out.alloc _
          have HB6 := Lib.hid hb6
          generalize w5.heap.size = X at *
          clear hW6 hb6
          go_wp2_with fail
          refine (lives18_calls W6).mono ?_; rintro e w7 ⟨rfl, hk7⟩
          have b2 : w7.cell? ⟨X, 2, none⟩ = some (.int .i64 (4 * (j : Int) + 1)) := cell_of_row w7 X 2 _ _ _ (hk7.heap HB6.out (by simp))
          have HK7 : Hid (Kp [] w w7) := HK6.out.trans hk7
          clear hk7
          go_wp2_with fail
          go_ret
          exact ⟨by simp, HK7.out⟩
  · by_cases h1 : n < 0
    · have d1 : decide (n < 0) = true := decide_eq_true h1
      go_enter Tryz.func6, Tryz.ntmps6
      go_wp2_with fail
      refine (lives18_calls _).mono ?_; rintro e w1 ⟨rfl, hk⟩
      go_wp2_with fail
      go_ret
      exact ⟨rfl, hk⟩
    · have d1 : decide (n < 0) = false := decide_eq_false h1
      have d2 : decide (7000 < n) = true := decide_eq_true (by omega)
      go_enter Tryz.func6, Tryz.ntmps6
      go_wp2_with fail
      refine (lives18_calls _).mono ?_; rintro e w1 ⟨rfl, hk⟩
      go_wp2_with fail
      go_ret
      exact ⟨rfl, hk⟩
end Go.Proofs.YtfgpocpfapnkkaaGreat

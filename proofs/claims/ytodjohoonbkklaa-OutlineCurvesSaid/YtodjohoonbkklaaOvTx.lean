/- outline: the law OutlineCurves. (Written by wip/outline/genovt.py.) -/
import Derived.Test.YtodjohoonbkklaaOvSx
import Derived.Sort.CutIn
namespace Go.Proofs.Ytodjohoonbkklaa
open Go.RowKit Go.Shelf
set_option linter.unusedVariables false
set_option linter.unusedSimpArgs false
attribute [local go_sem] Oper.semAt_some
set_option maxRecDepth 100000 in
set_option maxHeartbeats 40000000 in
theorem curves_yes (v : Value) (o : List (List Pn)) (stop : Int) (w : World) (hv : IsOut w v o) (hb : boundO o) (hlg : largeB o = false) (hE : checkO o = 0) :
    Calls Try.prog 9 #[v, .int .i64 stop] w fun e w' => e = .returned (.bool true) ∧ Kp [] w w' := by
  have HLA := Lib.hid (fun W (hW : Kp [] w W) => large_calls v o W (hv.kp0 hW) hb)
  obtain ⟨pa, ca, rfl⟩ := hv.form
  have HV : Hid (∀ W, Kp [] w W → IsOut W (.slice pa o.length ca) o) := fun W hW => hv.kp0 hW
  obtain ⟨hfew, hsm, hti, hcn⟩ := small_facts hlg
  rw [hlg] at HLA
  have HRC := Lib.hid (fun W hW => rcheck_calls _ o W (HV.out W hW) hti (by omega))
  have HCO := Lib.hid (fun W hW => copied_calls _ o W (HV.out W hW) hfew)
  have HRU := Lib.hid (fun W hW => rcurves_calls _ o W (HV.out W hW) hE)
  have HST := Lib.hid (fun Bc v2 W (hB : W.cell? ⟨Bc, 0, none⟩ = some v2) (hv2 : IsOut W v2 o) => curves_stops 4 (by decide) Bc v2 o hE W hB hv2)
  rw [hE] at HRC
  have HGO : Hid (goesR true pn0 pn0 (curvesTo (expO o) o.length)) := by
    obtain ⟨hz1, hz2, hz3⟩ := checkO_zero hE
    have hlX : (expO o).length = o.length := by unfold expO; rw [List.length_map]
    have := curves_goes (expO o) (fun j hj => by
      rw [hlX] at hj
      rw [expO_at o j hj]
      exact ⟨okE_expC (hz3 j hj), (expC_len _ (mayCo_facts (hz3 j hj)).1).1⟩)
    rw [hlX] at this; exact this
  have HYL : Hid ((curvesTo (expO o) o.length).length ≤ 2097408) := by
    obtain ⟨hz1, hz2, hz3⟩ := checkO_zero hE
    have := curvesTo_len (expO o) 8193 (fun j hj => by
      have hj2 : j < o.length := by simpa [expO] using hj
      rw [expO_at o j hj2]
      have a := (expC_len _ (mayCo_facts (hz3 j hj2)).1).2
      have b := len_le_cnt o hj2
      omega) o.length (by simp [expO])
    have : o.length * 8193 ≤ 256 * 8193 := Nat.mul_le_mul_right _ (by omega)
    show _ ≤ _; omega
  generalize curvesTo (expO o) o.length = Y at *
  generalize o.length = N at *
  clear hv hb hlg hfew hsm hti hcn hE
  have hef := eql_seq (.func 86) #[]
  refine (callsIn_wide (n := 5)).1 ?_
  refine callsIn_of_wp_marks Try.func9 rfl trivial ?_ rfl
  simp only [Try.ntmps9, List.size_toArray, List.length_cons, List.length_nil, Nat.reduceAdd, Nat.reduceSub, Array.replicate_succ, Array.replicate_zero, List.push_toArray, List.append_toArray, List.nil_append, List.cons_append]
  have HK1 : Hid (Kp [] w ((w.alloc (.cells #[.int .i64 stop] 3)).alloc (.cells #[.bool false] 4))) := ((Kp.refl _ _).alloc _).alloc _
  have HB1 : Hid (Boxed ((w.alloc (.cells #[.int .i64 stop] 3)).alloc (.cells #[.bool false] 4)) w.heap.size 3 (.int .i64 stop)) := ((Kp.refl [] _).alloc _).heap (heap_alloc_new w _) (by simp)
  have HB2 : Hid (Boxed ((w.alloc (.cells #[.int .i64 stop] 3)).alloc (.cells #[.bool false] 4)) (w.heap.size + 1) 4 (.bool false)) := by
    have := heap_alloc_new (w.alloc (.cells #[.int .i64 stop] 3)) (.cells #[.bool false] 4)
    rw [World.size_alloc] at this; exact this
  gi_wp2_with (refine ⟨trivial, ?_⟩; gi_at_call 25; refine (callsIn_wide.2 (HLA.out _ HK1.out)).mono ?_; rintro e w1 ⟨rfl, rfl⟩)
  generalize (w.alloc (.cells #[.int .i64 stop] 3)).alloc (.cells #[.bool false] 4) = w1 at *
  clear HLA
  gi_wp2_with (refine ⟨trivial, ?_⟩; gi_at_call 29; refine (callsIn_wide.2 (HCO.out _ HK1.out)).mono ?_; rintro e w2 ⟨v2, rfl, hw2, hk2⟩; obtain ⟨p2, c2, rfl⟩ := hw2.out.form)
  have HW2 := Lib.hid hw2.out
  have HS2 := Lib.hid hk2
  clear hw2 hk2 HCO
  gi_wp2_with (refine ⟨trivial, ?_⟩; gi_at_call 37; refine (callsIn_wide.2 (ocurves_calls _ _ _ _)).mono ?_; rintro e w3 ⟨rfl, rfl⟩)
  have HK3 : Hid (Kp [] w (w2.alloc (.cells #[.slice p2 o.length c2] 42))) := (HK1.out.trans HS2.out).alloc _
  have HB3 : Hid ((w2.alloc (.cells #[.slice p2 o.length c2] 42)).heap[w2.heap.size]? = some (.cells #[.slice p2 o.length c2] 42)) := heap_alloc_new w2 _
  have HS3 : Hid (Kp [] w2 (w2.alloc (.cells #[.slice p2 o.length c2] 42))) := (Kp.refl _ _).alloc _
  have HZ3 : Hid (w2.heap.size + 1 = (w2.alloc (.cells #[.slice p2 o.length c2] 42)).heap.size) := by show _ = _; simp
  generalize (w2.alloc (.cells #[.slice p2 o.length c2] 42)) = w3 at *
  gi_wp2_with (refine ⟨trivial, ?_⟩; gi_at_call 26; refine (callsIn_wide.2 (lives10_calls _)).mono ?_; rintro e w4 ⟨rfl, hk4⟩)
  have HS4 := Lib.hid hk4
  clear hk4 hef
  have HB4 : Hid (Boxed (w4.alloc (.cells #[.slice none 0 0] 58)) w4.heap.size 58 (.slice none 0 0)) := heap_alloc_new w4 _
  have HS5 : Hid (Kp [] w4 (w4.alloc (.cells #[.slice none 0 0] 58))) := (Kp.refl _ _).alloc _
  have HZ5 : Hid ((w4.alloc (.cells #[.slice none 0 0] 58)).heap.size = w4.heap.size + 1) := by show _ = _; simp
  gi_wp2_with (refine ⟨trivial, ?_⟩; gi_at_call 27; refine (callsIn_wide.2 (HRC.out _ (HK3.out.trans (HS4.out.trans HS5.out)))).mono ?_; rintro e w6 ⟨rfl, hk6⟩)
  have HS6 : Hid (Kp [] w4 w6) := HS5.out.trans hk6
  have HB6 : Hid (Boxed w6 w4.heap.size 58 (.slice none 0 0)) := hk6.heap HB4.out (by simp)
  have HZ6 : Hid (w4.heap.size + 1 ≤ w6.heap.size) := by show _ ≤ _; have := hk6.size; have := HZ5.out; omega
  clear hk6 HB4 HS5 HZ5
  gi_wp2_with (refine ⟨trivial, ?_⟩; gi_at_call 38; refine (callsIn_wide.2 (HRU.out _ (HK3.out.trans (HS4.out.trans HS6.out)))).mono ?_; rintro e w7 ⟨v7, rfl, hcv7, hk7, hov⟩; have g1 := (show Boxed w7 w4.heap.size _ _ from hk7.heap HB6.out (by simp)).cell; have g2 := (show Boxed w7 w4.heap.size _ _ from hk7.heap HB6.out (by simp)).frozen; obtain ⟨p7, c7, rfl⟩ := hcv7.form)
  have HC9 := Lib.hid (CsSt.made (w := w) (vw := .slice p7 Y.length c7) (HK3.out.trans (HS4.out.trans (HS6.out.trans hk7))) ((HS2.out.trans (HS3.out.trans (HS4.out.trans (HS6.out.trans hk7)))).heap HB1.out (by simp)) ((HS2.out.trans (HS3.out.trans (HS4.out.trans (HS6.out.trans hk7)))).heap HB2.out (by simp)) (hk7.heap HB6.out (by simp)) hcv7 (fun b hb => ⟨by have := hov b hb; have := HZ6.out; omega, (hov b hb).2⟩) (by have a1 := lt_of_block HB2.out; have a2 := HS2.out.size; have a3 := HZ3.out; have a4 := HS4.out.size; omega))
  have HKB : Hid (Kp [] w3 ((((w7.setCell ⟨w4.heap.size, 0, none⟩ (.slice p7 Y.length c7)).alloc (.cells #[.int .i64 0] 3)).alloc (.cells #[.int .i64 0, .int .i64 0, .int .i64 0] 61)).alloc (.cells #[.int .i64 0, .int .i64 0, .int .i64 0] 61))) := ((((HS4.out.trans (HS6.out.trans hk7)).setCell (.inr (by have := HS4.out.size; show _ ≤ w4.heap.size; omega)) _).alloc _).alloc _).alloc _
  generalize (((w7.setCell ⟨w4.heap.size, 0, none⟩ (.slice p7 Y.length c7)).alloc (.cells #[.int .i64 0] 3)).alloc (.cells #[.int .i64 0, .int .i64 0, .int .i64 0] 61)).alloc (.cells #[.int .i64 0, .int .i64 0, .int .i64 0] 61) = w9 at *
  have hz9 : w.heap.size ≤ w9.heap.size := HC9.out.kp.size
  refine wpIn_rangeFunc_ownH rfl (by decide) (gf := 86) (lb := #[.pointer (some ⟨w2.heap.size, 0, none⟩)]) rfl trivial (enters_of Try.func86 (by kernel_rfl) rfl)
    (HST.out w2.heap.size _ w9 (by rw [cell_of_row w9 w2.heap.size 0 _ _ (0, 0) (HKB.out.heap HB3.out (by simp))]; rfl) (HW2.out.kp0 (HS3.out.trans HKB.out))) KA.trans (fun W l o o' _ h hc _ => KA.putObj W l o o' h hc) (Below.refl _ _) (fun _ => rfl)
    (CsI w Y stop (.slice p7 Y.length c7) w4.heap.size w7.heap.size (w7.heap.size + 1) (w7.heap.size + 1 + 1)) (CsX w Y) (CsI.own hz9 _ _ _ _ _ _ _) (fun c => CsX.own hz9 Y c) ⟨pn0, pn0, HC9.out, HGO.out⟩
    (fun x a' W => ∃ Bx, w7.heap.size + 1 + 1 < Bx ∧ CvAt W Bx x ∧ a' = { tmps := ((.slice pa N ca : Value) :: .int .i64 stop :: undef :: .pointer (some ⟨w.heap.size, 0, none⟩) :: .pointer (some ⟨w.heap.size + 1, 0, none⟩) :: .func (.func 86) #[] #[.pointer (some ⟨w2.heap.size, 0, none⟩)] :: .pointer (some ⟨w4.heap.size, 0, none⟩) :: .pointer (some ⟨w7.heap.size, 0, none⟩) :: .pointer (some ⟨w7.heap.size + 1, 0, none⟩) :: .pointer (some ⟨w7.heap.size + 1 + 1, 0, none⟩) :: .pointer (some ⟨Bx, 0, none⟩) :: .slice pa N ca :: .bool false :: undef :: .slice pa N ca :: .slice p2 o.length c2 :: .func (.func 86) #[] #[.pointer (some ⟨w2.heap.size, 0, none⟩)] :: .bool true :: .bool false :: .bool false :: .func (.func 86) #[] #[.pointer (some ⟨w2.heap.size, 0, none⟩)] :: .bool false :: .bool false :: .slice pa N ca :: .int .i64 0 :: .bool true :: .slice pa N ca :: .slice p7 Y.length c7 :: .agg #[.int .i64 0, .int .i64 0, .int .i64 0] :: .agg #[.int .i64 0, .int .i64 0, .int .i64 0] :: .func (.func 86) #[] #[.pointer (some ⟨w2.heap.size, 0, none⟩)] :: cvV x :: undef :: undef :: undef :: undef :: undef :: undef :: undef :: undef :: undef :: undef :: undef :: undef :: undef :: undef :: undef :: undef :: undef :: undef :: undef :: undef :: undef :: undef :: undef :: undef :: undef :: undef :: undef :: undef :: undef :: undef :: undef :: undef :: undef :: undef :: undef :: undef :: undef :: undef :: undef :: undef :: undef :: undef :: undef :: undef :: undef :: undef :: undef :: undef :: undef :: []).toArray, defers := [] })
    (fun x a' s W W' row hs hg hr => by obtain ⟨Bx, h1, h2, h3⟩ := hs; exact ⟨Bx, h1, heapKept hg hr h2 rfl, h3⟩) ?assign ?body ?done ?stop
  case assign =>
    intro l pre x W K hi hK
    have HI := Lib.hid hi
    have hszW : w7.heap.size + 1 + 1 < W.heap.size := by obtain ⟨f, l, h1, h2⟩ := hi; exact h1.lt
    clear hi
    simp only [cvV, cvCells]
    gi_wp2
    exact hK _ _ ((KeepsOthers.alloc _ _).from _) (((Kp.refl _ _).alloc _).ka _) (by obtain ⟨f, l, h1, h2⟩ := HI.out; exact ⟨f, l, h1.kp0 ((Kp.refl _ _).alloc _), h2⟩) ⟨W.heap.size, hszW, heap_alloc_new W _, rfl⟩
  case body =>
    clear HV HRC HRU HST HK1 HB1 HB2 HW2 HS2 HK3 HB3 HS3 HZ3 HS4 HS6 HB6 HZ6 hk7 g1 g2 hcv7 hov HKB HGO
    rintro l pre x a' W hl ⟨rr, hr⟩ ⟨f, z, hC, hg⟩ ⟨Bx, hBx, hD, rfl⟩ hlt
    obtain ⟨K, hKK⟩ : ∃ K, pre.length = K := ⟨_, rfl⟩
    have HKK := Lib.hid hKK
    rw [hKK] at hC hg hlt
    obtain ⟨hs1, hs2⟩ := goes_step hg hlt
    have HNX : Hid (((pre ++ [x]).length) = K + 1) := by show _ = _; rw [List.length_append, hKK]; rfl
    have HNO : Hid (x ≠ Y.getD K cvZ → ¬ (pre ++ [x] <+: Y)) := fun h => pre_notY (by rw [hKK]; exact hlt) (by rw [hKK]; exact h)
    obtain ⟨g, off, cq, hvw, hcq1, hcq2, hrow⟩ := hC.cv.row hlt
    cases hvw
    obtain ⟨y, hy⟩ : ∃ y, Y.getD K cvZ = y := ⟨_, rfl⟩
    rw [show Y.getD K cv0 = Y.getD K cvZ from rfl, hy] at hrow
    rw [hy] at hs1 hs2 HNO
    obtain ⟨yk, ⟨yax, yay, yak⟩, ⟨ybx, yby, ybk⟩, ⟨ycx, ycy, yck⟩, ⟨ydx, ydy, ydk⟩⟩ := y
    obtain ⟨xk, ⟨xax, xay, xak⟩, ⟨xbx, xby, xbk⟩, ⟨xcx, xcy, xck⟩, ⟨xdx, xdy, xdk⟩⟩ := x
    obtain ⟨fx, fy, fk⟩ := f
    obtain ⟨zx, zy, zk⟩ := z
    have HC := Lib.hid hC
    have HD := Lib.hid hD
    have HS2 := Lib.hid hs2
    have HYL2 := HYL.out
    have hy8 : K ≤ 2097408 := by omega
    have r0 : W.cell? ⟨g, off + K * 13, none⟩ = some (.int .i64 yk) := by have := hrow 0 _ rfl; rwa [Nat.add_zero] at this
    have r1 : W.cell? ⟨g, off + K * 13 + 1, none⟩ = some (.int .i64 yax) := hrow 1 _ rfl
    have r2 : W.cell? ⟨g, off + K * 13 + 2, none⟩ = some (.int .i64 yay) := hrow 2 _ rfl
    have r3 : W.cell? ⟨g, off + K * 13 + 3, none⟩ = some (.int .i64 yak) := hrow 3 _ rfl
    have r4 : W.cell? ⟨g, off + K * 13 + 4, none⟩ = some (.int .i64 ybx) := hrow 4 _ rfl
    have r5 : W.cell? ⟨g, off + K * 13 + 5, none⟩ = some (.int .i64 yby) := hrow 5 _ rfl
    have r6 : W.cell? ⟨g, off + K * 13 + 6, none⟩ = some (.int .i64 ybk) := hrow 6 _ rfl
    have r7 : W.cell? ⟨g, off + K * 13 + 7, none⟩ = some (.int .i64 ycx) := hrow 7 _ rfl
    have r8 : W.cell? ⟨g, off + K * 13 + 8, none⟩ = some (.int .i64 ycy) := hrow 8 _ rfl
    have r9 : W.cell? ⟨g, off + K * 13 + 9, none⟩ = some (.int .i64 yck) := hrow 9 _ rfl
    have r10 : W.cell? ⟨g, off + K * 13 + 10, none⟩ = some (.int .i64 ydx) := hrow 10 _ rfl
    have r11 : W.cell? ⟨g, off + K * 13 + 11, none⟩ = some (.int .i64 ydy) := hrow 11 _ rfl
    have r12 : W.cell? ⟨g, off + K * 13 + 12, none⟩ = some (.int .i64 ydk) := hrow 12 _ rfl
    obtain ⟨c0, c1, c2, c3, c4, c5, c6, c7, c8, c9, c10, c11, c12⟩ := hD.cells
    have qn := KW.cell hC.bn.cell
    have qw := KW.cell hC.bw.cell
    have q0 := KW.cell r0
    have p0 := KW.cell c0
    have q1 := KW.cell r1
    have p1 := KW.cell c1
    have q2 := KW.cell r2
    have p2 := KW.cell c2
    have q3 := KW.cell r3
    have p3 := KW.cell c3
    have q4 := KW.cell r4
    have p4 := KW.cell c4
    have q5 := KW.cell r5
    have p5 := KW.cell c5
    have q6 := KW.cell r6
    have p6 := KW.cell c6
    have q7 := KW.cell r7
    have p7 := KW.cell c7
    have q8 := KW.cell r8
    have p8 := KW.cell c8
    have q9 := KW.cell r9
    have p9 := KW.cell c9
    have q10 := KW.cell r10
    have p10 := KW.cell c10
    have q11 := KW.cell r11
    have p11 := KW.cell c11
    have q12 := KW.cell r12
    have p12 := KW.cell c12
    clear r0 c0 r1 c1 r2 c2 r3 c3 r4 c4 r5 c5 r6 c6 r7 c7 r8 c8 r9 c9 r10 c10 r11 c11 r12 c12
    have hge : decide (Y.length ≤ K) = false := decide_eq_false (by omega)
    have HLT := Lib.hid hlt
    clear hC hD hr hg hKK hy hrow hs2
    by_cases hxy : (⟨yk, ⟨yax, yay, yak⟩, ⟨ybx, yby, ybk⟩, ⟨ycx, ycy, yck⟩, ⟨ydx, ydy, ydk⟩⟩ : Cv) = ⟨xk, ⟨xax, xay, xak⟩, ⟨xbx, xby, xbk⟩, ⟨xcx, xcy, xck⟩, ⟨xdx, xdy, xdk⟩⟩
    · obtain ⟨rfl, ⟨rfl, rfl, rfl⟩, ⟨rfl, rfl, rfl⟩, ⟨rfl, rfl, rfl⟩, ⟨rfl, rfl, rfl⟩⟩ : yk = xk ∧ (yax = xax ∧ yay = xay ∧ yak = xak) ∧ (ybx = xbx ∧ yby = xby ∧ ybk = xbk) ∧ (ycx = xcx ∧ ycy = xcy ∧ yck = xck) ∧ (ydx = xdx ∧ ydy = xdy ∧ ydk = xdk) := by simpa using hxy
      clear HNO hxy
      simp only [cvV, cvCells]
      gi_wp2
      refine wpIn_region_kqr (by kernel_rfl) (by kernel_rfl) (by kernel_rfl) ?_
      repeat (gi_big_quiet_step (fail))
      refine wpQuietIn_nil ?_
      intro W2 hw'
      obtain ⟨⟨_, hk2⟩, rfl⟩ := hw'
      have HK2 : Hid (Kp [] W W2) := hk2
      clear hk2 qn qw q0 p0 q1 p1 q2 p2 q3 p3 q4 p4 q5 p5 q6 p6 q7 p7 q8 p8 q9 p9 q10 p10 q11 p11 q12 p12
      have HC2 := Lib.hid (HC.out.kp0 HK2.out)
      have HD2 : Hid (CvAt W2 Bx ⟨yk, ⟨yax, yay, yak⟩, ⟨ybx, yby, ybk⟩, ⟨ycx, ycy, yck⟩, ⟨ydx, ydy, ydk⟩⟩) := HK2.out.heap HD.out (by simp)
      clear HC HD
      obtain ⟨c0, c1, c2, c3, c4, c5, c6, c7, c8, c9, c10, c11, c12⟩ := HD2.out.cells
      have gn := HC2.out.bn.cell
      have gnf := HC2.out.bn.frozen
      have gs := HC2.out.b0.cell
      have gr := HC2.out.b1.cell
      have gf := HC2.out.b1.frozen
      obtain ⟨f0, f1, f2⟩ := HC2.out.bf.cells
      obtain ⟨f3, f4, f5⟩ := HC2.out.bf.frozen
      obtain ⟨z0, z1, z2⟩ := HC2.out.bl.cells
      obtain ⟨z3, z4, z5⟩ := HC2.out.bl.frozen
      have h9 : w7.heap.size + 1 + 1 < w9.heap.size := HC9.out.lt
      dsimp only at c0 c1 c2 c3 c4 c5 c6 c7 c8 c9 c10 c11 c12 f0 f1 f2 z0 z1 z2
      by_cases hK0 : K = 0
      · have hk1 : ((K : Int) == 0) = true := by simp [hK0]
        have hk2 : decide (0 < K) = false := decide_eq_false (by omega)
        have HS3 : Hid (goesR (decide (K + 1 = 0)) ⟨yax, yay, yak⟩ ⟨ydx, ydy, ydk⟩ (Y.drop (K + 1))) := by
          have h := HS2.out
          show goesR _ _ _ _
          rw [show decide (K + 1 = 0) = false by simp]
          simpa [hK0] using h
        clear hK0 hs1 HS2
        gi_upto_region 19 with fail
        have HC3 := Lib.hid (HC2.out.setF yax yay yak)
        have HK3 : Hid (Kp [w7.heap.size + 1] W2 (((W2.setCell ⟨w7.heap.size + 1, 0, none⟩ (.int .i64 yax)).setCell ⟨w7.heap.size + 1, 1, none⟩ (.int .i64 yay)).setCell ⟨w7.heap.size + 1, 2, none⟩ (.int .i64 yak))) := (((Kp.refl _ _).setCell (.inl (by simp)) _).setCell (.inl (by simp)) _).setCell (.inl (by simp)) _
        have HD3 := Lib.hid (HD2.out.kp HK3.out (by simp; omega))
        have HO3 : Hid (KeepsOthers W (((W2.setCell ⟨w7.heap.size + 1, 0, none⟩ (.int .i64 yax)).setCell ⟨w7.heap.size + 1, 1, none⟩ (.int .i64 yay)).setCell ⟨w7.heap.size + 1, 2, none⟩ (.int .i64 yak))) := ((HK2.out.keeps.trans (KeepsOthers.setCell _ _ _)).trans (KeepsOthers.setCell _ _ _)).trans (KeepsOthers.setCell _ _ _)
        have HA3 : Hid (KA w9.heap.size W (((W2.setCell ⟨w7.heap.size + 1, 0, none⟩ (.int .i64 yax)).setCell ⟨w7.heap.size + 1, 1, none⟩ (.int .i64 yay)).setCell ⟨w7.heap.size + 1, 2, none⟩ (.int .i64 yak))) := (HK2.out.ka _).trans (HK3.out.kaS (fun s hs => by simp at hs; omega))
        clear c0 c1 c2 c3 c4 c5 c6 c7 c8 c9 c10 c11 c12 gn gnf gs gr gf f0 f1 f2 f3 f4 f5 z0 z1 z2 z3 z4 z5 HC2 HD2
        generalize ((W2.setCell ⟨w7.heap.size + 1, 0, none⟩ (.int .i64 yax)).setCell ⟨w7.heap.size + 1, 1, none⟩ (.int .i64 yay)).setCell ⟨w7.heap.size + 1, 2, none⟩ (.int .i64 yak) = W3 at *
        obtain ⟨_, _, _, _, _, _, _, _, _, _, c10, c11, c12⟩ := HD3.out.cells
        obtain ⟨z3, z4, z5⟩ := HC3.out.bl.frozen
        obtain ⟨z0, z1, z2⟩ := HC3.out.bl.cells
        dsimp only at c10 c11 c12 z0 z1 z2
        gi_upto_region 20 with fail
        have HC4 := Lib.hid (HC3.out.setL ydx ydy ydk)
        have HK4 : Hid (Kp [w7.heap.size + 1 + 1] W3 (((W3.setCell ⟨w7.heap.size + 1 + 1, 0, none⟩ (.int .i64 ydx)).setCell ⟨w7.heap.size + 1 + 1, 1, none⟩ (.int .i64 ydy)).setCell ⟨w7.heap.size + 1 + 1, 2, none⟩ (.int .i64 ydk))) := (((Kp.refl _ _).setCell (.inl (by simp)) _).setCell (.inl (by simp)) _).setCell (.inl (by simp)) _
        have HO4 : Hid (KeepsOthers W (((W3.setCell ⟨w7.heap.size + 1 + 1, 0, none⟩ (.int .i64 ydx)).setCell ⟨w7.heap.size + 1 + 1, 1, none⟩ (.int .i64 ydy)).setCell ⟨w7.heap.size + 1 + 1, 2, none⟩ (.int .i64 ydk))) := ((HO3.out.trans (KeepsOthers.setCell _ _ _)).trans (KeepsOthers.setCell _ _ _)).trans (KeepsOthers.setCell _ _ _)
        have HA4 : Hid (KA w9.heap.size W (((W3.setCell ⟨w7.heap.size + 1 + 1, 0, none⟩ (.int .i64 ydx)).setCell ⟨w7.heap.size + 1 + 1, 1, none⟩ (.int .i64 ydy)).setCell ⟨w7.heap.size + 1 + 1, 2, none⟩ (.int .i64 ydk))) := HA3.out.trans (HK4.out.kaS (fun s hs => by simp at hs; omega))
        clear c10 c11 c12 z0 z1 z2 z3 z4 z5 HC3 HK4 HD3 HO3 HA3
        generalize ((W3.setCell ⟨w7.heap.size + 1 + 1, 0, none⟩ (.int .i64 ydx)).setCell ⟨w7.heap.size + 1 + 1, 1, none⟩ (.int .i64 ydy)).setCell ⟨w7.heap.size + 1 + 1, 2, none⟩ (.int .i64 ydk) = W4 at *
        have gn := HC4.out.bn.cell
        have gnf := HC4.out.bn.frozen
        gi_upto_region 21 with fail
        have HC5 := Lib.hid (HC4.out.setN (K + 1) ((K : Int) + 1) (by simp))
        have HO5 : Hid (KeepsOthers W (W4.setCell ⟨w7.heap.size, 0, none⟩ (.int .i64 ((K : Int) + 1)))) := HO4.out.trans (KeepsOthers.setCell _ _ _)
        have HA5 : Hid (KA w9.heap.size W (W4.setCell ⟨w7.heap.size, 0, none⟩ (.int .i64 ((K : Int) + 1)))) := HA4.out.setCell (by show w7.heap.size < _; omega) _
        clear gn gnf HC4 HO4 HA4
        generalize W4.setCell ⟨w7.heap.size, 0, none⟩ (.int .i64 ((K : Int) + 1)) = W5 at *
        have gn : W5.cell? ⟨w7.heap.size, 0, none⟩ = some (.int .i64 ((K : Int) + 1)) := by have := HC5.out.bn.cell; simpa using this
        have gs := HC5.out.b0.cell
        have gr := HC5.out.b1.cell
        have gf := HC5.out.b1.frozen
        by_cases hst : (K : Int) + 1 = stop
        · have hse : ((K : Int) + 1 == stop) = true := by simp [hst]
          clear hst
          gi_wp2
          exact ⟨(HO5.out.trans (KeepsOthers.setCell _ _ _)).from _, rfl, HC5.out.kp.setCell (.inr (by show _ ≤ w.heap.size + 1; omega)) _, .inl (heap_setCell_same _ (w.heap.size + 1) 0 _ _ _ HC5.out.b1)⟩
        · have hse : ((K : Int) + 1 == stop) = false := by simp [hst]
          clear hst
          gi_wp2
          exact ⟨HO5.out.from _, HA5.out, _, _, by rw [HNX.out]; exact HC5.out, by rw [HNX.out]; exact HS3.out⟩
      · have hk1 : ((K : Int) == 0) = false := by simp; omega
        have hk2 : decide (0 < K) = true := decide_eq_true (by omega)
        by_cases hyz : (⟨yax, yay, yak⟩ : Pn) = ⟨zx, zy, zk⟩
        · obtain ⟨rfl, rfl, rfl⟩ : yax = zx ∧ yay = zy ∧ yak = zk := by simpa using hyz
          have HS3 : Hid (goesR (decide (K + 1 = 0)) ⟨fx, fy, fk⟩ ⟨ydx, ydy, ydk⟩ (Y.drop (K + 1))) := by
            have h := HS2.out
            show goesR _ _ _ _
            rw [show decide (K + 1 = 0) = false by simp]
            simpa [hK0] using h
          clear hK0 hs1 HS2 hyz
          gi_upto_region 19 with fail
          have HC3 := HC2
          have HD3 := HD2
          have HO3 := Lib.hid HK2.out.keeps
          have HA3 := Lib.hid (HK2.out.ka w9.heap.size)
          clear c0 c1 c2 c3 c4 c5 c6 c7 c8 c9 c10 c11 c12 gn gnf gs gr gf f0 f1 f2 f3 f4 f5 z0 z1 z2 z3 z4 z5 HC2 HD2
          obtain ⟨W3, hW3⟩ : ∃ W3, W2 = W3 := ⟨_, rfl⟩
          rw [hW3] at HC3 HD3 HO3 HA3 ⊢
          clear hW3
          obtain ⟨_, _, _, _, _, _, _, _, _, _, c10, c11, c12⟩ := HD3.out.cells
          obtain ⟨z3, z4, z5⟩ := HC3.out.bl.frozen
          obtain ⟨z0, z1, z2⟩ := HC3.out.bl.cells
          dsimp only at c10 c11 c12 z0 z1 z2
          gi_upto_region 20 with fail
          have HC4 := Lib.hid (HC3.out.setL ydx ydy ydk)
          have HK4 : Hid (Kp [w7.heap.size + 1 + 1] W3 (((W3.setCell ⟨w7.heap.size + 1 + 1, 0, none⟩ (.int .i64 ydx)).setCell ⟨w7.heap.size + 1 + 1, 1, none⟩ (.int .i64 ydy)).setCell ⟨w7.heap.size + 1 + 1, 2, none⟩ (.int .i64 ydk))) := (((Kp.refl _ _).setCell (.inl (by simp)) _).setCell (.inl (by simp)) _).setCell (.inl (by simp)) _
          have HO4 : Hid (KeepsOthers W (((W3.setCell ⟨w7.heap.size + 1 + 1, 0, none⟩ (.int .i64 ydx)).setCell ⟨w7.heap.size + 1 + 1, 1, none⟩ (.int .i64 ydy)).setCell ⟨w7.heap.size + 1 + 1, 2, none⟩ (.int .i64 ydk))) := ((HO3.out.trans (KeepsOthers.setCell _ _ _)).trans (KeepsOthers.setCell _ _ _)).trans (KeepsOthers.setCell _ _ _)
          have HA4 : Hid (KA w9.heap.size W (((W3.setCell ⟨w7.heap.size + 1 + 1, 0, none⟩ (.int .i64 ydx)).setCell ⟨w7.heap.size + 1 + 1, 1, none⟩ (.int .i64 ydy)).setCell ⟨w7.heap.size + 1 + 1, 2, none⟩ (.int .i64 ydk))) := HA3.out.trans (HK4.out.kaS (fun s hs => by simp at hs; omega))
          clear c10 c11 c12 z0 z1 z2 z3 z4 z5 HC3 HK4 HD3 HO3 HA3
          generalize ((W3.setCell ⟨w7.heap.size + 1 + 1, 0, none⟩ (.int .i64 ydx)).setCell ⟨w7.heap.size + 1 + 1, 1, none⟩ (.int .i64 ydy)).setCell ⟨w7.heap.size + 1 + 1, 2, none⟩ (.int .i64 ydk) = W4 at *
          have gn := HC4.out.bn.cell
          have gnf := HC4.out.bn.frozen
          gi_upto_region 21 with fail
          have HC5 := Lib.hid (HC4.out.setN (K + 1) ((K : Int) + 1) (by simp))
          have HO5 : Hid (KeepsOthers W (W4.setCell ⟨w7.heap.size, 0, none⟩ (.int .i64 ((K : Int) + 1)))) := HO4.out.trans (KeepsOthers.setCell _ _ _)
          have HA5 : Hid (KA w9.heap.size W (W4.setCell ⟨w7.heap.size, 0, none⟩ (.int .i64 ((K : Int) + 1)))) := HA4.out.setCell (by show w7.heap.size < _; omega) _
          clear gn gnf HC4 HO4 HA4
          generalize W4.setCell ⟨w7.heap.size, 0, none⟩ (.int .i64 ((K : Int) + 1)) = W5 at *
          have gn : W5.cell? ⟨w7.heap.size, 0, none⟩ = some (.int .i64 ((K : Int) + 1)) := by have := HC5.out.bn.cell; simpa using this
          have gs := HC5.out.b0.cell
          have gr := HC5.out.b1.cell
          have gf := HC5.out.b1.frozen
          by_cases hst : (K : Int) + 1 = stop
          · have hse : ((K : Int) + 1 == stop) = true := by simp [hst]
            clear hst
            gi_wp2
            exact ⟨(HO5.out.trans (KeepsOthers.setCell _ _ _)).from _, rfl, HC5.out.kp.setCell (.inr (by show _ ≤ w.heap.size + 1; omega)) _, .inl (heap_setCell_same _ (w.heap.size + 1) 0 _ _ _ HC5.out.b1)⟩
          · have hse : ((K : Int) + 1 == stop) = false := by simp [hst]
            clear hst
            gi_wp2
            exact ⟨HO5.out.from _, HA5.out, _, _, by rw [HNX.out]; exact HC5.out, by rw [HNX.out]; exact HS3.out⟩
        · obtain ⟨rfl, rfl, rfl⟩ : zx = fx ∧ zy = fy ∧ zk = fk := by
            have := (hs1.resolve_left (by simp [hK0])).resolve_left hyz
            simpa using this
          have HS3 : Hid (goesR (decide (K + 1 = 0)) ⟨yax, yay, yak⟩ ⟨ydx, ydy, ydk⟩ (Y.drop (K + 1))) := by
            have h := HS2.out
            show goesR _ _ _ _
            rw [show decide (K + 1 = 0) = false by simp]
            simpa [hK0, hyz] using h
          have hne3 := pn_ne hyz
          clear hK0 hs1 HS2 hyz
          rcases hne3 with h | ⟨h1, h⟩ | ⟨h1, h2, h⟩
          all_goals dsimp only at *
          · gi_upto_region 19 with fail
            have HC3 := Lib.hid (HC2.out.setF yax yay yak)
            have HK3 : Hid (Kp [w7.heap.size + 1] W2 (((W2.setCell ⟨w7.heap.size + 1, 0, none⟩ (.int .i64 yax)).setCell ⟨w7.heap.size + 1, 1, none⟩ (.int .i64 yay)).setCell ⟨w7.heap.size + 1, 2, none⟩ (.int .i64 yak))) := (((Kp.refl _ _).setCell (.inl (by simp)) _).setCell (.inl (by simp)) _).setCell (.inl (by simp)) _
            have HD3 := Lib.hid (HD2.out.kp HK3.out (by simp; omega))
            have HO3 : Hid (KeepsOthers W (((W2.setCell ⟨w7.heap.size + 1, 0, none⟩ (.int .i64 yax)).setCell ⟨w7.heap.size + 1, 1, none⟩ (.int .i64 yay)).setCell ⟨w7.heap.size + 1, 2, none⟩ (.int .i64 yak))) := ((HK2.out.keeps.trans (KeepsOthers.setCell _ _ _)).trans (KeepsOthers.setCell _ _ _)).trans (KeepsOthers.setCell _ _ _)
            have HA3 : Hid (KA w9.heap.size W (((W2.setCell ⟨w7.heap.size + 1, 0, none⟩ (.int .i64 yax)).setCell ⟨w7.heap.size + 1, 1, none⟩ (.int .i64 yay)).setCell ⟨w7.heap.size + 1, 2, none⟩ (.int .i64 yak))) := (HK2.out.ka _).trans (HK3.out.kaS (fun s hs => by simp at hs; omega))
            clear c0 c1 c2 c3 c4 c5 c6 c7 c8 c9 c10 c11 c12 gn gnf gs gr gf f0 f1 f2 f3 f4 f5 z0 z1 z2 z3 z4 z5 HC2 HD2
            generalize ((W2.setCell ⟨w7.heap.size + 1, 0, none⟩ (.int .i64 yax)).setCell ⟨w7.heap.size + 1, 1, none⟩ (.int .i64 yay)).setCell ⟨w7.heap.size + 1, 2, none⟩ (.int .i64 yak) = W3 at *
            obtain ⟨_, _, _, _, _, _, _, _, _, _, c10, c11, c12⟩ := HD3.out.cells
            obtain ⟨z3, z4, z5⟩ := HC3.out.bl.frozen
            obtain ⟨z0, z1, z2⟩ := HC3.out.bl.cells
            dsimp only at c10 c11 c12 z0 z1 z2
            gi_upto_region 20 with fail
            have HC4 := Lib.hid (HC3.out.setL ydx ydy ydk)
            have HK4 : Hid (Kp [w7.heap.size + 1 + 1] W3 (((W3.setCell ⟨w7.heap.size + 1 + 1, 0, none⟩ (.int .i64 ydx)).setCell ⟨w7.heap.size + 1 + 1, 1, none⟩ (.int .i64 ydy)).setCell ⟨w7.heap.size + 1 + 1, 2, none⟩ (.int .i64 ydk))) := (((Kp.refl _ _).setCell (.inl (by simp)) _).setCell (.inl (by simp)) _).setCell (.inl (by simp)) _
            have HO4 : Hid (KeepsOthers W (((W3.setCell ⟨w7.heap.size + 1 + 1, 0, none⟩ (.int .i64 ydx)).setCell ⟨w7.heap.size + 1 + 1, 1, none⟩ (.int .i64 ydy)).setCell ⟨w7.heap.size + 1 + 1, 2, none⟩ (.int .i64 ydk))) := ((HO3.out.trans (KeepsOthers.setCell _ _ _)).trans (KeepsOthers.setCell _ _ _)).trans (KeepsOthers.setCell _ _ _)
            have HA4 : Hid (KA w9.heap.size W (((W3.setCell ⟨w7.heap.size + 1 + 1, 0, none⟩ (.int .i64 ydx)).setCell ⟨w7.heap.size + 1 + 1, 1, none⟩ (.int .i64 ydy)).setCell ⟨w7.heap.size + 1 + 1, 2, none⟩ (.int .i64 ydk))) := HA3.out.trans (HK4.out.kaS (fun s hs => by simp at hs; omega))
            clear c10 c11 c12 z0 z1 z2 z3 z4 z5 HC3 HK4 HD3 HO3 HA3
            generalize ((W3.setCell ⟨w7.heap.size + 1 + 1, 0, none⟩ (.int .i64 ydx)).setCell ⟨w7.heap.size + 1 + 1, 1, none⟩ (.int .i64 ydy)).setCell ⟨w7.heap.size + 1 + 1, 2, none⟩ (.int .i64 ydk) = W4 at *
            have gn := HC4.out.bn.cell
            have gnf := HC4.out.bn.frozen
            gi_upto_region 21 with fail
            have HC5 := Lib.hid (HC4.out.setN (K + 1) ((K : Int) + 1) (by simp))
            have HO5 : Hid (KeepsOthers W (W4.setCell ⟨w7.heap.size, 0, none⟩ (.int .i64 ((K : Int) + 1)))) := HO4.out.trans (KeepsOthers.setCell _ _ _)
            have HA5 : Hid (KA w9.heap.size W (W4.setCell ⟨w7.heap.size, 0, none⟩ (.int .i64 ((K : Int) + 1)))) := HA4.out.setCell (by show w7.heap.size < _; omega) _
            clear gn gnf HC4 HO4 HA4
            generalize W4.setCell ⟨w7.heap.size, 0, none⟩ (.int .i64 ((K : Int) + 1)) = W5 at *
            have gn : W5.cell? ⟨w7.heap.size, 0, none⟩ = some (.int .i64 ((K : Int) + 1)) := by have := HC5.out.bn.cell; simpa using this
            have gs := HC5.out.b0.cell
            have gr := HC5.out.b1.cell
            have gf := HC5.out.b1.frozen
            by_cases hst : (K : Int) + 1 = stop
            · have hse : ((K : Int) + 1 == stop) = true := by simp [hst]
              clear hst
              gi_wp2
              exact ⟨(HO5.out.trans (KeepsOthers.setCell _ _ _)).from _, rfl, HC5.out.kp.setCell (.inr (by show _ ≤ w.heap.size + 1; omega)) _, .inl (heap_setCell_same _ (w.heap.size + 1) 0 _ _ _ HC5.out.b1)⟩
            · have hse : ((K : Int) + 1 == stop) = false := by simp [hst]
              clear hst
              gi_wp2
              exact ⟨HO5.out.from _, HA5.out, _, _, by rw [HNX.out]; exact HC5.out, by rw [HNX.out]; exact HS3.out⟩
          · subst h1
            gi_upto_region 19 with fail
            have HC3 := Lib.hid (HC2.out.setF yax yay yak)
            have HK3 : Hid (Kp [w7.heap.size + 1] W2 (((W2.setCell ⟨w7.heap.size + 1, 0, none⟩ (.int .i64 yax)).setCell ⟨w7.heap.size + 1, 1, none⟩ (.int .i64 yay)).setCell ⟨w7.heap.size + 1, 2, none⟩ (.int .i64 yak))) := (((Kp.refl _ _).setCell (.inl (by simp)) _).setCell (.inl (by simp)) _).setCell (.inl (by simp)) _
            have HD3 := Lib.hid (HD2.out.kp HK3.out (by simp; omega))
            have HO3 : Hid (KeepsOthers W (((W2.setCell ⟨w7.heap.size + 1, 0, none⟩ (.int .i64 yax)).setCell ⟨w7.heap.size + 1, 1, none⟩ (.int .i64 yay)).setCell ⟨w7.heap.size + 1, 2, none⟩ (.int .i64 yak))) := ((HK2.out.keeps.trans (KeepsOthers.setCell _ _ _)).trans (KeepsOthers.setCell _ _ _)).trans (KeepsOthers.setCell _ _ _)
            have HA3 : Hid (KA w9.heap.size W (((W2.setCell ⟨w7.heap.size + 1, 0, none⟩ (.int .i64 yax)).setCell ⟨w7.heap.size + 1, 1, none⟩ (.int .i64 yay)).setCell ⟨w7.heap.size + 1, 2, none⟩ (.int .i64 yak))) := (HK2.out.ka _).trans (HK3.out.kaS (fun s hs => by simp at hs; omega))
            clear c0 c1 c2 c3 c4 c5 c6 c7 c8 c9 c10 c11 c12 gn gnf gs gr gf f0 f1 f2 f3 f4 f5 z0 z1 z2 z3 z4 z5 HC2 HD2
            generalize ((W2.setCell ⟨w7.heap.size + 1, 0, none⟩ (.int .i64 yax)).setCell ⟨w7.heap.size + 1, 1, none⟩ (.int .i64 yay)).setCell ⟨w7.heap.size + 1, 2, none⟩ (.int .i64 yak) = W3 at *
            obtain ⟨_, _, _, _, _, _, _, _, _, _, c10, c11, c12⟩ := HD3.out.cells
            obtain ⟨z3, z4, z5⟩ := HC3.out.bl.frozen
            obtain ⟨z0, z1, z2⟩ := HC3.out.bl.cells
            dsimp only at c10 c11 c12 z0 z1 z2
            gi_upto_region 20 with fail
            have HC4 := Lib.hid (HC3.out.setL ydx ydy ydk)
            have HK4 : Hid (Kp [w7.heap.size + 1 + 1] W3 (((W3.setCell ⟨w7.heap.size + 1 + 1, 0, none⟩ (.int .i64 ydx)).setCell ⟨w7.heap.size + 1 + 1, 1, none⟩ (.int .i64 ydy)).setCell ⟨w7.heap.size + 1 + 1, 2, none⟩ (.int .i64 ydk))) := (((Kp.refl _ _).setCell (.inl (by simp)) _).setCell (.inl (by simp)) _).setCell (.inl (by simp)) _
            have HO4 : Hid (KeepsOthers W (((W3.setCell ⟨w7.heap.size + 1 + 1, 0, none⟩ (.int .i64 ydx)).setCell ⟨w7.heap.size + 1 + 1, 1, none⟩ (.int .i64 ydy)).setCell ⟨w7.heap.size + 1 + 1, 2, none⟩ (.int .i64 ydk))) := ((HO3.out.trans (KeepsOthers.setCell _ _ _)).trans (KeepsOthers.setCell _ _ _)).trans (KeepsOthers.setCell _ _ _)
            have HA4 : Hid (KA w9.heap.size W (((W3.setCell ⟨w7.heap.size + 1 + 1, 0, none⟩ (.int .i64 ydx)).setCell ⟨w7.heap.size + 1 + 1, 1, none⟩ (.int .i64 ydy)).setCell ⟨w7.heap.size + 1 + 1, 2, none⟩ (.int .i64 ydk))) := HA3.out.trans (HK4.out.kaS (fun s hs => by simp at hs; omega))
            clear c10 c11 c12 z0 z1 z2 z3 z4 z5 HC3 HK4 HD3 HO3 HA3
            generalize ((W3.setCell ⟨w7.heap.size + 1 + 1, 0, none⟩ (.int .i64 ydx)).setCell ⟨w7.heap.size + 1 + 1, 1, none⟩ (.int .i64 ydy)).setCell ⟨w7.heap.size + 1 + 1, 2, none⟩ (.int .i64 ydk) = W4 at *
            have gn := HC4.out.bn.cell
            have gnf := HC4.out.bn.frozen
            gi_upto_region 21 with fail
            have HC5 := Lib.hid (HC4.out.setN (K + 1) ((K : Int) + 1) (by simp))
            have HO5 : Hid (KeepsOthers W (W4.setCell ⟨w7.heap.size, 0, none⟩ (.int .i64 ((K : Int) + 1)))) := HO4.out.trans (KeepsOthers.setCell _ _ _)
            have HA5 : Hid (KA w9.heap.size W (W4.setCell ⟨w7.heap.size, 0, none⟩ (.int .i64 ((K : Int) + 1)))) := HA4.out.setCell (by show w7.heap.size < _; omega) _
            clear gn gnf HC4 HO4 HA4
            generalize W4.setCell ⟨w7.heap.size, 0, none⟩ (.int .i64 ((K : Int) + 1)) = W5 at *
            have gn : W5.cell? ⟨w7.heap.size, 0, none⟩ = some (.int .i64 ((K : Int) + 1)) := by have := HC5.out.bn.cell; simpa using this
            have gs := HC5.out.b0.cell
            have gr := HC5.out.b1.cell
            have gf := HC5.out.b1.frozen
            by_cases hst : (K : Int) + 1 = stop
            · have hse : ((K : Int) + 1 == stop) = true := by simp [hst]
              clear hst
              gi_wp2
              exact ⟨(HO5.out.trans (KeepsOthers.setCell _ _ _)).from _, rfl, HC5.out.kp.setCell (.inr (by show _ ≤ w.heap.size + 1; omega)) _, .inl (heap_setCell_same _ (w.heap.size + 1) 0 _ _ _ HC5.out.b1)⟩
            · have hse : ((K : Int) + 1 == stop) = false := by simp [hst]
              clear hst
              gi_wp2
              exact ⟨HO5.out.from _, HA5.out, _, _, by rw [HNX.out]; exact HC5.out, by rw [HNX.out]; exact HS3.out⟩
          · subst h1; subst h2
            gi_upto_region 19 with fail
            have HC3 := Lib.hid (HC2.out.setF yax yay yak)
            have HK3 : Hid (Kp [w7.heap.size + 1] W2 (((W2.setCell ⟨w7.heap.size + 1, 0, none⟩ (.int .i64 yax)).setCell ⟨w7.heap.size + 1, 1, none⟩ (.int .i64 yay)).setCell ⟨w7.heap.size + 1, 2, none⟩ (.int .i64 yak))) := (((Kp.refl _ _).setCell (.inl (by simp)) _).setCell (.inl (by simp)) _).setCell (.inl (by simp)) _
            have HD3 := Lib.hid (HD2.out.kp HK3.out (by simp; omega))
            have HO3 : Hid (KeepsOthers W (((W2.setCell ⟨w7.heap.size + 1, 0, none⟩ (.int .i64 yax)).setCell ⟨w7.heap.size + 1, 1, none⟩ (.int .i64 yay)).setCell ⟨w7.heap.size + 1, 2, none⟩ (.int .i64 yak))) := ((HK2.out.keeps.trans (KeepsOthers.setCell _ _ _)).trans (KeepsOthers.setCell _ _ _)).trans (KeepsOthers.setCell _ _ _)
            have HA3 : Hid (KA w9.heap.size W (((W2.setCell ⟨w7.heap.size + 1, 0, none⟩ (.int .i64 yax)).setCell ⟨w7.heap.size + 1, 1, none⟩ (.int .i64 yay)).setCell ⟨w7.heap.size + 1, 2, none⟩ (.int .i64 yak))) := (HK2.out.ka _).trans (HK3.out.kaS (fun s hs => by simp at hs; omega))
            clear c0 c1 c2 c3 c4 c5 c6 c7 c8 c9 c10 c11 c12 gn gnf gs gr gf f0 f1 f2 f3 f4 f5 z0 z1 z2 z3 z4 z5 HC2 HD2
            generalize ((W2.setCell ⟨w7.heap.size + 1, 0, none⟩ (.int .i64 yax)).setCell ⟨w7.heap.size + 1, 1, none⟩ (.int .i64 yay)).setCell ⟨w7.heap.size + 1, 2, none⟩ (.int .i64 yak) = W3 at *
            obtain ⟨_, _, _, _, _, _, _, _, _, _, c10, c11, c12⟩ := HD3.out.cells
            obtain ⟨z3, z4, z5⟩ := HC3.out.bl.frozen
            obtain ⟨z0, z1, z2⟩ := HC3.out.bl.cells
            dsimp only at c10 c11 c12 z0 z1 z2
            gi_upto_region 20 with fail
            have HC4 := Lib.hid (HC3.out.setL ydx ydy ydk)
            have HK4 : Hid (Kp [w7.heap.size + 1 + 1] W3 (((W3.setCell ⟨w7.heap.size + 1 + 1, 0, none⟩ (.int .i64 ydx)).setCell ⟨w7.heap.size + 1 + 1, 1, none⟩ (.int .i64 ydy)).setCell ⟨w7.heap.size + 1 + 1, 2, none⟩ (.int .i64 ydk))) := (((Kp.refl _ _).setCell (.inl (by simp)) _).setCell (.inl (by simp)) _).setCell (.inl (by simp)) _
            have HO4 : Hid (KeepsOthers W (((W3.setCell ⟨w7.heap.size + 1 + 1, 0, none⟩ (.int .i64 ydx)).setCell ⟨w7.heap.size + 1 + 1, 1, none⟩ (.int .i64 ydy)).setCell ⟨w7.heap.size + 1 + 1, 2, none⟩ (.int .i64 ydk))) := ((HO3.out.trans (KeepsOthers.setCell _ _ _)).trans (KeepsOthers.setCell _ _ _)).trans (KeepsOthers.setCell _ _ _)
            have HA4 : Hid (KA w9.heap.size W (((W3.setCell ⟨w7.heap.size + 1 + 1, 0, none⟩ (.int .i64 ydx)).setCell ⟨w7.heap.size + 1 + 1, 1, none⟩ (.int .i64 ydy)).setCell ⟨w7.heap.size + 1 + 1, 2, none⟩ (.int .i64 ydk))) := HA3.out.trans (HK4.out.kaS (fun s hs => by simp at hs; omega))
            clear c10 c11 c12 z0 z1 z2 z3 z4 z5 HC3 HK4 HD3 HO3 HA3
            generalize ((W3.setCell ⟨w7.heap.size + 1 + 1, 0, none⟩ (.int .i64 ydx)).setCell ⟨w7.heap.size + 1 + 1, 1, none⟩ (.int .i64 ydy)).setCell ⟨w7.heap.size + 1 + 1, 2, none⟩ (.int .i64 ydk) = W4 at *
            have gn := HC4.out.bn.cell
            have gnf := HC4.out.bn.frozen
            gi_upto_region 21 with fail
            have HC5 := Lib.hid (HC4.out.setN (K + 1) ((K : Int) + 1) (by simp))
            have HO5 : Hid (KeepsOthers W (W4.setCell ⟨w7.heap.size, 0, none⟩ (.int .i64 ((K : Int) + 1)))) := HO4.out.trans (KeepsOthers.setCell _ _ _)
            have HA5 : Hid (KA w9.heap.size W (W4.setCell ⟨w7.heap.size, 0, none⟩ (.int .i64 ((K : Int) + 1)))) := HA4.out.setCell (by show w7.heap.size < _; omega) _
            clear gn gnf HC4 HO4 HA4
            generalize W4.setCell ⟨w7.heap.size, 0, none⟩ (.int .i64 ((K : Int) + 1)) = W5 at *
            have gn : W5.cell? ⟨w7.heap.size, 0, none⟩ = some (.int .i64 ((K : Int) + 1)) := by have := HC5.out.bn.cell; simpa using this
            have gs := HC5.out.b0.cell
            have gr := HC5.out.b1.cell
            have gf := HC5.out.b1.frozen
            by_cases hst : (K : Int) + 1 = stop
            · have hse : ((K : Int) + 1 == stop) = true := by simp [hst]
              clear hst
              gi_wp2
              exact ⟨(HO5.out.trans (KeepsOthers.setCell _ _ _)).from _, rfl, HC5.out.kp.setCell (.inr (by show _ ≤ w.heap.size + 1; omega)) _, .inl (heap_setCell_same _ (w.heap.size + 1) 0 _ _ _ HC5.out.b1)⟩
            · have hse : ((K : Int) + 1 == stop) = false := by simp [hst]
              clear hst
              gi_wp2
              exact ⟨HO5.out.from _, HA5.out, _, _, by rw [HNX.out]; exact HC5.out, by rw [HNX.out]; exact HS3.out⟩

    · have HNP := HNO.out (fun e => hxy e.symm)
      have HNP2 := Lib.hid HNP
      have hne := cv_ne13 hxy
      clear hxy HNO HNP hs1
      rcases hne with h | ⟨rfl, h | ⟨rfl, h | ⟨rfl, h | ⟨rfl, h | ⟨rfl, h | ⟨rfl, h | ⟨rfl, h | ⟨rfl, h | ⟨rfl, h | ⟨rfl, h | ⟨rfl, h | ⟨rfl, h⟩⟩⟩⟩⟩⟩⟩⟩⟩⟩⟩⟩
      all_goals
        simp only [cvV, cvCells]
        gi_wp2
        refine wpIn_region_kqr (by kernel_rfl) (by kernel_rfl) (by kernel_rfl) ?_
        repeat (gi_big_quiet_step (fail))
        refine wpQuietIn_nil ?_
        intro W2 hw'
        obtain ⟨⟨_, hk2⟩, rfl⟩ := hw'
        have HK2 : Hid (Kp [] W W2) := hk2
        clear hk2 qn qw q0 p0 q1 p1 q2 p2 q3 p3 q4 p4 q5 p5 q6 p6 q7 p7 q8 p8 q9 p9 q10 p10 q11 p11 q12 p12
        have gr := (HC.out.kp0 HK2.out).b1.cell
        have gf := (HC.out.kp0 HK2.out).b1.frozen
        gi_wp2
        exact ⟨(((HK2.out.keeps).trans (KeepsOthers.setCell _ _ _)).from _), rfl, ((HC.out.kp.trans HK2.out).setCell (.inr (by show _ ≤ w.heap.size + 1; omega)) _), .inr HNP2.out⟩
  case done =>
    clear HV HRC HRU HST HK1 HB1 HB2 HW2 HS2 HK3 HB3 HS3 HZ3 HS4 HS6 HB6 HZ6 hk7 g1 g2 hcv7 hov HKB HGO
    rintro D ys W hD hS ⟨⟨fx, fy, fk⟩, ⟨zx, zy, zk⟩, hC, hg⟩ hK
    subst hS
    obtain ⟨L, hL⟩ : ∃ L, ys.length = L := ⟨_, rfl⟩
    have hg2 : decide (L = 0) = true ∨ (⟨zx, zy, zk⟩ : Pn) = ⟨fx, fy, fk⟩ := by
      rw [List.drop_length, hL] at hg
      exact hg
    rw [hL] at hC HYL ⊢
    clear hg hL
    have HC := Lib.hid hC
    have gn := hC.bn.cell
    have gw := hC.bw.cell
    have gr := hC.b1.cell
    have gf := hC.b1.frozen
    obtain ⟨f0, f1, f2⟩ := hC.bf.cells
    obtain ⟨z0, z1, z2⟩ := hC.bl.cells
    dsimp only at f0 f1 f2 z0 z1 z2
    have hK' := (KeepsOthers.setCell W ⟨w.heap.size + 1, 0, none⟩ (.bool true)).same D _ hK rfl
    have HD9 : Hid (w.heap.size ≤ D) := Nat.le_trans hz9 hD
    clear hC hK
    by_cases h0 : L = 0
    · have hk1 : ((L : Int) == 0) = true := by simp [h0]
      clear hg2 h0
      gi_wp2
      refine ⟨by simp, .inl ⟨_, _, rfl, run_takeDeferred hK', ?_⟩⟩
      have hc5 := cell_kept (World.cell?_setCell_same' W ⟨w.heap.size + 1, 0, none⟩ (.bool true) (by rw [gr]; rfl)) (grownBy_putObj' _ D (.deferred none)) (fun r e => by cases e; exact ⟨_, hK', rfl⟩)
      refine ⟨.bool true, ?_, rfl, HC.out.kp.ended (by omega) HD9.out⟩
      simp [results, Try.f9, go_sem, hc5]
    · have hk1 : ((L : Int) == 0) = false := by simp; omega
      obtain ⟨rfl, rfl, rfl⟩ : zx = fx ∧ zy = fy ∧ zk = fk := by
        have := hg2.resolve_left (by simp [h0])
        simpa using this
      clear hg2 h0
      gi_wp2
      refine ⟨by simp, .inl ⟨_, _, rfl, run_takeDeferred hK', ?_⟩⟩
      have hc5 := cell_kept (World.cell?_setCell_same' W ⟨w.heap.size + 1, 0, none⟩ (.bool true) (by rw [gr]; rfl)) (grownBy_putObj' _ D (.deferred none)) (fun r e => by cases e; exact ⟨_, hK', rfl⟩)
      refine ⟨.bool true, ?_, rfl, HC.out.kp.ended (by omega) HD9.out⟩
      simp [results, Try.f9, go_sem, hc5]
  case stop =>
    clear HV HRC HRU HST HK1 HB1 HB2 HW2 HS2 HK3 HB3 HS3 HZ3 HS4 HS6 HB6 HZ6 hk7 g1 g2 hcv7 hov HKB HGO
    rintro D c pre W hD hpre ⟨rfl, h2, h3⟩ hK
    have hb : Boxed W (w.heap.size + 1) 4 (.bool true) := h3.resolve_right (fun h => h hpre)
    have H2 := Lib.hid h2
    clear h2 h3
    gi_wp2
    refine ⟨by simp, .inl ⟨_, _, rfl, run_takeDeferred hK, ?_⟩⟩
    have hc5 := cell_kept (show W.cell? ⟨w.heap.size + 1, 0, none⟩ = some (.bool true) from hb.cell) (grownBy_putObj' _ D (.deferred none)) (fun r e => by cases e; exact ⟨_, hK, rfl⟩)
    refine ⟨.bool true, ?_, rfl, Kp.grown H2.out (grownBy_putObj' _ D (.deferred none)) (fun k hk => .inr (by cases hk; omega))⟩
    simp [results, Try.f9, go_sem, hc5]
set_option maxRecDepth 100000 in
set_option maxHeartbeats 40000000 in
theorem curves_no (v : Value) (o : List (List Pn)) (stop : Int) (w : World) (hv : IsOut w v o) (hb : boundO o) (hlg : largeB o = false) (hE : checkO o ≠ 0) :
    Calls Try.prog 9 #[v, .int .i64 stop] w fun e w' => e = .returned (.bool true) ∧ Kp [] w w' := by
  have HLA := Lib.hid (fun W (hW : Kp [] w W) => large_calls v o W (hv.kp0 hW) hb)
  obtain ⟨pa, ca, rfl⟩ := hv.form
  have HV : Hid (∀ W, Kp [] w W → IsOut W (.slice pa o.length ca) o) := fun W hW => hv.kp0 hW
  obtain ⟨hfew, hsm, hti, hcn⟩ := small_facts hlg
  rw [hlg] at HLA
  have HRC := Lib.hid (fun W hW => rcheck_calls _ o W (HV.out W hW) hti (by omega))
  have HCO := Lib.hid (fun W hW => copied_calls _ o W (HV.out W hW) hfew)
  obtain ⟨E, hEE⟩ : ∃ E, checkO o = E := ⟨_, rfl⟩
  have HST := Lib.hid (fun Bc v2 W (hB : W.cell? ⟨Bc, 0, none⟩ = some v2) (hv2 : IsOut W v2 o) => curves_stops_no 4 (by decide) Bc v2 o E hEE (by rw [← hEE]; exact hE) hsm (by omega) W hB hv2)
  rw [hEE] at HRC hE
  have hE1 : (E == 0) = false := by simpa using hE
  generalize o.length = N at *
  clear hv hb hlg hfew hsm hti hcn hEE hE
  have hef := eql_seq (.func 86) #[]
  refine (callsIn_wide (n := 5)).1 ?_
  refine callsIn_of_wp_marks Try.func9 rfl trivial ?_ rfl
  simp only [Try.ntmps9, List.size_toArray, List.length_cons, List.length_nil, Nat.reduceAdd, Nat.reduceSub, Array.replicate_succ, Array.replicate_zero, List.push_toArray, List.append_toArray, List.nil_append, List.cons_append]
  have HK1 : Hid (Kp [] w ((w.alloc (.cells #[.int .i64 stop] 3)).alloc (.cells #[.bool false] 4))) := ((Kp.refl _ _).alloc _).alloc _
  have HB1 : Hid (Boxed ((w.alloc (.cells #[.int .i64 stop] 3)).alloc (.cells #[.bool false] 4)) w.heap.size 3 (.int .i64 stop)) := ((Kp.refl [] _).alloc _).heap (heap_alloc_new w _) (by simp)
  have HB2 : Hid (Boxed ((w.alloc (.cells #[.int .i64 stop] 3)).alloc (.cells #[.bool false] 4)) (w.heap.size + 1) 4 (.bool false)) := by
    have := heap_alloc_new (w.alloc (.cells #[.int .i64 stop] 3)) (.cells #[.bool false] 4)
    rw [World.size_alloc] at this; exact this
  gi_wp2_with (refine ⟨trivial, ?_⟩; gi_at_call 25; refine (callsIn_wide.2 (HLA.out _ HK1.out)).mono ?_; rintro e w1 ⟨rfl, rfl⟩)
  generalize (w.alloc (.cells #[.int .i64 stop] 3)).alloc (.cells #[.bool false] 4) = w1 at *
  clear HLA
  gi_wp2_with (refine ⟨trivial, ?_⟩; gi_at_call 29; refine (callsIn_wide.2 (HCO.out _ HK1.out)).mono ?_; rintro e w2 ⟨v2, rfl, hw2, hk2⟩; obtain ⟨p2, c2, rfl⟩ := hw2.out.form)
  have HW2 := Lib.hid hw2.out
  have HS2 := Lib.hid hk2
  clear hw2 hk2 HCO
  gi_wp2_with (refine ⟨trivial, ?_⟩; gi_at_call 37; refine (callsIn_wide.2 (ocurves_calls _ _ _ _)).mono ?_; rintro e w3 ⟨rfl, rfl⟩)
  have HK3 : Hid (Kp [] w (w2.alloc (.cells #[.slice p2 o.length c2] 42))) := (HK1.out.trans HS2.out).alloc _
  have HB3 : Hid ((w2.alloc (.cells #[.slice p2 o.length c2] 42)).heap[w2.heap.size]? = some (.cells #[.slice p2 o.length c2] 42)) := heap_alloc_new w2 _
  have HS3 : Hid (Kp [] w2 (w2.alloc (.cells #[.slice p2 o.length c2] 42))) := (Kp.refl _ _).alloc _
  have HZ3 : Hid (w2.heap.size + 1 = (w2.alloc (.cells #[.slice p2 o.length c2] 42)).heap.size) := by show _ = _; simp
  generalize (w2.alloc (.cells #[.slice p2 o.length c2] 42)) = w3 at *
  gi_wp2_with (refine ⟨trivial, ?_⟩; gi_at_call 26; refine (callsIn_wide.2 (lives10_calls _)).mono ?_; rintro e w4 ⟨rfl, hk4⟩)
  have HS4 := Lib.hid hk4
  clear hk4 hef
  have HB4 : Hid (Boxed (w4.alloc (.cells #[.slice none 0 0] 58)) w4.heap.size 58 (.slice none 0 0)) := heap_alloc_new w4 _
  have HS5 : Hid (Kp [] w4 (w4.alloc (.cells #[.slice none 0 0] 58))) := (Kp.refl _ _).alloc _
  have HZ5 : Hid ((w4.alloc (.cells #[.slice none 0 0] 58)).heap.size = w4.heap.size + 1) := by show _ = _; simp
  gi_wp2_with (refine ⟨trivial, ?_⟩; gi_at_call 27; refine (callsIn_wide.2 (HRC.out _ (HK3.out.trans (HS4.out.trans HS5.out)))).mono ?_; rintro e w6 ⟨rfl, hk6⟩)
  have HS6 : Hid (Kp [] w4 w6) := HS5.out.trans hk6
  have HB6 : Hid (Boxed w6 w4.heap.size 58 (.slice none 0 0)) := hk6.heap HB4.out (by simp)
  have HZ6 : Hid (w4.heap.size + 1 ≤ w6.heap.size) := by show _ ≤ _; have := hk6.size; have := HZ5.out; omega
  clear hk6 HB4 HS5 HZ5
  have HC8 := Lib.hid (CsN.made (w := w) (Wb := w4.heap.size) (HK3.out.trans (HS4.out.trans HS6.out)) ((HS2.out.trans (HS3.out.trans (HS4.out.trans HS6.out))).heap HB1.out (by simp)) ((HS2.out.trans (HS3.out.trans (HS4.out.trans HS6.out))).heap HB2.out (by simp)) HB6.out (stop := stop) (by have a1 := lt_of_block HB2.out; have a2 := HS2.out.size; have a3 := HZ3.out; have a4 := HS4.out.size; omega))
  have HKB : Hid (Kp [] w3 (((w6.alloc (.cells #[.int .i64 0] 3)).alloc (.cells #[.int .i64 0, .int .i64 0, .int .i64 0] 61)).alloc (.cells #[.int .i64 0, .int .i64 0, .int .i64 0] 61))) := (((HS4.out.trans HS6.out).alloc _).alloc _).alloc _
  generalize ((w6.alloc (.cells #[.int .i64 0] 3)).alloc (.cells #[.int .i64 0, .int .i64 0, .int .i64 0] 61)).alloc (.cells #[.int .i64 0, .int .i64 0, .int .i64 0] 61) = w9 at *
  have hz9 : w.heap.size ≤ w9.heap.size := HC8.out.kp.size
  refine wpIn_rangeFunc_ownH rfl (by decide) (gf := 86) (lb := #[.pointer (some ⟨w2.heap.size, 0, none⟩)]) rfl trivial (enters_of Try.func86 (by kernel_rfl) rfl)
    (HST.out w2.heap.size _ w9 (by rw [cell_of_row w9 w2.heap.size 0 _ _ (0, 0) (HKB.out.heap HB3.out (by simp))]; rfl) (HW2.out.kp0 (HS3.out.trans HKB.out))) KA.trans (fun W l o o' _ h hc _ => KA.putObj W l o o' h hc) (Below.refl _ _) (fun _ => rfl)
    (CsI w [] stop (.slice none 0 0) w4.heap.size w6.heap.size (w6.heap.size + 1) (w6.heap.size + 1 + 1)) (fun _ _ _ => False) (CsI.own hz9 _ _ _ _ _ _ _) (fun c => fun _ _ _ _ h => h.elim) ⟨pn0, pn0, HC8.out, .inl rfl⟩
    (fun x a' W => ∃ Bx, CvAt W Bx x ∧ a' = { tmps := ((.slice pa N ca : Value) :: .int .i64 stop :: undef :: .pointer (some ⟨w.heap.size, 0, none⟩) :: .pointer (some ⟨w.heap.size + 1, 0, none⟩) :: .func (.func 86) #[] #[.pointer (some ⟨w2.heap.size, 0, none⟩)] :: .pointer (some ⟨w4.heap.size, 0, none⟩) :: .pointer (some ⟨w6.heap.size, 0, none⟩) :: .pointer (some ⟨w6.heap.size + 1, 0, none⟩) :: .pointer (some ⟨w6.heap.size + 1 + 1, 0, none⟩) :: .pointer (some ⟨Bx, 0, none⟩) :: .slice pa N ca :: .bool false :: undef :: .slice pa N ca :: .slice p2 o.length c2 :: .func (.func 86) #[] #[.pointer (some ⟨w2.heap.size, 0, none⟩)] :: .bool true :: .bool false :: .bool false :: .func (.func 86) #[] #[.pointer (some ⟨w2.heap.size, 0, none⟩)] :: .bool false :: .bool false :: .slice pa N ca :: .int .i64 E :: .bool false :: undef :: undef :: .agg #[.int .i64 0, .int .i64 0, .int .i64 0] :: .agg #[.int .i64 0, .int .i64 0, .int .i64 0] :: .func (.func 86) #[] #[.pointer (some ⟨w2.heap.size, 0, none⟩)] :: cvV x :: undef :: undef :: undef :: undef :: undef :: undef :: undef :: undef :: undef :: undef :: undef :: undef :: undef :: undef :: undef :: undef :: undef :: undef :: undef :: undef :: undef :: undef :: undef :: undef :: undef :: undef :: undef :: undef :: undef :: undef :: undef :: undef :: undef :: undef :: undef :: undef :: undef :: undef :: undef :: undef :: undef :: undef :: undef :: undef :: undef :: undef :: undef :: undef :: undef :: []).toArray, defers := [] })
    (fun x a' s W W' row hs hg hr => by obtain ⟨Bx, h2, h3⟩ := hs; exact ⟨Bx, heapKept hg hr h2 rfl, h3⟩) ?assign ?body ?done ?stop
  case assign =>
    intro l pre x W K hi hK
    have HI := Lib.hid hi
    clear hi
    simp only [cvV, cvCells]
    gi_wp2
    exact hK _ _ ((KeepsOthers.alloc _ _).from _) (((Kp.refl _ _).alloc _).ka _) (by obtain ⟨f, l, h1, h2⟩ := HI.out; exact ⟨f, l, h1.kp0 ((Kp.refl _ _).alloc _), h2⟩) ⟨W.heap.size, heap_alloc_new W _, rfl⟩
  case body =>
    intro l pre x a' W _ _ _ _ hlt
    omega
  case done =>
    clear HV HRC HST HK1 HB1 HB2 HW2 HS2 HK3 HB3 HS3 HZ3 HS4 HS6 HB6 HZ6 HKB
    rintro D ys W hD hS ⟨⟨fx, fy, fk⟩, ⟨zx, zy, zk⟩, hC, hg⟩ hK
    subst hS
    have hC2 : CsSt w W [] stop (.slice none 0 0) w4.heap.size w6.heap.size (w6.heap.size + 1) (w6.heap.size + 1 + 1) 0 ⟨fx, fy, fk⟩ ⟨zx, zy, zk⟩ := hC
    clear hC
    have HC := Lib.hid hC2
    have gn : W.cell? ⟨w6.heap.size, 0, none⟩ = some (.int .i64 0) := by have := hC2.bn.cell; simpa using this
    have gw := hC2.bw.cell
    have gr := hC2.b1.cell
    have gf := hC2.b1.frozen
    have hK' := (KeepsOthers.setCell W ⟨w.heap.size + 1, 0, none⟩ (.bool true)).same D _ hK rfl
    have HD9 : Hid (w.heap.size ≤ D) := Nat.le_trans hz9 hD
    clear hC2 hK hg
    gi_wp2
    refine ⟨by simp, .inl ⟨_, _, rfl, run_takeDeferred hK', ?_⟩⟩
    have hc5 := cell_kept (World.cell?_setCell_same' W ⟨w.heap.size + 1, 0, none⟩ (.bool true) (by rw [gr]; rfl)) (grownBy_putObj' _ D (.deferred none)) (fun r e => by cases e; exact ⟨_, hK', rfl⟩)
    refine ⟨.bool true, ?_, rfl, HC.out.kp.ended (by omega) HD9.out⟩
    simp [results, Try.f9, go_sem, hc5]
  case stop =>
    rintro D c pre W _ _ h _
    exact h.elim
set_option maxRecDepth 100000 in
set_option maxHeartbeats 40000000 in
theorem law_OutlineCurves (v : Value) (o : List (List Pn)) (stop : Int) (w : World) (hv : IsOut w v o) (hb : boundO o) : Calls Try.prog 9 #[v, .int .i64 stop] w fun e w' => e = .returned (.bool true) ∧ Kp [] w w' := by
  cases hlg : largeB o
  · by_cases hE : checkO o = 0
    · exact curves_yes v o stop w hv hb hlg hE
    · exact curves_no v o stop w hv hb hlg hE
  · have HLA := Lib.hid (fun W (hW : Kp [] w W) => large_calls v o W (hv.kp0 hW) hb)
    rw [hlg] at HLA
    obtain ⟨pa, ca, rfl⟩ := hv.form
    generalize o.length = N at *
    clear hv hb hlg
    have HK1 : Hid (Kp [] w ((w.alloc (.cells #[.int .i64 stop] 3)).alloc (.cells #[.bool false] 4))) := ((Kp.refl _ _).alloc _).alloc _
    have HB2 : Hid (Boxed ((w.alloc (.cells #[.int .i64 stop] 3)).alloc (.cells #[.bool false] 4)) (w.heap.size + 1) 4 (.bool false)) := by
      have := heap_alloc_new (w.alloc (.cells #[.int .i64 stop] 3)) (.cells #[.bool false] 4)
      rw [World.size_alloc] at this; exact this
    go_enter Try.func9, Try.ntmps9
    go_wp2_with fail
    refine (HLA.out _ HK1.out).mono ?_; rintro e w1 ⟨rfl, rfl⟩
    generalize (w.alloc (.cells #[.int .i64 stop] 3)).alloc (.cells #[.bool false] 4) = w1 at *
    go_wp2_with fail
    refine (lives10_calls _).mono ?_; rintro e w2 ⟨rfl, hk2⟩
    have HK2 : Hid (Kp [] w w2) := HK1.out.trans hk2
    have hb2 : Boxed w2 (w.heap.size + 1) 4 (.bool false) := hk2.heap HB2.out (by simp)
    have gr := hb2.cell
    have gf := hb2.frozen
    have HB3 := Lib.hid hb2
    clear hk2 hb2 HB2
    go_wp2_with fail
    refine bodyPost_ret (v := .bool true) (by simp [results, Try.results9, go_sem, gr]) rfl ⟨rfl, HK2.out.setCell (.inr (by show _ ≤ w.heap.size + 1; omega)) _⟩
end Go.Proofs.Ytodjohoonbkklaa

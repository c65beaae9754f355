/- curve: place, at, At. (Written by wip/curve/gencug.py.) -/
import Derived.Test.YtpbmefojhgcniaaCuE
import Derived.Test.YtpbmefojhgcniaaCuR
import Derived.Test.YtpbmefojhgcniaaQuiet
namespace Go.Proofs.Ytpbmefojhgcniaa
open Go.RowKit
set_option linter.unusedVariables false
set_option linter.unusedSimpArgs false
theorem selX_calls (x y : Int) (w : World) : Calls Try.prog 101 #[.agg #[.int .i64 x, .int .i64 y]] w fun e w' => e = .returned (.int .i64 x) ∧ Kp [] w w' := by
  go_enter Try.func101, Try.ntmps101
  go_wp2
  go_ret
  exact ⟨rfl, by (repeat (first | exact Kp.refl _ _ | assumption | refine Kp.drew ?_ | refine Kp.drewN ?_ _ | refine Kp.alloc ?_ _ | (refine Kp.setCell ?_ (by first | (left; simp; done) | (right; simp; try omega)) _) | (refine Kp.trans' ?_ (by assumption) (by simp; try omega))))⟩
theorem selY_calls (x y : Int) (w : World) : Calls Try.prog 102 #[.agg #[.int .i64 x, .int .i64 y]] w fun e w' => e = .returned (.int .i64 y) ∧ Kp [] w w' := by
  go_enter Try.func102, Try.ntmps102
  go_wp2
  go_ret
  exact ⟨rfl, by (repeat (first | exact Kp.refl _ _ | assumption | refine Kp.drew ?_ | refine Kp.drewN ?_ _ | refine Kp.alloc ?_ _ | (refine Kp.setCell ?_ (by first | (left; simp; done) | (right; simp; try omega)) _) | (refine Kp.trans' ?_ (by assumption) (by simp; try omega))))⟩
theorem wsum_bounds (ws xs : List Int) (hu : upTo 1073741824 ws) (hb : ∀ t, -1048576 ≤ xs.getD t 0 ∧ xs.getD t 0 ≤ 1048576) (j : Nat) : -((j : Int) * 1125899906842624) ≤ wsum ws xs j ∧ wsum ws xs j ≤ (j : Int) * 1125899906842624 := by
  induction j with
  | zero => simp [wsum]
  | succ j ih =>
    obtain ⟨x0, x1⟩ := upTo_getD hu (by decide) j
    have := mulB (xs.getD j 0) x0 x1 (hb j).1 (hb j).2
    unfold wsum
    generalize ws.getD j 0 * xs.getD j 0 = t at *
    push_cast
    omega
set_option maxRecDepth 100000 in
set_option maxHeartbeats 4000000 in
theorem number_calls (kf : Nat) (hent : ∀ (args : Array Value) (w : World), (callFunc kf args).run Try.prog w = .ok (.enter kf args) w) (sel : Int × Int → Int)
    (hof : ∀ (x y : Int) (w : World), Calls Try.prog kf #[.agg #[.int .i64 x, .int .i64 y]] w fun e w' => e = .returned (.int .i64 (sel (x, y))) ∧ Kp [] w w')
    (v vw : Value) (l : List (Int × Int)) (ws : List Int) (sum : Int) (B0 B1 B2 : Nat) (w : World) (h0 : w.cell? ⟨B0, 0, none⟩ = some v) (h1 : w.cell? ⟨B1, 0, none⟩ = some vw) (h2 : w.cell? ⟨B2, 0, none⟩ = some (.int .i64 sum))
    (hl : IsPairs w v l) (hw : IsInts .i64 w vw ws) (hlen : ws.length = l.length) (hl1 : 1 ≤ l.length) (hl4 : l.length ≤ 4) (hu : upTo 1073741824 ws) (hb : ∀ t, -1048576 ≤ (l.map sel).getD t 0 ∧ (l.map sel).getD t 0 ≤ 1048576) (hs1 : 1 ≤ sum) (hs2 : sum ≤ 1073741824) :
    Calls Try.prog 100 #[.func (.func kf) #[] #[], .pointer (some ⟨B0, 0, none⟩), .pointer (some ⟨B1, 0, none⟩), .pointer (some ⟨B2, 0, none⟩)] w fun e w' => e = .returned (.int .i64 (nearQ (wsum ws (l.map sel) l.length) sum)) ∧ Kp [] w w' := by
  have HOF : Hid _ := hof
  have HU : Hid _ := hu
  have HB : Hid _ := hb
  have HE : Hid (nearQ (wsum ws (l.map sel) l.length) sum = (2 * wsum ws (l.map sel) l.length + sum) / (2 * sum)) := nearQ_pos _ _ (by omega)
  have HSB : Hid (∀ j : Nat, j ≤ 4 → -4503599627370496 ≤ wsum ws (l.map sel) j ∧ wsum ws (l.map sel) j ≤ 4503599627370496) := fun j hj => by
    have := wsum_bounds ws (l.map sel) hu hb j
    have hj' : (j : Int) ≤ 4 := by omega
    omega
  rcases hl.cases with ⟨ad, rfl, rfl⟩ | ⟨g, off, c, rfl, p1, p2, p3⟩
  · simp at hl1
  rcases hw with ⟨⟨ad, rfl⟩, rfl⟩ | ⟨g2, off2, c2, rfl, q1, q2, q3⟩
  · simp at hlen; omega
  have HC : Hid _ := p3
  have HD : Hid _ := q3
  have HLEN : Hid (ws.length = l.length) := hlen
  rw [hlen] at h1
  clear hof hu hb p3 q3 hl hlen p1 p2 q1
  go_enter Try.func100, Try.ntmps100
  go_wp2_with fail
  go_loopw [6, 7, 8, 11] (fun x _ _ h wr => ∃ j : Nat, j ≤ l.length ∧ h = .int .i64 j ∧ x = .int .i64 (wsum ws (l.map sel) j) ∧ Kp [] w wr) (fun _ _ _ h _ => l.length - (intOf h).toNat)
  case atStart => exact ⟨0, by omega, rfl, rfl, Kp.refl _ _⟩
  case round =>
    obtain ⟨j, hj, rfl, rfl, hk⟩ := hrel
    have k1 := hk.cell h1 (by simp)
    have k2 := hk.cell h2 (by simp)
    obtain ⟨s1, s2⟩ := HSB.out j (by omega)
    by_cases hlt : j < l.length
    · have hjI : (j : Int) < l.length := by omega
      have hcx := hk.cell (HC.out j hlt).1 (by simp)
      have hcy := hk.cell (HC.out j hlt).2 (by simp)
      have hcw := hk.cell (HD.out j (by rw [HLEN.out]; exact hlt)) (by simp)
      obtain ⟨x0, x1⟩ := upTo_getD HU.out (by decide) j
      have HX : Hid ((l.map sel).getD j 0 = sel ((l.getD j (0, 0)).1, (l.getD j (0, 0)).2)) := by
        rw [Hid, List.getD_eq_getElem?_getD, List.getElem?_map, List.getD_eq_getElem?_getD, List.getElem?_eq_getElem hlt]; rfl
      have HN : Hid (wsum ws (l.map sel) (j + 1) = wsum ws (l.map sel) j + ws.getD j 0 * sel ((l.getD j (0, 0)).1, (l.getD j (0, 0)).2)) := by rw [Hid, ← HX.out]; rfl
      have hcl := Lib.hid (HOF.out (l.getD j (0, 0)).1 (l.getD j (0, 0)).2)
      obtain ⟨z0, z1⟩ := HB.out j
      rw [HX.out] at z0 z1
      have m := mulB _ x0 x1 z0 z1
      have r1 := wrapI (ws.getD j 0 * sel ((l.getD j (0, 0)).1, (l.getD j (0, 0)).2)) (by omega) (by omega)
      have r2 := wrapI (wsum ws (l.map sel) j + ws.getD j 0 * sel ((l.getD j (0, 0)).1, (l.getD j (0, 0)).2)) (by omega) (by omega)
      generalize sel ((l.getD j (0, 0)).1, (l.getD j (0, 0)).2) = z at *
      generalize (l.getD j (0, 0)).1 = px at *
      generalize (l.getD j (0, 0)).2 = py at *
      generalize ws.getD j 0 = wj at *
      generalize wsum ws (l.map sel) j = s at *
      clear x0 x1 z0 z1
      have hka : Kp [] wr (wr.alloc (.cells #[.int .i64 px, .int .i64 py] 27)) := (Kp.refl _ _).alloc _
      have c1 := hka.cell k1 (by simp)
      have c2 := hka.cell hcw (by simp)
      obtain ⟨c3, c4⟩ := box2 (Kp.refl [] (wr.alloc (.cells #[.int .i64 px, .int .i64 py] 27)))
      go_wp2_with fail
      generalize wr.alloc (.cells #[.int .i64 px, .int .i64 py] 27) = WB at *
      have d1 := KW.cell c1
      have d2 := KW.cell c2
      have d3 := KW.cell c3
      have d4 := KW.cell c4
      clear c1 c2 c3 c4 hcx hcy hcw k1 k2
      refine wp_region_kq (by kernel_rfl) (by kernel_rfl) ?_
      repeat (go_big_quiet_step (exact Calls.kq (hcl.out _)))
      refine wpQuiet_nil ?_
      intro w3 hw'
      obtain ⟨⟨_, hkw3⟩, rfl⟩ := hw'
      have hk3 := (hk.trans hka).trans hkw3
      clear d1 d2 d3 d4 hcl hka hkw3
      go_wp2_with fail
      go_roundw
      case rel => first | exact ⟨j + 1, by omega, int_eq' (by omega), by rw [HN.out], by (repeat (first | exact Kp.refl _ _ | assumption | refine Kp.drew ?_ | refine Kp.drewN ?_ _ | refine Kp.alloc ?_ _ | (refine Kp.setCell ?_ (by first | (left; simp; done) | (right; simp; try omega)) _) | (refine Kp.trans' ?_ (by assumption) (by simp; try omega))))⟩ | ((repeat apply Exists.intro); exact ⟨⟨j + 1, by omega, int_eq' (by omega), by rw [HN.out], by (repeat (first | exact Kp.refl _ _ | assumption | refine Kp.drew ?_ | refine Kp.drewN ?_ _ | refine Kp.alloc ?_ _ | (refine Kp.setCell ?_ (by first | (left; simp; done) | (right; simp; try omega)) _) | (refine Kp.trans' ?_ (by assumption) (by simp; try omega))))⟩, rfl⟩)
      case measure => simp [intOf]; omega
    · obtain rfl : j = l.length := by omega
      go_wp2_with fail
      refine (near_calls _ _ hs1 (by omega) (by omega) (by omega) _).mono ?_; rintro e w1 ⟨rfl, hd⟩
      have hk1 := Kp.of_below hd
      clear hd
      go_wp2_with fail
      go_ret
      exact ⟨by rw [HE.out]; first | done | rfl | simp, by (repeat (first | exact Kp.refl _ _ | assumption | refine Kp.drew ?_ | refine Kp.drewN ?_ _ | refine Kp.alloc ?_ _ | (refine Kp.setCell ?_ (by first | (left; simp; done) | (right; simp; try omega)) _) | (refine Kp.trans' ?_ (by assumption) (by simp; try omega))))⟩
set_option maxRecDepth 100000 in
set_option maxHeartbeats 4000000 in
theorem place_calls (v vw : Value) (l : List (Int × Int)) (ws : List Int) (sum : Int) (w : World)
    (hl : IsPairs w v l) (hw : IsInts .i64 w vw ws) (hlen : ws.length = l.length) (hl1 : 1 ≤ l.length) (hl4 : l.length ≤ 4) (hu : upTo 1073741824 ws) (hb : ∀ t, t < l.length → dotQ (l.getD t (0, 0)) = true) (hs1 : 1 ≤ sum) (hs2 : sum ≤ 1073741824) :
    Calls Try.prog 91 #[v, vw, .int .i64 sum] w fun e w' => e = .returned (dotV (nearQ (wsum ws (l.map (·.1)) l.length) sum, nearQ (wsum ws (l.map (·.2)) l.length) sum)) ∧ Kp [] w w' := by
  have hbx : ∀ t, -1048576 ≤ (l.map (·.1)).getD t 0 ∧ (l.map (·.1)).getD t 0 ≤ 1048576 := fun t => by
    by_cases ht : t < l.length
    · have := dotQ_iff.1 (hb t ht)
      rw [List.getD_eq_getElem?_getD, List.getElem?_eq_getElem ht] at this
      rw [List.getD_eq_getElem?_getD, List.getElem?_map, List.getElem?_eq_getElem ht]; exact this.1
    · rw [List.getD_eq_getElem?_getD, List.getElem?_eq_none (by simp; omega)]; decide
  have hby : ∀ t, -1048576 ≤ (l.map (·.2)).getD t 0 ∧ (l.map (·.2)).getD t 0 ≤ 1048576 := fun t => by
    by_cases ht : t < l.length
    · have := dotQ_iff.1 (hb t ht)
      rw [List.getD_eq_getElem?_getD, List.getElem?_eq_getElem ht] at this
      rw [List.getD_eq_getElem?_getD, List.getElem?_map, List.getElem?_eq_getElem ht]; exact this.2
    · rw [List.getD_eq_getElem?_getD, List.getElem?_eq_none (by simp; omega)]; decide
  have hkB : Kp [] w (((w.alloc (.cells #[v] 61)).alloc (.cells #[vw] 81)).alloc (.cells #[.int .i64 sum] 3)) := by (repeat (first | exact Kp.refl _ _ | assumption | refine Kp.drew ?_ | refine Kp.drewN ?_ _ | refine Kp.alloc ?_ _ | (refine Kp.setCell ?_ (by first | (left; simp; done) | (right; simp; try omega)) _) | (refine Kp.trans' ?_ (by assumption) (by simp; try omega))))
  have hnum := fun (kf : Nat) (hent : ∀ (args : Array Value) (w : World), (callFunc kf args).run Try.prog w = .ok (.enter kf args) w) (sel : Int × Int → Int) hof hb (wq : World) (hk : Kp [] (((w.alloc (.cells #[v] 61)).alloc (.cells #[vw] 81)).alloc (.cells #[.int .i64 sum] 3)) wq) =>
    number_calls kf hent sel hof v vw l ws sum w.heap.size (w.heap.size + 1) (w.heap.size + 1 + 1) wq (hk.cell (by go_simp) (by simp)) (hk.cell (by go_simp) (by simp)) (hk.cell (by go_simp) (by simp)) (hl.kp (hkB.trans hk) (by simp)) (hw.kp (hkB.trans hk) (by simp)) hlen hl1 hl4 hu hb hs1 hs2
  have HX := Lib.hid (hnum 101 Try.call101 (·.1) selX_calls hbx)
  have HY := Lib.hid (hnum 102 Try.call102 (·.2) selY_calls hby)
  obtain ⟨pa, ca, rfl⟩ := hl.form
  obtain ⟨pw, cw, rfl⟩ : ∃ p c, vw = .slice p ws.length c := by
    rcases hw with ⟨⟨ad, rfl⟩, rfl⟩ | ⟨g, off, c, rfl, _⟩
    · exact ⟨_, 0, rfl⟩
    · exact ⟨_, c, rfl⟩
  have hK3 : Kp [] (((w.alloc (.cells #[.slice pa l.length ca] 61)).alloc (.cells #[.slice pw ws.length cw] 81)).alloc (.cells #[.int .i64 sum] 3)) ((((w.alloc (.cells #[.slice pa l.length ca] 61)).alloc (.cells #[.slice pw ws.length cw] 81)).alloc (.cells #[.int .i64 sum] 3)).alloc (.cells #[.int .i64 0, .int .i64 0] 27)) := (Kp.refl _ _).alloc _
  have hblk := heap_alloc_new (((w.alloc (.cells #[.slice pa l.length ca] 61)).alloc (.cells #[.slice pw ws.length cw] 81)).alloc (.cells #[.int .i64 sum] 3)) (.cells #[.int .i64 0, .int .i64 0] 27)
  rw [show (((w.alloc (.cells #[.slice pa l.length ca] 61)).alloc (.cells #[.slice pw ws.length cw] 81)).alloc (.cells #[.int .i64 sum] 3)).heap.size = w.heap.size + 1 + 1 + 1 by simp] at hblk
  have hK0 := hkB.trans hK3
  clear hnum hl hw hb hbx hby hu hkB hlen
  go_enter Try.func91, Try.ntmps91
  go_wp2_with fail
  generalize (((w.alloc (.cells #[.slice pa l.length ca] 61)).alloc (.cells #[.slice pw ws.length cw] 81)).alloc (.cells #[.int .i64 sum] 3)).alloc (.cells #[.int .i64 0, .int .i64 0] 27) = WB at *
  generalize ((w.alloc (.cells #[.slice pa l.length ca] 61)).alloc (.cells #[.slice pw ws.length cw] 81)).alloc (.cells #[.int .i64 sum] 3) = WA at *
  refine (HX.out _ hK3).mono ?_; rintro e w1 ⟨rfl, hk1⟩
  go_wp2_with fail
  refine (HY.out _ (hK3.trans hk1)).mono ?_; rintro e w2 ⟨rfl, hk2⟩
  have hkw2 := hk1.trans hk2
  obtain ⟨rr2, rr3, rf2, rf3⟩ := blk2 (hkw2.heap hblk (by simp))
  have hk3 := hK0.trans hkw2
  clear hK0 hkw2 hblk HX HY hK3 hk1 hk2
  go_wp2_with fail
  refine bodyPost_ret (v := dotV (nearQ (wsum ws (l.map (·.1)) l.length) sum, nearQ (wsum ws (l.map (·.2)) l.length) sum)) (by simp [results, Try.results91, go_sem, rr2, rr3, dotV]) rfl ⟨rfl, by (repeat (first | exact Kp.refl _ _ | assumption | refine Kp.drew ?_ | refine Kp.drewN ?_ _ | refine Kp.alloc ?_ _ | (refine Kp.setCell ?_ (by first | (left; simp; done) | (right; simp; try omega)) _) | (refine Kp.trans' ?_ (by assumption) (by simp; try omega))))⟩
end Go.Proofs.Ytpbmefojhgcniaa

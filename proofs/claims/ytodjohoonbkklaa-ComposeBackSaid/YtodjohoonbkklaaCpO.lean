/- compose: Decode of the reference; Same. (Turned from XCpK by wip/compose/gencpo.py.) -/
import Derived.Test.YtodjohoonbkklaaCpK
import Derived.Test.YtodjohoonbkklaaCpN
import Derived.BigQuiet
import Derived.Deep.QuietTactic
namespace Go.Proofs.Ytodjohoonbkklaa
open Go.RowKit
set_option linter.unusedVariables false
set_option linter.unusedSimpArgs false
def RcSt (w wr : World) (r : Nat) (v : Value) (zs : List Int) (s : Rs) (acc : List Pt) (l : Value) : Prop :=
  RrS wr r v zs s.1 s.2 ∧ wr.ownsRow (r + 1) 36 11 l acc.length (ptsCells acc) ∧ Kp [] w wr ∧ w.heap.size ≤ r
theorem decGo_r (zs : List Int) (n : Nat) (s : Rs) (acc : List Pt) : decGo zs (n + 1) s acc = if (rpartM zs s).2.2.1 = false then ([], 110) else if (rpartM zs s).2.1 = false then (acc ++ [(rpartM zs s).1], 0) else decGo zs n (rpartM zs s).2.2.2 (acc ++ [(rpartM zs s).1]) := by
  show (if (partM zs s).2.2.1 = false then ([], 110) else if (partM zs s).2.1 = false then (acc ++ [(partM zs s).1], 0) else decGo zs n (partM zs s).2.2.2 (acc ++ [(partM zs s).1])) = _
  unfold rpartM
  by_cases h : okM (matM (headM zs s).f) = true
  · rw [if_pos h]
  · rw [if_neg h]
    have : (partM zs s).2.2.1 = false := by rw [(partM_flags zs s).2]; simp at h; rw [h]; rfl
    rw [if_pos this]; rfl
set_option maxRecDepth 100000 in
set_option maxHeartbeats 4000000 in
theorem rdecode_calls {w : World} {v : Value} {zs : List Int} (hz : IsInts .u8 w v zs) (hb : ∀ c ∈ zs, 0 ≤ c ∧ c ≤ 255) (hv : ∀ b, blockOf v = some b → b < w.heap.size) :
    Calls Try.prog 16 #[v] w fun e w' => ∃ v', e = .returned (.tuple #[v', .int .i64 (decM zs).2]) ∧ IsPts w' v' (decM zs).1 ∧ Kp [] w w' := by
  obtain ⟨i0, hi, hz0, hz1, hz2⟩ := info_parts infoPt
  obtain ⟨pa, ca, hva⟩ : ∃ p c, v = .slice p zs.length c := by
    rcases hz with ⟨⟨ad, rfl⟩, rfl⟩ | ⟨g, off, c, rfl, _⟩
    · exact ⟨_, 0, rfl⟩
    · exact ⟨_, c, rfl⟩
  have HZ := Lib.hid hz
  have HB := Lib.hid hb
  have HV := Lib.hid hv
  subst hva
  clear hz hb hv
  go_enter Try.func16, Try.ntmps16
  go_wp2_with fail
  have hk1 : Kp [] w (w.alloc (.cells #[(.slice pa zs.length ca), .int .i64 0, .bool false] 79)) := by (repeat (first | exact Kp.refl _ _ | assumption | refine Kp.drew ?_ | refine Kp.drewN ?_ _ | refine Kp.alloc ?_ _ | (refine Kp.setCell ?_ (by first | (left; simp; done) | (right; simp; try omega)) _) | (refine Kp.trans' ?_ (by assumption) (by simp; try omega))))
  have hsz : w.heap.size < (w.alloc (.cells #[(.slice pa zs.length ca), .int .i64 0, .bool false] 79)).heap.size := by simp
  have H1 : Hid (RrS (w.alloc (.cells #[(.slice pa zs.length ca), .int .i64 0, .bool false] 79)) w.heap.size (.slice pa zs.length ca) zs 0 false) := ⟨heap_alloc_new w _, HZ.out.kp hk1 (by simp), HB.out, fun e => by have := HV.out _ e; omega, by omega⟩
  generalize w.alloc (.cells #[(.slice pa zs.length ca), .int .i64 0, .bool false] 79) = w1 at *
  generalize hr : w.heap.size = r at *
  have hrw : w.heap.size ≤ r := by omega
  clear hr
  refine (ri16S (s := (0, false)) H1.out).mono ?_; rintro e w2 ⟨rfl, h2, hk2⟩
  have H2 := Lib.hid h2
  have hkw2 : Kp [] w w2 := hk1.trans' hk2 (fun t ht => by simp at ht; subst ht; exact .inr hrw)
  clear h2
  go_wp2_with fail
  refine (rtakeS 8 (by decide) (by decide) 8 rfl H2.out).mono ?_; rintro e w3 ⟨⟨v3, rfl⟩, h3, hk3⟩
  have H3 := Lib.hid h3
  have hkw3 : Kp [] w w3 := hkw2.trans' hk3 (fun t ht => by simp at ht; subst ht; exact .inr hrw)
  clear h3 hkw2 hk1 hk2 hk3
  have HD : Hid (decM zs = if (stp zs 8 (stp zs 2 (0, false))).2 = true ∨ 0 ≤ s16 (val zs 2 (0, false)) then ([], 110) else decGo zs 64 (stp zs 8 (stp zs 2 (0, false))) []) := rfl
  generalize s16 (val zs 2 (0, false)) = k0 at *
  generalize stp zs 8 (stp zs 2 (0, false)) = s8' at *
  obtain ⟨kk, bb⟩ := s8'
  dsimp only at H3 HD
  obtain ⟨r0, r1, r2, _, _⟩ := H3.out.1.facts
  cases bb
  · by_cases hk : 0 ≤ k0
    · have HE : Hid (decM zs = ([], 110)) := by show _ = _; rw [HD.out, if_pos (.inr hk)]
      clear HD
      go_wp2_with fail
      go_ret2
      rw [HE.out]
      exact ⟨_, rfl, IsPts.nil _ _, hkw3⟩
    · have HE : Hid (decM zs = decGo zs (64 - ([] : List Pt).length) (kk, false) []) := by show _ = _; rw [HD.out, if_neg (by simp; omega)]; rfl
      clear HD
      have HS : Hid (RcSt w w3 r (.slice pa zs.length ca) zs (kk, false) [] (.slice none 0 0)) := ⟨H3.out, World.ownsRow_nil _ _ _ _, hkw3, hrw⟩
      have hk' : decide (0 ≤ k0) = false := decide_eq_false hk
      clear H1 H2 H3 hkw3
      go_wp2_with fail
      go_loopw [6] (fun l wr => ∃ (s : Rs) (acc : List Pt), acc.length < 64 ∧ Hid (RcSt w wr r (.slice pa zs.length ca) zs s acc l ∧ decM zs = decGo zs (64 - acc.length) s acc)) (fun l _ => 64 - vlen l)
      case atStart => exact ⟨(kk, false), [], by simp, HS.out, HE.out⟩
      case round =>
        obtain ⟨s, acc, hl, HJ⟩ := hrel
        clear HS HE hk' hk
        obtain ⟨pl, cl, hle⟩ := slice_own HJ.out.1.2.1
        subst hle
        have hsz2 : r < wr.heap.size := HJ.out.1.1.lt
        go_wp2_with fail
        refine (rpart_calls HJ.out.1.1 (fun b hb => by have := HV.out b hb; have := HJ.out.1.2.2.1.size; omega)).mono ?_; rintro e w5 ⟨rfl, h5, hk5⟩
        have H5 := Lib.hid h5
        have HG : Hid (decM zs = if (rpartM zs s).2.2.1 = false then ([], 110) else if (rpartM zs s).2.1 = false then (acc ++ [(rpartM zs s).1], 0) else decGo zs (64 - (acc.length + 1)) (rpartM zs s).2.2.2 (acc ++ [(rpartM zs s).1])) := by
          show _ = _; rw [HJ.out.2, show 64 - acc.length = (64 - (acc.length + 1)) + 1 by omega]; exact decGo_r zs _ s acc
        clear h5
        generalize rpartM zs s = PM at *
        obtain ⟨p, more, ok, s5⟩ := PM
        dsimp only at H5 HG ⊢
        have hkw5 : Kp [] w w5 := HJ.out.1.2.2.1.trans' hk5 (fun t ht => by simp at ht; subst ht; exact .inr hrw)
        have HO5 : Hid (w5.ownsRow (r + 1) 36 11 (.slice pl acc.length cl) acc.length (ptsCells acc)) := hk5.row HJ.out.1.2.1 (fun t ht e => by simp at ht; subst ht; have := own_ge HJ.out.1.2.1 _ e; omega)
        have hsz5 : r < w5.heap.size := H5.out.lt
        clear HJ hk5 hsz2
        rw [show ptV p = .agg #[.int .i64 p.g, .int .i64 p.xx, .int .i64 p.xy, .int .i64 p.yx, .int .i64 p.yy, .bool p.m, .int .i64 p.dx, .int .i64 p.dy, .bool p.t, .int .i64 p.pa, .int .i64 p.ch] from rfl]
        cases ok
        · have HE : Hid (decM zs = ([], 110)) := by show _ = _; rw [HG.out]; rfl
          clear HG
          go_wp2_with fail
          go_ret2
          rw [HE.out]
          exact ⟨_, rfl, IsPts.nil _ _, by (repeat (first | exact Kp.refl _ _ | assumption | refine Kp.drew ?_ | refine Kp.drewN ?_ _ | refine Kp.alloc ?_ _ | (refine Kp.setCell ?_ (by first | (left; simp; done) | (right; simp; try omega)) _) | (refine Kp.trans' ?_ (by assumption) (by simp; try omega))))⟩
        · go_wp2_with (at_builtin; refine wpList_app rfl _ _ 23 rfl (r + 1) 36 (.agg #[.int .i64 0, .int .i64 0, .int .i64 0, .int .i64 0, .int .i64 0, .bool false, .int .i64 0, .int .i64 0, .bool false, .int .i64 0, .int .i64 0]) 11 88 Try.underlying23 infoPt rfl (by decide) (by decide) (.slice pl acc.length cl) acc.length (ptsCells acc) rfl ?hown _ 1 [.int .i64 p.g, .int .i64 p.xx, .int .i64 p.xy, .int .i64 p.yx, .int .i64 p.yy, .bool p.m, .int .i64 p.dx, .int .i64 p.dy, .bool p.t, .int .i64 p.pa, .int .i64 p.ch] rfl ?hsrc ?hone ?hb1 ?hb2 ?hk)
          case hown => exact Kp.row (S := []) (by (repeat (first | exact Kp.refl _ _ | assumption | refine Kp.drew ?_ | refine Kp.drewN ?_ _ | refine Kp.alloc ?_ _ | (refine Kp.setCell ?_ (by first | (left; simp; done) | (right; simp; try omega)) _) | (refine Kp.trans' ?_ (by assumption) (by simp; try omega))))) HO5.out (by simp)
          case hsrc => exact Reads.made _ _ 11 1 _ _ (by simp) rfl (by decide)
          case hone => exact oneCell_pt p
          case hb1 => omega
          case hb2 => simp; omega
          case hk =>
          intro u w6 hown hgr
          have hob : ∀ k ∈ (Value.slice pl acc.length cl).ownBlock.toList, r + 1 ≤ k := fun k hk => own_ge HO5.out k (by simpa using hk)
          have hk56 : Kp (Value.slice pl acc.length cl).ownBlock.toList w5 w6 := Kp.grown (by (repeat (first | exact Kp.refl _ _ | assumption | refine Kp.drew ?_ | refine Kp.drewN ?_ _ | refine Kp.alloc ?_ _ | (refine Kp.setCell ?_ (by first | (left; simp; done) | (right; simp; try omega)) _) | (refine Kp.trans' ?_ (by assumption) (by simp; try omega))))) hgr (fun k hk => .inl (by simp [hk]))
          have H6 := Lib.hid (H5.out.kp hk56 (fun h => by have := hob _ h; omega) (fun t ht e => by have := hob _ ht; have := HV.out _ e; omega))
          have hkw6 : Kp [] w w6 := hkw5.trans' hk56 (fun t ht => .inr (by have := hob _ ht; omega))
          clear hob hk56
          have HO6 := Lib.hid (ptsCells_one acc p w6 _ _ _ rfl hown)
          obtain ⟨p9, c9, rfl⟩ := slice_own hown
          clear hown hgr
          cases more
          · have HE : Hid (decM zs = (acc ++ [p], 0)) := by show _ = _; rw [HG.out]; rfl
            clear HG
            go_wp2_with fail
            go_ret2
            rw [HE.out]
            exact ⟨_, rfl, IsPts.owned rfl HO6.out, by (repeat (first | exact Kp.refl _ _ | assumption | refine Kp.drew ?_ | refine Kp.drewN ?_ _ | refine Kp.alloc ?_ _ | (refine Kp.setCell ?_ (by first | (left; simp; done) | (right; simp; try omega)) _) | (refine Kp.trans' ?_ (by assumption) (by simp; try omega))))⟩
          · by_cases h64 : acc.length + 1 = 64
            · have HE : Hid (decM zs = ([], 120)) := by show _ = _; rw [HG.out, h64]; rfl
              clear HG
              go_wp2_with fail
              go_ret2
              rw [HE.out]
              exact ⟨_, rfl, IsPts.nil _ _, by (repeat (first | exact Kp.refl _ _ | assumption | refine Kp.drew ?_ | refine Kp.drewN ?_ _ | refine Kp.alloc ?_ _ | (refine Kp.setCell ?_ (by first | (left; simp; done) | (right; simp; try omega)) _) | (refine Kp.trans' ?_ (by assumption) (by simp; try omega))))⟩
            · have hne : ((acc.length : Int) + 1 == 64) = false := by simp; omega
              go_wp2_with fail
              go_roundw
              case rel => exact ⟨s5, acc ++ [p], by simp; omega, ⟨H6.out, by first | exact HO6.out | simpa using HO6.out, hkw6, hrw⟩, by rw [HG.out]; simp⟩
              case measure => simp [vlen]; omega
  · have HE : Hid (decM zs = ([], 110)) := by show _ = _; rw [HD.out, if_pos (.inl rfl)]
    clear HD
    go_wp2_with fail
    go_ret2
    rw [HE.out]
    exact ⟨_, rfl, IsPts.nil _ _, hkw3⟩
theorem IsPts.row {w : World} {v : Value} {l : List Pt} (h : IsPts w v l) {i : Nat} (hi : i < l.length) : ∃ g off c, v = .slice (some ⟨g, off, none⟩) l.length c ∧ l.length ≤ c ∧ c ≤ maxLen ∧ ∀ j u, (ptCells (l.getD i pt0))[j]? = some u → w.cell? ⟨g, off + i * 11 + j, none⟩ = some u := by
  rcases h.cases with ⟨ad, rfl, rfl⟩ | ⟨g, off, c, rfl, h1, h2, h3⟩
  · simp at hi
  · exact ⟨g, off, c, rfl, h1, h2, h3 i hi⟩
set_option maxRecDepth 100000 in
set_option maxHeartbeats 4000000 in
theorem same_calls (va vb : Value) (l : List Pt) (w : World) (ha : IsPts w va l) (hb : IsPts w vb l) : Calls Try.prog 18 #[va, vb] w fun e w' => e = .returned (.bool true) ∧ Kp [] w w' := by
  have hle := ha.le
  unfold maxLen at hle
  obtain ⟨pa, ca, rfl⟩ := ha.form
  obtain ⟨pb, cb, rfl⟩ := hb.form
  have HA := Lib.hid ha
  have HB := Lib.hid hb
  clear ha hb
  obtain ⟨N, hN⟩ : ∃ N, l.length = N := ⟨_, rfl⟩
  have HN := Lib.hid hN
  rw [hN] at HA HB hle ⊢
  clear hN
  go_enter Try.func18, Try.ntmps18
  go_wp2_with fail
  go_loopw [5] (fun i wr => ∃ j : Nat, j ≤ N ∧ i = .int .i64 j ∧ Hid (Kp [] w wr)) (fun i _ => N - (intOf i).toNat)
  case atStart => exact ⟨0, by omega, rfl, (Kp.refl _ _ : Kp [] w _)⟩
  case round =>
    obtain ⟨j, hj, rfl, HK⟩ := hrel
    by_cases hlt : j < N
    · have hw9 : IntKind.i64.wrap ((j : Int) + 1) = (j : Int) + 1 := by rw [IntKind.wrap_i64]; omega
      obtain ⟨g1, o1, c1, e1, _, _, h1⟩ := (HA.out.kp HK.out (by simp)).row (i := j) (by rw [HN.out]; exact hlt)
      obtain ⟨g2, o2, c2, e2, _, _, h2⟩ := (HB.out.kp HK.out (by simp)).row (i := j) (by rw [HN.out]; exact hlt)
      rw [HN.out] at e1 e2
      cases e1; cases e2
      generalize l.getD j pt0 = p at *
      have h1_0 := h1 0 (.int .i64 p.g) rfl
      have h1_1 := h1 1 (.int .i64 p.xx) rfl
      have h1_2 := h1 2 (.int .i64 p.xy) rfl
      have h1_3 := h1 3 (.int .i64 p.yx) rfl
      have h1_4 := h1 4 (.int .i64 p.yy) rfl
      have h1_5 := h1 5 (.bool p.m) rfl
      have h1_6 := h1 6 (.int .i64 p.dx) rfl
      have h1_7 := h1 7 (.int .i64 p.dy) rfl
      have h1_8 := h1 8 (.bool p.t) rfl
      have h1_9 := h1 9 (.int .i64 p.pa) rfl
      have h1_10 := h1 10 (.int .i64 p.ch) rfl
      simp only [Nat.add_zero] at h1_0
      have h2_0 := h2 0 (.int .i64 p.g) rfl
      have h2_1 := h2 1 (.int .i64 p.xx) rfl
      have h2_2 := h2 2 (.int .i64 p.xy) rfl
      have h2_3 := h2 3 (.int .i64 p.yx) rfl
      have h2_4 := h2 4 (.int .i64 p.yy) rfl
      have h2_5 := h2 5 (.bool p.m) rfl
      have h2_6 := h2 6 (.int .i64 p.dx) rfl
      have h2_7 := h2 7 (.int .i64 p.dy) rfl
      have h2_8 := h2 8 (.bool p.t) rfl
      have h2_9 := h2 9 (.int .i64 p.pa) rfl
      have h2_10 := h2 10 (.int .i64 p.ch) rfl
      simp only [Nat.add_zero] at h2_0
      clear h1 h2
      go_wp2_with fail
      go_quiet (fail)
      go_wp2_with fail
      go_round
      case rel => exact ⟨j + 1, by omega, by go_num, (HK.out.drewN _ : Kp [] w _)⟩
      case measure => simp [intOf]; omega
    · obtain rfl : j = N := by omega
      go_wp2_with fail
      go_ret
      exact ⟨rfl, HK.out⟩
end Go.Proofs.Ytodjohoonbkklaa

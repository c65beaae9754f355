/- compose: Decode. -/
import Derived.Test.YtodjohoonbkklaaCpI
import Derived.Test.YtodjohoonbkklaaCpJ
namespace Go.Proofs.Ytodjohoonbkklaa
open Go.RowKit
set_option linter.unusedVariables false
set_option linter.unusedSimpArgs false
/-- What Decode reads: the parts, and an error's number. -/
def decGo (zs : List Int) : Nat → Rs → List Pt → List Pt × Int
  | 0, _, _ => ([], 120)
  | n + 1, s, acc => if (partM zs s).2.2.1 = false then ([], 110) else if (partM zs s).2.1 = false then (acc ++ [(partM zs s).1], 0) else decGo zs n (partM zs s).2.2.2 (acc ++ [(partM zs s).1])
def decM (zs : List Int) : List Pt × Int :=
  let s1 := stp zs 2 (0, false)
  let s2 := stp zs 8 s1
  if s2.2 = true ∨ 0 ≤ s16 (val zs 2 (0, false)) then ([], 110) else decGo zs 64 s2 []
def DcSt (w wr : World) (r : Nat) (v : Value) (zs : List Int) (s : Rs) (acc : List Pt) (l : Value) : Prop :=
  RdS wr r v zs s.1 s.2 ∧ wr.ownsRow (r + 1) 36 11 l acc.length (ptsCells acc) ∧ Kp [] w wr ∧ w.heap.size ≤ r
theorem ptsCells_one (acc : List Pt) (p : Pt) (w : World) (n base : Nat) (v : Value) (hn : n = acc.length + 1) (h : w.ownsRow base 36 11 v n (ptsCells acc ++ [.int .i64 p.g, .int .i64 p.xx, .int .i64 p.xy, .int .i64 p.yx, .int .i64 p.yy, .bool p.m, .int .i64 p.dx, .int .i64 p.dy, .bool p.t, .int .i64 p.pa, .int .i64 p.ch])) : w.ownsRow base 36 11 v (acc ++ [p]).length (ptsCells (acc ++ [p])) := by
  subst hn; rw [ptsCells_snoc]; simpa [ptCells] using h
set_option maxRecDepth 100000 in
set_option maxHeartbeats 4000000 in
theorem decode_calls {w : World} {v : Value} {zs : List Int} (hz : IsInts .u8 w v zs) (hb : ∀ c ∈ zs, 0 ≤ c ∧ c ≤ 255) (hv : ∀ b, blockOf v = some b → b < w.heap.size) :
    Calls Try.prog 15 #[v] w fun e w' => ∃ v', e = .returned (.tuple #[v', .int .i64 (decM zs).2]) ∧ IsPts w' v' (decM zs).1 ∧ Kp [] w w' := by
  obtain ⟨i0, hi, hz0, hz1, hz2⟩ := info_parts infoPt
  obtain ⟨pa, ca, hva⟩ : ∃ p c, v = .slice p zs.length c := by
    rcases hz with ⟨⟨ad, rfl⟩, rfl⟩ | ⟨g, off, c, rfl, _⟩
    · exact ⟨_, 0, rfl⟩
    · exact ⟨_, c, rfl⟩
  have HZ := Lib.hid hz
  have HB := Lib.hid hb
  have HV := Lib.hid hv
  have HVA := Lib.hid hva
  clear hz hb hv hva
  go_enter Try.func15, Try.ntmps15
  go_wp2_with fail
  refine (new_calls v pa zs.length ca HVA.out _).mono ?_; rintro e w1 ⟨rfl, hw1⟩
  have hk1 : Kp [] w w1 := by subst hw1; (repeat (first | exact Kp.refl _ _ | assumption | refine Kp.drew ?_ | refine Kp.drewN ?_ _ | refine Kp.alloc ?_ _ | (refine Kp.setCell ?_ (by first | (left; simp; done) | (right; simp; try omega)) _) | (refine Kp.trans' ?_ (by assumption) (by simp; try omega))))
  have hsz : w.heap.size < w1.heap.size := by subst hw1; simp
  have H1 : Hid (RdS w1 w.heap.size v zs 0 false) := ⟨by subst hw1; exact heap_alloc_new w _, HZ.out.kp hk1 (by simp), HB.out, fun e => by have := HV.out _ e; omega, by omega⟩
  clear hw1
  generalize hr : w.heap.size = r at *
  have hrw : w.heap.size ≤ r := by omega
  clear hr
  go_wp2_with fail
  refine (i16S H1.out).mono ?_; rintro e w2 ⟨rfl, h2, hk2⟩
  have H2 := Lib.hid h2
  have hkw2 : Kp [] w w2 := hk1.trans' hk2 (fun t ht => by simp at ht; subst ht; exact .inr hrw)
  clear h2
  go_wp2_with fail
  refine (takeS 8 (by decide) (by decide) H2.out).mono ?_; rintro e w3 ⟨⟨v3, rfl⟩, h3, hk3⟩
  have H3 := Lib.hid h3
  have hkw3 : Kp [] w w3 := hkw2.trans' hk3 (fun t ht => by simp at ht; subst ht; exact .inr hrw)
  clear h3 hkw2 hk1 hk2 hk3
  go_wp2_with fail
  refine (doneS H3.out).mono ?_; rintro e w4 ⟨rfl, rfl⟩
  have HD : Hid (decM zs = if rdB zs (rdK zs 0 false 2) (rdB zs 0 false 2) 8 = true ∨ 0 ≤ s16 (rdV zs 0 false 2) then ([], 110) else decGo zs 64 (rdK zs (rdK zs 0 false 2) (rdB zs 0 false 2) 8, rdB zs (rdK zs 0 false 2) (rdB zs 0 false 2) 8) []) := rfl
  generalize s16 (rdV zs 0 false 2) = k0 at *
  generalize rdK zs (rdK zs 0 false 2) (rdB zs 0 false 2) 8 = kk at *
  generalize rdB zs (rdK zs 0 false 2) (rdB zs 0 false 2) 8 = bb at *
  cases bb
  · by_cases hk : 0 ≤ k0
    · have HE : Hid (decM zs = ([], 110)) := by show _ = _; rw [HD.out, if_pos (.inr hk)]
      clear HD
      go_wp2_with fail
      go_ret2
      rw [HE.out]
      exact ⟨_, rfl, IsPts.nil _ _, hkw3⟩
    · have HE : Hid (decM zs = decGo zs (64 - ([] : List Pt).length) (kk, false) []) := by show _ = _; rw [HD.out, if_neg (by simp; omega)]; rfl
      clear HD
      have HS : Hid (DcSt w w3 r v zs (kk, false) [] (.slice none 0 0)) := ⟨H3.out, World.ownsRow_nil _ _ _ _, hkw3, hrw⟩
      have hk' : decide (0 ≤ k0) = false := decide_eq_false hk
      clear H1 H2 H3 hkw3
      go_wp2_with fail
      go_loopw [6] (fun l wr => ∃ (s : Rs) (acc : List Pt), acc.length < 64 ∧ Hid (DcSt w wr r v zs s acc l ∧ decM zs = decGo zs (64 - acc.length) s acc)) (fun l _ => 64 - vlen l)
      case atStart => exact ⟨(kk, false), [], by simp, HS.out, HE.out⟩
      case round =>
        obtain ⟨s, acc, hl, HJ⟩ := hrel
        clear HS HE hk' hk
        obtain ⟨pl, cl, hle⟩ := slice_own HJ.out.1.2.1
        subst hle
        have hsz2 : r < wr.heap.size := HJ.out.1.1.lt
        go_wp2_with fail
        refine (part_calls HJ.out.1.1 (fun b hb => by have := HV.out b hb; have := HJ.out.1.2.2.1.size; omega)).mono ?_; rintro e w5 ⟨rfl, h5, hk5⟩
        have H5 := Lib.hid h5
        have HG : Hid (decM zs = if (partM zs s).2.2.1 = false then ([], 110) else if (partM zs s).2.1 = false then (acc ++ [(partM zs s).1], 0) else decGo zs (64 - (acc.length + 1)) (partM zs s).2.2.2 (acc ++ [(partM zs s).1])) := by
          show _ = _; rw [HJ.out.2, show 64 - acc.length = (64 - (acc.length + 1)) + 1 by omega]; rfl
        clear h5
        generalize partM zs s = PM at *
        obtain ⟨p, more, ok, s5⟩ := PM
        dsimp only at H5 HG ⊢
        have hkw5 : Kp [] w w5 := HJ.out.1.2.2.1.trans' hk5 (fun t ht => by simp at ht; subst ht; exact .inr hrw)
        have HO5 : Hid (w5.ownsRow (r + 1) 36 11 (.slice pl acc.length cl) acc.length (ptsCells acc)) := hk5.row HJ.out.1.2.1 (fun t ht e => by simp at ht; subst ht; have := own_ge HJ.out.1.2.1 _ e; omega)
        have hsz5 : r < w5.heap.size := H5.out.lt
        clear HJ hk5 hsz2
        rw [show ptV p = .agg #[.int .i64 p.g, .int .i64 p.xx, .int .i64 p.xy, .int .i64 p.yx, .int .i64 p.yy, .bool p.m, .int .i64 p.dx, .int .i64 p.dy, .bool p.t, .int .i64 p.pa, .int .i64 p.ch] from rfl]
        cases ok
        · have HE : Hid (decM zs = ([], 110)) := by show _ = _; rw [HG.out]; rfl
          clear HG
          go_wp2_with fail
          go_ret2
          rw [HE.out]
          exact ⟨_, rfl, IsPts.nil _ _, by (repeat (first | exact Kp.refl _ _ | assumption | refine Kp.drew ?_ | refine Kp.drewN ?_ _ | refine Kp.alloc ?_ _ | (refine Kp.setCell ?_ (by first | (left; simp; done) | (right; simp; try omega)) _) | (refine Kp.trans' ?_ (by assumption) (by simp; try omega))))⟩
        · go_wp2_with (at_builtin; refine wpList_app rfl _ _ 23 rfl (r + 1) 36 (.agg #[.int .i64 0, .int .i64 0, .int .i64 0, .int .i64 0, .int .i64 0, .bool false, .int .i64 0, .int .i64 0, .bool false, .int .i64 0, .int .i64 0]) 11 88 Try.underlying23 infoPt rfl (by decide) (by decide) (.slice pl acc.length cl) acc.length (ptsCells acc) rfl ?hown _ 1 [.int .i64 p.g, .int .i64 p.xx, .int .i64 p.xy, .int .i64 p.yx, .int .i64 p.yy, .bool p.m, .int .i64 p.dx, .int .i64 p.dy, .bool p.t, .int .i64 p.pa, .int .i64 p.ch] rfl ?hsrc ?hone ?hb1 ?hb2 ?hk)
          case hown => exact Kp.row (S := []) (by (repeat (first | exact Kp.refl _ _ | assumption | refine Kp.drew ?_ | refine Kp.drewN ?_ _ | refine Kp.alloc ?_ _ | (refine Kp.setCell ?_ (by first | (left; simp; done) | (right; simp; try omega)) _) | (refine Kp.trans' ?_ (by assumption) (by simp; try omega))))) HO5.out (by simp)
          case hsrc => exact Reads.made _ _ 11 1 _ _ (by simp) rfl (by decide)
          case hone => exact oneCell_pt p
          case hb1 => omega
          case hb2 => simp; omega
          case hk =>
          intro u w6 hown hgr
          have hob : ∀ k ∈ (Value.slice pl acc.length cl).ownBlock.toList, r + 1 ≤ k := fun k hk => own_ge HO5.out k (by simpa using hk)
          have hk56 : Kp (Value.slice pl acc.length cl).ownBlock.toList w5 w6 := Kp.grown (by (repeat (first | exact Kp.refl _ _ | assumption | refine Kp.drew ?_ | refine Kp.drewN ?_ _ | refine Kp.alloc ?_ _ | (refine Kp.setCell ?_ (by first | (left; simp; done) | (right; simp; try omega)) _) | (refine Kp.trans' ?_ (by assumption) (by simp; try omega))))) hgr (fun k hk => .inl (by simp [hk]))
          have H6 := Lib.hid (H5.out.kp hk56 (fun h => by have := hob _ h; omega) (fun t ht e => by have := hob _ ht; have := HV.out _ e; omega))
          have hkw6 : Kp [] w w6 := hkw5.trans' hk56 (fun t ht => .inr (by have := hob _ ht; omega))
          clear hob hk56
          have HO6 := Lib.hid (ptsCells_one acc p w6 _ _ _ rfl hown)
          obtain ⟨p9, c9, rfl⟩ := slice_own hown
          clear hown hgr
          cases more
          · have HE : Hid (decM zs = (acc ++ [p], 0)) := by show _ = _; rw [HG.out]; rfl
            clear HG
            go_wp2_with fail
            go_ret2
            rw [HE.out]
            exact ⟨_, rfl, IsPts.owned rfl HO6.out, by (repeat (first | exact Kp.refl _ _ | assumption | refine Kp.drew ?_ | refine Kp.drewN ?_ _ | refine Kp.alloc ?_ _ | (refine Kp.setCell ?_ (by first | (left; simp; done) | (right; simp; try omega)) _) | (refine Kp.trans' ?_ (by assumption) (by simp; try omega))))⟩
          · by_cases h64 : acc.length + 1 = 64
            · have HE : Hid (decM zs = ([], 120)) := by show _ = _; rw [HG.out, h64]; rfl
              clear HG
              go_wp2_with fail
              go_ret2
              rw [HE.out]
              exact ⟨_, rfl, IsPts.nil _ _, by (repeat (first | exact Kp.refl _ _ | assumption | refine Kp.drew ?_ | refine Kp.drewN ?_ _ | refine Kp.alloc ?_ _ | (refine Kp.setCell ?_ (by first | (left; simp; done) | (right; simp; try omega)) _) | (refine Kp.trans' ?_ (by assumption) (by simp; try omega))))⟩
            · have hne : ((acc.length : Int) + 1 == 64) = false := by simp; omega
              go_wp2_with fail
              go_roundw
              case rel => exact ⟨s5, acc ++ [p], by simp; omega, ⟨H6.out, by first | exact HO6.out | simpa using HO6.out, hkw6, hrw⟩, by rw [HG.out]; simp⟩
              case measure => simp [vlen]; omega
  · have HE : Hid (decM zs = ([], 110)) := by show _ = _; rw [HD.out, if_pos (.inl rfl)]
    clear HD
    go_wp2_with fail
    go_ret2
    rw [HE.out]
    exact ⟨_, rfl, IsPts.nil _ _, hkw3⟩
end Go.Proofs.Ytodjohoonbkklaa

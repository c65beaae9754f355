/- stack: the walk of StackDoes. (Written by wip/stack/gense.py.) -/
import Derived.Test.YtlnmpffpieofeaaStSd
import Derived.Deep.RegionHeld3
import Derived.Lib.SliceRun
namespace Go.Proofs.Ytlnmpffpieofeaa
open Go.RowKit
set_option linter.unusedVariables false
set_option linter.unusedSimpArgs false
set_option maxRecDepth 100000 in
theorem clonei_big (v : Value) (zs : List Int) (w : World) (h : IsInts .i64 w v zs) (hl : zs.length ≤ 17592186044000) :
    Calls Try.prog 24 #[v] w fun e w' => ∃ v', e = .returned v' ∧ OwnC w' w.heap.size 3 v' zs ∧ Kp [] w w' ∧ ∀ b, blockOf v' = some b → w.heap.size ≤ b := by
  have H : Hid (IsInts .i64 w v zs) := h
  have HL : Hid _ := hl
  clear hl
  obtain ⟨pa, ca, hva⟩ : ∃ p c, v = .slice p zs.length c := by
    rcases h with ⟨⟨ad, rfl⟩, rfl⟩ | ⟨g, off, c, rfl, _⟩
    · exact ⟨_, 0, rfl⟩
    · exact ⟨_, c, rfl⟩
  subst hva
  cases pa with
  | none =>
    have hz : zs = [] ∧ ca = 0 := by
      rcases h with ⟨⟨ad, e⟩, rfl⟩ | ⟨g, off, c, e, _⟩
      · cases e; exact ⟨rfl, rfl⟩
      · cases e
    obtain ⟨rfl, rfl⟩ := hz
    clear h H HL
    show Calls Try.prog 24 #[.slice none 0 0] w _
    have hq := Lib.run_eql_slice_nil (P := Try.prog) w 22 3 none 0 0 0 0 Try.underlying22
    simp only [Option.isNone] at hq
    go_enter Try.func24, Try.ntmps24
    go_wp2_with fail
    go_ret
    exact ⟨_, rfl, .inl ⟨rfl, rfl⟩, Kp.refl _ _, fun b hb => by simp at hb⟩
  | some ad =>
    clear h
    have hq := Lib.run_eql_slice_nil (P := Try.prog) w 22 3 (some ad) zs.length ca 0 0 Try.underlying22
    simp only [Option.isNone] at hq
    go_enter Try.func24, Try.ntmps24
    go_wp2_with (at_builtin; refine wpList_app rfl _ _ 22 rfl w.heap.size 3 (.int .i64 0) 1 8 Try.underlying22 infoIntS rfl (by decide) (by decide) (.slice (some ⟨w.heap.size, 0, none⟩) 0 0) 0 [] rfl ?hown (.slice (some ad) zs.length ca) zs.length (zs.map (Value.int .i64)) rfl ?hsrc (oneCell_ints _ _) ?hb1 ?hb2 ?hk)
    case hown => exact own_empty _ _ _ _ _ rfl (by omega)
    case hsrc => exact (H.out.kp (S := []) ((Kp.refl _ _).alloc _) (by simp)).reads
    case hb1 => have := HL.out; first | omega | (simp; omega) | simp
    case hb2 => first | omega | (simp; omega) | simp
    case hk =>
    intro v1 w1 hown hgr
    try simp only [Nat.zero_add, List.nil_append] at hown
    have hk1 : Kp [] w w1 := Kp.grown ((Kp.refl _ _).alloc _) hgr (by intro k hk; right; simp [Value.ownBlock] at hk; omega)
    have hge := own_geb hown
    have hi : Hid (OwnC w1 w.heap.size 3 v1 zs) := OwnC.owned (Nat.le_refl _) rfl hown
    clear hown hgr
    go_wp2_with fail
    go_ret
    exact ⟨_, rfl, hi.out, hk1, fun b hb => hge b hb⟩
set_option maxRecDepth 100000 in
set_option maxHeartbeats 4000000 in
theorem snew_big (v : Value) (dr : List Int) (w : World) (h : IsInts .i64 w v dr) (hl : dr.length ≤ 17592186044000) :
    Calls Try.prog 8 #[v] w fun e w' => ∃ s vd, e = .returned (.pointer (some ⟨s, 0, none⟩)) ∧ StS w' s w.heap.size (.slice none 0 0) [] zeros32 vd dr ∧ Kp [] w w' := by
  have H : Hid (IsInts .i64 w v dr) := h
  obtain ⟨pa, ca, hva⟩ : ∃ p c, v = .slice p dr.length c := by
    rcases h with ⟨⟨ad, rfl⟩, rfl⟩ | ⟨g, off, c, rfl, _⟩
    · exact ⟨_, 0, rfl⟩
    · exact ⟨_, c, rfl⟩
  subst hva
  clear h
  go_enter Try.func8, Try.ntmps8
  go_wp2_with fail
  refine (clonei_big _ dr w H.out hl).mono ?_; rintro e w1 ⟨v1, rfl, ho, hk, hb⟩
  obtain ⟨p', c', rfl⟩ := ho.form
  have hfin : Hid (∀ cs : Array Value, cs = (.slice none 0 0 :: (zeros32.map (Value.int .i64) ++ [.slice p' dr.length c'])).toArray → StS (w1.alloc (.cells cs 48)) w1.heap.size w.heap.size (.slice none 0 0) [] zeros32 (.slice p' dr.length c') dr) := fun cs hc => by
    subst hc
    refine ⟨heap_alloc_new w1 _, rfl, hk.size, .inl ⟨rfl, rfl⟩, by simp [Value.ownBlock], ho.ints.kp (S := []) ((Kp.refl _ _).alloc _) (by simp), fun b hb2 => ?_⟩
    have h1 := ho.lt b (blockOf_own hb2)
    exact ⟨by omega, by simp [Value.ownBlock], h1.1, by simp; omega⟩
  clear ho hb
  go_wp2_with fail
  go_ret
  exact ⟨_, _, rfl, hfin.out _ rfl, hk.alloc _⟩
theorem build_is (vD : Value) : (#[Value.slice none 0 0, .int .i64 0, .int .i64 0, .int .i64 0, .int .i64 0, .int .i64 0, .int .i64 0, .int .i64 0, .int .i64 0, .int .i64 0, .int .i64 0, .int .i64 0, .int .i64 0, .int .i64 0, .int .i64 0, .int .i64 0, .int .i64 0, .int .i64 0, .int .i64 0, .int .i64 0, .int .i64 0, .int .i64 0, .int .i64 0, .int .i64 0, .int .i64 0, .int .i64 0, .int .i64 0, .int .i64 0, .int .i64 0, .int .i64 0, .int .i64 0, .int .i64 0, .int .i64 0, vD, .int .i64 0] : Array Value) = (Value.slice none 0 0 :: (zeros32.map (Value.int .i64) ++ [vD, .int .i64 ((0 : Nat) : Int)])).toArray := rfl
theorem do_start {w w2 w3 : World} {s B : Nat} {vd vD : Value} {draws : List Int} {cs : Array Value} (hB : w.heap.size ≤ B) (hS : StS w2 s B (.slice none 0 0) [] zeros32 vd draws) (hk : Kp [] w2 w3) (hkw : Kp [] w w3) (hD : IsInts .i64 w vD draws) (hdb : ∀ b, blockOf vD = some b → b < w.heap.size)
    (hcs : cs = (Value.slice none 0 0 :: (zeros32.map (Value.int .i64) ++ [vD, .int .i64 ((0 : Nat) : Int)])).toArray) : DoSt w s w3.heap.size vD draws [] zeros32 (draws.drop 0) [] zeros32 0 0 [] (w3.alloc (.cells cs 42)) := by
  subst hcs
  have hka : Kp [] w3 (w3.alloc (.cells (Value.slice none 0 0 :: (zeros32.map (Value.int .i64) ++ [vD, .int .i64 ((0 : Nat) : Int)])).toArray 42)) := (Kp.refl _ _).alloc _
  have h3 := hS.kp0 hk
  have hs := h3.lt
  have hsz := hkw.size
  refine ⟨B, w3.heap.size, .slice none 0 0, vd, .slice none 0 0, hB, hsz, h3.kp0 hka, ⟨heap_alloc_new w3 _, by simp [zeros32], Nat.le_refl _, .inl ⟨rfl, rfl⟩, by simp [Value.ownBlock], (hD.kp hkw (by simp)).kp hka (by simp), fun b hb => by have := hdb b hb; omega⟩, by omega, fun k e => by simp [Value.ownBlock] at e, by simp [Value.ownBlock], fun k e => ⟨by have := (h3.2.2.2.2.2.2 k e).2.2.2; omega, by simp [Value.ownBlock]⟩, hdb, fun j u hj => by simp at hj, hkw.trans hka⟩
set_option maxRecDepth 100000 in
set_option maxHeartbeats 8000000 in
theorem law_StackDoes (vD va : Value) (draws : List Int) (calls : List (Int × Int)) (w : World) (hd : IsInts .i64 w vD draws) (hdl : draws.length ≤ 17592186044000) (hdb : ∀ b, blockOf vD = some b → b < w.heap.size) (ha : IsPairs w va calls) (hab : ∀ b, blockOf va = some b → b < w.heap.size) :
    Calls Try.prog 6 #[vD, va] w fun e w' => e = .returned (.bool true) ∧ Kp [] w w' := by
  have HD := Lib.hid hd
  have HA := Lib.hid ha
  have HDB := Lib.hid hdb
  have HDL := Lib.hid hdl
  obtain ⟨pd, cd, rfl⟩ := islc hd
  obtain ⟨pa, ca, rfl⟩ := ha.form
  have LV := Lib.hid lives_calls
  clear hd ha hdb hab hdl
  go_enter Try.func6, Try.ntmps6
  go_wp2_with (at_builtin; refine wpList_app rfl _ _ 22 rfl w.heap.size 3 (.int .i64 0) 1 8 Try.underlying22 infoIntS rfl (by decide) (by decide) (.slice (some ⟨w.heap.size, 0, none⟩) 0 0) 0 [] rfl ?xown (.slice pd draws.length cd) draws.length (draws.map (Value.int .i64)) rfl ?xsrc (oneCell_ints _ _) ?xb1 (by simp) ?xk)
  case xown => exact own_empty _ _ _ _ _ rfl (Nat.le_refl _)
  case xsrc => exact (HD.out.kp (S := []) ((Kp.refl _ _).alloc _) (by simp)).reads
  case xb1 => have := HDL.out; omega
  case xk =>
  intro v1 w1 hown hgr
  have hk1 : Kp [] w w1 := Kp.grown ((Kp.refl _ _).alloc _) hgr (by intro k hk; right; simp [Value.ownBlock] at hk; omega)
  have HI1 : Hid (IsInts .i64 w1 v1 draws) := by
    have := IsInts.owned (k := .i64) (zs := draws) (n := 0 + draws.length) (by simpa using hown); exact this
  clear hown hgr
  go_wp2_with fail
  refine (snew_big v1 draws w1 HI1.out HDL.out).mono ?_; rintro e w2 ⟨s, vd, rfl, hS, hk2⟩
  have HS := Lib.hid hS
  clear hS
  go_wp2_with fail
  refine (LV.out _).mono ?_; rintro e w3 ⟨rfl, hk3⟩
  have HX : Hid (DoSt w s w3.heap.size (.slice pd draws.length cd) draws [] zeros32 (draws.drop 0) [] zeros32 0 0 [] (w3.alloc (.cells (Value.slice none 0 0 :: (zeros32.map (Value.int .i64) ++ [.slice pd draws.length cd, .int .i64 ((0 : Nat) : Int)])).toArray 42))) :=
    do_start hk1.size HS.out hk3 (hk1.trans (hk2.trans hk3)) HD.out HDB.out rfl
  rw [← build_is] at HX
  obtain ⟨n, hn⟩ : ∃ n, calls.length = n := ⟨_, rfl⟩
  have HN := Lib.hid hn
  rw [hn] at HA ⊢
  clear hn
  go_wp2_with fail
  generalize w3.heap.size = r at HX ⊢
  generalize w3.alloc _ = w4 at HX ⊢
  clear HI1 HS hk1 hk2 hk3
  have HVB : Hid (∀ W, Kp [] w W → IsPairs W (.slice pa n ca) calls) := fun W hW => HA.out.kp hW (by simp)
  go_loopw [7] (fun i wr => ∃ (t used : Nat) (l st : List Int), t ≤ n ∧ t ≤ 300 ∧ i = .int .i64 t ∧ Hid (OkM l st ∧ used ≤ t) ∧ Hid (DoSt w s r (.slice pd draws.length cd) draws l st (draws.drop used) l st used 0 [] wr)) (fun i _ => 301 - (intOf i).toNat)
  case atStart => exact ⟨0, 0, [], zeros32, by omega, by omega, rfl, ⟨okM_lit [] (by simp) (by simp), by omega⟩, HX⟩
  case round =>
    obtain ⟨t, used, l, st, ht, ht2, rfl, hok, H1⟩ := hrel
    clear HX
    have hl48 : l.length ≤ 48 := hok.out.1.1
    by_cases hlt : t < n
    · by_cases hlt2 : t < 300
      · have hw9 : IntKind.i64.wrap ((t : Int) + 1) = (t : Int) + 1 := by rw [IntKind.wrap_i64]; omega
        obtain ⟨g, off, rfl, hca, hcx⟩ : ∃ g off, pa = some ⟨g, off, none⟩ ∧ n ≤ ca ∧ (∀ W, Kp [] w W → W.cell? ⟨g, off + t * 2, none⟩ = some (.int .i64 (calls.getD t (0, 0)).1) ∧ W.cell? ⟨g, off + t * 2 + 1, none⟩ = some (.int .i64 (calls.getD t (0, 0)).2)) := by
          rcases HA.out.cases with ⟨ad, h, h'⟩ | ⟨g1, o1, c1, h, h2, _, h3⟩
          · exfalso; first | (rw [h'] at hlt; exact absurd hlt (by simp)) | (have q := HN.out; rw [h'] at q; rw [← q] at hlt; exact absurd hlt (by simp))
          · cases h
            refine ⟨g1, o1, rfl, by have := HN.out; omega, fun W hW => ?_⟩
            rcases (HVB.out W hW).cases with ⟨ad, h, h'⟩ | ⟨g2, o2, c2, h, _, _, h4⟩
            · exfalso; first | (rw [h'] at hlt; exact absurd hlt (by simp)) | (have q := HN.out; rw [h'] at q; rw [← q] at hlt; exact absurd hlt (by simp))
            · cases h; exact h4 t (by rw [HN.out]; exact hlt)
        obtain ⟨hc0, hc1⟩ := hcx wr H1.out.base
        clear hcx
        generalize (calls.getD t (0, 0)).1 = kd at *
        generalize (calls.getD t (0, 0)).2 = x at *
        by_cases hk1 : kd = 1
        · subst hk1
          have HB0 := H1.out.box #[.int .i64 1, .int .i64 x] 44
          have hDB : Kp [] wr (wr.alloc (.cells #[.int .i64 1, .int .i64 x] 44)) := (Kp.refl _ _).alloc _
          go_wp2_with fail
          generalize wr.alloc (.cells #[.int .i64 1, .int .i64 x] 44) = wb at *
          generalize wr.heap.size = bx at *
          have HB := Lib.hid HB0
          have hb1 := HB.out.cell 1 (.int .i64 x) rfl
          clear HB0 hc0 hc1
          go_region_held3 (fun w' => w'.cell? ⟨bx, 1, none⟩ = some (.int .i64 x))
            (first | go_keep | exact hb1 | exact H5.cell 1 _ rfl | exact H6.cell 1 _ rfl)
            ((first
              | (go_at_call 10
                 refine (dpush x (HB.out.kp (by first | exact Kp.refl _ _ | exact (Kp.refl _ _).drew)) hl48).mono ?_
                 rintro e w5 ⟨rfl, H5⟩)
              | (go_at_call 18
                 refine (drpush x (H5.kp (by first | exact Kp.refl _ _ | exact (Kp.refl _ _).drew)) hl48).mono ?_
                 rintro e w6 ⟨rfl, H6⟩)))
          all_goals
            have HF := Lib.hid H6
            have HOKF : Hid (OkM (pushL l x) st ∧ used ≤ t + 1) := ⟨pushL_ok hok.out.1, by have := hok.out.2; omega⟩
            clear H5 H6 hb1
            generalize hW : w6 = W at *
            obtain ⟨p9, c9, hr9, hi9, _, _, _⟩ := HF.out.rl
            have HI9 : Hid (∀ V, Kp [] W V → IsInts .i64 V (.slice p9 (pushL l x).length c9) (pushL l x)) := fun V hV => hi9.kp hV (by simp)
            have HR9 : Hid (∀ V, Kp [] W V → V.cell? ⟨r, 0, none⟩ = some (.slice p9 (pushL l x).length c9)) := fun V hV => hV.cell hr9 (by simp)
            have hL9 : Hid ((pushL l x).length ≤ 48) := HOKF.out.1.1
            have hkW : Hid (Kp [] w W) := HF.out.base
            clear hi9
            go_wp2_with fail
            go_region_held3 (fun w' => w'.cell? ⟨r, 0, none⟩ = some (.slice p9 (pushL l x).length c9))
              (first | go_keep | exact HR9.out _ (by (repeat (first | exact Kp.refl _ _ | assumption | refine Kp.drew ?_ | refine Kp.drewN ?_ _ | refine Kp.alloc ?_ _ | (refine Kp.setCell ?_ (by first | (left; simp; done) | (right; simp; try omega)) _) | (refine Kp.trans' ?_ (by assumption) (by simp; try omega))))) | exact HR9.out _ hk5 | exact HR9.out _ hk5.drew | exact HR9.out _ (hk5.trans hk6) | exact HR9.out _ (hk5.trans hk6).drew)
              ((first
                | (go_at_call 17
                   refine (dall (HF.out.kp (by first | exact Kp.refl _ _ | exact (Kp.refl _ _).drew)) hL9.out).mono ?_
                   rintro e w5 ⟨v5, rfl, hi5, hk5, H5⟩
                   obtain ⟨p5, c5, rfl⟩ := islc hi5
                   have hk5 : Kp [] W w5 := by first | exact hk5 | exact (Kp.refl _ _).drew.trans hk5)
                | (go_at_call 16
                   refine (same_true _ _ (pushL l x) _ (hi5.kp (S := []) (by first | exact Kp.refl _ _ | exact (Kp.refl _ _).drew) (by simp)) (HI9.out _ (by first | exact hk5 | exact hk5.drew))).mono ?_
                   rintro e w6 ⟨rfl, hk6⟩
                   have hk6 : Kp [] w5 w6 := by first | exact hk6 | exact (Kp.refl _ _).drew.trans hk6)
                | (go_at_call 13
                   refine (dlen (HF.out.kp (by first | exact hk5.trans hk6 | exact (hk5.trans hk6).drew))).mono ?_
                   rintro e w7 ⟨rfl, rfl⟩)))
            all_goals
              clear hr9 hi5
              go_wp2_with fail
              go_roundw
              case rel => first | exact ⟨t + 1, used, pushL l x, st, by omega, by omega, by go_num, HOKF.out, (HF.out.kp (by first | exact hk5.trans hk6 | exact (hk5.trans hk6).drew)).nobox⟩ | ((repeat apply Exists.intro); exact ⟨⟨t + 1, used, pushL l x, st, by omega, by omega, by go_num, HOKF.out, (HF.out.kp (by first | exact hk5.trans hk6 | exact (hk5.trans hk6).drew)).nobox⟩, rfl⟩)
              case measure => simp [intOf]; omega
        by_cases hk2 : kd = 2
        · subst hk2
          have HB0 := H1.out.box #[.int .i64 2, .int .i64 x] 44
          have hDB : Kp [] wr (wr.alloc (.cells #[.int .i64 2, .int .i64 x] 44)) := (Kp.refl _ _).alloc _
          go_wp2_with fail
          generalize wr.alloc (.cells #[.int .i64 2, .int .i64 x] 44) = wb at *
          generalize wr.heap.size = bx at *
          have HB := Lib.hid HB0
          have hb1 := HB.out.cell 1 (.int .i64 x) rfl
          clear HB0 hc0 hc1
          obtain ⟨y1, HY1⟩ : ∃ y, Hid (l.getLastD 0 = y) := ⟨_, rfl⟩
          obtain ⟨y2, HY2⟩ : ∃ y, Hid (popE l = y) := ⟨_, rfl⟩
          refine (dpop HB.out hl48).mono ?_; rintro e w5 ⟨he, H5⟩
          rw [HY1.out, HY2.out] at he; subst he
          go_wp2_with fail
          refine (drpop H5 hl48).mono ?_; rintro e w6 ⟨he, H6⟩
          rw [HY1.out, HY2.out] at he; subst he
          have HF := Lib.hid H6
          have HOKF : Hid (OkM l.dropLast st ∧ used ≤ t + 1) := ⟨pop_ok hok.out.1, by have := hok.out.2; omega⟩
          clear H5 H6 hb1
          generalize hW : w6 = W at *
          generalize l.dropLast = LD at *
          obtain ⟨p9, c9, hr9, hi9, _, _, _⟩ := HF.out.rl
          have HI9 : Hid (∀ V, Kp [] W V → IsInts .i64 V (.slice p9 (LD).length c9) (LD)) := fun V hV => hi9.kp hV (by simp)
          have HR9 : Hid (∀ V, Kp [] W V → V.cell? ⟨r, 0, none⟩ = some (.slice p9 (LD).length c9)) := fun V hV => hV.cell hr9 (by simp)
          have hL9 : Hid ((LD).length ≤ 48) := HOKF.out.1.1
          have hkW : Hid (Kp [] w W) := HF.out.base
          clear hi9
          go_wp2_with fail
          go_region_held3 (fun w' => w'.cell? ⟨r, 0, none⟩ = some (.slice p9 (LD).length c9))
            (first | go_keep | exact HR9.out _ (by (repeat (first | exact Kp.refl _ _ | assumption | refine Kp.drew ?_ | refine Kp.drewN ?_ _ | refine Kp.alloc ?_ _ | (refine Kp.setCell ?_ (by first | (left; simp; done) | (right; simp; try omega)) _) | (refine Kp.trans' ?_ (by assumption) (by simp; try omega))))) | exact HR9.out _ hk5 | exact HR9.out _ hk5.drew | exact HR9.out _ (hk5.trans hk6) | exact HR9.out _ (hk5.trans hk6).drew)
            ((first
              | (go_at_call 17
                 refine (dall (HF.out.kp (by first | exact Kp.refl _ _ | exact (Kp.refl _ _).drew)) hL9.out).mono ?_
                 rintro e w5 ⟨v5, rfl, hi5, hk5, H5⟩
                 obtain ⟨p5, c5, rfl⟩ := islc hi5
                 have hk5 : Kp [] W w5 := by first | exact hk5 | exact (Kp.refl _ _).drew.trans hk5)
              | (go_at_call 16
                 refine (same_true _ _ (LD) _ (hi5.kp (S := []) (by first | exact Kp.refl _ _ | exact (Kp.refl _ _).drew) (by simp)) (HI9.out _ (by first | exact hk5 | exact hk5.drew))).mono ?_
                 rintro e w6 ⟨rfl, hk6⟩
                 have hk6 : Kp [] w5 w6 := by first | exact hk6 | exact (Kp.refl _ _).drew.trans hk6)
              | (go_at_call 13
                 refine (dlen (HF.out.kp (by first | exact hk5.trans hk6 | exact (hk5.trans hk6).drew))).mono ?_
                 rintro e w7 ⟨rfl, rfl⟩)))
          all_goals
            clear hr9 hi5
            go_wp2_with fail
            go_roundw
            case rel => first | exact ⟨t + 1, used, LD, st, by omega, by omega, by go_num, HOKF.out, (HF.out.kp (by first | exact hk5.trans hk6 | exact (hk5.trans hk6).drew)).nobox⟩ | ((repeat apply Exists.intro); exact ⟨⟨t + 1, used, LD, st, by omega, by omega, by go_num, HOKF.out, (HF.out.kp (by first | exact hk5.trans hk6 | exact (hk5.trans hk6).drew)).nobox⟩, rfl⟩)
            case measure => simp [intOf]; omega
        by_cases hk3 : kd = 3
        · subst hk3
          have HB0 := H1.out.box #[.int .i64 3, .int .i64 x] 44
          have hDB : Kp [] wr (wr.alloc (.cells #[.int .i64 3, .int .i64 x] 44)) := (Kp.refl _ _).alloc _
          go_wp2_with fail
          generalize wr.alloc (.cells #[.int .i64 3, .int .i64 x] 44) = wb at *
          generalize wr.heap.size = bx at *
          have HB := Lib.hid HB0
          have hb1 := HB.out.cell 1 (.int .i64 x) rfl
          clear HB0 hc0 hc1
          obtain ⟨res, hres⟩ : ∃ res, doM x l st (draws.drop used) = res := ⟨_, rfl⟩
          have HRES := Lib.hid hres
          have hok2 : Hid (OkM res.2.1 res.2.2.1) := by have := doM_ok x l st (draws.drop used) hok.out.1; rw [hres] at this; exact this
          have HU : Hid (used ≤ 100000) := by have := hok.out.2; show _ ≤ _; omega
          clear hres
          go_region_held3 (fun w' => w'.cell? ⟨bx, 1, none⟩ = some (.int .i64 x))
            (first | go_keep | exact hb1 | exact H5.cell 1 _ rfl | exact H6.cell 1 _ rfl | exact (H6.kp hk7).cell 1 _ rfl)
            ((first
              | (go_at_call 15
                 refine (ddo x (HB.out.kp (by first | exact Kp.refl _ _ | exact (Kp.refl _ _).drew)) hok.out.1).mono ?_
                 rintro e w5 ⟨rfl, H5⟩
                 rw [HRES.out] at H5 ⊢)
              | (go_at_call 20
                 refine (drdo x (H5.kp (by first | exact Kp.refl _ _ | exact (Kp.refl _ _).drew)) hok.out.1 HU.out res HRES.out).mono ?_
                 rintro e w6 ⟨rfl, used6, hu6, hd6, H6⟩)
              | (go_at_call 21
                 refine (isop_calls x _).mono ?_
                 rintro e w7 ⟨rfl, hk7⟩
                 have hk7 : Kp [] w6 w7 := by first | exact hk7 | exact (Kp.refl _ _).drew.trans hk7)
              | (go_at_call 22
                 refine (risop_calls x _).mono ?_
                 rintro e w8 ⟨rfl, rfl⟩)))
          all_goals
            have HF : Hid (DoSt w s r (.slice pd draws.length cd) draws res.2.1 res.2.2.1 (draws.drop used6) res.2.1 res.2.2.1 used6 bx [.int .i64 3, .int .i64 x] w7) := by
              have := H6.kp hk7; rw [hd6] at this; exact this
            have HOKF : Hid (OkM res.2.1 res.2.2.1 ∧ used6 ≤ t + 1) := ⟨hok2.out, by have := hok.out.2; omega⟩
            clear H5 H6 hb1 hu6 hd6 hk7
            generalize hW : w7 = W at *
            generalize res.1 = er at *
            generalize res.2.1 = L2 at *
            generalize res.2.2.1 = S2 at *
            obtain ⟨p9, c9, hr9, hi9, _, _, _⟩ := HF.out.rl
            have HI9 : Hid (∀ V, Kp [] W V → IsInts .i64 V (.slice p9 (L2).length c9) (L2)) := fun V hV => hi9.kp hV (by simp)
            have HR9 : Hid (∀ V, Kp [] W V → V.cell? ⟨r, 0, none⟩ = some (.slice p9 (L2).length c9)) := fun V hV => hV.cell hr9 (by simp)
            have hL9 : Hid ((L2).length ≤ 48) := HOKF.out.1.1
            have hkW : Hid (Kp [] w W) := HF.out.base
            clear hi9
            go_wp2_with fail
            go_region_held3 (fun w' => w'.cell? ⟨r, 0, none⟩ = some (.slice p9 (L2).length c9))
              (first | go_keep | exact HR9.out _ (by (repeat (first | exact Kp.refl _ _ | assumption | refine Kp.drew ?_ | refine Kp.drewN ?_ _ | refine Kp.alloc ?_ _ | (refine Kp.setCell ?_ (by first | (left; simp; done) | (right; simp; try omega)) _) | (refine Kp.trans' ?_ (by assumption) (by simp; try omega))))) | exact HR9.out _ hk5 | exact HR9.out _ hk5.drew | exact HR9.out _ (hk5.trans hk6) | exact HR9.out _ (hk5.trans hk6).drew)
              ((first
                | (go_at_call 17
                   refine (dall (HF.out.kp (by first | exact Kp.refl _ _ | exact (Kp.refl _ _).drew)) hL9.out).mono ?_
                   rintro e w5 ⟨v5, rfl, hi5, hk5, H5⟩
                   obtain ⟨p5, c5, rfl⟩ := islc hi5
                   have hk5 : Kp [] W w5 := by first | exact hk5 | exact (Kp.refl _ _).drew.trans hk5)
                | (go_at_call 16
                   refine (same_true _ _ (L2) _ (hi5.kp (S := []) (by first | exact Kp.refl _ _ | exact (Kp.refl _ _).drew) (by simp)) (HI9.out _ (by first | exact hk5 | exact hk5.drew))).mono ?_
                   rintro e w6 ⟨rfl, hk6⟩
                   have hk6 : Kp [] w5 w6 := by first | exact hk6 | exact (Kp.refl _ _).drew.trans hk6)
                | (go_at_call 13
                   refine (dlen (HF.out.kp (by first | exact hk5.trans hk6 | exact (hk5.trans hk6).drew))).mono ?_
                   rintro e w7 ⟨rfl, rfl⟩)))
            all_goals
              clear hr9 hi5
              go_wp2_with fail
              go_roundw
              case rel => first | exact ⟨t + 1, used6, L2, S2, by omega, by omega, by go_num, HOKF.out, (HF.out.kp (by first | exact hk5.trans hk6 | exact (hk5.trans hk6).drew)).nobox⟩ | ((repeat apply Exists.intro); exact ⟨⟨t + 1, used6, L2, S2, by omega, by omega, by go_num, HOKF.out, (HF.out.kp (by first | exact hk5.trans hk6 | exact (hk5.trans hk6).drew)).nobox⟩, rfl⟩)
              case measure => simp [intOf]; omega
        by_cases hk4 : kd = 4
        · subst hk4
          have HB0 := H1.out.box #[.int .i64 4, .int .i64 x] 44
          have hDB : Kp [] wr (wr.alloc (.cells #[.int .i64 4, .int .i64 x] 44)) := (Kp.refl _ _).alloc _
          go_wp2_with fail
          generalize wr.alloc (.cells #[.int .i64 4, .int .i64 x] 44) = wb at *
          generalize wr.heap.size = bx at *
          have HB := Lib.hid HB0
          have hb1 := HB.out.cell 1 (.int .i64 x) rfl
          clear HB0 hc0 hc1
          obtain ⟨p4, c4, hr4, hi4, _, _, hks4⟩ := HB.out.rl
          have HKS := Lib.hid hks4
          clear hi4 hks4
          go_region_held3 (fun w' => w'.cell? ⟨r, 0, none⟩ = some (.slice p4 l.length c4))
            (first | go_keep | exact hr4 | exact HKS.out _ hk5 | exact (hk6.cell (HKS.out _ hk5) (by simp)))
            ((first
              | (go_at_call 23
                 refine (dtake (HB.out.kp (by first | exact Kp.refl _ _ | exact (Kp.refl _ _).drew))).mono ?_
                 rintro e w5 ⟨v5, rfl, hi5, hk5, H5⟩
                 obtain ⟨p5, c5, rfl⟩ := islc hi5
                 have hk5 : Kp [s] wb w5 := by first | exact hk5 | exact (Kp.refl _ _).drew.trans hk5
                 have hi6 : IsInts .i64 w5 (.slice p4 l.length c4) l := by
                   obtain ⟨p6, c6, hr6, hi6, _, _, _⟩ := H5.rl
                   rw [HKS.out _ hk5] at hr6
                   cases hr6; exact hi6)
              | (go_at_call 16
                 refine (same_true _ _ l _ (hi5.kp (S := []) (by first | exact Kp.refl _ _ | exact (Kp.refl _ _).drew) (by simp)) (hi6.kp (S := []) (by first | exact Kp.refl _ _ | exact (Kp.refl _ _).drew) (by simp))).mono ?_
                 rintro e w6 ⟨rfl, hk6⟩
                 have hk6 : Kp [] w5 w6 := by first | exact hk6 | exact (Kp.refl _ _).drew.trans hk6)))
          all_goals
            obtain ⟨p7, c7, hr7, hi7, f7, H7, _⟩ := (H5.kp hk6).rl
            obtain ⟨L0, hL0⟩ : ∃ L0 : List Int, L0 = [] := ⟨_, rfl⟩
            rw [← hL0] at H7
            have HF := Lib.hid H7
            have HOKF : Hid (OkM L0 st ∧ used ≤ t + 1) := ⟨by rw [hL0]; exact ⟨by simp, by simp, hok.out.1.2.2⟩, by have := hok.out.2; omega⟩
            clear hL0
            clear H5 hi5 hi6 hk5 hk6 hr4 hi7 H7 hb1
            go_wp2_with fail
            generalize w6.setCell ⟨r, 0, none⟩ (.slice none 0 0) = W at *
            obtain ⟨p9, c9, hr9, hi9, _, _, _⟩ := HF.out.rl
            have HI9 : Hid (∀ V, Kp [] W V → IsInts .i64 V (.slice p9 (L0).length c9) (L0)) := fun V hV => hi9.kp hV (by simp)
            have HR9 : Hid (∀ V, Kp [] W V → V.cell? ⟨r, 0, none⟩ = some (.slice p9 (L0).length c9)) := fun V hV => hV.cell hr9 (by simp)
            have hL9 : Hid ((L0).length ≤ 48) := HOKF.out.1.1
            have hkW : Hid (Kp [] w W) := HF.out.base
            clear hi9
            go_wp2_with fail
            go_region_held3 (fun w' => w'.cell? ⟨r, 0, none⟩ = some (.slice p9 (L0).length c9))
              (first | go_keep | exact HR9.out _ (by (repeat (first | exact Kp.refl _ _ | assumption | refine Kp.drew ?_ | refine Kp.drewN ?_ _ | refine Kp.alloc ?_ _ | (refine Kp.setCell ?_ (by first | (left; simp; done) | (right; simp; try omega)) _) | (refine Kp.trans' ?_ (by assumption) (by simp; try omega))))) | exact HR9.out _ hk5 | exact HR9.out _ hk5.drew | exact HR9.out _ (hk5.trans hk6) | exact HR9.out _ (hk5.trans hk6).drew)
              ((first
                | (go_at_call 17
                   refine (dall (HF.out.kp (by first | exact Kp.refl _ _ | exact (Kp.refl _ _).drew)) hL9.out).mono ?_
                   rintro e w5 ⟨v5, rfl, hi5, hk5, H5⟩
                   obtain ⟨p5, c5, rfl⟩ := islc hi5
                   have hk5 : Kp [] W w5 := by first | exact hk5 | exact (Kp.refl _ _).drew.trans hk5)
                | (go_at_call 16
                   refine (same_true _ _ (L0) _ (hi5.kp (S := []) (by first | exact Kp.refl _ _ | exact (Kp.refl _ _).drew) (by simp)) (HI9.out _ (by first | exact hk5 | exact hk5.drew))).mono ?_
                   rintro e w6 ⟨rfl, hk6⟩
                   have hk6 : Kp [] w5 w6 := by first | exact hk6 | exact (Kp.refl _ _).drew.trans hk6)
                | (go_at_call 13
                   refine (dlen (HF.out.kp (by first | exact hk5.trans hk6 | exact (hk5.trans hk6).drew))).mono ?_
                   rintro e w7 ⟨rfl, rfl⟩)))
            all_goals
              clear hr9 hi5
              go_wp2_with fail
              go_roundw
              case rel => first | exact ⟨t + 1, used, L0, st, by omega, by omega, by go_num, HOKF.out, (HF.out.kp (by first | exact hk5.trans hk6 | exact (hk5.trans hk6).drew)).nobox⟩ | ((repeat apply Exists.intro); exact ⟨⟨t + 1, used, L0, st, by omega, by omega, by go_num, HOKF.out, (HF.out.kp (by first | exact hk5.trans hk6 | exact (hk5.trans hk6).drew)).nobox⟩, rfl⟩)
              case measure => simp [intOf]; omega
        have HB0 := H1.out.box #[.int .i64 kd, .int .i64 x] 44
        have hDB : Kp [] wr (wr.alloc (.cells #[.int .i64 kd, .int .i64 x] 44)) := (Kp.refl _ _).alloc _
        go_wp2_with fail
        generalize wr.alloc (.cells #[.int .i64 kd, .int .i64 x] 44) = wb at *
        generalize wr.heap.size = bx at *
        have HB := Lib.hid HB0
        clear HB0 hc0 hc1
        have HF := HB
        have HOKF : Hid (OkM l st ∧ used ≤ t + 1) := ⟨hok.out.1, by have := hok.out.2; omega⟩
        clear HB
        generalize hW : wb = W at *
        obtain ⟨p9, c9, hr9, hi9, _, _, _⟩ := HF.out.rl
        have HI9 : Hid (∀ V, Kp [] W V → IsInts .i64 V (.slice p9 (l).length c9) (l)) := fun V hV => hi9.kp hV (by simp)
        have HR9 : Hid (∀ V, Kp [] W V → V.cell? ⟨r, 0, none⟩ = some (.slice p9 (l).length c9)) := fun V hV => hV.cell hr9 (by simp)
        have hL9 : Hid ((l).length ≤ 48) := HOKF.out.1.1
        have hkW : Hid (Kp [] w W) := HF.out.base
        clear hi9
        go_wp2_with fail
        go_region_held3 (fun w' => w'.cell? ⟨r, 0, none⟩ = some (.slice p9 (l).length c9))
          (first | go_keep | exact HR9.out _ (by (repeat (first | exact Kp.refl _ _ | assumption | refine Kp.drew ?_ | refine Kp.drewN ?_ _ | refine Kp.alloc ?_ _ | (refine Kp.setCell ?_ (by first | (left; simp; done) | (right; simp; try omega)) _) | (refine Kp.trans' ?_ (by assumption) (by simp; try omega))))) | exact HR9.out _ hk5 | exact HR9.out _ hk5.drew | exact HR9.out _ (hk5.trans hk6) | exact HR9.out _ (hk5.trans hk6).drew)
          ((first
            | (go_at_call 17
               refine (dall (HF.out.kp (by first | exact Kp.refl _ _ | exact (Kp.refl _ _).drew)) hL9.out).mono ?_
               rintro e w5 ⟨v5, rfl, hi5, hk5, H5⟩
               obtain ⟨p5, c5, rfl⟩ := islc hi5
               have hk5 : Kp [] W w5 := by first | exact hk5 | exact (Kp.refl _ _).drew.trans hk5)
            | (go_at_call 16
               refine (same_true _ _ (l) _ (hi5.kp (S := []) (by first | exact Kp.refl _ _ | exact (Kp.refl _ _).drew) (by simp)) (HI9.out _ (by first | exact hk5 | exact hk5.drew))).mono ?_
               rintro e w6 ⟨rfl, hk6⟩
               have hk6 : Kp [] w5 w6 := by first | exact hk6 | exact (Kp.refl _ _).drew.trans hk6)
            | (go_at_call 13
               refine (dlen (HF.out.kp (by first | exact hk5.trans hk6 | exact (hk5.trans hk6).drew))).mono ?_
               rintro e w7 ⟨rfl, rfl⟩)))
        all_goals
          clear hr9 hi5
          go_wp2_with fail
          go_roundw
          case rel => first | exact ⟨t + 1, used, l, st, by omega, by omega, by go_num, HOKF.out, (HF.out.kp (by first | exact hk5.trans hk6 | exact (hk5.trans hk6).drew)).nobox⟩ | ((repeat apply Exists.intro); exact ⟨⟨t + 1, used, l, st, by omega, by omega, by go_num, HOKF.out, (HF.out.kp (by first | exact hk5.trans hk6 | exact (hk5.trans hk6).drew)).nobox⟩, rfl⟩)
          case measure => simp [intOf]; omega
      · have h300 : ¬ ((t : Int) < 300) := by omega
        have hk := H1.out.base
        go_wp2_with fail
        go_ret
        exact ⟨rfl, hk⟩
    · have hk := H1.out.base
      obtain rfl : t = n := by omega
      go_wp2_with fail
      go_ret
      exact ⟨rfl, hk⟩
end Go.Proofs.Ytlnmpffpieofeaa

/- stack: slices.Clone of integers, All, New, Pop. -/
import Derived.Test.YtfgpocpfapnkkaaGreatStB
import Derived.Lib.SliceRun
namespace Go.Proofs.YtfgpocpfapnkkaaGreat
open Go.RowKit
set_option linter.unusedVariables false
set_option linter.unusedSimpArgs false
set_option maxRecDepth 100000 in
theorem clonei_calls (v : Value) (zs : List Int) (w : World) (h : IsInts .i64 w v zs) (hl : zs.length ≤ 1000000000) :
    Calls Tryz.prog 23 #[v] w fun e w' => ∃ v', e = .returned v' ∧ OwnC w' w.heap.size 3 v' zs ∧ Kp [] w w' ∧ ∀ b, blockOf v' = some b → w.heap.size ≤ b := by
  have H : Hid (IsInts .i64 w v zs) := h
  have HL : Hid _ := hl
  clear hl
  obtain ⟨pa, ca, hva⟩ : ∃ p c, v = .slice p zs.length c := by
    rcases h with ⟨⟨ad, rfl⟩, rfl⟩ | ⟨g, off, c, rfl, _⟩
    · exact ⟨_, 0, rfl⟩
    · exact ⟨_, c, rfl⟩
  subst hva
  cases pa with
  | none =>
    have hz : zs = [] ∧ ca = 0 := by
      rcases h with ⟨⟨ad, e⟩, rfl⟩ | ⟨g, off, c, e, _⟩
      · cases e; exact ⟨rfl, rfl⟩
      · cases e
    obtain ⟨rfl, rfl⟩ := hz
    clear h H HL
    show Calls Tryz.prog 23 #[.slice none 0 0] w _
    have hq := Lib.run_eql_slice_nil (P := Tryz.prog) w 24 3 none 0 0 0 0 Tryz.underlying24
    simp only [Option.isNone] at hq
    go_enter Tryz.func23, Tryz.ntmps23
    go_wp2_with fail
    go_ret
    exact ⟨_, rfl, .inl ⟨rfl, rfl⟩, Kp.refl _ _, fun b hb => by simp at hb⟩
  | some ad =>
    clear h
    have hq := Lib.run_eql_slice_nil (P := Tryz.prog) w 24 3 (some ad) zs.length ca 0 0 Tryz.underlying24
    simp only [Option.isNone] at hq
    go_enter Tryz.func23, Tryz.ntmps23
    go_wp2_with (at_builtin; refine wpList_app rfl _ _ 24 rfl w.heap.size 3 (.int .i64 0) 1 8 Tryz.underlying24 infoIntS rfl (by decide) (by decide) (.slice (some ⟨w.heap.size, 0, none⟩) 0 0) 0 [] rfl ?hown (.slice (some ad) zs.length ca) zs.length (zs.map (Value.int .i64)) rfl ?hsrc (oneCell_ints _ _) ?hb1 ?hb2 ?hk)
    case hown => exact own_empty _ _ _ _ _ rfl (by omega)
    case hsrc => exact (H.out.kp (S := []) ((Kp.refl _ _).alloc _) (by simp)).reads
    case hb1 => have := HL.out; first | omega | (simp; omega) | simp
    case hb2 => first | omega | (simp; omega) | simp
    case hk =>
    intro v1 w1 hown hgr
    try simp only [Nat.zero_add, List.nil_append] at hown
    have hk1 : Kp [] w w1 := Kp.grown ((Kp.refl _ _).alloc _) hgr (by intro k hk; right; simp [Value.ownBlock] at hk; omega)
    have hge := own_geb hown
    have hi : Hid (OwnC w1 w.heap.size 3 v1 zs) := OwnC.owned (Nat.le_refl _) rfl hown
    clear hown hgr
    go_wp2_with fail
    go_ret
    exact ⟨_, rfl, hi.out, hk1, fun b hb => hge b hb⟩
def zeros32 : List Int := List.replicate 32 0
set_option maxRecDepth 100000 in
set_option maxHeartbeats 4000000 in
theorem snew_calls (v : Value) (dr : List Int) (w : World) (h : IsInts .i64 w v dr) (hl : dr.length ≤ 1000000000) :
    Calls Tryz.prog 17 #[v] w fun e w' => ∃ s vd, e = .returned (.pointer (some ⟨s, 0, none⟩)) ∧ StS w' s w.heap.size (.slice none 0 0) [] zeros32 vd dr ∧ Kp [] w w' := by
  have H : Hid (IsInts .i64 w v dr) := h
  obtain ⟨pa, ca, hva⟩ : ∃ p c, v = .slice p dr.length c := by
    rcases h with ⟨⟨ad, rfl⟩, rfl⟩ | ⟨g, off, c, rfl, _⟩
    · exact ⟨_, 0, rfl⟩
    · exact ⟨_, c, rfl⟩
  subst hva
  clear h
  go_enter Tryz.func17, Tryz.ntmps17
  go_wp2_with fail
  refine (clonei_calls _ dr w H.out hl).mono ?_; rintro e w1 ⟨v1, rfl, ho, hk, hb⟩
  obtain ⟨p', c', rfl⟩ := ho.form
  have hfin : Hid (∀ cs : Array Value, cs = (.slice none 0 0 :: (zeros32.map (Value.int .i64) ++ [.slice p' dr.length c'])).toArray → StS (w1.alloc (.cells cs 61)) w1.heap.size w.heap.size (.slice none 0 0) [] zeros32 (.slice p' dr.length c') dr) := fun cs hc => by
    subst hc
    refine ⟨heap_alloc_new w1 _, rfl, hk.size, .inl ⟨rfl, rfl⟩, by simp [Value.ownBlock], ho.ints.kp (S := []) ((Kp.refl _ _).alloc _) (by simp), fun b hb2 => ?_⟩
    have h1 := ho.lt b (blockOf_own hb2)
    exact ⟨by omega, by simp [Value.ownBlock], h1.1, by simp; omega⟩
  clear ho hb
  go_wp2_with fail
  go_ret
  exact ⟨_, _, rfl, hfin.out _ rfl, hk.alloc _⟩
set_option maxRecDepth 100000 in
set_option maxHeartbeats 4000000 in
theorem pop_calls (s base : Nat) (vl vd : Value) (l st dr : List Int) (x : Int) (w : World) (h : StS w s base vl (l ++ [x]) st vd dr) (hl : l.length ≤ 1000) :
    Calls Tryz.prog 52 #[.pointer (some ⟨s, 0, none⟩)] w fun e w' => e = .returned (.tuple #[.int .i64 x, .int .i64 0]) ∧ ∃ vl', StS w' s base vl' l st vd dr ∧ StK w w' s vl vl' := by
  have c0 := h.cell0
  have hpop : ∃ g c, vl = .slice (some ⟨g, 0, none⟩) (l.length + 1) c ∧ w.cell? ⟨g, l.length, none⟩ = some (.int .i64 x) ∧ l.length + 1 ≤ c ∧ OwnC w base 3 (.slice (some ⟨g, 0, none⟩) l.length c) l := by
    have ho := h.2.2.2.1
    rcases h.2.2.2.1 with ⟨_, h0⟩ | ⟨g, cap, cur, rfl, h1, h2, h3, h4, h5, h6⟩
    · simp at h0
    · refine ⟨g, cap, by simp, ?_, by simpa using h3, OwnC.pop (x := x) ho⟩
      rw [cell_of_row w g _ _ _ _ h2, ← Array.getElem?_toList, take_getD h6 l.length (by simp)]
      simp
  obtain ⟨g, c, rfl, hcx, hlc, hown⟩ := hpop
  have hput := h.put' (v' := .slice (some ⟨g, 0, none⟩) l.length c) (l' := l) (Kp.refl _ w) hown (fun k e => .inl e)
  have H : Hid (∀ w1, Kp [] w w1 → StS (w1.setCell ⟨s, 0, none⟩ (.slice (some ⟨g, 0, none⟩) l.length c)) s base (.slice (some ⟨g, 0, none⟩) l.length c) l st vd dr ∧ StK w (w1.setCell ⟨s, 0, none⟩ (.slice (some ⟨g, 0, none⟩) l.length c)) s (.slice (some ⟨g, 0, none⟩) (l.length + 1) c) (.slice (some ⟨g, 0, none⟩) l.length c)) := fun w1 hk => by
    exact h.put' (hk.more (fun t ht => nomatch ht)) (hown.kp hk (fun t ht => nomatch ht)) (fun k e => .inl e)
  have HB := Lib.hid h.1
  have hw9 : IntKind.i64.wrap ((l.length : Int) + 1 - 1) = l.length := by rw [IntKind.wrap_i64]; omega
  have hli : (l.length : Int) < (l.length : Int) + 1 := by omega
  have q0 := KW.cell c0
  have q1 := KW.cell hcx
  have hlcI : (l.length : Int) ≤ c := by omega
  clear h hput hown
  go_enter Tryz.func52, Tryz.ntmps52
  go_wp2_with fail
  refine wp_region_kq (by kernel_rfl) (by kernel_rfl) ?_
  repeat (go_big_quiet_step (fail))
  refine wpQuiet_nil ?_
  intro w1 hw'
  obtain ⟨⟨_, hkw1⟩, rfl⟩ := hw'
  have c1 := hkw1.cell c0 (by simp)
  have q2 := KW.cell c1
  clear q0 q1
  go_wp2_with fail
  refine wp_region_kqt 14 (by kernel_rfl) (by kernel_rfl) ?_
  simp only [List.take_succ_cons, List.take_zero, List.drop_succ_cons, List.drop_zero]
  repeat (go_big_quiet_step (fail))
  refine wpQuiet_nil ?_
  intro w2 hw'
  obtain ⟨⟨_, hkw2⟩, rfl⟩ := hw'
  try dsimp only
  have hk2 := hkw1.trans hkw2
  have hfin := Lib.hid (H.out _ hk2)
  have hb2 := hk2.heap HB.out (by simp)
  have c3 : w2.cell? ⟨s, 0, none⟩ = some (.slice (some ⟨g, 0, none⟩) (l.length + 1) c) := by rw [cell_of_row w2 s 0 _ _ _ hb2]; rfl
  have f3 : w2.frozen? ⟨s, 0, none⟩ = false := frozen_of_row w2 s 0 _ _ hb2
  clear hb2 q2 c1 c0
  go_wp2_with fail
  go_ret2
  exact ⟨rfl, _, hfin.out⟩
theorem pop_empty (s base : Nat) (vl vd : Value) (st dr : List Int) (w : World) (h : StS w s base vl [] st vd dr) :
    Calls Tryz.prog 52 #[.pointer (some ⟨s, 0, none⟩)] w fun e w' => e = .returned (.tuple #[.int .i64 0, .int .i64 170]) ∧ w = w' := by
  have c0 := h.cell0
  obtain ⟨p, c, rfl⟩ := h.2.2.2.1.form
  clear h
  go_enter Tryz.func52, Tryz.ntmps52
  go_wp2_with fail
  go_ret2
  exact ⟨rfl, rfl⟩
end Go.Proofs.YtfgpocpfapnkkaaGreat

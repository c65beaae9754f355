/- stack: random. -/
import Derived.Test.YtfgpocpfapnkkaaGreatStG
namespace Go.Proofs.YtfgpocpfapnkkaaGreat
open Go.RowKit
set_option linter.unusedVariables false
set_option linter.unusedSimpArgs false
theorem FullR.kp {S : List Nat} {w w' : World} {v : Value} {l : List Int} (h : FullR w v l) (hk : Kp S w w') (hS : ∀ s ∈ S, v.ownBlock ≠ some s) : FullR w' v l := by
  rcases h with h | ⟨g, rfl, h1, h2⟩
  · exact .inl h
  · exact .inr ⟨g, rfl, h1, fun i hi => hk.cell (h2 i hi) (fun hs => hS _ hs rfl)⟩
theorem StS.putDraws {w : World} {s base : Nat} {vl vd vd' : Value} {l st dr dr' : List Int} (h : StS w s base vl l st vd dr) (hd : IsInts .i64 w vd' dr') (hb : ∀ b, blockOf vd' = some b → blockOf vd = some b) : StS (w.setCell ⟨s, 33, none⟩ vd') s base vl l st vd' dr' := by
  obtain ⟨c1, c2, c3, c4, c5, c6, c7⟩ := h
  have hk : Kp [s] w (w.setCell ⟨s, 33, none⟩ vd') := (Kp.refl _ _).setCell (.inl (by simp)) _
  refine ⟨?_, c2, c3, c4.kp hk (fun t ht => by simp at ht; subst ht; exact c5), c5, hd.kp hk (fun t ht => by simp at ht; subst ht; exact fun e => (c7 _ (hb _ e)).1 rfl), fun b hb2 => by obtain ⟨x1, x2, x3, x4⟩ := c7 b (hb b hb2); exact ⟨x1, x2, x3, Nat.lt_of_lt_of_le x4 hk.size⟩⟩
  rw [heap_setCell_same w s 33 _ _ vd' c1]
  congr 2
  simp only [List.setIfInBounds_toArray, List.set_cons_succ]
  rw [List.set_append_right _ _ (by simp; omega)]
  simp [c2]
set_option maxRecDepth 100000 in
set_option maxHeartbeats 2000000 in
theorem random_full (s : Addr) (p : Option Addr) (w : World) (p2 : Option Addr) (n2 c2 : Nat) :
    Calls Tryz.prog 114 #[.pointer (some s), .slice p 48 48, .slice p2 n2 c2] w fun e w' => e = .returned (.tuple #[.slice none 0 0, .int .i64 170]) ∧ Kp [] w w' := by
  go_enter Tryz.func114, Tryz.ntmps114
  go_wp2_with fail
  go_ret2
  exact ⟨by first | rfl | simp, Kp.refl _ _⟩
set_option maxRecDepth 100000 in
set_option maxHeartbeats 2000000 in
theorem random_nil (s base : Nat) (vl vd : Value) (l st : List Int) (lowv : Value) (lo : List Int) (w : World) (hs : StS w s base vl l st vd []) (hlo : FullR w lowv lo) (hll : lo.length < 48) (p2 : Option Addr) (n2 c2 : Nat) :
    Calls Tryz.prog 114 #[.pointer (some ⟨s, 0, none⟩), lowv, .slice p2 n2 c2] w fun e w' => ∃ v', e = .returned (.tuple #[v', .int .i64 0]) ∧ OwnC w' w.heap.size 3 v' (lo ++ [65536]) ∧ Kp [] w w' := by
  have HLO := Lib.hid hlo
  obtain ⟨pl, rfl⟩ := hlo.form
  have h48 : ((lo.length : Int) == 48) = false := beq_eq_false_iff_ne.2 (by omega)
  have h48' : decide ((lo.length : Int) = 48) = false := decide_eq_false (by omega)
  have c0 := hs.draws
  obtain ⟨pd, cd, rfl⟩ : ∃ p c, vd = .slice p 0 c := by
    rcases hs.2.2.2.2.2.1 with ⟨⟨ad, rfl⟩, _⟩ | ⟨g, off, c, rfl, _⟩
    · exact ⟨_, _, rfl⟩
    · exact ⟨_, _, rfl⟩
  clear hlo hs
  go_enter Tryz.func114, Tryz.ntmps114
  go_wp2_with (at_builtin; refine wpList_growC rfl _ _ 24 rfl 3 Tryz.underlying24 infoIntS _ lo rfl (HLO.out.kp0 ((Kp.refl [] w).alloc _)) ⟨w.heap.size, 0, none⟩ 1 1 [65536] rfl rfl (by decide) (lit_cells1 (box1 (Kp.refl [] _))) (by omega) ?hk)
  case hk =>
  intro v' w9 ho hk
  have ho2 := Lib.hid (OwnC_mono ho (b' := w.heap.size) (by simp))
  have hk2 : Kp [] w w9 := by (repeat (first | exact Kp.refl _ _ | assumption | refine Kp.drew ?_ | refine Kp.drewN ?_ _ | refine Kp.alloc ?_ _ | (refine Kp.setCell ?_ (by first | (left; simp; done) | (right; simp; try omega)) _) | (refine Kp.trans' ?_ (by assumption) (by simp; try omega))))
  obtain ⟨p', c', rfl⟩ := ho.form
  clear ho hk
  go_wp2_with fail
  go_ret2
  exact ⟨_, rfl, ho2.out, hk2⟩
set_option maxRecDepth 100000 in
set_option maxHeartbeats 2000000 in
theorem random_draw (s base : Nat) (vl vd : Value) (l st : List Int) (d0 : Int) (dr : List Int) (lowv : Value) (lo : List Int) (w : World) (hs : StS w s base vl l st vd (d0 :: dr)) (hlo : FullR w lowv lo) (hls : lowv.ownBlock ≠ some s) (hll : lo.length < 48) (p2 : Option Addr) (n2 c2 : Nat) :
    Calls Tryz.prog 114 #[.pointer (some ⟨s, 0, none⟩), lowv, .slice p2 n2 c2] w fun e w' => ∃ v' vd', e = .returned (.tuple #[v', .int .i64 0]) ∧ OwnC w' w.heap.size 3 v' (lo ++ [1 + d0 % 65536]) ∧ StS w' s base vl l st vd' dr ∧ (∀ b, blockOf vd' = some b → blockOf vd = some b) ∧ Kp [s] w w' := by
  have HLO := Lib.hid hlo
  obtain ⟨pl, rfl⟩ := hlo.form
  have h48 : ((lo.length : Int) == 48) = false := beq_eq_false_iff_ne.2 (by omega)
  have h48' : decide ((lo.length : Int) = 48) = false := decide_eq_false (by omega)
  have c0 := hs.draws
  have f0 := hs.frozen 33
  obtain ⟨gd, od, cd, rfl, hcd1, hcd2, hcd⟩ : ∃ g off c, vd = .slice (some ⟨g, off, none⟩) (dr.length + 1) c ∧ dr.length + 1 ≤ c ∧ c ≤ maxLen ∧ ∀ i, i < dr.length + 1 → w.cell? ⟨g, off + i, none⟩ = some (.int .i64 ((d0 :: dr).getD i 0)) := by
    rcases hs.2.2.2.2.2.1 with ⟨⟨ad, rfl⟩, h0⟩ | ⟨g, off, c, rfl, x1, x2, x3⟩
    · cases h0
    · exact ⟨g, off, c, by simp, by simpa using x1, x2, fun i hi => x3 i (by simpa using hi)⟩
  have hd0 := hcd 0 (by omega)
  rw [Nat.add_zero] at hd0
  have hd1 : w.cell? ⟨gd, od, none⟩ = some (.int .i64 d0) := by simpa using hd0
  have hmask := i64_and65535 d0
  have hw1 : IntKind.i64.wrap (1 + d0 % 65536) = 1 + d0 % 65536 := by rw [IntKind.wrap_i64]; omega
  clear hd0
  by_cases hc1 : cd = 1
  · subst hc1
    have hdr : dr = [] := List.eq_nil_of_length_eq_zero (by omega)
    subst hdr
    have hs5 := Lib.hid (hs.putDraws (vd' := .slice (some ⟨gd, od, none⟩) 0 0) (dr' := []) (.inl ⟨⟨_, rfl⟩, rfl⟩) (fun b hb => by simp at hb))
    have hB5 := Lib.hid (show ∀ b, blockOf (.slice (some ⟨gd, od, none⟩) 0 0) = some b → blockOf (.slice (some ⟨gd, od, none⟩) (([] : List Int).length + 1) 1) = some b from fun b hb => by simp at hb)
    have HL5 : Hid (FullR (w.setCell ⟨s, 33, none⟩ (.slice (some ⟨gd, od, none⟩) 0 0)) (.slice pl lo.length lo.length) lo) := HLO.out.kp (S := [s]) ((Kp.refl _ _).setCell (.inl (by simp)) _) (fun t ht => by simp at ht; subst ht; exact hls)
    have hkS : Kp [s] w (w.setCell ⟨s, 33, none⟩ (.slice (some ⟨gd, od, none⟩) 0 0)) := (Kp.refl _ _).setCell (.inl (by simp)) _
    clear hlo hs hcd
    go_enter Tryz.func114, Tryz.ntmps114
    go_wp2_with (at_builtin; refine wpList_growC rfl _ _ 24 rfl 3 Tryz.underlying24 infoIntS (.slice pl lo.length lo.length) lo rfl (HL5.out.kp0 ((Kp.refl [] _).alloc _)) ⟨w.heap.size, 0, none⟩ 1 1 [1 + d0 % 65536] rfl rfl (by decide) (lit_cells1 (by first | exact (box1 (Kp.refl [] _)) | (simpa [World.setCell] using box1 (w := w.setCell ⟨s, 33, none⟩ (.slice (some ⟨gd, od, none⟩) 0 0)) (Kp.refl [] _)))) (by omega) ?hk)
    case hk =>
    intro v' w9 ho hk
    have ho2 := Lib.hid (OwnC_mono ho (b' := w.heap.size) (by simp [World.setCell]))
    have hs6 := Lib.hid (hs5.out.kp0 (((Kp.refl [] _).alloc _).trans hk))
    have hk2 : Kp [s] w w9 := (hkS.alloc _).trans0 hk
    obtain ⟨p', c', rfl⟩ := ho.form
    clear ho hk hs5 HL5 hkS
    go_wp2_with fail
    go_ret2
    exact ⟨_, _, rfl, ho2.out, hs6.out, hB5.out, hk2⟩
  · have hcI : ((cd : Int) == 1) = false := beq_eq_false_iff_ne.2 (by omega)
    have hs5 := Lib.hid (hs.putDraws (vd' := .slice (some ⟨gd, od + 1, none⟩) dr.length (cd - 1)) (dr' := dr) (.inr ⟨gd, od + 1, cd - 1, rfl, by omega, by omega, fun j hj => by have := hcd (j + 1) (by omega); rw [show od + 1 + j = od + (j + 1) by omega, this]; rfl⟩) (fun b hb => by obtain ⟨_, rfl⟩ := (blockOf_some _ _ _ _ _ _).1 hb; exact (blockOf_some _ _ _ _ _ _).2 ⟨by omega, rfl⟩))
    have hB5 := Lib.hid (show ∀ b, blockOf (.slice (some ⟨gd, od + 1, none⟩) dr.length (cd - 1)) = some b → blockOf (.slice (some ⟨gd, od, none⟩) (dr.length + 1) cd) = some b from fun b hb => by obtain ⟨_, rfl⟩ := (blockOf_some _ _ _ _ _ _).1 hb; exact (blockOf_some _ _ _ _ _ _).2 ⟨by omega, rfl⟩)
    have HL5 : Hid (FullR (w.setCell ⟨s, 33, none⟩ (.slice (some ⟨gd, od + 1, none⟩) dr.length (cd - 1))) (.slice pl lo.length lo.length) lo) := HLO.out.kp (S := [s]) ((Kp.refl _ _).setCell (.inl (by simp)) _) (fun t ht => by simp at ht; subst ht; exact hls)
    have hkS : Kp [s] w (w.setCell ⟨s, 33, none⟩ (.slice (some ⟨gd, od + 1, none⟩) dr.length (cd - 1))) := (Kp.refl _ _).setCell (.inl (by simp)) _
    clear hlo hs hcd
    go_enter Tryz.func114, Tryz.ntmps114
    go_wp2_with (at_builtin; refine wpList_growC rfl _ _ 24 rfl 3 Tryz.underlying24 infoIntS (.slice pl lo.length lo.length) lo rfl (HL5.out.kp0 ((Kp.refl [] _).alloc _)) ⟨w.heap.size, 0, none⟩ 1 1 [1 + d0 % 65536] rfl rfl (by decide) (lit_cells1 (by first | exact (box1 (Kp.refl [] _)) | (simpa [World.setCell] using box1 (w := w.setCell ⟨s, 33, none⟩ (.slice (some ⟨gd, od + 1, none⟩) dr.length (cd - 1))) (Kp.refl [] _)))) (by omega) ?hk)
    case hk =>
    intro v' w9 ho hk
    have ho2 := Lib.hid (OwnC_mono ho (b' := w.heap.size) (by simp [World.setCell]))
    have hs6 := Lib.hid (hs5.out.kp0 (((Kp.refl [] _).alloc _).trans hk))
    have hk2 : Kp [s] w w9 := (hkS.alloc _).trans0 hk
    obtain ⟨p', c', rfl⟩ := ho.form
    clear ho hk hs5 HL5 hkS
    go_wp2_with fail
    go_ret2
    exact ⟨_, _, rfl, ho2.out, hs6.out, hB5.out, hk2⟩
end Go.Proofs.YtfgpocpfapnkkaaGreat

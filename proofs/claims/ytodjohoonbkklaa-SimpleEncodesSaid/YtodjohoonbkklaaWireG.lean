/- The contracts of the layer wire: Data of the writer that has room; the reference's writer. --prune -/
import Derived.Test.YtodjohoonbkklaaWireE
import Derived.Test.YtodjohoonbkklaaWireC
import Derived.Deep.QuietTactic
import Derived.BigQuiet
namespace Go.Proofs.Ytodjohoonbkklaa
open Go.RowKit
set_option linter.unusedVariables false
set_option linter.unusedSimpArgs false
theorem WSt.wroteL {w w4 : World} {r : Nat} {room : Int} {v : Value} {ac news : List Int} {g4 c4 H : Nat} (h : WSt w r room v ac)
    (hown : w4.ownsRow (r + 1) 5 1 (.slice (some ⟨g4, 0, none⟩) (ac.length + news.length) c4) (ac.length + news.length) (ac.map (Value.int .u8) ++ news.map (Value.int .u8))) (hgr : w.grownBy w4 v.ownBlock) (hat : v.ownBlock = some g4 ∨ g4 = H) (hH : w.heap.size ≤ H) :
    WSt (w4.setCell ⟨r, 0, none⟩ (.slice (some ⟨g4, 0, none⟩) (ac.length + news.length) c4)) r room (.slice (some ⟨g4, 0, none⟩) (ac.length + news.length) c4) (ac ++ news) ∧ WK w (w4.setCell ⟨r, 0, none⟩ (.slice (some ⟨g4, 0, none⟩) (ac.length + news.length) c4)) r v (.slice (some ⟨g4, 0, none⟩) (ac.length + news.length) c4) := by
  obtain ⟨h1, h2, h3⟩ := h
  have hnr : r ∉ v.ownBlock.toList := by
    intro hm; cases hv : v.ownBlock with
    | none => simp [hv] at hm
    | some b => simp [hv] at hm; have := own_ge h2 _ hv; omega
  have hk4 : Kp v.ownBlock.toList w w4 := Kp.grown (Kp.refl _ _) hgr (fun k hk => .inl (by rw [hk]; simp))
  have hk5 : Kp [r] w4 (w4.setCell ⟨r, 0, none⟩ (.slice (some ⟨g4, 0, none⟩) (ac.length + news.length) c4)) := (Kp.refl _ _).setCell (.inl (by simp)) _
  have hs4 := hk4.size
  refine ⟨⟨heap_setCell_same w4 r 0 _ _ _ (hk4.heap h1 hnr), ?_, by simp [World.setCell]; omega⟩, ?_, ?_⟩
  · have := hk5.row hown (by intro s hs e; simp at hs; subst hs; have := own_ge hown _ e; omega)
    simpa using this
  · exact (hk4.more (fun s hs => .inl (List.mem_cons_of_mem _ hs))).trans (hk5.more (fun s hs => .inl (by simp at hs; simp [hs])))
  · intro k hk
    simp [Value.ownBlock] at hk; subst hk
    rcases hat with e | e
    · exact .inl e
    · exact .inr (by omega)
theorem WSt.out {w : World} {r : Nat} {room : Int} {v : Value} {acc : List Int} (h : WSt w r room v acc) (b : Nat) (hb : w.heap.size ≤ b) : b ∉ r :: v.ownBlock.toList := by
  intro hm
  rcases List.mem_cons.1 hm with rfl | hm
  · have := h.2.2; omega
  · cases hv : v.ownBlock with
    | none => simp [hv] at hm
    | some b' => simp [hv] at hm; have := h.2.1.lt _ hv; omega
set_option maxRecDepth 100000 in
theorem wdata_calls (r : Nat) (room : Int) (v : Value) (acc : List Int) (b : Value) (zs : List Int) (w : World) (h : WSt w r room v acc) (hb : IsInts .u8 w b zs) (hbr : ∀ k, blockOf b = some k → k ≠ r) (h0 : 0 < zs.length) (hn : (acc.length : Int) + zs.length ≤ room) (hr : room ≤ 1073741824) :
    Calls Try.prog 63 #[.pointer (some ⟨r, 0, none⟩), b] w fun e w' => e = .returned (.pointer (some ⟨r, 0, none⟩)) ∧ ∃ v', WSt w' r room v' (acc ++ zs) ∧ WK w w' r v v' := by
  obtain ⟨i0, hi, hz0, hz1, hz2⟩ := info_parts infoByte
  obtain ⟨g, off, c, rfl, g1, g2, g3⟩ : ∃ g off c, b = .slice (some ⟨g, off, none⟩) zs.length c ∧ zs.length ≤ c ∧ c ≤ maxLen ∧ ∀ i, i < zs.length → w.cell? ⟨g, off + i, none⟩ = some (.int .u8 (zs.getD i 0)) := by
    rcases hb with ⟨⟨a, rfl⟩, rfl⟩ | ⟨g, off, c, rfl, h1, h2, h3⟩
    · simp at h0
    · exact ⟨g, off, c, rfl, h1, h2, h3⟩
  have HB := Lib.hid hb
  have HG := Lib.hid g3
  have hgr := hbr g ((blockOf_some _ _ _ _ _ _).2 ⟨by omega, rfl⟩)
  clear hb g3 hbr
  go_enter Try.func63, Try.ntmps63
  go_wp2_with fail
  refine (wfits_calls r room v acc zs.length w h (by omega) (by omega) hr).mono ?_; rintro e w1 ⟨rfl, hs1, hk1⟩
  have hst : WSt w1 r room v acc ∧ WK w w1 r v v := ⟨hs1, hk1.more (fun s hs => .inl (by simp at hs; simp [hs])), fun k h => .inl h⟩
  have hal : acc.length + zs.length ≤ 1073741824 := by omega
  have HC := Lib.hid (HB.out.kp hk1 (by intro s hs e; simp at hs; subst hs; exact hgr ((blockOf_some _ _ _ _ _ _).1 e).2))
  obtain ⟨c0, c1, c2, f0, f2⟩ := hst.1.facts
  obtain ⟨p, c5, rfl⟩ := slice_own hst.1.2.1
  have HS := Lib.hid hst
  clear hs1 hk1 h hst
  have hnews : ∀ j u, (zs.map (Value.int .u8))[j]? = some u → w1.cell? ((⟨g, off, none⟩ : Addr).add j) = some u := by
    intro j u hu
    rw [add_lit]
    rcases HC.out.reads.2 with ⟨⟨a, e⟩, e0⟩ | ⟨g', off', c', e, _, _, h3⟩
    · omega
    · cases e; exact h3 j u hu
  go_wp2_with (at_builtin; go_loud (refine wpList_append_lies _ rfl _ _ 22 rfl (r + 1) 5 i0 (.int .u8 0) 1 1 Try.underlying22 hi hz0 hz1 hz2 rfl (by decide) (.slice p acc.length c5) acc.length (acc.map (Value.int .u8)) rfl HS.out.1.2.1 ⟨g, off, none⟩ zs.length c (zs.map (Value.int .u8)) rfl (by simp) hnews (oneCell_ints _ _) h0 (by unfold maxLen; omega) (by omega) (by have := HS.out.1.2.2; omega) w1.heap.size rfl ?hk))
  case hk =>
    intro g4 c4 w4 hown hgr4 hat hlt
    have hk4 : Kp (Value.slice p acc.length c5).ownBlock.toList w1 w4 := Kp.grown (Kp.refl _ _) hgr4 (fun k hk => .inl (by rw [hk]; simp))
    have hnr : r ∉ (Value.slice p acc.length c5).ownBlock.toList := by
      intro hm; cases hv : (Value.slice p acc.length c5).ownBlock with
      | none => simp [hv] at hm
      | some b => simp [hv] at hm; have := own_ge HS.out.1.2.1 _ hv; omega
    have hb4 := hk4.heap HS.out.1.1 hnr
    have c40 : w4.cell? ⟨r, 0, none⟩ = some (.slice p acc.length c5) := by rw [cell_of_row w4 r 0 _ _ _ hb4]; rfl
    have f40 := frozen_of_row w4 r 0 _ _ hb4
    obtain ⟨hw5, hk5⟩ := HS.out.1.wroteL hown hgr4 hat (by simp)
    have HW := Lib.hid hw5
    have HK := Lib.hid (HS.out.2.trans hk5)
    clear hw5 hk5 hown hgr4 hat hb4 hk4 hnr c0 c1 c2 f0 f2
    go_wp2_with fail
    go_ret
    exact ⟨rfl, _, HW.out, HK.out⟩
/-- Block r is a writer of the reference that is not full. -/
def RWt (w : World) (r : Nat) (room : Int) (acc : List Int) : Prop :=
  ∃ v, w.heap[r]? = some (.cells #[v, .int .i64 room, .bool false] 89 (0, 0)) ∧ IsInts .u8 w v acc ∧ (∀ k, blockOf v = some k → k ≠ r)
theorem RWt.kp {S : List Nat} {w w' : World} {r : Nat} {room : Int} {acc : List Int} (h : RWt w r room acc) (hk : Kp S w w') (hr : ∀ s ∈ S, s < r) (hS : ∀ v, w.cell? ⟨r, 0, none⟩ = some v → ∀ s ∈ S, blockOf v ≠ some s) : RWt w' r room acc := by
  obtain ⟨v, h1, h2, h3⟩ := h
  exact ⟨v, hk.heap h1 (fun hm => by have := hr _ hm; omega), h2.kp hk (hS v (by rw [cell_of_row w r 0 _ _ _ h1]; rfl)), h3⟩
theorem RWt.kp0 {w w' : World} {r : Nat} {room : Int} {acc : List Int} (h : RWt w r room acc) (hk : Kp [] w w') : RWt w' r room acc := h.kp hk (by simp) (by simp)
theorem RWt.lt {w : World} {r : Nat} {room : Int} {acc : List Int} (h : RWt w r room acc) : r < w.heap.size := by
  obtain ⟨v, h1, _⟩ := h; exact lt_of_block h1
theorem RWt.made (w : World) (room : Int) : RWt (w.alloc (.cells #[.slice none 0 0, .int .i64 room, .bool false] 89)) w.heap.size room [] :=
  ⟨_, heap_alloc_new w _, IsInts.nil _ _, by simp [blockOf]⟩
set_option maxRecDepth 100000 in
set_option maxHeartbeats 1000000 in
theorem rdata_calls (r : Nat) (room : Int) (acc : List Int) (b : Value) (zs : List Int) (w : World) (h : RWt w r room acc) (hb : IsInts .u8 w b zs) (hbr : ∀ k, blockOf b = some k → k ≠ r) (hn : (acc.length : Int) + zs.length ≤ room) (hr : room ≤ 1073741824) :
    Calls Try.prog 67 #[.pointer (some ⟨r, 0, none⟩), b] w fun e w' => e = .returned (.tuple #[]) ∧ RWt w' r room (acc ++ zs) ∧ Kp [r] w w' := by
  obtain ⟨v, h1, h2, h3⟩ := h
  have c0 : w.cell? ⟨r, 0, none⟩ = some v := by rw [cell_of_row w r 0 _ _ _ h1]; rfl
  have c1 : w.cell? ⟨r, 1, none⟩ = some (.int .i64 room) := by rw [cell_of_row w r 1 _ _ _ h1]; rfl
  have c2 : w.cell? ⟨r, 2, none⟩ = some (.bool false) := by rw [cell_of_row w r 2 _ _ _ h1]; rfl
  have f0 := frozen_of_row w r 0 _ _ h1
  have hlt := lt_of_block h1
  have HV := Lib.hid h2
  have HB := Lib.hid hb
  have H1 := Lib.hid h1
  have H3 := Lib.hid h3
  obtain ⟨pv, cv, rfl⟩ : ∃ p c, v = .slice p acc.length c := by
    rcases h2 with ⟨⟨ad, rfl⟩, rfl⟩ | ⟨g, off, c, rfl, _⟩
    · exact ⟨_, 0, rfl⟩
    · exact ⟨_, c, rfl⟩
  obtain ⟨pb, cb, rfl⟩ : ∃ p c, b = .slice p zs.length c := by
    rcases hb with ⟨⟨ad, rfl⟩, rfl⟩ | ⟨g, off, c, rfl, _⟩
    · exact ⟨_, 0, rfl⟩
    · exact ⟨_, c, rfl⟩
  have hX : decide (IntKind.i64.wrap (room - (acc.length : Int)) < zs.length) = false := by rw [IntKind.wrap_i64]; exact decide_eq_false (by omega)
  have hal : acc.length + zs.length ≤ 1073741824 := by omega
  have HBR := Lib.hid hbr
  clear h1 h2 h3 hb hbr
  go_enter Try.func67, Try.ntmps67
  go_wp2_with fail
  go_quiet (fail)
  try simp only [hX]
  clear hX
  have hkq : Kp [] w (w.drewN nq) := by (repeat (first | exact Kp.refl _ _ | assumption | refine Kp.drew ?_ | refine Kp.drewN ?_ _ | refine Kp.alloc ?_ _ | (refine Kp.setCell ?_ (by first | (left; simp; done) | (right; simp; try omega)) _) | (refine Kp.trans' ?_ (by assumption) (by simp; try omega))))
  replace HV := Lib.hid (HV.out.kp hkq (by simp))
  replace HB := Lib.hid (HB.out.kp hkq (by simp))
  replace H1 := Lib.hid (hkq.heap H1.out (by simp))
  replace c0 := hkq.cell c0 (by simp)
  replace f0 := frozen_of_row _ r 0 _ _ H1.out
  have HQ := Lib.hid hkq
  have hlt' : r < (w.drewN nq).heap.size := hlt
  have hsz : (w.drewN nq).heap.size = w.heap.size := rfl
  clear hkq hlt
  generalize w.drewN nq = w0 at *
  have d0 : (w0.alloc (.cells #[] 5)).cell? ⟨r, 0, none⟩ = some (.slice pv acc.length cv) := Kp.cell (S := []) (by (repeat (first | exact Kp.refl _ _ | assumption | refine Kp.drew ?_ | refine Kp.drewN ?_ _ | refine Kp.alloc ?_ _ | (refine Kp.setCell ?_ (by first | (left; simp; done) | (right; simp; try omega)) _) | (refine Kp.trans' ?_ (by assumption) (by simp; try omega))))) c0 (by simp)
  go_wp2_with (at_builtin; refine wpList_app rfl _ _ 22 rfl w.heap.size 5 (.int .u8 0) 1 1 Try.underlying22 infoByte rfl (by decide) (by decide) (.slice (some ⟨w.heap.size, 0, none⟩) 0 0) 0 [] rfl ?hown (.slice pv acc.length cv) acc.length (acc.map (Value.int .u8)) rfl ?hsrc (oneCell_ints _ _) ?hb1 ?hb2 ?hk)
  case hown => exact own_empty _ _ _ _ _ (by rw [hsz]) (by omega)
  case hsrc => exact (HV.out.kp (S := []) (by (repeat (first | exact Kp.refl _ _ | assumption | refine Kp.drew ?_ | refine Kp.drewN ?_ _ | refine Kp.alloc ?_ _ | (refine Kp.setCell ?_ (by first | (left; simp; done) | (right; simp; try omega)) _) | (refine Kp.trans' ?_ (by assumption) (by simp; try omega))))) (by simp)).reads
  case hb1 => omega
  case hb2 => simp; omega
  case hk =>
  intro v1 w1 hown hgr
  try simp only [Nat.zero_add, List.nil_append] at hown
  have hk1 : Kp [] w0 w1 := Kp.grown (by (repeat (first | exact Kp.refl _ _ | assumption | refine Kp.drew ?_ | refine Kp.drewN ?_ _ | refine Kp.alloc ?_ _ | (refine Kp.setCell ?_ (by first | (left; simp; done) | (right; simp; try omega)) _) | (refine Kp.trans' ?_ (by assumption) (by simp; try omega))))) hgr (by intro k hk; right; simp [Value.ownBlock] at hk; omega)
  have HO := Lib.hid hown
  obtain ⟨p1, q1, rfl⟩ := slice_own hown
  clear hown hgr
  go_wp2_with (at_builtin; refine wpList_app rfl _ _ 22 rfl w.heap.size 5 (.int .u8 0) 1 1 Try.underlying22 infoByte rfl (by decide) (by decide) (.slice p1 acc.length q1) acc.length (acc.map (Value.int .u8)) rfl ?hown (.slice pb zs.length cb) zs.length (zs.map (Value.int .u8)) rfl ?hsrc (oneCell_ints _ _) ?hb1 ?hb2 ?hk)
  case hown => exact HO.out
  case hsrc => exact (HB.out.kp hk1 (by simp)).reads
  case hb1 => omega
  case hb2 => have := hk1.size; omega
  case hk =>
  intro v2 w2 hown hgr
  obtain ⟨p2, q2, hv2⟩ := slice_own hown
  subst hv2
  have hk2 : Kp [] w0 w2 := hk1.trans' (Kp.grown (S := (Value.slice p1 acc.length q1).ownBlock.toList) (Kp.refl _ _) hgr (fun k hk => .inl (by rw [hk]; simp))) (fun t ht => .inr (by have := own_ge HO.out t (by simpa using ht); omega))
  have hb2 := hk2.heap H1.out (by simp)
  clear d0
  have d0 : w2.cell? ⟨r, 0, none⟩ = some (.slice pv acc.length cv) := by rw [cell_of_row w2 r 0 _ _ _ hb2]; rfl
  have e0 := frozen_of_row w2 r 0 _ _ hb2
  have hge : ∀ k, blockOf (.slice p2 (acc.length + zs.length) q2) = some k → k ≠ r := fun k hk => by have := own_geb hown k hk; omega
  have HO2 : Hid (IsInts .u8 w2 (.slice p2 (acc.length + zs.length) q2) (acc ++ zs)) := by
    show IsInts .u8 w2 (.slice p2 (acc.length + zs.length) q2) (acc ++ zs)
    refine IsInts.owned (n := acc.length + zs.length) (base := w.heap.size) (e := 5) ?_
    rw [List.map_append]; exact hown
  have hk3 : Kp [r] w2 (w2.setCell ⟨r, 0, none⟩ (.slice p2 (acc.length + zs.length) q2)) := (Kp.refl _ _).setCell (.inl (by simp)) _
  have HK3 := Lib.hid hk3
  have HH := Lib.hid (heap_setCell_same w2 r 0 _ _ (.slice p2 (acc.length + zs.length) q2) hb2)
  have HK2 := Lib.hid hk2
  have HGE := Lib.hid hge
  clear hown hgr hk1 hk2 hk3 hb2 hge
  go_wp2_with fail
  go_end0
  refine ⟨rfl, ⟨_, HH.out, HO2.out.kp HK3.out (by intro s hs e; simp at hs; subst hs; exact HGE.out _ e rfl), HGE.out⟩, ((HQ.out.trans HK2.out).more (by simp)).trans HK3.out⟩
set_option maxRecDepth 100000 in
theorem rwu_calls (r : Nat) (room : Int) (acc : List Int) (n : Nat) (x : Int) (h1 : 1 ≤ n) (h4 : n ≤ 4) (g1 : -9223372036854775808 ≤ x) (g2 : x ≤ 9223372036854775807) (w : World) (h : RWt w r room acc) (hn : (acc.length : Int) + n ≤ room) (hr : room ≤ 1073741824) :
    Calls Try.prog 66 #[.pointer (some ⟨r, 0, none⟩), .int .i64 n, .int .i64 x] w fun e w' => e = .returned (.tuple #[]) ∧ RWt w' r room (acc ++ bytesN n x) ∧ Kp [r] w w' := by
  have HW := Lib.hid h
  have hlt := h.lt
  clear h
  go_enter Try.func66, Try.ntmps66
  go_wp2_with fail
  refine (rbytes_calls n x h1 h4 g1 g2 _).mono ?_; rintro e w1 ⟨v, rfl, hown, hk1⟩
  have hge := own_geb hown
  have hi := IsInts.owned hown
  have HI := Lib.hid hi
  obtain ⟨p, c, rfl⟩ := slice_own hown
  clear hown hi
  go_wp2_with fail
  refine (rdata_calls r room acc _ (bytesN n x) _ (HW.out.kp0 hk1) HI.out (fun k hk => by have := hge k hk; omega) (by rw [bytesN_length]; exact hn) hr).mono ?_; rintro e w2 ⟨rfl, h2, hk2⟩
  have H2 := Lib.hid h2
  clear h2
  go_wp2_with fail
  go_end0
  exact ⟨rfl, H2.out, (hk1.more (by simp)).trans hk2⟩
end Go.Proofs.Ytodjohoonbkklaa

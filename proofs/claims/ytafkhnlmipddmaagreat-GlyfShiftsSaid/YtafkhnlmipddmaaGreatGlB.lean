/- glyf: the table's bytes. -/
import Derived.Test.YtafkhnlmipddmaaGreatGlM
import Derived.Test.YtafkhnlmipddmaaGreatOmD
import Derived.BigQuiet
import Derived.Deep.DeepCutAuto
namespace Go.Proofs.YtafkhnlmipddmaaGreat
open Go.RowKit
set_option linter.unusedVariables false
set_option linter.unusedSimpArgs false
/-- A glyph's bytes. -/
def gB (zs A : List Int) (g : Nat) : List Int := (zs.drop (A.getD g 0).toNat).take ((A.getD (g + 1) 0).toNat - (A.getD g 0).toNat)
def okTb (zs A : List Int) : Prop := (2 ≤ A.length ∧ A.length ≤ 65536 ∧ zs ≠ []) ∧ (∀ i, i < A.length → 0 ≤ A.getD i 0 ∧ A.getD i 0 ≤ zs.length) ∧ (∀ i, i + 1 < A.length → A.getD i 0 ≤ A.getD (i + 1) 0) ∧ zs.length ≤ 1048576 ∧ ∀ c ∈ zs, 0 ≤ c ∧ c ≤ 255
/-- A table lies in block T, all of it below n0. -/
def TbAt (W : World) (n0 T : Nat) (zs A : List Int) : Prop :=
  ∃ (vb : Value) (q : Nat) (va : Value), T < n0 ∧ q < n0 ∧ W.heap[T]? = some (.cells #[vb, .pointer (some ⟨q, 0, none⟩)] 94 (0, 0)) ∧ IsInts .u8 W vb zs ∧ (∀ b, blockOf vb = some b → b < n0) ∧ W.heap[q]? = some (.cells #[va] 103 (0, 0)) ∧ IsInts .i64 W va A ∧ ∀ b, blockOf va = some b → b < n0
theorem intsG_free {k : IntKind} {w w' : World} {v : Value} (h : IsInts k w v []) : IsInts k w' v [] := by
  rcases h with ⟨⟨ad, rfl⟩, _⟩ | ⟨g, off, c, rfl, h2, h3, h4⟩
  · exact .inl ⟨⟨_, rfl⟩, rfl⟩
  · exact .inr ⟨g, off, c, rfl, h2, h3, fun i hi => by simp at hi⟩
theorem intsG_lt {k : IntKind} {w : World} {v : Value} {zs : List Int} (h : IsInts k w v zs) (h0 : zs ≠ []) : ∀ b, blockOf v = some b → b < w.heap.size := by
  intro b hb
  rcases h with ⟨_, e⟩ | ⟨g, off, c, rfl, h2, h3, h4⟩
  · exact absurd e h0
  · have hl : 0 < zs.length := by cases zs with | nil => exact absurd rfl h0 | cons a l => simp
    have hc := h4 0 hl
    have hg : g < w.heap.size := World.block_lt_of_cell? w _ hc
    obtain ⟨_, rfl⟩ := (blockOf_some _ _ _ _ _ _).1 hb
    exact hg
theorem TbAt.kp {S : List Nat} {W W' : World} {n0 T : Nat} {zs A : List Int} (h : TbAt W n0 T zs A) (hk : Kp S W W') (hS : ∀ s ∈ S, n0 ≤ s) : TbAt W' n0 T zs A := by
  obtain ⟨vb, q, va, h1, h2, h3, h4, h5, h6, h7, h8⟩ := h
  refine ⟨vb, q, va, h1, h2, hk.heap h3 (fun hs => by have := hS _ hs; omega), ?_, h5, hk.heap h6 (fun hs => by have := hS _ hs; omega), h7.kp hk (fun s hs e => ?_), h8⟩
  · exact h4.kp hk (fun s hs e => by have := hS _ hs; have := h5 _ e; omega)
  · have := hS _ hs; have := h8 _ e; omega
theorem TbAt.kp0 {W W' : World} {n0 T : Nat} {zs A : List Int} (h : TbAt W n0 T zs A) (hk : Kp [] W W') : TbAt W' n0 T zs A := h.kp hk (fun s hs => nomatch hs)
theorem IsInts.sub {w : World} {g off c : Nat} {zs : List Int} (h : IsInts .u8 w (.slice (some ⟨g, off, none⟩) zs.length c) zs) (a m : Nat) (h1 : a + m ≤ zs.length) (hc : zs.length ≤ c) (hm : c ≤ maxLen) : IsInts .u8 w (.slice (some ⟨g, off + a, none⟩) m (c - a)) ((zs.drop a).take m) := by
  have hl : ((zs.drop a).take m).length = m := by rw [List.length_take, List.length_drop]; omega
  by_cases h0 : m = 0
  · subst h0
    by_cases hca : c - a = 0
    · rw [hca]
      exact .inl ⟨⟨_, rfl⟩, by simp⟩
    · exact .inr ⟨g, off + a, c - a, by rw [hl], by rw [hl]; omega, by omega, fun i hi => by rw [hl] at hi; omega⟩
  · rcases h with ⟨⟨ad, e⟩, rfl⟩ | ⟨g', off', c', e, h2, h3, h4⟩
    · simp at h1; omega
    · simp only [Value.slice.injEq, Option.some.injEq, Addr.mk.injEq] at e
      obtain ⟨⟨rfl, rfl, _⟩, _, rfl⟩ := e
      refine .inr ⟨g, off + a, c - a, by rw [hl], by rw [hl]; omega, by omega, fun i hi => ?_⟩
      rw [hl] at hi
      have := h4 (a + i) (by omega)
      rw [show off + a + i = off + (a + i) by omega, this, List.getD_eq_getElem?_getD, List.getD_eq_getElem?_getD, List.getElem?_take_of_lt hi, List.getElem?_drop]
theorem gB_facts {zs A : List Int} (h : okTb zs A) {g : Nat} (hg : g + 1 < A.length) : ∃ a m : Nat, A.getD g 0 = a ∧ A.getD (g + 1) 0 = ((a + m : Nat) : Int) ∧ a + m ≤ zs.length ∧ gB zs A g = (zs.drop a).take m := by
  obtain ⟨h1, h2, h3, h4, h5⟩ := h
  have a1 := h2 g (by omega)
  have a2 := h2 (g + 1) hg
  have a3 := h3 g hg
  refine ⟨(A.getD g 0).toNat, (A.getD (g + 1) 0).toNat - (A.getD g 0).toNat, by omega, by omega, by omega, rfl⟩
theorem gB_bytes {zs A : List Int} (h : okTb zs A) (g : Nat) : ∀ c ∈ gB zs A g, 0 ≤ c ∧ c ≤ 255 := fun c hc => h.2.2.2.2 c (List.mem_of_mem_drop (List.mem_of_mem_take hc))
theorem gB_len {zs A : List Int} (h : okTb zs A) (g : Nat) : (gB zs A g).length ≤ 1048576 := by
  unfold gB; rw [List.length_take, List.length_drop]; have := h.2.2.2.1; omega
set_option maxRecDepth 100000 in
set_option maxHeartbeats 4000000 in
theorem tbytes_in (W : World) (n0 T : Nat) (zs A : List Int) (h : TbAt W n0 T zs A) (ok : okTb zs A) (g : Nat) (hg : g + 1 < A.length) :
    Calls Tryz.prog 45 #[.pointer (some ⟨T, 0, none⟩), .int .i64 g] W fun e w' => ∃ v', e = .returned (.tuple #[v', .int .i64 0]) ∧ IsInts .u8 w' v' (gB zs A g) ∧ (∀ b, blockOf v' = some b → b < n0) ∧ Kp [] W w' := by
  obtain ⟨a, m, ha, hb, hm, hgb⟩ := gB_facts ok hg
  rw [hgb]
  obtain ⟨vb, q, va, hT, hq, h1, h2, h3, h4, h5, h6⟩ := h
  have HP := Lib.hid (plat_in q A g W ⟨va, h4, h5⟩ (by have := ok.1.2.1; omega) hg)
  rw [ha, hb] at HP
  have hzl := ok.2.2.2.1
  have c0 : W.cell? ⟨T, 0, none⟩ = some vb := by rw [cell_of_row W T 0 _ _ (0, 0) h1]; rfl
  have c1 : W.cell? ⟨T, 1, none⟩ = some (.pointer (some ⟨q, 0, none⟩)) := by rw [cell_of_row W T 1 _ _ (0, 0) h1]; rfl
  have hTl : T < W.heap.size := lt_of_block h1
  have HC0 := Lib.hid c0
  have HZ := Lib.hid h2
  have HB := Lib.hid h3
  clear c0 ha hb hgb h1 h4 h5 h6 ok h3 hg
  rcases h2 with ⟨⟨ad, rfl⟩, rfl⟩ | ⟨g1, o1, c, rfl, hc1, hc2, _⟩
  · obtain ⟨rfl, rfl⟩ : a = 0 ∧ m = 0 := by simp at hm; omega
    go_enter Tryz.func45, Tryz.ntmps45
    go_wp2_with fail
    refine HP.out.mono ?_; rintro e w1 ⟨rfl, hk1⟩
    have c0 := hk1.cell HC0.out (by simp)
    clear c1
    go_wp2_with fail
    go_ret2
    exact ⟨_, rfl, .inl ⟨⟨_, rfl⟩, by simp⟩, fun b hb => by simp at hb, hk1⟩
  · have HSUB := Lib.hid (HZ.out.sub a m hm hc1 hc2)
    by_cases hca : c = a
    · obtain rfl : m = 0 := by omega
      subst hca
      generalize hzn : zs.length = Z at *
      go_enter Tryz.func45, Tryz.ntmps45
      go_wp2_with fail
      refine HP.out.mono ?_; rintro e w1 ⟨rfl, hk1⟩
      have c0 := hk1.cell HC0.out (by simp)
      clear c1
      go_wp2_with fail
      go_ret2
      exact ⟨_, rfl, .inl ⟨⟨_, rfl⟩, by simp⟩, fun b hb => by simp at hb, hk1⟩
    · generalize hzn : zs.length = Z at *
      go_enter Tryz.func45, Tryz.ntmps45
      go_wp2_with fail
      refine HP.out.mono ?_; rintro e w1 ⟨rfl, hk1⟩
      have c0 := hk1.cell HC0.out (by simp)
      clear c1
      go_wp2_with fail
      go_ret2
      exact ⟨.slice (some ⟨g1, o1 + a, none⟩) m (c - a), by simp, HSUB.out.kp hk1 (by simp), fun b hb => HB.out b (by simp [blockOf] at hb ⊢; exact ⟨by omega, hb.2⟩), hk1⟩
theorem tbytes_out (W : World) (n0 T : Nat) (zs A : List Int) (h : TbAt W n0 T zs A) (ok : okTb zs A) (g : Int) (hg : g < 0 ∨ (A.length : Int) - 1 ≤ g) :
    Calls Tryz.prog 45 #[.pointer (some ⟨T, 0, none⟩), .int .i64 g] W fun e w' => e = .returned (.tuple #[.slice none 0 0, .int .i64 62]) ∧ Kp [] W w' := by
  obtain ⟨vb, q, va, hT, hq, h1, h2, h3, h4, h5, h6⟩ := h
  have HP := Lib.hid (plat_out q A g W ⟨va, h4, h5⟩ (by have := ok.1.2.1; omega) hg)
  have c1 : W.cell? ⟨T, 1, none⟩ = some (.pointer (some ⟨q, 0, none⟩)) := by rw [cell_of_row W T 1 _ _ (0, 0) h1]; rfl
  have hTl : T < W.heap.size := lt_of_block h1
  clear h1 h2 h3 h4 h5 h6 ok hg
  go_enter Tryz.func45, Tryz.ntmps45
  go_wp2_with fail
  refine HP.out.mono ?_; rintro e w1 ⟨rfl, hk1⟩
  go_wp2_with fail
  go_ret2
  exact ⟨rfl, hk1⟩
end Go.Proofs.YtafkhnlmipddmaaGreat

/- The contracts of the layer wire: slices.Clone, the writer's end. -/
import Derived.Test.YtodjohoonbkklaaWireE
namespace Go.Proofs.Ytodjohoonbkklaa
open Go.RowKit
set_option linter.unusedVariables false
set_option linter.unusedSimpArgs false
set_option maxRecDepth 100000 in
theorem clone_calls (v : Value) (zs : List Int) (w : World) (h : IsInts .u8 w v zs) (hl : zs.length ≤ 140737488355328) :
    Calls Try.prog 109 #[v] w fun e w' => ∃ v', e = .returned v' ∧ IsInts .u8 w' v' zs ∧ Kp [] w w' ∧ ∀ b, blockOf v' = some b → w.heap.size ≤ b := by
  have H : Hid (IsInts .u8 w v zs) := h
  have HL : Hid _ := hl
  clear hl
  obtain ⟨pa, ca, hva⟩ : ∃ p c, v = .slice p zs.length c := by
    rcases h with ⟨⟨ad, rfl⟩, rfl⟩ | ⟨g, off, c, rfl, _⟩
    · exact ⟨_, 0, rfl⟩
    · exact ⟨_, c, rfl⟩
  subst hva
  cases pa with
  | none =>
    have hz : zs = [] ∧ ca = 0 := by
      rcases h with ⟨⟨ad, e⟩, rfl⟩ | ⟨g, off, c, e, _⟩
      · cases e; exact ⟨rfl, rfl⟩
      · cases e
    obtain ⟨rfl, rfl⟩ := hz
    clear h H HL
    show Calls Try.prog 109 #[.slice none 0 0] w _
    have hq := Lib.run_eql_slice_nil (P := Try.prog) w 22 5 none 0 0 0 0 Try.underlying22
    simp only [Option.isNone] at hq
    go_enter Try.func109, Try.ntmps109
    go_wp2_with fail
    go_ret
    exact ⟨_, rfl, IsInts.nil _ _, Kp.refl _ _, fun b hb => by simp at hb⟩
  | some ad =>
    clear h
    have hq := Lib.run_eql_slice_nil (P := Try.prog) w 22 5 (some ad) zs.length ca 0 0 Try.underlying22
    simp only [Option.isNone] at hq
    go_enter Try.func109, Try.ntmps109
    go_wp2_with (at_builtin; refine wpList_app rfl _ _ 22 rfl w.heap.size 5 (.int .u8 0) 1 1 Try.underlying22 infoByte rfl (by decide) (by decide) (.slice (some ⟨w.heap.size, 0, none⟩) 0 0) 0 [] rfl ?hown (.slice (some ad) zs.length ca) zs.length (zs.map (Value.int .u8)) rfl ?hsrc (oneCell_ints _ _) ?hb1 ?hb2 ?hk)
    case hown => exact own_empty _ _ _ _ _ rfl (by omega)
    case hsrc => exact (H.out.kp (S := []) ((Kp.refl _ _).alloc _) (by simp)).reads
    case hb1 => have := HL.out; first | omega | (simp; omega) | simp
    case hb2 => first | omega | (simp; omega) | simp
    case hk =>
    intro v1 w1 hown hgr
    try simp only [Nat.zero_add, List.nil_append] at hown
    have hk1 : Kp [] w w1 := Kp.grown ((Kp.refl _ _).alloc _) hgr (by intro k hk; right; simp [Value.ownBlock] at hk; omega)
    have hge := own_geb hown
    have hi : Hid (IsInts .u8 w1 v1 zs) := IsInts.owned hown
    clear hown hgr
    go_wp2_with fail
    go_ret
    exact ⟨_, rfl, hi.out, hk1, fun b hb => hge b hb⟩
set_option maxRecDepth 100000 in
theorem wdone_calls (r : Nat) (room : Int) (v : Value) (acc : List Int) (w : World) (h : WSt w r room v acc) (hl : acc.length ≤ 140737488355328) :
    Calls Try.prog 65 #[.pointer (some ⟨r, 0, none⟩)] w fun e w' => ∃ v', e = .returned (.tuple #[v', .int .i64 0]) ∧ IsInts .u8 w' v' acc ∧ Kp [] w w' ∧ ∀ b, blockOf v' = some b → w.heap.size ≤ b := by
  obtain ⟨c0, c1, c2, f0, f2⟩ := h.facts
  have HI : Hid (IsInts .u8 w v acc) := IsInts.owned h.2.1
  obtain ⟨p, c, rfl⟩ := slice_own h.2.1
  clear h
  go_enter Try.func65, Try.ntmps65
  go_wp2_with fail
  refine (clone_calls _ acc _ HI.out hl).mono ?_; rintro e w1 ⟨v', rfl, h1, h2, h3⟩
  have H1 : Hid _ := h1
  have H3 : Hid _ := h3
  clear h1 h3
  go_wp2_with fail
  go_ret2
  exact ⟨v', rfl, H1.out, h2, H3.out⟩
end Go.Proofs.Ytodjohoonbkklaa

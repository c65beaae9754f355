/- metric.Put: the table of metrics. -/
import Derived.Test.YthmokldmdcjklaaMtB
namespace Go.Proofs.Ythmokldmdcjklaa
open Go.RowKit
set_option linter.unusedVariables false
set_option linter.unusedSimpArgs false
/-- The table of the first so many metrics. -/
def metPre (l : List (Int × Int)) (m : Nat) : Nat → List Int
  | 0 => []
  | j + 1 => metPre l m j ++ (if j < m then bytesN 2 (l.getD j (0, 0)).1 else []) ++ bytesN 2 (l.getD j (0, 0)).2
theorem metPre_len (l : List (Int × Int)) (m : Nat) (j : Nat) : (metPre l m j).length = 2 * j + 2 * min j m := by
  induction j with
  | zero => simp [metPre]
  | succ j ih =>
    unfold metPre
    by_cases h : j < m
    · rw [if_pos h]; simp only [List.length_append, ih, bytesN_length]; omega
    · rw [if_neg h]; simp only [List.length_append, ih, bytesN_length, List.length_nil]; omega
theorem WSt.alloc {w : World} {r : Nat} {room : Int} {v : Value} {acc : List Int} (h : WSt w r room v acc) (o : Obj) : WSt (w.alloc o) r room v acc := h.kp (S := []) ((Kp.refl _ _).alloc o) (by simp) (by simp)
theorem WSt.not_mem {w : World} {r : Nat} {room : Int} {v : Value} {acc : List Int} (h : WSt w r room v acc) (b : Nat) (hb : w.heap.size ≤ b) : b ∉ r :: v.ownBlock.toList := by
  intro hm
  rcases List.mem_cons.1 hm with rfl | hm
  · have := h.2.2; omega
  · cases hv : v.ownBlock with
    | none => simp [hv] at hm
    | some b' => simp [hv] at hm; have := h.2.1.lt _ hv; omega
set_option maxRecDepth 100000 in
set_option maxHeartbeats 2000000 in
theorem metput_calls (v : Value) (l : List (Int × Int)) (m : Int) (w : World) (hm : mayMet l m = true) (hv : IsPairs w v l) :
    Calls Try.prog 27 #[v, .int .i64 m] w fun e w' => ∃ v', e = .returned (.tuple #[v', .int .i64 0]) ∧ IsInts .u8 w' v' (metPre l m.toNat l.length) ∧ Kp [] w w' ∧ ∀ b, blockOf v' = some b → w.heap.size ≤ b := by
  have HM : Hid _ := hm
  unfold mayMet at hm
  simp only [Bool.and_eq_true, decide_eq_true_eq] at hm
  obtain ⟨⟨⟨⟨⟨k1, k2⟩, k3⟩, k4⟩, k5⟩, k6⟩ := hm
  have HA : Hid (∀ p ∈ l, -32768 ≤ p.1 ∧ p.1 ≤ 65535 ∧ -32768 ≤ p.2 ∧ p.2 ≤ 65535) := by
    intro p hp
    have := List.all_eq_true.1 k5 p hp
    simp only [fitsM, Bool.and_eq_true, decide_eq_true_eq] at this
    omega
  have hmp := Lib.hid (mayput_calls v l m w hv (by omega))
  rcases hv.cases with ⟨ad, rfl, rfl⟩ | ⟨g, off, c, rfl, p1, p2, p3⟩
  · simp at k1
  have HV : Hid (IsPairs w (.slice (some ⟨g, off, none⟩) l.length c) l) := hv
  obtain ⟨mn, rfl⟩ : ∃ mn : Nat, m = mn := ⟨m.toNat, by omega⟩
  have hmn : mn ≤ l.length := by omega
  have h1n : 1 ≤ mn := by omega
  clear k5 k6 p3 hv k3 k4
  go_enter Try.func27, Try.ntmps27
  go_wp2_with fail
  refine Calls.mono hmp.out ?_; rintro e w1 ⟨rfl, hk1⟩
  rw [HM.out]
  clear hmp
  go_wp2_with fail
  refine (to_calls (2 * ((l.length : Int) + mn)) (by omega) _).mono ?_; rintro e w2 ⟨rfl, hs2, hk2⟩
  have hk02 := hk1.trans hk2
  have hr0 : w.heap.size ≤ w1.heap.size := hk1.size
  clear hk1 hk2
  generalize hr : w1.heap.size = r at *
  go_wp2_with fail
  go_loopw [7, 8, 21] (fun _ _ i wr => ∃ (j : Nat) (v' : Value), j ≤ l.length ∧ i = .int .i64 j ∧ WSt wr r (2 * ((l.length : Int) + mn)) v' (metPre l mn j) ∧ Kp [] w wr) (fun _ _ i _ => l.length - (intOf i).toNat)
  case atStart => exact ⟨0, _, by omega, rfl, hs2, hk02⟩
  case round =>
    obtain ⟨j, v', hj, rfl, hs, hk⟩ := hrel
    clear hs2 hk02
    have HS : Hid (WSt wr r (2 * ((l.length : Int) + mn)) v' (metPre l mn j)) := hs
    clear hs
    by_cases hlt : j < l.length
    · have hcc := (HV.out.kp hk (by simp)).cases
      have hc12 : wr.cell? ⟨g, off + j * 2, none⟩ = some (.int .i64 (l.getD j (0, 0)).1) ∧ wr.cell? ⟨g, off + j * 2 + 1, none⟩ = some (.int .i64 (l.getD j (0, 0)).2) := by
        rcases hcc with ⟨ad, h, h'⟩ | ⟨g1, o1, c1, h, _, _, h3⟩
        · exfalso; rw [h'] at hlt; simp at hlt
        · cases h; exact h3 j hlt
      clear hcc
      obtain ⟨hc1, hc2⟩ := hc12
      have hgw : g < wr.heap.size := World.block_lt_of_cell? wr _ hc1
      have hb := HA.out (l.getD j (0, 0)) (by rw [List.getD_eq_getElem?_getD, List.getElem?_eq_getElem hlt]; exact List.getElem_mem _)
      have hlen := metPre_len l mn j
      have hpre : Hid (metPre l mn (j + 1) = metPre l mn j ++ (if j < mn then bytesN 2 (l.getD j (0, 0)).1 else []) ++ bytesN 2 (l.getD j (0, 0)).2) := rfl
      generalize l.getD j (0, 0) = p at *
      obtain ⟨a, b⟩ := p
      simp only at hc1 hc2 hb
      obtain ⟨b1, b2, b3, b4⟩ := hb
      by_cases hjm : j < mn
      · rw [if_pos hjm] at hpre
        have hroom : ((metPre l mn j).length : Int) + 2 + 2 ≤ 2 * ((l.length : Int) + mn) := by rw [hlen]; omega
        generalize metPre l mn j = acc at *
        have hnm := HS.out.not_mem wr.heap.size (Nat.le_refl _)
        go_wp2_with fail
        refine (wu16_calls r _ v' acc a (by omega) (by omega) _ (HS.out.alloc _) (by omega) (by omega)).mono ?_
        rintro e w3 ⟨rfl, v3, hs3, hk3⟩
        have hcb : w3.cell? ⟨wr.heap.size, 1, none⟩ = some (.int .i64 b) := hk3.1.cell (by go_simp) hnm
        have hk03 : Kp [] w w3 := hk3.kp0 (HS.out.alloc _) (hk.alloc _) hr0
        clear hk3 hc1 hc2
        go_wp2_with fail
        refine (wi16_calls r _ v3 (acc ++ bytesN 2 a) b (by omega) (by omega) _ hs3 (by rw [List.length_append, bytesN_length]; omega) (by omega)).mono ?_
        rintro e w4 ⟨rfl, v4, hs4, hk4⟩
        have hk04 : Kp [] w w4 := hk4.kp0 hs3 hk03 hr0
        rw [← hpre.out] at hs4
        clear hk4 hs3 hk03 hcb
        go_wp2_with fail
        go_roundw
        case rel => exact ⟨j + 1, v4, by omega, int_eq' (by omega), hs4, hk04⟩
        case measure => simp [intOf]; omega
      · rw [if_neg hjm, List.append_nil] at hpre
        have hroom : ((metPre l mn j).length : Int) + 2 ≤ 2 * ((l.length : Int) + mn) := by rw [hlen]; omega
        generalize metPre l mn j = acc at *
        go_wp2_with fail
        refine (wi16_calls r _ v' acc b (by omega) (by omega) _ (HS.out.alloc _) (by omega) (by omega)).mono ?_
        rintro e w4 ⟨rfl, v4, hs4, hk4⟩
        have hk04 : Kp [] w w4 := hk4.kp0 (HS.out.alloc _) (hk.alloc _) hr0
        rw [← hpre.out] at hs4
        clear hk4 hc1 hc2
        go_wp2_with fail
        go_roundw
        case rel => exact ⟨j + 1, v4, by omega, int_eq' (by omega), hs4, hk04⟩
        case measure => simp [intOf]; omega
    · obtain rfl : j = l.length := by omega
      have hlen := metPre_len l mn l.length
      have hmt : Hid (((mn : Int)).toNat = mn) := Int.toNat_natCast mn
      go_wp2_with fail
      refine (wdone_calls r _ v' _ _ HS.out (by omega)).mono ?_
      rintro e w4 ⟨v4, rfl, hi4, hk4, hb4⟩
      have HI4 := Lib.hid hi4
      have HB4 := Lib.hid hb4
      clear hi4 hb4
      go_wp2_with fail
      go_ret2
      exact ⟨v4, rfl, by rw [hmt.out]; exact HI4.out, hk.trans hk4, fun b hb => by have := HB4.out b hb; have := hk.size; omega⟩
theorem metput_no (v : Value) (l : List (Int × Int)) (m : Int) (w : World) (hm : mayMet l m = false) (hv : IsPairs w v l) (hl : l.length ≤ 140737488355328) :
    Calls Try.prog 27 #[v, .int .i64 m] w fun e w' => e = .returned (.tuple #[.slice none 0 0, .int .i64 1]) ∧ Kp [] w w' := by
  have HM : Hid _ := hm
  have hmp := Lib.hid (mayput_calls v l m w hv hl)
  obtain ⟨pa, ca, rfl⟩ := hv.form
  clear hv hm hl
  go_enter Try.func27, Try.ntmps27
  go_wp2_with fail
  refine Calls.mono hmp.out ?_; rintro e w1 ⟨rfl, hk1⟩
  rw [HM.out]
  clear hmp
  go_wp2_with fail
  go_ret2
  exact ⟨rfl, hk1⟩
end Go.Proofs.Ythmokldmdcjklaa

/- stack: seriflaw17.of. -/
import Derived.Test.YtlnmpffpieofeaaStT
namespace Go.Proofs.Ytlnmpffpieofeaa
open Go.RowKit
set_option linter.unusedVariables false
set_option linter.unusedSimpArgs false
set_option maxRecDepth 100000 in
set_option maxHeartbeats 2000000 in
theorem of_calls (vd0 va : Value) (dr xs : List Int) (w : World) (hd : IsInts .i64 w vd0 dr) (hdl : dr.length ≤ 1000000000) (ha : IsInts .i64 w va xs) (hm : ∀ x ∈ xs, mayB x = true) (hl : xs.length ≤ 48) :
    Calls Try.prog 14 #[vd0, va] w fun e w' => ∃ s vl vd, e = .returned (.pointer (some ⟨s, 0, none⟩)) ∧ StS w' s w.heap.size vl xs zeros32 vd dr ∧ Kp [] w w' := by
  have HD := Lib.hid hd
  have HA := Lib.hid ha
  have HM := Lib.hid hm
  obtain ⟨B, hB⟩ : ∃ B, Hid (B = w.heap.size) := ⟨_, rfl⟩
  rw [← hB.out]
  obtain ⟨pd, cd, rfl⟩ : ∃ p c, vd0 = .slice p dr.length c := by
    rcases hd with ⟨⟨pb, rfl⟩, rfl⟩ | ⟨g, off, c, rfl, _⟩
    · exact ⟨_, _, rfl⟩
    · exact ⟨_, _, rfl⟩
  obtain ⟨pa, ca, rfl⟩ : ∃ p c, va = .slice p xs.length c := by
    rcases ha with ⟨⟨pb, rfl⟩, rfl⟩ | ⟨g, off, c, rfl, _⟩
    · exact ⟨_, _, rfl⟩
    · exact ⟨_, _, rfl⟩
  obtain ⟨n, hn⟩ : ∃ n, xs.length = n := ⟨_, rfl⟩
  have HN := Lib.hid hn
  rw [hn]
  rw [hn] at hl HA
  clear hd ha hm hn
  go_enter Try.func14, Try.ntmps14
  go_wp2_with fail
  refine (snew_calls _ dr w HD.out hdl).mono ?_; rintro e w1 ⟨s, vd, rfl, hS, hk1⟩
  have HS := Lib.hid (show StS w1 s B (.slice none 0 0) (xs.take 0) zeros32 vd dr by rw [hB.out]; simpa using hS)
  clear hS
  go_wp2_with fail
  go_loopw [6] (fun i wr => ∃ (j : Nat) (vl : Value), j ≤ n ∧ i = .int .i64 j ∧ StS wr s B vl (xs.take j) zeros32 vd dr ∧ Kp [] w wr) (fun i _ => n - (intOf i).toNat)
  case atStart => exact ⟨0, _, by omega, rfl, HS.out, hk1⟩
  case round =>
    obtain ⟨j, vl, hj, rfl, hS, hk⟩ := hrel
    have HS2 := Lib.hid hS
    clear hS
    by_cases hlt : j < n
    · have hxm : mayB (xs.getD j 0) = true := by
        have hh : j < xs.length := by rw [HN.out]; exact hlt
        rw [List.getD_eq_getElem?_getD, List.getElem?_eq_getElem hh]; exact HM.out _ (List.getElem_mem hh)
      have hts : Hid (xs.take (j + 1) = xs.take j ++ [xs.getD j 0]) := by
        have hh : j < xs.length := by rw [HN.out]; exact hlt
        show _ = _
        rw [List.take_succ_eq_append_getElem hh, List.getD_eq_getElem?_getD, List.getElem?_eq_getElem hh]; rfl
      have hcl : ∃ g off, pa = some ⟨g, off, none⟩ ∧ wr.cell? ⟨g, off + j, none⟩ = some (.int .i64 (xs.getD j 0)) ∧ n ≤ ca := by
        rcases HA.out.kp hk (by simp) with ⟨⟨pb, e⟩, h0⟩ | ⟨g, off, c, e, e1, e2, e3⟩
        · have := HN.out; rw [h0] at this; simp at this; omega
        · cases e; exact ⟨g, off, rfl, e3 j (by rw [HN.out]; exact hlt), by rw [← HN.out]; exact e1⟩
      obtain ⟨g, off, rfl, hcell, hca⟩ := hcl
      have hlj : (xs.take j).length < 48 := by simp; have := HN.out; omega
      have hb3 := HS2.out.2.2.1
      have hvo : Hid (∀ k, vl.ownBlock = some k → B ≤ k) := fun k e => (HS2.out.2.2.2.1.lt k e).1
      generalize xs.getD j 0 = x at *
      go_wp2_with (go_at_call 10; refine (push_calls s B vl vd (xs.take j) zeros32 dr x hxm wr HS2.out hlj).mono ?_; rintro e w2 ⟨rfl, vl', hS3, hK3⟩)
      go_round
      case rel => exact ⟨j + 1, vl', by omega, by go_num, by rw [hts.out]; exact hS3, hK3.kp0 hb3 hvo.out (by rw [hB.out]; exact Nat.le_refl _) hk⟩
      case measure => simp [intOf]; omega
    · have hjn : j = n := by omega
      subst hjn
      have HS3 : Hid (StS wr s B vl xs zeros32 vd dr) := by
        have := HS2.out; rw [List.take_of_length_le (by rw [HN.out]; exact Nat.le_refl _)] at this; exact this
      clear HS2 hlt hj
      go_wp2_with fail
      go_ret
      exact ⟨s, vl, vd, rfl, HS3.out, hk⟩
end Go.Proofs.Ytlnmpffpieofeaa

/- The reference's MayPut and MaySelect. (Written by wip/charset/genmay.py.) -/
import Derived.Test.YthmokldmdcjklaaChL
import Derived.Test.YthmokldmdcjklaaChO
namespace Go.Proofs.Ythmokldmdcjklaa
open Go.RowKit
set_option linter.unusedVariables false
set_option linter.unusedSimpArgs false
set_option maxRecDepth 100000 in
set_option maxHeartbeats 2000000 in
theorem rmayput_calls (v : Value) (l : List Int) (f : Int) (w : World) (hz : IsInts .i64 w v l) :
    Calls Try.prog 19 #[v, .int .i64 f] w fun e w' => e = .returned (.bool (mayPut l f)) ∧ w' = w := by
  rcases hz with ⟨⟨ad, rfl⟩, rfl⟩ | ⟨g, off, c, rfl, h3, h4, h5⟩
  · go_enter Try.func19, Try.ntmps19
    go_wp2_with fail
    go_ret
    exact ⟨rfl, rfl⟩
  · have H5 : Hid _ := h5
    clear h5
    by_cases h0 : l.length = 0
    · have hE : Hid ((mayPut l f) = false) := by unfold Hid mayPut; simp [h0]
      go_enter Try.func19, Try.ntmps19
      go_wp2_with fail
      go_ret
      exact ⟨by rw [hE.out]; rfl, rfl⟩
    have hpos : 0 < l.length := by omega
    have hp1 : decide ((l.length : Int) < 1) = false := by simp; omega
    have hc0 := H5.out 0 hpos
    rw [Nat.add_zero] at hc0
    by_cases ha : (65535 : Int) < l.length
    · have hE : Hid ((mayPut l f) = false) := by unfold Hid mayPut; simp; omega
      go_enter Try.func19, Try.ntmps19
      go_wp2_with fail
      go_ret
      exact ⟨by rw [hE.out]; rfl, rfl⟩
    have ha' : decide ((65535 : Int) < l.length) = false := by simpa using ha
    by_cases hl0 : l.getD 0 0 = 0 → False
    · have hE : Hid ((mayPut l f) = false) := by unfold Hid mayPut; rw [show (l.getD 0 0 == 0) = false from beq_eq_false_iff_ne.2 hl0]; simp
      have hl1 : (l.getD 0 0 == 0) = false := beq_eq_false_iff_ne.2 hl0
      generalize l.getD 0 0 = y at *
      go_enter Try.func19, Try.ntmps19
      go_wp2_with fail
      go_ret
      exact ⟨by rw [hE.out]; rfl, rfl⟩
    have hl0' : l.getD 0 0 = 0 := Classical.not_not.1 hl0
    rw [hl0'] at hc0
    have HL0 : Hid _ := hl0'
    clear hl0 hl0'
    by_cases hf0 : f < 0
    · have hE : Hid ((mayPut l f) = false) := by unfold Hid mayPut; simp; omega
      go_enter Try.func19, Try.ntmps19
      go_wp2_with fail
      go_ret
      exact ⟨by rw [hE.out]; rfl, rfl⟩
    have hf0' : decide (f < 0) = false := by simpa using hf0
    by_cases hf2 : 2 < f
    · have hE : Hid ((mayPut l f) = false) := by unfold Hid mayPut; simp; omega
      go_enter Try.func19, Try.ntmps19
      go_wp2_with fail
      go_ret
      exact ⟨by rw [hE.out]; rfl, rfl⟩
    have hf2' : decide (2 < f) = false := by simpa using hf2
    have hE : Hid ((l.all (inB 65535)) = (mayPut l f)) := by unfold Hid mayPut; rw [HL0.out, show decide (1 ≤ l.length) = true from decide_eq_true (by omega), show decide (l.length ≤ 65535) = true from decide_eq_true (by omega), show decide (0 ≤ f) = true from decide_eq_true (by omega), show decide (f ≤ 2) = true from decide_eq_true (by omega)]; simp
    go_enter Try.func19, Try.ntmps19
    go_wp2_with fail
    go_loopw [5] (fun i wr => ∃ j : Nat, j ≤ l.length ∧ i = .int .i64 j ∧ wr = w ∧ Hid ((l.take j).all (inB 65535) = true)) (fun i _ => l.length - (intOf i).toNat)
    case atStart => exact ⟨0, by omega, rfl, rfl, by simp [Hid]⟩
    case round =>
      obtain ⟨j, hj, rfl, rfl, HA⟩ := hrel
      by_cases hlt : j < l.length
      · have hc := H5.out j hlt
        have hge : Hid (l[j]? = some (l.getD j 0)) := by unfold Hid; rw [List.getD_eq_getElem?_getD, List.getElem?_eq_getElem hlt]; rfl
        have hmem : Hid (l.getD j 0 ∈ l) := by unfold Hid; rw [List.getD_eq_getElem?_getD, List.getElem?_eq_getElem hlt]; exact List.getElem_mem _
        generalize l.getD j 0 = x at *
        by_cases g1 : x < 0
        · have hF : Hid ((mayPut l f) = false) := by rw [Hid, ← hE.out, ← Bool.not_eq_true]; intro h; have := List.all_eq_true.1 h x hmem.out; simp [inB] at this; omega
          go_wp2_with fail
          go_ret
          exact ⟨by rw [hF.out]; rfl, rfl⟩
        · by_cases g2 : 65535 < x
          · have hF : Hid ((mayPut l f) = false) := by rw [Hid, ← hE.out, ← Bool.not_eq_true]; intro h; have := List.all_eq_true.1 h x hmem.out; simp [inB] at this; omega
            go_wp2_with fail
            go_ret
            exact ⟨by rw [hF.out]; rfl, rfl⟩
          · have HN : Hid ((l.take (j + 1)).all (inB 65535) = true) := by
              rw [Hid, List.take_add_one, hge.out, List.all_append, HA.out]; simp [inB]; omega
            go_wp2_with fail
            go_roundw
            case rel => exact ⟨j + 1, by omega, int_eq (by omega), (by first | trivial | rfl), HN.out⟩
            case measure => simp [intOf]; omega
      · have hF : Hid ((mayPut l f) = true) := by
          have : j = l.length := by omega
          have h := HA.out
          rw [this, List.take_length] at h; rw [Hid, ← hE.out, h]
        go_wp2_with fail
        go_ret
        exact ⟨by rw [hF.out]; rfl, rfl⟩
set_option maxRecDepth 100000 in
set_option maxHeartbeats 2000000 in
theorem rmaysel_0 (v : Value) (l : List Int) (q : Int) (w : World) (hz : IsInts .i64 w v l) :
    Calls Try.prog 24 #[v, .int .i64 q, .int .i64 0] w fun e w' => e = .returned (.bool (maySel l q 0)) ∧ w' = w := by
  rcases hz with ⟨⟨ad, rfl⟩, rfl⟩ | ⟨g, off, c, rfl, h3, h4, h5⟩
  · go_enter Try.func24, Try.ntmps24
    go_wp2_with fail
    go_ret
    exact ⟨rfl, rfl⟩
  · have H5 : Hid _ := h5
    clear h5
    by_cases h0 : l.length = 0
    · have hE : Hid ((maySel l q 0) = false) := by unfold Hid maySel; simp [h0]
      go_enter Try.func24, Try.ntmps24
      go_wp2_with fail
      go_ret
      exact ⟨by rw [hE.out]; rfl, rfl⟩
    have hpos : 0 < l.length := by omega
    have hp1 : decide ((l.length : Int) < 1) = false := by simp; omega
    by_cases ha : (65535 : Int) < l.length
    · have hE : Hid ((maySel l q 0) = false) := by unfold Hid maySel; simp; omega
      go_enter Try.func24, Try.ntmps24
      go_wp2_with fail
      go_ret
      exact ⟨by rw [hE.out]; rfl, rfl⟩
    have ha' : decide ((65535 : Int) < l.length) = false := by simpa using ha
    by_cases hf0 : q < 1
    · have hE : Hid ((maySel l q 0) = false) := by unfold Hid maySel; simp; omega
      go_enter Try.func24, Try.ntmps24
      go_wp2_with fail
      go_ret
      exact ⟨by rw [hE.out]; rfl, rfl⟩
    have hf0' : decide (q < 1) = false := by simpa using hf0
    by_cases hf2 : 256 < q
    · have hE : Hid ((maySel l q 0) = false) := by unfold Hid maySel; simp; omega
      go_enter Try.func24, Try.ntmps24
      go_wp2_with fail
      go_ret
      exact ⟨by rw [hE.out]; rfl, rfl⟩
    have hf2' : decide (256 < q) = false := by simpa using hf2
    have hE : Hid ((l.all (inB (q - 1))) = (maySel l q 0)) := by unfold Hid maySel; rw [show (((0 : Int) == 0) || ((0 : Int) == 3)) = true from rfl, show decide (1 ≤ l.length) = true from decide_eq_true (by omega), show decide (l.length ≤ 65535) = true from decide_eq_true (by omega), show decide (1 ≤ q) = true from decide_eq_true (by omega), show decide (q ≤ 256) = true from decide_eq_true (by omega)]; simp
    go_enter Try.func24, Try.ntmps24
    go_wp2_with fail
    go_loopw [7] (fun i wr => ∃ j : Nat, j ≤ l.length ∧ i = .int .i64 j ∧ wr = w ∧ Hid ((l.take j).all (inB (q - 1)) = true)) (fun i _ => l.length - (intOf i).toNat)
    case atStart => exact ⟨0, by omega, rfl, rfl, by simp [Hid]⟩
    case round =>
      obtain ⟨j, hj, rfl, rfl, HA⟩ := hrel
      by_cases hlt : j < l.length
      · have hc := H5.out j hlt
        have hge : Hid (l[j]? = some (l.getD j 0)) := by unfold Hid; rw [List.getD_eq_getElem?_getD, List.getElem?_eq_getElem hlt]; rfl
        have hmem : Hid (l.getD j 0 ∈ l) := by unfold Hid; rw [List.getD_eq_getElem?_getD, List.getElem?_eq_getElem hlt]; exact List.getElem_mem _
        generalize l.getD j 0 = x at *
        by_cases g1 : x < 0
        · have hF : Hid ((maySel l q 0) = false) := by rw [Hid, ← hE.out, ← Bool.not_eq_true]; intro h; have := List.all_eq_true.1 h x hmem.out; simp [inB] at this; omega
          go_wp2_with fail
          go_ret
          exact ⟨by rw [hF.out]; rfl, rfl⟩
        · by_cases g2 : q ≤ x
          · have hF : Hid ((maySel l q 0) = false) := by rw [Hid, ← hE.out, ← Bool.not_eq_true]; intro h; have := List.all_eq_true.1 h x hmem.out; simp [inB] at this; omega
            go_wp2_with fail
            go_ret
            exact ⟨by rw [hF.out]; rfl, rfl⟩
          · have HN : Hid ((l.take (j + 1)).all (inB (q - 1)) = true) := by
              rw [Hid, List.take_add_one, hge.out, List.all_append, HA.out]; simp [inB]; omega
            go_wp2_with fail
            go_roundw
            case rel => exact ⟨j + 1, by omega, int_eq (by omega), (by first | trivial | rfl), HN.out⟩
            case measure => simp [intOf]; omega
      · have hF : Hid ((maySel l q 0) = true) := by
          have : j = l.length := by omega
          have h := HA.out
          rw [this, List.take_length] at h; rw [Hid, ← hE.out, h]
        go_wp2_with fail
        go_ret
        exact ⟨by rw [hF.out]; rfl, rfl⟩
set_option maxRecDepth 100000 in
set_option maxHeartbeats 2000000 in
theorem rmaysel_3 (v : Value) (l : List Int) (q : Int) (w : World) (hz : IsInts .i64 w v l) :
    Calls Try.prog 24 #[v, .int .i64 q, .int .i64 3] w fun e w' => e = .returned (.bool (maySel l q 3)) ∧ w' = w := by
  rcases hz with ⟨⟨ad, rfl⟩, rfl⟩ | ⟨g, off, c, rfl, h3, h4, h5⟩
  · go_enter Try.func24, Try.ntmps24
    go_wp2_with fail
    go_ret
    exact ⟨rfl, rfl⟩
  · have H5 : Hid _ := h5
    clear h5
    by_cases h0 : l.length = 0
    · have hE : Hid ((maySel l q 3) = false) := by unfold Hid maySel; simp [h0]
      go_enter Try.func24, Try.ntmps24
      go_wp2_with fail
      go_ret
      exact ⟨by rw [hE.out]; rfl, rfl⟩
    have hpos : 0 < l.length := by omega
    have hp1 : decide ((l.length : Int) < 1) = false := by simp; omega
    by_cases ha : (65535 : Int) < l.length
    · have hE : Hid ((maySel l q 3) = false) := by unfold Hid maySel; simp; omega
      go_enter Try.func24, Try.ntmps24
      go_wp2_with fail
      go_ret
      exact ⟨by rw [hE.out]; rfl, rfl⟩
    have ha' : decide ((65535 : Int) < l.length) = false := by simpa using ha
    by_cases hf0 : q < 1
    · have hE : Hid ((maySel l q 3) = false) := by unfold Hid maySel; simp; omega
      go_enter Try.func24, Try.ntmps24
      go_wp2_with fail
      go_ret
      exact ⟨by rw [hE.out]; rfl, rfl⟩
    have hf0' : decide (q < 1) = false := by simpa using hf0
    by_cases hf2 : 256 < q
    · have hE : Hid ((maySel l q 3) = false) := by unfold Hid maySel; simp; omega
      go_enter Try.func24, Try.ntmps24
      go_wp2_with fail
      go_ret
      exact ⟨by rw [hE.out]; rfl, rfl⟩
    have hf2' : decide (256 < q) = false := by simpa using hf2
    have hE : Hid ((l.all (inB (q - 1))) = (maySel l q 3)) := by unfold Hid maySel; rw [show (((3 : Int) == 0) || ((3 : Int) == 3)) = true from rfl, show decide (1 ≤ l.length) = true from decide_eq_true (by omega), show decide (l.length ≤ 65535) = true from decide_eq_true (by omega), show decide (1 ≤ q) = true from decide_eq_true (by omega), show decide (q ≤ 256) = true from decide_eq_true (by omega)]; simp
    go_enter Try.func24, Try.ntmps24
    go_wp2_with fail
    go_loopw [7] (fun i wr => ∃ j : Nat, j ≤ l.length ∧ i = .int .i64 j ∧ wr = w ∧ Hid ((l.take j).all (inB (q - 1)) = true)) (fun i _ => l.length - (intOf i).toNat)
    case atStart => exact ⟨0, by omega, rfl, rfl, by simp [Hid]⟩
    case round =>
      obtain ⟨j, hj, rfl, rfl, HA⟩ := hrel
      by_cases hlt : j < l.length
      · have hc := H5.out j hlt
        have hge : Hid (l[j]? = some (l.getD j 0)) := by unfold Hid; rw [List.getD_eq_getElem?_getD, List.getElem?_eq_getElem hlt]; rfl
        have hmem : Hid (l.getD j 0 ∈ l) := by unfold Hid; rw [List.getD_eq_getElem?_getD, List.getElem?_eq_getElem hlt]; exact List.getElem_mem _
        generalize l.getD j 0 = x at *
        by_cases g1 : x < 0
        · have hF : Hid ((maySel l q 3) = false) := by rw [Hid, ← hE.out, ← Bool.not_eq_true]; intro h; have := List.all_eq_true.1 h x hmem.out; simp [inB] at this; omega
          go_wp2_with fail
          go_ret
          exact ⟨by rw [hF.out]; rfl, rfl⟩
        · by_cases g2 : q ≤ x
          · have hF : Hid ((maySel l q 3) = false) := by rw [Hid, ← hE.out, ← Bool.not_eq_true]; intro h; have := List.all_eq_true.1 h x hmem.out; simp [inB] at this; omega
            go_wp2_with fail
            go_ret
            exact ⟨by rw [hF.out]; rfl, rfl⟩
          · have HN : Hid ((l.take (j + 1)).all (inB (q - 1)) = true) := by
              rw [Hid, List.take_add_one, hge.out, List.all_append, HA.out]; simp [inB]; omega
            go_wp2_with fail
            go_roundw
            case rel => exact ⟨j + 1, by omega, int_eq (by omega), (by first | trivial | rfl), HN.out⟩
            case measure => simp [intOf]; omega
      · have hF : Hid ((maySel l q 3) = true) := by
          have : j = l.length := by omega
          have h := HA.out
          rw [this, List.take_length] at h; rw [Hid, ← hE.out, h]
        go_wp2_with fail
        go_ret
        exact ⟨by rw [hF.out]; rfl, rfl⟩
set_option maxRecDepth 100000 in
set_option maxHeartbeats 2000000 in
theorem rmaysel_other (v : Value) (l : List Int) (q f : Int) (e0 : (f == 0) = false) (e3 : (f == 3) = false) (n0 : (f != 0) = true) (n3 : (f != 3) = true) (w : World) (hz : IsInts .i64 w v l) :
    Calls Try.prog 24 #[v, .int .i64 q, .int .i64 f] w fun e w' => e = .returned (.bool (maySel l q f)) ∧ w' = w := by
  rcases hz with ⟨⟨ad, rfl⟩, rfl⟩ | ⟨g, off, c, rfl, h3, h4, h5⟩
  · go_enter Try.func24, Try.ntmps24
    go_wp2_with fail
    go_ret
    exact ⟨rfl, rfl⟩
  · have H5 : Hid _ := h5
    clear h5
    by_cases h0 : l.length = 0
    · have hE : Hid ((maySel l q f) = false) := by unfold Hid maySel; simp [h0]
      go_enter Try.func24, Try.ntmps24
      go_wp2_with fail
      go_ret
      exact ⟨by rw [hE.out]; rfl, rfl⟩
    have hpos : 0 < l.length := by omega
    have hp1 : decide ((l.length : Int) < 1) = false := by simp; omega
    by_cases ha : (65535 : Int) < l.length
    · have hE : Hid ((maySel l q f) = false) := by unfold Hid maySel; simp; omega
      go_enter Try.func24, Try.ntmps24
      go_wp2_with fail
      go_ret
      exact ⟨by rw [hE.out]; rfl, rfl⟩
    have ha' : decide ((65535 : Int) < l.length) = false := by simpa using ha
    by_cases hf0 : q < 1
    · have hE : Hid ((maySel l q f) = false) := by unfold Hid maySel; simp; omega
      go_enter Try.func24, Try.ntmps24
      go_wp2_with fail
      go_ret
      exact ⟨by rw [hE.out]; rfl, rfl⟩
    have hf0' : decide (q < 1) = false := by simpa using hf0
    by_cases hf2 : 256 < q
    · have hE : Hid ((maySel l q f) = false) := by unfold Hid maySel; simp; omega
      go_enter Try.func24, Try.ntmps24
      go_wp2_with fail
      go_ret
      exact ⟨by rw [hE.out]; rfl, rfl⟩
    have hf2' : decide (256 < q) = false := by simpa using hf2
    have hE : Hid ((maySel l q f) = false) := by unfold Hid maySel; rw [e0, e3]; simp
    clear e0 e3
    go_enter Try.func24, Try.ntmps24
    go_wp2_with fail
    go_ret
    exact ⟨by rw [hE.out]; rfl, rfl⟩
theorem rmaysel_calls (v : Value) (l : List Int) (q f : Int) (w : World) (hz : IsInts .i64 w v l) :
    Calls Try.prog 24 #[v, .int .i64 q, .int .i64 f] w fun e w' => e = .returned (.bool (maySel l q f)) ∧ w' = w := by
  by_cases h0 : f = 0
  · subst h0; exact rmaysel_0 v l q w hz
  · by_cases h3 : f = 3
    · subst h3; exact rmaysel_3 v l q w hz
    · exact rmaysel_other v l q f (beq_eq_false_iff_ne.2 h0) (beq_eq_false_iff_ne.2 h3) (bne_iff_ne.2 h0) (bne_iff_ne.2 h3) w hz
end Go.Proofs.Ythmokldmdcjklaa

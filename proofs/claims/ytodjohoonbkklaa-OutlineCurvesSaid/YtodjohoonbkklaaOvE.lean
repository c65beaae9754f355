/- outline: slices.Reverse on points, in place. -/
import Derived.Test.YtodjohoonbkklaaOvD
namespace Go.Proofs.Ytodjohoonbkklaa
open Go.RowKit
set_option linter.unusedVariables false
set_option linter.unusedSimpArgs false
/-- The points L lie in block g, behind the cells 'pre'. -/
def At3 (W : World) (g : Nat) (pre post : List Value) (L : List Pn) : Prop := W.heap[g]? = some (.cells (pre ++ psCells L ++ post).toArray 61 (0, 0))
theorem At3.cell {W : World} {g : Nat} {pre post : List Value} {L : List Pn} (h : At3 W g pre post L) {k : Nat} (hk : k < L.length) :
    W.cell? ⟨g, pre.length + k * 3, none⟩ = some (.int .i64 (L.getD k pn0).x) ∧ W.cell? ⟨g, pre.length + k * 3 + 1, none⟩ = some (.int .i64 (L.getD k pn0).y) ∧ W.cell? ⟨g, pre.length + k * 3 + 2, none⟩ = some (.int .i64 (L.getD k pn0).k) := by
  have key : ∀ j, j < 3 → W.cell? ⟨g, pre.length + k * 3 + j, none⟩ = (pnCells (L.getD k pn0))[j]? := fun j hj => by
    rw [cell_of_row W g _ _ _ (0, 0) h]
    have hl := psCells_length L
    rw [List.getElem?_toArray, List.getElem?_append_left (by rw [List.length_append, hl]; omega), List.getElem?_append_right (by omega), show pre.length + k * 3 + j - pre.length = k * 3 + j by omega]
    exact psCells_at L k hk j hj
  exact ⟨key 0 (by decide), key 1 (by decide), key 2 (by decide)⟩
theorem At3.frozen {W : World} {g : Nat} {pre post : List Value} {L : List Pn} (h : At3 W g pre post L) (i : Nat) : W.frozen? ⟨g, i, none⟩ = false := frozen_of_row W g i _ _ h
theorem At3.drew {W : World} {g : Nat} {pre post : List Value} {L : List Pn} (h : At3 W g pre post L) : At3 W.drew g pre post L := h
theorem psCells_set (L : List Pn) (k : Nat) (x y z : Int) (h : k < L.length) : psCells (L.set k ⟨x, y, z⟩) = (((psCells L).set (k * 3) (.int .i64 x)).set (k * 3 + 1) (.int .i64 y)).set (k * 3 + 2) (.int .i64 z) := by
  induction L generalizing k with
  | nil => simp at h
  | cons p L ih =>
    cases k with
    | zero => simp [psCells, pnCells]
    | succ k =>
      have e := ih k (by simpa using h)
      have c : ∀ (q : Pn) (M : List Pn), psCells (q :: M) = .int .i64 q.x :: .int .i64 q.y :: .int .i64 q.k :: psCells M := fun q M => rfl
      rw [List.set_cons_succ, c, e, c, show (k + 1) * 3 = k * 3 + 1 + 1 + 1 by omega]
      simp only [List.set_cons_succ, Nat.add_assoc, Nat.reduceAdd]
theorem mid_set (A B C : List Value) (i : Nat) (v : Value) (h : i < B.length) : (A ++ B ++ C).set (A.length + i) v = A ++ B.set i v ++ C := by
  rw [List.append_assoc, List.set_append, if_neg (by omega), show A.length + i - A.length = i by omega, List.set_append, if_pos h, List.append_assoc]
theorem At3.set {W : World} {g : Nat} {pre post : List Value} {L : List Pn} (h : At3 W g pre post L) {k : Nat} (hk : k < L.length) (x y z : Int) :
    At3 (((W.setCell ⟨g, pre.length + k * 3, none⟩ (.int .i64 x)).setCell ⟨g, pre.length + k * 3 + 1, none⟩ (.int .i64 y)).setCell ⟨g, pre.length + k * 3 + 2, none⟩ (.int .i64 z)) g pre post (L.set k ⟨x, y, z⟩) := by
  have h1 := heap_setCell_same W g (pre.length + k * 3) _ _ (.int .i64 x) h
  have h2 := heap_setCell_same _ g (pre.length + k * 3 + 1) _ _ (.int .i64 y) h1
  have h3 := heap_setCell_same _ g (pre.length + k * 3 + 2) _ _ (.int .i64 z) h2
  have hl := psCells_length L
  unfold At3
  rw [h3, psCells_set L k x y z hk]
  simp only [List.setIfInBounds_toArray]
  rw [mid_set pre (psCells L) post (k * 3) _ (by omega), Nat.add_assoc, mid_set pre _ post (k * 3 + 1) _ (by simp; omega), Nat.add_assoc, mid_set pre _ post (k * 3 + 2) _ (by simp; omega)]
/-- The first and the last k points have been turned round. -/
def RevTo (l : List Pn) (k : Nat) (L : List Pn) : Prop := L.length = l.length ∧ ∀ t, t < l.length → L.getD t pn0 = if t < k ∨ l.length - k ≤ t then l.getD (l.length - 1 - t) pn0 else l.getD t pn0
theorem RevTo.zero (l : List Pn) : RevTo l 0 l := ⟨rfl, fun t ht => by rw [if_neg (by omega)]⟩
theorem getD_set (L : List Pn) (i t : Nat) (p : Pn) (hi : i < L.length) : (L.set i p).getD t pn0 = if t = i then p else L.getD t pn0 := by
  rw [List.getD_eq_getElem?_getD, List.getElem?_set, List.getD_eq_getElem?_getD]
  by_cases h : i = t
  · subst h; simp [hi]
  · rw [if_neg h, if_neg (fun e => h e.symm)]
theorem RevTo.step {l : List Pn} {k : Nat} {L : List Pn} (h : RevTo l k L) (hk : k < l.length - 1 - k) : RevTo l (k + 1) ((L.set k (L.getD (l.length - 1 - k) pn0)).set (l.length - 1 - k) (L.getD k pn0)) := by
  refine ⟨by rw [List.length_set, List.length_set, h.1], fun t ht => ?_⟩
  rw [getD_set _ _ _ _ (by rw [List.length_set, h.1]; omega), getD_set _ _ _ _ (by rw [h.1]; omega)]
  have h1 := h.2 k (by omega)
  have h2 := h.2 (l.length - 1 - k) (by omega)
  have h3 := h.2 t ht
  rw [if_neg (by omega)] at h1 h2
  by_cases e1 : t = l.length - 1 - k
  · rw [if_pos e1, h1, if_pos (by omega), e1]; congr 1; omega
  · rw [if_neg e1]
    by_cases e2 : t = k
    · rw [if_pos e2, h2, if_pos (by omega), e2]
    · rw [if_neg e2, h3]
      by_cases e3 : t < k ∨ l.length - k ≤ t
      · rw [if_pos e3, if_pos (by omega)]
      · rw [if_neg e3, if_neg (by omega)]
theorem RevTo.done {l : List Pn} {k : Nat} {L : List Pn} (h : RevTo l k L) (hk : ¬ ((k : Int) < (l.length : Int) - 1 - k)) : L = l.reverse := by
  refine eq_of_all pn0 _ _ (by rw [List.length_reverse]; exact h.1) fun t ht => ?_
  rw [h.1] at ht
  have h1 := h.2 t ht
  have h2 : l.reverse.getD t pn0 = l.getD (l.length - 1 - t) pn0 := by
    rw [List.getD_eq_getElem?_getD, List.getElem?_reverse ht, List.getD_eq_getElem?_getD]
  rw [h1, h2]
  by_cases e3 : t < k ∨ l.length - k ≤ t
  · rw [if_pos e3]
  · rw [if_neg e3]; congr 1; omega
set_option maxRecDepth 100000 in
set_option maxHeartbeats 1000000 in
theorem sreverse_calls (g : Nat) (pre post : List Value) (l : List Pn) (cap : Nat) (w : World) (h : At3 w g pre post l) (hl : l.length ≤ 1048576) :
    Calls Try.prog 90 #[.slice (some ⟨g, pre.length, none⟩) l.length cap] w fun e w' => e = .returned (.tuple #[]) ∧ At3 w' g pre post l.reverse ∧ Kp [g] w w' := by
  obtain ⟨off, hoff⟩ : ∃ off, pre.length = off := ⟨_, rfl⟩
  obtain ⟨N, hN⟩ : ∃ N, l.length = N := ⟨_, rfl⟩
  have HN := Lib.hid hN
  have HO := Lib.hid hoff
  have H := Lib.hid h
  rw [hN] at hl
  rw [hN, hoff]
  clear h hN hoff
  go_enter Try.func90, Try.ntmps90
  go_wp2_with fail
  go_loopw [2, 3] (fun i j wr => ∃ (k : Nat) (L : List Pn), 2 * k ≤ N + 1 ∧ i = .int .i64 (k : Nat) ∧ j = .int .i64 ((N : Int) - 1 - k) ∧ Hid (RevTo l k L ∧ At3 wr g pre post L ∧ Kp [g] w wr)) (fun i _ _ => N - (intOf i).toNat)
  case atStart => exact ⟨0, l, by omega, rfl, int_eq' (by omega), RevTo.zero l, H.out, Kp.refl _ _⟩
  case round =>
    obtain ⟨k, L, hk, rfl, rfl, HJ⟩ := hrel
    by_cases hlt : (k : Int) < (N : Int) - 1 - k
    · have hlL : L.length = N := by rw [HJ.out.1.1]; exact HN.out
      obtain ⟨jj, hjj⟩ : ∃ jj : Nat, (N : Int) - 1 - k = jj := ⟨N - 1 - k, by omega⟩
      have hjn : jj = N - 1 - k := by omega
      obtain ⟨x1, y1, k1⟩ := HJ.out.2.1.cell (k := k) (by omega)
      obtain ⟨x2, y2, k2⟩ := HJ.out.2.1.cell (k := jj) (by omega)
      have f := HJ.out.2.1.frozen
      rw [HO.out] at x1 y1 k1 x2 y2 k2
      have f0 := f (off + k * 3)
      have f1 := f (off + k * 3 + 1)
      have f2 := f (off + k * 3 + 2)
      have f3 := f (off + jj * 3)
      have f4 := f (off + jj * 3 + 1)
      have f5 := f (off + jj * 3 + 2)
      have HST := Lib.hid (HJ.out.1.step (by rw [HN.out]; omega))
      rw [HN.out, ← hjn] at HST
      have HAT := Lib.hid (fun (x y z u v q : Int) => (HJ.out.2.1.set (k := k) (by omega) x y z).set (k := jj) (by rw [List.length_set]; omega) u v q)
      rw [HO.out] at HAT
      have HK := Lib.hid HJ.out.2.2
      generalize L.getD k pn0 = P at *
      generalize L.getD jj pn0 = Q at *
      obtain ⟨X1, Y1, K1⟩ := P
      obtain ⟨X2, Y2, K2⟩ := Q
      dsimp only at x1 y1 k1 x2 y2 k2
      rw [hjj] at hlt ⊢
      have n0 : (0 : Int) ≤ (k : Int) := by omega
      have n1 : (k : Int) < (N : Int) := by omega
      have n2 : (0 : Int) ≤ (jj : Int) := by omega
      have n3 : (jj : Int) < (N : Int) := by omega
      have hne : k ≠ jj := by omega
      have hlt2 : k < jj := by omega
      have HJN := Lib.hid hjn
      clear f HJ hjj hjn
      go_wp2_with fail
      go_region
      have HF : Hid (RevTo l (k + 1) ((L.set k ⟨X2, Y2, K2⟩).set jj ⟨X1, Y1, K1⟩) ∧ At3 (((((((wr.setCell ⟨g, off + k * 3, none⟩ (.int .i64 X2)).setCell ⟨g, off + k * 3 + 1, none⟩ (.int .i64 Y2)).setCell ⟨g, off + k * 3 + 2, none⟩ (.int .i64 K2)).setCell ⟨g, off + jj * 3, none⟩ (.int .i64 X1)).setCell ⟨g, off + jj * 3 + 1, none⟩ (.int .i64 Y1)).setCell ⟨g, off + jj * 3 + 2, none⟩ (.int .i64 K1)).drew) g pre post ((L.set k ⟨X2, Y2, K2⟩).set jj ⟨X1, Y1, K1⟩) ∧ Kp [g] w (((((((wr.setCell ⟨g, off + k * 3, none⟩ (.int .i64 X2)).setCell ⟨g, off + k * 3 + 1, none⟩ (.int .i64 Y2)).setCell ⟨g, off + k * 3 + 2, none⟩ (.int .i64 K2)).setCell ⟨g, off + jj * 3, none⟩ (.int .i64 X1)).setCell ⟨g, off + jj * 3 + 1, none⟩ (.int .i64 Y1)).setCell ⟨g, off + jj * 3 + 2, none⟩ (.int .i64 K1)).drew)) :=
        ⟨HST.out, (HAT.out X2 Y2 K2 X1 Y1 K1).drew, (((((((HK.out.setCell (.inl (List.mem_singleton.2 rfl)) _).setCell (.inl (List.mem_singleton.2 rfl)) _).setCell (.inl (List.mem_singleton.2 rfl)) _).setCell (.inl (List.mem_singleton.2 rfl)) _).setCell (.inl (List.mem_singleton.2 rfl)) _).setCell (.inl (List.mem_singleton.2 rfl)) _).drew)⟩
      have hjn : (jj : Int) = (N : Int) - 1 - k := by have := HJN.out; omega
      clear x1 y1 k1 x2 y2 k2 f0 f1 f2 f3 f4 f5
      go_wp2_with fail
      go_roundw
      case rel => first | exact ⟨k + 1, _, by omega, int_eq' (by omega), int_eq' (by omega), HF⟩ | ((repeat apply Exists.intro); exact ⟨⟨k + 1, _, by omega, int_eq' (by omega), int_eq' (by omega), HF⟩, rfl⟩)
      case measure => simp [intOf] <;> omega
    · have HE : Hid (At3 wr g pre post l.reverse ∧ Kp [g] w wr) := by
        show _ ∧ _
        rw [← HJ.out.1.done (by rw [HN.out]; exact hlt)]; exact HJ.out.2
      clear HJ
      go_wp2_with fail
      go_end0
      exact ⟨rfl, HE.out.1, HE.out.2⟩
end Go.Proofs.Ytodjohoonbkklaa

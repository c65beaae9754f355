/- stack: Do's contract at the operators that move numbers. (Written by wip/stack/genstm.py.) -/
import Derived.Test.YtfgpocpfapnkkaaGreatStL
namespace Go.Proofs.YtfgpocpfapnkkaaGreat
open Go.RowKit
set_option linter.unusedVariables false
set_option linter.unusedSimpArgs false
theorem rollL_len (lo : List Int) (n k : Nat) (h : n ≤ lo.length) : (rollL lo n k).length = lo.length := by
  unfold rollL; simp; omega
set_option maxRecDepth 100000 in
set_option maxHeartbeats 1000000 in
theorem dop_18 (s base : Nat) (vl vd : Value) (l st dr : List Int) (w : World) (h : StS w s base vl l st vd dr) (hl : l.length ≤ 48) (hm : ∀ x ∈ l, mayB x = true) (hn : needM 18 ≤ l.length) :
    Calls Tryz.prog 54 #[.pointer (some ⟨s, 0, none⟩), .int .i64 18] w (DoPost w s base vl vd (doM 18 l st dr)) := by
  obtain ⟨lo, hi, rfl, hk⟩ := split_hi l 1 hn
  obtain ⟨x, rfl⟩ : ∃ x, hi = [x] := by
    match hi, hk with
    | [x], _ => exact ⟨x, rfl⟩
  rw [doM_at 18 lo [x] st dr (.inr (by simp [isMov])) rfl]
  obtain ⟨g, c, rfl, hc1, hc2⟩ := h.form (by simp)
  rw [show (lo ++ [x]).length = lo.length + 1 by simp] at *
  have hll : lo.length ≤ 48 := by omega
  have mx : -2147483648 ≤ x ∧ x ≤ 2147483648 := by have := hm x (by simp); simpa [mayB] using this
  rw [show stepM 18 lo [x] (lo ++ [x]) st dr = (0, lo, st, dr) by simp [stepM, isNum]]
  refine (do_mov1_ok 18 106 Tryz.call106 s base g c vd lo st dr x (lo) (st) (dr) (by omega) hc1 hc2 w h (by omega) (find_18 w) (fun w1 hk1 => ?_)).mono ?_
  · refine (drop_calls _ _ _ _ _ _ rfl _ _ _ rfl _ rfl w1).mono ?_; rintro e w2 ⟨rfl, hk2⟩; exact ⟨_, vd, rfl, mov_low _ (by simp) h hk1 hk2⟩
  · rintro e w' ⟨rfl, vl', vd', hs, hk⟩; exact ⟨rfl, vl', vd', hs, hk⟩

set_option maxRecDepth 100000 in
set_option maxHeartbeats 1000000 in
theorem dop_27 (s base : Nat) (vl vd : Value) (l st dr : List Int) (w : World) (h : StS w s base vl l st vd dr) (hl : l.length ≤ 48) (hm : ∀ x ∈ l, mayB x = true) (hn : needM 27 ≤ l.length) :
    Calls Tryz.prog 54 #[.pointer (some ⟨s, 0, none⟩), .int .i64 27] w (DoPost w s base vl vd (doM 27 l st dr)) := by
  obtain ⟨lo, hi, rfl, hk⟩ := split_hi l 1 hn
  obtain ⟨x, rfl⟩ : ∃ x, hi = [x] := by
    match hi, hk with
    | [x], _ => exact ⟨x, rfl⟩
  rw [doM_at 27 lo [x] st dr (.inr (by simp [isMov])) rfl]
  obtain ⟨g, c, rfl, hc1, hc2⟩ := h.form (by simp)
  rw [show (lo ++ [x]).length = lo.length + 1 by simp] at *
  have hll : lo.length ≤ 48 := by omega
  have mx : -2147483648 ≤ x ∧ x ≤ 2147483648 := by have := hm x (by simp); simpa [mayB] using this
  by_cases hov : 48 < lo.length + 2
  · rw [show stepM 27 lo [x] (lo ++ [x]) st dr = (170, lo ++ [x], st, dr) by simp [stepM, isNum, hov]]
    refine (do_mov1_over 27 107 Tryz.call107 s base g c vd lo st dr x (lo ++ [x, x]) st dr (by simp; omega) (by simp; omega) hc1 hc2 w h (by omega) (find_27 w) (fun w1 hk1 => ?_)).mono ?_
    · refine (dup_calls ⟨s, 0, none⟩ _ lo g lo.length _ x w1 ((h.kp0 hk1).low (lo := lo) (by omega)) (by omega) ((h.kp0 hk1).hi (lo := lo) 0 (by simp))).mono ?_; rintro e w2 ⟨v', rfl, ho, hk2⟩; exact ⟨v', vd, rfl, mov_fin h hk1 ho hk2⟩
    · rintro e w' ⟨rfl, vd', hs, hk, hkv⟩; exact ⟨rfl, _, vd', hs, ⟨hk.more (fun t ht => .inl (by simp at ht; subst ht; simp)), fun k hk => .inl hk⟩, hkv⟩
  · rw [show stepM 27 lo [x] (lo ++ [x]) st dr = (0, lo ++ [x, x], st, dr) by simp [stepM, isNum, hov]]
    refine (do_mov1_ok 27 107 Tryz.call107 s base g c vd lo st dr x (lo ++ [x, x]) (st) (dr) (by simp; omega) hc1 hc2 w h (by omega) (find_27 w) (fun w1 hk1 => ?_)).mono ?_
    · refine (dup_calls ⟨s, 0, none⟩ _ lo g lo.length _ x w1 ((h.kp0 hk1).low (lo := lo) (by omega)) (by omega) ((h.kp0 hk1).hi (lo := lo) 0 (by simp))).mono ?_; rintro e w2 ⟨v', rfl, ho, hk2⟩; exact ⟨v', vd, rfl, mov_fin h hk1 ho hk2⟩
    · rintro e w' ⟨rfl, vl', vd', hs, hk⟩; exact ⟨rfl, vl', vd', hs, hk⟩

set_option maxRecDepth 100000 in
set_option maxHeartbeats 1000000 in
theorem dop_28 (s base : Nat) (vl vd : Value) (l st dr : List Int) (w : World) (h : StS w s base vl l st vd dr) (hl : l.length ≤ 48) (hm : ∀ x ∈ l, mayB x = true) (hn : needM 28 ≤ l.length) :
    Calls Tryz.prog 54 #[.pointer (some ⟨s, 0, none⟩), .int .i64 28] w (DoPost w s base vl vd (doM 28 l st dr)) := by
  obtain ⟨lo, hi, rfl, hk⟩ := split_hi l 2 hn
  obtain ⟨x, y, rfl⟩ : ∃ x y, hi = [x, y] := by
    match hi, hk with
    | [x, y], _ => exact ⟨x, y, rfl⟩
  rw [doM_at 28 lo [x, y] st dr (.inr (by simp [isMov])) rfl]
  obtain ⟨g, c, rfl, hc1, hc2⟩ := h.form (by simp)
  rw [show (lo ++ [x, y]).length = lo.length + 2 by simp] at *
  have hll : lo.length ≤ 48 := by omega
  have mx : -2147483648 ≤ x ∧ x ≤ 2147483648 := by have := hm x (by simp); simpa [mayB] using this
  have my : -2147483648 ≤ y ∧ y ≤ 2147483648 := by have := hm y (by simp); simpa [mayB] using this
  rw [show stepM 28 lo [x, y] (lo ++ [x, y]) st dr = (0, lo ++ [y, x], st, dr) by simp [stepM, isNum]]
  refine (do_mov2_ok 28 110 Tryz.call110 s base g c vd lo st dr x y (lo ++ [y, x]) (st) (dr) (by simp; omega) hc1 hc2 w h (by omega) (find_28 w) (fun w1 hk1 => ?_)).mono ?_
  · refine (exch_calls ⟨s, 0, none⟩ _ lo g lo.length _ x y w1 ((h.kp0 hk1).low (lo := lo) (by omega)) (by omega) ((h.kp0 hk1).hi (lo := lo) 0 (by simp)) ((h.kp0 hk1).hi (lo := lo) 1 (by simp))).mono ?_; rintro e w2 ⟨v', rfl, ho, hk2⟩; exact ⟨v', vd, rfl, mov_fin h hk1 ho hk2⟩
  · rintro e w' ⟨rfl, vl', vd', hs, hk⟩; exact ⟨rfl, vl', vd', hs, hk⟩

set_option maxRecDepth 100000 in
set_option maxHeartbeats 1000000 in
theorem dop_22 (s base : Nat) (vl vd : Value) (l st dr : List Int) (w : World) (h : StS w s base vl l st vd dr) (hl : l.length ≤ 48) (hm : ∀ x ∈ l, mayB x = true) (hn : needM 22 ≤ l.length) :
    Calls Tryz.prog 54 #[.pointer (some ⟨s, 0, none⟩), .int .i64 22] w (DoPost w s base vl vd (doM 22 l st dr)) := by
  obtain ⟨lo, hi, rfl, hk⟩ := split_hi l 4 hn
  obtain ⟨x, y, z, u, rfl⟩ : ∃ x y z u, hi = [x, y, z, u] := by
    match hi, hk with
    | [x, y, z, u], _ => exact ⟨x, y, z, u, rfl⟩
  rw [doM_at 22 lo [x, y, z, u] st dr (.inr (by simp [isMov])) rfl]
  obtain ⟨g, c, rfl, hc1, hc2⟩ := h.form (by simp)
  rw [show (lo ++ [x, y, z, u]).length = lo.length + 4 by simp] at *
  have hll : lo.length ≤ 48 := by omega
  have mx : -2147483648 ≤ x ∧ x ≤ 2147483648 := by have := hm x (by simp); simpa [mayB] using this
  have my : -2147483648 ≤ y ∧ y ≤ 2147483648 := by have := hm y (by simp); simpa [mayB] using this
  have mz : -2147483648 ≤ z ∧ z ≤ 2147483648 := by have := hm z (by simp); simpa [mayB] using this
  have mu : -2147483648 ≤ u ∧ u ≤ 2147483648 := by have := hm u (by simp); simpa [mayB] using this
  rw [show stepM 22 lo [x, y, z, u] (lo ++ [x, y, z, u]) st dr = (0, lo ++ [if z ≤ u then x else y], st, dr) by simp [stepM, isNum]]
  refine (do_mov4_ok 22 113 Tryz.call113 s base g c vd lo st dr x y z u (lo ++ [if z ≤ u then x else y]) (st) (dr) (by simp; omega) hc1 hc2 w h (by omega) (find_22 w) (fun w1 hk1 => ?_)).mono ?_
  · refine (choose_calls ⟨s, 0, none⟩ _ lo g lo.length _ x y z u w1 ((h.kp0 hk1).low (lo := lo) (by omega)) (by omega) ((h.kp0 hk1).hi (lo := lo) 0 (by simp)) ((h.kp0 hk1).hi (lo := lo) 1 (by simp)) ((h.kp0 hk1).hi (lo := lo) 2 (by simp)) ((h.kp0 hk1).hi (lo := lo) 3 (by simp))).mono ?_; rintro e w2 ⟨v', rfl, ho, hk2⟩; exact ⟨v', vd, rfl, mov_fin h hk1 ho hk2⟩
  · rintro e w' ⟨rfl, vl', vd', hs, hk⟩; exact ⟨rfl, vl', vd', hs, hk⟩

set_option maxRecDepth 100000 in
set_option maxHeartbeats 1000000 in
theorem dop_29 (s base : Nat) (vl vd : Value) (l st dr : List Int) (w : World) (h : StS w s base vl l st vd dr) (hl : l.length ≤ 48) (hm : ∀ x ∈ l, mayB x = true) (hn : needM 29 ≤ l.length) :
    Calls Tryz.prog 54 #[.pointer (some ⟨s, 0, none⟩), .int .i64 29] w (DoPost w s base vl vd (doM 29 l st dr)) := by
  obtain ⟨lo, hi, rfl, hk⟩ := split_hi l 1 hn
  obtain ⟨x, rfl⟩ : ∃ x, hi = [x] := by
    match hi, hk with
    | [x], _ => exact ⟨x, rfl⟩
  rw [doM_at 29 lo [x] st dr (.inr (by simp [isMov])) rfl]
  obtain ⟨g, c, rfl, hc1, hc2⟩ := h.form (by simp)
  rw [show (lo ++ [x]).length = lo.length + 1 by simp] at *
  have hll : lo.length ≤ 48 := by omega
  have mx : -2147483648 ≤ x ∧ x ≤ 2147483648 := by have := hm x (by simp); simpa [mayB] using this
  by_cases hok : max (x / 65536) 0 < lo.length
  · rw [show stepM 29 lo [x] (lo ++ [x]) st dr = (0, lo ++ [lo.getD (lo.length - 1 - (max (x / 65536) 0).toNat) 0], st, dr) by simp [stepM, isNum, hok]]
    refine (do_mov1_ok 29 108 Tryz.call108 s base g c vd lo st dr x (lo ++ [lo.getD (lo.length - 1 - (max (x / 65536) 0).toNat) 0]) (st) (dr) (by simp; omega) hc1 hc2 w h (by omega) (find_29 w) (fun w1 hk1 => ?_)).mono ?_
    · refine (index_calls ⟨s, 0, none⟩ _ lo g lo.length _ x mx.1 mx.2 w1 ((h.kp0 hk1).low (lo := lo) (by omega)) (by omega) ((h.kp0 hk1).hi (lo := lo) 0 (by simp)) hok).mono ?_; rintro e w2 ⟨v', rfl, ho, hk2⟩; exact ⟨v', vd, rfl, mov_fin h hk1 ho hk2⟩
    · rintro e w' ⟨rfl, vl', vd', hs, hk⟩; exact ⟨rfl, vl', vd', hs, hk⟩
  · rw [show stepM 29 lo [x] (lo ++ [x]) st dr = (170, lo ++ [x], st, dr) by simp [stepM, isNum, hok]]
    refine (do_mov1_err 29 108 Tryz.call108 s base g c vd lo st dr x hc1 hc2 w h (by omega) (find_29 w) (fun w1 hk1 => ?_)).mono ?_
    · refine (index_no ⟨s, 0, none⟩ _ lo.length g lo.length _ x mx.1 mx.2 w1 ((h.kp0 hk1).hi (lo := lo) 0 (by simp)) (by omega)).mono ?_; rintro e w2 ⟨rfl, hk2⟩; exact ⟨170, by decide, rfl, rfl, hk2⟩
    · rintro e w' ⟨rfl, hk⟩; exact DoPost.same h hk 170

set_option maxRecDepth 100000 in
set_option maxHeartbeats 1000000 in
theorem dop_21 (s base : Nat) (vl vd : Value) (l st dr : List Int) (w : World) (h : StS w s base vl l st vd dr) (hl : l.length ≤ 48) (hm : ∀ x ∈ l, mayB x = true) (hn : needM 21 ≤ l.length) :
    Calls Tryz.prog 54 #[.pointer (some ⟨s, 0, none⟩), .int .i64 21] w (DoPost w s base vl vd (doM 21 l st dr)) := by
  obtain ⟨lo, hi, rfl, hk⟩ := split_hi l 1 hn
  obtain ⟨x, rfl⟩ : ∃ x, hi = [x] := by
    match hi, hk with
    | [x], _ => exact ⟨x, rfl⟩
  rw [doM_at 21 lo [x] st dr (.inr (by simp [isMov])) rfl]
  obtain ⟨g, c, rfl, hc1, hc2⟩ := h.form (by simp)
  rw [show (lo ++ [x]).length = lo.length + 1 by simp] at *
  have hll : lo.length ≤ 48 := by omega
  have mx : -2147483648 ≤ x ∧ x ≤ 2147483648 := by have := hm x (by simp); simpa [mayB] using this
  by_cases hok : 0 ≤ x / 65536 ∧ x / 65536 < 32
  · rw [show stepM 21 lo [x] (lo ++ [x]) st dr = (0, lo ++ [st.getD (x / 65536).toNat 0], st, dr) by simp [stepM, isNum, hok]]
    refine (do_mov1_ok 21 109 Tryz.call109 s base g c vd lo st dr x (lo ++ [st.getD (x / 65536).toNat 0]) (st) (dr) (by simp; omega) hc1 hc2 w h (by omega) (find_21 w) (fun w1 hk1 => ?_)).mono ?_
    · refine (get_calls s base _ vd _ st dr _ lo g lo.length _ x mx.1 mx.2 w1 (h.kp0 hk1) ((h.kp0 hk1).low (lo := lo) (by omega)) (by omega) ((h.kp0 hk1).hi (lo := lo) 0 (by simp)) hok).mono ?_; rintro e w2 ⟨v', rfl, ho, hk2⟩; exact ⟨v', vd, rfl, mov_fin h hk1 ho hk2⟩
    · rintro e w' ⟨rfl, vl', vd', hs, hk⟩; exact ⟨rfl, vl', vd', hs, hk⟩
  · rw [show stepM 21 lo [x] (lo ++ [x]) st dr = (170, lo ++ [x], st, dr) by simp [stepM, isNum, hok]]
    refine (do_mov1_err 21 109 Tryz.call109 s base g c vd lo st dr x hc1 hc2 w h (by omega) (find_21 w) (fun w1 hk1 => ?_)).mono ?_
    · refine (get_no ⟨s, 0, none⟩ _ lo.length g lo.length _ x mx.1 mx.2 w1 ((h.kp0 hk1).hi (lo := lo) 0 (by simp)) hok).mono ?_; rintro e w2 ⟨rfl, hk2⟩; exact ⟨170, by decide, rfl, rfl, hk2⟩
    · rintro e w' ⟨rfl, hk⟩; exact DoPost.same h hk 170

set_option maxRecDepth 100000 in
set_option maxHeartbeats 1000000 in
theorem dop_20 (s base : Nat) (vl vd : Value) (l st dr : List Int) (w : World) (h : StS w s base vl l st vd dr) (hl : l.length ≤ 48) (hm : ∀ x ∈ l, mayB x = true) (hn : needM 20 ≤ l.length) :
    Calls Tryz.prog 54 #[.pointer (some ⟨s, 0, none⟩), .int .i64 20] w (DoPost w s base vl vd (doM 20 l st dr)) := by
  obtain ⟨lo, hi, rfl, hk⟩ := split_hi l 2 hn
  obtain ⟨x, y, rfl⟩ : ∃ x y, hi = [x, y] := by
    match hi, hk with
    | [x, y], _ => exact ⟨x, y, rfl⟩
  rw [doM_at 20 lo [x, y] st dr (.inr (by simp [isMov])) rfl]
  obtain ⟨g, c, rfl, hc1, hc2⟩ := h.form (by simp)
  rw [show (lo ++ [x, y]).length = lo.length + 2 by simp] at *
  have hll : lo.length ≤ 48 := by omega
  have mx : -2147483648 ≤ x ∧ x ≤ 2147483648 := by have := hm x (by simp); simpa [mayB] using this
  have my : -2147483648 ≤ y ∧ y ≤ 2147483648 := by have := hm y (by simp); simpa [mayB] using this
  by_cases hok : 0 ≤ y / 65536 ∧ y / 65536 < 32
  · rw [show stepM 20 lo [x, y] (lo ++ [x, y]) st dr = (0, lo, st.set (y / 65536).toNat x, dr) by simp [stepM, isNum, hok]]
    refine (do_mov2_ok 20 112 Tryz.call112 s base g c vd lo st dr x y (lo) (st.set (y / 65536).toNat x) (dr) (by omega) hc1 hc2 w h (by omega) (find_20 w) (fun w1 hk1 => ?_)).mono ?_
    · refine (put_calls s base _ vd _ st dr _ lo.length g lo.length _ y x my.1 my.2 w1 (h.kp0 hk1) ((h.kp0 hk1).hi (lo := lo) 0 (by simp)) ((h.kp0 hk1).hi (lo := lo) 1 (by simp)) hok).mono ?_; rintro e w2 ⟨rfl, w3, hk2, rfl⟩
      have h3 := mov_low _ (by simp) h hk1 hk2
      refine ⟨_, vd, rfl, h3.1.kp (S := [s]) ((Kp.refl _ _).setCell (.inl (by simp)) _) (fun t ht => by simp at ht; subst ht; exact h3.2.1), h3.2.1, h3.2.2.1, h3.2.2.2.1, h3.2.2.2.2.1.putStore _ (by omega) _, h3.2.2.2.2.2.1.setCell (.inl (by simp)) _, KV.refl vd⟩
    · rintro e w' ⟨rfl, vl', vd', hs, hk⟩; exact ⟨rfl, vl', vd', hs, hk⟩
  · rw [show stepM 20 lo [x, y] (lo ++ [x, y]) st dr = (170, lo ++ [x, y], st, dr) by simp [stepM, isNum, hok]]
    refine (do_mov2_err 20 112 Tryz.call112 s base g c vd lo st dr x y hc1 hc2 w h (by omega) (find_20 w) (fun w1 hk1 => ?_)).mono ?_
    · refine (put_no ⟨s, 0, none⟩ _ lo.length g lo.length _ y my.1 my.2 w1 ((h.kp0 hk1).hi (lo := lo) 1 (by simp)) hok).mono ?_; rintro e w2 ⟨rfl, hk2⟩; exact ⟨170, by decide, rfl, rfl, hk2⟩
    · rintro e w' ⟨rfl, hk⟩; exact DoPost.same h hk 170

set_option maxRecDepth 100000 in
set_option maxHeartbeats 1000000 in
theorem dop_30 (s base : Nat) (vl vd : Value) (l st dr : List Int) (w : World) (h : StS w s base vl l st vd dr) (hl : l.length ≤ 48) (hm : ∀ x ∈ l, mayB x = true) (hn : needM 30 ≤ l.length) :
    Calls Tryz.prog 54 #[.pointer (some ⟨s, 0, none⟩), .int .i64 30] w (DoPost w s base vl vd (doM 30 l st dr)) := by
  obtain ⟨lo, hi, rfl, hk⟩ := split_hi l 2 hn
  obtain ⟨x, y, rfl⟩ : ∃ x y, hi = [x, y] := by
    match hi, hk with
    | [x, y], _ => exact ⟨x, y, rfl⟩
  rw [doM_at 30 lo [x, y] st dr (.inr (by simp [isMov])) rfl]
  obtain ⟨g, c, rfl, hc1, hc2⟩ := h.form (by simp)
  rw [show (lo ++ [x, y]).length = lo.length + 2 by simp] at *
  have hll : lo.length ≤ 48 := by omega
  have mx : -2147483648 ≤ x ∧ x ≤ 2147483648 := by have := hm x (by simp); simpa [mayB] using this
  have my : -2147483648 ≤ y ∧ y ≤ 2147483648 := by have := hm y (by simp); simpa [mayB] using this
  by_cases hno : x / 65536 < 0 ∨ (lo.length : Int) < x / 65536
  · rw [show stepM 30 lo [x, y] (lo ++ [x, y]) st dr = (170, lo ++ [x, y], st, dr) by simp [stepM, isNum, hno]]
    refine (do_mov2_err 30 111 Tryz.call111 s base g c vd lo st dr x y hc1 hc2 w h (by omega) (find_30 w) (fun w1 hk1 => ?_)).mono ?_
    · refine (roll_no ⟨s, 0, none⟩ _ lo g lo.length _ x y mx.1 mx.2 my.1 my.2 w1 ((h.kp0 hk1).low (lo := lo) (by omega)) (by omega) ((h.kp0 hk1).hi (lo := lo) 0 (by simp)) ((h.kp0 hk1).hi (lo := lo) 1 (by simp)) hno).mono ?_; rintro e w2 ⟨rfl, hk2⟩; exact ⟨170, by decide, rfl, rfl, hk2⟩
    · rintro e w' ⟨rfl, hk⟩; exact DoPost.same h hk 170
  by_cases h0 : x / 65536 = 0
  · rw [show stepM 30 lo [x, y] (lo ++ [x, y]) st dr = (0, lo, st, dr) by simp [stepM, isNum, h0]]
    refine (do_mov2_ok 30 111 Tryz.call111 s base g c vd lo st dr x y (lo) (st) (dr) (by omega) hc1 hc2 w h (by omega) (find_30 w) (fun w1 hk1 => ?_)).mono ?_
    · refine (roll_zero ⟨s, 0, none⟩ _ lo g lo.length _ x y mx.1 mx.2 my.1 my.2 w1 ((h.kp0 hk1).low (lo := lo) (by omega)) (by omega) ((h.kp0 hk1).hi (lo := lo) 0 (by simp)) ((h.kp0 hk1).hi (lo := lo) 1 (by simp)) h0).mono ?_; rintro e w2 ⟨rfl, hk2⟩; exact ⟨_, vd, rfl, mov_low _ (by simp) h hk1 hk2⟩
    · rintro e w' ⟨rfl, vl', vd', hs, hk⟩; exact ⟨rfl, vl', vd', hs, hk⟩
  obtain ⟨n, hn9⟩ : ∃ n : Nat, x / 65536 = n := ⟨(x / 65536).toNat, by omega⟩
  rw [show stepM 30 lo [x, y] (lo ++ [x, y]) st dr = (0, rollL lo n (((y / 65536).tmod n + n).tmod n).toNat, st, dr) by have hn8 : (x / 65536).toNat = n := (by omega); simp only [stepM, isNum]; simp only [List.getD_cons_zero, List.getD_cons_succ, if_neg hno, if_neg h0, hn8]; rw [hn9]; simp]
  refine (do_mov2_ok 30 111 Tryz.call111 s base g c vd lo st dr x y (rollL lo n (((y / 65536).tmod n + n).tmod n).toNat) (st) (dr) (by rw [rollL_len _ _ _ (by omega)]; omega) hc1 hc2 w h (by omega) (find_30 w) (fun w1 hk1 => ?_)).mono ?_
  · refine (roll_ok ⟨s, 0, none⟩ _ lo g lo.length _ x y mx.1 mx.2 my.1 my.2 w1 ((h.kp0 hk1).low (lo := lo) (by omega)) (by omega) ((h.kp0 hk1).hi (lo := lo) 0 (by simp)) ((h.kp0 hk1).hi (lo := lo) 1 (by simp)) n (by omega) (by omega) hn9).mono ?_; rintro e w2 ⟨v', rfl, ho, hk2⟩; exact ⟨v', vd, rfl, mov_fin h hk1 ho hk2⟩
  · rintro e w' ⟨rfl, vl', vd', hs, hk⟩; exact ⟨rfl, vl', vd', hs, hk⟩

end Go.Proofs.YtfgpocpfapnkkaaGreat

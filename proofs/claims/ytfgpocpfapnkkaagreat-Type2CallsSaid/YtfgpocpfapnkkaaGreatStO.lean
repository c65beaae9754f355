/- stack: Do's contract at random and at the operators of numbers. (Written by wip/stack/genstn.py.) -/
import Derived.Test.YtfgpocpfapnkkaaGreatStM
import Derived.Test.YtfgpocpfapnkkaaGreatStN
namespace Go.Proofs.YtfgpocpfapnkkaaGreat
open Go.RowKit
set_option linter.unusedVariables false
set_option linter.unusedSimpArgs false
theorem lowOf {w : World} {s base g n c : Nat} {vd : Value} {l st dr : List Int} (h : StS w s base (.slice (some ⟨g, 0, none⟩) n c) l st vd dr) (hl : l.length ≤ 100) : FullR w (.slice (some ⟨g, 0, none⟩) l.length l.length) l :=
  .inr ⟨g, rfl, by unfold maxLen; omega, fun i hi => h.nums i hi⟩
theorem mov_fin2 {w w1 w2 : World} {s base : Nat} {vl vd v' vd' : Value} {l l' st dr dr' : List Int} (h : StS w s base vl l st vd dr) (hk1 : Kp [] w w1) (ho : OwnC w2 w1.heap.size 3 v' l') (hs2 : StS w2 s base vl l st vd' dr') (hbb : ∀ b, blockOf vd' = some b → blockOf vd = some b) (hk2 : Kp [s] w1 w2) :
    OwnC w2 base 3 v' l' ∧ v'.ownBlock ≠ some s ∧ (∀ b, blockOf vd' = some b → v'.ownBlock ≠ some b) ∧ (∀ b, v'.ownBlock = some b → vl.ownBlock = some b ∨ w.heap.size ≤ b) ∧ StS w2 s base vl l st vd' dr' ∧ Kp [s] w1 w2 ∧ KV vd vd' := by
  have hs := h.lt
  have hb := h.2.2.1
  have hsz := hk1.size
  refine ⟨OwnC_mono ho (by omega), fun e => ?_, fun b hb e => ?_, fun b e => .inr ?_, hs2, hk2, hbb⟩
  · have := (ho.lt s e).1; omega
  · have := (ho.lt b e).1; have := (h.2.2.2.2.2.2 b (hbb b hb)).2.2.2; omega
  · have := (ho.lt b e).1; omega
theorem dop_9 (s base : Nat) (vl vd : Value) (l st dr : List Int) (w : World) (h : StS w s base vl l st vd dr) (hl : l.length ≤ 48) (hm : ∀ x ∈ l, mayB x = true) (hn : needM 9 ≤ l.length) :
    Calls Tryz.prog 54 #[.pointer (some ⟨s, 0, none⟩), .int .i64 9] w (DoPost w s base vl vd (doM 9 l st dr)) := by
  obtain ⟨lo, hi, rfl, hk⟩ := split_hi l 1 hn
  obtain ⟨x, rfl⟩ : ∃ x, hi = [x] := by
    match hi, hk with
    | [x], _ => exact ⟨x, rfl⟩
  rw [doM_at 9 lo [x] st dr (.inl (by simp [isNum])) rfl]
  have hs : stepM 9 lo [x] (lo ++ [x]) st dr = if (numOp 9 x x).2 = 0 then (0, lo ++ [(numOp 9 x x).1], st, dr) else ((numOp 9 x x).2, lo ++ [x], st, dr) := by
    unfold stepM; rw [if_pos (by simp [isNum])]; rfl
  rw [hs]
  have hF : Calls Tryz.prog 64 #[.int .i64 9] w fun e w' => ∃ fv, e = .returned (.tuple #[.agg #[.int .i64 9, .int .i64 1, fv, .nilFunc], .bool true]) ∧ NumFn w' fv (numOp 9) ∧ Kp [] w w' := by
    have e : numOp 9 = (fun a _ => oneF 9 a) := by simp [numOp]
    rw [e]; exact find_9 w
  generalize hr : numOp 9 x x = r at *
  obtain ⟨v, er⟩ := r
  refine (do_num1 9 (numOp 9) v er s base vl vd lo st dr x (hm x (by simp)) hr w h (by simp at hl; omega) hF).mono ?_
  rintro e w' (⟨he, rfl, hk⟩ | ⟨he, rfl, vl', hs, hk⟩)
  · rw [if_neg he]; exact DoPost.same h hk er
  · rw [if_pos he]; exact ⟨rfl, vl', vd, hs, hk, KV.refl vd⟩

theorem dop_14 (s base : Nat) (vl vd : Value) (l st dr : List Int) (w : World) (h : StS w s base vl l st vd dr) (hl : l.length ≤ 48) (hm : ∀ x ∈ l, mayB x = true) (hn : needM 14 ≤ l.length) :
    Calls Tryz.prog 54 #[.pointer (some ⟨s, 0, none⟩), .int .i64 14] w (DoPost w s base vl vd (doM 14 l st dr)) := by
  obtain ⟨lo, hi, rfl, hk⟩ := split_hi l 1 hn
  obtain ⟨x, rfl⟩ : ∃ x, hi = [x] := by
    match hi, hk with
    | [x], _ => exact ⟨x, rfl⟩
  rw [doM_at 14 lo [x] st dr (.inl (by simp [isNum])) rfl]
  have hs : stepM 14 lo [x] (lo ++ [x]) st dr = if (numOp 14 x x).2 = 0 then (0, lo ++ [(numOp 14 x x).1], st, dr) else ((numOp 14 x x).2, lo ++ [x], st, dr) := by
    unfold stepM; rw [if_pos (by simp [isNum])]; rfl
  rw [hs]
  have hF : Calls Tryz.prog 64 #[.int .i64 14] w fun e w' => ∃ fv, e = .returned (.tuple #[.agg #[.int .i64 14, .int .i64 1, fv, .nilFunc], .bool true]) ∧ NumFn w' fv (numOp 14) ∧ Kp [] w w' := by
    have e : numOp 14 = (fun a _ => oneF 14 a) := by simp [numOp]
    rw [e]; exact find_14 w
  generalize hr : numOp 14 x x = r at *
  obtain ⟨v, er⟩ := r
  refine (do_num1 14 (numOp 14) v er s base vl vd lo st dr x (hm x (by simp)) hr w h (by simp at hl; omega) hF).mono ?_
  rintro e w' (⟨he, rfl, hk⟩ | ⟨he, rfl, vl', hs, hk⟩)
  · rw [if_neg he]; exact DoPost.same h hk er
  · rw [if_pos he]; exact ⟨rfl, vl', vd, hs, hk, KV.refl vd⟩

theorem dop_26 (s base : Nat) (vl vd : Value) (l st dr : List Int) (w : World) (h : StS w s base vl l st vd dr) (hl : l.length ≤ 48) (hm : ∀ x ∈ l, mayB x = true) (hn : needM 26 ≤ l.length) :
    Calls Tryz.prog 54 #[.pointer (some ⟨s, 0, none⟩), .int .i64 26] w (DoPost w s base vl vd (doM 26 l st dr)) := by
  obtain ⟨lo, hi, rfl, hk⟩ := split_hi l 1 hn
  obtain ⟨x, rfl⟩ : ∃ x, hi = [x] := by
    match hi, hk with
    | [x], _ => exact ⟨x, rfl⟩
  rw [doM_at 26 lo [x] st dr (.inl (by simp [isNum])) rfl]
  have hs : stepM 26 lo [x] (lo ++ [x]) st dr = if (numOp 26 x x).2 = 0 then (0, lo ++ [(numOp 26 x x).1], st, dr) else ((numOp 26 x x).2, lo ++ [x], st, dr) := by
    unfold stepM; rw [if_pos (by simp [isNum])]; rfl
  rw [hs]
  have hF : Calls Tryz.prog 64 #[.int .i64 26] w fun e w' => ∃ fv, e = .returned (.tuple #[.agg #[.int .i64 26, .int .i64 1, fv, .nilFunc], .bool true]) ∧ NumFn w' fv (numOp 26) ∧ Kp [] w w' := by
    have e : numOp 26 = (fun a _ => oneF 26 a) := by simp [numOp]
    rw [e]; exact find_26 w
  generalize hr : numOp 26 x x = r at *
  obtain ⟨v, er⟩ := r
  refine (do_num1 26 (numOp 26) v er s base vl vd lo st dr x (hm x (by simp)) hr w h (by simp at hl; omega) hF).mono ?_
  rintro e w' (⟨he, rfl, hk⟩ | ⟨he, rfl, vl', hs, hk⟩)
  · rw [if_neg he]; exact DoPost.same h hk er
  · rw [if_pos he]; exact ⟨rfl, vl', vd, hs, hk, KV.refl vd⟩

theorem dop_5 (s base : Nat) (vl vd : Value) (l st dr : List Int) (w : World) (h : StS w s base vl l st vd dr) (hl : l.length ≤ 48) (hm : ∀ x ∈ l, mayB x = true) (hn : needM 5 ≤ l.length) :
    Calls Tryz.prog 54 #[.pointer (some ⟨s, 0, none⟩), .int .i64 5] w (DoPost w s base vl vd (doM 5 l st dr)) := by
  obtain ⟨lo, hi, rfl, hk⟩ := split_hi l 1 hn
  obtain ⟨x, rfl⟩ : ∃ x, hi = [x] := by
    match hi, hk with
    | [x], _ => exact ⟨x, rfl⟩
  rw [doM_at 5 lo [x] st dr (.inl (by simp [isNum])) rfl]
  have hs : stepM 5 lo [x] (lo ++ [x]) st dr = if (numOp 5 x x).2 = 0 then (0, lo ++ [(numOp 5 x x).1], st, dr) else ((numOp 5 x x).2, lo ++ [x], st, dr) := by
    unfold stepM; rw [if_pos (by simp [isNum])]; rfl
  rw [hs]
  have hF : Calls Tryz.prog 64 #[.int .i64 5] w fun e w' => ∃ fv, e = .returned (.tuple #[.agg #[.int .i64 5, .int .i64 1, fv, .nilFunc], .bool true]) ∧ NumFn w' fv (numOp 5) ∧ Kp [] w w' := by
    have e : numOp 5 = (fun a _ => oneF 5 a) := by simp [numOp]
    rw [e]; exact find_5 w
  generalize hr : numOp 5 x x = r at *
  obtain ⟨v, er⟩ := r
  refine (do_num1 5 (numOp 5) v er s base vl vd lo st dr x (hm x (by simp)) hr w h (by simp at hl; omega) hF).mono ?_
  rintro e w' (⟨he, rfl, hk⟩ | ⟨he, rfl, vl', hs, hk⟩)
  · rw [if_neg he]; exact DoPost.same h hk er
  · rw [if_pos he]; exact ⟨rfl, vl', vd, hs, hk, KV.refl vd⟩

theorem dop_10 (s base : Nat) (vl vd : Value) (l st dr : List Int) (w : World) (h : StS w s base vl l st vd dr) (hl : l.length ≤ 48) (hm : ∀ x ∈ l, mayB x = true) (hn : needM 10 ≤ l.length) :
    Calls Tryz.prog 54 #[.pointer (some ⟨s, 0, none⟩), .int .i64 10] w (DoPost w s base vl vd (doM 10 l st dr)) := by
  obtain ⟨lo, hi, rfl, hk⟩ := split_hi l 2 hn
  obtain ⟨x, y, rfl⟩ : ∃ x y, hi = [x, y] := by
    match hi, hk with
    | [x, y], _ => exact ⟨x, y, rfl⟩
  rw [doM_at 10 lo [x, y] st dr (.inl (by simp [isNum])) rfl]
  have hs : stepM 10 lo [x, y] (lo ++ [x, y]) st dr = if (numOp 10 x y).2 = 0 then (0, lo ++ [(numOp 10 x y).1], st, dr) else ((numOp 10 x y).2, lo ++ [x, y], st, dr) := by
    unfold stepM; rw [if_pos (by simp [isNum])]; rfl
  rw [hs]
  have hF : Calls Tryz.prog 64 #[.int .i64 10] w fun e w' => ∃ fv, e = .returned (.tuple #[.agg #[.int .i64 10, .int .i64 2, fv, .nilFunc], .bool true]) ∧ NumFn w' fv (numOp 10) ∧ Kp [] w w' := by
    have e : numOp 10 = twoF 10 := by simp [numOp]
    rw [e]; exact find_10 w
  generalize hr : numOp 10 x y = r at *
  obtain ⟨v, er⟩ := r
  refine (do_num2 10 (numOp 10) v er s base vl vd lo st dr x y (hm x (by simp)) (hm y (by simp)) hr w h (by simp at hl; omega) hF).mono ?_
  rintro e w' (⟨he, rfl, hk⟩ | ⟨he, rfl, vl', hs, hk⟩)
  · rw [if_neg he]; exact DoPost.same h hk er
  · rw [if_pos he]; exact ⟨rfl, vl', vd, hs, hk, KV.refl vd⟩

theorem dop_11 (s base : Nat) (vl vd : Value) (l st dr : List Int) (w : World) (h : StS w s base vl l st vd dr) (hl : l.length ≤ 48) (hm : ∀ x ∈ l, mayB x = true) (hn : needM 11 ≤ l.length) :
    Calls Tryz.prog 54 #[.pointer (some ⟨s, 0, none⟩), .int .i64 11] w (DoPost w s base vl vd (doM 11 l st dr)) := by
  obtain ⟨lo, hi, rfl, hk⟩ := split_hi l 2 hn
  obtain ⟨x, y, rfl⟩ : ∃ x y, hi = [x, y] := by
    match hi, hk with
    | [x, y], _ => exact ⟨x, y, rfl⟩
  rw [doM_at 11 lo [x, y] st dr (.inl (by simp [isNum])) rfl]
  have hs : stepM 11 lo [x, y] (lo ++ [x, y]) st dr = if (numOp 11 x y).2 = 0 then (0, lo ++ [(numOp 11 x y).1], st, dr) else ((numOp 11 x y).2, lo ++ [x, y], st, dr) := by
    unfold stepM; rw [if_pos (by simp [isNum])]; rfl
  rw [hs]
  have hF : Calls Tryz.prog 64 #[.int .i64 11] w fun e w' => ∃ fv, e = .returned (.tuple #[.agg #[.int .i64 11, .int .i64 2, fv, .nilFunc], .bool true]) ∧ NumFn w' fv (numOp 11) ∧ Kp [] w w' := by
    have e : numOp 11 = twoF 11 := by simp [numOp]
    rw [e]; exact find_11 w
  generalize hr : numOp 11 x y = r at *
  obtain ⟨v, er⟩ := r
  refine (do_num2 11 (numOp 11) v er s base vl vd lo st dr x y (hm x (by simp)) (hm y (by simp)) hr w h (by simp at hl; omega) hF).mono ?_
  rintro e w' (⟨he, rfl, hk⟩ | ⟨he, rfl, vl', hs, hk⟩)
  · rw [if_neg he]; exact DoPost.same h hk er
  · rw [if_pos he]; exact ⟨rfl, vl', vd, hs, hk, KV.refl vd⟩

theorem dop_24 (s base : Nat) (vl vd : Value) (l st dr : List Int) (w : World) (h : StS w s base vl l st vd dr) (hl : l.length ≤ 48) (hm : ∀ x ∈ l, mayB x = true) (hn : needM 24 ≤ l.length) :
    Calls Tryz.prog 54 #[.pointer (some ⟨s, 0, none⟩), .int .i64 24] w (DoPost w s base vl vd (doM 24 l st dr)) := by
  obtain ⟨lo, hi, rfl, hk⟩ := split_hi l 2 hn
  obtain ⟨x, y, rfl⟩ : ∃ x y, hi = [x, y] := by
    match hi, hk with
    | [x, y], _ => exact ⟨x, y, rfl⟩
  rw [doM_at 24 lo [x, y] st dr (.inl (by simp [isNum])) rfl]
  have hs : stepM 24 lo [x, y] (lo ++ [x, y]) st dr = if (numOp 24 x y).2 = 0 then (0, lo ++ [(numOp 24 x y).1], st, dr) else ((numOp 24 x y).2, lo ++ [x, y], st, dr) := by
    unfold stepM; rw [if_pos (by simp [isNum])]; rfl
  rw [hs]
  have hF : Calls Tryz.prog 64 #[.int .i64 24] w fun e w' => ∃ fv, e = .returned (.tuple #[.agg #[.int .i64 24, .int .i64 2, fv, .nilFunc], .bool true]) ∧ NumFn w' fv (numOp 24) ∧ Kp [] w w' := by
    have e : numOp 24 = twoF 24 := by simp [numOp]
    rw [e]; exact find_24 w
  generalize hr : numOp 24 x y = r at *
  obtain ⟨v, er⟩ := r
  refine (do_num2 24 (numOp 24) v er s base vl vd lo st dr x y (hm x (by simp)) (hm y (by simp)) hr w h (by simp at hl; omega) hF).mono ?_
  rintro e w' (⟨he, rfl, hk⟩ | ⟨he, rfl, vl', hs, hk⟩)
  · rw [if_neg he]; exact DoPost.same h hk er
  · rw [if_pos he]; exact ⟨rfl, vl', vd, hs, hk, KV.refl vd⟩

theorem dop_12 (s base : Nat) (vl vd : Value) (l st dr : List Int) (w : World) (h : StS w s base vl l st vd dr) (hl : l.length ≤ 48) (hm : ∀ x ∈ l, mayB x = true) (hn : needM 12 ≤ l.length) :
    Calls Tryz.prog 54 #[.pointer (some ⟨s, 0, none⟩), .int .i64 12] w (DoPost w s base vl vd (doM 12 l st dr)) := by
  obtain ⟨lo, hi, rfl, hk⟩ := split_hi l 2 hn
  obtain ⟨x, y, rfl⟩ : ∃ x y, hi = [x, y] := by
    match hi, hk with
    | [x, y], _ => exact ⟨x, y, rfl⟩
  rw [doM_at 12 lo [x, y] st dr (.inl (by simp [isNum])) rfl]
  have hs : stepM 12 lo [x, y] (lo ++ [x, y]) st dr = if (numOp 12 x y).2 = 0 then (0, lo ++ [(numOp 12 x y).1], st, dr) else ((numOp 12 x y).2, lo ++ [x, y], st, dr) := by
    unfold stepM; rw [if_pos (by simp [isNum])]; rfl
  rw [hs]
  have hF : Calls Tryz.prog 64 #[.int .i64 12] w fun e w' => ∃ fv, e = .returned (.tuple #[.agg #[.int .i64 12, .int .i64 2, fv, .nilFunc], .bool true]) ∧ NumFn w' fv (numOp 12) ∧ Kp [] w w' := by
    have e : numOp 12 = twoF 12 := by simp [numOp]
    rw [e]; exact find_12 w
  generalize hr : numOp 12 x y = r at *
  obtain ⟨v, er⟩ := r
  refine (do_num2 12 (numOp 12) v er s base vl vd lo st dr x y (hm x (by simp)) (hm y (by simp)) hr w h (by simp at hl; omega) hF).mono ?_
  rintro e w' (⟨he, rfl, hk⟩ | ⟨he, rfl, vl', hs, hk⟩)
  · rw [if_neg he]; exact DoPost.same h hk er
  · rw [if_pos he]; exact ⟨rfl, vl', vd, hs, hk, KV.refl vd⟩

theorem dop_3 (s base : Nat) (vl vd : Value) (l st dr : List Int) (w : World) (h : StS w s base vl l st vd dr) (hl : l.length ≤ 48) (hm : ∀ x ∈ l, mayB x = true) (hn : needM 3 ≤ l.length) :
    Calls Tryz.prog 54 #[.pointer (some ⟨s, 0, none⟩), .int .i64 3] w (DoPost w s base vl vd (doM 3 l st dr)) := by
  obtain ⟨lo, hi, rfl, hk⟩ := split_hi l 2 hn
  obtain ⟨x, y, rfl⟩ : ∃ x y, hi = [x, y] := by
    match hi, hk with
    | [x, y], _ => exact ⟨x, y, rfl⟩
  rw [doM_at 3 lo [x, y] st dr (.inl (by simp [isNum])) rfl]
  have hs : stepM 3 lo [x, y] (lo ++ [x, y]) st dr = if (numOp 3 x y).2 = 0 then (0, lo ++ [(numOp 3 x y).1], st, dr) else ((numOp 3 x y).2, lo ++ [x, y], st, dr) := by
    unfold stepM; rw [if_pos (by simp [isNum])]; rfl
  rw [hs]
  have hF : Calls Tryz.prog 64 #[.int .i64 3] w fun e w' => ∃ fv, e = .returned (.tuple #[.agg #[.int .i64 3, .int .i64 2, fv, .nilFunc], .bool true]) ∧ NumFn w' fv (numOp 3) ∧ Kp [] w w' := by
    have e : numOp 3 = twoF 3 := by simp [numOp]
    rw [e]; exact find_3 w
  generalize hr : numOp 3 x y = r at *
  obtain ⟨v, er⟩ := r
  refine (do_num2 3 (numOp 3) v er s base vl vd lo st dr x y (hm x (by simp)) (hm y (by simp)) hr w h (by simp at hl; omega) hF).mono ?_
  rintro e w' (⟨he, rfl, hk⟩ | ⟨he, rfl, vl', hs, hk⟩)
  · rw [if_neg he]; exact DoPost.same h hk er
  · rw [if_pos he]; exact ⟨rfl, vl', vd, hs, hk, KV.refl vd⟩

theorem dop_4 (s base : Nat) (vl vd : Value) (l st dr : List Int) (w : World) (h : StS w s base vl l st vd dr) (hl : l.length ≤ 48) (hm : ∀ x ∈ l, mayB x = true) (hn : needM 4 ≤ l.length) :
    Calls Tryz.prog 54 #[.pointer (some ⟨s, 0, none⟩), .int .i64 4] w (DoPost w s base vl vd (doM 4 l st dr)) := by
  obtain ⟨lo, hi, rfl, hk⟩ := split_hi l 2 hn
  obtain ⟨x, y, rfl⟩ : ∃ x y, hi = [x, y] := by
    match hi, hk with
    | [x, y], _ => exact ⟨x, y, rfl⟩
  rw [doM_at 4 lo [x, y] st dr (.inl (by simp [isNum])) rfl]
  have hs : stepM 4 lo [x, y] (lo ++ [x, y]) st dr = if (numOp 4 x y).2 = 0 then (0, lo ++ [(numOp 4 x y).1], st, dr) else ((numOp 4 x y).2, lo ++ [x, y], st, dr) := by
    unfold stepM; rw [if_pos (by simp [isNum])]; rfl
  rw [hs]
  have hF : Calls Tryz.prog 64 #[.int .i64 4] w fun e w' => ∃ fv, e = .returned (.tuple #[.agg #[.int .i64 4, .int .i64 2, fv, .nilFunc], .bool true]) ∧ NumFn w' fv (numOp 4) ∧ Kp [] w w' := by
    have e : numOp 4 = twoF 4 := by simp [numOp]
    rw [e]; exact find_4 w
  generalize hr : numOp 4 x y = r at *
  obtain ⟨v, er⟩ := r
  refine (do_num2 4 (numOp 4) v er s base vl vd lo st dr x y (hm x (by simp)) (hm y (by simp)) hr w h (by simp at hl; omega) hF).mono ?_
  rintro e w' (⟨he, rfl, hk⟩ | ⟨he, rfl, vl', hs, hk⟩)
  · rw [if_neg he]; exact DoPost.same h hk er
  · rw [if_pos he]; exact ⟨rfl, vl', vd, hs, hk, KV.refl vd⟩

theorem dop_15 (s base : Nat) (vl vd : Value) (l st dr : List Int) (w : World) (h : StS w s base vl l st vd dr) (hl : l.length ≤ 48) (hm : ∀ x ∈ l, mayB x = true) (hn : needM 15 ≤ l.length) :
    Calls Tryz.prog 54 #[.pointer (some ⟨s, 0, none⟩), .int .i64 15] w (DoPost w s base vl vd (doM 15 l st dr)) := by
  obtain ⟨lo, hi, rfl, hk⟩ := split_hi l 2 hn
  obtain ⟨x, y, rfl⟩ : ∃ x y, hi = [x, y] := by
    match hi, hk with
    | [x, y], _ => exact ⟨x, y, rfl⟩
  rw [doM_at 15 lo [x, y] st dr (.inl (by simp [isNum])) rfl]
  have hs : stepM 15 lo [x, y] (lo ++ [x, y]) st dr = if (numOp 15 x y).2 = 0 then (0, lo ++ [(numOp 15 x y).1], st, dr) else ((numOp 15 x y).2, lo ++ [x, y], st, dr) := by
    unfold stepM; rw [if_pos (by simp [isNum])]; rfl
  rw [hs]
  have hF : Calls Tryz.prog 64 #[.int .i64 15] w fun e w' => ∃ fv, e = .returned (.tuple #[.agg #[.int .i64 15, .int .i64 2, fv, .nilFunc], .bool true]) ∧ NumFn w' fv (numOp 15) ∧ Kp [] w w' := by
    have e : numOp 15 = twoF 15 := by simp [numOp]
    rw [e]; exact find_15 w
  generalize hr : numOp 15 x y = r at *
  obtain ⟨v, er⟩ := r
  refine (do_num2 15 (numOp 15) v er s base vl vd lo st dr x y (hm x (by simp)) (hm y (by simp)) hr w h (by simp at hl; omega) hF).mono ?_
  rintro e w' (⟨he, rfl, hk⟩ | ⟨he, rfl, vl', hs, hk⟩)
  · rw [if_neg he]; exact DoPost.same h hk er
  · rw [if_pos he]; exact ⟨rfl, vl', vd, hs, hk, KV.refl vd⟩

set_option maxHeartbeats 1000000 in
theorem dop_23 (s base : Nat) (vl vd : Value) (l st dr : List Int) (w : World) (h : StS w s base vl l st vd dr) (hl : l.length ≤ 48) :
    Calls Tryz.prog 54 #[.pointer (some ⟨s, 0, none⟩), .int .i64 23] w (DoPost w s base vl vd (doM 23 l st dr)) := by
  have hD : doM 23 l st dr = stepM 23 l [] l st dr := by
    have := doM_at 23 l [] st dr (.inr (by simp [isMov])) rfl
    simpa using this
  rw [hD]
  rcases (show (vl = .slice none 0 0 ∧ l = []) ∨ ∃ g c, vl = .slice (some ⟨g, 0, none⟩) l.length c ∧ l.length ≤ c ∧ c ≤ maxLen by
    rcases h.2.2.2.1 with ⟨h1, h0⟩ | ⟨g, cap, cur, rfl, h1, h2, h3, h4, h5, h6⟩
    · exact .inl ⟨h1, h0⟩
    · exact .inr ⟨g, cap, rfl, h3, h4⟩) with ⟨rfl, rfl⟩ | ⟨g, c, rfl, hc1, hc2⟩
  · clear hD
    match dr, h with
    | [], h =>
      rw [show stepM 23 [] [] [] st [] = (0, [] ++ [65536], st, []) by simp [stepM, isNum]]
      refine (do_mov0nil_ok 23 114 Tryz.call114 s base vd st [] ([] ++ [65536]) st ([]) (by simp) w h (find_23 w) (fun w1 hk1 => ?_)).mono ?_
      · refine (random_nil s base _ vd _ st _ [] w1 (h.kp0 hk1) (.inl ⟨rfl, rfl⟩) (by simp) _ _ _).mono ?_; rintro e w2 ⟨v', rfl, ho, hk2⟩; exact ⟨v', vd, rfl, mov_fin h hk1 ho hk2⟩
      · rintro e w' ⟨rfl, vl', vd', hs, hk⟩; exact ⟨rfl, vl', vd', hs, hk⟩
    | d0 :: ds, h =>
      rw [show stepM 23 [] [] [] st (d0 :: ds) = (0, [] ++ [1 + d0 % 65536], st, ds) by simp [stepM, isNum]]
      refine (do_mov0nil_ok 23 114 Tryz.call114 s base vd st (d0 :: ds) ([] ++ [1 + d0 % 65536]) st (ds) (by simp) w h (find_23 w) (fun w1 hk1 => ?_)).mono ?_
      · refine (random_draw s base _ vd _ st d0 ds _ [] w1 (h.kp0 hk1) (.inl ⟨rfl, rfl⟩) (by simp [Value.ownBlock]) (by simp) _ _ _).mono ?_; rintro e w2 ⟨v', vd', rfl, ho, hs2, hbb, hk2⟩; exact ⟨v', vd', rfl, mov_fin2 h hk1 ho hs2 hbb hk2⟩
      · rintro e w' ⟨rfl, vl', vd', hs, hk⟩; exact ⟨rfl, vl', vd', hs, hk⟩
  · by_cases hc0 : l.length < c
    · skip
      by_cases h48 : l.length = 48
      · rw [show stepM 23 l [] l st dr = (170, l, st, dr) by simp [stepM, isNum, h48]]
        refine (do_mov0_err 23 114 Tryz.call114 s base g c vd l st dr hc0 hc2 w h (by omega) (find_23 w) (fun w1 hk1 => ?_)).mono ?_
        · rw [h48]; refine (random_full ⟨s, 0, none⟩ _ w1 _ _ _).mono ?_; rintro e w2 ⟨rfl, hk2⟩; exact ⟨170, by decide, rfl, rfl, hk2⟩
        · rintro e w' ⟨rfl, hk⟩; exact DoPost.same h hk 170
      · clear hD
        match dr, h with
        | [], h =>
          rw [show stepM 23 l [] l st [] = (0, l ++ [65536], st, []) by simp [stepM, isNum, h48]]
          refine (do_mov0_ok 23 114 Tryz.call114 s base g c vd l st [] (l ++ [65536]) st ([]) (by simp; omega) hc0 hc2 w h (by omega) (find_23 w) (fun w1 hk1 => ?_)).mono ?_
          · refine (random_nil s base _ vd _ st _ l w1 (h.kp0 hk1) (lowOf (h.kp0 hk1) (by omega)) (by omega) _ _ _).mono ?_; rintro e w2 ⟨v', rfl, ho, hk2⟩; exact ⟨v', vd, rfl, mov_fin h hk1 ho hk2⟩
          · rintro e w' ⟨rfl, vl', vd', hs, hk⟩; exact ⟨rfl, vl', vd', hs, hk⟩
        | d0 :: ds, h =>
          rw [show stepM 23 l [] l st (d0 :: ds) = (0, l ++ [1 + d0 % 65536], st, ds) by simp [stepM, isNum, h48]]
          refine (do_mov0_ok 23 114 Tryz.call114 s base g c vd l st (d0 :: ds) (l ++ [1 + d0 % 65536]) st (ds) (by simp; omega) hc0 hc2 w h (by omega) (find_23 w) (fun w1 hk1 => ?_)).mono ?_
          · refine (random_draw s base _ vd _ st d0 ds _ l w1 (h.kp0 hk1) (lowOf (h.kp0 hk1) (by omega)) h.2.2.2.2.1 (by omega) _ _ _).mono ?_; rintro e w2 ⟨v', vd', rfl, ho, hs2, hbb, hk2⟩; exact ⟨v', vd', rfl, mov_fin2 h hk1 ho hs2 hbb hk2⟩
          · rintro e w' ⟨rfl, vl', vd', hs, hk⟩; exact ⟨rfl, vl', vd', hs, hk⟩
    · have hcc : c = l.length := by omega
      subst hcc
      by_cases h48 : l.length = 48
      · rw [show stepM 23 l [] l st dr = (170, l, st, dr) by simp [stepM, isNum, h48]]
        refine (do_mov0full_err 23 114 Tryz.call114 s base g vd l st dr hc2 w h (by omega) (find_23 w) (fun w1 hk1 => ?_)).mono ?_
        · rw [h48]; refine (random_full ⟨s, 0, none⟩ _ w1 _ _ _).mono ?_; rintro e w2 ⟨rfl, hk2⟩; exact ⟨170, by decide, rfl, rfl, hk2⟩
        · rintro e w' ⟨rfl, hk⟩; exact DoPost.same h hk 170
      · clear hD
        match dr, h with
        | [], h =>
          rw [show stepM 23 l [] l st [] = (0, l ++ [65536], st, []) by simp [stepM, isNum, h48]]
          refine (do_mov0full_ok 23 114 Tryz.call114 s base g vd l st [] (l ++ [65536]) st ([]) (by simp; omega) hc2 w h (by omega) (find_23 w) (fun w1 hk1 => ?_)).mono ?_
          · refine (random_nil s base _ vd _ st _ l w1 (h.kp0 hk1) (lowOf (h.kp0 hk1) (by omega)) (by omega) _ _ _).mono ?_; rintro e w2 ⟨v', rfl, ho, hk2⟩; exact ⟨v', vd, rfl, mov_fin h hk1 ho hk2⟩
          · rintro e w' ⟨rfl, vl', vd', hs, hk⟩; exact ⟨rfl, vl', vd', hs, hk⟩
        | d0 :: ds, h =>
          rw [show stepM 23 l [] l st (d0 :: ds) = (0, l ++ [1 + d0 % 65536], st, ds) by simp [stepM, isNum, h48]]
          refine (do_mov0full_ok 23 114 Tryz.call114 s base g vd l st (d0 :: ds) (l ++ [1 + d0 % 65536]) st (ds) (by simp; omega) hc2 w h (by omega) (find_23 w) (fun w1 hk1 => ?_)).mono ?_
          · refine (random_draw s base _ vd _ st d0 ds _ l w1 (h.kp0 hk1) (lowOf (h.kp0 hk1) (by omega)) h.2.2.2.2.1 (by omega) _ _ _).mono ?_; rintro e w2 ⟨v', vd', rfl, ho, hs2, hbb, hk2⟩; exact ⟨v', vd', rfl, mov_fin2 h hk1 ho hs2 hbb hk2⟩
          · rintro e w' ⟨rfl, vl', vd', hs, hk⟩; exact ⟨rfl, vl', vd', hs, hk⟩

end Go.Proofs.YtfgpocpfapnkkaaGreat

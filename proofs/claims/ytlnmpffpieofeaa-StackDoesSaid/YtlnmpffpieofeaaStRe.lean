/- stack: the reference's Do, whole: it answers as doM. (Written by wip/stack/genre.py.) -/
import Derived.Test.YtlnmpffpieofeaaStRc
namespace Go.Proofs.Ytlnmpffpieofeaa
open Go.RowKit
set_option linter.unusedVariables false
set_option linter.unusedSimpArgs false
set_option maxRecDepth 100000 in
set_option maxHeartbeats 4000000 in
theorem rdo_none (op : Int) (hn : rneed op = -1) (r : Addr) (w : World) : Calls Try.prog 20 #[.pointer (some r), .int .i64 op] w fun e w' => e = .returned (.int .i64 1) ∧ w = w' := by
  have HN := Lib.hid hn
  clear hn
  go_enter Try.func20, Try.ntmps20
  go_wp2_with fail
  refine (rneed_calls op _).mono ?_; rintro e w0 ⟨rfl, rfl⟩
  rw [HN.out]
  go_wp2_with fail
  go_ret
  exact ⟨rfl, rfl⟩
set_option maxRecDepth 100000 in
set_option maxHeartbeats 4000000 in
theorem rdo_short (op : Int) (k : Nat) (hn : rneed op = k) (r base used : Nat) (vL vD : Value) (l st draws : List Int) (w : World) (h : RfS w r base vL l st vD draws used) (hl : l.length < k) (hk : k ≤ 4) :
    Calls Try.prog 20 #[.pointer (some ⟨r, 0, none⟩), .int .i64 op] w fun e w' => e = .returned (.int .i64 170) ∧ w = w' := by
  have HN := Lib.hid hn
  have c0 := h.cell0
  obtain ⟨p, c, rfl⟩ := h.2.2.2.1.form
  have HW : Hid (IntKind.i64.wrap ((l.length : Int) - k) = (l.length : Int) - k) := wI _ (by omega) (by omega)
  have hk0 : ¬ ((k : Int) < 0) := by omega
  have hd : decide ((l.length : Int) - k < 0) = true := decide_eq_true (by omega)
  have hw := HW.out
  clear hn h
  go_enter Try.func20, Try.ntmps20
  go_wp2_with fail
  refine (rneed_calls op _).mono ?_; rintro e w0 ⟨rfl, rfl⟩
  rw [HN.out]
  go_wp2_with fail
  go_ret
  exact ⟨rfl, rfl⟩
theorem hi1 {hi : List Int} (h : hi.length = 1) : ∃ a, hi = [a] := by
  match hi, h with
  | [a], _ => exact ⟨a, rfl⟩
theorem hi2 {hi : List Int} (h : hi.length = 2) : ∃ a b, hi = [a, b] := by
  match hi, h with
  | [a, b], _ => exact ⟨a, b, rfl⟩
theorem hi4 {hi : List Int} (h : hi.length = 4) : ∃ a b c d, hi = [a, b, c, d] := by
  match hi, h with
  | [a, b, c, d], _ => exact ⟨a, b, c, d, rfl⟩
theorem drawnQ_eq (dr : List Int) : drawnQ dr = (match dr with | [] => 65536 | d :: _ => 1 + d % 65536) := rfl
theorem tail_drop (l : List Int) (n : Nat) : (l.drop n).tail = l.drop (n + 1) := by rw [List.tail_drop]
set_option maxHeartbeats 1000000 in
theorem rdop_9 (r base used : Nat) (vL vD : Value) (l st draws : List Int) (w : World) (h : RfS w r base vL l st vD draws used) (hok : OkM l st) (hu : used ≤ 100000) (hn : needM 9 ≤ l.length) :
    Calls Try.prog 20 #[.pointer (some ⟨r, 0, none⟩), .int .i64 9] w (RDo w r base vL vD draws used (doM 9 l st (draws.drop used))) := by
  obtain ⟨lo, hi, rfl, hhi⟩ := split_hi l (needM 9) hn
  obtain ⟨a, rfl⟩ := hi1 hhi
  rw [doM_at 9 lo _ st _ (.inl (by simp [isNum])) hhi]
  have hl : lo.length + 1 ≤ 48 := by have := hok.1; simp at this; omega
  have hm : ∀ x ∈ lo ++ [a], mayB x = true := hok.2.1
  unfold stepM
  simp only [List.getD_cons_zero, List.getD_cons_succ]
  rw [if_pos (by simp [isNum])]
  have hg : [a].getD (needM 9 - 1) 0 = a := rfl
  simp only [hg]
  have hpl := fun W => rplain_num 9 a a (by simp [isNum]) (hm a (by simp)) W
  by_cases he : (numF 9 a a).2 = 0
  · rw [if_pos he]
    exact rdo_num1 9 (by decide) ⟨by decide, by decide, by decide, by decide, by decide, by decide, by decide, by decide⟩ r base used vL vD lo st draws a _ _ w h hl hpl he
  · rw [if_neg he]
    exact rdo_num1_er 9 (by decide) ⟨by decide, by decide, by decide, by decide, by decide, by decide, by decide, by decide⟩ r base used vL vD lo st draws a _ _ w h hl hpl he
set_option maxHeartbeats 1000000 in
theorem rdop_14 (r base used : Nat) (vL vD : Value) (l st draws : List Int) (w : World) (h : RfS w r base vL l st vD draws used) (hok : OkM l st) (hu : used ≤ 100000) (hn : needM 14 ≤ l.length) :
    Calls Try.prog 20 #[.pointer (some ⟨r, 0, none⟩), .int .i64 14] w (RDo w r base vL vD draws used (doM 14 l st (draws.drop used))) := by
  obtain ⟨lo, hi, rfl, hhi⟩ := split_hi l (needM 14) hn
  obtain ⟨a, rfl⟩ := hi1 hhi
  rw [doM_at 14 lo _ st _ (.inl (by simp [isNum])) hhi]
  have hl : lo.length + 1 ≤ 48 := by have := hok.1; simp at this; omega
  have hm : ∀ x ∈ lo ++ [a], mayB x = true := hok.2.1
  unfold stepM
  simp only [List.getD_cons_zero, List.getD_cons_succ]
  rw [if_pos (by simp [isNum])]
  have hg : [a].getD (needM 14 - 1) 0 = a := rfl
  simp only [hg]
  have hpl := fun W => rplain_num 14 a a (by simp [isNum]) (hm a (by simp)) W
  by_cases he : (numF 14 a a).2 = 0
  · rw [if_pos he]
    exact rdo_num1 14 (by decide) ⟨by decide, by decide, by decide, by decide, by decide, by decide, by decide, by decide⟩ r base used vL vD lo st draws a _ _ w h hl hpl he
  · rw [if_neg he]
    exact rdo_num1_er 14 (by decide) ⟨by decide, by decide, by decide, by decide, by decide, by decide, by decide, by decide⟩ r base used vL vD lo st draws a _ _ w h hl hpl he
set_option maxHeartbeats 1000000 in
theorem rdop_26 (r base used : Nat) (vL vD : Value) (l st draws : List Int) (w : World) (h : RfS w r base vL l st vD draws used) (hok : OkM l st) (hu : used ≤ 100000) (hn : needM 26 ≤ l.length) :
    Calls Try.prog 20 #[.pointer (some ⟨r, 0, none⟩), .int .i64 26] w (RDo w r base vL vD draws used (doM 26 l st (draws.drop used))) := by
  obtain ⟨lo, hi, rfl, hhi⟩ := split_hi l (needM 26) hn
  obtain ⟨a, rfl⟩ := hi1 hhi
  rw [doM_at 26 lo _ st _ (.inl (by simp [isNum])) hhi]
  have hl : lo.length + 1 ≤ 48 := by have := hok.1; simp at this; omega
  have hm : ∀ x ∈ lo ++ [a], mayB x = true := hok.2.1
  unfold stepM
  simp only [List.getD_cons_zero, List.getD_cons_succ]
  rw [if_pos (by simp [isNum])]
  have hg : [a].getD (needM 26 - 1) 0 = a := rfl
  simp only [hg]
  have hpl := fun W => rplain_num 26 a a (by simp [isNum]) (hm a (by simp)) W
  by_cases he : (numF 26 a a).2 = 0
  · rw [if_pos he]
    exact rdo_num1 26 (by decide) ⟨by decide, by decide, by decide, by decide, by decide, by decide, by decide, by decide⟩ r base used vL vD lo st draws a _ _ w h hl hpl he
  · rw [if_neg he]
    exact rdo_num1_er 26 (by decide) ⟨by decide, by decide, by decide, by decide, by decide, by decide, by decide, by decide⟩ r base used vL vD lo st draws a _ _ w h hl hpl he
set_option maxHeartbeats 1000000 in
theorem rdop_5 (r base used : Nat) (vL vD : Value) (l st draws : List Int) (w : World) (h : RfS w r base vL l st vD draws used) (hok : OkM l st) (hu : used ≤ 100000) (hn : needM 5 ≤ l.length) :
    Calls Try.prog 20 #[.pointer (some ⟨r, 0, none⟩), .int .i64 5] w (RDo w r base vL vD draws used (doM 5 l st (draws.drop used))) := by
  obtain ⟨lo, hi, rfl, hhi⟩ := split_hi l (needM 5) hn
  obtain ⟨a, rfl⟩ := hi1 hhi
  rw [doM_at 5 lo _ st _ (.inl (by simp [isNum])) hhi]
  have hl : lo.length + 1 ≤ 48 := by have := hok.1; simp at this; omega
  have hm : ∀ x ∈ lo ++ [a], mayB x = true := hok.2.1
  unfold stepM
  simp only [List.getD_cons_zero, List.getD_cons_succ]
  rw [if_pos (by simp [isNum])]
  have hg : [a].getD (needM 5 - 1) 0 = a := rfl
  simp only [hg]
  have hpl := fun W => rplain_num 5 a a (by simp [isNum]) (hm a (by simp)) W
  by_cases he : (numF 5 a a).2 = 0
  · rw [if_pos he]
    exact rdo_num1 5 (by decide) ⟨by decide, by decide, by decide, by decide, by decide, by decide, by decide, by decide⟩ r base used vL vD lo st draws a _ _ w h hl hpl he
  · rw [if_neg he]
    exact rdo_num1_er 5 (by decide) ⟨by decide, by decide, by decide, by decide, by decide, by decide, by decide, by decide⟩ r base used vL vD lo st draws a _ _ w h hl hpl he
set_option maxHeartbeats 1000000 in
theorem rdop_10 (r base used : Nat) (vL vD : Value) (l st draws : List Int) (w : World) (h : RfS w r base vL l st vD draws used) (hok : OkM l st) (hu : used ≤ 100000) (hn : needM 10 ≤ l.length) :
    Calls Try.prog 20 #[.pointer (some ⟨r, 0, none⟩), .int .i64 10] w (RDo w r base vL vD draws used (doM 10 l st (draws.drop used))) := by
  obtain ⟨lo, hi, rfl, hhi⟩ := split_hi l (needM 10) hn
  obtain ⟨a, b, rfl⟩ := hi2 hhi
  rw [doM_at 10 lo _ st _ (.inl (by simp [isNum])) hhi]
  have hl : lo.length + 2 ≤ 48 := by have := hok.1; simp at this; omega
  have hm : ∀ x ∈ lo ++ [a, b], mayB x = true := hok.2.1
  unfold stepM
  simp only [List.getD_cons_zero, List.getD_cons_succ]
  rw [if_pos (by simp [isNum])]
  have hg : [a, b].getD (needM 10 - 1) 0 = b := rfl
  simp only [hg]
  have hpl := fun W => rplain_num 10 a b (by simp [isNum]) (hm a (by simp)) W
  by_cases he : (numF 10 a b).2 = 0
  · rw [if_pos he]
    exact rdo_num2 10 (by decide) ⟨by decide, by decide, by decide, by decide, by decide, by decide, by decide, by decide⟩ r base used vL vD lo st draws a b _ _ w h hl hpl he
  · rw [if_neg he]
    exact rdo_num2_er 10 (by decide) ⟨by decide, by decide, by decide, by decide, by decide, by decide, by decide, by decide⟩ r base used vL vD lo st draws a b _ _ w h hl hpl he
set_option maxHeartbeats 1000000 in
theorem rdop_11 (r base used : Nat) (vL vD : Value) (l st draws : List Int) (w : World) (h : RfS w r base vL l st vD draws used) (hok : OkM l st) (hu : used ≤ 100000) (hn : needM 11 ≤ l.length) :
    Calls Try.prog 20 #[.pointer (some ⟨r, 0, none⟩), .int .i64 11] w (RDo w r base vL vD draws used (doM 11 l st (draws.drop used))) := by
  obtain ⟨lo, hi, rfl, hhi⟩ := split_hi l (needM 11) hn
  obtain ⟨a, b, rfl⟩ := hi2 hhi
  rw [doM_at 11 lo _ st _ (.inl (by simp [isNum])) hhi]
  have hl : lo.length + 2 ≤ 48 := by have := hok.1; simp at this; omega
  have hm : ∀ x ∈ lo ++ [a, b], mayB x = true := hok.2.1
  unfold stepM
  simp only [List.getD_cons_zero, List.getD_cons_succ]
  rw [if_pos (by simp [isNum])]
  have hg : [a, b].getD (needM 11 - 1) 0 = b := rfl
  simp only [hg]
  have hpl := fun W => rplain_num 11 a b (by simp [isNum]) (hm a (by simp)) W
  by_cases he : (numF 11 a b).2 = 0
  · rw [if_pos he]
    exact rdo_num2 11 (by decide) ⟨by decide, by decide, by decide, by decide, by decide, by decide, by decide, by decide⟩ r base used vL vD lo st draws a b _ _ w h hl hpl he
  · rw [if_neg he]
    exact rdo_num2_er 11 (by decide) ⟨by decide, by decide, by decide, by decide, by decide, by decide, by decide, by decide⟩ r base used vL vD lo st draws a b _ _ w h hl hpl he
set_option maxHeartbeats 1000000 in
theorem rdop_24 (r base used : Nat) (vL vD : Value) (l st draws : List Int) (w : World) (h : RfS w r base vL l st vD draws used) (hok : OkM l st) (hu : used ≤ 100000) (hn : needM 24 ≤ l.length) :
    Calls Try.prog 20 #[.pointer (some ⟨r, 0, none⟩), .int .i64 24] w (RDo w r base vL vD draws used (doM 24 l st (draws.drop used))) := by
  obtain ⟨lo, hi, rfl, hhi⟩ := split_hi l (needM 24) hn
  obtain ⟨a, b, rfl⟩ := hi2 hhi
  rw [doM_at 24 lo _ st _ (.inl (by simp [isNum])) hhi]
  have hl : lo.length + 2 ≤ 48 := by have := hok.1; simp at this; omega
  have hm : ∀ x ∈ lo ++ [a, b], mayB x = true := hok.2.1
  unfold stepM
  simp only [List.getD_cons_zero, List.getD_cons_succ]
  rw [if_pos (by simp [isNum])]
  have hg : [a, b].getD (needM 24 - 1) 0 = b := rfl
  simp only [hg]
  have hpl := fun W => rplain_num 24 a b (by simp [isNum]) (hm a (by simp)) W
  by_cases he : (numF 24 a b).2 = 0
  · rw [if_pos he]
    exact rdo_num2 24 (by decide) ⟨by decide, by decide, by decide, by decide, by decide, by decide, by decide, by decide⟩ r base used vL vD lo st draws a b _ _ w h hl hpl he
  · rw [if_neg he]
    exact rdo_num2_er 24 (by decide) ⟨by decide, by decide, by decide, by decide, by decide, by decide, by decide, by decide⟩ r base used vL vD lo st draws a b _ _ w h hl hpl he
set_option maxHeartbeats 1000000 in
theorem rdop_12 (r base used : Nat) (vL vD : Value) (l st draws : List Int) (w : World) (h : RfS w r base vL l st vD draws used) (hok : OkM l st) (hu : used ≤ 100000) (hn : needM 12 ≤ l.length) :
    Calls Try.prog 20 #[.pointer (some ⟨r, 0, none⟩), .int .i64 12] w (RDo w r base vL vD draws used (doM 12 l st (draws.drop used))) := by
  obtain ⟨lo, hi, rfl, hhi⟩ := split_hi l (needM 12) hn
  obtain ⟨a, b, rfl⟩ := hi2 hhi
  rw [doM_at 12 lo _ st _ (.inl (by simp [isNum])) hhi]
  have hl : lo.length + 2 ≤ 48 := by have := hok.1; simp at this; omega
  have hm : ∀ x ∈ lo ++ [a, b], mayB x = true := hok.2.1
  unfold stepM
  simp only [List.getD_cons_zero, List.getD_cons_succ]
  rw [if_pos (by simp [isNum])]
  have hg : [a, b].getD (needM 12 - 1) 0 = b := rfl
  simp only [hg]
  have hpl := fun W => rplain_num 12 a b (by simp [isNum]) (hm a (by simp)) W
  by_cases he : (numF 12 a b).2 = 0
  · rw [if_pos he]
    exact rdo_num2 12 (by decide) ⟨by decide, by decide, by decide, by decide, by decide, by decide, by decide, by decide⟩ r base used vL vD lo st draws a b _ _ w h hl hpl he
  · rw [if_neg he]
    exact rdo_num2_er 12 (by decide) ⟨by decide, by decide, by decide, by decide, by decide, by decide, by decide, by decide⟩ r base used vL vD lo st draws a b _ _ w h hl hpl he
set_option maxHeartbeats 1000000 in
theorem rdop_3 (r base used : Nat) (vL vD : Value) (l st draws : List Int) (w : World) (h : RfS w r base vL l st vD draws used) (hok : OkM l st) (hu : used ≤ 100000) (hn : needM 3 ≤ l.length) :
    Calls Try.prog 20 #[.pointer (some ⟨r, 0, none⟩), .int .i64 3] w (RDo w r base vL vD draws used (doM 3 l st (draws.drop used))) := by
  obtain ⟨lo, hi, rfl, hhi⟩ := split_hi l (needM 3) hn
  obtain ⟨a, b, rfl⟩ := hi2 hhi
  rw [doM_at 3 lo _ st _ (.inl (by simp [isNum])) hhi]
  have hl : lo.length + 2 ≤ 48 := by have := hok.1; simp at this; omega
  have hm : ∀ x ∈ lo ++ [a, b], mayB x = true := hok.2.1
  unfold stepM
  simp only [List.getD_cons_zero, List.getD_cons_succ]
  rw [if_pos (by simp [isNum])]
  have hg : [a, b].getD (needM 3 - 1) 0 = b := rfl
  simp only [hg]
  have hpl := fun W => rplain_num 3 a b (by simp [isNum]) (hm a (by simp)) W
  by_cases he : (numF 3 a b).2 = 0
  · rw [if_pos he]
    exact rdo_num2 3 (by decide) ⟨by decide, by decide, by decide, by decide, by decide, by decide, by decide, by decide⟩ r base used vL vD lo st draws a b _ _ w h hl hpl he
  · rw [if_neg he]
    exact rdo_num2_er 3 (by decide) ⟨by decide, by decide, by decide, by decide, by decide, by decide, by decide, by decide⟩ r base used vL vD lo st draws a b _ _ w h hl hpl he
set_option maxHeartbeats 1000000 in
theorem rdop_4 (r base used : Nat) (vL vD : Value) (l st draws : List Int) (w : World) (h : RfS w r base vL l st vD draws used) (hok : OkM l st) (hu : used ≤ 100000) (hn : needM 4 ≤ l.length) :
    Calls Try.prog 20 #[.pointer (some ⟨r, 0, none⟩), .int .i64 4] w (RDo w r base vL vD draws used (doM 4 l st (draws.drop used))) := by
  obtain ⟨lo, hi, rfl, hhi⟩ := split_hi l (needM 4) hn
  obtain ⟨a, b, rfl⟩ := hi2 hhi
  rw [doM_at 4 lo _ st _ (.inl (by simp [isNum])) hhi]
  have hl : lo.length + 2 ≤ 48 := by have := hok.1; simp at this; omega
  have hm : ∀ x ∈ lo ++ [a, b], mayB x = true := hok.2.1
  unfold stepM
  simp only [List.getD_cons_zero, List.getD_cons_succ]
  rw [if_pos (by simp [isNum])]
  have hg : [a, b].getD (needM 4 - 1) 0 = b := rfl
  simp only [hg]
  have hpl := fun W => rplain_num 4 a b (by simp [isNum]) (hm a (by simp)) W
  by_cases he : (numF 4 a b).2 = 0
  · rw [if_pos he]
    exact rdo_num2 4 (by decide) ⟨by decide, by decide, by decide, by decide, by decide, by decide, by decide, by decide⟩ r base used vL vD lo st draws a b _ _ w h hl hpl he
  · rw [if_neg he]
    exact rdo_num2_er 4 (by decide) ⟨by decide, by decide, by decide, by decide, by decide, by decide, by decide, by decide⟩ r base used vL vD lo st draws a b _ _ w h hl hpl he
set_option maxHeartbeats 1000000 in
theorem rdop_15 (r base used : Nat) (vL vD : Value) (l st draws : List Int) (w : World) (h : RfS w r base vL l st vD draws used) (hok : OkM l st) (hu : used ≤ 100000) (hn : needM 15 ≤ l.length) :
    Calls Try.prog 20 #[.pointer (some ⟨r, 0, none⟩), .int .i64 15] w (RDo w r base vL vD draws used (doM 15 l st (draws.drop used))) := by
  obtain ⟨lo, hi, rfl, hhi⟩ := split_hi l (needM 15) hn
  obtain ⟨a, b, rfl⟩ := hi2 hhi
  rw [doM_at 15 lo _ st _ (.inl (by simp [isNum])) hhi]
  have hl : lo.length + 2 ≤ 48 := by have := hok.1; simp at this; omega
  have hm : ∀ x ∈ lo ++ [a, b], mayB x = true := hok.2.1
  unfold stepM
  simp only [List.getD_cons_zero, List.getD_cons_succ]
  rw [if_pos (by simp [isNum])]
  have hg : [a, b].getD (needM 15 - 1) 0 = b := rfl
  simp only [hg]
  have hpl := fun W => rplain_num 15 a b (by simp [isNum]) (hm a (by simp)) W
  by_cases he : (numF 15 a b).2 = 0
  · rw [if_pos he]
    exact rdo_num2 15 (by decide) ⟨by decide, by decide, by decide, by decide, by decide, by decide, by decide, by decide⟩ r base used vL vD lo st draws a b _ _ w h hl hpl he
  · rw [if_neg he]
    exact rdo_num2_er 15 (by decide) ⟨by decide, by decide, by decide, by decide, by decide, by decide, by decide, by decide⟩ r base used vL vD lo st draws a b _ _ w h hl hpl he
set_option maxHeartbeats 1000000 in
theorem rdop_18 (r base used : Nat) (vL vD : Value) (l st draws : List Int) (w : World) (h : RfS w r base vL l st vD draws used) (hok : OkM l st) (hu : used ≤ 100000) (hn : needM 18 ≤ l.length) :
    Calls Try.prog 20 #[.pointer (some ⟨r, 0, none⟩), .int .i64 18] w (RDo w r base vL vD draws used (doM 18 l st (draws.drop used))) := by
  obtain ⟨lo, hi, rfl, hhi⟩ := split_hi l (needM 18) hn
  obtain ⟨a, rfl⟩ := hi1 hhi
  rw [doM_at 18 lo _ st _ (.inr (by simp [isMov])) hhi]
  have hl : lo.length + 1 ≤ 48 := by have := hok.1; simp at this; omega
  have hm : ∀ x ∈ lo ++ [a], mayB x = true := hok.2.1
  unfold stepM
  simp only [List.getD_cons_zero, List.getD_cons_succ]
  rw [if_neg (by simp [isNum]), if_pos (by first | trivial | rfl)]
  exact rdo_18 r base used vL vD lo st draws a w h hl
set_option maxHeartbeats 1000000 in
theorem rdop_27 (r base used : Nat) (vL vD : Value) (l st draws : List Int) (w : World) (h : RfS w r base vL l st vD draws used) (hok : OkM l st) (hu : used ≤ 100000) (hn : needM 27 ≤ l.length) :
    Calls Try.prog 20 #[.pointer (some ⟨r, 0, none⟩), .int .i64 27] w (RDo w r base vL vD draws used (doM 27 l st (draws.drop used))) := by
  obtain ⟨lo, hi, rfl, hhi⟩ := split_hi l (needM 27) hn
  obtain ⟨a, rfl⟩ := hi1 hhi
  rw [doM_at 27 lo _ st _ (.inr (by simp [isMov])) hhi]
  have hl : lo.length + 1 ≤ 48 := by have := hok.1; simp at this; omega
  have hm : ∀ x ∈ lo ++ [a], mayB x = true := hok.2.1
  unfold stepM
  simp only [List.getD_cons_zero, List.getD_cons_succ]
  rw [if_neg (by simp [isNum]), if_neg (by decide), if_pos (by first | trivial | rfl)]
  by_cases hc : 48 < lo.length + 2
  · rw [if_pos hc]; exact rdo_27_over r base used vL vD lo st draws a w h hl (by omega)
  · rw [if_neg hc]; exact rdo_27 r base used vL vD lo st draws a w h hl (by omega)
set_option maxHeartbeats 1000000 in
theorem rdop_28 (r base used : Nat) (vL vD : Value) (l st draws : List Int) (w : World) (h : RfS w r base vL l st vD draws used) (hok : OkM l st) (hu : used ≤ 100000) (hn : needM 28 ≤ l.length) :
    Calls Try.prog 20 #[.pointer (some ⟨r, 0, none⟩), .int .i64 28] w (RDo w r base vL vD draws used (doM 28 l st (draws.drop used))) := by
  obtain ⟨lo, hi, rfl, hhi⟩ := split_hi l (needM 28) hn
  obtain ⟨a, b, rfl⟩ := hi2 hhi
  rw [doM_at 28 lo _ st _ (.inr (by simp [isMov])) hhi]
  have hl : lo.length + 2 ≤ 48 := by have := hok.1; simp at this; omega
  have hm : ∀ x ∈ lo ++ [a, b], mayB x = true := hok.2.1
  unfold stepM
  simp only [List.getD_cons_zero, List.getD_cons_succ]
  rw [if_neg (by simp [isNum]), if_neg (by decide), if_neg (by decide), if_pos (by first | trivial | rfl)]
  exact rdo_28 r base used vL vD lo st draws a b w h hl
set_option maxHeartbeats 1000000 in
theorem rdop_22 (r base used : Nat) (vL vD : Value) (l st draws : List Int) (w : World) (h : RfS w r base vL l st vD draws used) (hok : OkM l st) (hu : used ≤ 100000) (hn : needM 22 ≤ l.length) :
    Calls Try.prog 20 #[.pointer (some ⟨r, 0, none⟩), .int .i64 22] w (RDo w r base vL vD draws used (doM 22 l st (draws.drop used))) := by
  obtain ⟨lo, hi, rfl, hhi⟩ := split_hi l (needM 22) hn
  obtain ⟨a, b, e, f, rfl⟩ := hi4 hhi
  rw [doM_at 22 lo _ st _ (.inr (by simp [isMov])) hhi]
  have hl : lo.length + 4 ≤ 48 := by have := hok.1; simp at this; omega
  have hm : ∀ x ∈ lo ++ [a, b, e, f], mayB x = true := hok.2.1
  unfold stepM
  simp only [List.getD_cons_zero, List.getD_cons_succ]
  rw [if_neg (by simp [isNum]), if_neg (by decide), if_neg (by decide), if_neg (by decide), if_pos (by first | trivial | rfl)]
  by_cases hc : e ≤ f
  · rw [if_pos hc]; exact rdo_22a r base used vL vD lo st draws a b e f w h hl hc
  · rw [if_neg hc]; exact rdo_22b r base used vL vD lo st draws a b e f w h hl (by omega)
set_option maxHeartbeats 1000000 in
theorem rdop_29 (r base used : Nat) (vL vD : Value) (l st draws : List Int) (w : World) (h : RfS w r base vL l st vD draws used) (hok : OkM l st) (hu : used ≤ 100000) (hn : needM 29 ≤ l.length) :
    Calls Try.prog 20 #[.pointer (some ⟨r, 0, none⟩), .int .i64 29] w (RDo w r base vL vD draws used (doM 29 l st (draws.drop used))) := by
  obtain ⟨lo, hi, rfl, hhi⟩ := split_hi l (needM 29) hn
  obtain ⟨a, rfl⟩ := hi1 hhi
  rw [doM_at 29 lo _ st _ (.inr (by simp [isMov])) hhi]
  have hl : lo.length + 1 ≤ 48 := by have := hok.1; simp at this; omega
  have hm : ∀ x ∈ lo ++ [a], mayB x = true := hok.2.1
  unfold stepM
  simp only [List.getD_cons_zero, List.getD_cons_succ]
  rw [if_neg (by simp [isNum]), if_neg (by decide), if_neg (by decide), if_neg (by decide), if_neg (by decide), if_pos (by first | trivial | rfl)]
  by_cases hc : max (a / 65536) 0 < (lo.length : Int)
  · rw [if_pos hc]
    obtain ⟨n, hn2⟩ : ∃ n : Nat, max (a / 65536) 0 = n := ⟨(max (a / 65536) 0).toNat, by omega⟩
    rw [hn2, show ((n : Int)).toNat = n by omega]
    rw [hn2] at hc
    exact rdo_29 r base used vL vD lo st draws a w h hl (hm a (by simp)) n (lo.length - 1 - n) ⟨hn2, by omega⟩
  · rw [if_neg hc]; exact rdo_29_no r base used vL vD lo st draws a w h hl (hm a (by simp)) (by omega)
set_option maxHeartbeats 1000000 in
theorem rdop_30 (r base used : Nat) (vL vD : Value) (l st draws : List Int) (w : World) (h : RfS w r base vL l st vD draws used) (hok : OkM l st) (hu : used ≤ 100000) (hn : needM 30 ≤ l.length) :
    Calls Try.prog 20 #[.pointer (some ⟨r, 0, none⟩), .int .i64 30] w (RDo w r base vL vD draws used (doM 30 l st (draws.drop used))) := by
  obtain ⟨lo, hi, rfl, hhi⟩ := split_hi l (needM 30) hn
  obtain ⟨a, b, rfl⟩ := hi2 hhi
  rw [doM_at 30 lo _ st _ (.inr (by simp [isMov])) hhi]
  have hl : lo.length + 2 ≤ 48 := by have := hok.1; simp at this; omega
  have hm : ∀ x ∈ lo ++ [a, b], mayB x = true := hok.2.1
  unfold stepM
  simp only [List.getD_cons_zero, List.getD_cons_succ]
  rw [if_neg (by simp [isNum]), if_neg (by decide), if_neg (by decide), if_neg (by decide), if_neg (by decide), if_neg (by decide), if_pos (by first | trivial | rfl)]
  by_cases hc : a / 65536 < 0 ∨ (lo.length : Int) < a / 65536
  · rw [if_pos hc]; exact rdo_30_no r base used vL vD lo st draws a b w h hl (hm a (by simp)) (hm b (by simp)) hc
  · rw [if_neg hc]
    by_cases h0 : a / 65536 = 0
    · rw [if_pos h0]; exact rdo_30_zero r base used vL vD lo st draws a b w h hl (hm a (by simp)) (hm b (by simp)) h0
    · rw [if_neg h0]
      obtain ⟨m, hm2⟩ : ∃ m : Nat, a / 65536 = m := ⟨(a / 65536).toNat, by omega⟩
      have hq : (lo.length - m) + m = lo.length := by omega
      have hx := rdo_30 r base used vL vD lo st draws a b w h hl (hm a (by simp)) (hm b (by simp)) m (lo.length - m) ⟨hm2, by omega, hq⟩
      have e : rollL lo (a / 65536).toNat (((b / 65536).tmod (a / 65536) + a / 65536).tmod (a / 65536)).toNat = lo.take (lo.length - m) ++ rr (lo.drop (lo.length - m)) ((b / 65536) % m).toNat := by
        rw [hm2, tm _ _ (by omega), show ((m : Int)).toNat = m by omega]
        have hd : (lo.drop (lo.length - m)).length = m := by simp; omega
        unfold rollL rr
        rw [hd]
      rw [e]; exact hx
set_option maxHeartbeats 1000000 in
theorem rdop_20 (r base used : Nat) (vL vD : Value) (l st draws : List Int) (w : World) (h : RfS w r base vL l st vD draws used) (hok : OkM l st) (hu : used ≤ 100000) (hn : needM 20 ≤ l.length) :
    Calls Try.prog 20 #[.pointer (some ⟨r, 0, none⟩), .int .i64 20] w (RDo w r base vL vD draws used (doM 20 l st (draws.drop used))) := by
  obtain ⟨lo, hi, rfl, hhi⟩ := split_hi l (needM 20) hn
  obtain ⟨a, b, rfl⟩ := hi2 hhi
  rw [doM_at 20 lo _ st _ (.inr (by simp [isMov])) hhi]
  have hl : lo.length + 2 ≤ 48 := by have := hok.1; simp at this; omega
  have hm : ∀ x ∈ lo ++ [a, b], mayB x = true := hok.2.1
  unfold stepM
  simp only [List.getD_cons_zero, List.getD_cons_succ]
  rw [if_neg (by simp [isNum]), if_neg (by decide), if_neg (by decide), if_neg (by decide), if_neg (by decide), if_neg (by decide), if_neg (by decide), if_pos (by first | trivial | rfl)]
  by_cases hc : 0 ≤ b / 65536 ∧ b / 65536 < 32
  · rw [if_pos hc]
    obtain ⟨n, hn2⟩ : ∃ n : Nat, b / 65536 = n := ⟨(b / 65536).toNat, by omega⟩
    rw [hn2, show ((n : Int)).toNat = n by omega]
    exact rdo_20 r base used vL vD lo st draws a b w h hl (hm b (by simp)) n ⟨hn2, by omega⟩
  · rw [if_neg hc]; exact rdo_20_no r base used vL vD lo st draws a b w h hl (hm b (by simp)) (by omega)
set_option maxHeartbeats 1000000 in
theorem rdop_21 (r base used : Nat) (vL vD : Value) (l st draws : List Int) (w : World) (h : RfS w r base vL l st vD draws used) (hok : OkM l st) (hu : used ≤ 100000) (hn : needM 21 ≤ l.length) :
    Calls Try.prog 20 #[.pointer (some ⟨r, 0, none⟩), .int .i64 21] w (RDo w r base vL vD draws used (doM 21 l st (draws.drop used))) := by
  obtain ⟨lo, hi, rfl, hhi⟩ := split_hi l (needM 21) hn
  obtain ⟨a, rfl⟩ := hi1 hhi
  rw [doM_at 21 lo _ st _ (.inr (by simp [isMov])) hhi]
  have hl : lo.length + 1 ≤ 48 := by have := hok.1; simp at this; omega
  have hm : ∀ x ∈ lo ++ [a], mayB x = true := hok.2.1
  unfold stepM
  simp only [List.getD_cons_zero, List.getD_cons_succ]
  rw [if_neg (by simp [isNum]), if_neg (by decide), if_neg (by decide), if_neg (by decide), if_neg (by decide), if_neg (by decide), if_neg (by decide), if_neg (by decide), if_pos (by first | trivial | rfl)]
  by_cases hc : 0 ≤ a / 65536 ∧ a / 65536 < 32
  · rw [if_pos hc]
    obtain ⟨n, hn2⟩ : ∃ n : Nat, a / 65536 = n := ⟨(a / 65536).toNat, by omega⟩
    rw [hn2, show ((n : Int)).toNat = n by omega]
    exact rdo_21 r base used vL vD lo st draws a w h hl (hm a (by simp)) n ⟨hn2, by omega⟩
  · rw [if_neg hc]; exact rdo_21_no r base used vL vD lo st draws a w h hl (hm a (by simp)) (by omega)
set_option maxHeartbeats 1000000 in
theorem rdop_23 (r base used : Nat) (vL vD : Value) (l st draws : List Int) (w : World) (h : RfS w r base vL l st vD draws used) (hok : OkM l st) (hu : used ≤ 100000) (hn : needM 23 ≤ l.length) :
    Calls Try.prog 20 #[.pointer (some ⟨r, 0, none⟩), .int .i64 23] w (RDo w r base vL vD draws used (doM 23 l st (draws.drop used))) := by
  obtain ⟨lo, hi, rfl, hhi⟩ := split_hi l (needM 23) hn
  obtain rfl : hi = [] := List.eq_nil_of_length_eq_zero hhi
  rw [doM_at 23 lo _ st _ (.inr (by simp [isMov])) hhi]
  have hl : lo.length + 0 ≤ 48 := by have := hok.1; simp at this; omega
  have hm : ∀ x ∈ lo ++ [], mayB x = true := hok.2.1
  unfold stepM
  simp only [List.getD_cons_zero, List.getD_cons_succ]
  rw [if_neg (by simp [isNum]), if_neg (by decide), if_neg (by decide), if_neg (by decide), if_neg (by decide), if_neg (by decide), if_neg (by decide), if_neg (by decide), if_neg (by decide)]
  rw [tail_drop]
  change Calls Try.prog 20 #[.pointer (some ⟨r, 0, none⟩), .int .i64 23] w (RDo w r base vL vD draws used (if lo.length = 48 then (170, lo ++ [], st, draws.drop used) else (0, lo ++ [drawnQ (draws.drop used)], st, draws.drop (used + 1))))
  rw [List.append_nil] at h ⊢
  obtain ⟨pd, cd, rfl⟩ := islc h.2.2.2.2.2.1
  have hli := h.2.2.2.1.ints
  have hil : ∀ W, Kp [] w W → IsInts .i64 W vL lo := fun W hW => hli.kp hW (by simp)
  rcases h.2.2.2.1 with ⟨hv, h0⟩ | ⟨g, cap, cur, hv, h1, h2, h3, h4, h5, h6⟩
  · subst h0; subst hv
    rw [if_neg (by decide)]
    exact rdo_23_nil r base used pd cd [] st draws w h (by simp) hu hil
  · subst hv
    by_cases h48 : lo.length = 48
    · rw [if_pos h48]
      by_cases hcc : lo.length < cap
      · exact rdo_23_room_over r base used pd cd lo st draws g cap hcc w h h48 hu hil
      · obtain rfl : cap = lo.length := by omega
        exact rdo_23_full_over r base used pd cd lo st draws g (by omega) w h h48 hu hil
    · rw [if_neg h48]
      by_cases hcc : lo.length < cap
      · exact rdo_23_room r base used pd cd lo st draws g cap hcc w h (by omega) hu hil
      · obtain rfl : cap = lo.length := by omega
        by_cases hz : lo.length = 0
        · obtain rfl : lo = [] := List.eq_nil_of_length_eq_zero hz
          exact rdo_23_zero r base used pd cd [] st draws ⟨g, 0, none⟩ w h (by simp) hu hil
        · exact rdo_23_full r base used pd cd lo st draws g (by omega) w h (by omega) hu hil
theorem rneed_is (op : Int) (hop : isNum op ∨ isMov op) : rneed op = needM op := by unfold rneed; rw [if_pos hop]
set_option maxHeartbeats 1000000 in
theorem rdo_calls (op : Int) (r base used : Nat) (vL vD : Value) (l st draws : List Int) (w : World) (h : RfS w r base vL l st vD draws used) (hok : OkM l st) (hu : used ≤ 100000) :
    Calls Try.prog 20 #[.pointer (some ⟨r, 0, none⟩), .int .i64 op] w (RDo w r base vL vD draws used (doM op l st (draws.drop used))) := by
  by_cases hop : isNum op ∨ isMov op
  · by_cases hs : l.length < needM op
    · rw [show doM op l st (draws.drop used) = (170, l, st, draws.drop used) by unfold doM; rw [if_neg (fun hh => hop.elim hh.1 hh.2), if_pos hs]]
      have hk4 : needM op ≤ 4 := by unfold needM; split <;> (try split) <;> (try split) <;> omega
      exact (rdo_short op (needM op) (rneed_is op hop) r base used vL vD l st draws w h hs hk4).mono fun e w' hh => by obtain ⟨he, rfl⟩ := hh; subst he; exact RDo.same h (Kp.refl _ _) 170
    · have hn : needM op ≤ l.length := by omega
      rcases hop with hop | hop
      · rcases hop with rfl | rfl | rfl | rfl | rfl | rfl | rfl | rfl | rfl | rfl | rfl
        · exact rdop_9 r base used vL vD l st draws w h hok hu hn
        · exact rdop_14 r base used vL vD l st draws w h hok hu hn
        · exact rdop_26 r base used vL vD l st draws w h hok hu hn
        · exact rdop_5 r base used vL vD l st draws w h hok hu hn
        · exact rdop_10 r base used vL vD l st draws w h hok hu hn
        · exact rdop_11 r base used vL vD l st draws w h hok hu hn
        · exact rdop_24 r base used vL vD l st draws w h hok hu hn
        · exact rdop_12 r base used vL vD l st draws w h hok hu hn
        · exact rdop_3 r base used vL vD l st draws w h hok hu hn
        · exact rdop_4 r base used vL vD l st draws w h hok hu hn
        · exact rdop_15 r base used vL vD l st draws w h hok hu hn
      · rcases hop with rfl | rfl | rfl | rfl | rfl | rfl | rfl | rfl | rfl
        · exact rdop_18 r base used vL vD l st draws w h hok hu hn
        · exact rdop_27 r base used vL vD l st draws w h hok hu hn
        · exact rdop_29 r base used vL vD l st draws w h hok hu hn
        · exact rdop_21 r base used vL vD l st draws w h hok hu hn
        · exact rdop_28 r base used vL vD l st draws w h hok hu hn
        · exact rdop_30 r base used vL vD l st draws w h hok hu hn
        · exact rdop_20 r base used vL vD l st draws w h hok hu hn
        · exact rdop_22 r base used vL vD l st draws w h hok hu hn
        · exact rdop_23 r base used vL vD l st draws w h hok hu hn
  · have hr : rneed op = -1 := by unfold rneed; rw [if_neg hop]
    rw [show doM op l st (draws.drop used) = (1, l, st, draws.drop used) by unfold doM; rw [if_pos ⟨fun x => hop (.inl x), fun x => hop (.inr x)⟩]]
    exact (rdo_none op hr ⟨r, 0, none⟩ w).mono fun e w' hh => by obtain ⟨he, rfl⟩ := hh; subst he; exact RDo.same h (Kp.refl _ _) 1
end Go.Proofs.Ytlnmpffpieofeaa

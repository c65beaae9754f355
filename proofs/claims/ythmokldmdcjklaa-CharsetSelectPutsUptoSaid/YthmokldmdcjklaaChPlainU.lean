/- What was put is loaded again, whatever follows. Plain lists; no program in sight. -/
import Derived.Test.YthmokldmdcjklaaChPlainP
namespace Go.Proofs.Ythmokldmdcjklaa
set_option linter.unusedVariables false
set_option linter.unusedSimpArgs false
theorem rd_at (A B C : List Int) : rdB (A ++ B ++ C) A.length false B.length = false ∧ rdV (A ++ B ++ C) A.length false B.length = beN B ∧ rdK (A ++ B ++ C) A.length false B.length = A.length + B.length := by
  have h1 : rdB (A ++ B ++ C) A.length false B.length = false := by unfold rdB; simp
  refine ⟨h1, ?_, ?_⟩
  · unfold rdV cutB; rw [h1, if_neg (by simp), List.append_assoc, List.drop_left, List.take_left]
  · unfold rdK; rw [h1, if_neg (by simp)]
theorem rd_in {zs A B C : List Int} (h : zs = A ++ B ++ C) (k m : Nat) (hk : k = A.length) (hm : m = B.length) : rdB zs k false m = false ∧ rdV zs k false m = beN B ∧ rdK zs k false m = k + m := by
  subst h hk hm; exact rd_at A B C
theorem beN_by2 (x : Int) (h0 : 0 ≤ x) (h1 : x ≤ 65535) : beN (by2 x) = x := by simp [beN, by2]; omega
theorem beN_1 (x : Int) : beN [x] = x := by simp [beN]
theorem runGo_all (p : Nat → Bool) (most : Int) : ∀ (fuel n t : Nat), n ≤ t → t < runGo p most fuel n → p t = true ∧ (t : Int) ≤ most := by
  intro fuel
  induction fuel with
  | zero => intro n t h1 h2; unfold runGo at h2; omega
  | succ fuel ih =>
    intro n t h1 h2
    unfold runGo at h2
    split at h2
    · rename_i hc
      by_cases e : n = t
      · subst e; exact ⟨hc.2, hc.1⟩
      · exact ih (n + 1) t (by omega) h2
    · omega
theorem ups_run (f : Nat) (l : List Int) (h : 1 ≤ l.length) : ups (l.getD 0 0) (runL f l) = l.take (runL f l) := by
  have hle := runL_le f l h
  apply List.ext_getElem?
  intro i
  unfold ups
  rw [List.getElem?_map]
  by_cases hi : i < runL f l
  · rw [List.getElem?_range hi, List.getElem?_take_of_lt hi, List.getElem?_eq_getElem (by omega)]
    by_cases h0 : i = 0
    · subst h0; simp [List.getD_eq_getElem?_getD, List.getElem?_eq_getElem (show 0 < l.length by omega)]
    · have := (runGo_all _ _ _ 1 i (by omega) hi).1
      have e := eq_of_beq this
      rw [List.getD_eq_getElem?_getD, List.getElem?_eq_getElem (by omega)] at e
      simp at e ⊢; omega
  · rw [List.getElem?_eq_none (by simp; omega), List.getElem?_eq_none (by simp; omega)]; rfl
theorem runL_most (f : Nat) (l : List Int) : ((runL f l : Nat) : Int) - 1 ≤ mostOf f := by
  by_cases h : runL f l = 1
  · rw [h]; unfold mostOf; split <;> (try split) <;> omega
  · have h1 := runL_ge f l
    have := (runGo_all (fun i => l.getD i 0 == l.getD 0 0 + i) (mostOf f) (l.length - 1) 1 (runL f l - 1) (by omega) (by unfold runL; have := h1; unfold runL at this; omega)).2
    omega
theorem moreB_len (f r : Nat) (hf : f ≤ 2) : (moreB f r).length = f := by
  have : f = 0 ∨ f = 1 ∨ f = 2 := by omega
  rcases this with rfl | rfl | rfl <;> simp [moreB, by2]
theorem moreB_val (f r : Nat) (hf : f ≤ 2) (h1 : 1 ≤ r) (hr : ((r : Nat) : Int) - 1 ≤ mostOf f) : f ≠ 0 → beN (moreB f r) = (r : Int) - 1 := by
  have : f = 0 ∨ f = 1 ∨ f = 2 := by omega
  rcases this with rfl | rfl | rfl
  · intro h; exact absurd rfl h
  · intro _; simp [moreB, beN]; simp [mostOf] at hr; omega
  · intro _; simp only [moreB]; rw [if_neg (by decide), if_neg (by decide)]; simp [mostOf] at hr; exact beN_by2 _ (by omega) (by omega)
theorem loads_go (f : Nat) (hf : f ≤ 2) (zs behind l : List Int) (R : Option (List Int)) (hb : ∀ c ∈ l, 0 ≤ c ∧ c ≤ 65535) :
    ∀ (m : Nat) (rest A L : List Int), rest.length ≤ m → zs = A ++ putGo f m rest ++ behind → L ++ rest = l → CsAt zs f l.length R L A.length → R = some l := by
  intro m
  induction m with
  | zero =>
    intro rest A L h1 h2 h3 h4
    have : rest = [] := List.eq_nil_of_length_eq_zero (by omega)
    subst this
    simp at h3; subst h3
    exact csAt_end _ _ _ _ _ _ h4 (by omega)
  | succ m ih =>
    intro rest A L h1 h2 h3 h4
    by_cases hr : rest = []
    · subst hr
      simp at h3; subst h3
      exact csAt_end _ _ _ _ _ _ h4 (by omega)
    · have hr1 : 1 ≤ rest.length := List.length_pos_iff.2 hr
      unfold putGo at h2
      rw [if_neg hr] at h2
      unfold putRun at h2
      have hlen : L.length + rest.length = l.length := by rw [← h3]; simp
      have g1 := runL_ge f rest
      have g2 := runL_le f rest hr1
      have g3 := runL_most f rest
      have g4 := ups_run f rest hr1
      have hin : ∀ i, i < rest.length → 0 ≤ rest.getD i 0 ∧ rest.getD i 0 ≤ 65535 := by
        intro i hi
        apply hb
        rw [← h3, List.getD_eq_getElem?_getD, List.getElem?_eq_getElem hi]
        exact List.mem_append_right _ (List.getElem_mem _)
      have hx := hin 0 (by omega)
      have hlast : rest.getD 0 0 + ((runL f rest : Nat) : Int) - 1 ≤ 65535 := by
        have e : (ups (rest.getD 0 0) (runL f rest))[runL f rest - 1]? = rest[runL f rest - 1]? := by rw [g4, List.getElem?_take_of_lt (by omega)]
        unfold ups at e
        rw [List.getElem?_map, List.getElem?_range (by omega), List.getElem?_eq_getElem (by omega)] at e
        have e2 := hin (runL f rest - 1) (by omega)
        rw [List.getD_eq_getElem?_getD, List.getElem?_eq_getElem (by omega)] at e2
        have e0 : rest[0]?.getD 0 = rest.getD 0 0 := by rw [List.getD_eq_getElem?_getD]
        simp at e e2
        omega
      generalize hrr : runL f rest = r at *
      have e1 := rd_in (zs := zs) (A := A) (B := by2 (rest.getD 0 0)) (C := moreB f r ++ putGo f m (rest.drop r) ++ behind) (by rw [h2]; simp [List.append_assoc]) A.length 2 rfl rfl
      have e2 := rd_in (zs := zs) (A := A ++ by2 (rest.getD 0 0)) (B := moreB f r) (C := putGo f m (rest.drop r) ++ behind) (by rw [h2]; simp [List.append_assoc]) (A.length + 2) f (by simp [by2]) (moreB_len f r hf).symm
      have c1 : cs1 zs f A.length = rest.getD 0 0 := by unfold cs1; rw [e1.2.1]; exact beN_by2 _ hx.1 hx.2
      have cm : csM zs f A.length = (r : Int) - 1 := by
        unfold csM moV; rw [e1.2.2, e1.1]
        by_cases h0 : f = 0
        · subst h0; rw [if_pos rfl]; simp [mostOf] at g3; omega
        · rw [if_neg h0, e2.2.1]; exact moreB_val f r hf g1 g3 h0
      have ck : csK zs f A.length = A.length + 2 + f := by
        unfold csK moK; rw [e1.2.2, e1.1]
        by_cases h0 : f = 0
        · subst h0; rw [if_pos rfl]
        · rw [if_neg h0, e2.2.2]
      have cb : csB zs f A.length = false := by
        unfold csB moB; rw [e1.2.2, e1.1]
        by_cases h0 : f = 0
        · rw [if_pos h0]
        · rw [if_neg h0, e2.1]
      have st := csAt_step zs f l.length R L A.length h4 (by omega) (by rw [cb, c1, cm]; rintro (h | h | h); exact absurd h (by simp); omega; omega) (by rw [cm]; omega)
      rw [c1, cm, ck, show ((r : Int) - 1).toNat + 1 = r by omega, g4] at st
      refine ih (rest.drop r) (A ++ by2 (rest.getD 0 0) ++ moreB f r) (L ++ rest.take r) (by simp; omega) ?_ (by rw [List.append_assoc, List.take_append_drop]; exact h3) ?_
      · rw [h2]; simp [List.append_assoc]
      · rw [List.length_append, List.length_append, moreB_len f r hf]; exact st
theorem loads_put (l : List Int) (f : Nat) (behind : List Int) (hm : mayPut l f = true) : csLoad (csPut l f ++ behind) l.length = some l := by
  unfold mayPut at hm
  simp only [Bool.and_eq_true, decide_eq_true_eq, beq_iff_eq] at hm
  obtain ⟨⟨⟨⟨⟨k1, k2⟩, k3⟩, k4⟩, k5⟩, k6⟩ := hm
  have hb : ∀ c ∈ l, 0 ≤ c ∧ c ≤ 65535 := fun c hc => by have := List.all_eq_true.1 k4 c hc; simpa [inB] using this
  have hf : f ≤ 2 := by omega
  have e := rd_in (zs := csPut l f ++ behind) (A := []) (B := [(f : Int)]) (C := putGo f l.length (l.drop 1) ++ behind) (by simp [csPut]) 0 1 rfl rfl
  rw [beN_1] at e
  have st := csAt_start (csPut l f ++ behind) l.length k1 e.1 (by rw [e.2.1]; omega)
  rw [e.2.1, e.2.2, Int.toNat_natCast] at st
  refine loads_go f hf (csPut l f ++ behind) behind l _ hb l.length (l.drop 1) [(f : Int)] [0] (by simp) rfl ?_ st
  cases l with
  | nil => simp at k1
  | cons a t => simp at k3 ⊢; exact k3.symm
end Go.Proofs.Ythmokldmdcjklaa

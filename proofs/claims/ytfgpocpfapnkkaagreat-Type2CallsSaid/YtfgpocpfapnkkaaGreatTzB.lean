/- type2: what is drawn is an outline without points of quadratic curves (plain). -/
import Derived.Test.YtfgpocpfapnkkaaGreatTxH
namespace Go.Proofs.YtfgpocpfapnkkaaGreat
open Go.RowKit
set_option linter.unusedVariables false
set_option linter.unusedSimpArgs false
section
variable {Q : Pe → Prop} (hm : ∀ q a b, Q q → Q (moveP q a b)) (hp : ∀ q a b k, (k = 1 ∨ k = 3) → Q q → Q (putP q a b k))
include hp
theorem cl_curve {q : Pe} (h : Q q) (a b c d e f : Int) : Q (curveP q a b c d e f) := hp _ _ _ _ (.inl rfl) (hp _ _ _ _ (.inr rfl) (hp _ _ _ _ (.inr rfl) h))
theorem cl_lines : ∀ (xs : List Int) (q : Pe), Q q → Q (linesP q xs)
  | [], _, h => h
  | [_], _, h => h
  | a :: b :: t, q, h => by rw [linesP]; exact cl_lines t _ (hp _ _ _ _ (.inl rfl) h)
theorem cl_curves : ∀ (xs : List Int) (q : Pe), Q q → Q (curvesP q xs)
  | [], _, h => h
  | [_], _, h => h
  | [_, _], _, h => h
  | [_, _, _], _, h => h
  | [_, _, _, _], _, h => h
  | [_, _, _, _, _], _, h => h
  | a :: b :: c :: d :: e :: f :: t, q, h => by rw [curvesP]; exact cl_curves t _ (cl_curve hp h _ _ _ _ _ _)
theorem cl_steps : ∀ (xs : List Int) (q : Pe) (x : Bool), Q q → Q (stepsP q x xs)
  | [], _, _, h => h
  | d :: t, q, true, h => cl_steps t _ _ (hp _ d 0 1 (.inl rfl) h)
  | d :: t, q, false, h => cl_steps t _ _ (hp _ 0 d 1 (.inl rfl) h)
theorem cl_level : ∀ (xs : List Int) (q : Pe) (y : Int), Q q → Q (levelP q y xs)
  | [], _, _, h => h
  | [_], _, _, h => h
  | [_, _], _, _, h => h
  | [_, _, _], _, _, h => h
  | a :: b :: c :: d :: t, q, y, h => cl_level t _ _ (cl_curve hp h _ _ _ _ _ _)
theorem cl_upright : ∀ (xs : List Int) (q : Pe) (y : Int), Q q → Q (uprightP q y xs)
  | [], _, _, h => h
  | [_], _, _, h => h
  | [_, _], _, _, h => h
  | [_, _, _], _, _, h => h
  | a :: b :: c :: d :: t, q, y, h => cl_upright t _ _ (cl_curve hp h _ _ _ _ _ _)
theorem cl_turns : ∀ (xs : List Int) (q : Pe) (x : Bool), Q q → Q (turnsP q x xs)
  | [], _, _, h => h
  | [_], _, _, h => h
  | [_, _], _, _, h => h
  | [_, _, _], _, _, h => h
  | a :: b :: c :: d :: t, q, true, h => cl_turns t _ _ (cl_curve hp h _ _ _ _ _ _)
  | a :: b :: c :: d :: t, q, false, h => cl_turns t _ _ (cl_curve hp h _ _ _ _ _ _)
include hm
theorem cl_F : ∀ s ∈ sks, ∀ (q : Pe) (xs : List Int), Q q → Q (s.F q xs) := by
  intro s hs q xs h
  simp only [sks, List.mem_cons, List.not_mem_nil, or_false] at hs
  rcases hs with rfl | rfl | rfl | rfl | rfl | rfl | rfl | rfl | rfl | rfl | rfl | rfl | rfl | rfl | rfl | rfl | rfl
  · exact hm _ _ _ h
  · exact hm _ _ _ h
  · exact hm _ _ _ h
  · exact cl_lines hp _ _ h
  · exact cl_steps hp _ _ _ h
  · exact cl_steps hp _ _ _ h
  · exact cl_curves hp _ _ h
  · exact cl_lines hp _ _ (cl_curves hp _ _ h)
  · exact cl_curves hp _ _ (cl_lines hp _ _ h)
  · exact cl_upright hp _ _ _ h
  · exact cl_level hp _ _ _ h
  · exact cl_turns hp _ _ _ h
  · exact cl_turns hp _ _ _ h
  · show Q (hflexP q xs)
    unfold hflexP; split
    · exact cl_curve hp (cl_curve hp h _ _ _ _ _ _) _ _ _ _ _ _
    · exact h
  · exact cl_curves hp _ _ h
  · show Q (hflex1P q xs)
    unfold hflex1P; split
    · exact cl_curve hp (cl_curve hp h _ _ _ _ _ _) _ _ _ _ _ _
    · exact h
  · show Q (flex1P q xs)
    unfold flex1P; split
    · unfold flex1Q; split
      · exact cl_curve hp (cl_curve hp h _ _ _ _ _ _) _ _ _ _ _ _
      · exact cl_curve hp (cl_curve hp h _ _ _ _ _ _) _ _ _ _ _ _
    · exact h
/-- What all operations on the pen keep, the program keeps. -/
def clR (Q : Pe → Prop) (f : List Int → Ms → Rm) : Prop := ∀ zs st st', Q st.pen → f zs st = .ok st' → Q st'.pen
omit hm hp in
theorem pen_all (st : Ms) (nom : Int) (b : Bool) : (allS st nom b).pen = st.pen := by unfold allS; split <;> rfl
theorem cl_draw {st st' : Ms} {nom op : Int} (h : Q st.pen) (e : drawM nom op st = .ok st') : Q st'.pen := by
  unfold drawM at e
  split at e
  · cases e
  · rename_i s hs
    have hmm := List.mem_of_find?_eq_some hs
    unfold drawS at e
    dsimp only at e
    split at e
    · cases e
    · split at e
      · cases e
      · split at e
        · cases e
        · cases e; exact cl_F hm hp s hmm _ _ h
omit hm hp in
theorem cl_stem {st st' : Ms} {nom : Int} (h : Q st.pen) (e : stemM nom st = .ok st') : Q st'.pen := by
  unfold stemM at e
  dsimp only at e
  split at e
  · cases e
  · split at e
    · cases e
    · cases e; show Q (allS _ _ _).pen; rw [pen_all]; exact h
omit hm hp in
theorem cl_end {st st' : Ms} {nom : Int} (h : Q st.pen) (e : endM nom st = .ok st') : Q st'.pen := by
  unfold endM at e
  dsimp only at e
  split at e
  · cases e
  · split at e
    · cases e
    · split at e
      · cases e
      · cases e; show Q (allS _ _ _).pen; rw [pen_all]; exact h
omit hm hp in
theorem cl_push {st st' : Ms} {x : Int} (h : Q st.pen) (e : pushM x st = .ok st') : Q st'.pen := by
  unfold pushM at e
  split at e
  · cases e
  · split at e
    · cases e
    · cases e; exact h
omit hm hp in
theorem cl_do {st st' : Ms} {op : Int} (h : Q st.pen) (e : doR op st = .ok st') : Q st'.pen := by
  unfold doR at e
  dsimp only at e
  split at e
  · cases e
  · cases e; exact h
omit hm hp in
theorem cl_call {st st' : Ms} {l : List (List Int)} {sub : Option (List Int → Ms → Rm)} (hf : ∀ f, sub = some f → clR Q f) (h : Q st.pen) (e : callM l sub st = .ok st') : Q st'.pen := by
  unfold callM at e
  split at e
  · cases e
  · dsimp only at e
    split at e
    · cases e
    · rename_i f
      split at e
      · cases e
      · refine hf f rfl _ { st with stk := st.stk.dropLast } _ h e
theorem cl_tok {st st' : Ms} {nom : Int} {G L : List (List Int)} {sub : Option (List Int → Ms → Rm)} {zs : List Int} {k : Nat} {c : Int} (hf : ∀ f, sub = some f → clR Q f) (h : Q st.pen) (e : (tokM nom G L sub zs k c st).1 = .ok st') : Q st'.pen := by
  unfold tokM at e
  split at e
  · split at e
    · cases e
    · exact cl_push h e
  · split at e
    · exact cl_call hf h e
    · split at e
      · exact cl_call hf h e
      · split at e
        · split at e
          · cases e
          · dsimp only at e
            split at e
            · exact cl_do h e
            · exact cl_draw hm hp h e
        · split at e
          · split at e
            · cases e
            · rename_i st2 hs
              split at e
              · cases e
              · cases e; exact cl_stem h hs
          · split at e
            · exact cl_stem h e
            · split at e
              · exact cl_end h e
              · exact cl_draw hm hp h e
theorem cl_loop {nom : Int} {G L : List (List Int)} {sub : Option (List Int → Ms → Rm)} {top : Bool} {zs : List Int} (hf : ∀ f, sub = some f → clR Q f) : ∀ (f k : Nat) (st st' : Ms), Q st.pen → loopM nom G L sub top zs f k st = .ok st' → Q st'.pen := by
  intro f
  induction f with
  | zero => intro k st st' h e; cases e
  | succ f ih =>
    intro k st st' h e
    unfold loopM at e
    split at e
    · cases e; exact h
    · split at e
      · cases e
      · split at e
        · cases e
        · split at e
          · split at e
            · cases e
            · cases e; exact h
          · split at e
            · cases e
            · rename_i st2 k2 ht
              exact ih _ _ _ (cl_tok hm hp (st := { st with steps := st.steps + 1 }) (zs := zs) (k := k + 1) (c := zs.getD k 0) hf h (by rw [ht])) e
theorem cl_code (nom : Int) (G L : List (List Int)) : ∀ (lev : Nat) (top : Bool), clR Q (codeM nom G L lev top)
  | 0, top => fun zs st st' h e => cl_loop hm hp (fun f hf => by cases hf) _ _ _ _ h e
  | lev + 1, top => fun zs st st' h e => cl_loop hm hp (fun f hf => by cases hf; exact cl_code nom G L lev false) _ _ _ _ h e
end
def kiC (c : List Pn) : Prop := c ≠ [] ∧ (c.getD 0 pn0).k = 1 ∧ ∀ p ∈ c, p.k ≠ 2
def kiP (q : Pe) : Prop := ∀ c ∈ q.l, kiC c
theorem ki_move (q : Pe) (a b : Int) (h : kiP q) : kiP (moveP q a b) := by
  unfold moveP
  split
  · intro c hc
    rcases List.mem_append.1 hc with g | g
    · exact h c g
    · simp at g; subst g
      exact ⟨by simp, rfl, fun p hp => by simp at hp; subst hp; show (1 : Int) ≠ 2; decide⟩
  · exact h
theorem ki_put (q : Pe) (a b k : Int) (hk : k = 1 ∨ k = 3) (h : kiP q) : kiP (putP q a b k) := by
  unfold putP
  split
  · split
    · intro c hc; rw [(failP_l q 180).1] at hc; exact h c hc
    · rename_i hne
      intro c hc
      rcases List.mem_append.1 hc with g | g
      · exact h c (List.dropLast_subset _ g)
      · simp only [List.mem_singleton] at g
        subst g
        have hm : q.l.getLastD [] ∈ q.l := by
          cases hq : q.l with
          | nil => exact absurd hq hne
          | cons x t => rw [List.getLastD_cons]; exact List.getLastD_mem_cons
        obtain ⟨h1, h2, h3⟩ := h _ hm
        refine ⟨by simp, ?_, fun p hp => ?_⟩
        · rw [getD_left (List.length_pos_iff.2 h1)]; exact h2
        · rcases List.mem_append.1 hp with g | g
          · exact h3 p g
          · simp at g; subst g
            show k ≠ 2
            omega
  · exact h
/-- What Run answers: nothing, or an outline of which the law speaks. -/
theorem run_draws (code : List Int) (G L : List (List Int)) (dflt nom : Int) (draws : List Int) (O : List (List Pn)) (W : Int) (S : Nat) (E : Int) (h : runM code G L dflt nom draws = ((O, W, S), E)) :
    (E ≠ 0 ∧ O = [] ∧ W = 0 ∧ S = 0) ∨ (E = 0 ∧ checkO O = 0 ∧ 1 ≤ S ∧ S ≤ 20000 ∧ ∀ c ∈ O, 2 ≤ c.length ∧ (c.getD 0 pn0).k = 1 ∧ ∀ p ∈ c, p.k ≠ 2) := by
  unfold runM at h
  split at h
  · cases h; exact .inl ⟨by decide, rfl, rfl, rfl⟩
  · split at h
    · rename_i e he
      cases h
      exact .inl ⟨nzF_code _ _ _ _ _ _ _ _ he, rfl, rfl, rfl⟩
    · rename_i st he
      split at h
      · rename_i hck
        cases h; exact .inl ⟨hck, rfl, rfl, rfl⟩
      · rename_i hck
        cases h
        have ok := okF_code nom G L 10 true code _ _ (okS_start draws dflt) he
        have ki : kiP st.pen := cl_code (Q := kiP) ki_move ki_put nom G L 10 true code _ _ (fun c hc => absurd hc (List.not_mem_nil)) he
        refine .inr ⟨rfl, by omega, ?_, ok.2.2.1, fun c hc => ?_⟩
        · have h9 : codeM nom G L 10 true code (ms0 draws dflt) = loopM nom G L (some (codeM nom G L 9 false)) true code 20001 0 (ms0 draws dflt) := rfl
          rw [h9] at he
          unfold loopM at he
          rw [if_neg (by show ¬ (false = true); decide)] at he
          split at he
          · cases he
          · split at he
            · cases he
            · split at he
              · split at he
                · cases he
                · cases he; show 1 ≤ 0 + 1; omega
              · split at he
                · cases he
                · rename_i st2 k2 ht
                  have g1 := ge_tok (nom := nom) (G := G) (L := L) (sub := some (codeM nom G L 9 false)) (zs := code) (k := 0 + 1) (c := code.getD 0 0) (fun f hf => by cases hf; exact geF_code nom G L 9 false) (by rw [ht])
                  have g2 := ge_loop (nom := nom) (G := G) (L := L) (sub := some (codeM nom G L 9 false)) (fun f hf => by cases hf; exact geF_code nom G L 9 false) _ _ _ _ he
                  have g3 : 0 + 1 ≤ st2.steps := g1
                  omega
        · obtain ⟨g1, g2⟩ := long_mem hc
          obtain ⟨_, k2, k3⟩ := ki c g1
          exact ⟨by omega, k2, k3⟩
end Go.Proofs.YtfgpocpfapnkkaaGreat

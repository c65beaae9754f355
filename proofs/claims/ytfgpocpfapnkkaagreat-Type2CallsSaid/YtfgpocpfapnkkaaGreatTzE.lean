/- type2: a program that is called as a subroutine draws the same, in two more steps, or is a call too deep (plain). -/
import Derived.Test.YtfgpocpfapnkkaaGreatTxH
namespace Go.Proofs.YtfgpocpfapnkkaaGreat
open Go.RowKit
set_option linter.unusedVariables false
set_option linter.unusedSimpArgs false
def up2 (st : Ms) : Ms := { st with steps := st.steps + 2 }
/-- The one does what the other does, two steps later; or it is a call too deep. -/
def SimR (f g : List Int → Ms → Rm) : Prop := ∀ zs st st', f zs st = .ok st' → st'.steps ≤ 19998 → g zs (up2 st) = .ok (up2 st') ∨ g zs (up2 st) = .error 182
def SimS : Option (List Int → Ms → Rm) → Option (List Int → Ms → Rm) → Prop
  | _, none => True
  | none, some _ => True
  | some f, some g => SimR f g
/-- The one list begins with the other, and what is added to a subroutine's number is the same. -/
def ExtL (l l' : List (List Int)) : Prop := biasM l'.length = biasM l.length ∧ l.length ≤ l'.length ∧ ∀ i, i < l.length → l'.getD i [] = l.getD i []
theorem ExtL.refl (l : List (List Int)) : ExtL l l := ⟨rfl, Nat.le_refl _, fun _ _ => rfl⟩
theorem ExtL.one {l : List (List Int)} (x : List Int) (h : biasM (l.length + 1 : Nat) = biasM l.length) : ExtL l (l ++ [x]) := by
  refine ⟨by rw [List.length_append]; exact h, by simp, fun i hi => ?_⟩
  rw [List.getD_eq_getElem?_getD, List.getD_eq_getElem?_getD, List.getElem?_append_left hi]
theorem up2_all (st : Ms) (nom : Int) (b : Bool) : allS (up2 st) nom b = up2 (allS st nom b) := by unfold allS; cases b <;> rfl
theorem up2_allE (st : Ms) (nom : Int) (b : Bool) : allE (up2 st) nom b = allE st nom b := rfl
theorem up2_allL (st : Ms) (b : Bool) : allL (up2 st) b = allL st b := rfl
theorem up2_stem {st st' : Ms} {nom : Int} (e : stemM nom st = .ok st') : stemM nom (up2 st) = .ok (up2 st') := by
  unfold stemM at e ⊢
  dsimp only at e ⊢
  simp only [up2_allE, up2_allL, up2_all, show (up2 st).wide = st.wide from rfl, show (up2 st).stk = st.stk from rfl, show (up2 st).stems = st.stems from rfl]
  split at e
  · cases e
  · rename_i h1
    rw [if_neg h1]
    split at e
    · cases e
    · rename_i h2
      rw [if_neg h2]
      cases e; rfl
theorem up2_end {st st' : Ms} {nom : Int} (e : endM nom st = .ok st') : endM nom (up2 st) = .ok (up2 st') := by
  unfold endM at e ⊢
  dsimp only at e ⊢
  simp only [up2_allE, up2_allL, up2_all, show (up2 st).wide = st.wide from rfl, show (up2 st).stk = st.stk from rfl]
  split at e
  · cases e
  · rename_i h1
    rw [if_neg h1]
    split at e
    · cases e
    · rename_i h2
      rw [if_neg h2]
      split at e
      · cases e
      · rename_i h3
        rw [if_neg h3]
        cases e; rfl
theorem up2_draw {st st' : Ms} {nom op : Int} (e : drawM nom op st = .ok st') : drawM nom op (up2 st) = .ok (up2 st') := by
  unfold drawM at e ⊢
  split at e
  · cases e
  · unfold drawS at e ⊢
    dsimp only at e ⊢
    simp only [up2_allE, up2_allL, up2_all, show (up2 st).wide = st.wide from rfl, show (up2 st).stk = st.stk from rfl, show (up2 st).pen = st.pen from rfl]
    split at e
    · cases e
    · rename_i h1
      rw [if_neg h1]
      split at e
      · cases e
      · rename_i h2
        rw [if_neg h2]
        split at e
        · cases e
        · rename_i h3
          rw [if_neg h3]
          cases e; rfl
theorem up2_push {st st' : Ms} {x : Int} (e : pushM x st = .ok st') : pushM x (up2 st) = .ok (up2 st') := by
  unfold pushM at e ⊢
  simp only [show (up2 st).stk = st.stk from rfl]
  split at e
  · cases e
  · rename_i h1
    rw [if_neg h1]
    split at e
    · cases e
    · rename_i h2
      rw [if_neg h2]
      cases e; rfl
theorem up2_do {st st' : Ms} {op : Int} (e : doR op st = .ok st') : doR op (up2 st) = .ok (up2 st') := by
  unfold doR at e ⊢
  dsimp only at e ⊢
  simp only [show (up2 st).stk = st.stk from rfl, show (up2 st).store = st.store from rfl, show (up2 st).draws = st.draws from rfl]
  split at e
  · cases e
  · rename_i h1
    rw [if_neg h1]
    cases e; rfl
theorem up2_call {st st' : Ms} {l l' : List (List Int)} {sub sub' : Option (List Int → Ms → Rm)} (hl : ExtL l l') (hs : SimS sub sub') (e : callM l sub st = .ok st') (h : st'.steps ≤ 19998) : callM l' sub' (up2 st) = .ok (up2 st') ∨ callM l' sub' (up2 st) = .error 182 := by
  unfold callM at e ⊢
  simp only [show (up2 st).stk = st.stk from rfl]
  split at e
  · cases e
  · rename_i h1
    rw [if_neg h1, hl.1]
    dsimp only at e ⊢
    cases sub with
    | none => cases e
    | some f =>
      dsimp only at e
      split at e
      · cases e
      · rename_i h2
        cases sub' with
        | none => exact .inr rfl
        | some g =>
          dsimp only
          have h3 := hl.2.1
          rw [if_neg (by omega), hl.2.2 _ (by omega)]
          exact hs _ { st with stk := st.stk.dropLast } _ e h
theorem up2_tok {st st' : Ms} {nom : Int} {G L G' L' : List (List Int)} {sub sub' : Option (List Int → Ms → Rm)} {zs : List Int} {k k' : Nat} {c : Int} (hG : ExtL G G') (hL : ExtL L L') (hs : SimS sub sub')
    (e : tokM nom G L sub zs k c st = (.ok st', k')) (h : st'.steps ≤ 19998) : tokM nom G' L' sub' zs k c (up2 st) = (.ok (up2 st'), k') ∨ (tokM nom G' L' sub' zs k c (up2 st)).1 = .error 182 := by
  unfold tokM at e ⊢
  split at e
  · rename_i h1
    rw [if_pos h1]
    split at e
    · cases e
    · rename_i h2
      rw [if_neg h2]
      obtain ⟨e1, rfl⟩ := Prod.mk.inj e
      exact .inl (by rw [up2_push e1])
  · rename_i h1
    rw [if_neg h1]
    split at e
    · rename_i h2
      rw [if_pos h2]
      obtain ⟨e1, rfl⟩ := Prod.mk.inj e
      rcases up2_call hL hs e1 h with h3 | h3
      · exact .inl (by rw [h3])
      · exact .inr h3
    · rename_i h2
      rw [if_neg h2]
      split at e
      · rename_i h2
        rw [if_pos h2]
        obtain ⟨e1, rfl⟩ := Prod.mk.inj e
        rcases up2_call hG hs e1 h with h3 | h3
        · exact .inl (by rw [h3])
        · exact .inr h3
      · rename_i h2
        rw [if_neg h2]
        split at e
        · rename_i h2
          rw [if_pos h2]
          split at e
          · cases e
          · rename_i h3
            rw [if_neg h3]
            obtain ⟨e1, rfl⟩ := Prod.mk.inj e
            split at e1
            · rename_i h4
              rw [if_pos h4]
              exact .inl (by rw [up2_do e1])
            · rename_i h4
              rw [if_neg h4]
              exact .inl (by rw [up2_draw e1])
        · rename_i h2
          rw [if_neg h2]
          split at e
          · rename_i h2
            rw [if_pos h2]
            split at e
            · cases e
            · rename_i st2 hst
              rw [up2_stem hst]
              dsimp only
              simp only [show (up2 st2).stems = st2.stems from rfl]
              split at e
              · cases e
              · rename_i h3
                rw [if_neg h3]
                obtain ⟨e1, rfl⟩ := Prod.mk.inj e
                cases e1
                exact .inl rfl
          · rename_i h2
            rw [if_neg h2]
            split at e
            · rename_i h2
              rw [if_pos h2]
              obtain ⟨e1, rfl⟩ := Prod.mk.inj e
              exact .inl (by rw [up2_stem e1])
            · rename_i h2
              rw [if_neg h2]
              split at e
              · rename_i h2
                rw [if_pos h2]
                obtain ⟨e1, rfl⟩ := Prod.mk.inj e
                exact .inl (by rw [up2_end e1])
              · rename_i h2
                rw [if_neg h2]
                obtain ⟨e1, rfl⟩ := Prod.mk.inj e
                exact .inl (by rw [up2_draw e1])
theorem loopM_up (nom : Int) (G L : List (List Int)) (sub : Option (List Int → Ms → Rm)) (top : Bool) (zs : List Int) (f k : Nat) (st : Ms) : loopM nom G L sub top zs (f + 1) k (up2 st) =
    if st.ended then .ok (up2 st)
    else if k = zs.length then .error 180
    else if st.steps + 2 = 20000 then .error 181
    else if zs.getD k 0 = 11 then (if top then .error 180 else .ok (up2 { st with steps := st.steps + 1 }))
    else match tokM nom G L sub zs (k + 1) (zs.getD k 0) (up2 { st with steps := st.steps + 1 }) with
      | (.error e, _) => .error e
      | (.ok st', k') => loopM nom G L sub top zs f k' st' := rfl
theorem up2_loop {nom : Int} {G L G' L' : List (List Int)} {sub sub' : Option (List Int → Ms → Rm)} {top top' : Bool} {zs : List Int} (hG : ExtL G G') (hL : ExtL L L') (hs : SimS sub sub') (hf : ∀ f, sub = some f → geF f) (ht : top' = true → top = true) :
    ∀ (f k : Nat) (st st' : Ms), loopM nom G L sub top zs f k st = .ok st' → st'.steps ≤ 19998 → loopM nom G' L' sub' top' zs f k (up2 st) = .ok (up2 st') ∨ loopM nom G' L' sub' top' zs f k (up2 st) = .error 182 := by
  intro f
  induction f with
  | zero => intro k st st' e; cases e
  | succ f ih =>
    intro k st st' e h
    rw [loopM_up]
    unfold loopM at e
    split at e
    · rename_i h1
      rw [if_pos h1]
      cases e; exact .inl rfl
    · rename_i h1
      rw [if_neg h1]
      split at e
      · cases e
      · rename_i h2
        rw [if_neg h2]
        split at e
        · cases e
        · rename_i h3
          split at e
          · rename_i h4
            split at e
            · cases e
            · rename_i h5
              cases e
              have h6 : st.steps + 1 ≤ 19998 := h
              rw [if_neg (by omega), if_pos h4, if_neg (fun g => h5 (ht g))]
              exact .inl rfl
          · rename_i h4
            split at e
            · cases e
            · rename_i st2 k2 he
              have hg2 := ge_loop hf _ _ _ _ e
              have hg1 : st.steps + 1 ≤ st2.steps := ge_tok (nom := nom) (G := G) (L := L) (sub := sub) (zs := zs) (k := k + 1) (c := zs.getD k 0) (st := { st with steps := st.steps + 1 }) hf (by rw [he])
              rw [if_neg (by omega), if_neg h4]
              rcases up2_tok hG hL hs he (by omega) with h5 | h5
              · rw [h5]
                exact ih _ _ _ e h
              · split
                · rename_i e9 k9 h9
                  rw [h9] at h5
                  cases h5; exact .inr rfl
                · rename_i s9 k9 h9
                  rw [h9] at h5
                  cases h5
theorem up2_code {nom : Int} {G L G' L' : List (List Int)} (hG : ExtL G G') (hL : ExtL L L') : ∀ (lev : Nat) (top top' : Bool), (top' = true → top = true) → SimR (codeM nom G L (lev + 1) top) (codeM nom G' L' lev top')
  | 0, top, top', ht => fun zs st st' e h => up2_loop hG hL (sub := some (codeM nom G L 0 false)) (sub' := none) trivial (fun f hf => by cases hf; exact geF_code nom G L 0 false) ht _ _ _ _ e h
  | lev + 1, top, top', ht => fun zs st st' e h => up2_loop hG hL (sub := some (codeM nom G L (lev + 1) false)) (sub' := some (codeM nom G' L' lev false)) (up2_code hG hL lev false false (fun h => h)) (fun f hf => by cases hf; exact geF_code nom G L (lev + 1) false) ht _ _ _ _ e h
/-- A program at the outermost level that goes well has ended. -/
theorem ended_loop {nom : Int} {G L : List (List Int)} {sub : Option (List Int → Ms → Rm)} {zs : List Int} : ∀ (f k : Nat) (st st' : Ms), loopM nom G L sub true zs f k st = .ok st' → st'.ended = true := by
  intro f
  induction f with
  | zero => intro k st st' e; cases e
  | succ f ih =>
    intro k st st' e
    unfold loopM at e
    split at e
    · rename_i h1; cases e; exact h1
    · split at e
      · cases e
      · split at e
        · cases e
        · split at e
          · simp at e
          · split at e
            · cases e
            · exact ih _ _ _ e
/-- The bytes that call a subroutine. -/
def callZ (x op : Int) : List Int := [28, x / 256 % 256, x % 256, op]
theorem call_num (x : Int) (h1 : -200 ≤ x) (h2 : x ≤ 2000) (op : Int) : numV 28 (beN (cutB (callZ x op) 1 2)) = x * 65536 := by
  have e2 : cutB (callZ x op) 1 2 = [x / 256 % 256, x % 256] := rfl
  have e3 : beN [x / 256 % 256, x % 256] = x / 256 % 256 * 256 + x % 256 := by simp [beN]
  rw [e2, e3]
  unfold numV
  rw [if_pos rfl]
  unfold s16
  split <;> omega
theorem call_loop (nom : Int) (G L : List (List Int)) (f : List Int → Ms → Rm) (x op : Int) (hx1 : -200 ≤ x) (hx2 : x ≤ 2000) (hop : op = 10 ∨ op = 29) (l : List (List Int)) (hl : l = if op = 29 then G else L) (n : Nat) (hn : x + biasM l.length = n) (hnl : n < l.length)
    (code draws : List Int) (dflt : Int) (hc : l.getD n [] = code) (r : Rm) (hr : f code (up2 (ms0 draws dflt)) = r) (hr2 : ∀ st, r = .ok st → st.ended = true) : loopM nom G L (some f) true (callZ x op) 20001 0 (ms0 draws dflt) = r := by
  have hm : mayB (x * 65536) = true := by unfold mayB; simp only [Bool.and_eq_true, decide_eq_true_eq]; omega
  have t1 : tokM nom G L (some f) (callZ x op) 1 28 { ms0 draws dflt with steps := 0 + 1 } = (.ok { ms0 draws dflt with stk := [x * 65536], steps := 0 + 1 }, 3) := by
    unfold tokM
    rw [if_pos (.inr rfl), show numN 28 = 2 from rfl, if_neg (by show ¬ (4 < 1 + 2); decide), call_num x hx1 hx2]
    unfold pushM
    rw [if_neg (by rw [hm]; decide), if_neg (by show ¬ (0 = 48); decide)]
    rfl
  have c1 : callM l (some f) { ms0 draws dflt with stk := [x * 65536], steps := 0 + 1 + 1 } = r := by
    unfold callM
    rw [if_neg (by show ¬ ([x * 65536] = []); simp)]
    dsimp only
    have e1 : ([x * 65536] : List Int).getLastD 0 / 65536 + biasM l.length = n := by
      show x * 65536 / 65536 + biasM l.length = n
      rw [Int.mul_ediv_cancel _ (by decide)]; exact hn
    rw [e1, if_neg (by omega), Int.toNat_natCast, hc]
    exact hr
  have t2 : tokM nom G L (some f) (callZ x op) 4 op { ms0 draws dflt with stk := [x * 65536], steps := 0 + 1 + 1 } = (r, 4) := by
    unfold tokM
    rcases hop with rfl | rfl
    · rw [if_neg (by decide), if_pos rfl]
      rw [if_neg (by decide)] at hl
      subst hl
      rw [c1]
    · rw [if_neg (by decide), if_neg (by decide), if_pos rfl]
      rw [if_pos rfl] at hl
      subst hl
      rw [c1]
  rw [show (20001 : Nat) = 20000 + 1 from rfl]
  unfold loopM
  rw [if_neg (by show ¬ (false = true); decide), if_neg (by show ¬ (0 = 4); decide), if_neg (by show ¬ (0 = 20000); decide), if_neg (by show ¬ ((28 : Int) = 11); decide)]
  have t1' : tokM nom G L (some f) (callZ x op) (0 + 1) ((callZ x op).getD 0 0) { ms0 draws dflt with steps := (ms0 draws dflt).steps + 1 } = (.ok { ms0 draws dflt with stk := [x * 65536], steps := 0 + 1 }, 3) := t1
  rw [t1']
  dsimp only
  rw [show (20000 : Nat) = 19999 + 1 from rfl]
  unfold loopM
  rw [if_neg (by show ¬ (false = true); decide), if_neg (by show ¬ (3 = 4); decide), if_neg (by show ¬ (0 + 1 = 20000); decide), if_neg (by show ¬ (op = 11); omega)]
  have t2' : tokM nom G L (some f) (callZ x op) (3 + 1) ((callZ x op).getD 3 0) { ms0 draws dflt with stk := [x * 65536], steps := 0 + 1 + 1 } = (r, 4) := t2
  rw [t2']
  cases r with
  | error e => rfl
  | ok st =>
    dsimp only
    rw [show (19999 : Nat) = 19998 + 1 from rfl]
    unfold loopM
    rw [if_pos (hr2 st rfl)]
/-- A program that is put into a subroutine and called. -/
theorem run_called (g : Bool) (code : List Int) (G L : List (List Int)) (dflt nom : Int) (draws : List Int) (O : List (List Pn)) (W : Int) (S : Nat) (h : runM code G L dflt nom draws = ((O, W, S), 0)) (hS : S ≤ 19998) (n : Nat) (hn : n = if g then G.length else L.length) (hn2 : n ≤ 1000) :
    runM (callZ (n - 107) (if g then 29 else 10)) (if g then G ++ [code] else G) (if g then L else L ++ [code]) dflt nom draws = ((O, W, S + 2), 0) ∨ runM (callZ (n - 107) (if g then 29 else 10)) (if g then G ++ [code] else G) (if g then L else L ++ [code]) dflt nom draws = (([], 0, 0), 182) := by
  unfold runM at h
  split at h
  · cases h
  · rename_i hmb
    split at h
    · rename_i e he
      obtain ⟨_, rfl⟩ := Prod.mk.inj h
      exact absurd rfl (nzF_code _ _ _ _ _ _ _ _ he)
    · rename_i st he
      split at h
      · rename_i hck
        exact absurd (Prod.mk.inj h).2 hck
      · rename_i hck
        obtain ⟨h1, _⟩ := Prod.mk.inj h
        obtain ⟨rfl, h2⟩ := Prod.mk.inj h1
        obtain ⟨rfl, rfl⟩ := Prod.mk.inj h2
        have hb : biasM n = 107 ∧ biasM ((n + 1 : Nat) : Int) = 107 := by unfold biasM; exact ⟨if_pos (by omega), if_pos (by omega)⟩
        have hE : st.ended = true := ended_loop _ _ _ _ he
        have key : ∀ G' L' l op, ExtL G G' → ExtL L L' → (op = 10 ∨ op = 29) → (l = if op = 29 then G' else L') → biasM l.length = 107 → n < l.length → l.getD n [] = code →
            runM (callZ (n - 107) op) G' L' dflt nom draws = ((longO st.pen.l, st.width, st.steps + 2), 0) ∨ runM (callZ (n - 107) op) G' L' dflt nom draws = (([], 0, 0), 182) := by
          intro G' L' l op hG hL hop hl hbl hnl hcd
          unfold runM
          rw [if_neg hmb]
          have e9 : codeM nom G' L' 10 true (callZ (n - 107) op) (ms0 draws dflt) = codeM nom G' L' 9 false code (up2 (ms0 draws dflt)) := by
            refine call_loop nom G' L' (codeM nom G' L' 9 false) (n - 107) op (by omega) (by omega) hop l hl n (by rw [hbl]; omega) hnl code draws dflt hcd _ rfl ?_
            intro s9 hs
            rcases up2_code hG hL 9 true false (fun h => by cases h) code _ _ he hS with h9 | h9
            · rw [h9] at hs; cases hs; exact hE
            · rw [h9] at hs; cases hs
          rw [e9]
          rcases up2_code hG hL 9 true false (fun h => by cases h) code _ _ he hS with h9 | h9
          · rw [h9]
            refine .inl ?_
            dsimp only
            rw [show (up2 st).pen = st.pen from rfl, if_neg hck]
            rfl
          · rw [h9]
            exact .inr rfl
        cases g with
        | true =>
          simp only [if_true] at hn
          simp only [if_true]
          exact key _ _ (G ++ [code]) 29 (ExtL.one code (by rw [← hn, hb.2, hb.1])) (ExtL.refl L) (.inr rfl) rfl (by rw [List.length_append, ← hn]; exact hb.2) (by simp [hn]) (by rw [List.getD_eq_getElem?_getD, hn]; simp)
        | false =>
          simp only [Bool.false_eq_true, if_false] at hn
          simp only [Bool.false_eq_true, if_false]
          exact key _ _ (L ++ [code]) 10 (ExtL.refl G) (ExtL.one code (by rw [← hn, hb.2, hb.1])) (.inl rfl) rfl (by rw [List.length_append, ← hn]; exact hb.2) (by simp [hn]) (by rw [List.getD_eq_getElem?_getD, hn]; simp)
end Go.Proofs.YtfgpocpfapnkkaaGreat

/- A selection's ranges, number by number; what was put is loaded again, whatever follows. Plain lists; no program in sight. -/
import Derived.Test.YthmokldmdcjklaaChPlainT
import Derived.Test.YthmokldmdcjklaaChPlainU
import Derived.Test.YthmokldmdcjklaaChPlainQ
namespace Go.Proofs.Ythmokldmdcjklaa
set_option linter.unusedVariables false
set_option linter.unusedSimpArgs false
/-- Does a range begin at i? -/
def newR (l : List Int) (i : Nat) : Bool := i == 0 || l.getD i 0 != l.getD (i - 1) 0
/-- The ranges of the first i numbers. -/
def psE (l : List Int) : Nat → List (Nat × Int)
  | 0 => []
  | i + 1 => if newR l i = true then psE l i ++ [(i, l.getD i 0)] else psE l i
theorem runGo_stop (p : Nat → Bool) (most : Int) : ∀ (fuel n : Nat), runGo p most fuel n < n + fuel → (runGo p most fuel n : Int) ≤ most → p (runGo p most fuel n) = false := by
  intro fuel
  induction fuel with
  | zero => intro n h; simp [runGo] at h
  | succ fuel ih =>
    intro n h hm
    by_cases hc : (n : Int) ≤ most ∧ p n = true
    · have e : runGo p most (fuel + 1) n = runGo p most fuel (n + 1) := by rw [runGo, if_pos hc]
      rw [e] at h hm ⊢
      exact ih (n + 1) (by omega) hm
    · have e : runGo p most (fuel + 1) n = n := by rw [runGo, if_neg hc]
      rw [e] at hm ⊢
      cases hp : p n
      · rfl
      · exact absurd ⟨hm, hp⟩ hc
theorem psE_run (l : List Int) (k : Nat) (n : Nat) (h1 : newR l k = true) (h : ∀ t, 1 ≤ t → t < n → l.getD (k + t) 0 = l.getD k 0) (hn : 1 ≤ n) : psE l (k + n) = psE l k ++ [(k, l.getD k 0)] := by
  obtain ⟨m, rfl⟩ : ∃ m, n = m + 1 := ⟨n - 1, by omega⟩
  clear hn
  induction m with
  | zero => show psE l (k + 1) = _; rw [psE, if_pos h1]
  | succ m ih =>
    rw [show k + (m + 1 + 1) = (k + (m + 1)) + 1 by omega, psE]
    have e1 := h (m + 1) (by omega) (by omega)
    have e2 : l.getD (k + (m + 1) - 1) 0 = l.getD k 0 := by
      by_cases hm : m = 0
      · subst hm; rfl
      · rw [show k + (m + 1) - 1 = k + m by omega]; exact h m (by omega) (by omega)
    rw [if_neg (by unfold newR; rw [e1, e2]; simp), ih (fun t a b => h t a (by omega))]
theorem psGo_psE (l : List Int) : ∀ (m k : Nat), l.length - k ≤ m → k ≤ l.length → (k < l.length → newR l k = true) → psE l k ++ psGo l.length m (l.drop k) k = psE l l.length := by
  intro m
  induction m with
  | zero => intro k h1 h2 h3; rw [show k = l.length by omega]; simp [psGo]
  | succ m ih =>
    intro k h1 h2 h3
    by_cases hk : k = l.length
    · subst hk; simp [psGo]
    · have hkl : k < l.length := by omega
      have hne : l.drop k ≠ [] := by intro e; have := congrArg List.length e; simp at this; omega
      rw [psGo, if_neg hne]
      have hd : ∀ t, (l.drop k).getD t 0 = l.getD (k + t) 0 := by intro t; rw [List.getD_eq_getElem?_getD, List.getElem?_drop, List.getD_eq_getElem?_getD]
      have g1 := runE_ge l.length (l.drop k)
      have g2 := runE_le l.length (l.drop k) (by rw [List.length_drop]; omega)
      rw [List.length_drop] at g2
      have hall : ∀ t, 1 ≤ t → t < runE l.length (l.drop k) → l.getD (k + t) 0 = l.getD k 0 := by
        intro t a b
        have := (runGo_all _ _ _ 1 t a b).1
        have e := eq_of_beq this
        rw [hd, hd] at e; simpa using e
      have hstop : k + runE l.length (l.drop k) < l.length → newR l (k + runE l.length (l.drop k)) = true := by
        intro hlt
        have := runGo_stop (fun i => (l.drop k).getD i 0 == (l.drop k).getD 0 0) l.length ((l.drop k).length - 1) 1 (by rw [List.length_drop]; unfold runE at hlt; rw [List.length_drop] at hlt; omega) (by unfold runE at g2; omega)
        have e2 : l.getD (k + runE l.length (l.drop k)) 0 ≠ l.getD k 0 := by
          intro e
          have h := ne_of_beq_false this
          have a := hd (runE l.length (l.drop k))
          have b := hd 0
          rw [Nat.add_zero] at b
          exact h (by show (l.drop k).getD (runE l.length (l.drop k)) 0 = (l.drop k).getD 0 0; rw [a, b]; exact e)
        have e3 : l.getD (k + runE l.length (l.drop k) - 1) 0 = l.getD k 0 := by
          by_cases h : runE l.length (l.drop k) = 1
          · rw [h, Nat.add_sub_cancel]
          · rw [show k + runE l.length (l.drop k) - 1 = k + (runE l.length (l.drop k) - 1) by omega]
            exact hall _ (by omega) (by omega)
        unfold newR; rw [e3]; simp only [Bool.or_eq_true, bne_iff_ne]; exact .inr e2
      have hE := psE_run l k _ (h3 hkl) hall g1
      rw [hd 0, Nat.add_zero, List.drop_drop, List.append_cons, ← hE]
      exact ih _ (by omega) (by omega) hstop
theorem psGo_eq (l : List Int) : psGo l.length l.length l 0 = psE l l.length := by
  have := psGo_psE l l.length 0 (by omega) (by omega) (fun _ => rfl)
  simpa [psE] using this
def toP (rs : List (Nat × Int)) : List (Int × Int) := rs.map fun p => ((p.1 : Int), p.2)
theorem toP_snoc (rs : List (Nat × Int)) (p : Nat × Int) : toP (rs ++ [p]) = toP rs ++ [((p.1 : Int), p.2)] := by simp [toP]
theorem toP_length (rs : List (Nat × Int)) : (toP rs).length = rs.length := by simp [toP]
/-- What holds of the ranges of the first i numbers. -/
structure PsOk (l : List Int) (i : Nat) : Prop where
  len : (psE l i).length ≤ i
  nil : 0 < i → psE l i ≠ []
  spread : i ≤ l.length → spreadL (toP (psE l i)) i = l.take i
  lastF : 0 < i → fiP (toP (psE l i)) ((psE l i).length - 1) < i
  lastX : 0 < i → xP (toP (psE l i)) ((psE l i).length - 1) = l.getD (i - 1) 0
theorem take_getD (l : List Int) (i : Nat) (h : i < l.length) : l.take (i + 1) = l.take i ++ [l.getD i 0] := by
  rw [List.take_add_one, List.getD_eq_getElem?_getD, List.getElem?_eq_getElem h]; rfl
theorem psOk (l : List Int) : ∀ i, PsOk l i := by
  intro i
  induction i with
  | zero => exact ⟨Nat.le_refl _, fun h => absurd h (by omega), fun _ => by simp [psE, toP, spreadL, runsP], fun h => absurd h (by omega), fun h => absurd h (by omega)⟩
  | succ i ih =>
    obtain ⟨h1, h2, h3, h4, h5⟩ := ih
    by_cases hn : newR l i = true
    · have e : psE l (i + 1) = psE l i ++ [(i, l.getD i 0)] := by rw [psE, if_pos hn]
      have en : (toP (psE l i) ++ [((i : Int), l.getD i 0)]).length - 1 = (toP (psE l i)).length := by simp
      refine ⟨by rw [e]; simp; omega, fun _ => by rw [e]; simp, fun hi => ?_, fun _ => ?_, fun _ => ?_⟩
      · rw [e, toP_snoc]
        have := spreadL_snoc (toP (psE l i)) (i : Int) (l.getD i 0) (by omega)
        rw [Int.toNat_natCast] at this
        rw [this, h3 (by omega), take_getD l i (by omega)]
      · rw [e, toP_snoc]
        rw [show (psE l i ++ [(i, l.getD i 0)]).length - 1 = (toP (psE l i)).length by simp [toP_length], (fiP_new _ _).1]; simp only; omega
      · rw [e, toP_snoc]
        rw [show (psE l i ++ [(i, l.getD i 0)]).length - 1 = (toP (psE l i)).length by simp [toP_length], (fiP_new _ _).2, Nat.add_sub_cancel]
    · have e : psE l (i + 1) = psE l i := by rw [psE, if_neg hn]
      have hi0 : 0 < i := by cases i with | zero => exact absurd rfl hn | succ i => omega
      have hx : l.getD i 0 = l.getD (i - 1) 0 := by
        unfold newR at hn
        simp only [Bool.or_eq_true, not_or, bne_iff_ne, ne_eq, Decidable.not_not] at hn
        exact hn.2
      refine ⟨by rw [e]; omega, fun _ => by rw [e]; exact h2 hi0, fun hi => ?_, fun _ => ?_, fun _ => ?_⟩
      · rw [e]
        have hp : toP (psE l i) ≠ [] := by intro h; apply h2 hi0; unfold toP at h; exact List.map_eq_nil_iff.1 h
        have := spreadL_fill (toP (psE l i)) i hp (by rw [toP_length]; have := h4 hi0; omega)
        rw [this, h3 (by omega), toP_length, h5 hi0, ← hx, take_getD l i (by omega)]
      · rw [e]; have := h4 hi0; omega
      · rw [e, h5 hi0, Nat.add_sub_cancel, hx]
theorem psB_app (a b : List (Nat × Int)) : psB (a ++ b) = psB a ++ psB b := by simp [psB]
/-- Ranges that are read as they were written. -/
def GoodR (n q : Int) (rs : List (Nat × Int)) (i : Nat) : Prop :=
  ¬ pBad n q (toP (rs.take i)) ((rs.getD i (0, 0)).1 : Nat) (rs.getD i (0, 0)).2 false ∧ 0 ≤ (rs.getD i (0, 0)).2 ∧ (rs.getD i (0, 0)).2 ≤ 255 ∧ (rs.getD i (0, 0)).1 ≤ 65535
theorem partGo_put (zs A C : List Int) (n q : Int) (rs : List (Nat × Int)) (hz : zs = A ++ psB rs ++ C) (hg : ∀ i, i < rs.length → GoodR n q rs i) :
    ∀ (m i : Nat), rs.length - i = m → i ≤ rs.length → partGo zs n q m (toP (rs.take i)) (A.length + 3 * i) = some (toP rs, A.length + 3 * rs.length) := by
  intro m
  induction m with
  | zero => intro i h1 h2; rw [show i = rs.length by omega, List.take_length]; rfl
  | succ m ih =>
    intro i h1 h2
    have hi : i < rs.length := by omega
    obtain ⟨g1, g2, g3, g4⟩ := hg i hi
    have hsp : rs = rs.take i ++ [rs.getD i (0, 0)] ++ rs.drop (i + 1) := by
      rw [List.getD_eq_getElem?_getD, List.getElem?_eq_getElem hi, Option.getD_some, List.append_assoc, List.singleton_append, ← List.drop_eq_getElem_cons hi, List.take_append_drop]
    generalize hp : rs.getD i (0, 0) = p at *
    obtain ⟨a, x⟩ := p
    simp only at g1 g2 g3 g4
    have hB : psB rs = psB (rs.take i) ++ (by2 a ++ [x % 256]) ++ psB (rs.drop (i + 1)) := by
      conv => lhs; rw [hsp, psB_app, psB_app]
      simp [psB]
    have hl : (psB (rs.take i)).length = 3 * i := by rw [psB_length, List.length_take]; omega
    have e1 := rd_in (zs := zs) (A := A ++ psB (rs.take i)) (B := by2 a) (C := [x % 256] ++ psB (rs.drop (i + 1)) ++ C) (by rw [hz, hB]; simp [List.append_assoc]) (A.length + 3 * i) 2 (by rw [List.length_append, hl]) rfl
    have e2 := rd_in (zs := zs) (A := A ++ psB (rs.take i) ++ by2 a) (B := [x % 256]) (C := psB (rs.drop (i + 1)) ++ C) (by rw [hz, hB]; simp [List.append_assoc]) (A.length + 3 * i + 2) 1 (by rw [List.length_append, List.length_append, hl]; rfl) rfl
    rw [beN_by2 _ (by omega) (by omega)] at e1
    rw [beN_1, show x % 256 = x by omega] at e2
    have f1 : pF zs (A.length + 3 * i) = (a : Int) := e1.2.1
    have f2 : pX zs (A.length + 3 * i) = x := by unfold pX; rw [e1.2.2, e1.1]; exact e2.2.1
    have f3 : pB zs (A.length + 3 * i) = false := by unfold pB; rw [e1.2.2, e1.1]; exact e2.1
    have f4 : pK zs (A.length + 3 * i) = A.length + 3 * (i + 1) := by unfold pK; rw [e1.2.2, e1.1, e2.2.2]; omega
    rw [partGo, f1, f2, f3, f4, if_neg g1]
    have ht : toP (rs.take i) ++ [((a : Int), x)] = toP (rs.take (i + 1)) := by
      rw [List.take_add_one, List.getElem?_eq_getElem hi]
      rw [List.getD_eq_getElem?_getD, List.getElem?_eq_getElem hi, Option.getD_some] at hp
      rw [hp]; simp [toP]
    rw [ht]
    exact ih (i + 1) (by omega) (by omega)
theorem psE_good (l : List Int) (q : Int) (hq : q ≤ 256) (hb : ∀ c ∈ l, 0 ≤ c ∧ c < q) (hn : l.length ≤ 65535) : ∀ i, i ≤ l.length → ∀ j, j < (psE l i).length → GoodR l.length q (psE l i) j := by
  intro i
  induction i with
  | zero => intro _ j hj; simp [psE] at hj
  | succ i ih =>
    intro hi j hj
    have hm : 0 ≤ l.getD i 0 ∧ l.getD i 0 < q := by
      apply hb; rw [List.getD_eq_getElem?_getD, List.getElem?_eq_getElem (by omega)]; exact List.getElem_mem _
    by_cases hnew : newR l i = true
    · have e : psE l (i + 1) = psE l i ++ [(i, l.getD i 0)] := by rw [psE, if_pos hnew]
      rw [e] at hj ⊢
      by_cases hjl : j < (psE l i).length
      · have := ih (by omega) j hjl
        unfold GoodR at this ⊢
        rw [List.take_append_of_le_length (by omega), List.getD_eq_getElem?_getD, List.getElem?_append_left hjl, ← List.getD_eq_getElem?_getD]
        exact this
      · have hje : j = (psE l i).length := by simp at hj; omega
        subst hje
        unfold GoodR
        rw [List.take_left' rfl, List.getD_eq_getElem?_getD, List.getElem?_append_right (Nat.le_refl _), Nat.sub_self]
        simp only [List.getElem?_cons_zero, Option.getD_some]
        have ok := psOk l i
        refine ⟨?_, hm.1, by omega, by omega⟩
        rintro (h | h | h | h | h)
        · cases h
        · omega
        · omega
        · apply h
          constructor
          · intro e2
            by_cases h0 : i = 0
            · subst h0; rfl
            · exfalso
              exact ok.nil (by omega) (List.map_eq_nil_iff.1 e2)
          · intro e2
            have h0 : i = 0 := by omega
            subst h0; rfl
        · obtain ⟨h8, h9⟩ := h
          have h0 : 0 < i := by
            cases i with
            | zero => exact absurd rfl h8
            | succ i => omega
          have h7 := ok.lastF h0
          rw [toP_length] at h9
          unfold fiP at h7
          omega
    · have e : psE l (i + 1) = psE l i := by rw [psE, if_neg hnew]
      rw [e] at hj ⊢
      exact ih (by omega) j hj
theorem oneGo_put (zs C : List Int) (q : Int) (hq : q ≤ 256) : ∀ (l A acc : List Int), zs = A ++ l.map (· % 256) ++ C → (∀ c ∈ l, 0 ≤ c ∧ c < q) → oneGo zs q l.length acc A.length = some (acc ++ l) := by
  intro l
  induction l with
  | nil => intro A acc h hb; simp [oneGo]
  | cons x l ih =>
    intro A acc h hb
    have hx := hb x List.mem_cons_self
    have e1 := rd_in (zs := zs) (A := A) (B := [x % 256]) (C := l.map (· % 256) ++ C) (by rw [h]; simp [List.append_assoc]) A.length 1 rfl rfl
    rw [beN_1, show x % 256 = x by omega] at e1
    rw [List.length_cons, oneGo, e1.1, e1.2.1, e1.2.2, if_neg (by simp; omega)]
    have := ih (A ++ [x % 256]) (acc ++ [x]) (by rw [h]; simp [List.append_assoc]) (fun c hc => hb c (List.mem_cons_of_mem _ hc))
    rw [List.length_append, List.length_singleton] at this
    rw [this]; simp
theorem sels_put (l : List Int) (q f : Int) (behind : List Int) (hm : maySel l q f = true) : csSel (csPutSel l f ++ behind) l.length q = some l := by
  unfold maySel at hm
  simp only [Bool.and_eq_true, Bool.or_eq_true, decide_eq_true_eq, beq_iff_eq] at hm
  obtain ⟨⟨⟨⟨⟨k1, k2⟩, k3⟩, k4⟩, k5⟩, k6⟩ := hm
  have hb : ∀ c ∈ l, 0 ≤ c ∧ c < q := fun c hc => by have := List.all_eq_true.1 k5 c hc; simp [inB] at this; omega
  rcases k6 with rfl | rfl
  · have ez : csPutSel l 0 ++ behind = [0] ++ l.map (· % 256) ++ behind := by unfold csPutSel; rw [if_pos rfl]
    rw [ez]
    have e := rd_in (zs := [0] ++ l.map (· % 256) ++ behind) (A := []) (B := [0]) (C := l.map (· % 256) ++ behind) (by simp) 0 1 rfl rfl
    rw [beN_1] at e
    unfold csSel
    rw [e.1, e.2.1, e.2.2, if_neg (by simp), if_pos rfl]
    have := oneGo_put ([0] ++ l.map (· % 256) ++ behind) behind q k4 l [0] [] rfl hb
    simpa using this
  · have ez : csPutSel l 3 ++ behind = [3] ++ by2 (psE l l.length).length ++ psB (psE l l.length) ++ (by2 l.length ++ behind) := by
      unfold csPutSel; rw [if_neg (by decide), psGo_eq]; simp [List.append_assoc]
    rw [ez]
    generalize hz : [3] ++ by2 (psE l l.length).length ++ psB (psE l l.length) ++ (by2 l.length ++ behind) = zs
    have ok := psOk l l.length
    have e0 := rd_in (zs := zs) (A := []) (B := [3]) (C := by2 (psE l l.length).length ++ psB (psE l l.length) ++ (by2 l.length ++ behind)) (by rw [← hz]; simp [List.append_assoc]) 0 1 rfl rfl
    have e1 := rd_in (zs := zs) (A := [3]) (B := by2 (psE l l.length).length) (C := psB (psE l l.length) ++ (by2 l.length ++ behind)) (by rw [← hz]; simp [List.append_assoc]) 1 2 rfl rfl
    rw [beN_1] at e0
    rw [beN_by2 _ (by omega) (by have := ok.len; omega)] at e1
    have eg := partGo_put zs ([3] ++ by2 (psE l l.length).length) (by2 l.length ++ behind) l.length q (psE l l.length) hz.symm (psE_good l q k4 hb k2 l.length (Nat.le_refl _)) (psE l l.length).length 0 (by omega) (by omega)
    have hl3 : ([3] ++ by2 (psE l l.length).length : List Int).length = 3 := rfl
    rw [hl3] at eg
    have e2 := rd_in (zs := zs) (A := [3] ++ by2 (psE l l.length).length ++ psB (psE l l.length)) (B := by2 l.length) (C := behind) (by rw [← hz]; simp [List.append_assoc]) (3 + 3 * (psE l l.length).length) 2 (by rw [List.length_append, hl3, psB_length]) rfl
    rw [beN_by2 _ (by omega) (by omega)] at e2
    unfold csSel
    rw [e0.1, e0.2.1, e0.2.2, if_neg (by simp), if_neg (by decide), if_pos rfl]
    unfold partsOf
    rw [e1.1, e1.2.1, e1.2.2, if_neg (by simp), Int.toNat_natCast]
    rw [show toP ((psE l l.length).take 0) = [] from rfl, Nat.mul_zero, Nat.add_zero] at eg
    rw [eg]
    have hne : toP (psE l l.length) ≠ [] := fun h => ok.nil (by omega) (List.map_eq_nil_iff.1 h)
    simp only [Option.bind_some]
    unfold partFin
    rw [if_pos ⟨hne, e2.2.1, e2.1⟩, Option.map_some, ok.spread (Nat.le_refl _), List.take_length]
theorem csPutSel_bytes (l : List Int) (f : Int) (hf : f = 0 ∨ f = 3) : ∀ c ∈ csPutSel l f, 0 ≤ c ∧ c ≤ 255 := by
  have hB : ∀ rs, ∀ c ∈ psB rs, 0 ≤ c ∧ c ≤ 255 := by
    intro rs c hc
    unfold psB at hc
    obtain ⟨p, _, h⟩ := List.mem_flatMap.1 hc
    simp [by2] at h
    rcases h with rfl | rfl | rfl <;> omega
  have h2 : ∀ x, ∀ c ∈ by2 x, 0 ≤ c ∧ c ≤ 255 := by intro x c hc; simp [by2] at hc; rcases hc with rfl | rfl <;> omega
  intro c hc
  unfold csPutSel at hc
  rcases hf with rfl | rfl
  · rw [if_pos rfl] at hc
    simp at hc
    rcases hc with rfl | ⟨a, _, rfl⟩ <;> omega
  · rw [if_neg (by decide)] at hc
    simp only [List.mem_append, List.mem_singleton] at hc
    rcases hc with ((rfl | h) | h) | h
    · omega
    · exact h2 _ _ h
    · exact hB _ _ h
    · exact h2 _ _ h
theorem csPutSel_len (l : List Int) (f : Int) : (csPutSel l f).length ≤ 5 + 3 * l.length := by
  unfold csPutSel
  split
  · simp; omega
  · rw [psGo_eq]
    have := (psOk l l.length).len
    simp only [List.length_append, psB_length, List.length_singleton]
    have a : ∀ x, (by2 x).length = 2 := fun _ => rfl
    rw [a, a]; omega
end Go.Proofs.Ythmokldmdcjklaa

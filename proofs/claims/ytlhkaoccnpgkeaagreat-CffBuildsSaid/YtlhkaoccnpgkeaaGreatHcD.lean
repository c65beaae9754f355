/- A selection's ranges, number by number; what was put is loaded again, whatever follows. Plain lists; no program in sight · charset.PutSelect in the format 0, and where it refuses; the reference's PutSelect · The reference's PutSelect · The reference's Select: what bytes are as a selection; format 0, and what is none. (Written by wip/charset/gensel2.py.) · The reference's Select: what bytes are as a selection, format 3. (Written by wip/charset/gensel3.py.). (Merged by wip/tools/mergetpl.py out of ChPlainW, ChPs, ChRs, ChR, ChV.) -/
import Derived.Test.YtlhkaoccnpgkeaaGreatHcB
import Derived.Test.YtlhkaoccnpgkeaaGreatHcC
import Derived.Test.YtlhkaoccnpgkeaaGreatWmA
import Derived.Deep.RegionHeld3
import Derived.BigQuiet
import Derived.Deep.QuietTactic
namespace Go.Proofs.YtlhkaoccnpgkeaaGreat.Ch
set_option linter.unusedVariables false
set_option linter.unusedSimpArgs false
/-- Does a range begin at i? -/
def newR (l : List Int) (i : Nat) : Bool := i == 0 || l.getD i 0 != l.getD (i - 1) 0
/-- The ranges of the first i numbers. -/
def psE (l : List Int) : Nat → List (Nat × Int)
  | 0 => []
  | i + 1 => if newR l i = true then psE l i ++ [(i, l.getD i 0)] else psE l i
theorem runGo_stop (p : Nat → Bool) (most : Int) : ∀ (fuel n : Nat), runGo p most fuel n < n + fuel → (runGo p most fuel n : Int) ≤ most → p (runGo p most fuel n) = false := by
  intro fuel
  induction fuel with
  | zero => intro n h; simp [runGo] at h
  | succ fuel ih =>
    intro n h hm
    by_cases hc : (n : Int) ≤ most ∧ p n = true
    · have e : runGo p most (fuel + 1) n = runGo p most fuel (n + 1) := by rw [runGo, if_pos hc]
      rw [e] at h hm ⊢
      exact ih (n + 1) (by omega) hm
    · have e : runGo p most (fuel + 1) n = n := by rw [runGo, if_neg hc]
      rw [e] at hm ⊢
      cases hp : p n
      · rfl
      · exact absurd ⟨hm, hp⟩ hc
theorem psE_run (l : List Int) (k : Nat) (n : Nat) (h1 : newR l k = true) (h : ∀ t, 1 ≤ t → t < n → l.getD (k + t) 0 = l.getD k 0) (hn : 1 ≤ n) : psE l (k + n) = psE l k ++ [(k, l.getD k 0)] := by
  obtain ⟨m, rfl⟩ : ∃ m, n = m + 1 := ⟨n - 1, by omega⟩
  clear hn
  induction m with
  | zero => show psE l (k + 1) = _; rw [psE, if_pos h1]
  | succ m ih =>
    rw [show k + (m + 1 + 1) = (k + (m + 1)) + 1 by omega, psE]
    have e1 := h (m + 1) (by omega) (by omega)
    have e2 : l.getD (k + (m + 1) - 1) 0 = l.getD k 0 := by
      by_cases hm : m = 0
      · subst hm; rfl
      · rw [show k + (m + 1) - 1 = k + m by omega]; exact h m (by omega) (by omega)
    rw [if_neg (by unfold newR; rw [e1, e2]; simp), ih (fun t a b => h t a (by omega))]
theorem psGo_psE (l : List Int) : ∀ (m k : Nat), l.length - k ≤ m → k ≤ l.length → (k < l.length → newR l k = true) → psE l k ++ psGo l.length m (l.drop k) k = psE l l.length := by
  intro m
  induction m with
  | zero => intro k h1 h2 h3; rw [show k = l.length by omega]; simp [psGo]
  | succ m ih =>
    intro k h1 h2 h3
    by_cases hk : k = l.length
    · subst hk; simp [psGo]
    · have hkl : k < l.length := by omega
      have hne : l.drop k ≠ [] := by intro e; have := congrArg List.length e; simp at this; omega
      rw [psGo, if_neg hne]
      have hd : ∀ t, (l.drop k).getD t 0 = l.getD (k + t) 0 := by intro t; rw [List.getD_eq_getElem?_getD, List.getElem?_drop, List.getD_eq_getElem?_getD]
      have g1 := runE_ge l.length (l.drop k)
      have g2 := runE_le l.length (l.drop k) (by rw [List.length_drop]; omega)
      rw [List.length_drop] at g2
      have hall : ∀ t, 1 ≤ t → t < runE l.length (l.drop k) → l.getD (k + t) 0 = l.getD k 0 := by
        intro t a b
        have := (runGo_all _ _ _ 1 t a b).1
        have e := eq_of_beq this
        rw [hd, hd] at e; simpa using e
      have hstop : k + runE l.length (l.drop k) < l.length → newR l (k + runE l.length (l.drop k)) = true := by
        intro hlt
        have := runGo_stop (fun i => (l.drop k).getD i 0 == (l.drop k).getD 0 0) l.length ((l.drop k).length - 1) 1 (by rw [List.length_drop]; unfold runE at hlt; rw [List.length_drop] at hlt; omega) (by unfold runE at g2; omega)
        have e2 : l.getD (k + runE l.length (l.drop k)) 0 ≠ l.getD k 0 := by
          intro e
          have h := ne_of_beq_false this
          have a := hd (runE l.length (l.drop k))
          have b := hd 0
          rw [Nat.add_zero] at b
          exact h (by show (l.drop k).getD (runE l.length (l.drop k)) 0 = (l.drop k).getD 0 0; rw [a, b]; exact e)
        have e3 : l.getD (k + runE l.length (l.drop k) - 1) 0 = l.getD k 0 := by
          by_cases h : runE l.length (l.drop k) = 1
          · rw [h, Nat.add_sub_cancel]
          · rw [show k + runE l.length (l.drop k) - 1 = k + (runE l.length (l.drop k) - 1) by omega]
            exact hall _ (by omega) (by omega)
        unfold newR; rw [e3]; simp only [Bool.or_eq_true, bne_iff_ne]; exact .inr e2
      have hE := psE_run l k _ (h3 hkl) hall g1
      rw [hd 0, Nat.add_zero, List.drop_drop, List.append_cons, ← hE]
      exact ih _ (by omega) (by omega) hstop
theorem psGo_eq (l : List Int) : psGo l.length l.length l 0 = psE l l.length := by
  have := psGo_psE l l.length 0 (by omega) (by omega) (fun _ => rfl)
  simpa [psE] using this
def toP (rs : List (Nat × Int)) : List (Int × Int) := rs.map fun p => ((p.1 : Int), p.2)
theorem toP_snoc (rs : List (Nat × Int)) (p : Nat × Int) : toP (rs ++ [p]) = toP rs ++ [((p.1 : Int), p.2)] := by simp [toP]
theorem toP_length (rs : List (Nat × Int)) : (toP rs).length = rs.length := by simp [toP]
/-- What holds of the ranges of the first i numbers. -/
structure PsOk (l : List Int) (i : Nat) : Prop where
  len : (psE l i).length ≤ i
  nil : 0 < i → psE l i ≠ []
  spread : i ≤ l.length → spreadL (toP (psE l i)) i = l.take i
  lastF : 0 < i → fiP (toP (psE l i)) ((psE l i).length - 1) < i
  lastX : 0 < i → xP (toP (psE l i)) ((psE l i).length - 1) = l.getD (i - 1) 0
theorem take_getD (l : List Int) (i : Nat) (h : i < l.length) : l.take (i + 1) = l.take i ++ [l.getD i 0] := by
  rw [List.take_add_one, List.getD_eq_getElem?_getD, List.getElem?_eq_getElem h]; rfl
theorem psOk (l : List Int) : ∀ i, PsOk l i := by
  intro i
  induction i with
  | zero => exact ⟨Nat.le_refl _, fun h => absurd h (by omega), fun _ => by simp [psE, toP, spreadL, runsP], fun h => absurd h (by omega), fun h => absurd h (by omega)⟩
  | succ i ih =>
    obtain ⟨h1, h2, h3, h4, h5⟩ := ih
    by_cases hn : newR l i = true
    · have e : psE l (i + 1) = psE l i ++ [(i, l.getD i 0)] := by rw [psE, if_pos hn]
      have en : (toP (psE l i) ++ [((i : Int), l.getD i 0)]).length - 1 = (toP (psE l i)).length := by simp
      refine ⟨by rw [e]; simp; omega, fun _ => by rw [e]; simp, fun hi => ?_, fun _ => ?_, fun _ => ?_⟩
      · rw [e, toP_snoc]
        have := spreadL_snoc (toP (psE l i)) (i : Int) (l.getD i 0) (by omega)
        rw [Int.toNat_natCast] at this
        rw [this, h3 (by omega), take_getD l i (by omega)]
      · rw [e, toP_snoc]
        rw [show (psE l i ++ [(i, l.getD i 0)]).length - 1 = (toP (psE l i)).length by simp [toP_length], (fiP_new _ _).1]; simp only; omega
      · rw [e, toP_snoc]
        rw [show (psE l i ++ [(i, l.getD i 0)]).length - 1 = (toP (psE l i)).length by simp [toP_length], (fiP_new _ _).2, Nat.add_sub_cancel]
    · have e : psE l (i + 1) = psE l i := by rw [psE, if_neg hn]
      have hi0 : 0 < i := by cases i with | zero => exact absurd rfl hn | succ i => omega
      have hx : l.getD i 0 = l.getD (i - 1) 0 := by
        unfold newR at hn
        simp only [Bool.or_eq_true, not_or, bne_iff_ne, ne_eq, Decidable.not_not] at hn
        exact hn.2
      refine ⟨by rw [e]; omega, fun _ => by rw [e]; exact h2 hi0, fun hi => ?_, fun _ => ?_, fun _ => ?_⟩
      · rw [e]
        have hp : toP (psE l i) ≠ [] := by intro h; apply h2 hi0; unfold toP at h; exact List.map_eq_nil_iff.1 h
        have := spreadL_fill (toP (psE l i)) i hp (by rw [toP_length]; have := h4 hi0; omega)
        rw [this, h3 (by omega), toP_length, h5 hi0, ← hx, take_getD l i (by omega)]
      · rw [e]; have := h4 hi0; omega
      · rw [e, h5 hi0, Nat.add_sub_cancel, hx]
theorem psB_app (a b : List (Nat × Int)) : psB (a ++ b) = psB a ++ psB b := by simp [psB]
/-- Ranges that are read as they were written. -/
def GoodR (n q : Int) (rs : List (Nat × Int)) (i : Nat) : Prop :=
  ¬ pBad n q (toP (rs.take i)) ((rs.getD i (0, 0)).1 : Nat) (rs.getD i (0, 0)).2 false ∧ 0 ≤ (rs.getD i (0, 0)).2 ∧ (rs.getD i (0, 0)).2 ≤ 255 ∧ (rs.getD i (0, 0)).1 ≤ 65535
theorem partGo_put (zs A C : List Int) (n q : Int) (rs : List (Nat × Int)) (hz : zs = A ++ psB rs ++ C) (hg : ∀ i, i < rs.length → GoodR n q rs i) :
    ∀ (m i : Nat), rs.length - i = m → i ≤ rs.length → partGo zs n q m (toP (rs.take i)) (A.length + 3 * i) = some (toP rs, A.length + 3 * rs.length) := by
  intro m
  induction m with
  | zero => intro i h1 h2; rw [show i = rs.length by omega, List.take_length]; rfl
  | succ m ih =>
    intro i h1 h2
    have hi : i < rs.length := by omega
    obtain ⟨g1, g2, g3, g4⟩ := hg i hi
    have hsp : rs = rs.take i ++ [rs.getD i (0, 0)] ++ rs.drop (i + 1) := by
      rw [List.getD_eq_getElem?_getD, List.getElem?_eq_getElem hi, Option.getD_some, List.append_assoc, List.singleton_append, ← List.drop_eq_getElem_cons hi, List.take_append_drop]
    generalize hp : rs.getD i (0, 0) = p at *
    obtain ⟨a, x⟩ := p
    simp only at g1 g2 g3 g4
    have hB : psB rs = psB (rs.take i) ++ (by2 a ++ [x % 256]) ++ psB (rs.drop (i + 1)) := by
      conv => lhs; rw [hsp, psB_app, psB_app]
      simp [psB]
    have hl : (psB (rs.take i)).length = 3 * i := by rw [psB_length, List.length_take]; omega
    have e1 := rd_in (zs := zs) (A := A ++ psB (rs.take i)) (B := by2 a) (C := [x % 256] ++ psB (rs.drop (i + 1)) ++ C) (by rw [hz, hB]; simp [List.append_assoc]) (A.length + 3 * i) 2 (by rw [List.length_append, hl]) rfl
    have e2 := rd_in (zs := zs) (A := A ++ psB (rs.take i) ++ by2 a) (B := [x % 256]) (C := psB (rs.drop (i + 1)) ++ C) (by rw [hz, hB]; simp [List.append_assoc]) (A.length + 3 * i + 2) 1 (by rw [List.length_append, List.length_append, hl]; rfl) rfl
    rw [beN_by2 _ (by omega) (by omega)] at e1
    rw [beN_1, show x % 256 = x by omega] at e2
    have f1 : pF zs (A.length + 3 * i) = (a : Int) := e1.2.1
    have f2 : pX zs (A.length + 3 * i) = x := by unfold pX; rw [e1.2.2, e1.1]; exact e2.2.1
    have f3 : pB zs (A.length + 3 * i) = false := by unfold pB; rw [e1.2.2, e1.1]; exact e2.1
    have f4 : pK zs (A.length + 3 * i) = A.length + 3 * (i + 1) := by unfold pK; rw [e1.2.2, e1.1, e2.2.2]; omega
    rw [partGo, f1, f2, f3, f4, if_neg g1]
    have ht : toP (rs.take i) ++ [((a : Int), x)] = toP (rs.take (i + 1)) := by
      rw [List.take_add_one, List.getElem?_eq_getElem hi]
      rw [List.getD_eq_getElem?_getD, List.getElem?_eq_getElem hi, Option.getD_some] at hp
      rw [hp]; simp [toP]
    rw [ht]
    exact ih (i + 1) (by omega) (by omega)
theorem psE_good (l : List Int) (q : Int) (hq : q ≤ 256) (hb : ∀ c ∈ l, 0 ≤ c ∧ c < q) (hn : l.length ≤ 65535) : ∀ i, i ≤ l.length → ∀ j, j < (psE l i).length → GoodR l.length q (psE l i) j := by
  intro i
  induction i with
  | zero => intro _ j hj; simp [psE] at hj
  | succ i ih =>
    intro hi j hj
    have hm : 0 ≤ l.getD i 0 ∧ l.getD i 0 < q := by
      apply hb; rw [List.getD_eq_getElem?_getD, List.getElem?_eq_getElem (by omega)]; exact List.getElem_mem _
    by_cases hnew : newR l i = true
    · have e : psE l (i + 1) = psE l i ++ [(i, l.getD i 0)] := by rw [psE, if_pos hnew]
      rw [e] at hj ⊢
      by_cases hjl : j < (psE l i).length
      · have := ih (by omega) j hjl
        unfold GoodR at this ⊢
        rw [List.take_append_of_le_length (by omega), List.getD_eq_getElem?_getD, List.getElem?_append_left hjl, ← List.getD_eq_getElem?_getD]
        exact this
      · have hje : j = (psE l i).length := by simp at hj; omega
        subst hje
        unfold GoodR
        rw [List.take_left' rfl, List.getD_eq_getElem?_getD, List.getElem?_append_right (Nat.le_refl _), Nat.sub_self]
        simp only [List.getElem?_cons_zero, Option.getD_some]
        have ok := psOk l i
        refine ⟨?_, hm.1, by omega, by omega⟩
        rintro (h | h | h | h | h)
        · cases h
        · omega
        · omega
        · apply h
          constructor
          · intro e2
            by_cases h0 : i = 0
            · subst h0; rfl
            · exfalso
              exact ok.nil (by omega) (List.map_eq_nil_iff.1 e2)
          · intro e2
            have h0 : i = 0 := by omega
            subst h0; rfl
        · obtain ⟨h8, h9⟩ := h
          have h0 : 0 < i := by
            cases i with
            | zero => exact absurd rfl h8
            | succ i => omega
          have h7 := ok.lastF h0
          rw [toP_length] at h9
          unfold fiP at h7
          omega
    · have e : psE l (i + 1) = psE l i := by rw [psE, if_neg hnew]
      rw [e] at hj ⊢
      exact ih (by omega) j hj
theorem oneGo_put (zs C : List Int) (q : Int) (hq : q ≤ 256) : ∀ (l A acc : List Int), zs = A ++ l.map (· % 256) ++ C → (∀ c ∈ l, 0 ≤ c ∧ c < q) → oneGo zs q l.length acc A.length = some (acc ++ l) := by
  intro l
  induction l with
  | nil => intro A acc h hb; simp [oneGo]
  | cons x l ih =>
    intro A acc h hb
    have hx := hb x List.mem_cons_self
    have e1 := rd_in (zs := zs) (A := A) (B := [x % 256]) (C := l.map (· % 256) ++ C) (by rw [h]; simp [List.append_assoc]) A.length 1 rfl rfl
    rw [beN_1, show x % 256 = x by omega] at e1
    rw [List.length_cons, oneGo, e1.1, e1.2.1, e1.2.2, if_neg (by simp; omega)]
    have := ih (A ++ [x % 256]) (acc ++ [x]) (by rw [h]; simp [List.append_assoc]) (fun c hc => hb c (List.mem_cons_of_mem _ hc))
    rw [List.length_append, List.length_singleton] at this
    rw [this]; simp
theorem sels_put (l : List Int) (q f : Int) (behind : List Int) (hm : maySel l q f = true) : csSel (csPutSel l f ++ behind) l.length q = some l := by
  unfold maySel at hm
  simp only [Bool.and_eq_true, Bool.or_eq_true, decide_eq_true_eq, beq_iff_eq] at hm
  obtain ⟨⟨⟨⟨⟨k1, k2⟩, k3⟩, k4⟩, k5⟩, k6⟩ := hm
  have hb : ∀ c ∈ l, 0 ≤ c ∧ c < q := fun c hc => by have := List.all_eq_true.1 k5 c hc; simp [inB] at this; omega
  rcases k6 with rfl | rfl
  · have ez : csPutSel l 0 ++ behind = [0] ++ l.map (· % 256) ++ behind := by unfold csPutSel; rw [if_pos rfl]
    rw [ez]
    have e := rd_in (zs := [0] ++ l.map (· % 256) ++ behind) (A := []) (B := [0]) (C := l.map (· % 256) ++ behind) (by simp) 0 1 rfl rfl
    rw [beN_1] at e
    unfold csSel
    rw [e.1, e.2.1, e.2.2, if_neg (by simp), if_pos rfl]
    have := oneGo_put ([0] ++ l.map (· % 256) ++ behind) behind q k4 l [0] [] rfl hb
    simpa using this
  · have ez : csPutSel l 3 ++ behind = [3] ++ by2 (psE l l.length).length ++ psB (psE l l.length) ++ (by2 l.length ++ behind) := by
      unfold csPutSel; rw [if_neg (by decide), psGo_eq]; simp [List.append_assoc]
    rw [ez]
    generalize hz : [3] ++ by2 (psE l l.length).length ++ psB (psE l l.length) ++ (by2 l.length ++ behind) = zs
    have ok := psOk l l.length
    have e0 := rd_in (zs := zs) (A := []) (B := [3]) (C := by2 (psE l l.length).length ++ psB (psE l l.length) ++ (by2 l.length ++ behind)) (by rw [← hz]; simp [List.append_assoc]) 0 1 rfl rfl
    have e1 := rd_in (zs := zs) (A := [3]) (B := by2 (psE l l.length).length) (C := psB (psE l l.length) ++ (by2 l.length ++ behind)) (by rw [← hz]; simp [List.append_assoc]) 1 2 rfl rfl
    rw [beN_1] at e0
    rw [beN_by2 _ (by omega) (by have := ok.len; omega)] at e1
    have eg := partGo_put zs ([3] ++ by2 (psE l l.length).length) (by2 l.length ++ behind) l.length q (psE l l.length) hz.symm (psE_good l q k4 hb k2 l.length (Nat.le_refl _)) (psE l l.length).length 0 (by omega) (by omega)
    have hl3 : ([3] ++ by2 (psE l l.length).length : List Int).length = 3 := rfl
    rw [hl3] at eg
    have e2 := rd_in (zs := zs) (A := [3] ++ by2 (psE l l.length).length ++ psB (psE l l.length)) (B := by2 l.length) (C := behind) (by rw [← hz]; simp [List.append_assoc]) (3 + 3 * (psE l l.length).length) 2 (by rw [List.length_append, hl3, psB_length]) rfl
    rw [beN_by2 _ (by omega) (by omega)] at e2
    unfold csSel
    rw [e0.1, e0.2.1, e0.2.2, if_neg (by simp), if_neg (by decide), if_pos rfl]
    unfold partsOf
    rw [e1.1, e1.2.1, e1.2.2, if_neg (by simp), Int.toNat_natCast]
    rw [show toP ((psE l l.length).take 0) = [] from rfl, Nat.mul_zero, Nat.add_zero] at eg
    rw [eg]
    have hne : toP (psE l l.length) ≠ [] := fun h => ok.nil (by omega) (List.map_eq_nil_iff.1 h)
    simp only [Option.bind_some]
    unfold partFin
    rw [if_pos ⟨hne, e2.2.1, e2.1⟩, Option.map_some, ok.spread (Nat.le_refl _), List.take_length]
theorem csPutSel_bytes (l : List Int) (f : Int) (hf : f = 0 ∨ f = 3) : ∀ c ∈ csPutSel l f, 0 ≤ c ∧ c ≤ 255 := by
  have hB : ∀ rs, ∀ c ∈ psB rs, 0 ≤ c ∧ c ≤ 255 := by
    intro rs c hc
    unfold psB at hc
    obtain ⟨p, _, h⟩ := List.mem_flatMap.1 hc
    simp [by2] at h
    rcases h with rfl | rfl | rfl <;> omega
  have h2 : ∀ x, ∀ c ∈ by2 x, 0 ≤ c ∧ c ≤ 255 := by intro x c hc; simp [by2] at hc; rcases hc with rfl | rfl <;> omega
  intro c hc
  unfold csPutSel at hc
  rcases hf with rfl | rfl
  · rw [if_pos rfl] at hc
    simp at hc
    rcases hc with rfl | ⟨a, _, rfl⟩ <;> omega
  · rw [if_neg (by decide)] at hc
    simp only [List.mem_append, List.mem_singleton] at hc
    rcases hc with ((rfl | h) | h) | h
    · omega
    · exact h2 _ _ h
    · exact hB _ _ h
    · exact h2 _ _ h
theorem csPutSel_len (l : List Int) (f : Int) : (csPutSel l f).length ≤ 5 + 3 * l.length := by
  unfold csPutSel
  split
  · simp; omega
  · rw [psGo_eq]
    have := (psOk l l.length).len
    simp only [List.length_append, psB_length, List.length_singleton]
    have a : ∀ x, (by2 x).length = 2 := fun _ => rfl
    rw [a, a]; omega
end Go.Proofs.YtlhkaoccnpgkeaaGreat.Ch
namespace Go.Proofs.YtlhkaoccnpgkeaaGreat.Ch
open Go.RowKit
set_option linter.unusedVariables false
set_option linter.unusedSimpArgs false
set_option maxRecDepth 100000 in
set_option maxHeartbeats 1000000 in
theorem putsel_no (v : Value) (l : List Int) (q f : Int) (w : World) (hm : maySel l q f = false) (hz : IsInts .i64 w v l) (hlen : l.length < 4611686018427387904) :
    Calls Tryz.prog 69 #[v, .int .i64 q, .int .i64 f] w fun e w' => e = .returned (.tuple #[.slice none 0 0, .int .i64 1]) ∧ Kp [] w w' := by
  obtain ⟨pa, ca, hva⟩ : ∃ p c, v = .slice p l.length c := by
    rcases hz with ⟨⟨ad, rfl⟩, rfl⟩ | ⟨g, off, c, rfl, _⟩
    · exact ⟨_, 0, rfl⟩
    · exact ⟨_, c, rfl⟩
  have hz2 := Lib.hid hz
  clear hz
  subst hva
  have HM : Hid _ := hm
  clear hm
  by_cases hc : 1 ≤ l.length ∧ l.length ≤ 65535
  · obtain ⟨hc1, hc2⟩ := hc
    by_cases hq1 : q < 1
    · go_enter Tryz.func69, Tryz.ntmps69
      go_wp2_with fail
      refine (count_yes _ (by omega) (by omega) _).mono ?_; rintro e w' ⟨rfl, rfl⟩
      go_wp2_with fail
      go_ret2
      exact ⟨rfl, by (repeat (first | exact Kp.refl _ _ | assumption | refine Kp.drew ?_ | refine Kp.drewN ?_ _ | refine Kp.alloc ?_ _ | (refine Kp.setCell ?_ (by first | (left; simp; done) | (right; simp; try omega)) _) | (refine Kp.trans' ?_ (by assumption) (by simp; try omega))))⟩
    · have hq1' : decide (q < 1) = false := decide_eq_false hq1
      by_cases hq2 : 256 < q
      · go_enter Tryz.func69, Tryz.ntmps69
        go_wp2_with fail
        refine (count_yes _ (by omega) (by omega) _).mono ?_; rintro e w' ⟨rfl, rfl⟩
        go_wp2_with fail
        go_ret2
        exact ⟨rfl, by (repeat (first | exact Kp.refl _ _ | assumption | refine Kp.drew ?_ | refine Kp.drewN ?_ _ | refine Kp.alloc ?_ _ | (refine Kp.setCell ?_ (by first | (left; simp; done) | (right; simp; try omega)) _) | (refine Kp.trans' ?_ (by assumption) (by simp; try omega))))⟩
      · have hq2' : decide (256 < q) = false := decide_eq_false hq2
        cases hb : l.all (inB (q - 1))
        · have HB := Lib.hid hb
          clear hb
          go_enter Tryz.func69, Tryz.ntmps69
          go_wp2_with fail
          refine (count_yes _ (by omega) (by omega) _).mono ?_; rintro e w' ⟨rfl, rfl⟩
          go_wp2_with fail
          refine (within_calls _ l (q - 1) _ (hz2.out.kp (S := []) ((Kp.refl _ _).alloc _) (by simp))).mono ?_; rintro e w1 ⟨rfl, hk1⟩
          rw [HB.out]
          go_wp2_with fail
          go_ret2
          exact ⟨rfl, ((Kp.refl _ _).alloc _).trans hk1⟩
        · have HB := Lib.hid hb
          have hf : ¬ (f = 0 ∨ f = 3) := by
            intro hf
            have : maySel l q f = true := by
              unfold maySel
              rw [hb, show (f == 0 || f == 3) = true by rcases hf with rfl | rfl <;> rfl, decide_eq_true hc1, decide_eq_true hc2, decide_eq_true (show 1 ≤ q by omega), decide_eq_true (show q ≤ 256 by omega)]; rfl
            rw [HM.out] at this; exact absurd this (by simp)
          have n0 : (f != 0) = true := bne_iff_ne.2 (fun e => hf (.inl e))
          have n3 : (f != 3) = true := bne_iff_ne.2 (fun e => hf (.inr e))
          clear hb hf
          go_enter Tryz.func69, Tryz.ntmps69
          go_wp2_with fail
          refine (count_yes _ (by omega) (by omega) _).mono ?_; rintro e w' ⟨rfl, rfl⟩
          go_wp2_with fail
          refine (within_calls _ l (q - 1) _ (hz2.out.kp (S := []) ((Kp.refl _ _).alloc _) (by simp))).mono ?_; rintro e w1 ⟨rfl, hk1⟩
          rw [HB.out]
          go_wp2_with fail
          go_ret2
          exact ⟨rfl, ((Kp.refl _ _).alloc _).trans hk1⟩
  · go_enter Tryz.func69, Tryz.ntmps69
    go_wp2_with fail
    refine (count_no _ (by omega) _).mono ?_; rintro e w' ⟨rfl, rfl⟩
    go_wp2_with fail
    go_ret2
    exact ⟨rfl, by (repeat (first | exact Kp.refl _ _ | assumption | refine Kp.drew ?_ | refine Kp.drewN ?_ _ | refine Kp.alloc ?_ _ | (refine Kp.setCell ?_ (by first | (left; simp; done) | (right; simp; try omega)) _) | (refine Kp.trans' ?_ (by assumption) (by simp; try omega))))⟩
/-- Where a put number by number stands in memory. -/
def P0St (w wr : World) (B : Nat) (v : Value) (l : List Int) (j : Nat) (v8 : Value) : Prop :=
  wr.ownsRow B 5 1 v8 (1 + j) ((([0] : List Int) ++ (l.take j).map (· % 256)).map (Value.int .u8)) ∧ IsInts .i64 wr v l ∧ Kp [] w wr ∧ w.heap.size = B ∧ B ≤ wr.heap.size ∧ (∀ b, blockOf v = some b → b < B)
theorem P0St.app {w wr wq w2 : World} {B : Nat} {v : Value} {l : List Int} {j : Nat} {v8 v9 : Value} {x : Int} (h : P0St w wr B v l j v8) (hq : Kp [] wr wq) (hj : j < l.length) (hx : x = l.getD j 0 % 256)
    (hown : w2.ownsRow B 5 1 v9 (1 + j + 1) ((([0] : List Int) ++ (l.take j).map (· % 256)).map (Value.int .u8) ++ [.int .u8 x])) (hg : wq.grownBy w2 v8.ownBlock) : P0St w w2 B v l (j + 1) v9 := by
  obtain ⟨h1, h2, h3, h4, h5, h6⟩ := h
  have hge := own_ge h1
  have hk : Kp [] w w2 := Kp.grown (h3.trans hq) hg (fun k hk => .inr (by have := hge k hk; omega))
  have hk2 : Kp (v8.ownBlock.toList) wr w2 := Kp.grown (hq.more (fun s hs => nomatch hs)) hg (fun k hk => .inl (by rw [hk]; simp))
  refine ⟨?_, h2.kp hk2 ?_, hk, h4, Nat.le_trans h5 hk2.size, h6⟩
  · subst hx
    rw [take_getD l j hj, show 1 + (j + 1) = 1 + j + 1 by omega]; simpa using hown
  · intro s hs; cases hv : v8.ownBlock with
    | none => simp [hv] at hs
    | some b => simp [hv] at hs; subst hs; intro e; have := h6 _ e; have := hge _ hv; omega
theorem P0St.kp {w wr w2 : World} {B : Nat} {v : Value} {l : List Int} {j : Nat} {v8 : Value} (h : P0St w wr B v l j v8) (hq : Kp [] wr w2) : P0St w w2 B v l j v8 :=
  ⟨hq.row h.1 (by simp), h.2.1.kp hq (by simp), h.2.2.1.trans hq, h.2.2.2.1, Nat.le_trans h.2.2.2.2.1 hq.size, h.2.2.2.2.2⟩
set_option maxRecDepth 100000 in
set_option maxHeartbeats 2000000 in
theorem putsel_0 (v : Value) (l : List Int) (q : Int) (w : World) (hm : maySel l q 0 = true) (hz : IsInts .i64 w v l) (hv : ∀ b, blockOf v = some b → b < w.heap.size) :
    Calls Tryz.prog 69 #[v, .int .i64 q, .int .i64 0] w (Loaded .u8 (some (csPutSel l 0)) 0 w) := by
  have hm2 := hm
  unfold maySel at hm2
  simp only [Bool.and_eq_true, decide_eq_true_eq] at hm2
  obtain ⟨⟨⟨⟨⟨k1, k2⟩, k3⟩, k4⟩, k5⟩, k6⟩ := hm2
  have HB : Hid _ := k5
  have HA : Hid (∀ c ∈ l, 0 ≤ c ∧ c ≤ 255) := fun c hc => by have := List.all_eq_true.1 k5 c hc; simp [inB] at this; omega
  have HV : Hid _ := hv
  rcases hz with ⟨⟨ad, rfl⟩, rfl⟩ | ⟨g, off, c, rfl, p1, p2, p3⟩
  · simp at k1
  have HZ : Hid (IsInts .i64 w (.slice (some ⟨g, off, none⟩) l.length c) l) := .inr ⟨g, off, c, rfl, p1, p2, p3⟩
  have HR : Hid (csPutSel l 0 = [0] ++ (l.take l.length).map (· % 256)) := by unfold Hid csPutSel; rw [if_pos rfl, List.take_length]
  clear hm k5 k6 hv p3
  go_enter Tryz.func69, Tryz.ntmps69
  go_wp2_with fail
  refine (count_yes _ (by omega) (by omega) _).mono ?_; rintro e w' ⟨rfl, rfl⟩
  go_wp2_with fail
  refine (within_calls _ l (q - 1) _ (HZ.out.kp (S := []) ((Kp.refl _ _).alloc _) (by simp))).mono ?_; rintro e w1 ⟨rfl, hk1⟩
  rw [HB.out]
  have hbc : Hid (w1.heap[w.heap.size]? = some (.cells #[.slice (some ⟨g, off, none⟩) l.length c] 24 (0, 0))) := hk1.heap (heap_alloc_new w _) (by simp)
  have hcx := cell_of_one hbc.out
  have hk0 : Kp [] w w1 := ((Kp.refl _ _).alloc _).trans hk1
  have hs1 := hk0.size
  have hst : P0St w (w1.alloc (.cells #[.int .u8 0] 5)) w.heap.size (.slice (some ⟨g, off, none⟩) l.length c) l 0 (.slice (some ⟨w1.heap.size, 0, none⟩) 1 1) :=
    ⟨own_lit w1 _ _ _ 1 1 #[.int .u8 0] rfl (by omega) (by decide) rfl, HZ.out.kp (S := []) (hk0.alloc _) (by simp), hk0.alloc _, rfl, by simp; omega, HV.out⟩
  clear hk1
  generalize hB : w.heap.size = B at *
  have hBl : B < w1.heap.size := lt_of_block hbc.out
  go_wp2_with fail
  clear hcx hbc
  go_loopw [8, 10, 50] (fun v8 _ i wr => ∃ j : Nat, j ≤ l.length ∧ i = .int .i64 j ∧ P0St w wr B (.slice (some ⟨g, off, none⟩) l.length c) l j v8) (fun _ _ i _ => l.length - (intOf i).toNat)
  case atStart => exact ⟨0, by omega, rfl, hst⟩
  case round =>
    obtain ⟨j, hj, rfl, hs⟩ := hrel
    clear hst
    obtain ⟨p8, c8, rfl⟩ := slice_own hs.1
    have HS : Hid (P0St w wr B (.slice (some ⟨g, off, none⟩) l.length c) l j (.slice p8 (1 + j) c8)) := hs
    have hBs := hs.2.2.2.2.1
    clear hs
    by_cases hlt : j < l.length
    · have hcj : wr.cell? ⟨g, off + j, none⟩ = some (.int .i64 (l.getD j 0)) := by
        rcases HS.out.2.1 with ⟨⟨ad, h⟩, h'⟩ | ⟨g1, o1, c1, h, _, _, h3⟩
        · exfalso; rw [h'] at hlt; simp at hlt
        · cases h; exact h3 j hlt
      have hyb : 0 ≤ l.getD j 0 ∧ l.getD j 0 ≤ 255 := HA.out _ (by rw [List.getD_eq_getElem?_getD, List.getElem?_eq_getElem hlt]; exact List.getElem_mem _)
      obtain ⟨y1, y2⟩ := hyb
      have HY : Hid (l.getD j 0 = l.getD j 0) := rfl
      generalize hy : l.getD j 0 = y at hcj y1 y2
      have HX : Hid (y = l.getD j 0 % 256) := by unfold Hid; rw [hy]; omega
      clear HY hy
      go_wp2_with (at_builtin; refine wpList_app rfl _ _ 29 rfl B 5 (.int .u8 0) 1 1 Tryz.underlying29 infoByte rfl (by decide) (by decide) (.slice p8 (1 + j) c8) (1 + j) ((([0] : List Int) ++ (l.take j).map (· % 256)).map (Value.int .u8)) rfl ?hown (.slice (some ⟨wr.heap.size, 0, none⟩) 1 1) 1 [.int .u8 y] rfl ?hsrc ?hone ?hb1 ?hb2 ?hk)
      case hown => exact HS.out.1.alloc _
      case hsrc => exact Reads.made _ _ 1 1 [.int .u8 y] _ rfl rfl (by decide)
      case hone => first | (intro u hu; simp at hu; subst hu; rfl) | rfl
      case hb1 => omega
      case hb2 => simp; omega
      case hk =>
        intro v9 w3 hown hgr
        have hs3 : P0St w w3 B (.slice (some ⟨g, off, none⟩) l.length c) l (j + 1) v9 := HS.out.app (by (repeat (first | exact Kp.refl _ _ | assumption | refine Kp.drew ?_ | refine Kp.drewN ?_ _ | refine Kp.alloc ?_ _ | (refine Kp.setCell ?_ (by first | (left; simp; done) | (right; simp; try omega)) _) | (refine Kp.trans' ?_ (by assumption) (by simp; try omega))))) hlt HX.out (by simpa using hown) hgr
        clear hown hgr
        go_wp2_with fail
        go_roundw
        case rel => first | exact ⟨j + 1, by omega, int_eq (by omega), hs3⟩ | ((repeat apply Exists.intro); exact ⟨⟨j + 1, by omega, int_eq (by omega), hs3⟩, rfl⟩)
        case measure => simp [intOf]; omega
    · obtain rfl : j = l.length := by omega
      go_wp2_with fail
      go_ret2
      refine .inr ⟨_, _, rfl, rfl, ?_, HS.out.2.2.1, fun b hb => by have := own_geb HS.out.1 b hb; have := HS.out.2.2.2.1; omega⟩
      rw [HR.out]; exact IsInts.owned HS.out.1
end Go.Proofs.YtlhkaoccnpgkeaaGreat.Ch
namespace Go.Proofs.YtlhkaoccnpgkeaaGreat.Ch
open Go.RowKit
set_option linter.unusedVariables false
set_option linter.unusedSimpArgs false
set_option maxRecDepth 100000 in
set_option maxHeartbeats 2000000 in
theorem rputsel_0 (v : Value) (l : List Int) (q : Int) (w : World) (hm : maySel l q 0 = true) (hz : IsInts .i64 w v l) (hv : ∀ b, blockOf v = some b → b < w.heap.size) :
    Calls Tryz.prog 32 #[v, .int .i64 0] w (RPutD (csPutSel l 0) w) := by
  have hm2 := hm
  unfold maySel at hm2
  simp only [Bool.and_eq_true, decide_eq_true_eq] at hm2
  obtain ⟨⟨⟨⟨⟨k1, k2⟩, k3⟩, k4⟩, k5⟩, k6⟩ := hm2
  have HB : Hid _ := k5
  have HA : Hid (∀ c ∈ l, 0 ≤ c ∧ c ≤ 255) := fun c hc => by have := List.all_eq_true.1 k5 c hc; simp [inB] at this; omega
  have HV : Hid _ := hv
  rcases hz with ⟨⟨ad, rfl⟩, rfl⟩ | ⟨g, off, c, rfl, p1, p2, p3⟩
  · simp at k1
  have HZ : Hid (IsInts .i64 w (.slice (some ⟨g, off, none⟩) l.length c) l) := .inr ⟨g, off, c, rfl, p1, p2, p3⟩
  have HR : Hid (csPutSel l 0 = [0] ++ (l.take l.length).map (· % 256)) := by unfold Hid csPutSel; rw [if_pos rfl, List.take_length]
  clear hm k5 k6 hv p3
  go_enter Tryz.func32, Tryz.ntmps32
  go_wp2_with fail
  have hst : P0St w (w.alloc (.cells #[.int .u8 0] 5)) w.heap.size (.slice (some ⟨g, off, none⟩) l.length c) l 0 (.slice (some ⟨w.heap.size, 0, none⟩) 1 1) :=
    ⟨own_lit w _ _ _ 1 1 #[.int .u8 0] rfl (by omega) (by decide) rfl, HZ.out.kp (S := []) (by (repeat (first | exact Kp.refl _ _ | assumption | refine Kp.drew ?_ | refine Kp.drewN ?_ _ | refine Kp.alloc ?_ _ | (refine Kp.setCell ?_ (by first | (left; simp; done) | (right; simp; try omega)) _) | (refine Kp.trans' ?_ (by assumption) (by simp; try omega))))) (by simp), by (repeat (first | exact Kp.refl _ _ | assumption | refine Kp.drew ?_ | refine Kp.drewN ?_ _ | refine Kp.alloc ?_ _ | (refine Kp.setCell ?_ (by first | (left; simp; done) | (right; simp; try omega)) _) | (refine Kp.trans' ?_ (by assumption) (by simp; try omega)))), rfl, by simp, HV.out⟩
  generalize hB : w.heap.size = B at *
  go_loopw [5, 6] (fun v8 i wr => ∃ j : Nat, j ≤ l.length ∧ i = .int .i64 j ∧ P0St w wr B (.slice (some ⟨g, off, none⟩) l.length c) l j v8) (fun _ i _ => l.length - (intOf i).toNat)
  case atStart => exact ⟨0, by omega, rfl, hst⟩
  case round =>
    obtain ⟨j, hj, rfl, hs⟩ := hrel
    clear hst
    obtain ⟨p8, c8, rfl⟩ := slice_own hs.1
    have HS : Hid (P0St w wr B (.slice (some ⟨g, off, none⟩) l.length c) l j (.slice p8 (1 + j) c8)) := hs
    have hBs := hs.2.2.2.2.1
    clear hs
    by_cases hlt : j < l.length
    · have hcj : wr.cell? ⟨g, off + j, none⟩ = some (.int .i64 (l.getD j 0)) := by
        rcases HS.out.2.1 with ⟨⟨ad, h⟩, h'⟩ | ⟨g1, o1, c1, h, _, _, h3⟩
        · exfalso; rw [h'] at hlt; simp at hlt
        · cases h; exact h3 j hlt
      have hyb : 0 ≤ l.getD j 0 ∧ l.getD j 0 ≤ 255 := HA.out _ (by rw [List.getD_eq_getElem?_getD, List.getElem?_eq_getElem hlt]; exact List.getElem_mem _)
      obtain ⟨y1, y2⟩ := hyb
      have HY : Hid (l.getD j 0 = l.getD j 0) := rfl
      generalize hy : l.getD j 0 = y at hcj y1 y2
      have HX : Hid (y = l.getD j 0 % 256) := by unfold Hid; rw [hy]; omega
      clear HY hy
      go_wp2_with (at_builtin; refine wpList_app rfl _ _ 29 rfl B 5 (.int .u8 0) 1 1 Tryz.underlying29 infoByte rfl (by decide) (by decide) (.slice p8 (1 + j) c8) (1 + j) ((([0] : List Int) ++ (l.take j).map (· % 256)).map (Value.int .u8)) rfl ?hown (.slice (some ⟨wr.heap.size, 0, none⟩) 1 1) 1 [.int .u8 y] rfl ?hsrc ?hone ?hb1 ?hb2 ?hk)
      case hown => exact HS.out.1.alloc _
      case hsrc => exact Reads.made _ _ 1 1 [.int .u8 y] _ rfl rfl (by decide)
      case hone => first | (intro u hu; simp at hu; subst hu; rfl) | rfl
      case hb1 => omega
      case hb2 => simp; omega
      case hk =>
        intro v9 w3 hown hgr
        have hs3 : P0St w w3 B (.slice (some ⟨g, off, none⟩) l.length c) l (j + 1) v9 := HS.out.app (by (repeat (first | exact Kp.refl _ _ | assumption | refine Kp.drew ?_ | refine Kp.drewN ?_ _ | refine Kp.alloc ?_ _ | (refine Kp.setCell ?_ (by first | (left; simp; done) | (right; simp; try omega)) _) | (refine Kp.trans' ?_ (by assumption) (by simp; try omega))))) hlt HX.out (by simpa using hown) hgr
        clear hown hgr
        go_wp2_with fail
        go_roundw
        case rel => first | exact ⟨j + 1, by omega, int_eq (by omega), hs3⟩ | ((repeat apply Exists.intro); exact ⟨⟨j + 1, by omega, int_eq (by omega), hs3⟩, rfl⟩)
        case measure => simp [intOf]; omega
    · obtain rfl : j = l.length := by omega
      go_wp2_with fail
      go_ret
      exact ⟨_, rfl, by rw [HR.out]; exact IsInts.owned HS.out.1, HS.out.2.2.1, fun b hb => by have := own_geb HS.out.1 b hb; have := HS.out.2.2.2.1; omega⟩
section
variable {P : Program} {w : World} {ops : Array Oper} {o : Oper} {a : Act} {Q : Exit → Act → World → Prop}
/-- An append inside a region that draws its order; what is appended is read as a row. -/
theorem step_appR {K : Act → World → Prop} {E : Prop} (hgd : o.guard = none) (s x : Operand) (t : TypeId)
    (ho : o.op = .call { callee := .builtin .append, args := #[s, x], argTypes := #[t, t] })
    (base : Nat) (e : TypeId) (z : Value) (size bytes : Nat) (ht : P.underlying t = some (.slice e)) (hinfo : (P.info? e).map (fun i => (i.zero, i.size, i.bytes)) = some (some z, size, bytes))
    (hzs : z.cells.size = size) (hsz : 0 < size) (hb1 : 1 ≤ bytes)
    (v : Value) (n : Nat) (xs : List Value) (hs : a.eval s = v) (hown : w.ownsRow base e size v n xs)
    (xv : Value) (m : Nat) (hm : 0 < m) (news : List Value) (hx : a.eval x = xv) (hsrc : Reads size w xv m news) (h1 : ∀ u ∈ news, u.oneCell' = true)
    (hbytes : (n + m) * bytes ≤ 140737488355328) (hbase : base ≤ w.heap.size)
    (h : ∀ v' w', w'.ownsRow base e size v' (n + m) (xs ++ news) → w.grownBy w' v.ownBlock → K (a.put o.dst v') w') :
    if Region.wanted o (yielded ops a.tmps) = true then Oper.wp P o a w K Q else E := by
  rcases hsrc.2 with ⟨⟨ad, rfl⟩, rfl⟩ | ⟨g, off, cap, rfl, h2, h3, h4⟩
  · omega
  · exact step_app hgd s x t ho base e z size bytes ht hinfo hzs hsz hb1 v n xs hs hown g off cap m news hx hsrc.1 h4 h1 hbytes hbase h
end
theorem reads_one (w : World) (M : Nat) (x : Value) (h : w.cell? ⟨M, 0, none⟩ = some x) : Reads 1 w (.slice (some ⟨M, 0, none⟩) 1 1) 1 [x] := by
  refine ⟨rfl, .inr ⟨M, 0, 1, rfl, Nat.le_refl _, by decide, fun j u hu => ?_⟩⟩
  cases j with
  | zero => simp at hu; subst hu; exact h
  | succ j => simp at hu
/-- Where a put range by range stands in memory. -/
def P3St (w wr : World) (B : Nat) (v : Value) (l acc : List Int) (v7 : Value) : Prop :=
  wr.ownsRow B 5 1 (.slice (some ⟨B, 0, none⟩) 1 1) 1 [.int .u8 3] ∧ wr.ownsRow (B + 1) 5 1 v7 acc.length (acc.map (Value.int .u8)) ∧ IsInts .i64 wr v l ∧ Kp [] w wr ∧ w.heap.size = B ∧ B < wr.heap.size ∧ (∀ b, blockOf v = some b → b < B)
theorem P3St.kp {w wr w2 : World} {B : Nat} {v : Value} {l acc : List Int} {v7 : Value} (h : P3St w wr B v l acc v7) (hq : Kp [] wr w2) : P3St w w2 B v l acc v7 :=
  ⟨hq.row h.1 (by simp), hq.row h.2.1 (by simp), h.2.2.1.kp hq (by simp), h.2.2.2.1.trans hq, h.2.2.2.2.1, Nat.lt_of_lt_of_le h.2.2.2.2.2.1 hq.size, h.2.2.2.2.2.2⟩
theorem P3St.app {w wr wq w2 : World} {B : Nat} {v : Value} {l acc news : List Int} {v7 v9 : Value} (h : P3St w wr B v l acc v7) (hq : Kp [] wr wq)
    (hown : w2.ownsRow (B + 1) 5 1 v9 (acc.length + news.length) (acc.map (Value.int .u8) ++ news.map (Value.int .u8))) (hg : wq.grownBy w2 v7.ownBlock) : P3St w w2 B v l (acc ++ news) v9 := by
  obtain ⟨h0, h1, h2, h3, h4, h5, h6⟩ := h
  have hge := own_ge h1
  have hk : Kp [] w w2 := Kp.grown (h3.trans hq) hg (fun k hk => .inr (by have := hge k hk; omega))
  have hk2 : Kp (v7.ownBlock.toList) wr w2 := Kp.grown (hq.more (fun s hs => nomatch hs)) hg (fun k hk => .inl (by rw [hk]; simp))
  have hall : ∀ s ∈ v7.ownBlock.toList, B + 1 ≤ s := by
    intro s hs; cases hv : v7.ownBlock with
    | none => simp [hv] at hs
    | some b => simp [hv] at hs; subst hs; exact hge _ hv
  exact ⟨hk2.row h0 (fun s hs e => by have := hall s hs; simp [Value.ownBlock] at e; omega), by simpa using hown, h2.kp hk2 (fun s hs e => by have := hall s hs; have := h6 _ e; omega), hk, h4, Nat.lt_of_lt_of_le h5 hk2.size, h6⟩
set_option maxRecDepth 100000 in
set_option maxHeartbeats 4000000 in
theorem rputsel_3 (v : Value) (l : List Int) (q : Int) (w : World) (hm : maySel l q 3 = true) (hz : IsInts .i64 w v l) (hv : ∀ b, blockOf v = some b → b < w.heap.size) :
    Calls Tryz.prog 32 #[v, .int .i64 3] w (RPutD (csPutSel l 3) w) := by
  have hm2 := hm
  unfold maySel at hm2
  simp only [Bool.and_eq_true, decide_eq_true_eq] at hm2
  obtain ⟨⟨⟨⟨⟨k1, k2⟩, k3⟩, k4⟩, k5⟩, k6⟩ := hm2
  have HA : Hid (∀ c ∈ l, 0 ≤ c ∧ c ≤ 255) := fun c hc => by have := List.all_eq_true.1 k5 c hc; simp [inB] at this; omega
  have HV : Hid _ := hv
  rcases hz with ⟨⟨ad, rfl⟩, rfl⟩ | ⟨g, off, c, rfl, p1, p2, p3⟩
  · simp at k1
  have HZ : Hid (IsInts .i64 w (.slice (some ⟨g, off, none⟩) l.length c) l) := .inr ⟨g, off, c, rfl, p1, p2, p3⟩
  have HR : Hid (csPutSel l 3 = [3] ++ by2 (psE l l.length).length ++ psB (psE l l.length) ++ by2 l.length) := by unfold Hid csPutSel; rw [if_neg (by decide), psGo_eq]
  clear hm k5 k6 hv p3 k3 k4
  go_enter Tryz.func32, Tryz.ntmps32
  go_wp2_with fail
  have hst : P3St w (w.alloc (.cells #[.int .u8 3] 5)) w.heap.size (.slice (some ⟨g, off, none⟩) l.length c) l [] (.slice none 0 0) :=
    ⟨own_lit w _ _ _ 1 1 #[.int .u8 3] rfl (by omega) (by decide) rfl, World.ownsRow_nil _ _ _ _, HZ.out.kp (S := []) (by (repeat (first | exact Kp.refl _ _ | assumption | refine Kp.drew ?_ | refine Kp.drewN ?_ _ | refine Kp.alloc ?_ _ | (refine Kp.setCell ?_ (by first | (left; simp; done) | (right; simp; try omega)) _) | (refine Kp.trans' ?_ (by assumption) (by simp; try omega))))) (by simp), by (repeat (first | exact Kp.refl _ _ | assumption | refine Kp.drew ?_ | refine Kp.drewN ?_ _ | refine Kp.alloc ?_ _ | (refine Kp.setCell ?_ (by first | (left; simp; done) | (right; simp; try omega)) _) | (refine Kp.trans' ?_ (by assumption) (by simp; try omega)))), rfl, by simp, HV.out⟩
  generalize hB : w.heap.size = B at *
  go_loopw [7, 8, 9] (fun v7 cn i wr => ∃ (j : Nat) (rs : List (Nat × Int)) , j ≤ l.length ∧ i = .int .i64 j ∧ rs.length ≤ j ∧ cn = .int .i64 rs.length ∧ Hid (rs = psE l j) ∧ P3St w wr B (.slice (some ⟨g, off, none⟩) l.length c) l (psB rs) v7) (fun _ _ i _ => l.length - (intOf i).toNat)
  case atStart => exact ⟨0, [], by omega, rfl, by simp, rfl, rfl, hst⟩
  case round =>
    obtain ⟨j, rs, hj, rfl, hrs, rfl, HE, hs⟩ := hrel
    clear hst
    obtain ⟨p7, c7, rfl⟩ := slice_own hs.2.1
    have HS : Hid (P3St w wr B (.slice (some ⟨g, off, none⟩) l.length c) l (psB rs) (.slice p7 (psB rs).length c7)) := hs
    have hBs := hs.2.2.2.2.2.1
    have HL : Hid ((psB rs).length ≤ 3 * 65535) := by rw [Hid, psB_length]; omega
    clear hs
    by_cases hlt : j < l.length
    · have hat : ∀ i, i < l.length → wr.cell? ⟨g, off + i, none⟩ = some (.int .i64 (l.getD i 0)) := by
        rcases HS.out.2.2.1 with ⟨⟨ad, h⟩, h'⟩ | ⟨g1, o1, c1, h, _, _, h3⟩
        · exfalso; rw [h'] at hlt; simp at hlt
        · cases h; exact h3
      have hcj := hat j hlt
      have HAT : Hid _ := hat
      clear hat
      have hgw : g < wr.heap.size := World.block_lt_of_cell? wr _ hcj
      have hyb : 0 ≤ l.getD j 0 ∧ l.getD j 0 ≤ 255 := HA.out _ (by rw [List.getD_eq_getElem?_getD, List.getElem?_eq_getElem hlt]; exact List.getElem_mem _)
      obtain ⟨y1, y2⟩ := hyb
      generalize hy : l.getD j 0 = y at hcj y1 y2
      have HY : Hid _ := hy
      clear hy
      have HNEW : Hid (newR l j = true → psB (psE l (j + 1)) = psB rs ++ bytesN 2 j ++ [y]) := by
        intro h
        rw [psE, if_pos h, psB_snoc, HY.out, ← HE.out, bytesN_2, show y % 256 = y by omega, List.append_assoc]
      have HOLD : Hid (newR l j = false → rs = psE l (j + 1)) := by
        intro h
        rw [psE, if_neg (by rw [h]; simp)]; exact HE.out
      have HLEN : Hid (newR l j = true → psE l (j + 1) = rs ++ [(j, y)]) := by
        intro h
        rw [psE, if_pos h, HY.out, ← HE.out]
      by_cases h0 : j = 0
      · have hn : Hid (newR l j = true) := by subst h0; rfl
        have h0t : ((j : Int) == 0) = true := by simp; omega
        clear h0
        go_wp2_with fail
        go_quiet (fail)
        go_wp2_with fail
        have hng : some g ≠ (Value.slice p7 (psB rs).length c7).ownBlock := fun e => by
          have h1 := own_ge HS.out.2.1 g e.symm
          have h2 := HS.out.2.2.2.2.2.2 g ((blockOf_some _ _ _ _ _ _).2 ⟨by omega, rfl⟩)
          omega
        have hgB : g < B := HS.out.2.2.2.2.2.2 g ((blockOf_some _ _ _ _ _ _).2 ⟨by omega, rfl⟩)
        have H7 : ∀ M, wr.heap.size ≤ M → some M ≠ (Value.slice p7 (psB rs).length c7).ownBlock := fun M h e => by
          have h1 := (HS.out.2.1.lt M e.symm).2
          omega
        have hwy : IntKind.u8.wrap y = y := by rw [IntKind.wrap_u8]; omega
        go_region_held3 (fun w' => w'.cell? ⟨g, off + j, none⟩ = some (.int .i64 y))
          (first
            | go_keep
            | exact hk3.cell (by assumption) (by simp)
            | exact hk3.cell (by simpa using hcj) (by simp)
            | (rw [hgr4.cell_far _ (by have := hk3.size; simp at this ⊢; omega) hng]; assumption)
            | (rw [hgr6.cell_far _ (by have := hs4.2.2.2.2.2.1; simp at this ⊢; omega) hng6]; assumption))
          ((first
            | (go_at_call 73
               refine (rbytes_calls 2 j (by decide) (by decide) (by omega) (by omega) _).mono ?_
               rintro e w3 ⟨v3, rfl, hown3, hk3⟩
               obtain ⟨p3, c3, rfl⟩ := slice_own hown3
               have hr3 := Reads.owned hown3)
            | (refine step_appR (by rfl) _ _ 29 (by rfl) (B + 1) 5 (.int .u8 0) 1 1 Tryz.underlying29 infoByte rfl (by decide) (by decide) (.slice p7 (psB rs).length c7) (psB rs).length ((psB rs).map (Value.int .u8)) (by rfl) (HS.out.kp (by (repeat (first | exact Kp.refl _ _ | assumption | refine Kp.drew ?_ | refine Kp.drewN ?_ _ | refine Kp.alloc ?_ _ | (refine Kp.setCell ?_ (by first | (left; simp; done) | (right; simp; try omega)) _) | (refine Kp.trans' ?_ (by assumption) (by simp; try omega)))))).2.1 (.slice p3 2 c3) 2 (by decide) ((bytesN 2 j).map (Value.int .u8)) (by rfl) (hr3.kp (S := []) (by (repeat (first | exact Kp.refl _ _ | assumption | refine Kp.drew ?_ | refine Kp.drewN ?_ _ | refine Kp.alloc ?_ _ | (refine Kp.setCell ?_ (by first | (left; simp; done) | (right; simp; try omega)) _) | (refine Kp.trans' ?_ (by assumption) (by simp; try omega))))) (by simp)) (oneCell_ints _ _) (by have := HL.out; omega) (HS.out.kp (by (repeat (first | exact Kp.refl _ _ | assumption | refine Kp.drew ?_ | refine Kp.drewN ?_ _ | refine Kp.alloc ?_ _ | (refine Kp.setCell ?_ (by first | (left; simp; done) | (right; simp; try omega)) _) | (refine Kp.trans' ?_ (by assumption) (by simp; try omega)))))).2.2.2.2.2.1 ?_
               intro v5 w4 hown4 hgr4
               obtain ⟨p5, c5, rfl⟩ := slice_own hown4
               have hs4 := HS.out.app (news := bytesN 2 j) (by (repeat (first | exact Kp.refl _ _ | assumption | refine Kp.drew ?_ | refine Kp.drewN ?_ _ | refine Kp.alloc ?_ _ | (refine Kp.setCell ?_ (by first | (left; simp; done) | (right; simp; try omega)) _) | (refine Kp.trans' ?_ (by assumption) (by simp; try omega))))) hown4 hgr4
               have hng6 : some g ≠ (Value.slice p5 ((psB rs).length + 2) c5).ownBlock := fun e => by
                 have h1 := own_ge hown4 g e.symm
                 omega)
            | (refine step_appR (by rfl) _ _ 29 (by rfl) (B + 1) 5 (.int .u8 0) 1 1 Tryz.underlying29 infoByte rfl (by decide) (by decide) (.slice p5 ((psB rs).length + 2) c5) ((psB rs).length + 2) ((psB rs).map (Value.int .u8) ++ (bytesN 2 j).map (Value.int .u8)) (by rfl) (hown4.alloc _) (.slice (some ⟨w4.heap.size, 0, none⟩) 1 1) 1 (by decide) [.int .u8 (y)] (by rfl) (Reads.made _ _ 1 1 [.int .u8 (y)] _ rfl rfl (by decide)) (by intro u hu; simp at hu; subst hu; rfl) (by have := HL.out; omega) (by have := hs4.2.2.2.2.2.1; simp; omega) ?_
               intro v6 w5 hown6 hgr6)
            | (refine step_appR (by rfl) _ _ 29 (by rfl) (B + 1) 5 (.int .u8 0) 1 1 Tryz.underlying29 infoByte rfl (by decide) (by decide) (.slice p5 ((psB rs).length + 2) c5) ((psB rs).length + 2) ((psB rs).map (Value.int .u8) ++ (bytesN 2 j).map (Value.int .u8)) (by rfl) hown4 (.slice (some ⟨w3.heap.size, 0, none⟩) 1 1) 1 (by decide) [.int .u8 (y)] (by rfl) (reads_one _ _ _ ((hgr4.cell_far ⟨w3.heap.size, 0, none⟩ (by simp) (H7 w3.heap.size (by have := hk3.size; simp at this; omega))).trans (by exact news_of_heap (cs := [.int .u8 y]) (heap_alloc_new _ _) 0 _ rfl))) (by intro u hu; simp at hu; subst hu; rfl) (by have := HL.out; omega) (by have := hs4.2.2.2.2.2.1; simp; omega) ?_
               intro v6 w5 hown6 hgr6)
            | (refine step_appR (by rfl) _ _ 29 (by rfl) (B + 1) 5 (.int .u8 0) 1 1 Tryz.underlying29 infoByte rfl (by decide) (by decide) (.slice p5 ((psB rs).length + 2) c5) ((psB rs).length + 2) ((psB rs).map (Value.int .u8) ++ (bytesN 2 j).map (Value.int .u8)) (by rfl) hown4 (.slice (some ⟨wr.heap.size, 0, none⟩) 1 1) 1 (by decide) [.int .u8 (y)] (by rfl) (reads_one _ _ _ ((hgr4.cell_far ⟨wr.heap.size, 0, none⟩ (by have := hk3.size; simp at this ⊢; omega) (H7 wr.heap.size (Nat.le_refl _))).trans (hk3.cell (by exact news_of_heap (cs := [.int .u8 y]) (heap_alloc_new _ _) 0 _ rfl) (by simp)))) (by intro u hu; simp at hu; subst hu; rfl) (by have := HL.out; omega) (by have := hs4.2.2.2.2.2.1; simp; omega) ?_
               intro v6 w5 hown6 hgr6)))
        all_goals
          have hs5 : P3St w w5 B (.slice (some ⟨g, off, none⟩) l.length c) l (psB rs ++ bytesN 2 j ++ [y]) v6 := hs4.app (news := [y]) (by (repeat (first | exact Kp.refl _ _ | assumption | refine Kp.drew ?_ | refine Kp.drewN ?_ _ | refine Kp.alloc ?_ _ | (refine Kp.setCell ?_ (by first | (left; simp; done) | (right; simp; try omega)) _) | (refine Kp.trans' ?_ (by assumption) (by simp; try omega))))) (by simpa [bytesN_length] using hown6) hgr6
          rw [← HNEW.out hn.out] at hs5
          have hle : (psE l (j + 1)).length = rs.length + 1 := by rw [HLEN.out hn.out]; simp
          have HLE : Hid _ := hle
          clear hle hown6 hgr6 hs4 hown4 hgr4 hng6 hr3 hown3 hk3
          go_wp2_with fail
          go_roundw
          case rel => first | exact ⟨j + 1, psE l (j + 1), by omega, int_eq (by omega), by rw [HLE.out]; omega, int_eq (by rw [HLE.out]; simp), rfl, hs5⟩ | ((repeat apply Exists.intro); exact ⟨⟨j + 1, psE l (j + 1), by omega, int_eq (by omega), by rw [HLE.out]; omega, int_eq (by rw [HLE.out]; simp), rfl, hs5⟩, rfl⟩)
          case measure => simp [intOf]; omega
      · have h0' : ((j : Int) == 0) = false := by simp; omega
        have hcp := HAT.out (j - 1) (by omega)
        generalize hz : l.getD (j - 1) 0 = z at hcp
        have HZ2 : Hid _ := hz
        clear hz
        have hj1 : (1 : Int) ≤ j := by omega
        by_cases hyz : y = z
        · have hn : Hid (newR l j = false) := by
            unfold Hid newR; rw [HY.out, HZ2.out, hyz]; simp [h0]
          subst hyz
          go_wp2_with fail
          go_quiet (fail)
          have hs4 : P3St w (wr.drewN nq) B (.slice (some ⟨g, off, none⟩) l.length c) l (psB rs) (.slice p7 (psB rs).length c7) := HS.out.kp (by (repeat (first | exact Kp.refl _ _ | assumption | refine Kp.drew ?_ | refine Kp.drewN ?_ _ | refine Kp.alloc ?_ _ | (refine Kp.setCell ?_ (by first | (left; simp; done) | (right; simp; try omega)) _) | (refine Kp.trans' ?_ (by assumption) (by simp; try omega)))))
          have hr9 : Hid (rs = psE l (j + 1)) := HOLD.out hn.out
          go_wp2_with fail
          go_roundw
          case rel => first | exact ⟨j + 1, rs, by omega, int_eq (by omega), by omega, rfl, hr9.out, hs4⟩ | ((repeat apply Exists.intro); exact ⟨⟨j + 1, rs, by omega, int_eq (by omega), by omega, rfl, hr9.out, hs4⟩, rfl⟩)
          case measure => simp [intOf]; omega
        · have hn : Hid (newR l j = true) := by
            unfold Hid newR; rw [HY.out, HZ2.out]; simp [hyz]
          have hyz' : (y != z) = true := bne_iff_ne.2 hyz
          go_wp2_with fail
          go_quiet (fail)
          go_wp2_with fail
          have hng : some g ≠ (Value.slice p7 (psB rs).length c7).ownBlock := fun e => by
            have h1 := own_ge HS.out.2.1 g e.symm
            have h2 := HS.out.2.2.2.2.2.2 g ((blockOf_some _ _ _ _ _ _).2 ⟨by omega, rfl⟩)
            omega
          have hgB : g < B := HS.out.2.2.2.2.2.2 g ((blockOf_some _ _ _ _ _ _).2 ⟨by omega, rfl⟩)
          have H7 : ∀ M, wr.heap.size ≤ M → some M ≠ (Value.slice p7 (psB rs).length c7).ownBlock := fun M h e => by
            have h1 := (HS.out.2.1.lt M e.symm).2
            omega
          have hwy : IntKind.u8.wrap y = y := by rw [IntKind.wrap_u8]; omega
          go_region_held3 (fun w' => w'.cell? ⟨g, off + j, none⟩ = some (.int .i64 y))
            (first
              | go_keep
              | exact hk3.cell (by assumption) (by simp)
              | exact hk3.cell (by simpa using hcj) (by simp)
              | (rw [hgr4.cell_far _ (by have := hk3.size; simp at this ⊢; omega) hng]; assumption)
              | (rw [hgr6.cell_far _ (by have := hs4.2.2.2.2.2.1; simp at this ⊢; omega) hng6]; assumption))
            ((first
              | (go_at_call 73
                 refine (rbytes_calls 2 j (by decide) (by decide) (by omega) (by omega) _).mono ?_
                 rintro e w3 ⟨v3, rfl, hown3, hk3⟩
                 obtain ⟨p3, c3, rfl⟩ := slice_own hown3
                 have hr3 := Reads.owned hown3)
              | (refine step_appR (by rfl) _ _ 29 (by rfl) (B + 1) 5 (.int .u8 0) 1 1 Tryz.underlying29 infoByte rfl (by decide) (by decide) (.slice p7 (psB rs).length c7) (psB rs).length ((psB rs).map (Value.int .u8)) (by rfl) (HS.out.kp (by (repeat (first | exact Kp.refl _ _ | assumption | refine Kp.drew ?_ | refine Kp.drewN ?_ _ | refine Kp.alloc ?_ _ | (refine Kp.setCell ?_ (by first | (left; simp; done) | (right; simp; try omega)) _) | (refine Kp.trans' ?_ (by assumption) (by simp; try omega)))))).2.1 (.slice p3 2 c3) 2 (by decide) ((bytesN 2 j).map (Value.int .u8)) (by rfl) (hr3.kp (S := []) (by (repeat (first | exact Kp.refl _ _ | assumption | refine Kp.drew ?_ | refine Kp.drewN ?_ _ | refine Kp.alloc ?_ _ | (refine Kp.setCell ?_ (by first | (left; simp; done) | (right; simp; try omega)) _) | (refine Kp.trans' ?_ (by assumption) (by simp; try omega))))) (by simp)) (oneCell_ints _ _) (by have := HL.out; omega) (HS.out.kp (by (repeat (first | exact Kp.refl _ _ | assumption | refine Kp.drew ?_ | refine Kp.drewN ?_ _ | refine Kp.alloc ?_ _ | (refine Kp.setCell ?_ (by first | (left; simp; done) | (right; simp; try omega)) _) | (refine Kp.trans' ?_ (by assumption) (by simp; try omega)))))).2.2.2.2.2.1 ?_
                 intro v5 w4 hown4 hgr4
                 obtain ⟨p5, c5, rfl⟩ := slice_own hown4
                 have hs4 := HS.out.app (news := bytesN 2 j) (by (repeat (first | exact Kp.refl _ _ | assumption | refine Kp.drew ?_ | refine Kp.drewN ?_ _ | refine Kp.alloc ?_ _ | (refine Kp.setCell ?_ (by first | (left; simp; done) | (right; simp; try omega)) _) | (refine Kp.trans' ?_ (by assumption) (by simp; try omega))))) hown4 hgr4
                 have hng6 : some g ≠ (Value.slice p5 ((psB rs).length + 2) c5).ownBlock := fun e => by
                   have h1 := own_ge hown4 g e.symm
                   omega)
              | (refine step_appR (by rfl) _ _ 29 (by rfl) (B + 1) 5 (.int .u8 0) 1 1 Tryz.underlying29 infoByte rfl (by decide) (by decide) (.slice p5 ((psB rs).length + 2) c5) ((psB rs).length + 2) ((psB rs).map (Value.int .u8) ++ (bytesN 2 j).map (Value.int .u8)) (by rfl) (hown4.alloc _) (.slice (some ⟨w4.heap.size, 0, none⟩) 1 1) 1 (by decide) [.int .u8 (y)] (by rfl) (Reads.made _ _ 1 1 [.int .u8 (y)] _ rfl rfl (by decide)) (by intro u hu; simp at hu; subst hu; rfl) (by have := HL.out; omega) (by have := hs4.2.2.2.2.2.1; simp; omega) ?_
                 intro v6 w5 hown6 hgr6)
              | (refine step_appR (by rfl) _ _ 29 (by rfl) (B + 1) 5 (.int .u8 0) 1 1 Tryz.underlying29 infoByte rfl (by decide) (by decide) (.slice p5 ((psB rs).length + 2) c5) ((psB rs).length + 2) ((psB rs).map (Value.int .u8) ++ (bytesN 2 j).map (Value.int .u8)) (by rfl) hown4 (.slice (some ⟨w3.heap.size, 0, none⟩) 1 1) 1 (by decide) [.int .u8 (y)] (by rfl) (reads_one _ _ _ ((hgr4.cell_far ⟨w3.heap.size, 0, none⟩ (by simp) (H7 w3.heap.size (by have := hk3.size; simp at this; omega))).trans (by exact news_of_heap (cs := [.int .u8 y]) (heap_alloc_new _ _) 0 _ rfl))) (by intro u hu; simp at hu; subst hu; rfl) (by have := HL.out; omega) (by have := hs4.2.2.2.2.2.1; simp; omega) ?_
                 intro v6 w5 hown6 hgr6)
              | (refine step_appR (by rfl) _ _ 29 (by rfl) (B + 1) 5 (.int .u8 0) 1 1 Tryz.underlying29 infoByte rfl (by decide) (by decide) (.slice p5 ((psB rs).length + 2) c5) ((psB rs).length + 2) ((psB rs).map (Value.int .u8) ++ (bytesN 2 j).map (Value.int .u8)) (by rfl) hown4 (.slice (some ⟨wr.heap.size, 0, none⟩) 1 1) 1 (by decide) [.int .u8 (y)] (by rfl) (reads_one _ _ _ ((hgr4.cell_far ⟨wr.heap.size, 0, none⟩ (by have := hk3.size; simp at this ⊢; omega) (H7 wr.heap.size (Nat.le_refl _))).trans (hk3.cell (by exact news_of_heap (cs := [.int .u8 y]) (heap_alloc_new _ _) 0 _ rfl) (by simp)))) (by intro u hu; simp at hu; subst hu; rfl) (by have := HL.out; omega) (by have := hs4.2.2.2.2.2.1; simp; omega) ?_
                 intro v6 w5 hown6 hgr6)))
          all_goals
            have hs5 : P3St w w5 B (.slice (some ⟨g, off, none⟩) l.length c) l (psB rs ++ bytesN 2 j ++ [y]) v6 := hs4.app (news := [y]) (by (repeat (first | exact Kp.refl _ _ | assumption | refine Kp.drew ?_ | refine Kp.drewN ?_ _ | refine Kp.alloc ?_ _ | (refine Kp.setCell ?_ (by first | (left; simp; done) | (right; simp; try omega)) _) | (refine Kp.trans' ?_ (by assumption) (by simp; try omega))))) (by simpa [bytesN_length] using hown6) hgr6
            rw [← HNEW.out hn.out] at hs5
            have hle : (psE l (j + 1)).length = rs.length + 1 := by rw [HLEN.out hn.out]; simp
            have HLE : Hid _ := hle
            clear hle hown6 hgr6 hs4 hown4 hgr4 hng6 hr3 hown3 hk3
            go_wp2_with fail
            go_roundw
            case rel => first | exact ⟨j + 1, psE l (j + 1), by omega, int_eq (by omega), by rw [HLE.out]; omega, int_eq (by rw [HLE.out]; simp), rfl, hs5⟩ | ((repeat apply Exists.intro); exact ⟨⟨j + 1, psE l (j + 1), by omega, int_eq (by omega), by rw [HLE.out]; omega, int_eq (by rw [HLE.out]; simp), rfl, hs5⟩, rfl⟩)
            case measure => simp [intOf]; omega
    · obtain rfl : j = l.length := by omega
      have hE2 : Hid (psE l l.length = rs) := HE.out.symm
      have hrc : rs.length ≤ 65535 := by omega
      clear hlt
      go_wp2_with fail
      refine (rbytes_calls 2 rs.length (by decide) (by decide) (by omega) (by omega) _).mono ?_
      rintro e w3 ⟨v3, rfl, hown3, hk3⟩
      obtain ⟨p3, c3, rfl⟩ := slice_own hown3
      have HS3 : Hid (P3St w w3 B (.slice (some ⟨g, off, none⟩) l.length c) l (psB rs) (.slice p7 (psB rs).length c7)) := HS.out.kp hk3
      have hb3 := HS3.out.2.2.2.2.2.1
      have hr3 := Lib.hid (Reads.owned hown3)
      clear hown3 hk3
      go_wp2_with (at_builtin; refine wpList_app rfl _ _ 29 rfl B 5 (.int .u8 0) 1 1 Tryz.underlying29 infoByte rfl (by decide) (by decide) (.slice (some ⟨B, 0, none⟩) 1 1) 1 [.int .u8 3] rfl ?hown (.slice p3 2 c3) 2 ((bytesN 2 rs.length).map (Value.int .u8)) rfl ?hsrc (oneCell_ints _ _) ?hb1 ?hb2 ?hk)
      case hown => exact HS3.out.1
      case hsrc => exact hr3.out
      case hb1 => omega
      case hb2 => omega
      case hk =>
      intro v5 w5 hown5 hgr5
      have hk5 : Kp [B] w3 w5 := Kp.grown (Kp.refl _ _) hgr5 (fun k hk => .inl (by simp [Value.ownBlock] at hk; simp [hk]))
      have hrest := Lib.hid (Reads.owned (hk5.row HS3.out.2.1 (by intro s hs e; simp at hs; subst hs; have := own_ge HS3.out.2.1 _ e; omega)))
      have hkw5 : Kp [] w w5 := HS3.out.2.2.2.1.trans' hk5 (fun t ht => .inr (by simp at ht; omega))
      obtain ⟨p5, c5, rfl⟩ := slice_own hown5
      have hb5 : B ≤ w5.heap.size := by have := hkw5.size; omega
      have HO5 := Lib.hid hown5
      clear hown5 hgr5 hk5 HS3 hb3 hr3
      go_wp2_with (at_builtin; refine wpList_app rfl _ _ 29 rfl B 5 (.int .u8 0) 1 1 Tryz.underlying29 infoByte rfl (by decide) (by decide) (.slice p5 (1 + 2) c5) (1 + 2) ([.int .u8 3] ++ (bytesN 2 rs.length).map (Value.int .u8)) rfl ?hown (.slice p7 (psB rs).length c7) (psB rs).length ((psB rs).map (Value.int .u8)) rfl ?hsrc (oneCell_ints _ _) ?hb1 ?hb2 ?hk)
      case hown => exact HO5.out
      case hsrc => exact hrest.out
      case hb1 => have := HL.out; omega
      case hb2 => omega
      case hk =>
      intro v6 w6 hown6 hgr6
      have hkw6 : Kp [] w w6 := Kp.grown hkw5 hgr6 (fun k hk => .inr (by have := own_ge HO5.out k hk; omega))
      obtain ⟨p6, c6, rfl⟩ := slice_own hown6
      have hb6 : B ≤ w6.heap.size := by have := hkw6.size; omega
      have HO6 := Lib.hid hown6
      clear hown6 hgr6 HO5 hrest hkw5
      go_wp2_with fail
      refine (rbytes_calls 2 l.length (by decide) (by decide) (by omega) (by omega) _).mono ?_
      rintro e w7 ⟨v8, rfl, hown8, hk8⟩
      obtain ⟨p8, c8, rfl⟩ := slice_own hown8
      have hr8 := Lib.hid (Reads.owned hown8)
      have hkw7 : Kp [] w w7 := hkw6.trans hk8
      have HO7 := Lib.hid (hk8.row HO6.out (by simp))
      have hb7 : B ≤ w7.heap.size := by have := hkw7.size; omega
      clear hown8 hk8 HO6 hkw6
      go_wp2_with (at_builtin; refine wpList_app rfl _ _ 29 rfl B 5 (.int .u8 0) 1 1 Tryz.underlying29 infoByte rfl (by decide) (by decide) (.slice p6 (1 + 2 + (psB rs).length) c6) (1 + 2 + (psB rs).length) ([.int .u8 3] ++ (bytesN 2 rs.length).map (Value.int .u8) ++ (psB rs).map (Value.int .u8)) rfl ?hown (.slice p8 2 c8) 2 ((bytesN 2 l.length).map (Value.int .u8)) rfl ?hsrc (oneCell_ints _ _) ?hb1 ?hb2 ?hk)
      case hown => exact HO7.out
      case hsrc => exact hr8.out
      case hb1 => have := HL.out; omega
      case hb2 => omega
      case hk =>
      intro v9 w9 hown9 hgr9
      have hkw9 : Kp [] w w9 := Kp.grown hkw7 hgr9 (fun k hk => .inr (by have := own_ge HO7.out k hk; omega))
      have hge9 := Lib.hid (own_geb hown9)
      have HF : Hid (IsInts .u8 w9 v9 (csPutSel l 3)) := by
        rw [Hid, HR.out, hE2.out, ← bytesN_2, ← bytesN_2]
        refine IsInts.owned (base := B) (e := 5) (n := 1 + 2 + (psB rs).length + 2) ?_
        simpa using hown9
      clear hown9 hgr9 HO7 hr8
      go_wp2_with fail
      go_ret
      exact ⟨_, rfl, HF.out, hkw9, fun b hb => by have := hge9.out b hb; omega⟩
theorem rputsel_calls (v : Value) (l : List Int) (q f : Int) (w : World) (hm : maySel l q f = true) (hz : IsInts .i64 w v l) (hv : ∀ b, blockOf v = some b → b < w.heap.size) :
    Calls Tryz.prog 32 #[v, .int .i64 f] w (RPutD (csPutSel l f) w) := by
  have h : f = 0 ∨ f = 3 := by
    have h := hm
    unfold maySel at h
    simp only [Bool.and_eq_true, Bool.or_eq_true, beq_iff_eq] at h
    exact h.2
  rcases h with rfl | rfl
  · exact rputsel_0 v l q w hm hz hv
  · exact rputsel_3 v l q w hm hz hv
theorem putsel_calls (v : Value) (l : List Int) (q f : Int) (w : World) (hm : maySel l q f = true) (hz : IsInts .i64 w v l) (hv : ∀ b, blockOf v = some b → b < w.heap.size) :
    Calls Tryz.prog 69 #[v, .int .i64 q, .int .i64 f] w (Loaded .u8 (some (csPutSel l f)) 0 w) := by
  have h := hm
  unfold maySel at h
  simp only [Bool.and_eq_true, Bool.or_eq_true, beq_iff_eq, decide_eq_true_eq] at h
  obtain ⟨⟨⟨⟨⟨k1, k2⟩, k3⟩, k4⟩, k5⟩, k6⟩ := h
  rcases k6 with rfl | rfl
  · exact putsel_0 v l q w hm hz hv
  · have hz2 := hz
    rcases hz with ⟨⟨ad, rfl⟩, rfl⟩ | ⟨g, off, c, rfl, p1, p2, p3⟩
    · simp at k1
    · exact putsel_3 g off c l q w p1 p2 hz2 k1 k2 k3 k4 k5 (hv g ((blockOf_some _ _ _ _ _ _).2 ⟨by omega, rfl⟩))
end Go.Proofs.YtlhkaoccnpgkeaaGreat.Ch
namespace Go.Proofs.YtlhkaoccnpgkeaaGreat.Ch
open Go.RowKit
set_option linter.unusedVariables false
set_option linter.unusedSimpArgs false
end Go.Proofs.YtlhkaoccnpgkeaaGreat.Ch
namespace Go.Proofs.YtlhkaoccnpgkeaaGreat.Ch
open Go.RowKit
set_option linter.unusedVariables false
set_option linter.unusedSimpArgs false
end Go.Proofs.YtlhkaoccnpgkeaaGreat.Ch

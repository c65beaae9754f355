/- Bows, as plain Lean: which may be, how far they bend, their places. No program in sight. -/
import Derived.Test.YtpbmefojhgcniaaCuPlain
namespace Go.Proofs.Ytpbmefojhgcniaa
set_option linter.unusedVariables false
set_option linter.unusedSimpArgs false
structure Bw where
  k : Int
  a : Int × Int
  b : Int × Int
  c : Int × Int
  d : Int × Int
def inD (x : Int) : Bool := decide (-1048576 ≤ x) && decide (x ≤ 1048576)
def dotQ (p : Int × Int) : Bool := inD p.1 && inD p.2
def dotsL (q : Bw) : List (Int × Int) := if q.k = 1 then [q.a, q.d] else if q.k = 2 then [q.a, q.b, q.d] else if q.k = 3 then [q.a, q.b, q.c, q.d] else []
def mayW (q : Bw) : Bool := decide (0 < (dotsL q).length) && (dotsL q).all dotQ
def absI (x : Int) : Int := if x < 0 then -x else x
theorem absI_le (x m : Int) (h1 : -m ≤ x) (h2 : x ≤ m) : 0 ≤ absI x ∧ absI x ≤ m := by unfold absI; split <;> omega
theorem absI_max (x : Int) : absI x = max x (-x) := by unfold absI; split <;> omega
theorem le_absI (x : Int) : -absI x ≤ x ∧ x ≤ absI x := by unfold absI; split <;> omega
def secQ (a b c : Int × Int) : Int := max (absI (a.1 - 2 * b.1 + c.1)) (absI (a.2 - 2 * b.2 + c.2))
def bendQ (q : Bw) : Int := if q.k = 2 then secQ q.a q.b q.d else if q.k = 3 then max (secQ q.a q.b q.c) (secQ q.b q.c q.d) else 0
def needsQ (q : Bw) : Int := if q.k = 3 then 3 * bendQ q else bendQ q
def turnQ (q : Bw) : Bw := ⟨q.k, q.d, if q.k = 2 then q.b else if q.k = 3 then q.c else (0, 0), if q.k = 3 then q.b else (0, 0), q.a⟩
theorem inD_iff {x : Int} : inD x = true ↔ -1048576 ≤ x ∧ x ≤ 1048576 := by simp [inD]
theorem dotQ_iff {p : Int × Int} : dotQ p = true ↔ (-1048576 ≤ p.1 ∧ p.1 ≤ 1048576) ∧ -1048576 ≤ p.2 ∧ p.2 ≤ 1048576 := by simp [dotQ, inD]
theorem sec_bounds (a b c : Int × Int) (ha : dotQ a = true) (hb : dotQ b = true) (hc : dotQ c = true) : 0 ≤ secQ a b c ∧ secQ a b c ≤ 4194304 := by
  obtain ⟨a1, a2⟩ := a; obtain ⟨b1, b2⟩ := b; obtain ⟨c1, c2⟩ := c
  rw [dotQ_iff] at ha hb hc
  have h1 := absI_le (a1 - 2 * b1 + c1) 4194304 (by simp at ha hb hc; omega) (by simp at ha hb hc; omega)
  have h2 := absI_le (a2 - 2 * b2 + c2) 4194304 (by simp at ha hb hc; omega) (by simp at ha hb hc; omega)
  unfold secQ; simp only; omega
theorem sec_le (a b c : Int × Int) : (-secQ a b c ≤ a.1 - 2 * b.1 + c.1 ∧ a.1 - 2 * b.1 + c.1 ≤ secQ a b c) ∧ -secQ a b c ≤ a.2 - 2 * b.2 + c.2 ∧ a.2 - 2 * b.2 + c.2 ≤ secQ a b c := by
  have h1 := le_absI (a.1 - 2 * b.1 + c.1)
  have h2 := le_absI (a.2 - 2 * b.2 + c.2)
  unfold secQ; omega
theorem sec_turn (a b c : Int × Int) : secQ c b a = secQ a b c := by
  unfold secQ
  rw [show c.1 - 2 * b.1 + a.1 = a.1 - 2 * b.1 + c.1 by omega, show c.2 - 2 * b.2 + a.2 = a.2 - 2 * b.2 + c.2 by omega]
theorem may_kind {q : Bw} (h : mayW q = true) : q.k = 1 ∨ q.k = 2 ∨ q.k = 3 := by
  unfold mayW dotsL at h
  by_cases h1 : q.k = 1
  · exact .inl h1
  · by_cases h2 : q.k = 2
    · exact .inr (.inl h2)
    · by_cases h3 : q.k = 3
      · exact .inr (.inr h3)
      · rw [if_neg h1, if_neg h2, if_neg h3] at h; simp at h
theorem may_1 {q : Bw} (h : q.k = 1) : mayW q = (dotQ q.a && dotQ q.d) := by simp [mayW, dotsL, h]
theorem may_2 {q : Bw} (h : q.k = 2) : mayW q = (dotQ q.a && (dotQ q.b && dotQ q.d)) := by simp [mayW, dotsL, h]
theorem may_3 {q : Bw} (h : q.k = 3) : mayW q = (dotQ q.a && (dotQ q.b && (dotQ q.c && dotQ q.d))) := by simp [mayW, dotsL, h]
theorem bend_bounds {q : Bw} (h : mayW q = true) : 0 ≤ bendQ q ∧ bendQ q ≤ 4194304 := by
  rcases may_kind h with h1 | h1 | h1
  · unfold bendQ; rw [if_neg (by omega), if_neg (by omega)]; omega
  · rw [may_2 h1] at h
    simp only [Bool.and_eq_true] at h
    unfold bendQ; rw [if_pos h1]
    exact sec_bounds _ _ _ h.1 h.2.1 h.2.2
  · rw [may_3 h1] at h
    simp only [Bool.and_eq_true] at h
    have e1 := sec_bounds _ _ _ h.1 h.2.1 h.2.2.1
    have e2 := sec_bounds _ _ _ h.2.1 h.2.2.1 h.2.2.2
    unfold bendQ; rw [if_neg (by omega), if_pos h1]; omega
theorem needs_bounds {q : Bw} (h : mayW q = true) : 0 ≤ needsQ q ∧ needsQ q ≤ 12582912 := by
  have := bend_bounds h
  unfold needsQ; split <;> omega
theorem turn_may {q : Bw} (h : mayW q = true) : mayW (turnQ q) = true := by
  rcases may_kind h with h1 | h1 | h1
  · rw [may_1 h1] at h
    rw [may_1 (show (turnQ q).k = 1 from h1)]
    simp only [Bool.and_eq_true] at h ⊢
    exact ⟨h.2, h.1⟩
  · rw [may_2 h1] at h
    rw [may_2 (show (turnQ q).k = 2 from h1)]
    simp only [Bool.and_eq_true] at h ⊢
    exact ⟨h.2.2, by unfold turnQ; simp [h1, h.2.1], h.1⟩
  · rw [may_3 h1] at h
    rw [may_3 (show (turnQ q).k = 3 from h1)]
    simp only [Bool.and_eq_true] at h ⊢
    exact ⟨h.2.2.2, by unfold turnQ; simp [h1, h.2.2.1], by unfold turnQ; simp [h1, h.2.1], h.1⟩
theorem turn_bend (q : Bw) : bendQ (turnQ q) = bendQ q := by
  unfold bendQ
  rw [show (turnQ q).k = q.k from rfl]
  by_cases h2 : q.k = 2
  · rw [if_pos h2, if_pos h2]
    unfold turnQ; simp only [h2, if_true]
    exact sec_turn _ _ _
  · rw [if_neg h2, if_neg h2]
    by_cases h3 : q.k = 3
    · rw [if_pos h3, if_pos h3]
      unfold turnQ; simp only [h3, if_true]
      rw [if_neg (by omega), sec_turn q.b q.c q.d, sec_turn q.a q.b q.c]; omega
    · rw [if_neg h3, if_neg h3]
theorem turn_needs (q : Bw) : needsQ (turnQ q) = needsQ q := by unfold needsQ; rw [turn_bend]; rfl
/-- The weights: one step of the scheme, and so many. -/
def halfW (i k : Int) (w : List Int) (j : Nat) : List Int := (List.range (w.length + 1)).map fun t => (if t < j then w.getD t 0 * k else 0) + (if 1 ≤ t ∧ t ≤ j then w.getD (t - 1) 0 * i else 0)
def stepW (i k : Int) (w : List Int) : List Int := halfW i k w w.length
def wts (i k : Int) : Nat → List Int
  | 0 => [1]
  | s + 1 => stepW i k (wts i k s)
theorem halfW_length (i k : Int) (w : List Int) (j : Nat) : (halfW i k w j).length = w.length + 1 := by simp [halfW]
theorem halfW_getD (i k : Int) (w : List Int) (j t : Nat) (h : t ≤ w.length) : (halfW i k w j).getD t 0 = (if t < j then w.getD t 0 * k else 0) + (if 1 ≤ t ∧ t ≤ j then w.getD (t - 1) 0 * i else 0) := by
  unfold halfW; rw [List.getD_eq_getElem?_getD, List.getElem?_map, List.getElem?_range (by omega)]; rfl
theorem halfW_zero (i k : Int) (w : List Int) : halfW i k w 0 = List.replicate (w.length + 1) 0 := by
  apply List.ext_getElem (by simp [halfW])
  intro t h1 h2
  simp only [halfW, List.getElem_map, List.getElem_range, List.getElem_replicate]
  rw [if_neg (by omega), if_neg (by omega)]; rfl
theorem wts_length (i k : Int) (s : Nat) : (wts i k s).length = s + 1 := by
  induction s with
  | zero => rfl
  | succ s ih => rw [wts, stepW, halfW_length, ih]
theorem halfW_set (i k : Int) (w : List Int) (j : Nat) (h : j < w.length) :
    ((halfW i k w j).set j ((halfW i k w j).getD j 0 + w.getD j 0 * k)).set (j + 1) (((halfW i k w j).set j ((halfW i k w j).getD j 0 + w.getD j 0 * k)).getD (j + 1) 0 + w.getD j 0 * i) = halfW i k w (j + 1) := by
  have e1 : ((halfW i k w j).set j ((halfW i k w j).getD j 0 + w.getD j 0 * k)).getD (j + 1) 0 = 0 := by
    rw [List.getD_eq_getElem?_getD, List.getElem?_set_ne (by omega), ← List.getD_eq_getElem?_getD, halfW_getD _ _ _ _ _ (by omega), if_neg (by omega), if_neg (by omega)]; rfl
  rw [e1, halfW_getD _ _ _ _ _ (by omega), if_neg (by omega)]
  apply List.ext_getElem (by simp [halfW])
  intro t h1 h2
  rw [halfW_length] at h2
  have g : ∀ jj : Nat, (halfW i k w jj)[t]'(by rw [halfW_length]; exact h2) = (if t < jj then w.getD t 0 * k else 0) + (if 1 ≤ t ∧ t ≤ jj then w.getD (t - 1) 0 * i else 0) := fun jj => by
    simp only [halfW, List.getElem_map, List.getElem_range]
  rw [List.getElem_set, List.getElem_set, g, g]
  by_cases a1 : j + 1 = t
  · subst a1
    rw [if_pos rfl, if_neg (show ¬ j + 1 < j + 1 by omega), if_pos (show 1 ≤ j + 1 ∧ j + 1 ≤ j + 1 by omega), Nat.add_sub_cancel]
  · rw [if_neg a1]
    by_cases a2 : j = t
    · subst a2
      rw [if_pos rfl, if_pos (show j < j + 1 by omega)]
      by_cases a3 : 1 ≤ j
      · rw [if_pos ⟨a3, Nat.le_refl _⟩, if_pos ⟨a3, by omega⟩]; omega
      · rw [if_neg (by omega), if_neg (by omega)]; omega
    · rw [if_neg a2]
      by_cases a3 : t < j
      · rw [if_pos a3, if_pos (show t < j + 1 by omega)]
        by_cases a4 : 1 ≤ t
        · rw [if_pos ⟨a4, by omega⟩, if_pos ⟨a4, by omega⟩]
        · rw [if_neg (by omega), if_neg (by omega)]
      · rw [if_neg a3, if_neg (show ¬ t < j + 1 by omega), if_neg (by omega), if_neg (by omega)]
/-- All numbers of a list are from 0 to so much. -/
def upTo (m : Int) (w : List Int) : Prop := ∀ x ∈ w, 0 ≤ x ∧ x ≤ m
theorem upTo_getD {m : Int} {w : List Int} (h : upTo m w) (hm : 0 ≤ m) (t : Nat) : 0 ≤ w.getD t 0 ∧ w.getD t 0 ≤ m := by
  by_cases ht : t < w.length
  · rw [List.getD_eq_getElem?_getD, List.getElem?_eq_getElem ht]; exact h _ (List.getElem_mem _)
  · rw [List.getD_eq_getElem?_getD, List.getElem?_eq_none (by omega)]; exact ⟨Int.le_refl _, hm⟩
theorem mul_upTo {x k m b : Int} (h1 : 0 ≤ x) (h2 : x ≤ m) (h3 : 0 ≤ k) (h4 : k ≤ b) : 0 ≤ x * k ∧ x * k ≤ m * b :=
  ⟨Int.mul_nonneg h1 h3, Int.mul_le_mul h2 h4 h3 (by omega)⟩
theorem halfW_upTo {i k m : Int} {w : List Int} (h : upTo m w) (hm : 0 ≤ m) (hi : 0 ≤ i ∧ i ≤ 512) (hk : 0 ≤ k ∧ k ≤ 512) (j : Nat) : upTo (1024 * m) (halfW i k w j) := by
  intro x hx
  obtain ⟨t, ht, rfl⟩ := List.mem_map.1 hx
  have e1 := upTo_getD h hm t
  have e2 := upTo_getD h hm (t - 1)
  have p1 := mul_upTo e1.1 e1.2 hk.1 hk.2
  have p2 := mul_upTo e2.1 e2.2 hi.1 hi.2
  split <;> split <;> omega
theorem wts_upTo {i k : Int} (hi : 0 ≤ i ∧ i ≤ 512) (hk : 0 ≤ k ∧ k ≤ 512) (s : Nat) : upTo ((1024 ^ s : Nat) : Int) (wts i k s) := by
  induction s with
  | zero => intro x hx; simp [wts] at hx; subst hx; decide
  | succ s ih =>
    have := halfW_upTo ih (Int.natCast_nonneg _) hi hk (wts i k s).length
    rw [Nat.pow_succ, Int.natCast_mul, Int.mul_comm]; exact this
/-- The weighed sum of so many numbers. -/
def wsum (w : List Int) (xs : List Int) : Nat → Int
  | 0 => 0
  | j + 1 => wsum w xs j + w.getD j 0 * xs.getD j 0
theorem wts_1 (i k : Int) : wts i k 1 = [k, i] := by simp [wts, stepW, halfW, List.range_succ]
theorem wts_2 (i k : Int) : wts i k 2 = [k * k, i * k + k * i, i * i] := by
  rw [wts, wts_1]; simp [stepW, halfW, List.range_succ]
theorem wts_3 (i k : Int) : wts i k 3 = [k * k * k, (i * k + k * i) * k + k * k * i, i * i * k + (i * k + k * i) * i, i * i * i] := by
  rw [wts, wts_2]; simp [stepW, halfW, List.range_succ]
theorem wsum_1 (i k x y : Int) : wsum (wts i k 1) [x, y] 2 = sum1 i k x y := by rw [wts_1]; simp [wsum, sum1]
theorem wsum_2 (i k x y z : Int) : wsum (wts i k 2) [x, y, z] 3 = sum2 i k x y z := by rw [wts_2]; simp [wsum, sum2]; grind
theorem wsum_3 (i k x y z t : Int) : wsum (wts i k 3) [x, y, z, t] 4 = sum3 i k x y z t := by rw [wts_3]; simp [wsum, sum3]; grind
/-- A bow's place at i of n. -/
def atQ (q : Bw) (i n : Int) : Int × Int :=
  if q.k = 1 then (nearQ (sum1 i (n - i) q.a.1 q.d.1) n, nearQ (sum1 i (n - i) q.a.2 q.d.2) n)
  else if q.k = 2 then (nearQ (sum2 i (n - i) q.a.1 q.b.1 q.d.1) (n * n), nearQ (sum2 i (n - i) q.a.2 q.b.2 q.d.2) (n * n))
  else (nearQ (sum3 i (n - i) q.a.1 q.b.1 q.c.1 q.d.1) (n * n * n), nearQ (sum3 i (n - i) q.a.2 q.b.2 q.c.2 q.d.2) (n * n * n))
theorem atQ_1 {q : Bw} (h : q.k = 1) (i n : Int) : atQ q i n = (nearQ (sum1 i (n - i) q.a.1 q.d.1) n, nearQ (sum1 i (n - i) q.a.2 q.d.2) n) := if_pos h
theorem atQ_2 {q : Bw} (h : q.k = 2) (i n : Int) : atQ q i n = (nearQ (sum2 i (n - i) q.a.1 q.b.1 q.d.1) (n * n), nearQ (sum2 i (n - i) q.a.2 q.b.2 q.d.2) (n * n)) := by
  unfold atQ; rw [if_neg (by omega), if_pos h]
theorem atQ_3 {q : Bw} (h : q.k = 3) (i n : Int) : atQ q i n = (nearQ (sum3 i (n - i) q.a.1 q.b.1 q.c.1 q.d.1) (n * n * n), nearQ (sum3 i (n - i) q.a.2 q.b.2 q.c.2 q.d.2) (n * n * n)) := by
  unfold atQ; rw [if_neg (by omega), if_neg (by omega)]
theorem at_0 (q : Bw) (n : Int) (hn : 0 < n) : atQ q 0 n = q.a := by
  have h2 : 0 < n * n := Int.mul_pos hn hn
  have h3 : 0 < n * n * n := Int.mul_pos h2 hn
  unfold atQ
  have e1 : ∀ a d : Int, sum1 0 (n - 0) a d = n * a := fun a d => by unfold sum1; grind
  have e2 : ∀ a b d : Int, sum2 0 (n - 0) a b d = n * n * a := fun a b d => by unfold sum2; grind
  have e3 : ∀ a b c d : Int, sum3 0 (n - 0) a b c d = n * n * n * a := fun a b c d => by unfold sum3; grind
  simp only [e1, e2, e3, near_mul _ _ hn, near_mul _ _ h2, near_mul _ _ h3]
  split
  · rfl
  · split <;> rfl
theorem at_n (q : Bw) (n : Int) (hn : 0 < n) : atQ q n n = q.d := by
  have h2 : 0 < n * n := Int.mul_pos hn hn
  have h3 : 0 < n * n * n := Int.mul_pos h2 hn
  unfold atQ
  have e1 : ∀ a d : Int, sum1 n (n - n) a d = n * d := fun a d => by unfold sum1; grind
  have e2 : ∀ a b d : Int, sum2 n (n - n) a b d = n * n * d := fun a b d => by unfold sum2; grind
  have e3 : ∀ a b c d : Int, sum3 n (n - n) a b c d = n * n * n * d := fun a b c d => by unfold sum3; grind
  simp only [e1, e2, e3, near_mul _ _ hn, near_mul _ _ h2, near_mul _ _ h3]
  split
  · rfl
  · split <;> rfl
/-- The place in the middle is near the middle. -/
theorem at_flat (q : Bw) (hm : mayW q = true) (i n : Int) (hi : 0 ≤ i) (hin : i < n) (hneed : needsQ q ≤ 8 * n * n) :
    (-6 ≤ 2 * (atQ q (2 * i + 1) (2 * n)).1 - (atQ q i n).1 - (atQ q (i + 1) n).1 ∧ 2 * (atQ q (2 * i + 1) (2 * n)).1 - (atQ q i n).1 - (atQ q (i + 1) n).1 ≤ 6) ∧
    -6 ≤ 2 * (atQ q (2 * i + 1) (2 * n)).2 - (atQ q i n).2 - (atQ q (i + 1) n).2 ∧ 2 * (atQ q (2 * i + 1) (2 * n)).2 - (atQ q i n).2 - (atQ q (i + 1) n).2 ≤ 6 := by
  have hn : 0 < n := by omega
  have ek : 2 * n - (2 * i + 1) = 2 * (n - i) - 1 := by omega
  have ek2 : n - (i + 1) = n - i - 1 := by omega
  rw [Int.mul_assoc] at hneed
  rcases may_kind hm with h1 | h1 | h1
  · rw [atQ_1 h1, atQ_1 h1, atQ_1 h1, ek, ek2]
    exact ⟨flat1 n i (n - i) _ _ _ _ _ hn rfl rfl rfl rfl, flat1 n i (n - i) _ _ _ _ _ hn rfl rfl rfl rfl⟩
  · have hb := sec_le q.a q.b q.d
    have hnd : secQ q.a q.b q.d ≤ 8 * (n * n) := by
      unfold needsQ bendQ at hneed; rw [if_neg (by omega), if_pos h1] at hneed; exact hneed
    rw [atQ_2 h1, atQ_2 h1, atQ_2 h1, ek, ek2]
    exact ⟨flat2 n i (n - i) _ _ _ _ _ _ hn rfl ⟨by omega, by omega⟩ rfl rfl rfl, flat2 n i (n - i) _ _ _ _ _ _ hn rfl ⟨by omega, by omega⟩ rfl rfl rfl⟩
  · have hb := sec_le q.a q.b q.c
    have hb2 := sec_le q.b q.c q.d
    have hnd : 3 * max (secQ q.a q.b q.c) (secQ q.b q.c q.d) ≤ 8 * (n * n) := by
      unfold needsQ bendQ at hneed; rw [if_pos h1, if_neg (by omega), if_pos h1] at hneed; exact hneed
    generalize hB : max (secQ q.a q.b q.c) (secQ q.b q.c q.d) = B at *
    have m1 : secQ q.a q.b q.c ≤ B := by omega
    have m2 : secQ q.b q.c q.d ≤ B := by omega
    rw [atQ_3 h1, atQ_3 h1, atQ_3 h1, ek, ek2]
    exact ⟨flat3 n i (n - i) _ _ _ _ _ _ _ B hn rfl hi (by omega) hnd ⟨by omega, by omega⟩ ⟨by omega, by omega⟩ rfl rfl rfl, flat3 n i (n - i) _ _ _ _ _ _ _ B hn rfl hi (by omega) hnd ⟨by omega, by omega⟩ ⟨by omega, by omega⟩ rfl rfl rfl⟩
end Go.Proofs.Ytpbmefojhgcniaa

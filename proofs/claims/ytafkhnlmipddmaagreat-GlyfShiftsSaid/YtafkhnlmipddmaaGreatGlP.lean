/- glyf: parts within parts, and many parts (plain). -/
import Derived.Test.YtafkhnlmipddmaaGreatGlK
import Derived.Deep.DeepCutAuto
namespace Go.Proofs.YtafkhnlmipddmaaGreat
open Go.RowKit
set_option linter.unusedVariables false
set_option linter.unusedSimpArgs false
theorem evalO_z (o : List (List Int)) (n v : Nat) (h : n < o.length) : evalO o 0 n v = glyIn (o.getD n []) none v := by
  unfold evalO
  rw [if_pos (by omega), Int.toNat_natCast]
theorem evalO_s (o : List (List Int)) (f n v : Nat) (h : n < o.length) : evalO o (f + 1) n v = glyIn (o.getD n []) (some (evalO o f)) v := by
  show (if 0 ≤ (n : Int) ∧ (n : Int) < o.length then glyIn (o.getD (n : Int).toNat []) (some (evalO o f)) v else (([], 62), v)) = _
  rw [if_pos (by omega), Int.toNat_natCast]
theorem okL_one {g dx dy : Int} (hg : 0 ≤ g ∧ g ≤ 65535) (hx : -32768 ≤ dx ∧ dx < 32768) (hy : -32768 ≤ dy ∧ dy < 32768) : okL [pl1 g dx dy] := ⟨⟨Nat.le_refl 1, (by decide : 1 ≤ 64)⟩, fun p hp => by
  obtain rfl : p = pl1 g dx dy := by simpa using hp
  exact ⟨pl1_may hg hx hy, pl1_plain hx hy, hg⟩⟩
def cm1 (g dx : Int) : List Int := cmB [pl1 g dx 0]
theorem glyIn_one {g dx : Int} (hg : 0 ≤ g ∧ g ≤ 65535) (hx : -32768 ≤ dx ∧ dx < 32768) (e : Int → Nat → GRes) (v : Nat) : glyIn (cm1 g dx) (some e) v = partsG e [pl1 g dx 0] [] v := glyIn_cm (okL_one hg hx (by decide)) (some e) v
theorem glyIn_oneN {g dx : Int} (hg : 0 ≤ g ∧ g ≤ 65535) (hx : -32768 ≤ dx ∧ dx < 32768) (v : Nat) : glyIn (cm1 g dx) none v = (([], 130), v) := glyIn_cm (okL_one hg hx (by decide)) none v
theorem flat_le (B : Nat) : ∀ o : List (List Int), (∀ i, i < o.length → (o.getD i []).length ≤ B) → o.flatten.length ≤ o.length * B := by
  intro o
  induction o with
  | nil => intro _; simp
  | cons c o ih =>
    intro h
    have h0 : c.length ≤ B := by simpa using h 0 (by simp)
    have h1 := ih (fun i hi => by simpa using h (i + 1) (by simpa using hi))
    rw [List.flatten_cons, List.length_append, List.length_cons, Nat.succ_mul]; omega
/-- What a table of the law's must be. -/
theorem okBs_of {o : List (List Int)} (h1 : 1 ≤ o.length ∧ o.length ≤ 1000) (hb : ∀ i, i < o.length → (o.getD i []).length ≤ 1040 ∧ (∀ c ∈ o.getD i [], 0 ≤ c ∧ c ≤ 255) ∧ okB (o.getD i [])) (h0 : o.getD 0 [] ≠ []) : okBs o := by
  refine ⟨⟨⟨h1.1, by omega⟩, ?_, ?_, fun i hi => (hb i hi).2.1⟩, fun i hi => (hb i hi).2.2⟩
  · have := flat_le 1040 o (fun i hi => (hb i hi).1)
    have := Nat.mul_le_mul_right 1040 h1.2
    omega
  · cases o with
    | nil => simp at h1
    | cons c o =>
      intro e
      rw [List.flatten_cons, List.append_eq_nil_iff] at e
      exact h0 (by simpa using e.1)
/-! Parts within parts. -/
def dpR (i : Nat) : List Int := cm1 i 1
def dpO (n : Nat) : List (List Int) := sqB :: (List.range n).map dpR
def rgO (n : Nat) : List (List Int) := cm1 n 0 :: (List.range n).map dpR
theorem dp_len (n : Nat) : (dpO n).length = n + 1 := by simp [dpO]
theorem rg_len (n : Nat) : (rgO n).length = n + 1 := by simp [rgO]
theorem dp_at {n i : Nat} (h : i < n) : (dpO n).getD (i + 1) [] = cm1 i 1 := by
  unfold dpO
  rw [List.getD_cons_succ, List.getD_eq_getElem?_getD, List.getElem?_map, List.getElem?_range h]; rfl
theorem rg_at {n i : Nat} (h : i < n) : (rgO n).getD (i + 1) [] = cm1 i 1 := by
  unfold rgO
  rw [List.getD_cons_succ, List.getD_eq_getElem?_getD, List.getElem?_map, List.getElem?_range h]; rfl
theorem dpO_succ (n : Nat) : dpO (n + 1) = dpO n ++ [cm1 n 1] := by
  unfold dpO
  rw [List.range_succ, List.map_append]; rfl
theorem dpO_set (n : Nat) : (dpO n).set 0 (cm1 n 0) = rgO n := rfl
theorem cm1_facts {g dx : Int} (hg : 0 ≤ g ∧ g ≤ 65535) (hx : -32768 ≤ dx ∧ dx < 32768) : (cm1 g dx).length ≤ 1040 ∧ (∀ c ∈ cm1 g dx, 0 ≤ c ∧ c ≤ 255) ∧ okB (cm1 g dx) ∧ cm1 g dx ≠ [] := by
  have h := okL_one hg hx (by decide : -32768 ≤ (0 : Int) ∧ (0 : Int) < 32768)
  have h2 := cmB_len h
  exact ⟨by have := h2.1; unfold cm1; omega, cmB_bytes _, cmB_ok h, h2.2⟩
theorem dp_ok {n : Nat} (h : n ≤ 20) : okBs (dpO n) := by
  refine okBs_of (by rw [dp_len]; omega) (fun i hi => ?_) ?_
  · rw [dp_len] at hi
    cases i with
    | zero => exact ⟨by show sqB.length ≤ _; rw [sq_len]; omega, sq_byte, sq_ok⟩
    | succ i =>
      rw [dp_at (by omega)]
      have := cm1_facts (g := i) (dx := 1) (by omega) (by omega)
      exact ⟨this.1, this.2.1, this.2.2.1⟩
  · show sqB ≠ []; decide
theorem rg_ok {n : Nat} (h : n ≤ 20) : okBs (rgO n) := by
  have h0 := cm1_facts (g := n) (dx := 0) (by omega) (by omega)
  refine okBs_of (by rw [rg_len]; omega) (fun i hi => ?_) h0.2.2.2
  rw [rg_len] at hi
  cases i with
  | zero => exact ⟨h0.1, h0.2.1, h0.2.2.1⟩
  | succ i =>
    rw [rg_at (by omega)]
    have := cm1_facts (g := i) (dx := 1) (by omega) (by omega)
    exact ⟨this.1, this.2.1, this.2.2.1⟩
def sqM (i : Nat) : List (List Pn) := [[⟨i * 65536, 0, 1⟩, ⟨i * 65536 + 65536, 0, 1⟩, ⟨i * 65536 + 65536, 65536, 1⟩]]
theorem sq_moves : ∀ i, i < 7 → applyM (sqM i) 65536 0 = (sqM (i + 1), 0) ∧ joinM [] (sqM (i + 1)) = (sqM (i + 1), 0) := by decide
theorem sqM_zero : sqM 0 = sqO := by decide
theorem one_ok {e : Int → Nat → GRes} {i v V : Nat} (hi : i < 7) (hv : v < 1024) (he : e i (v + 1) = ((sqM i, 0), V)) : partsG e [pl1 i 1 0] [] v = ((sqM (i + 1), 0), V) := by
  obtain ⟨h1, h2⟩ := sq_moves i hi
  have hp : partG e (pl1 i 1 0) [] v = ((sqM (i + 1), 0), V) := by
    unfold partG
    rw [if_neg (by omega), show (pl1 (i : Int) 1 0).g = i from rfl, he]
    dsimp only
    rw [if_neg (by simp), show (pl1 (i : Int) 1 0).dx * 65536 = 65536 from rfl, show (pl1 (i : Int) 1 0).dy * 65536 = 0 from rfl, h1]
    dsimp only
    rw [if_neg (by simp), h2]
  unfold partsG
  rw [hp]
  dsimp only
  rw [if_neg (by simp)]; rfl
theorem one_no {e : Int → Nat → GRes} {i v V : Nat} {dx : Int} {O : List (List Pn)} (hv : v < 1024) (he : e i (v + 1) = ((O, 130), V)) : partsG e [pl1 i dx 0] [] v = (([], 130), V) := by
  have hp : partG e (pl1 i dx 0) [] v = (([], 130), V) := by
    unfold partG
    rw [if_neg (by omega), show (pl1 (i : Int) dx 0).g = i from rfl, he]
    dsimp only
    rw [if_pos (by decide)]
  unfold partsG
  rw [hp]
  dsimp only
  rw [if_pos (by decide)]
theorem dp_eval {n : Nat} (hn : n ≤ 20) : ∀ f i v, i ≤ n → f ≤ 6 → v + f ≤ 1024 → evalO (dpO n) f i v = if i ≤ f then ((sqM i, 0), v + i) else (([], 130), v + f) := by
  intro f
  induction f with
  | zero =>
    intro i v hi hf hv
    rw [evalO_z _ _ _ (by rw [dp_len]; omega)]
    cases i with
    | zero => rw [if_pos (Nat.le_refl _), sqM_zero]; exact glyIn_sq none v
    | succ i => rw [if_neg (by omega), dp_at (by omega)]; exact glyIn_oneN (by omega) (by omega) v
  | succ f ih =>
    intro i v hi hf hv
    rw [evalO_s _ _ _ _ (by rw [dp_len]; omega)]
    cases i with
    | zero => rw [if_pos (Nat.zero_le _), sqM_zero]; exact glyIn_sq _ v
    | succ i =>
      have h1 := ih i (v + 1) (by omega) (by omega) (by omega)
      rw [dp_at (by omega), glyIn_one (by omega) (by omega)]
      by_cases h : i ≤ f
      · rw [if_pos h] at h1
        rw [if_pos (by omega), one_ok (by omega) (by omega) h1, show v + 1 + i = v + (i + 1) by omega]
      · rw [if_neg h] at h1
        rw [if_neg (by omega), one_no (by omega) h1, show v + 1 + f = v + (f + 1) by omega]
theorem rg_eval {n : Nat} (hn : n ≤ 20) : ∀ f i v, i ≤ n → v + f ≤ 1024 → evalO (rgO n) f i v = (([], 130), v + f) := by
  intro f
  induction f with
  | zero =>
    intro i v hi hv
    rw [evalO_z _ _ _ (by rw [rg_len]; omega)]
    cases i with
    | zero => exact glyIn_oneN (by omega) (by omega) v
    | succ i => rw [rg_at (by omega)]; exact glyIn_oneN (by omega) (by omega) v
  | succ f ih =>
    intro i v hi hv
    rw [evalO_s _ _ _ _ (by rw [rg_len]; omega)]
    cases i with
    | zero =>
      have h1 := ih n (v + 1) (Nat.le_refl _) (by omega)
      rw [show (rgO n).getD 0 [] = cm1 n 0 from rfl, glyIn_one (by omega) (by omega), one_no (by omega) h1, show v + 1 + f = v + (f + 1) by omega]
    | succ i =>
      have h1 := ih i (v + 1) (by omega) (by omega)
      rw [rg_at (by omega), glyIn_one (by omega) (by omega), one_no (by omega) h1, show v + 1 + f = v + (f + 1) by omega]
/-! Many parts. -/
def repP (n : Nat) (g : Int) : List Cp.Pt := List.replicate n (pl1 g 0 0)
theorem okL_rep {n : Nat} {g : Int} (h1 : 1 ≤ n ∧ n ≤ 64) (hg : 0 ≤ g ∧ g ≤ 65535) : okL (repP n g) := ⟨by simp [repP]; omega, fun p hp => by
  obtain rfl : p = pl1 g 0 0 := List.eq_of_mem_replicate hp
  exact ⟨pl1_may hg (by decide) (by decide), pl1_plain (by decide) (by decide), hg⟩⟩
theorem apply_none : applyM [] (0 * 65536) (0 * 65536) = ([], 0) := by decide
theorem join_none : joinM [] [] = ([], 0) := by decide
theorem parts_many (e : Int → Nat → GRes) (g : Int) (k : Nat) (he : ∀ v, e g v = if v + k ≤ 1024 then (([], 0), v + k) else (([], 120), 1024)) : ∀ n v, v ≤ 1024 → ∃ V, partsG e (repP n g) [] v = if v + n * (k + 1) ≤ 1024 then (([], 0), v + n * (k + 1)) else (([], 120), V) := by
  intro n
  induction n with
  | zero => intro v hv; exact ⟨0, by rw [Nat.zero_mul, Nat.add_zero, if_pos hv]; rfl⟩
  | succ n ih =>
    intro v hv
    have hs : repP (n + 1) g = pl1 g 0 0 :: repP n g := rfl
    rw [hs]
    unfold partsG
    by_cases h0 : 1024 ≤ v
    · have hp : partG e (pl1 g 0 0) [] v = (([], 120), v) := by unfold partG; rw [if_pos h0]
      rw [hp]
      dsimp only
      exact ⟨v, by rw [if_pos (by decide), if_neg (by rw [Nat.succ_mul]; omega)]⟩
    · have hee := he (v + 1)
      by_cases h1 : v + 1 + k ≤ 1024
      · rw [if_pos h1] at hee
        have hp : partG e (pl1 g 0 0) [] v = (([], 0), v + 1 + k) := by
          unfold partG
          rw [if_neg h0, show (pl1 g 0 0).g = g from rfl, hee]
          dsimp only
          rw [if_neg (by simp), show (pl1 g 0 0).dx = 0 from rfl, show (pl1 g 0 0).dy = 0 from rfl, apply_none]
          dsimp only
          rw [if_neg (by simp), join_none]
        rw [hp]
        dsimp only
        rw [if_neg (by simp)]
        obtain ⟨V, hV⟩ := ih (v + 1 + k) h1
        refine ⟨V, ?_⟩
        rw [hV, show v + 1 + k + n * (k + 1) = v + (n + 1) * (k + 1) by rw [Nat.succ_mul]; omega]
      · rw [if_neg h1] at hee
        have hp : partG e (pl1 g 0 0) [] v = (([], 120), 1024) := by
          unfold partG
          rw [if_neg h0, show (pl1 g 0 0).g = g from rfl, hee]
          dsimp only
          rw [if_pos (by decide)]
        rw [hp]
        dsimp only
        exact ⟨1024, by rw [if_pos (by decide), if_neg (by rw [Nat.succ_mul]; omega)]⟩
def vsO (n k : Nat) : List (List Int) := [cmB (repP n 1), cmB (repP k 2), []]
end Go.Proofs.YtafkhnlmipddmaaGreat

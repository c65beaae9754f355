/- simple: what was encoded is decoded (plain). -/
import Derived.Test.YtodjohoonbkklaaSiO
import Derived.Test.YtodjohoonbkklaaSiF
namespace Go.Proofs.Ytodjohoonbkklaa
open Go.RowKit
set_option linter.unusedVariables false
set_option linter.unusedSimpArgs false
theorem siB1 (x : Int) : beN (bytesN 1 x) = x % 256 := by simp [beN, bytesN]
theorem siB2 (x : Int) : beN (bytesN 2 x) = x % 65536 := by simp [beN, bytesN]; omega
theorem siRd (zs rest : List Int) (k m : Nat) (x : Int) (hm : 0 < m) (hd : zs.drop k = bytesN m x ++ rest) : stp zs m (k, false) = (k + m, false) ∧ val zs m (k, false) = beN (bytesN m x) ∧ zs.drop (k + m) = rest := by
  have hl := congrArg List.length hd
  rw [List.length_drop, List.length_append, bytesN_length] at hl
  have hb : rdB zs k false m = false := by unfold rdB; simp; omega
  refine ⟨?_, ?_, ?_⟩
  · unfold stp rdK; dsimp only; rw [hb]; rfl
  · unfold val rdV; dsimp only; rw [hb]
    have : cutB zs k m = bytesN m x := by
      unfold cutB; rw [hd, List.take_left' (bytesN_length m x)]
    rw [this]; rfl
  · rw [← List.drop_drop, hd, List.drop_left' (bytesN_length m x)]
/-- The bytes of steps. -/
def stsB : Int → List Int → List Int
  | _, [] => []
  | l, x :: xs => putB (x - l) ++ stsB x xs
def stsK : Int → List Int → Prop
  | _, [] => True
  | l, x :: xs => putK (x - l) = true ∧ stsK x xs
def flsB : Int → Int → List Pn → List Int
  | _, _, [] => []
  | lx, ly, p :: ps => flagP p.k (p.x.tdiv 65536 - lx) (p.y.tdiv 65536 - ly) :: flsB (p.x.tdiv 65536) (p.y.tdiv 65536) ps
def uX (ps : List Pn) : List Int := ps.map fun p => p.x.tdiv 65536
def uY (ps : List Pn) : List Int := ps.map fun p => p.y.tdiv 65536
theorem flsB_len : ∀ (ps : List Pn) (lx ly : Int), (flsB lx ly ps).length = ps.length := by
  intro ps
  induction ps with
  | nil => intro _ _; rfl
  | cons p ps ih => intro lx ly; simp [flsB, ih]
theorem encS_facts : ∀ (ps : List Pn) (s t : EnS), encS ps s = some t → t.fl = s.fl ++ flsB s.lx s.ly ps ∧ t.ax = s.ax ++ stsB s.lx (uX ps) ∧ t.ay = s.ay ++ stsB s.ly (uY ps) ∧ stsK s.lx (uX ps) ∧ stsK s.ly (uY ps) ∧ ∀ p ∈ ps, ptOk p = true := by
  intro ps
  induction ps with
  | nil =>
    intro s t h
    obtain rfl : s = t := Option.some.inj h
    simp [flsB, stsB, uX, uY, stsK]
  | cons p ps ih =>
    intro s t h
    unfold encS at h
    split at h
    · rename_i hk
      unfold encOk at hk
      rw [Bool.and_eq_true, Bool.and_eq_true] at hk
      obtain ⟨h1, h2, h3⟩ := hk
      obtain ⟨i1, i2, i3, i4, i5, i6⟩ := ih _ t h
      refine ⟨by rw [i1]; simp [encPt, flsB], by rw [i2]; simp [encPt, stsB, uX], by rw [i3]; simp [encPt, stsB, uY], ⟨h2, i4⟩, ⟨h3, i5⟩, fun q hq => ?_⟩
      rcases List.mem_cons.1 hq with e | e
      · rw [e]; exact h1
      · exact i6 q e
    · cases h
/-- What a flag says. -/
theorem flag_vals : ∀ a ∈ [(16 : Int), 18, 2, 0], ∀ b ∈ [(32 : Int), 36, 4, 0], ∀ one ∈ [(1 : Int), 2],
    let F := IntKind.u8.wrap (bits .or .i64 (if one = 1 then bits .or .i64 a 1 else a) b)
    (0 ≤ F ∧ F ≤ 255) ∧ bits .and .i64 F 8 = 0 ∧ bits .and .i64 F 2 = bits .and .i64 a 2 ∧ bits .and .i64 F 16 = bits .and .i64 a 16 ∧ bits .and .i64 F 4 = bits .and .i64 b 4 ∧ bits .and .i64 F 32 = bits .and .i64 b 32 ∧ bits .and .i64 F 1 = 2 - one ∧
    (0 ≤ bits .or .u8 F 8 ∧ bits .or .u8 F 8 ≤ 255) ∧ bits .and .i64 (bits .or .u8 F 8) 8 = 8 ∧ bits .and .i64 (bits .or .u8 F 8) 2 = bits .and .i64 a 2 ∧ bits .and .i64 (bits .or .u8 F 8) 16 = bits .and .i64 a 16 ∧ bits .and .i64 (bits .or .u8 F 8) 4 = bits .and .i64 b 4 ∧ bits .and .i64 (bits .or .u8 F 8) 32 = bits .and .i64 b 32 ∧ bits .and .i64 (bits .or .u8 F 8) 1 = 2 - one := by decide
theorem putF_2 (d : Int) : putF 2 16 d ∈ [(16 : Int), 18, 2, 0] := by
  have e : bits .or .i64 2 16 = 18 := by decide
  unfold putF; rw [e]
  repeat (first | split | simp)
theorem putF_4 (d : Int) : putF 4 32 d ∈ [(32 : Int), 36, 4, 0] := by
  have e : bits .or .i64 4 32 = 36 := by decide
  unfold putF; rw [e]
  repeat (first | split | simp)
/-- A flag of a point, or the same with the bit of those that are repeated. -/
def FlOf (k dx dy f : Int) : Prop := bits .and .i64 f 2 = bits .and .i64 (putF 2 16 dx) 2 ∧ bits .and .i64 f 16 = bits .and .i64 (putF 2 16 dx) 16 ∧ bits .and .i64 f 4 = bits .and .i64 (putF 4 32 dy) 4 ∧ bits .and .i64 f 32 = bits .and .i64 (putF 4 32 dy) 32 ∧ bits .and .i64 f 1 = 2 - k
theorem flagP_facts (k dx dy : Int) (hk : k = 1 ∨ k = 2) : (0 ≤ flagP k dx dy ∧ flagP k dx dy ≤ 255) ∧ bits .and .i64 (flagP k dx dy) 8 = 0 ∧ FlOf k dx dy (flagP k dx dy) ∧ (0 ≤ bits .or .u8 (flagP k dx dy) 8 ∧ bits .or .u8 (flagP k dx dy) 8 ≤ 255) ∧ bits .and .i64 (bits .or .u8 (flagP k dx dy) 8) 8 = 8 ∧ FlOf k dx dy (bits .or .u8 (flagP k dx dy) 8) := by
  have h := flag_vals _ (putF_2 dx) _ (putF_4 dy) k (by rcases hk with rfl | rfl <;> simp)
  dsimp only at h
  obtain ⟨h1, h2, h3, h4, h5, h6, h7, g1, g2, g3, g4, g5, g6, g7⟩ := h
  exact ⟨h1, h2, ⟨h3, h4, h5, h6, h7⟩, g1, g2, ⟨g3, g4, g5, g6, g7⟩⟩
theorem step_back (zs rest : List Int) (k : Nat) (sh sa d f : Int) (hs : (sh = 2 ∧ sa = 16) ∨ (sh = 4 ∧ sa = 32)) (hK : putK d = true) (h1 : bits .and .i64 f sh = bits .and .i64 (putF sh sa d) sh) (h2 : bits .and .i64 f sa = bits .and .i64 (putF sh sa d) sa)
    (hd : zs.drop k = putB d ++ rest) : stV zs sh sa f (k, false) = (d, (k + (putB d).length, false)) ∧ zs.drop (k + (putB d).length) = rest := by
  have hor : bits .and .i64 (bits .or .i64 sh sa) sh ≠ 0 ∧ bits .and .i64 (bits .or .i64 sh sa) sa ≠ 0 ∧ bits .and .i64 sh sh ≠ 0 ∧ bits .and .i64 sh sa = 0 ∧ bits .and .i64 sa sh = 0 ∧ bits .and .i64 sa sa ≠ 0 ∧ bits .and .i64 0 sh = 0 ∧ bits .and .i64 0 sa = 0 := by
    rcases hs with ⟨rfl, rfl⟩ | ⟨rfl, rfl⟩ <;> decide
  obtain ⟨o1, o2, o3, o4, o5, o6, o7, o8⟩ := hor
  unfold stV
  rw [h1, h2]
  by_cases c0 : d = 0
  · subst c0
    have e1 : putF sh sa 0 = sa := rfl
    have e2 : putB 0 = [] := rfl
    rw [e2] at hd ⊢
    rw [e1, if_neg (by rw [o5]; simp), if_neg o6]
    exact ⟨rfl, hd⟩
  · by_cases c1 : 0 < d ∧ d ≤ 255
    · have e1 : putF sh sa d = bits .or .i64 sh sa := by unfold putF; rw [if_neg c0, if_pos c1]
      have e2 : putB d = bytesN 1 d := by unfold putB; rw [if_neg c0, if_pos c1]; simp [bytesN]; omega
      rw [e2] at hd ⊢
      obtain ⟨r1, r2, r3⟩ := siRd zs rest k 1 d (by decide) hd
      rw [e1, if_pos o1, if_pos o2, r1, r2, siB1, bytesN_length]
      exact ⟨by rw [show d % 256 = d by omega], r3⟩
    · by_cases c2 : d < 0 ∧ -255 ≤ d
      · have e1 : putF sh sa d = sh := by unfold putF; rw [if_neg c0, if_neg c1, if_pos c2]
        have e2 : putB d = bytesN 1 (-d) := by unfold putB; rw [if_neg c0, if_neg c1, if_pos c2]; simp [bytesN]; omega
        rw [e2] at hd ⊢
        obtain ⟨r1, r2, r3⟩ := siRd zs rest k 1 (-d) (by decide) hd
        rw [e1, if_pos o3, if_neg (by rw [o4]; simp), r1, r2, siB1, bytesN_length]
        exact ⟨by rw [show -(-d % 256) = d by omega], r3⟩
      · have e1 : putF sh sa d = 0 := by unfold putF; rw [if_neg c0, if_neg c1, if_neg c2]
        have e2 : putB d = bytesN 2 d := by unfold putB; rw [if_neg c0, if_neg c1, if_neg c2]; simp [bytesN]
        have hu : unitB d = true := by unfold putK at hK; rw [if_neg c0, if_neg c1, if_neg c2] at hK; exact hK
        have hu2 : -32768 ≤ d ∧ d ≤ 32767 := by unfold unitB at hu; simpa using hu
        rw [e2] at hd ⊢
        obtain ⟨r1, r2, r3⟩ := siRd zs rest k 2 d (by decide) hd
        rw [e1, if_neg (by rw [o7]; simp), if_pos o8, r1, r2, siB2, bytesN_length]
        refine ⟨?_, r3⟩
        have : s16 (d % 65536) = d := by unfold s16; split <;> omega
        rw [this]
/-- Flags that say these steps. -/
def simX (sh sa : Int) : List Int → Int → List Int → Prop
  | [], _, [] => True
  | f :: fl, l, x :: xs => (bits .and .i64 f sh = bits .and .i64 (putF sh sa (x - l)) sh ∧ bits .and .i64 f sa = bits .and .i64 (putF sh sa (x - l)) sa) ∧ simX sh sa fl x xs
  | _, _, _ => False
theorem steps_back (zs : List Int) (sh sa : Int) (hs : (sh = 2 ∧ sa = 16) ∨ (sh = 4 ∧ sa = 32)) : ∀ (fl xs : List Int) (l : Int) (k : Nat) (acc rest : List Int), simX sh sa fl l xs → stsK l xs → (∀ x ∈ xs, unitB x = true) → zs.drop k = stsB l xs ++ rest →
    stepsR zs sh sa fl l (k, false) acc = (some (acc ++ xs), (k + (stsB l xs).length, false)) ∧ zs.drop (k + (stsB l xs).length) = rest := by
  intro fl
  induction fl with
  | nil =>
    intro xs l k acc rest h1 h2 h3 h4
    cases xs with
    | nil => exact ⟨by simp [stepsR, stsB], by simpa [stsB] using h4⟩
    | cons x xs => exact h1.elim
  | cons f fl ih =>
    intro xs l k acc rest h1 h2 h3 h4
    cases xs with
    | nil => exact h1.elim
    | cons x xs =>
      rw [stsB, List.append_assoc] at h4
      obtain ⟨r1, r2⟩ := step_back zs _ k sh sa (x - l) f hs h2.1 h1.1.1 h1.1.2 h4
      obtain ⟨i1, i2⟩ := ih xs x _ (acc ++ [x]) rest h1.2 h2.2 (fun y hy => h3 y (List.mem_cons_of_mem _ hy)) r2
      rw [stepsR, r1]
      dsimp only
      rw [show l + (x - l) = x by omega, if_pos (h3 x (List.mem_cons_self ..)), i1, stsB, List.length_append]
      refine ⟨?_, ?_⟩
      · rw [List.append_assoc, ← Nat.add_assoc]; rfl
      · rw [← Nat.add_assoc]; exact i2
/-- Flags, some with the bit of those that are repeated. -/
def simF : List Int → List Int → Prop
  | [], [] => True
  | f :: fl, c :: cs => (f = c ∨ f = bits .or .u8 c 8) ∧ simF fl cs
  | _, _ => False
theorem simF_app : ∀ (a b c d : List Int), simF a b → simF c d → simF (a ++ c) (b ++ d) := by
  intro a
  induction a with
  | nil => intro b c d h1 h2; cases b with
    | nil => exact h2
    | cons => exact h1.elim
  | cons x a ih => intro b c d h1 h2; cases b with
    | nil => exact h1.elim
    | cons y b => exact ⟨h1.1, ih b c d h1.2 h2⟩
theorem simF_rep (f c : Int) (h : f = c ∨ f = bits .or .u8 c 8) : ∀ n, simF (List.replicate n f) (List.replicate n c) := by
  intro n
  induction n with
  | zero => trivial
  | succ n ih => exact ⟨h, ih⟩
theorem cntEq_rep (x : Int) : ∀ (k : Nat) (l : List Int), l.take (cntEq x k l) = List.replicate (cntEq x k l) x := by
  intro k
  induction k with
  | zero => intro l; simp [cntEq]
  | succ k ih =>
    intro l
    cases l with
    | nil => simp [cntEq]
    | cons c cs =>
      unfold cntEq
      split
      · rename_i h; rw [List.take_succ_cons, ih cs, List.replicate_succ, h]
      · simp
theorem runLen_rep (c : Int) (cs : List Int) : c :: cs = List.replicate (runLen (c :: cs)) c ++ (c :: cs).drop (runLen (c :: cs)) := by
  conv => lhs; rw [← List.take_append_drop (runLen (c :: cs)) (c :: cs)]
  have : (c :: cs).take (runLen (c :: cs)) = List.replicate (runLen (c :: cs)) c := by
    rw [runLen, List.take_succ_cons, cntEq_rep, List.replicate_succ]
  rw [this]
/-- A flag as a point has it. -/
def FlG (c : Int) : Prop := (0 ≤ c ∧ c ≤ 255) ∧ bits .and .i64 c 8 = 0 ∧ (0 ≤ bits .or .u8 c 8 ∧ bits .or .u8 c 8 ≤ 255) ∧ bits .and .i64 (bits .or .u8 c 8) 8 = 8
theorem flags_back (zs : List Int) (n : Nat) : ∀ (g : Nat) (FL : List Int) (k : Nat) (f : Nat) (l rest : List Int), FL.length ≤ g → (∀ c ∈ FL, FlG c) → n = l.length + FL.length → FL.length < f → zs.drop k = packM g FL ++ rest →
    ∃ FM, flagsR zs n f (k, false) l = some (l ++ FM, (k + (packM g FL).length, false)) ∧ simF FM FL ∧ zs.drop (k + (packM g FL).length) = rest := by
  intro g
  induction g with
  | zero =>
    intro FL k f l rest hg hG hn hf hd
    have : FL = [] := List.eq_nil_of_length_eq_zero (by omega)
    subst this
    obtain ⟨f, rfl⟩ : ∃ f', f = f' + 1 := ⟨f - 1, by omega⟩
    refine ⟨[], ?_, trivial, by simpa [packM] using hd⟩
    rw [flagsR, if_pos (by simp at hn; omega)]
    simp [packM]
  | succ g ih =>
    intro FL k f l rest hg hG hn hf hd
    obtain ⟨f, rfl⟩ : ∃ f', f = f' + 1 := ⟨f - 1, by omega⟩
    cases FL with
    | nil =>
      refine ⟨[], ?_, trivial, by simpa [packM] using hd⟩
      rw [flagsR, if_pos (by simp at hn; omega)]
      simp [packM]
    | cons c cs =>
      obtain ⟨gb, g8, gb2, g82⟩ := hG c (List.mem_cons_self ..)
      obtain ⟨r1, r2⟩ := runLen_le (c :: cs)
      have r0 : 1 ≤ runLen (c :: cs) := by simp [runLen]
      have hrep := runLen_rep c cs
      have hmem : ∀ x ∈ (c :: cs).drop (runLen (c :: cs)), FlG x := fun x hx => hG x (List.mem_of_mem_drop hx)
      have hdl : ((c :: cs).drop (runLen (c :: cs))).length = (c :: cs).length - runLen (c :: cs) := List.length_drop
      rw [packM] at hd ⊢
      obtain ⟨R, hR⟩ : ∃ R, runLen (c :: cs) = R := ⟨_, rfl⟩
      rw [hR] at hd r1 r2 r0 hrep hmem hdl ⊢
      obtain ⟨T, hT⟩ : ∃ T, (c :: cs).drop R = T := ⟨_, rfl⟩
      rw [hT] at hd hrep hmem hdl ⊢
      have hfl : ¬ n ≤ l.length := by simp at hn; omega
      rw [flagsR, if_neg hfl]
      by_cases hc : 1 < R
      · rw [if_pos hc] at hd ⊢
        have hd' : zs.drop k = bytesN 1 (bits .or .u8 c 8) ++ (bytesN 1 ((R : Int) - 1) ++ (packM g T ++ rest)) := by
          rw [hd]; simp [bytesN]; omega
        obtain ⟨a1, a2, a3⟩ := siRd zs _ k 1 _ (by decide) hd'
        obtain ⟨b1, b2, b3⟩ := siRd zs _ (k + 1) 1 _ (by decide) a3
        have v1 : val zs 1 (k, false) = bits .or .u8 c 8 := by rw [a2, siB1]; omega
        have v2 : val zs 1 (k + 1, false) = (R : Int) - 1 := by rw [b2, siB1]; omega
        have m1 : flM zs (k, false) = (R : Int) - 1 := by unfold flM; rw [v1, if_neg (by rw [g82]; decide), a1, v2]
        have m2 : flS zs (k, false) = (k + 1 + 1, false) := by unfold flS; rw [v1, if_neg (by rw [g82]; decide), a1, b1]
        rw [m1, m2, v1, if_neg (by simp at hn r1 ⊢; omega), show ((R : Int) - 1).toNat + 1 = R by omega]
        obtain ⟨FM, i1, i2, i3⟩ := ih T (k + 1 + 1) f (l ++ List.replicate R (bits .or .u8 c 8)) rest (by simp only [List.length_cons] at hg hdl; omega) hmem (by rw [List.length_append, List.length_replicate]; simp only [List.length_cons] at hn hdl r1; omega) (by simp only [List.length_cons] at hf hdl; omega) b3
        refine ⟨List.replicate R (bits .or .u8 c 8) ++ FM, ?_, ?_, ?_⟩
        · rw [i1]; simp [List.append_assoc]; omega
        · rw [hrep]; exact simF_app _ _ _ _ (simF_rep _ _ (.inr rfl) R) i2
        · rw [List.length_append]; simp only [List.length_cons, List.length_nil]; rw [← Nat.add_assoc]; exact i3
      · rw [if_neg hc] at hd ⊢
        obtain rfl : R = 1 := by omega
        have hd' : zs.drop k = bytesN 1 c ++ (packM g T ++ rest) := by
          rw [hd]; simp [bytesN]; omega
        obtain ⟨a1, a2, a3⟩ := siRd zs _ k 1 _ (by decide) hd'
        have v1 : val zs 1 (k, false) = c := by rw [a2, siB1]; omega
        have m1 : flM zs (k, false) = 0 := by unfold flM; rw [v1, if_pos g8]
        have m2 : flS zs (k, false) = (k + 1, false) := by unfold flS; rw [v1, if_pos g8, a1]
        rw [m1, m2, v1, if_neg (by simp at hn r1 ⊢; omega), show (0 : Int).toNat + 1 = 1 from rfl]
        obtain ⟨FM, i1, i2, i3⟩ := ih T (k + 1) f (l ++ List.replicate 1 c) rest (by simp only [List.length_cons] at hg hdl; omega) hmem (by rw [List.length_append, List.length_replicate]; simp only [List.length_cons] at hn hdl r1; omega) (by simp only [List.length_cons] at hf hdl; omega) a3
        refine ⟨List.replicate 1 c ++ FM, ?_, ?_, ?_⟩
        · rw [i1]; simp [List.append_assoc]; omega
        · rw [hrep]; exact simF_app _ _ _ _ (simF_rep _ _ (.inl rfl) 1) i2
        · rw [List.length_append]; simp only [List.length_cons, List.length_nil]; rw [← Nat.add_assoc]; exact i3
/-- The bytes of the last points' numbers, from contour j on. -/
def encT (o : List (List Pn)) : Nat → Nat → List Int
  | _, 0 => []
  | j, n + 1 => bytesN 2 ((cntTo o (j + 1) : Nat) - 1 : Int) ++ encT o (j + 1) n
theorem encEnds_T (o : List (List Pn)) : ∀ n j, encEnds o j ++ encT o j n = encEnds o (j + n) := by
  intro n
  induction n with
  | zero => intro j; simp [encT]
  | succ n ih =>
    intro j
    rw [encT, ← List.append_assoc, show j + (n + 1) = (j + 1) + n by omega, ← ih (j + 1)]
    rfl
def endsL (o : List (List Pn)) (j : Nat) : List Int := (List.range j).map fun i => ((cntTo o (i + 1) : Nat) : Int) - 1
theorem endsL_len (o : List (List Pn)) (j : Nat) : (endsL o j).length = j := by simp [endsL]
theorem endsL_succ (o : List (List Pn)) (j : Nat) : endsL o (j + 1) = endsL o j ++ [((cntTo o (j + 1) : Nat) : Int) - 1] := by
  unfold endsL; rw [List.range_succ, List.map_append]; rfl
theorem endsL_at (o : List (List Pn)) (n j : Nat) (h : j < n) : (endsL o n).getD j 0 = ((cntTo o (j + 1) : Nat) : Int) - 1 := by
  unfold endsL; rw [List.getD_eq_getElem?_getD, List.getElem?_map, List.getElem?_range h]; rfl
theorem ends_back (o : List (List Pn)) (zs : List Int) (hp : ∀ i, i < o.length → 0 < (o.getD i []).length) (hc : cnt o ≤ 4096) : ∀ n j k (rest : List Int), j + n = o.length → zs.drop k = encT o j n ++ rest →
    endsR zs n (((cntTo o j : Nat) : Int) - 1) (k, false) (endsL o j) = (endsL o o.length, 0, (k + 2 * n, false)) ∧ zs.drop (k + 2 * n) = rest := by
  intro n
  induction n with
  | zero =>
    intro j k rest hj hd
    obtain rfl : j = o.length := by omega
    exact ⟨rfl, by simpa [encT] using hd⟩
  | succ n ih =>
    intro j k rest hj hd
    rw [encT, List.append_assoc] at hd
    obtain ⟨a1, a2, a3⟩ := siRd zs _ k 2 _ (by decide) hd
    have c1 := cntTo_le o (j := j + 1) (by omega)
    have c2 : cntTo o (j + 1) = cntTo o j + (o.getD j []).length := rfl
    have c3 := hp j (by omega)
    have v1 : val zs 2 (k, false) = ((cntTo o (j + 1) : Nat) : Int) - 1 := by rw [a2, siB2]; omega
    obtain ⟨i1, i2⟩ := ih (j + 1) (k + 2) rest (by omega) a3
    rw [endsR, a1, v1, if_neg (by intro h; rcases h with h | h; cases h; omega), if_neg (by omega), ← endsL_succ, i1]
    exact ⟨by rw [show k + 2 + 2 * n = k + 2 * (n + 1) by omega], by rw [show k + 2 * (n + 1) = k + 2 + 2 * n by omega]; exact i2⟩
/-- The way through a glyph's bytes that are read to their end. -/
structure DecB (zs : List Int) (N : Nat) (es fl xs ys : List Int) (k1 k2 e : Nat) : Prop where
  n0 : N ≤ 256
  h2 : stp zs 2 (0, false) = (2, false)
  hN : s16 (val zs 2 (0, false)) = N
  h8 : stp zs 8 (2, false) = (10, false)
  hE : endsR zs N (-1) (10, false) [] = (es, 0, (10 + 2 * N, false))
  hI : stp zs 2 (10 + 2 * N, false) = (12 + 2 * N, false)
  hI2 : val zs 2 (10 + 2 * N, false) = 0
  hI3 : stp zs 0 (12 + 2 * N, false) = (12 + 2 * N, false)
  hF : flagsR zs (fromE es es.length) (fromE es es.length + 1) (12 + 2 * N, false) [] = some (fl, (k1, false))
  hX : stepsR zs 2 16 fl 0 (k1, false) [] = (some xs, (k2, false))
  hY : stepsR zs 4 32 fl 0 (k2, false) [] = (some ys, (e, false))
theorem DecB.dec {zs : List Int} {N : Nat} {es fl xs ys : List Int} {k1 k2 e : Nat} (h : DecB zs N es fl xs ys k1 k2 e) : decS zs = (contsE (ptsOf fl xs ys) es, 0) := by
  have h0 : ¬ zs.length = 0 := by
    intro e0
    have := h.h2
    simp [stp, rdK, rdB, e0] at this
  unfold decS
  rw [if_neg h0, h.h2, h.hN, if_neg (by intro h; rcases h with h | h; cases h; omega), if_neg (by have := h.n0; omega), h.h8, show ((N : Int)).toNat = N by omega, h.hE]
  unfold decE
  dsimp only
  rw [if_neg (by simp), h.hI, h.hI2, show (0 : Int).toNat = 0 from rfl, h.hI3]
  unfold decF
  rw [if_neg (by simp), h.hF]
  dsimp only
  unfold decG
  rw [h.hX]
  dsimp only
  rw [h.hY]
  simp [okT]
end Go.Proofs.Ytodjohoonbkklaa

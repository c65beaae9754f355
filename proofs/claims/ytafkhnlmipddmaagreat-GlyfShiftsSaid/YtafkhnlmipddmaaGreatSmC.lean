/- simple: what was encoded is decoded (plain) · simple: what was encoded is decoded, and no beginning of it (plain) · simple: the reference's unit and step; three rows of bytes side by side · simple: the reference's Encode. (Merged by wip/tools/mergetpl.py out of SiU, SiV, SiZa, SiZb.) -/
import Derived.Test.YtafkhnlmipddmaaGreatSmB
import Derived.Test.YtafkhnlmipddmaaGreatSmA
import Derived.Test.YtafkhnlmipddmaaGreatWmA
import Derived.Deep.DeepCutAuto
import Derived.BigQuiet
import Derived.Deep.CutBlock
namespace Go.Proofs.YtafkhnlmipddmaaGreat
open Go.RowKit
set_option linter.unusedVariables false
set_option linter.unusedSimpArgs false
theorem siB1 (x : Int) : beN (bytesN 1 x) = x % 256 := by simp [beN, bytesN]
theorem siB2 (x : Int) : beN (bytesN 2 x) = x % 65536 := by simp [beN, bytesN]; omega
theorem siRd (zs rest : List Int) (k m : Nat) (x : Int) (hm : 0 < m) (hd : zs.drop k = bytesN m x ++ rest) : stp zs m (k, false) = (k + m, false) ∧ val zs m (k, false) = beN (bytesN m x) ∧ zs.drop (k + m) = rest := by
  have hl := congrArg List.length hd
  rw [List.length_drop, List.length_append, bytesN_length] at hl
  have hb : rdB zs k false m = false := by unfold rdB; simp; omega
  refine ⟨?_, ?_, ?_⟩
  · unfold stp rdK; dsimp only; rw [hb]; rfl
  · unfold val rdV; dsimp only; rw [hb]
    have : cutB zs k m = bytesN m x := by
      unfold cutB; rw [hd, List.take_left' (bytesN_length m x)]
    rw [this]; rfl
  · rw [← List.drop_drop, hd, List.drop_left' (bytesN_length m x)]
/-- The bytes of steps. -/
def stsB : Int → List Int → List Int
  | _, [] => []
  | l, x :: xs => putB (x - l) ++ stsB x xs
def stsK : Int → List Int → Prop
  | _, [] => True
  | l, x :: xs => putK (x - l) = true ∧ stsK x xs
def flsB : Int → Int → List Pn → List Int
  | _, _, [] => []
  | lx, ly, p :: ps => flagP p.k (p.x.tdiv 65536 - lx) (p.y.tdiv 65536 - ly) :: flsB (p.x.tdiv 65536) (p.y.tdiv 65536) ps
def uX (ps : List Pn) : List Int := ps.map fun p => p.x.tdiv 65536
def uY (ps : List Pn) : List Int := ps.map fun p => p.y.tdiv 65536
theorem flsB_len : ∀ (ps : List Pn) (lx ly : Int), (flsB lx ly ps).length = ps.length := by
  intro ps
  induction ps with
  | nil => intro _ _; rfl
  | cons p ps ih => intro lx ly; simp [flsB, ih]
theorem encS_facts : ∀ (ps : List Pn) (s t : EnS), encS ps s = some t → t.fl = s.fl ++ flsB s.lx s.ly ps ∧ t.ax = s.ax ++ stsB s.lx (uX ps) ∧ t.ay = s.ay ++ stsB s.ly (uY ps) ∧ stsK s.lx (uX ps) ∧ stsK s.ly (uY ps) ∧ ∀ p ∈ ps, ptOk p = true := by
  intro ps
  induction ps with
  | nil =>
    intro s t h
    obtain rfl : s = t := Option.some.inj h
    simp [flsB, stsB, uX, uY, stsK]
  | cons p ps ih =>
    intro s t h
    unfold encS at h
    split at h
    · rename_i hk
      unfold encOk at hk
      rw [Bool.and_eq_true, Bool.and_eq_true] at hk
      obtain ⟨h1, h2, h3⟩ := hk
      obtain ⟨i1, i2, i3, i4, i5, i6⟩ := ih _ t h
      refine ⟨by rw [i1]; simp [encPt, flsB], by rw [i2]; simp [encPt, stsB, uX], by rw [i3]; simp [encPt, stsB, uY], ⟨h2, i4⟩, ⟨h3, i5⟩, fun q hq => ?_⟩
      rcases List.mem_cons.1 hq with e | e
      · rw [e]; exact h1
      · exact i6 q e
    · cases h
/-- What a flag says. -/
theorem flag_vals : ∀ a ∈ [(16 : Int), 18, 2, 0], ∀ b ∈ [(32 : Int), 36, 4, 0], ∀ one ∈ [(1 : Int), 2],
    let F := IntKind.u8.wrap (bits .or .i64 (if one = 1 then bits .or .i64 a 1 else a) b)
    (0 ≤ F ∧ F ≤ 255) ∧ bits .and .i64 F 8 = 0 ∧ bits .and .i64 F 2 = bits .and .i64 a 2 ∧ bits .and .i64 F 16 = bits .and .i64 a 16 ∧ bits .and .i64 F 4 = bits .and .i64 b 4 ∧ bits .and .i64 F 32 = bits .and .i64 b 32 ∧ bits .and .i64 F 1 = 2 - one ∧
    (0 ≤ bits .or .u8 F 8 ∧ bits .or .u8 F 8 ≤ 255) ∧ bits .and .i64 (bits .or .u8 F 8) 8 = 8 ∧ bits .and .i64 (bits .or .u8 F 8) 2 = bits .and .i64 a 2 ∧ bits .and .i64 (bits .or .u8 F 8) 16 = bits .and .i64 a 16 ∧ bits .and .i64 (bits .or .u8 F 8) 4 = bits .and .i64 b 4 ∧ bits .and .i64 (bits .or .u8 F 8) 32 = bits .and .i64 b 32 ∧ bits .and .i64 (bits .or .u8 F 8) 1 = 2 - one := by decide
theorem putF_2 (d : Int) : putF 2 16 d ∈ [(16 : Int), 18, 2, 0] := by
  have e : bits .or .i64 2 16 = 18 := by decide
  unfold putF; rw [e]
  repeat (first | split | simp)
theorem putF_4 (d : Int) : putF 4 32 d ∈ [(32 : Int), 36, 4, 0] := by
  have e : bits .or .i64 4 32 = 36 := by decide
  unfold putF; rw [e]
  repeat (first | split | simp)
/-- A flag of a point, or the same with the bit of those that are repeated. -/
def FlOf (k dx dy f : Int) : Prop := bits .and .i64 f 2 = bits .and .i64 (putF 2 16 dx) 2 ∧ bits .and .i64 f 16 = bits .and .i64 (putF 2 16 dx) 16 ∧ bits .and .i64 f 4 = bits .and .i64 (putF 4 32 dy) 4 ∧ bits .and .i64 f 32 = bits .and .i64 (putF 4 32 dy) 32 ∧ bits .and .i64 f 1 = 2 - k
theorem flagP_facts (k dx dy : Int) (hk : k = 1 ∨ k = 2) : (0 ≤ flagP k dx dy ∧ flagP k dx dy ≤ 255) ∧ bits .and .i64 (flagP k dx dy) 8 = 0 ∧ FlOf k dx dy (flagP k dx dy) ∧ (0 ≤ bits .or .u8 (flagP k dx dy) 8 ∧ bits .or .u8 (flagP k dx dy) 8 ≤ 255) ∧ bits .and .i64 (bits .or .u8 (flagP k dx dy) 8) 8 = 8 ∧ FlOf k dx dy (bits .or .u8 (flagP k dx dy) 8) := by
  have h := flag_vals _ (putF_2 dx) _ (putF_4 dy) k (by rcases hk with rfl | rfl <;> simp)
  dsimp only at h
  obtain ⟨h1, h2, h3, h4, h5, h6, h7, g1, g2, g3, g4, g5, g6, g7⟩ := h
  exact ⟨h1, h2, ⟨h3, h4, h5, h6, h7⟩, g1, g2, ⟨g3, g4, g5, g6, g7⟩⟩
theorem step_back (zs rest : List Int) (k : Nat) (sh sa d f : Int) (hs : (sh = 2 ∧ sa = 16) ∨ (sh = 4 ∧ sa = 32)) (hK : putK d = true) (h1 : bits .and .i64 f sh = bits .and .i64 (putF sh sa d) sh) (h2 : bits .and .i64 f sa = bits .and .i64 (putF sh sa d) sa)
    (hd : zs.drop k = putB d ++ rest) : stV zs sh sa f (k, false) = (d, (k + (putB d).length, false)) ∧ zs.drop (k + (putB d).length) = rest := by
  have hor : bits .and .i64 (bits .or .i64 sh sa) sh ≠ 0 ∧ bits .and .i64 (bits .or .i64 sh sa) sa ≠ 0 ∧ bits .and .i64 sh sh ≠ 0 ∧ bits .and .i64 sh sa = 0 ∧ bits .and .i64 sa sh = 0 ∧ bits .and .i64 sa sa ≠ 0 ∧ bits .and .i64 0 sh = 0 ∧ bits .and .i64 0 sa = 0 := by
    rcases hs with ⟨rfl, rfl⟩ | ⟨rfl, rfl⟩ <;> decide
  obtain ⟨o1, o2, o3, o4, o5, o6, o7, o8⟩ := hor
  unfold stV
  rw [h1, h2]
  by_cases c0 : d = 0
  · subst c0
    have e1 : putF sh sa 0 = sa := rfl
    have e2 : putB 0 = [] := rfl
    rw [e2] at hd ⊢
    rw [e1, if_neg (by rw [o5]; simp), if_neg o6]
    exact ⟨rfl, hd⟩
  · by_cases c1 : 0 < d ∧ d ≤ 255
    · have e1 : putF sh sa d = bits .or .i64 sh sa := by unfold putF; rw [if_neg c0, if_pos c1]
      have e2 : putB d = bytesN 1 d := by unfold putB; rw [if_neg c0, if_pos c1]; simp [bytesN]; omega
      rw [e2] at hd ⊢
      obtain ⟨r1, r2, r3⟩ := siRd zs rest k 1 d (by decide) hd
      rw [e1, if_pos o1, if_pos o2, r1, r2, siB1, bytesN_length]
      exact ⟨by rw [show d % 256 = d by omega], r3⟩
    · by_cases c2 : d < 0 ∧ -255 ≤ d
      · have e1 : putF sh sa d = sh := by unfold putF; rw [if_neg c0, if_neg c1, if_pos c2]
        have e2 : putB d = bytesN 1 (-d) := by unfold putB; rw [if_neg c0, if_neg c1, if_pos c2]; simp [bytesN]; omega
        rw [e2] at hd ⊢
        obtain ⟨r1, r2, r3⟩ := siRd zs rest k 1 (-d) (by decide) hd
        rw [e1, if_pos o3, if_neg (by rw [o4]; simp), r1, r2, siB1, bytesN_length]
        exact ⟨by rw [show -(-d % 256) = d by omega], r3⟩
      · have e1 : putF sh sa d = 0 := by unfold putF; rw [if_neg c0, if_neg c1, if_neg c2]
        have e2 : putB d = bytesN 2 d := by unfold putB; rw [if_neg c0, if_neg c1, if_neg c2]; simp [bytesN]
        have hu : unitB d = true := by unfold putK at hK; rw [if_neg c0, if_neg c1, if_neg c2] at hK; exact hK
        have hu2 : -32768 ≤ d ∧ d ≤ 32767 := by unfold unitB at hu; simpa using hu
        rw [e2] at hd ⊢
        obtain ⟨r1, r2, r3⟩ := siRd zs rest k 2 d (by decide) hd
        rw [e1, if_neg (by rw [o7]; simp), if_pos o8, r1, r2, siB2, bytesN_length]
        refine ⟨?_, r3⟩
        have : s16 (d % 65536) = d := by unfold s16; split <;> omega
        rw [this]
/-- Flags that say these steps. -/
def simX (sh sa : Int) : List Int → Int → List Int → Prop
  | [], _, [] => True
  | f :: fl, l, x :: xs => (bits .and .i64 f sh = bits .and .i64 (putF sh sa (x - l)) sh ∧ bits .and .i64 f sa = bits .and .i64 (putF sh sa (x - l)) sa) ∧ simX sh sa fl x xs
  | _, _, _ => False
theorem steps_back (zs : List Int) (sh sa : Int) (hs : (sh = 2 ∧ sa = 16) ∨ (sh = 4 ∧ sa = 32)) : ∀ (fl xs : List Int) (l : Int) (k : Nat) (acc rest : List Int), simX sh sa fl l xs → stsK l xs → (∀ x ∈ xs, unitB x = true) → zs.drop k = stsB l xs ++ rest →
    stepsR zs sh sa fl l (k, false) acc = (some (acc ++ xs), (k + (stsB l xs).length, false)) ∧ zs.drop (k + (stsB l xs).length) = rest := by
  intro fl
  induction fl with
  | nil =>
    intro xs l k acc rest h1 h2 h3 h4
    cases xs with
    | nil => exact ⟨by simp [stepsR, stsB], by simpa [stsB] using h4⟩
    | cons x xs => exact h1.elim
  | cons f fl ih =>
    intro xs l k acc rest h1 h2 h3 h4
    cases xs with
    | nil => exact h1.elim
    | cons x xs =>
      rw [stsB, List.append_assoc] at h4
      obtain ⟨r1, r2⟩ := step_back zs _ k sh sa (x - l) f hs h2.1 h1.1.1 h1.1.2 h4
      obtain ⟨i1, i2⟩ := ih xs x _ (acc ++ [x]) rest h1.2 h2.2 (fun y hy => h3 y (List.mem_cons_of_mem _ hy)) r2
      rw [stepsR, r1]
      dsimp only
      rw [show l + (x - l) = x by omega, if_pos (h3 x (List.mem_cons_self ..)), i1, stsB, List.length_append]
      refine ⟨?_, ?_⟩
      · rw [List.append_assoc, ← Nat.add_assoc]; rfl
      · rw [← Nat.add_assoc]; exact i2
/-- Flags, some with the bit of those that are repeated. -/
def simF : List Int → List Int → Prop
  | [], [] => True
  | f :: fl, c :: cs => (f = c ∨ f = bits .or .u8 c 8) ∧ simF fl cs
  | _, _ => False
theorem simF_app : ∀ (a b c d : List Int), simF a b → simF c d → simF (a ++ c) (b ++ d) := by
  intro a
  induction a with
  | nil => intro b c d h1 h2; cases b with
    | nil => exact h2
    | cons => exact h1.elim
  | cons x a ih => intro b c d h1 h2; cases b with
    | nil => exact h1.elim
    | cons y b => exact ⟨h1.1, ih b c d h1.2 h2⟩
theorem simF_rep (f c : Int) (h : f = c ∨ f = bits .or .u8 c 8) : ∀ n, simF (List.replicate n f) (List.replicate n c) := by
  intro n
  induction n with
  | zero => trivial
  | succ n ih => exact ⟨h, ih⟩
theorem cntEq_rep (x : Int) : ∀ (k : Nat) (l : List Int), l.take (cntEq x k l) = List.replicate (cntEq x k l) x := by
  intro k
  induction k with
  | zero => intro l; simp [cntEq]
  | succ k ih =>
    intro l
    cases l with
    | nil => simp [cntEq]
    | cons c cs =>
      unfold cntEq
      split
      · rename_i h; rw [List.take_succ_cons, ih cs, List.replicate_succ, h]
      · simp
theorem runLen_rep (c : Int) (cs : List Int) : c :: cs = List.replicate (runLen (c :: cs)) c ++ (c :: cs).drop (runLen (c :: cs)) := by
  conv => lhs; rw [← List.take_append_drop (runLen (c :: cs)) (c :: cs)]
  have : (c :: cs).take (runLen (c :: cs)) = List.replicate (runLen (c :: cs)) c := by
    rw [runLen, List.take_succ_cons, cntEq_rep, List.replicate_succ]
  rw [this]
/-- A flag as a point has it. -/
def FlG (c : Int) : Prop := (0 ≤ c ∧ c ≤ 255) ∧ bits .and .i64 c 8 = 0 ∧ (0 ≤ bits .or .u8 c 8 ∧ bits .or .u8 c 8 ≤ 255) ∧ bits .and .i64 (bits .or .u8 c 8) 8 = 8
theorem flags_back (zs : List Int) (n : Nat) : ∀ (g : Nat) (FL : List Int) (k : Nat) (f : Nat) (l rest : List Int), FL.length ≤ g → (∀ c ∈ FL, FlG c) → n = l.length + FL.length → FL.length < f → zs.drop k = packM g FL ++ rest →
    ∃ FM, flagsR zs n f (k, false) l = some (l ++ FM, (k + (packM g FL).length, false)) ∧ simF FM FL ∧ zs.drop (k + (packM g FL).length) = rest := by
  intro g
  induction g with
  | zero =>
    intro FL k f l rest hg hG hn hf hd
    have : FL = [] := List.eq_nil_of_length_eq_zero (by omega)
    subst this
    obtain ⟨f, rfl⟩ : ∃ f', f = f' + 1 := ⟨f - 1, by omega⟩
    refine ⟨[], ?_, trivial, by simpa [packM] using hd⟩
    rw [flagsR, if_pos (by simp at hn; omega)]
    simp [packM]
  | succ g ih =>
    intro FL k f l rest hg hG hn hf hd
    obtain ⟨f, rfl⟩ : ∃ f', f = f' + 1 := ⟨f - 1, by omega⟩
    cases FL with
    | nil =>
      refine ⟨[], ?_, trivial, by simpa [packM] using hd⟩
      rw [flagsR, if_pos (by simp at hn; omega)]
      simp [packM]
    | cons c cs =>
      obtain ⟨gb, g8, gb2, g82⟩ := hG c (List.mem_cons_self ..)
      obtain ⟨r1, r2⟩ := runLen_le (c :: cs)
      have r0 : 1 ≤ runLen (c :: cs) := by simp [runLen]
      have hrep := runLen_rep c cs
      have hmem : ∀ x ∈ (c :: cs).drop (runLen (c :: cs)), FlG x := fun x hx => hG x (List.mem_of_mem_drop hx)
      have hdl : ((c :: cs).drop (runLen (c :: cs))).length = (c :: cs).length - runLen (c :: cs) := List.length_drop
      rw [packM] at hd ⊢
      obtain ⟨R, hR⟩ : ∃ R, runLen (c :: cs) = R := ⟨_, rfl⟩
      rw [hR] at hd r1 r2 r0 hrep hmem hdl ⊢
      obtain ⟨T, hT⟩ : ∃ T, (c :: cs).drop R = T := ⟨_, rfl⟩
      rw [hT] at hd hrep hmem hdl ⊢
      have hfl : ¬ n ≤ l.length := by simp at hn; omega
      rw [flagsR, if_neg hfl]
      by_cases hc : 1 < R
      · rw [if_pos hc] at hd ⊢
        have hd' : zs.drop k = bytesN 1 (bits .or .u8 c 8) ++ (bytesN 1 ((R : Int) - 1) ++ (packM g T ++ rest)) := by
          rw [hd]; simp [bytesN]; omega
        obtain ⟨a1, a2, a3⟩ := siRd zs _ k 1 _ (by decide) hd'
        obtain ⟨b1, b2, b3⟩ := siRd zs _ (k + 1) 1 _ (by decide) a3
        have v1 : val zs 1 (k, false) = bits .or .u8 c 8 := by rw [a2, siB1]; omega
        have v2 : val zs 1 (k + 1, false) = (R : Int) - 1 := by rw [b2, siB1]; omega
        have m1 : flM zs (k, false) = (R : Int) - 1 := by unfold flM; rw [v1, if_neg (by rw [g82]; decide), a1, v2]
        have m2 : flS zs (k, false) = (k + 1 + 1, false) := by unfold flS; rw [v1, if_neg (by rw [g82]; decide), a1, b1]
        rw [m1, m2, v1, if_neg (by simp at hn r1 ⊢; omega), show ((R : Int) - 1).toNat + 1 = R by omega]
        obtain ⟨FM, i1, i2, i3⟩ := ih T (k + 1 + 1) f (l ++ List.replicate R (bits .or .u8 c 8)) rest (by simp only [List.length_cons] at hg hdl; omega) hmem (by rw [List.length_append, List.length_replicate]; simp only [List.length_cons] at hn hdl r1; omega) (by simp only [List.length_cons] at hf hdl; omega) b3
        refine ⟨List.replicate R (bits .or .u8 c 8) ++ FM, ?_, ?_, ?_⟩
        · rw [i1]; simp [List.append_assoc]; omega
        · rw [hrep]; exact simF_app _ _ _ _ (simF_rep _ _ (.inr rfl) R) i2
        · rw [List.length_append]; simp only [List.length_cons, List.length_nil]; rw [← Nat.add_assoc]; exact i3
      · rw [if_neg hc] at hd ⊢
        obtain rfl : R = 1 := by omega
        have hd' : zs.drop k = bytesN 1 c ++ (packM g T ++ rest) := by
          rw [hd]; simp [bytesN]; omega
        obtain ⟨a1, a2, a3⟩ := siRd zs _ k 1 _ (by decide) hd'
        have v1 : val zs 1 (k, false) = c := by rw [a2, siB1]; omega
        have m1 : flM zs (k, false) = 0 := by unfold flM; rw [v1, if_pos g8]
        have m2 : flS zs (k, false) = (k + 1, false) := by unfold flS; rw [v1, if_pos g8, a1]
        rw [m1, m2, v1, if_neg (by simp at hn r1 ⊢; omega), show (0 : Int).toNat + 1 = 1 from rfl]
        obtain ⟨FM, i1, i2, i3⟩ := ih T (k + 1) f (l ++ List.replicate 1 c) rest (by simp only [List.length_cons] at hg hdl; omega) hmem (by rw [List.length_append, List.length_replicate]; simp only [List.length_cons] at hn hdl r1; omega) (by simp only [List.length_cons] at hf hdl; omega) a3
        refine ⟨List.replicate 1 c ++ FM, ?_, ?_, ?_⟩
        · rw [i1]; simp [List.append_assoc]; omega
        · rw [hrep]; exact simF_app _ _ _ _ (simF_rep _ _ (.inl rfl) 1) i2
        · rw [List.length_append]; simp only [List.length_cons, List.length_nil]; rw [← Nat.add_assoc]; exact i3
/-- The bytes of the last points' numbers, from contour j on. -/
def encT (o : List (List Pn)) : Nat → Nat → List Int
  | _, 0 => []
  | j, n + 1 => bytesN 2 ((cntTo o (j + 1) : Nat) - 1 : Int) ++ encT o (j + 1) n
theorem encEnds_T (o : List (List Pn)) : ∀ n j, encEnds o j ++ encT o j n = encEnds o (j + n) := by
  intro n
  induction n with
  | zero => intro j; simp [encT]
  | succ n ih =>
    intro j
    rw [encT, ← List.append_assoc, show j + (n + 1) = (j + 1) + n by omega, ← ih (j + 1)]
    rfl
def endsL (o : List (List Pn)) (j : Nat) : List Int := (List.range j).map fun i => ((cntTo o (i + 1) : Nat) : Int) - 1
theorem endsL_len (o : List (List Pn)) (j : Nat) : (endsL o j).length = j := by simp [endsL]
theorem endsL_succ (o : List (List Pn)) (j : Nat) : endsL o (j + 1) = endsL o j ++ [((cntTo o (j + 1) : Nat) : Int) - 1] := by
  unfold endsL; rw [List.range_succ, List.map_append]; rfl
theorem endsL_at (o : List (List Pn)) (n j : Nat) (h : j < n) : (endsL o n).getD j 0 = ((cntTo o (j + 1) : Nat) : Int) - 1 := by
  unfold endsL; rw [List.getD_eq_getElem?_getD, List.getElem?_map, List.getElem?_range h]; rfl
theorem ends_back (o : List (List Pn)) (zs : List Int) (hp : ∀ i, i < o.length → 0 < (o.getD i []).length) (hc : cnt o ≤ 4096) : ∀ n j k (rest : List Int), j + n = o.length → zs.drop k = encT o j n ++ rest →
    endsR zs n (((cntTo o j : Nat) : Int) - 1) (k, false) (endsL o j) = (endsL o o.length, 0, (k + 2 * n, false)) ∧ zs.drop (k + 2 * n) = rest := by
  intro n
  induction n with
  | zero =>
    intro j k rest hj hd
    obtain rfl : j = o.length := by omega
    exact ⟨rfl, by simpa [encT] using hd⟩
  | succ n ih =>
    intro j k rest hj hd
    rw [encT, List.append_assoc] at hd
    obtain ⟨a1, a2, a3⟩ := siRd zs _ k 2 _ (by decide) hd
    have c1 := cntTo_le o (j := j + 1) (by omega)
    have c2 : cntTo o (j + 1) = cntTo o j + (o.getD j []).length := rfl
    have c3 := hp j (by omega)
    have v1 : val zs 2 (k, false) = ((cntTo o (j + 1) : Nat) : Int) - 1 := by rw [a2, siB2]; omega
    obtain ⟨i1, i2⟩ := ih (j + 1) (k + 2) rest (by omega) a3
    rw [endsR, a1, v1, if_neg (by intro h; rcases h with h | h; cases h; omega), if_neg (by omega), ← endsL_succ, i1]
    exact ⟨by rw [show k + 2 + 2 * n = k + 2 * (n + 1) by omega], by rw [show k + 2 * (n + 1) = k + 2 + 2 * n by omega]; exact i2⟩
/-- The way through a glyph's bytes that are read to their end. -/
structure DecB (zs : List Int) (N : Nat) (es fl xs ys : List Int) (k1 k2 e : Nat) : Prop where
  n0 : N ≤ 256
  h2 : stp zs 2 (0, false) = (2, false)
  hN : s16 (val zs 2 (0, false)) = N
  h8 : stp zs 8 (2, false) = (10, false)
  hE : endsR zs N (-1) (10, false) [] = (es, 0, (10 + 2 * N, false))
  hI : stp zs 2 (10 + 2 * N, false) = (12 + 2 * N, false)
  hI2 : val zs 2 (10 + 2 * N, false) = 0
  hI3 : stp zs 0 (12 + 2 * N, false) = (12 + 2 * N, false)
  hF : flagsR zs (fromE es es.length) (fromE es es.length + 1) (12 + 2 * N, false) [] = some (fl, (k1, false))
  hX : stepsR zs 2 16 fl 0 (k1, false) [] = (some xs, (k2, false))
  hY : stepsR zs 4 32 fl 0 (k2, false) [] = (some ys, (e, false))
theorem DecB.dec {zs : List Int} {N : Nat} {es fl xs ys : List Int} {k1 k2 e : Nat} (h : DecB zs N es fl xs ys k1 k2 e) : decS zs = (contsE (ptsOf fl xs ys) es, 0) := by
  have h0 : ¬ zs.length = 0 := by
    intro e0
    have := h.h2
    simp [stp, rdK, rdB, e0] at this
  unfold decS
  rw [if_neg h0, h.h2, h.hN, if_neg (by intro h; rcases h with h | h; cases h; omega), if_neg (by have := h.n0; omega), h.h8, show ((N : Int)).toNat = N by omega, h.hE]
  unfold decE
  dsimp only
  rw [if_neg (by simp), h.hI, h.hI2, show (0 : Int).toNat = 0 from rfl, h.hI3]
  unfold decF
  rw [if_neg (by simp), h.hF]
  dsimp only
  unfold decG
  rw [h.hX]
  dsimp only
  rw [h.hY]
  simp [okT]
end Go.Proofs.YtafkhnlmipddmaaGreat
namespace Go.Proofs.YtafkhnlmipddmaaGreat
open Go.RowKit
set_option linter.unusedVariables false
set_option linter.unusedSimpArgs false
theorem sim_pts : ∀ (ps : List Pn) (lx ly : Int) (FM : List Int), (∀ p ∈ ps, p.k = 1 ∨ p.k = 2) → simF FM (flsB lx ly ps) → simX 2 16 FM lx (uX ps) ∧ simX 4 32 FM ly (uY ps) ∧ (∀ i, i < ps.length → bits .and .i64 (FM.getD i 0) 1 = 2 - (ps.getD i pn0).k) ∧ FM.length = ps.length := by
  intro ps
  induction ps with
  | nil =>
    intro lx ly FM hk h
    cases FM with
    | nil => exact ⟨trivial, trivial, fun i hi => by simp at hi, rfl⟩
    | cons => exact h.elim
  | cons p ps ih =>
    intro lx ly FM hk h
    cases FM with
    | nil => exact h.elim
    | cons f FM =>
      obtain ⟨h1, h2⟩ := h
      obtain ⟨i1, i2, i3, i4⟩ := ih _ _ FM (fun q hq => hk q (List.mem_cons_of_mem _ hq)) h2
      obtain ⟨_, _, g1, _, _, g2⟩ := flagP_facts p.k (p.x.tdiv 65536 - lx) (p.y.tdiv 65536 - ly) (hk p (List.mem_cons_self ..))
      have g : FlOf p.k (p.x.tdiv 65536 - lx) (p.y.tdiv 65536 - ly) f := by rcases h1 with rfl | rfl; exact g1; exact g2
      refine ⟨⟨⟨g.1, g.2.1⟩, i1⟩, ⟨⟨g.2.2.1, g.2.2.2.1⟩, i2⟩, fun i hi => ?_, by simp [i4]⟩
      cases i with
      | zero => exact g.2.2.2.2
      | succ i => exact i3 i (by simpa using hi)
theorem fls_good : ∀ (ps : List Pn) (lx ly : Int), (∀ p ∈ ps, p.k = 1 ∨ p.k = 2) → ∀ c ∈ flsB lx ly ps, FlG c := by
  intro ps
  induction ps with
  | nil => intro lx ly _ c hc; cases hc
  | cons p ps ih =>
    intro lx ly hk c hc
    obtain ⟨a1, a2, _, a3, a4, _⟩ := flagP_facts p.k (p.x.tdiv 65536 - lx) (p.y.tdiv 65536 - ly) (hk p (List.mem_cons_self ..))
    rcases List.mem_cons.1 hc with rfl | h
    · exact ⟨a1, a2, a3, a4⟩
    · exact ih _ _ (fun q hq => hk q (List.mem_cons_of_mem _ hq)) c h
theorem pts_ext (a b : List Pn) (hl : a.length = b.length) (h : ∀ i, i < a.length → a.getD i pn0 = b.getD i pn0) : a = b := by
  refine List.ext_getElem hl fun i h1 h2 => ?_
  have := h i h1
  rwa [List.getD_eq_getElem?_getD, List.getD_eq_getElem?_getD, List.getElem?_eq_getElem h1, List.getElem?_eq_getElem h2] at this
theorem unit_back {x : Int} (h : unitsB x = true) : x.tdiv 65536 * 65536 = x ∧ unitB (x.tdiv 65536) = true := by
  unfold unitsB at h
  rw [Bool.and_eq_true, decide_eq_true_eq] at h
  have := Int.mul_tdiv_add_tmod x 65536
  exact ⟨by omega, h.2⟩
theorem pts_back (ps : List Pn) (FM : List Int) (hk : ∀ p ∈ ps, p.k = 1 ∨ p.k = 2) (hu : ∀ p ∈ ps, unitsB p.x = true ∧ unitsB p.y = true) (hl : FM.length = ps.length) (hf : ∀ i, i < ps.length → bits .and .i64 (FM.getD i 0) 1 = 2 - (ps.getD i pn0).k) : ptsOf FM (uX ps) (uY ps) = ps := by
  refine pts_ext _ _ (by rw [ptsOf_len]; exact hl) fun i hi => ?_
  rw [ptsOf_len] at hi
  rw [ptsOf_at _ _ _ i hi]
  have hi2 : i < ps.length := by omega
  have e1 : (uX ps).getD i 0 = (ps.getD i pn0).x.tdiv 65536 := by
    unfold uX; rw [List.getD_eq_getElem?_getD, List.getElem?_map, List.getD_eq_getElem?_getD, List.getElem?_eq_getElem hi2]; rfl
  have e2 : (uY ps).getD i 0 = (ps.getD i pn0).y.tdiv 65536 := by
    unfold uY; rw [List.getD_eq_getElem?_getD, List.getElem?_map, List.getD_eq_getElem?_getD, List.getElem?_eq_getElem hi2]; rfl
  have hm : ps.getD i pn0 ∈ ps := by rw [List.getD_eq_getElem?_getD, List.getElem?_eq_getElem hi2]; exact List.getElem_mem hi2
  rw [e1, e2]
  unfold pnF
  rw [hf i hi2, (unit_back (hu _ hm).1).1, (unit_back (hu _ hm).2).1]
  generalize ps.getD i pn0 = p at *
  obtain ⟨x, y, k⟩ := p
  rcases hk _ hm with h | h
  · dsimp only at h; subst h; rfl
  · dsimp only at h; subst h; rfl
theorem fromE_ends (o : List (List Pn)) (hp : ∀ i, i < o.length → 0 < (o.getD i []).length) : ∀ j, j ≤ o.length → fromE (endsL o o.length) j = cntTo o j := by
  intro j hj
  cases j with
  | zero => rfl
  | succ j =>
    show ((endsL o o.length).getD j 0).toNat + 1 = _
    rw [endsL_at o _ j (by omega)]
    have := hp j (by omega)
    have c2 : cntTo o (j + 1) = cntTo o j + (o.getD j []).length := rfl
    omega
theorem flat_rest (o : List (List Pn)) (j : Nat) (h : j < o.length) : flatTo o o.length = flatTo o j ++ (o.getD j [] ++ restF o (j + 1)) := by
  rw [← restF_at o j h]
  unfold flatTo restF
  rw [← List.flatten_append, List.take_append_drop, List.take_length]
theorem conts_back (o : List (List Pn)) (hp : ∀ i, i < o.length → 0 < (o.getD i []).length) : contsE (flatTo o o.length) (endsL o o.length) = o := by
  refine List.ext_getElem (by rw [contsE_len, endsL_len]) fun j h1 h2 => ?_
  simp only [contsE, List.getElem_map, List.getElem_range]
  rw [fromE_ends o hp j (by omega), fromE_ends o hp (j + 1) (by omega), flat_rest o j h2]
  have c2 : cntTo o (j + 1) = cntTo o j + (o.getD j []).length := rfl
  rw [← flatTo_len o j (by omega), List.drop_left, c2, ← flatTo_len o j (by omega), Nat.add_sub_cancel_left, List.take_left]
  rw [List.getD_eq_getElem?_getD, List.getElem?_eq_getElem h2]; rfl
theorem restF_zero (o : List (List Pn)) : restF o 0 = flatTo o o.length := by
  unfold restF flatTo; rw [List.drop_zero, List.take_length]
set_option maxRecDepth 4000 in
theorem enc_back (o : List (List Pn)) (b : Bx) (t : EnS) (behind : List Int) (hE : checkO o = 0) (h0 : o ≠ []) (hR : encS (restF o 0) en0 = some t) :
    ∃ es fl xs ys k1 k2, DecB (encB o b t ++ behind) o.length es fl xs ys k1 k2 (encB o b t).length ∧ contsE (ptsOf fl xs ys) es = o := by
  obtain ⟨hz1, hz2, hz3⟩ := checkO_zero hE
  have hp : ∀ i, i < o.length → 0 < (o.getD i []).length := fun i hi => (mayCo_facts (hz3 i hi)).1
  have hkk : ∀ p ∈ restF o 0, p.k = 1 ∨ p.k = 2 ∨ p.k = 3 := by
    intro p hp
    unfold restF at hp
    rw [List.drop_zero, List.mem_flatten] at hp
    obtain ⟨c, hc, hpc⟩ := hp
    obtain ⟨i, hi, rfl⟩ := List.mem_iff_getElem.1 hc
    obtain ⟨m, hm, rfl⟩ := List.mem_iff_getElem.1 hpc
    have h := hz3 i hi
    rw [List.getD_eq_getElem?_getD, List.getElem?_eq_getElem hi] at h
    have h2 := (mayCo_facts h).2.2 m hm
    unfold mayPn at h2
    simp only [Option.getD_some, List.getD_eq_getElem?_getD, List.getElem?_eq_getElem hm, Bool.and_eq_true, Bool.or_eq_true, beq_iff_eq] at h2
    rcases h2.2.2 with h3 | h3 | h3
    · exact .inl h3
    · exact .inr (.inl h3)
    · exact .inr (.inr h3.1)
  obtain ⟨f1, f2, f3, f4, f5, f6⟩ := encS_facts _ _ _ hR
  have hfl := restF_zero o
  have hcnt := flatTo_len o o.length (Nat.le_refl _)
  rw [hfl] at f1 f2 f3 f4 f5 f6 hkk
  have hps := conts_back o hp
  have hfe := fromE_ends o hp o.length (Nat.le_refl _)
  obtain ⟨ps, hpsd⟩ : ∃ ps, flatTo o o.length = ps := ⟨_, rfl⟩
  rw [hpsd] at f1 f2 f3 f4 f5 f6 hkk hcnt hps
  have hk : ∀ p ∈ ps, p.k = 1 ∨ p.k = 2 := by
    intro p hpm
    have h1 := f6 p hpm
    unfold ptOk at h1
    simp only [Bool.and_eq_true, Bool.not_eq_true', decide_eq_false_iff_not] at h1
    rcases hkk p hpm with h | h | h
    · exact .inl h
    · exact .inr h
    · exact absurd h h1.2.2
  have hu : ∀ p ∈ ps, unitsB p.x = true ∧ unitsB p.y = true := by
    intro p hpm
    have h1 := f6 p hpm
    unfold ptOk at h1
    simp only [Bool.and_eq_true] at h1
    exact ⟨h1.1, h1.2.1⟩
  have e1 : t.fl = flsB 0 0 ps := by rw [f1]; rfl
  have e2 : t.ax = stsB 0 (uX ps) := by rw [f2]; rfl
  have e3 : t.ay = stsB 0 (uY ps) := by rw [f3]; rfl
  have f4 : stsK 0 (uX ps) := f4
  have f5 : stsK 0 (uY ps) := f5
  have hN0 : 0 < o.length := List.length_pos_iff.2 h0
  obtain ⟨N, hN⟩ : ∃ N, o.length = N := ⟨_, rfl⟩
  obtain ⟨zs, hzs⟩ : ∃ zs, encB o b t ++ behind = zs := ⟨_, rfl⟩
  have d0 : zs.drop 0 = bytesN 2 (N : Int) ++ (bytesN 2 (b.x0.tdiv 65536) ++ (bytesN 2 (b.y0.tdiv 65536) ++ (bytesN 2 (b.x1.tdiv 65536) ++ (bytesN 2 (b.y1.tdiv 65536) ++ (encEnds o N ++ (bytesN 2 0 ++ (packM t.fl.length t.fl ++ (t.ax ++ (t.ay ++ behind))))))))) := by
    rw [List.drop_zero, ← hzs]
    unfold encB encTop
    rw [hN]
    simp only [List.append_assoc, List.nil_append]
  obtain ⟨a1, a2, a3⟩ := siRd zs _ 0 2 _ (by decide) d0
  obtain ⟨_, _, b3⟩ := siRd zs _ _ 2 _ (by decide) a3
  obtain ⟨_, _, c3⟩ := siRd zs _ _ 2 _ (by decide) b3
  obtain ⟨_, _, g3⟩ := siRd zs _ _ 2 _ (by decide) c3
  obtain ⟨q1, _, h3⟩ := siRd zs _ _ 2 _ (by decide) g3
  have h3' : zs.drop 10 = encT o 0 N ++ (bytesN 2 0 ++ (packM t.fl.length t.fl ++ (t.ax ++ (t.ay ++ behind)))) := by
    have h := encEnds_T o N 0
    rw [Nat.zero_add] at h
    rw [← h] at h3
    simpa [encEnds] using h3
  obtain ⟨i1, i2⟩ := ends_back o zs hp hz2 N 0 10 _ (by omega) h3'
  obtain ⟨j1, j2, j3⟩ := siRd zs _ _ 2 _ (by decide) i2
  have hlen : (packM t.fl.length t.fl).length + 12 + 2 * N ≤ zs.length := by
    rw [← hzs]; unfold encB; rw [hN]; simp only [List.length_append, encTop_len, encEnds_len, bytesN_length]; omega
  have flc : t.fl.length = cntTo o N := by rw [e1, flsB_len, hcnt, hN]
  rw [hN] at hfe
  obtain ⟨FM, m1, m2, m3⟩ := flags_back zs (cntTo o N) t.fl.length t.fl (10 + 2 * N + 2) (cntTo o N + 1) [] _ (Nat.le_refl _) (by rw [e1]; exact fls_good ps 0 0 hk) (by simp [flc]) (by omega) j3
  rw [e1] at m2
  obtain ⟨s1, s2, s3, s4⟩ := sim_pts ps 0 0 FM hk m2
  have ux : ∀ x ∈ uX ps, unitB x = true := by
    intro x hx
    obtain ⟨p, hpm, rfl⟩ := List.mem_map.1 hx
    exact (unit_back (hu p hpm).1).2
  have uy : ∀ x ∈ uY ps, unitB x = true := by
    intro x hx
    obtain ⟨p, hpm, rfl⟩ := List.mem_map.1 hx
    exact (unit_back (hu p hpm).2).2
  rw [e2, e3] at m3
  obtain ⟨n1, n2⟩ := steps_back zs 2 16 (.inl ⟨rfl, rfl⟩) FM (uX ps) 0 _ [] _ s1 f4 ux m3
  obtain ⟨n3, n4⟩ := steps_back zs 4 32 (.inr ⟨rfl, rfl⟩) FM (uY ps) 0 _ [] _ s2 f5 uy n2
  refine ⟨endsL o N, FM, uX ps, uY ps, 10 + 2 * N + 2 + (packM t.fl.length t.fl).length, 10 + 2 * N + 2 + (packM t.fl.length t.fl).length + (stsB 0 (uX ps)).length, ?_, ?_⟩
  · have hel : (endsL o N).length = N := endsL_len o N
    have hL : (encB o b t).length = 10 + 2 * N + 2 + (packM t.fl.length t.fl).length + (stsB 0 (uX ps)).length + (stsB 0 (uY ps)).length := by
      unfold encB; rw [hN, e2, e3]; simp only [List.length_append, encTop_len, encEnds_len, bytesN_length]
    rw [hL, hzs, hN]
    refine ⟨by omega, a1, ?_, ?_, ?_, ?_, ?_, ?_, ?_, n1, n3⟩
    · rw [a2, siB2]; unfold s16; split <;> omega
    · have hb : rdB zs 2 false 8 = false := by unfold rdB; simp; omega
      unfold stp rdK; dsimp only; rw [hb]; rfl
    · rw [hN] at i1; exact i1
    · rw [show 12 + 2 * N = 10 + 2 * N + 2 by omega]; exact j1
    · rw [j2, siB2]; rfl
    · have hb : rdB zs (12 + 2 * N) false 0 = false := by unfold rdB; simp; omega
      unfold stp rdK; dsimp only; rw [hb]; rfl
    · rw [hel]
      rw [hfe, show 12 + 2 * N = 10 + 2 * N + 2 by omega]
      exact m1
  · rw [pts_back ps FM hk hu s4 s3, ← hN]; exact hps
end Go.Proofs.YtafkhnlmipddmaaGreat
namespace Go.Proofs.YtafkhnlmipddmaaGreat
open Go.RowKit
set_option linter.unusedVariables false
set_option linter.unusedSimpArgs false
set_option maxRecDepth 100000 in
theorem runit_calls (x : Int) (h0 : -9223372036854775808 ≤ x) (h1 : x ≤ 9223372036854775807) (w : World) : Calls Tryz.prog 25 #[.int .i64 x] w fun e w' => e = .returned (.bool (unitsB x)) ∧ w = w' := by
  have HB := Lib.hid (tdiv_small x h0 h1)
  by_cases hm : x.tmod 65536 = 0
  · have hm2 : (x.tmod 65536 == 0) = true := by simp [hm]
    by_cases hg : -32768 ≤ x.tdiv 65536
    · have hg2 : decide (-32768 ≤ x.tdiv 65536) = true := decide_eq_true hg
      by_cases hl : x.tdiv 65536 < 32768
      · have hl2 : decide (x.tdiv 65536 < 32768) = true := decide_eq_true hl
        have HE : Hid (unitsB x = true) := by show _ = _; unfold unitsB unitB; rw [decide_eq_true hm, hg2, decide_eq_true (by omega : x.tdiv 65536 ≤ 32767)]; rfl
        rw [HE.out]
        clear hm hg hl HE
        go_enter Tryz.func25, Tryz.ntmps25
        go_wp2_with fail
        go_ret
        exact ⟨rfl, rfl⟩
      · have hl2 : decide (x.tdiv 65536 < 32768) = false := decide_eq_false hl
        have HE : Hid (unitsB x = false) := by show _ = _; unfold unitsB unitB; rw [decide_eq_true hm, hg2, decide_eq_false (by omega : ¬ x.tdiv 65536 ≤ 32767)]; rfl
        rw [HE.out]
        clear hm hg hl HE
        go_enter Tryz.func25, Tryz.ntmps25
        go_wp2_with fail
        go_ret
        exact ⟨rfl, rfl⟩
    · have hg2 : decide (-32768 ≤ x.tdiv 65536) = false := decide_eq_false hg
      have HE : Hid (unitsB x = false) := by show _ = _; unfold unitsB unitB; rw [decide_eq_true hm, hg2]; rfl
      rw [HE.out]
      clear hm hg HE
      go_enter Tryz.func25, Tryz.ntmps25
      go_wp2_with fail
      go_ret
      exact ⟨rfl, rfl⟩
  · have hm2 : (x.tmod 65536 == 0) = false := by simp [hm]
    have HE : Hid (unitsB x = false) := by show _ = _; unfold unitsB; rw [decide_eq_false hm]; rfl
    rw [HE.out]
    clear hm HE
    go_enter Tryz.func25, Tryz.ntmps25
    go_wp2_with fail
    go_ret
    exact ⟨rfl, rfl⟩
/-- What step leaves. -/
def StpP (w : World) (sh sa d : Int) (e : Ending) (w' : World) : Prop :=
  ∃ v', e = .returned (.tuple #[.int .i64 (putF sh sa d), v', .bool (putK d)]) ∧ IsInts .u8 w' v' (putB d) ∧ Kp [] w w' ∧ ∀ k, blockOf v' = some k → w.heap.size ≤ k
set_option maxRecDepth 100000 in
set_option maxHeartbeats 2000000 in
theorem rstep_calls (sh sa d : Int) (h0 : -9223372036854775808 < d) (h1 : d ≤ 9223372036854775807) (w : World) : Calls Tryz.prog 26 #[.int .i64 d, .int .i64 sh, .int .i64 sa] w (StpP w sh sa d) := by
  by_cases c0 : d = 0
  · subst c0
    go_enter Tryz.func26, Tryz.ntmps26
    go_wp2_with fail
    go_ret3
    exact ⟨_, rfl, IsInts.nil _ _, Kp.refl _ _, by simp⟩
  · have hz : (d == 0) = false := by simp [c0]
    by_cases c1 : 0 < d ∧ d ≤ 255
    · have HE : Hid (putF sh sa d = bits .or .i64 sh sa ∧ putK d = true ∧ putB d = [d]) := by
        show _ ∧ _ ∧ _; unfold putF putK putB; rw [if_neg c0, if_neg c0, if_neg c0, if_pos c1, if_pos c1, if_pos c1]; exact ⟨rfl, rfl, rfl⟩
      obtain ⟨c2, c3⟩ := c1
      have hd1 : decide (0 < d) = true := decide_eq_true c2
      have hd2 : decide (d < 256) = true := decide_eq_true (by omega)
      have hw : IntKind.u8.wrap d = d := by rw [byte_wrap]; omega
      go_enter Tryz.func26, Tryz.ntmps26
      go_wp2_with fail
      go_ret3
      unfold StpP
      obtain ⟨e1, e2, e3⟩ := HE.out
      rw [e1, e2, e3]
      exact ⟨_, rfl, IsInts.litT .u8 5 [d] (w := w) (Kp.refl _ _) _ _ rfl rfl (by decide), (Kp.refl _ _).alloc _, by intro b hb; simp at hb; omega⟩
    · by_cases c2 : d < 0 ∧ -255 ≤ d
      · have HE : Hid (putF sh sa d = sh ∧ putK d = true ∧ putB d = [-d]) := by
          show _ ∧ _ ∧ _; unfold putF putK putB; rw [if_neg c0, if_neg c0, if_neg c0, if_neg c1, if_neg c1, if_neg c1, if_pos c2, if_pos c2, if_pos c2]; exact ⟨rfl, rfl, rfl⟩
        obtain ⟨c3, c4⟩ := c2
        have hd0 : decide (0 < d) = false := decide_eq_false (by omega)
        have hd1 : decide (d < 0) = true := decide_eq_true c3
        have hd2 : decide (-256 < d) = true := decide_eq_true (by omega)
        have hw : IntKind.u8.wrap (-d) = -d := by rw [byte_wrap]; omega
        clear c1
        go_enter Tryz.func26, Tryz.ntmps26
        go_wp2_with fail
        go_ret3
        unfold StpP
        obtain ⟨e1, e2, e3⟩ := HE.out
        rw [e1, e2, e3]
        exact ⟨_, rfl, IsInts.litT .u8 5 [-d] (w := w) (Kp.refl _ _) _ _ rfl rfl (by decide), (Kp.refl _ _).alloc _, by intro b hb; simp at hb; omega⟩
      · have HE : Hid (putF sh sa d = 0 ∧ putK d = unitB d ∧ putB d = bytesN 2 d) := by
          show _ ∧ _ ∧ _; unfold putF putK putB; rw [if_neg c0, if_neg c0, if_neg c0, if_neg c1, if_neg c1, if_neg c1, if_neg c2, if_neg c2, if_neg c2]; exact ⟨rfl, rfl, by simp [bytesN]⟩
        have HU : Hid (unitB d = (decide (-32768 ≤ d) && decide (d < 32768))) := by
          show _ = _; unfold unitB; congr 1; rw [decide_eq_decide]; omega
        have HR := Lib.hid (fun W => rbytes_calls 2 d (by decide) (by decide) (by omega) h1 W)
        have hcs : (decide (0 < d) = true ∧ decide (d < 256) = false ∧ decide (d < 0) = false ∧ decide (-32768 ≤ d) = true) ∨ (decide (0 < d) = false ∧ decide (d < 0) = true ∧ decide (-256 < d) = false ∧ decide (d < 32768) = true) := by
          by_cases h : 0 < d
          · exact .inl ⟨decide_eq_true h, decide_eq_false (by omega), decide_eq_false (by omega), decide_eq_true (by omega)⟩
          · exact .inr ⟨decide_eq_false h, decide_eq_true (by omega), decide_eq_false (by omega), decide_eq_true (by omega)⟩
        clear c1 c2
        rcases hcs with ⟨k1, k2, k3, k4⟩ | ⟨k1, k2, k3, k4⟩
        · obtain ⟨B, hB⟩ : ∃ B, decide (d < 32768) = B := ⟨_, rfl⟩
          rw [hB, k4] at HU
          go_enter Tryz.func26, Tryz.ntmps26
          go_wp2_with fail
          refine (HR.out _).mono ?_; rintro e w2 ⟨v, rfl, hown, hk⟩
          have HK := Lib.hid hk
          have HI := Lib.hid (IsInts.owned hown)
          have HG : Hid (∀ k, blockOf v = some k → w.heap.size ≤ k) := fun k hk => by have := own_ge hown k (blockOf_own hk); simpa using this
          clear hown hk HR
          go_wp2_with fail
          go_ret3
          unfold StpP
          obtain ⟨e1, e2, e3⟩ := HE.out
          rw [e1, e2, e3, HU.out]
          exact ⟨_, by first | rfl | simp, HI.out, Kp.trans (by (repeat (first | exact Kp.refl _ _ | assumption | refine Kp.drew ?_ | refine Kp.drewN ?_ _ | refine Kp.alloc ?_ _ | (refine Kp.setCell ?_ (by first | (left; simp; done) | (right; simp; try omega)) _) | (refine Kp.trans' ?_ (by assumption) (by simp; try omega))))) HK.out, HG.out⟩
        · obtain ⟨B, hB⟩ : ∃ B, decide (-32768 ≤ d) = B := ⟨_, rfl⟩
          rw [hB, k4] at HU
          cases B
          all_goals
            go_enter Tryz.func26, Tryz.ntmps26
            go_wp2_with fail
            refine (HR.out _).mono ?_; rintro e w2 ⟨v, rfl, hown, hk⟩
            have HK := Lib.hid hk
            have HI := Lib.hid (IsInts.owned hown)
            have HG : Hid (∀ k, blockOf v = some k → w.heap.size ≤ k) := fun k hk => by have := own_ge hown k (blockOf_own hk); simpa using this
            clear hown hk HR
            go_wp2_with fail
            go_ret3
            unfold StpP
            obtain ⟨e1, e2, e3⟩ := HE.out
            rw [e1, e2, e3, HU.out]
            exact ⟨_, by first | rfl | simp, HI.out, Kp.trans (by (repeat (first | exact Kp.refl _ _ | assumption | refine Kp.drew ?_ | refine Kp.drewN ?_ _ | refine Kp.alloc ?_ _ | (refine Kp.setCell ?_ (by first | (left; simp; done) | (right; simp; try omega)) _) | (refine Kp.trans' ?_ (by assumption) (by simp; try omega))))) HK.out, HG.out⟩
section
variable {P : Program} {w : World} {ops : Array Oper} {rest : List Oper} {o : Oper} {a : Act} {Q : Exit → Act → World → Prop}
/-- Appending whatever integers; where the new row lies. -/
theorem wpList_appM (hgd : o.guard = none) (s x : Operand) (T E : TypeId) (k : IntKind) (bytes : Nat) (ht : P.underlying T = some (.slice E)) (hinfo : (P.info? E).map (fun i => (i.zero, i.size, i.bytes)) = some (some (.int k 0), 1, bytes)) (hb1 : 1 ≤ bytes)
    (ho : o.op = .call { callee := .builtin .append, args := #[s, x], argTypes := #[T, T] }) (base : Nat) (v : Value) (l : List Int) (n : Nat) (hn : l.length = n) (hs : a.eval s = v) (hown : w.ownsRow base E 1 v n (l.map (Value.int k)))
    (xv : Value) (zs : List Int) (hx : a.eval x = xv) (hsrc : IsInts k w xv zs) (hl : (n + zs.length) * bytes ≤ 140737488355328) (hbase : base ≤ w.heap.size)
    (h : ∀ v' w', w'.ownsRow base E 1 v' (n + zs.length) ((l ++ zs).map (Value.int k)) → Kp v.ownBlock.toList w w' → (∀ k, v'.ownBlock = some k → v.ownBlock = some k ∨ w.heap.size ≤ k) → wpList P ops Q rest (a.put o.dst v') w') : wpList P ops Q (o :: rest) a w := by
  obtain ⟨i, hi, hz, hsize, hby⟩ := info_parts hinfo
  by_cases h0 : zs.length = 0
  · obtain rfl : zs = [] := List.length_eq_zero_iff.1 h0
    obtain ⟨p, c, rfl⟩ := hsrc.form
    refine wpList_append_nothing hgd s x T ho base E i 1 ht hi v n _ hs hown p c hx ?_
    exact h v w (by simpa using hown) (Kp.refl _ _) (fun k hk => .inl hk)
  · have h63 : n + zs.length ≤ maxLen := by
      have := Nat.le_mul_of_pos_right (n + zs.length) hb1
      simp only [maxLen]; omega
    rcases hsrc with ⟨⟨ad, rfl⟩, rfl⟩ | ⟨g, off, c, rfl, h2, h3, h4⟩
    · exact absurd rfl h0
    · refine wpList_append_lies w hgd s x T ho base E i (.int k 0) 1 bytes ht hi hz hsize hby rfl (by decide) v n (l.map (Value.int k)) hs hown ⟨g, off, none⟩ zs.length c (zs.map (Value.int k)) hx (by simp) (fun j u hu => ?_) (oneCell_ints _ _) (by omega) h63 hl hbase w.heap.size rfl ?_
      · rw [add_lit]
        rw [List.getElem?_map] at hu
        by_cases hj : j < zs.length
        · rw [List.getElem?_eq_getElem hj] at hu
          rw [h4 j hj, List.getD_eq_getElem?_getD, List.getElem?_eq_getElem hj]
          simpa using hu
        · rw [List.getElem?_eq_none (by omega)] at hu; simp at hu
      · intro g c w' r1 r2 r3 _
        refine h _ w' (by rw [List.map_append]; exact r1) (Kp.grown (Kp.refl _ _) r2 (fun k hk => .inl (by rw [hk]; simp))) (fun k hk => ?_)
        have : g = k := by simpa [Value.ownBlock] using hk
        subst this
        rcases r3 with r3 | r3
        · exact .inl r3
        · exact .inr (by rw [r3]; exact Nat.le_refl _)
end
/-- Three rows of bytes, no two in one block. -/
def ThR (W : World) (H : Nat) (f vx vy : Value) (F X Y : List Int) : Prop :=
  W.ownsRow H 5 1 f F.length (F.map (Value.int .u8)) ∧ W.ownsRow H 5 1 vx X.length (X.map (Value.int .u8)) ∧ W.ownsRow H 5 1 vy Y.length (Y.map (Value.int .u8)) ∧
    (∀ k, f.ownBlock = some k → vx.ownBlock ≠ some k ∧ vy.ownBlock ≠ some k) ∧ ∀ k, vx.ownBlock = some k → vy.ownBlock ≠ some k
theorem ThR.nil (W : World) (H : Nat) : ThR W H (.slice none 0 0) (.slice none 0 0) (.slice none 0 0) [] [] [] :=
  ⟨World.ownsRow_nil _ _ _ _, World.ownsRow_nil _ _ _ _, World.ownsRow_nil _ _ _ _, by simp [Value.ownBlock], by simp [Value.ownBlock]⟩
theorem ThR.kp0 {W W' : World} {H : Nat} {f vx vy : Value} {F X Y : List Int} (h : ThR W H f vx vy F X Y) (hk : Kp [] W W') : ThR W' H f vx vy F X Y :=
  ⟨hk.row h.1 (by simp), hk.row h.2.1 (by simp), hk.row h.2.2.1 (by simp), h.2.2.2⟩
theorem ThR.rot {W : World} {H : Nat} {f vx vy : Value} {F X Y : List Int} (h : ThR W H f vx vy F X Y) : ThR W H vx vy f X Y F :=
  ⟨h.2.1, h.2.2.1, h.1, fun k hk => ⟨h.2.2.2.2 k hk, fun e => (h.2.2.2.1 k e).1 hk⟩, fun k hk e => (h.2.2.2.1 k e).2 hk⟩
theorem ThR.push {W W' : World} {H n : Nat} {f f' vx vy : Value} {F X Y N : List Int} (h : ThR W H f vx vy F X Y) (hn : (F ++ N).length = n) (hown : W'.ownsRow H 5 1 f' n ((F ++ N).map (Value.int .u8)))
    (hk : Kp f.ownBlock.toList W W') (hb : ∀ k, f'.ownBlock = some k → f.ownBlock = some k ∨ W.heap.size ≤ k) : ThR W' H f' vx vy (F ++ N) X Y := by
  obtain ⟨h1, h2, h3, h4, h5⟩ := h
  have hT : ∀ t ∈ f.ownBlock.toList, f.ownBlock = some t := fun t ht => by simpa using ht
  refine ⟨by rw [hn]; exact hown, hk.row h2 (fun t ht e => (h4 t (hT t ht)).1 e), hk.row h3 (fun t ht e => (h4 t (hT t ht)).2 e), fun k hk' => ⟨fun e => ?_, fun e => ?_⟩, h5⟩
  · have hlt := (h2.lt k e).2
    rcases hb k hk' with h | h
    · exact (h4 k h).1 e
    · omega
  · have hlt := (h3.lt k e).2
    rcases hb k hk' with h | h
    · exact (h4 k h).2 e
    · omega
end Go.Proofs.YtafkhnlmipddmaaGreat
namespace Go.Proofs.YtafkhnlmipddmaaGreat
open Go.RowKit
set_option linter.unusedVariables false
set_option linter.unusedSimpArgs false
theorem ThR.kpr {W W' : World} {H r : Nat} {f vx vy : Value} {F X Y : List Int} (h : ThR W H f vx vy F X Y) (hk : Kp [r] W W') (hr : r < H) : ThR W' H f vx vy F X Y := by
  have key : ∀ {v : Value} {n : Nat} {xs : List Value}, W.ownsRow H 5 1 v n xs → W'.ownsRow H 5 1 v n xs := fun ho => hk.row ho (fun t ht e => by simp at ht; subst ht; have := own_ge ho _ e; omega)
  exact ⟨key h.1, key h.2.1, key h.2.2.1, h.2.2.2⟩
theorem kpFresh {w W W' : World} {r : Nat} (h : Kp [] w W) (hk : Kp [r] W W') (hr : w.heap.size ≤ r) : Kp [] w W' := h.trans' hk (fun t ht => by simp at ht; subst ht; exact .inr hr)
theorem flag_same : ∀ a ∈ [(16 : Int), 18, 2, 0], ∀ b ∈ [(32 : Int), 36, 4, 0], ∀ k ∈ [(1 : Int), 2], IntKind.u8.wrap (bits .or .i64 (bits .or .i64 a b) (bits .and .i64 k 1)) = IntKind.u8.wrap (bits .or .i64 (if k = 1 then bits .or .i64 a 1 else a) b) := by decide
theorem putF2_mem (d : Int) : putF 2 16 d ∈ [(16 : Int), 18, 2, 0] := by
  have e : bits .or .i64 2 16 = 18 := by decide
  unfold putF; rw [e]
  repeat (first | split | simp)
theorem putF4_mem (d : Int) : putF 4 32 d ∈ [(32 : Int), 36, 4, 0] := by
  have e : bits .or .i64 4 32 = 36 := by decide
  unfold putF; rw [e]
  repeat (first | split | simp)
theorem flagP_ref (k dx dy : Int) (hk : k = 1 ∨ k = 2) : IntKind.u8.wrap (bits .or .i64 (bits .or .i64 (putF 2 16 dx) (putF 4 32 dy)) (bits .and .i64 k 1)) = flagP k dx dy :=
  flag_same _ (putF2_mem dx) _ (putF4_mem dy) k (by rcases hk with rfl | rfl <;> simp)
theorem kinds_of {o : List (List Pn)} (h : ∀ j, j < o.length → mayCo (o.getD j []) = true) (j : Nat) (hj : j < o.length) (m : Nat) (hm : m < (o.getD j []).length) : ((o.getD j []).getD m pn0).k = 1 ∨ ((o.getD j []).getD m pn0).k = 2 ∨ ((o.getD j []).getD m pn0).k = 3 := by
  have h2 := (mayCo_facts (h j hj)).2.2 m hm
  unfold mayPn at h2
  simp only [Bool.and_eq_true, Bool.or_eq_true, beq_iff_eq] at h2
  rcases h2.2.2 with h3 | h3 | h3
  · exact .inl h3
  · exact .inr (.inl h3)
  · exact .inr (.inr h3.1)
/-- Point by point: may it be put? -/
theorem encS_next (P : Pn) (ps : List Pn) (s : EnS) : encS (P :: ps) s = if (unitsB P.x && (unitsB P.y && !decide (P.k = 3))) && (putK (P.x.tdiv 65536 - s.lx) && putK (P.y.tdiv 65536 - s.ly)) then encS ps (encPt s P) else none := rfl
/-- The reference's writer, and the rows beside it. -/
def EnQ (w W : World) (H r : Nat) (acc : List Int) (f vx vy : Value) (F X Y : List Int) : Prop := RWt W r 1048576 acc ∧ ThR W H f vx vy F X Y ∧ Kp [] w W ∧ w.heap.size ≤ r ∧ r < H
theorem EnQ.kp0 {w W W' : World} {H r : Nat} {acc : List Int} {f vx vy : Value} {F X Y : List Int} (h : EnQ w W H r acc f vx vy F X Y) (hk : Kp [] W W') : EnQ w W' H r acc f vx vy F X Y :=
  ⟨h.1.kp0 hk, h.2.1.kp0 hk, h.2.2.1.trans hk, h.2.2.2⟩
theorem EnQ.wrote {w W W' : World} {H r : Nat} {acc acc' : List Int} {f vx vy : Value} {F X Y : List Int} (h : EnQ w W H r acc f vx vy F X Y) (h1 : RWt W' r 1048576 acc') (hk : Kp [r] W W') : EnQ w W' H r acc' f vx vy F X Y :=
  ⟨h1, h.2.1.kpr hk h.2.2.2.2, kpFresh h.2.2.1 hk h.2.2.2.1, h.2.2.2⟩
theorem ints_cell {k : IntKind} {W : World} {g off n c : Nat} {zs : List Int} (h : IsInts k W (.slice (some ⟨g, off, none⟩) n c) zs) (i : Nat) (hi : i < zs.length) : W.cell? ⟨g, off + i, none⟩ = some (.int k (zs.getD i 0)) := by
  rcases h with ⟨⟨a, e⟩, rfl⟩ | ⟨g', off', c', e, h1, h2, h3⟩
  · simp at hi
  · cases e; exact h3 i hi
theorem ints_one {k : IntKind} {W : World} {g off n c : Nat} {zs : List Int} (h : IsInts k W (.slice (some ⟨g, off, none⟩) n c) zs) (i : Nat) (hi : i < zs.length) : IsInts k W (.slice (some ⟨g, off + i, none⟩) 1 (c - i)) [zs.getD i 0] := by
  rcases h with ⟨⟨a, e⟩, rfl⟩ | ⟨g', off', c', e, h1, h2, h3⟩
  · simp at hi
  · cases e
    refine .inr ⟨g, off + i, c - i, rfl, by simp; omega, by omega, fun j hj => ?_⟩
    obtain rfl : j = 0 := by simpa using hj
    rw [Nat.add_zero]; exact h3 i hi

set_option maxRecDepth 100000 in
set_option maxHeartbeats 4000000 in
theorem renc_calls (v : Value) (o : List (List Pn)) (w : World) (hv : IsOut w v o) (hE : checkO o = 0) (h0 : o ≠ []) :
    Calls Tryz.prog 9 #[v] w fun e w' => ∃ v', e = .returned (.tuple #[v', .int .i64 (encM o).2]) ∧ IsInts .u8 w' v' (encM o).1 ∧ Kp [] w w' := by
  obtain ⟨hz1, hz2, hz3⟩ := checkO_zero hE
  have HC := Lib.hid (rcheck_calls v o w hv (fun j hj => by have := len_le_cnt o hj; omega) (by omega))
  rw [hE] at HC
  have HH := Lib.hid (fun W (hk : Kp [] w W) => rohull_calls v o W (hv.kp0 hk) hE)
  have HF : Hid (∀ j, j < o.length → (o.getD j []).length ≤ 4096) := fun j hj => by have := len_le_cnt o hj; omega
  have HV := Lib.hid hv
  have HNU : Hid (∀ p ∈ flatTo o o.length, numF p.x = true ∧ numF p.y = true) := flat_nums hz3
  have HNP : Hid (∀ j, j < o.length → ∀ m, m < (o.getD j []).length → ((-9223372036854775808 ≤ ((o.getD j []).getD m pn0).x ∧ ((o.getD j []).getD m pn0).x ≤ 9223372036854775807) ∧ (-9223372036854775808 ≤ ((o.getD j []).getD m pn0).y ∧ ((o.getD j []).getD m pn0).y ≤ 9223372036854775807))) := by
    intro j hj m hm
    have h := HNU.out ((o.getD j []).getD m pn0) (by
      unfold flatTo
      rw [List.take_length, List.mem_flatten]
      refine ⟨o.getD j [], ?_, ?_⟩
      · rw [List.getD_eq_getElem?_getD, List.getElem?_eq_getElem hj]; exact List.getElem_mem hj
      · rw [List.getD_eq_getElem?_getD (l := o.getD j []), List.getElem?_eq_getElem hm]; exact List.getElem_mem hm)
    have h1 := (numF_iff _).1 h.1
    have h2 := (numF_iff _).1 h.2
    omega
  have HKI := Lib.hid (kinds_of hz3)
  have HCT := Lib.hid (fun j hj => Nat.le_trans (cntTo_le o (j := j) hj) hz2)
  obtain ⟨pa, ca, rfl⟩ := hv.form
  obtain ⟨R, hR⟩ : ∃ R, encS (restF o 0) en0 = R := ⟨_, rfl⟩
  have HR := Lib.hid hR
  have HMN : Hid (R = none → encM o = ([], 1)) := fun h => by unfold encM; rw [if_neg (by simpa using hE), if_neg h0, hR, h]
  have HMS : Hid (∀ t, R = some t → encM o = (encB o (hullO o) t, 0)) := fun t h => by unfold encM; rw [if_neg (by simpa using hE), if_neg h0, hR, h]
  have HRE := Lib.hid (restF_end o)
  obtain ⟨N, hN⟩ : ∃ N, o.length = N := ⟨_, rfl⟩
  have HN := Lib.hid hN
  have hN1 : N ≤ 256 := by rw [← hN]; exact hz1
  have hN0 : 0 < N := by rw [← hN]; exact List.length_pos_iff.2 h0
  have hn0 : ((N : Int) == 0) = false := by rw [beq_eq_false_iff_ne]; omega
  rw [hN] at HV HC HCT HRE HH ⊢
  have HBX := Lib.hid (hull_num hz3)
  generalize hullO o = b at *
  generalize encM o = RES at *
  clear hN hv hz1 hz2 hz3 hE hR h0 HNU
  go_enter Tryz.func9, Tryz.ntmps9
  go_wp2_with fail
  refine HC.out.mono ?_; rintro e w1 ⟨rfl, hk1⟩
  have HK1 := Lib.hid hk1
  clear hk1 HC
  go_wp2_with fail
  refine (rwu_calls w1.heap.size 1048576 [] 2 (N : Int) (by decide) (by decide) (by omega) (by omega) _ ((RWt.made w1 1048576).kp0 (by (repeat (first | exact Kp.refl _ _ | assumption | refine Kp.drew ?_ | refine Kp.drewN ?_ _ | refine Kp.alloc ?_ _ | (refine Kp.setCell ?_ (by first | (left; simp; done) | (right; simp; try omega)) _) | (refine Kp.trans' ?_ (by assumption) (by simp; try omega)))))) (by simp) (by decide)).mono ?_; rintro e w2 ⟨rfl, hw2, hk2⟩
  have HW2 := Lib.hid hw2
  have HK2 : Hid (Kp [] w w2) := kpFresh (HK1.out.trans (by (repeat (first | exact Kp.refl _ _ | assumption | refine Kp.drew ?_ | refine Kp.drewN ?_ _ | refine Kp.alloc ?_ _ | (refine Kp.setCell ?_ (by first | (left; simp; done) | (right; simp; try omega)) _) | (refine Kp.trans' ?_ (by assumption) (by simp; try omega)))))) hk2 HK1.out.size
  have hr2 : w1.heap.size < w2.heap.size := hw2.lt
  have hr1 : w.heap.size ≤ w1.heap.size := HK1.out.size
  have HV2 := Lib.hid (HV.out.kp0 HK2.out)
  obtain ⟨r, hr⟩ : ∃ r, w1.heap.size = r := ⟨_, rfl⟩
  rw [hr] at HW2 hr2 hr1 ⊢
  clear hw2 hk2 hr HK1
  go_wp2_with fail
  go_loopw [6, 7, 8, 9, 10, 11, 12, 13, 14, 15, 16, 17, 18, 19] (fun f vx vy x y i _ _ _ _ _ _ _ _ wr => ∃ (j : Nat) (s : EnS), j ≤ N ∧ i = .int .i64 j ∧ x = .int .i64 s.lx ∧ y = .int .i64 s.ly ∧ Hid (ThR wr w2.heap.size f vx vy s.fl s.ax s.ay ∧ Kp [] w2 wr) ∧ Hid (EnB s (cntTo o j)) ∧ Hid (encS (restF o j) s = R)) (fun _ _ _ _ _ i _ _ _ _ _ _ _ _ _ => N - (intOf i).toNat)
  case atStart => exact ⟨0, en0, by omega, rfl, rfl, rfl, ⟨ThR.nil _ _, Kp.refl _ _⟩, ⟨rfl, by simp [en0], by simp [en0], by simp [en0], by simp [en0], by simp [en0]⟩, HR.out⟩
  case round =>
    obtain ⟨j, s, hj, rfl, rfl, rfl, HJ, HB, HS⟩ := hrel
    clear HR
    by_cases hlt : j < N
    · have hjo : j < o.length := by rw [HN.out]; exact hlt
      obtain ⟨g1, o1, c1, p1, cv, e1, _, _, h1, hp⟩ := HV2.out.row hjo
      rw [HN.out] at e1
      cases e1
      have HP : Hid (∀ W, Kp [] w2 W → IsPs W (.slice p1 (o.getD j []).length cv) (o.getD j [])) := fun W hW => hp.kp0 hW
      have HL1 : Hid (∀ W, Kp [] w2 W → W.cell? ⟨g1, o1 + j, none⟩ = some (.slice p1 (o.getD j []).length cv)) := fun W hW => hW.cell h1 (by simp)
      have hL := HF.out j hjo
      have HNC := Lib.hid (HNP.out j hjo)
      have HKC := Lib.hid (HKI.out j hjo)
      have HCS : Hid (cntTo o (j + 1) = cntTo o j + (o.getD j []).length ∧ cntTo o j ≤ 4096 ∧ cntTo o (j + 1) ≤ 4096) := ⟨rfl, HCT.out j hj, HCT.out (j + 1) (by omega)⟩
      have HS0 : Hid (encS ((o.getD j []).drop 0 ++ restF o (j + 1)) s = R) := by show _ = _; rw [List.drop_zero, ← restF_at o j hjo]; exact HS.out
      generalize o.getD j [] = c at *
      obtain ⟨L, hcl⟩ : ∃ L, c.length = L := ⟨_, rfl⟩
      have HCL := Lib.hid hcl
      rw [hcl] at h1 hL HP HCS HNC HKC HL1
      clear hcl hp HS h1
      go_wp2_with fail
      go_loopw [6, 7, 8, 9, 10, 12, 13, 14, 15, 16, 17, 18, 19] (fun f vx vy x y i _ _ _ _ _ _ _ wr2 => ∃ (m : Nat) (s2 : EnS), m ≤ L ∧ i = .int .i64 m ∧ x = .int .i64 s2.lx ∧ y = .int .i64 s2.ly ∧ Hid (ThR wr2 w2.heap.size f vx vy s2.fl s2.ax s2.ay ∧ Kp [] w2 wr2) ∧ Hid (EnB s2 (cntTo o j + m)) ∧ Hid (encS (c.drop m ++ restF o (j + 1)) s2 = R)) (fun _ _ _ _ _ i _ _ _ _ _ _ _ _ => L - (intOf i).toNat)
      case atStart => exact ⟨0, s, by omega, rfl, rfl, rfl, HJ.out, HB.out, HS0.out⟩
      case round =>
        obtain ⟨m, s2, hm, rfl, rfl, rfl, HI, HB2, HS2⟩ := hrel
        clear HJ HB HS0
        have h1 := HL1.out _ HI.out.2
        by_cases hml : m < L
        · obtain ⟨g2, o2, q2, e2, _, _, x1, y1, k1⟩ := (HP.out _ HI.out.2).row (i := m) (by rw [HCL.out]; exact hml)
          rw [HCL.out] at e2
          cases e2
          have HTS : Hid (encS (c.getD m pn0 :: (c.drop (m + 1) ++ restF o (j + 1))) s2 = R) := by
            show _ = _
            have hmc : m < c.length := by rw [HCL.out]; exact hml
            have h := HS2.out
            rw [List.drop_eq_getElem_cons hmc] at h
            rw [List.getD_eq_getElem?_getD, List.getElem?_eq_getElem hmc]; exact h
          have HBN := Lib.hid (HNC.out m hml)
          have HKN := Lib.hid (HKC.out m hml)
          generalize c.getD m pn0 = P at *
          have HB3 := Lib.hid (HB2.out.next HBN.out.1 HBN.out.2)
          have hcnt := HCS.out.2.2
          rw [HCS.out.1] at hcnt
          obtain ⟨e1, e2, e3, e4, e5, _⟩ := HB2.out
          have HEP : Hid (encPt s2 P = ⟨s2.fl ++ [flagP P.k (P.x.tdiv 65536 - s2.lx) (P.y.tdiv 65536 - s2.ly)], s2.ax ++ putB (P.x.tdiv 65536 - s2.lx), s2.ay ++ putB (P.y.tdiv 65536 - s2.ly), P.x.tdiv 65536, P.y.tdiv 65536⟩) := rfl
          have HST := Lib.hid ((encS_next P (c.drop (m + 1) ++ restF o (j + 1)) s2).symm.trans HTS.out)
          have HUX := Lib.hid (fun W => runit_calls P.x HBN.out.1.1 HBN.out.1.2 W)
          have HUY := Lib.hid (fun W => runit_calls P.y HBN.out.2.1 HBN.out.2.2 W)
          obtain ⟨bx0, bx1⟩ := tdiv_small P.x HBN.out.1.1 HBN.out.1.2
          obtain ⟨by0, by1⟩ := tdiv_small P.y HBN.out.2.1 HBN.out.2.2
          obtain ⟨l0, l1⟩ := e4
          obtain ⟨l2, l3⟩ := e5
          have hwx : IntKind.i64.wrap (P.x.tdiv 65536 - s2.lx) = P.x.tdiv 65536 - s2.lx := wr64 _ (by omega) (by omega)
          have hwy : IntKind.i64.wrap (P.y.tdiv 65536 - s2.ly) = P.y.tdiv 65536 - s2.ly := wr64 _ (by omega) (by omega)
          have HSX := Lib.hid (fun W => rstep_calls 2 16 (P.x.tdiv 65536 - s2.lx) (by omega) (by omega) W)
          have HSY := Lib.hid (fun W => rstep_calls 4 32 (P.y.tdiv 65536 - s2.ly) (by omega) (by omega) W)
          have HFL : Hid (P.k ≠ 3 → IntKind.u8.wrap (bits .or .i64 (bits .or .i64 (putF 2 16 (P.x.tdiv 65536 - s2.lx)) (putF 4 32 (P.y.tdiv 65536 - s2.ly))) (bits .and .i64 P.k 1)) = flagP P.k (P.x.tdiv 65536 - s2.lx) (P.y.tdiv 65536 - s2.ly)) := fun h => flagP_ref _ _ _ (by have := HKN.out; omega)
          have hlx := putB_len (P.x.tdiv 65536 - s2.lx)
          have hly := putB_len (P.y.tdiv 65536 - s2.ly)
          obtain ⟨A, hA⟩ : ∃ A, s2.fl.length = A := ⟨_, rfl⟩
          obtain ⟨X, hX⟩ : ∃ X, s2.ax.length = X := ⟨_, rfl⟩
          obtain ⟨Y, hY⟩ : ∃ Y, s2.ay.length = Y := ⟨_, rfl⟩
          have HA := Lib.hid hA
          have HX := Lib.hid hX
          have HY := Lib.hid hY
          have hA1 : A ≤ 4096 := by omega
          have hX1 : X ≤ 8192 := by omega
          have hY1 : Y ≤ 8192 := by omega
          obtain ⟨pf, cf, hf⟩ := slice_own HI.out.1.1
          obtain ⟨px, cx, hx⟩ := slice_own HI.out.1.2.1
          obtain ⟨py, cy, hy⟩ := slice_own HI.out.1.2.2.1
          subst hf; subst hx; subst hy
          rw [hA, hX, hY] at HI ⊢
          clear HB2 HS2 hA hX hY e1 e2 e3 HTS
          have hcs : (P.k == 3) = true ∨ ((P.k == 3) = false ∧ unitsB P.x = false) ∨ ((P.k == 3) = false ∧ unitsB P.x = true ∧ unitsB P.y = false) ∨ ((P.k == 3) = false ∧ unitsB P.x = true ∧ unitsB P.y = true) := by
            cases P.k == 3 <;> cases unitsB P.x <;> cases unitsB P.y <;> simp
          rcases hcs with q1 | ⟨q1, q2⟩ | ⟨q1, q2, q3⟩ | ⟨q1, q2, q3⟩
          · have HRN : Hid (R = none) := by
              show _ = _; rw [← HST.out, decide_eq_true (by simpa using q1 : P.k = 3)]; simp
            have HRS := Lib.hid (HMN.out HRN.out)
            clear HST HFL HSX HSY HUX HUY HEP
            go_wp2_with fail
            go_ret2
            rw [HRS.out]
            exact ⟨_, rfl, IsInts.nil _ _, HK2.out.trans (HI.out.2.trans (by (repeat (first | exact Kp.refl _ _ | assumption | refine Kp.drew ?_ | refine Kp.drewN ?_ _ | refine Kp.alloc ?_ _ | (refine Kp.setCell ?_ (by first | (left; simp; done) | (right; simp; try omega)) _) | (refine Kp.trans' ?_ (by assumption) (by simp; try omega))))))⟩
          · have HRN : Hid (R = none) := by
              show _ = _; rw [← HST.out, q2]; simp
            have HRS := Lib.hid (HMN.out HRN.out)
            rw [q2] at HUX
            clear HST HFL HSX HSY HUY HEP
            go_wp2_with fail
            refine (HUX.out _).mono ?_; rintro e w3 ⟨rfl, hwe⟩
            subst hwe
            go_wp2_with fail
            go_ret2
            rw [HRS.out]
            exact ⟨_, rfl, IsInts.nil _ _, HK2.out.trans (HI.out.2.trans (by (repeat (first | exact Kp.refl _ _ | assumption | refine Kp.drew ?_ | refine Kp.drewN ?_ _ | refine Kp.alloc ?_ _ | (refine Kp.setCell ?_ (by first | (left; simp; done) | (right; simp; try omega)) _) | (refine Kp.trans' ?_ (by assumption) (by simp; try omega))))))⟩
          · have HRN : Hid (R = none) := by
              show _ = _; rw [← HST.out, q2, q3]; simp
            have HRS := Lib.hid (HMN.out HRN.out)
            rw [q2] at HUX
            rw [q3] at HUY
            clear HST HFL HSX HSY HEP
            go_wp2_with fail
            refine (HUX.out _).mono ?_; rintro e w3 ⟨rfl, hwe⟩
            subst hwe
            go_wp2_with fail
            refine (HUY.out _).mono ?_; rintro e w3 ⟨rfl, hwe⟩
            subst hwe
            go_wp2_with fail
            go_ret2
            rw [HRS.out]
            exact ⟨_, rfl, IsInts.nil _ _, HK2.out.trans (HI.out.2.trans (by (repeat (first | exact Kp.refl _ _ | assumption | refine Kp.drew ?_ | refine Kp.drewN ?_ _ | refine Kp.alloc ?_ _ | (refine Kp.setCell ?_ (by first | (left; simp; done) | (right; simp; try omega)) _) | (refine Kp.trans' ?_ (by assumption) (by simp; try omega))))))⟩
          · have hk3 : P.k ≠ 3 := by simpa using q1
            have HFQ := Lib.hid (HFL.out hk3)
            have HST2 : Hid ((if (putK (P.x.tdiv 65536 - s2.lx) && putK (P.y.tdiv 65536 - s2.ly)) = true then encS (c.drop (m + 1) ++ restF o (j + 1)) (encPt s2 P) else none) = R) := by
              show _ = _
              have h := HST.out
              rw [q2, q3, decide_eq_false hk3, Bool.not_false, Bool.and_self, Bool.and_self, Bool.true_and] at h
              exact h
            rw [q2] at HUX
            rw [q3] at HUY
            clear HST HFL hk3
            go_wp2_with fail
            refine (HUX.out _).mono ?_; rintro e w3 ⟨rfl, hwe⟩
            subst hwe
            go_wp2_with fail
            refine (HUY.out _).mono ?_; rintro e w3 ⟨rfl, hwe⟩
            subst hwe
            clear HUX HUY
            go_wp2_with fail
            refine (HSX.out _).mono ?_; rintro e w3 ⟨v3, rfl, hi3, hk3, hb3⟩
            have HI3 := Lib.hid hi3
            have HK3 := Lib.hid hk3
            obtain ⟨p3, c3, hv3⟩ := hi3.form
            subst hv3
            clear hi3 HSX
            have a0 : w3.cell? ⟨wr.heap.size, 0, none⟩ = some (.int .i64 P.x) := hk3.cell (by simp) (by simp)
            have a1 : w3.cell? ⟨wr.heap.size, 1, none⟩ = some (.int .i64 P.y) := hk3.cell (by simp) (by simp)
            have a2 : w3.cell? ⟨wr.heap.size, 2, none⟩ = some (.int .i64 P.k) := hk3.cell (by simp) (by simp)
            have HBB3 : Hid (∀ k, blockOf (.slice p3 (putB (P.x.tdiv 65536 - s2.lx)).length c3) = some k → wr.heap.size ≤ k) := fun k hk => by have := hb3 k hk; simp at this; omega
            clear hk3 hb3
            go_wp2_with fail
            refine (HSY.out _).mono ?_; rintro e w4 ⟨v4, rfl, hi4, hk4, hb4⟩
            have HI4 := Lib.hid hi4
            obtain ⟨p4, c4, hv4⟩ := hi4.form
            subst hv4
            have HK4 : Hid (Kp [] wr w4) := Kp.trans (Kp.trans (by (repeat (first | exact Kp.refl _ _ | assumption | refine Kp.drew ?_ | refine Kp.drewN ?_ _ | refine Kp.alloc ?_ _ | (refine Kp.setCell ?_ (by first | (left; simp; done) | (right; simp; try omega)) _) | (refine Kp.trans' ?_ (by assumption) (by simp; try omega))))) HK3.out) hk4
            have HBB4 : Hid (∀ k, blockOf (.slice p4 (putB (P.y.tdiv 65536 - s2.ly)).length c4) = some k → wr.heap.size ≤ k) := fun k hk => by have h1 := hb4 k hk; have h2 := HK3.out.size; simp at h2; omega
            have HI34 : Hid (IsInts .u8 w4 (.slice p3 (putB (P.x.tdiv 65536 - s2.lx)).length c3) (putB (P.x.tdiv 65536 - s2.lx))) := HI3.out.kp0 hk4
            have d0 := hk4.cell a0 (by simp)
            have d1 := hk4.cell a1 (by simp)
            have d2 := hk4.cell a2 (by simp)
            have HT4 : Hid (ThR w4 w2.heap.size (.slice pf A cf) (.slice px X cx) (.slice py Y cy) s2.fl s2.ax s2.ay) := HI.out.1.kp0 HK4.out
            have HK24 : Hid (Kp [] w2 w4) := HI.out.2.trans HK4.out
            have hs4 : w2.heap.size ≤ w4.heap.size := HK24.out.size
            have HOF : Hid (∀ t ∈ (Value.slice pf A cf).ownBlock.toList, t < wr.heap.size ∧ w2.heap.size ≤ t) := fun t ht => by have := HI.out.1.1.lt t (by simpa using ht); omega
            have HOX : Hid (∀ t ∈ (Value.slice px X cx).ownBlock.toList, t < wr.heap.size ∧ w2.heap.size ≤ t) := fun t ht => by have := HI.out.1.2.1.lt t (by simpa using ht); omega
            have HOY : Hid (∀ t ∈ (Value.slice py Y cy).ownBlock.toList, t < wr.heap.size ∧ w2.heap.size ≤ t) := fun t ht => by have := HI.out.1.2.2.1.lt t (by simpa using ht); omega
            obtain ⟨kx, hkx⟩ : ∃ kk, putK (P.x.tdiv 65536 - s2.lx) = kk := ⟨_, rfl⟩
            obtain ⟨ky, hky⟩ : ∃ kk, putK (P.y.tdiv 65536 - s2.ly) = kk := ⟨_, rfl⟩
            rw [hkx, hky] at HST2
            rw [hkx, hky]
            obtain ⟨fb, hfb⟩ : ∃ fb, flagP P.k (P.x.tdiv 65536 - s2.lx) (P.y.tdiv 65536 - s2.ly) = fb := ⟨_, rfl⟩
            rw [hfb] at HEP HFQ
            generalize putF 2 16 (P.x.tdiv 65536 - s2.lx) = fx at *
            generalize putF 4 32 (P.y.tdiv 65536 - s2.ly) = fy at *
            generalize putB (P.x.tdiv 65536 - s2.lx) = BX at *
            generalize putB (P.y.tdiv 65536 - s2.ly) = BY at *
            obtain ⟨bxl, hbxl⟩ : ∃ n, BX.length = n := ⟨_, rfl⟩
            obtain ⟨byl, hbyl⟩ : ∃ n, BY.length = n := ⟨_, rfl⟩
            have HBXL := Lib.hid hbxl
            have HBYL := Lib.hid hbyl
            rw [hbxl] at hlx HI34 HBB3 ⊢
            rw [hbyl] at hly HI4 HBB4 ⊢
            clear hi4 hk4 hb4 HSY HI3 HK3 a0 a1 a2 hkx hky hfb hbxl hbyl x1 y1 k1 hwx hwy
            cases kx with
            | false =>
              have HRN : Hid (R = none) := by show _ = _; rw [← HST2.out]; simp
              have HRS := Lib.hid (HMN.out HRN.out)
              clear HST2 HFQ HEP
              go_wp2_with fail
              go_ret2
              rw [HRS.out]
              exact ⟨_, rfl, IsInts.nil _ _, HK2.out.trans (HK24.out.trans (by (repeat (first | exact Kp.refl _ _ | assumption | refine Kp.drew ?_ | refine Kp.drewN ?_ _ | refine Kp.alloc ?_ _ | (refine Kp.setCell ?_ (by first | (left; simp; done) | (right; simp; try omega)) _) | (refine Kp.trans' ?_ (by assumption) (by simp; try omega))))))⟩
            | true =>
              cases ky with
              | false =>
                have HRN : Hid (R = none) := by show _ = _; rw [← HST2.out]; simp
                have HRS := Lib.hid (HMN.out HRN.out)
                clear HST2 HFQ HEP
                go_wp2_with fail
                go_ret2
                rw [HRS.out]
                exact ⟨_, rfl, IsInts.nil _ _, HK2.out.trans (HK24.out.trans (by (repeat (first | exact Kp.refl _ _ | assumption | refine Kp.drew ?_ | refine Kp.drewN ?_ _ | refine Kp.alloc ?_ _ | (refine Kp.setCell ?_ (by first | (left; simp; done) | (right; simp; try omega)) _) | (refine Kp.trans' ?_ (by assumption) (by simp; try omega))))))⟩
              | true =>
                have HST3 : Hid (encS (c.drop (m + 1) ++ restF o (j + 1)) (encPt s2 P) = R) := by show _ = _; have := HST2.out; simpa using this
                clear HST2
                go_wp2_with fail
                go_quiet (fail)
                have hfq := HFQ.out
                go_wp2_with (at_builtin; go_loud (refine wpList_pushM rfl _ _ 25 5 .u8 1 Tryz.underlying25 infoByte (by decide) rfl w2.heap.size (.slice pf A cf) s2.fl A HA.out rfl ?hown_1 w4.heap.size [fb] 1 rfl (by decide) rfl ?hc_1 ?hl_1 ?hbase_1 ?hk_1))
                case hown_1 => have h := HT4.out.1; rw [HA.out] at h; exact Kp.row (S := []) (by (repeat (first | exact Kp.refl _ _ | assumption | refine Kp.drew ?_ | refine Kp.drewN ?_ _ | refine Kp.alloc ?_ _ | (refine Kp.setCell ?_ (by first | (left; simp; done) | (right; simp; try omega)) _) | (refine Kp.trans' ?_ (by assumption) (by simp; try omega))))) h (by simp)
                try case hc_1 => exact litI (w := w4.drewN _) (k := .u8) (zs := [fb]) (Kp.refl _ _)
                case hl_1 => omega
                case hbase_1 => simp; omega
                case hk_1 =>
                intro v5 w5 hown5 hk5 hb5
                have HT5 : Hid (ThR w5 w2.heap.size v5 (.slice px X cx) (.slice py Y cy) (s2.fl ++ [fb]) s2.ax s2.ay) := by
                  refine ThR.push (N := [fb]) (n := A + 1) (HT4.out.kp0 ?_) (by rw [List.length_append, HA.out]; rfl) (by rw [List.map_append]; exact hown5) hk5 (fun k hk => by have := hb5 k hk; simpa using this)
                  (repeat (first | exact Kp.refl _ _ | assumption | refine Kp.drew ?_ | refine Kp.drewN ?_ _ | refine Kp.alloc ?_ _ | (refine Kp.setCell ?_ (by first | (left; simp; done) | (right; simp; try omega)) _) | (refine Kp.trans' ?_ (by assumption) (by simp; try omega))))
                have HK25 : Hid (Kp [] w2 w5) := Kp.trans' (Kp.trans HK24.out (by (repeat (first | exact Kp.refl _ _ | assumption | refine Kp.drew ?_ | refine Kp.drewN ?_ _ | refine Kp.alloc ?_ _ | (refine Kp.setCell ?_ (by first | (left; simp; done) | (right; simp; try omega)) _) | (refine Kp.trans' ?_ (by assumption) (by simp; try omega)))))) hk5 (fun t ht => .inr (HOF.out t ht).2)
                have hs5 : w2.heap.size ≤ w5.heap.size := HK25.out.size
                have HI35 : Hid (IsInts .u8 w5 (.slice p3 bxl c3) BX) := (HI34.out.kp0 (by (repeat (first | exact Kp.refl _ _ | assumption | refine Kp.drew ?_ | refine Kp.drewN ?_ _ | refine Kp.alloc ?_ _ | (refine Kp.setCell ?_ (by first | (left; simp; done) | (right; simp; try omega)) _) | (refine Kp.trans' ?_ (by assumption) (by simp; try omega)))))).kp hk5 (fun t ht e => by have h1 := (HOF.out t ht).1; have h2 := HBB3.out t e; omega)
                have HI45 : Hid (IsInts .u8 w5 (.slice p4 byl c4) BY) := (HI4.out.kp0 (by (repeat (first | exact Kp.refl _ _ | assumption | refine Kp.drew ?_ | refine Kp.drewN ?_ _ | refine Kp.alloc ?_ _ | (refine Kp.setCell ?_ (by first | (left; simp; done) | (right; simp; try omega)) _) | (refine Kp.trans' ?_ (by assumption) (by simp; try omega)))))).kp hk5 (fun t ht e => by have h1 := (HOF.out t ht).1; have h2 := HBB4.out t e; omega)
                clear hown5 hk5 hb5 HT4 HK24 HI34 HI4 d0 d1 d2 hfq
                go_wp2_with (at_builtin; go_loud (refine wpList_appM rfl _ _ 25 5 .u8 1 Tryz.underlying25 infoByte (by decide) rfl w2.heap.size (.slice px X cx) s2.ax X HX.out rfl ?hown_2 (.slice p3 bxl c3) BX rfl ?hsrc_2 ?hl_2 ?hbase_2 ?hk_2))
                case hown_2 => have h := HT5.out.2.1; rw [HX.out] at h; exact Kp.row (S := []) (by (repeat (first | exact Kp.refl _ _ | assumption | refine Kp.drew ?_ | refine Kp.drewN ?_ _ | refine Kp.alloc ?_ _ | (refine Kp.setCell ?_ (by first | (left; simp; done) | (right; simp; try omega)) _) | (refine Kp.trans' ?_ (by assumption) (by simp; try omega))))) h (by simp)
                case hsrc_2 => exact HI35.out.kp0 (by (repeat (first | exact Kp.refl _ _ | assumption | refine Kp.drew ?_ | refine Kp.drewN ?_ _ | refine Kp.alloc ?_ _ | (refine Kp.setCell ?_ (by first | (left; simp; done) | (right; simp; try omega)) _) | (refine Kp.trans' ?_ (by assumption) (by simp; try omega)))))
                case hl_2 => rw [HBXL.out]; omega
                case hbase_2 => (try simp); omega
                case hk_2 =>
                intro v6 w6 hown6 hk6 hb6
                have HT6 : Hid (ThR w6 w2.heap.size v5 v6 (.slice py Y cy) (s2.fl ++ [fb]) (s2.ax ++ BX) s2.ay) := by
                  refine ThR.rot (ThR.rot (ThR.push (N := BX) (n := X + BX.length) (ThR.rot (HT5.out.kp0 ?_)) (by rw [List.length_append, HX.out]) (by rw [List.map_append]; exact hown6) hk6 (fun k hk => by have := hb6 k hk; simpa using this)))
                  (repeat (first | exact Kp.refl _ _ | assumption | refine Kp.drew ?_ | refine Kp.drewN ?_ _ | refine Kp.alloc ?_ _ | (refine Kp.setCell ?_ (by first | (left; simp; done) | (right; simp; try omega)) _) | (refine Kp.trans' ?_ (by assumption) (by simp; try omega))))
                have HK26 : Hid (Kp [] w2 w6) := Kp.trans' (Kp.trans HK25.out (by (repeat (first | exact Kp.refl _ _ | assumption | refine Kp.drew ?_ | refine Kp.drewN ?_ _ | refine Kp.alloc ?_ _ | (refine Kp.setCell ?_ (by first | (left; simp; done) | (right; simp; try omega)) _) | (refine Kp.trans' ?_ (by assumption) (by simp; try omega)))))) hk6 (fun t ht => .inr (HOX.out t ht).2)
                have hs6 : w2.heap.size ≤ w6.heap.size := HK26.out.size
                have HI46 : Hid (IsInts .u8 w6 (.slice p4 byl c4) BY) := (HI45.out.kp0 (by (repeat (first | exact Kp.refl _ _ | assumption | refine Kp.drew ?_ | refine Kp.drewN ?_ _ | refine Kp.alloc ?_ _ | (refine Kp.setCell ?_ (by first | (left; simp; done) | (right; simp; try omega)) _) | (refine Kp.trans' ?_ (by assumption) (by simp; try omega)))))).kp hk6 (fun t ht e => by have h1 := (HOX.out t ht).1; have h2 := HBB4.out t e; omega)
                clear hown6 hk6 hb6 HT5 HK25 HI35 HI45
                go_wp2_with (at_builtin; go_loud (refine wpList_appM rfl _ _ 25 5 .u8 1 Tryz.underlying25 infoByte (by decide) rfl w2.heap.size (.slice py Y cy) s2.ay Y HY.out rfl ?hown_3 (.slice p4 byl c4) BY rfl ?hsrc_3 ?hl_3 ?hbase_3 ?hk_3))
                case hown_3 => have h := HT6.out.2.2.1; rw [HY.out] at h; exact Kp.row (S := []) (by (repeat (first | exact Kp.refl _ _ | assumption | refine Kp.drew ?_ | refine Kp.drewN ?_ _ | refine Kp.alloc ?_ _ | (refine Kp.setCell ?_ (by first | (left; simp; done) | (right; simp; try omega)) _) | (refine Kp.trans' ?_ (by assumption) (by simp; try omega))))) h (by simp)
                case hsrc_3 => exact HI46.out.kp0 (by (repeat (first | exact Kp.refl _ _ | assumption | refine Kp.drew ?_ | refine Kp.drewN ?_ _ | refine Kp.alloc ?_ _ | (refine Kp.setCell ?_ (by first | (left; simp; done) | (right; simp; try omega)) _) | (refine Kp.trans' ?_ (by assumption) (by simp; try omega)))))
                case hl_3 => rw [HBYL.out]; omega
                case hbase_3 => (try simp); omega
                case hk_3 =>
                intro v7 w7 hown7 hk7 hb7
                have HT7 : Hid (ThR w7 w2.heap.size v5 v6 v7 (s2.fl ++ [fb]) (s2.ax ++ BX) (s2.ay ++ BY)) := by
                  refine ThR.rot (ThR.push (N := BY) (n := Y + BY.length) (ThR.rot (ThR.rot (HT6.out.kp0 ?_))) (by rw [List.length_append, HY.out]) (by rw [List.map_append]; exact hown7) hk7 (fun k hk => by have := hb7 k hk; simpa using this))
                  (repeat (first | exact Kp.refl _ _ | assumption | refine Kp.drew ?_ | refine Kp.drewN ?_ _ | refine Kp.alloc ?_ _ | (refine Kp.setCell ?_ (by first | (left; simp; done) | (right; simp; try omega)) _) | (refine Kp.trans' ?_ (by assumption) (by simp; try omega))))
                have HK27 : Hid (Kp [] w2 w7) := Kp.trans' (Kp.trans HK26.out (by (repeat (first | exact Kp.refl _ _ | assumption | refine Kp.drew ?_ | refine Kp.drewN ?_ _ | refine Kp.alloc ?_ _ | (refine Kp.setCell ?_ (by first | (left; simp; done) | (right; simp; try omega)) _) | (refine Kp.trans' ?_ (by assumption) (by simp; try omega)))))) hk7 (fun t ht => .inr (HOY.out t ht).2)
                have HTK : Hid (ThR w7 w2.heap.size v5 v6 v7 (encPt s2 P).fl (encPt s2 P).ax (encPt s2 P).ay ∧ Kp [] w2 w7) := by
                  rw [HEP.out]; exact ⟨HT7.out, HK27.out⟩
                clear hown7 hk7 hb7 HT6 HK26 HI46 HT7 HK27
                go_wp2_with fail
                go_roundw
                case rel => first | exact ⟨m + 1, encPt s2 P, by omega, int_eq' (by omega), rfl, rfl, HTK, HB3, HST3⟩ | ((repeat apply Exists.intro); exact ⟨⟨m + 1, encPt s2 P, by omega, int_eq' (by omega), rfl, rfl, HTK, HB3, HST3⟩, rfl⟩)
                case measure => simp [intOf] <;> omega
        · obtain rfl : m = L := by omega
          have HFB : Hid (EnB s2 (cntTo o (j + 1))) := by show EnB _ _; rw [HCS.out.1]; exact HB2.out
          have HFS : Hid (encS (restF o (j + 1)) s2 = R) := by
            have h := HS2.out
            rw [List.drop_eq_nil_of_le (by rw [HCL.out]; exact Nat.le_refl _), List.nil_append] at h
            exact h
          clear HB2 HS2
          go_wp2_with fail
          go_roundw
          case rel => first | exact ⟨j + 1, s2, by omega, int_eq' (by omega), rfl, rfl, HI, HFB, HFS⟩ | ((repeat apply Exists.intro); exact ⟨⟨j + 1, s2, by omega, int_eq' (by omega), rfl, rfl, HI, HFB, HFS⟩, rfl⟩)
          case measure => simp [intOf] <;> omega
    · obtain rfl : j = N := by omega
      have hst : R = some s := by rw [← HS.out, HRE.out j (Nat.le_refl _)]; rfl
      have HRS := Lib.hid (HMS.out s hst)
      obtain ⟨e1, e2, e3, _, _, hbyte⟩ := HB.out
      have HBY := Lib.hid hbyte
      have hcn := HCT.out j (Nat.le_refl _)
      have hpl := packM_len s.fl.length s.fl
      have HE : Hid (encB o b s = ((((encTop j b ++ encEnds o j) ++ bytesN 2 0) ++ packM s.fl.length s.fl) ++ s.ax) ++ s.ay) := by show _ = _; unfold encB; rw [HN.out]
      obtain ⟨A, hA⟩ : ∃ A, s.fl.length = A := ⟨_, rfl⟩
      obtain ⟨X, hX⟩ : ∃ X, s.ax.length = X := ⟨_, rfl⟩
      obtain ⟨Y, hY⟩ : ∃ Y, s.ay.length = Y := ⟨_, rfl⟩
      have HA := Lib.hid hA
      have HX := Lib.hid hX
      have HY := Lib.hid hY
      have hA1 : A ≤ 4096 := by omega
      have hX1 : X ≤ 8192 := by omega
      have hY1 : Y ≤ 8192 := by omega
      have hpl2 : (packM s.fl.length s.fl).length ≤ 8192 := by omega
      obtain ⟨pf, cf, hf⟩ := slice_own HJ.out.1.1
      obtain ⟨px, cx, hx⟩ := slice_own HJ.out.1.2.1
      obtain ⟨py, cy, hy⟩ := slice_own HJ.out.1.2.2.1
      subst hf; subst hx; subst hy
      rw [hA, hX, hY] at HJ ⊢
      rw [hA] at hpl2 HE
      have Q0 : Hid (EnQ w wr w2.heap.size r ([] ++ bytesN 2 (j : Int)) (.slice pf A cf) (.slice px X cx) (.slice py Y cy) s.fl s.ax s.ay) := ⟨HW2.out.kp0 HJ.out.2, HJ.out.1, HK2.out.trans HJ.out.2, hr1, hr2⟩
      obtain ⟨⟨q1, q2⟩, ⟨q3, q4⟩, ⟨q5, q6⟩, ⟨q7, q8⟩⟩ := HBX.out.units
      clear HB HS hst e1 e2 e3 hbyte hcn hpl hA hX hY HMN HMS HJ HW2 HF HNP HKI
      go_wp2_with fail
      refine (HH.out _ (Q0.out.2.2.1.trans (by (repeat (first | exact Kp.refl _ _ | assumption | refine Kp.drew ?_ | refine Kp.drewN ?_ _ | refine Kp.alloc ?_ _ | (refine Kp.setCell ?_ (by first | (left; simp; done) | (right; simp; try omega)) _) | (refine Kp.trans' ?_ (by assumption) (by simp; try omega))))))).mono ?_; rintro e w3 ⟨rfl, hk3⟩
      have Q3 := Lib.hid (Q0.out.kp0 (Kp.trans (by (repeat (first | exact Kp.refl _ _ | assumption | refine Kp.drew ?_ | refine Kp.drewN ?_ _ | refine Kp.alloc ?_ _ | (refine Kp.setCell ?_ (by first | (left; simp; done) | (right; simp; try omega)) _) | (refine Kp.trans' ?_ (by assumption) (by simp; try omega))))) hk3))
      rw [show bxV b = .agg #[.int .i64 b.x0, .int .i64 b.y0, .int .i64 b.x1, .int .i64 b.y1] from rfl]
      have hr3 : r < w3.heap.size := Q3.out.1.lt
      clear hk3 HH
      go_wp2_with fail
      refine (rwu_calls r 1048576 ([] ++ bytesN 2 (j : Int)) 2 (b.x0.tdiv 65536) (by decide) (by decide) (by omega) (by omega) _ (Q3.out.kp0 (by (repeat (first | exact Kp.refl _ _ | assumption | refine Kp.drew ?_ | refine Kp.drewN ?_ _ | refine Kp.alloc ?_ _ | (refine Kp.setCell ?_ (by first | (left; simp; done) | (right; simp; try omega)) _) | (refine Kp.trans' ?_ (by assumption) (by simp; try omega)))))).1 (by simp [bytesN_length]) (by decide)).mono ?_; rintro e w4 ⟨rfl, hw4, hk4⟩
      have Q4 := Lib.hid ((Q3.out.kp0 (by (repeat (first | exact Kp.refl _ _ | assumption | refine Kp.drew ?_ | refine Kp.drewN ?_ _ | refine Kp.alloc ?_ _ | (refine Kp.setCell ?_ (by first | (left; simp; done) | (right; simp; try omega)) _) | (refine Kp.trans' ?_ (by assumption) (by simp; try omega)))))).wrote hw4 hk4)
      have b1 : w4.cell? ⟨w3.heap.size, 1, none⟩ = some (.int .i64 b.y0) := hk4.cell (by simp) (by simp; omega)
      have b2 : w4.cell? ⟨w3.heap.size, 2, none⟩ = some (.int .i64 b.x1) := hk4.cell (by simp) (by simp; omega)
      have b3 : w4.cell? ⟨w3.heap.size, 3, none⟩ = some (.int .i64 b.y1) := hk4.cell (by simp) (by simp; omega)
      clear hw4 hk4
      go_wp2_with fail
      refine (rwu_calls r 1048576 (([] ++ bytesN 2 (j : Int)) ++ bytesN 2 (b.x0.tdiv 65536)) 2 (b.y0.tdiv 65536) (by decide) (by decide) (by omega) (by omega) _ (Q4.out.kp0 (by (repeat (first | exact Kp.refl _ _ | assumption | refine Kp.drew ?_ | refine Kp.drewN ?_ _ | refine Kp.alloc ?_ _ | (refine Kp.setCell ?_ (by first | (left; simp; done) | (right; simp; try omega)) _) | (refine Kp.trans' ?_ (by assumption) (by simp; try omega)))))).1 (by simp [bytesN_length]) (by decide)).mono ?_; rintro e w5 ⟨rfl, hw5, hk5⟩
      have Q5 := Lib.hid ((Q4.out.kp0 (by (repeat (first | exact Kp.refl _ _ | assumption | refine Kp.drew ?_ | refine Kp.drewN ?_ _ | refine Kp.alloc ?_ _ | (refine Kp.setCell ?_ (by first | (left; simp; done) | (right; simp; try omega)) _) | (refine Kp.trans' ?_ (by assumption) (by simp; try omega)))))).wrote hw5 hk5)
      replace b2 : w5.cell? ⟨w3.heap.size, 2, none⟩ = some (.int .i64 b.x1) := hk5.cell (by simpa using b2) (by simp; omega)
      replace b3 : w5.cell? ⟨w3.heap.size, 3, none⟩ = some (.int .i64 b.y1) := hk5.cell (by simpa using b3) (by simp; omega)
      clear hw5 hk5 b1
      go_wp2_with fail
      refine (rwu_calls r 1048576 ((([] ++ bytesN 2 (j : Int)) ++ bytesN 2 (b.x0.tdiv 65536)) ++ bytesN 2 (b.y0.tdiv 65536)) 2 (b.x1.tdiv 65536) (by decide) (by decide) (by omega) (by omega) _ (Q5.out.kp0 (by (repeat (first | exact Kp.refl _ _ | assumption | refine Kp.drew ?_ | refine Kp.drewN ?_ _ | refine Kp.alloc ?_ _ | (refine Kp.setCell ?_ (by first | (left; simp; done) | (right; simp; try omega)) _) | (refine Kp.trans' ?_ (by assumption) (by simp; try omega)))))).1 (by simp [bytesN_length]) (by decide)).mono ?_; rintro e w6 ⟨rfl, hw6, hk6⟩
      have Q6 := Lib.hid ((Q5.out.kp0 (by (repeat (first | exact Kp.refl _ _ | assumption | refine Kp.drew ?_ | refine Kp.drewN ?_ _ | refine Kp.alloc ?_ _ | (refine Kp.setCell ?_ (by first | (left; simp; done) | (right; simp; try omega)) _) | (refine Kp.trans' ?_ (by assumption) (by simp; try omega)))))).wrote hw6 hk6)
      replace b3 : w6.cell? ⟨w3.heap.size, 3, none⟩ = some (.int .i64 b.y1) := hk6.cell (by simpa using b3) (by simp; omega)
      clear hw6 hk6 b2
      go_wp2_with fail
      refine (rwu_calls r 1048576 (((([] ++ bytesN 2 (j : Int)) ++ bytesN 2 (b.x0.tdiv 65536)) ++ bytesN 2 (b.y0.tdiv 65536)) ++ bytesN 2 (b.x1.tdiv 65536)) 2 (b.y1.tdiv 65536) (by decide) (by decide) (by omega) (by omega) _ (Q6.out.kp0 (by (repeat (first | exact Kp.refl _ _ | assumption | refine Kp.drew ?_ | refine Kp.drewN ?_ _ | refine Kp.alloc ?_ _ | (refine Kp.setCell ?_ (by first | (left; simp; done) | (right; simp; try omega)) _) | (refine Kp.trans' ?_ (by assumption) (by simp; try omega)))))).1 (by simp [bytesN_length]) (by decide)).mono ?_; rintro e w7 ⟨rfl, hw7, hk7⟩
      have Q7 := Lib.hid ((Q6.out.kp0 (by (repeat (first | exact Kp.refl _ _ | assumption | refine Kp.drew ?_ | refine Kp.drewN ?_ _ | refine Kp.alloc ?_ _ | (refine Kp.setCell ?_ (by first | (left; simp; done) | (right; simp; try omega)) _) | (refine Kp.trans' ?_ (by assumption) (by simp; try omega)))))).wrote hw7 hk7)
      have Q8 : Hid (EnQ w w7 w2.heap.size r (encTop j b ++ encEnds o 0) (.slice pf A cf) (.slice px X cx) (.slice py Y cy) s.fl s.ax s.ay) := by show EnQ _ _ _ _ _ _ _ _ _ _ _; rw [encEnds, List.append_nil]; exact Q7.out
      clear hw7 hk7 b3 Q0 Q3 Q4 Q5 Q6 Q7 q1 q2 q3 q4 q5 q6 q7 q8
      go_wp2_with fail
      go_loopw [21, 22] (fun l i wr => ∃ m : Nat, m ≤ j ∧ i = .int .i64 m ∧ l = .int .i64 (((cntTo o m : Nat) : Int) - 1) ∧ Hid (EnQ w wr w2.heap.size r (encTop j b ++ encEnds o m) (.slice pf A cf) (.slice px X cx) (.slice py Y cy) s.fl s.ax s.ay)) (fun _ i _ => j - (intOf i).toNat)
      case atStart => exact ⟨0, by omega, rfl, rfl, Q8.out⟩
      case round =>
        obtain ⟨m, hm, rfl, rfl, HI⟩ := hrel
        clear Q8
        by_cases hml : m < j
        · obtain ⟨g1, o1, c1, p1, cv, e1, _, _, h1, hp⟩ := (HV.out.kp0 HI.out.2.2.1).row (i := m) (by rw [HN.out]; exact hml)
          rw [HN.out] at e1
          cases e1
          have HSL : Hid ((encTop j b ++ encEnds o m).length = 10 + 2 * m) := by show _ = _; rw [List.length_append, encTop_len, encEnds_len]
          have hcm := HCT.out (m + 1) (by omega)
          have hce : cntTo o (m + 1) = cntTo o m + (o.getD m []).length := rfl
          obtain ⟨L, hL⟩ : ∃ L, (o.getD m []).length = L := ⟨_, rfl⟩
          rw [hL] at h1 hce
          rw [hce] at hcm
          have HST : Hid (encTop j b ++ encEnds o (m + 1) = (encTop j b ++ encEnds o m) ++ bytesN 2 (((cntTo o m : Nat) : Int) - 1 + (L : Int)) ∧ (((cntTo o (m + 1) : Nat) : Int) - 1 = ((cntTo o m : Nat) : Int) - 1 + (L : Int))) := by
            have e2 : ((cntTo o (m + 1) : Nat) : Int) - 1 = ((cntTo o m : Nat) : Int) - 1 + (L : Int) := by rw [hce]; push_cast; omega
            exact ⟨by rw [encEnds, e2, List.append_assoc], e2⟩
          generalize encTop j b ++ encEnds o m = ac at *
          generalize cntTo o m = C at *
          have hC1 : C ≤ 4096 := by omega
          have hL1 : L ≤ 4096 := by omega
          have HU := Lib.hid (fun W h => rwu_calls r 1048576 ac 2 ((C : Int) - 1 + (L : Int)) (by decide) (by decide) (by omega) (by omega) W h (by have := HSL.out; omega) (by decide))
          clear hp hL hce hcm
          go_wp2_with fail
          refine (HU.out _ (HI.out.kp0 (by (repeat (first | exact Kp.refl _ _ | assumption | refine Kp.drew ?_ | refine Kp.drewN ?_ _ | refine Kp.alloc ?_ _ | (refine Kp.setCell ?_ (by first | (left; simp; done) | (right; simp; try omega)) _) | (refine Kp.trans' ?_ (by assumption) (by simp; try omega)))))).1).mono ?_; rintro e w8 ⟨rfl, hw8, hk8⟩
          have HS8 : Hid (EnQ w w8 w2.heap.size r (encTop j b ++ encEnds o (m + 1)) (.slice pf A cf) (.slice px X cx) (.slice py Y cy) s.fl s.ax s.ay) := by
            show EnQ _ _ _ _ _ _ _ _ _ _ _
            rw [HST.out.1]; exact (HI.out.kp0 (by (repeat (first | exact Kp.refl _ _ | assumption | refine Kp.drew ?_ | refine Kp.drewN ?_ _ | refine Kp.alloc ?_ _ | (refine Kp.setCell ?_ (by first | (left; simp; done) | (right; simp; try omega)) _) | (refine Kp.trans' ?_ (by assumption) (by simp; try omega)))))).wrote hw8 hk8
          clear hw8 hk8 HU
          go_wp2_with fail
          go_roundw
          case rel => first | exact ⟨m + 1, by omega, int_eq' (by omega), int_eq' (by rw [HST.out.2]), HS8⟩ | ((repeat apply Exists.intro); exact ⟨⟨m + 1, by omega, int_eq' (by omega), int_eq' (by rw [HST.out.2]), HS8⟩, rfl⟩)
          case measure => simp [intOf]; omega
        · obtain rfl : m = j := by omega
          have HACL : Hid ((encTop m b ++ encEnds o m).length = 10 + 2 * m) := by show _ = _; rw [List.length_append, encTop_len, encEnds_len]
          obtain ⟨AC, hAC⟩ : ∃ AC, encTop m b ++ encEnds o m = AC := ⟨_, rfl⟩
          rw [hAC] at HE HI HACL
          clear hAC
          go_wp2_with fail
          refine (rwu_calls r 1048576 AC 2 0 (by decide) (by decide) (by omega) (by omega) _ (HI.out.kp0 (by (repeat (first | exact Kp.refl _ _ | assumption | refine Kp.drew ?_ | refine Kp.drewN ?_ _ | refine Kp.alloc ?_ _ | (refine Kp.setCell ?_ (by first | (left; simp; done) | (right; simp; try omega)) _) | (refine Kp.trans' ?_ (by assumption) (by simp; try omega)))))).1 (by have := HACL.out; omega) (by decide)).mono ?_; rintro e w9 ⟨rfl, hw9, hk9⟩
          obtain ⟨FIN, hFIN⟩ : ∃ FIN, (AC ++ bytesN 2 0) ++ packM A s.fl = FIN := ⟨_, rfl⟩
          rw [hFIN] at HE
          have HFL : Hid (FIN.length ≤ 12288) := by show _ ≤ _; rw [← hFIN, List.length_append, List.length_append, bytesN_length]; have := HACL.out; omega
          have Q9 : Hid (EnQ w w9 w2.heap.size r (AC ++ bytesN 2 0) (.slice pf A cf) (.slice px X cx) (.slice py Y cy) s.fl s.ax s.ay) := (HI.out.kp0 (by (repeat (first | exact Kp.refl _ _ | assumption | refine Kp.drew ?_ | refine Kp.drewN ?_ _ | refine Kp.alloc ?_ _ | (refine Kp.setCell ?_ (by first | (left; simp; done) | (right; simp; try omega)) _) | (refine Kp.trans' ?_ (by assumption) (by simp; try omega)))))).wrote hw9 hk9
          have HF0 : Hid ((AC ++ bytesN 2 0) ++ packM A (s.fl.drop 0) = FIN) := by show _ = _; rw [List.drop_zero]; exact hFIN
          clear hw9 hk9 HI hFIN
          go_wp2_with fail
          go_loopw [23, 24] (fun i _ wr => ∃ (n g : Nat) (acc : List Int), n ≤ A ∧ i = .int .i64 n ∧ A - n ≤ g ∧ Hid (acc ++ packM g (s.fl.drop n) = FIN) ∧ Hid (EnQ w wr w2.heap.size r acc (.slice pf A cf) (.slice px X cx) (.slice py Y cy) s.fl s.ax s.ay)) (fun i _ _ => A - (intOf i).toNat)
          case atStart => exact ⟨0, A, AC ++ bytesN 2 0, by omega, rfl, by omega, HF0.out, Q9.out⟩
          case round =>
            obtain ⟨n, g, acc, hn, rfl, hg, HP, HI⟩ := hrel
            clear Q9 HF0
            by_cases hnA : n < A
            · obtain ⟨gf, of, hpf, hcA, hcm⟩ : ∃ g off, pf = some ⟨g, off, none⟩ ∧ A ≤ cf ∧ cf ≤ maxLen := by
                have hi := IsInts.owned HI.out.2.1.1
                rcases hi with ⟨⟨a, e⟩, h⟩ | ⟨g, off, cap, e, h1, h2, h3⟩
                · have := HA.out; rw [h] at this; simp at this; omega
                · cases e; exact ⟨g, off, rfl, by rw [← HA.out]; exact h1, h2⟩
              subst hpf
              obtain ⟨g, rfl⟩ : ∃ g', g = g' + 1 := ⟨g - 1, by omega⟩
              have hnl : n < s.fl.length := by rw [HA.out]; exact hnA
              obtain ⟨c, hc⟩ : ∃ c, s.fl.getD n 0 = c := ⟨_, rfl⟩
              have hd : s.fl.drop n = c :: s.fl.drop (n + 1) := by rw [List.drop_eq_getElem_cons hnl, ← hc, List.getD_eq_getElem?_getD, List.getElem?_eq_getElem hnl]; rfl
              have HPK : Hid (packM (g + 1) (s.fl.drop n) = (if 1 < runLen (s.fl.drop n) then [bits .or .u8 c 8, ((runLen (s.fl.drop n) : Nat) : Int) - 1] else [c]) ++ packM g (s.fl.drop (n + runLen (s.fl.drop n)))) := by
                show _ = _
                rw [← List.drop_drop, hd]; rfl
              have HRF : Hid (∀ i, 1 ≤ i → i + cntEq c (256 - i) ((s.fl.drop n).drop i) = runLen (s.fl.drop n) → (i < (s.fl.drop n).length ∧ i ≤ 255 ∧ (s.fl.drop n).getD i 0 = c → i + 1 + cntEq c (256 - (i + 1)) ((s.fl.drop n).drop (i + 1)) = runLen (s.fl.drop n)) ∧ (¬ (i < (s.fl.drop n).length ∧ i ≤ 255 ∧ (s.fl.drop n).getD i 0 = c) → i = runLen (s.fl.drop n))) := by
                show ∀ i, _; rw [hd]; exact run_from c _
              have HR0 : Hid (1 + cntEq c (256 - 1) ((s.fl.drop n).drop 1) = runLen (s.fl.drop n)) := by show _ = _; rw [hd]; exact run_start c _
              obtain ⟨hr1', hr2'⟩ := runLen_le (s.fl.drop n)
              have hr3' : 1 ≤ runLen (s.fl.drop n) := by rw [hd]; simp [runLen]
              obtain ⟨hcb0, hcb1⟩ := HBY.out c (by rw [← hc, List.getD_eq_getElem?_getD, List.getElem?_eq_getElem hnl]; exact List.getElem_mem hnl)
              have hdl : (s.fl.drop n).length = A - n := by rw [List.length_drop, HA.out]
              have HG : Hid (∀ i, i < A - n → (s.fl.drop n).getD i 0 = s.fl.getD (n + i) 0) := fun i hi => by rw [List.getD_eq_getElem?_getD, List.getD_eq_getElem?_getD, List.getElem?_drop]
              rw [hdl] at HRF hr1'
              obtain ⟨RL, hRL⟩ : ∃ RL, runLen (s.fl.drop n) = RL := ⟨_, rfl⟩
              rw [hRL] at HPK HRF HR0 hr1' hr2' hr3'
              generalize s.fl.drop n = ys at *
              have HCE : Hid (∀ W, EnQ w W w2.heap.size r acc (.slice (some ⟨gf, of, none⟩) A cf) (.slice px X cx) (.slice py Y cy) s.fl s.ax s.ay → ∀ i, i < A → W.cell? ⟨gf, of + i, none⟩ = some (.int .u8 (s.fl.getD i 0))) := fun W h i hi => ints_cell (IsInts.owned h.2.1.1) i (by rw [HA.out]; exact hi)
              have HCC := Lib.hid hc
              clear hd hRL hdl hc hnl
              go_wp2_with fail
              go_loopw [24] (fun e wr => ∃ i : Nat, e = .int .i64 i ∧ Hid (i + 1 ≤ RL ∧ i + 1 + cntEq c (256 - (i + 1)) (ys.drop (i + 1)) = RL) ∧ Hid (EnQ w wr w2.heap.size r acc (.slice (some ⟨gf, of, none⟩) A cf) (.slice px X cx) (.slice py Y cy) s.fl s.ax s.ay)) (fun e _ => RL - (intOf e).toNat)
              case atStart => exact ⟨0, rfl, ⟨hr3', HR0.out⟩, HI.out⟩
              case round =>
                obtain ⟨i, rfl, HN2, HI2⟩ := hrel
                clear HI HR0
                obtain ⟨hi2, hi3⟩ := HN2.out
                obtain ⟨hgo, hstop⟩ := HRF.out (i + 1) (by omega) hi3
                have h0 := HCE.out _ HI2.out n hnA
                rw [HCC.out] at h0
                by_cases hcond : i + 1 < A - n ∧ i + 1 ≤ 255 ∧ ys.getD (i + 1) 0 = c
                · have hci := HCE.out _ HI2.out (n + i + 1) (by omega)
                  have e9 := HG.out (i + 1) hcond.1
                  rw [hcond.2.2, ← Nat.add_assoc] at e9
                  rw [← e9] at hci
                  have HN3 : Hid (i + 1 + 1 ≤ RL ∧ i + 1 + 1 + cntEq c (256 - (i + 1 + 1)) (ys.drop (i + 1 + 1)) = RL) := ⟨by have := hgo hcond; omega, hgo hcond⟩
                  obtain ⟨hil, hi255, _⟩ := hcond
                  have hiA : n + i + 1 < A := by omega
                  have hd1 : decide (i < 255) = true := decide_eq_true (by omega)
                  have hd2 : decide (n + i + 1 < A) = true := decide_eq_true hiA
                  have hd3 : decide ((i : Int) < 255) = true := decide_eq_true (by omega)
                  have hd4 : decide ((n : Int) + (i : Int) + 1 < (A : Int)) = true := decide_eq_true (by omega)
                  have hw1 : IntKind.i64.wrap ((n : Int) + (i : Int)) = (n : Int) + (i : Int) := wr64 _ (by omega) (by omega)
                  have hw2 : IntKind.i64.wrap ((n : Int) + (i : Int) + 1) = (n : Int) + (i : Int) + 1 := wr64 _ (by omega) (by omega)
                  have ht3 : ((n : Int) + (i : Int) + 1).toNat = n + i + 1 := by omega
                  clear hgo hstop hi3 HN2 e9
                  go_wp2_with fail
                  go_quiet (fail)
                  go_wp2_with fail
                  go_roundw
                  case rel => first | exact ⟨i + 1, int_eq' (by omega), HN3, HI2.out.kp0 (by (repeat (first | exact Kp.refl _ _ | assumption | refine Kp.drew ?_ | refine Kp.drewN ?_ _ | refine Kp.alloc ?_ _ | (refine Kp.setCell ?_ (by first | (left; simp; done) | (right; simp; try omega)) _) | (refine Kp.trans' ?_ (by assumption) (by simp; try omega)))))⟩ | ((repeat apply Exists.intro); exact ⟨⟨i + 1, int_eq' (by omega), HN3, HI2.out.kp0 (by (repeat (first | exact Kp.refl _ _ | assumption | refine Kp.drew ?_ | refine Kp.drewN ?_ _ | refine Kp.alloc ?_ _ | (refine Kp.setCell ?_ (by first | (left; simp; done) | (right; simp; try omega)) _) | (refine Kp.trans' ?_ (by assumption) (by simp; try omega)))))⟩, rfl⟩)
                  case measure => have := HN3.out.1; simp [intOf]; omega
                · have hRLe : i + 1 = RL := hstop hcond
                  have hw : (decide (i < 255) = false ∧ decide ((i : Int) < 255) = false) ∨ (decide (i < 255) = true ∧ decide ((i : Int) < 255) = true ∧ decide ((n : Int) + (i : Int) + 1 < (A : Int)) = false) ∨ (decide (i < 255) = true ∧ decide ((i : Int) < 255) = true ∧ n + i + 1 < A ∧ decide ((n : Int) + (i : Int) + 1 < (A : Int)) = true ∧ ∃ y : Int, wr.cell? ⟨gf, of + (n + i + 1), none⟩ = some (.int .u8 y) ∧ (y == c) = false) := by
                    by_cases h1 : i + 1 ≤ 255
                    · by_cases h2 : i + 1 < A - n
                      · refine .inr (.inr ⟨decide_eq_true (by omega), decide_eq_true (by omega), by omega, decide_eq_true (by omega), s.fl.getD (n + i + 1) 0, HCE.out _ HI2.out (n + i + 1) (by omega), ?_⟩)
                        have e9 := HG.out (i + 1) h2
                        rw [← Nat.add_assoc] at e9
                        have : ¬ s.fl.getD (n + i + 1) 0 = c := fun e => hcond ⟨h2, h1, by rw [e9]; exact e⟩
                        rw [beq_eq_false_iff_ne]; exact this
                      · exact .inr (.inl ⟨decide_eq_true (by omega), decide_eq_true (by omega), decide_eq_false (by omega)⟩)
                    · exact .inl ⟨decide_eq_false (by omega), decide_eq_false (by omega)⟩
                  have hiR : i + 1 ≤ A - n := by omega
                  have hiS : i ≤ 255 := by omega
                  have HAL : Hid (acc.length ≤ 12288) := by
                    have h := congrArg List.length HP.out
                    rw [List.length_append] at h
                    have := HFL.out
                    show _ ≤ _; omega
                  have HONE : Hid (IsInts .u8 wr (.slice (some ⟨gf, of + n, none⟩) 1 (cf - n)) [c]) := by
                    have h := ints_one (IsInts.owned HI2.out.2.1.1) n (by rw [HA.out]; exact hnA)
                    rw [HCC.out] at h; exact h
                  have HGF : Hid (r < gf) := by
                    have h1 := own_ge HI2.out.2.1.1 gf (by simp [Value.ownBlock])
                    show _ < _; omega
                  have hncf : n < cf := by omega
                  have hw1 : IntKind.i64.wrap ((n : Int) + (i : Int)) = (n : Int) + (i : Int) := wr64 _ (by omega) (by omega)
                  have hw2 : IntKind.i64.wrap ((n : Int) + (i : Int) + 1) = (n : Int) + (i : Int) + 1 := wr64 _ (by omega) (by omega)
                  have ht3 : ((n : Int) + (i : Int) + 1).toNat = n + i + 1 := by omega
                  subst hRLe
                  clear hgo hstop hi3 HN2 HRF hcond hi2 HCE HG HCC HFL
                  by_cases hi0 : 0 < i
                  · have hz : decide (0 < i) = true := decide_eq_true hi0
                    have hwi : IntKind.u8.wrap (i : Int) = (i : Int) := by rw [byte_wrap]; omega
                    have HPN : Hid ((acc ++ [bits .or .u8 c 8, (i : Int)]) ++ packM g (s.fl.drop (n + (i + 1))) = FIN) := by
                      show _ = _
                      have h := HPK.out
                      rw [if_pos (by omega), show (((i + 1 : Nat) : Int) - 1) = (i : Int) by omega] at h
                      rw [List.append_assoc, ← h]; exact HP.out
                    clear HPK HP HONE HGF
                    rcases hw with ⟨hd0, hd1⟩ | ⟨hd0, hd1, hd2⟩ | ⟨hd0, hd1, hd3, hd2, y, hy, hyc⟩
                    all_goals
                      go_wp2_with fail
                      go_quiet (fail)
                      go_wp2_with fail
                      refine (rdata_calls r 1048576 acc (.slice (some ⟨wr.heap.size, 0, none⟩) 2 2) [bits .or .u8 c 8, (i : Int)] _ (HI2.out.kp0 (by (repeat (first | exact Kp.refl _ _ | assumption | refine Kp.drew ?_ | refine Kp.drewN ?_ _ | refine Kp.alloc ?_ _ | (refine Kp.setCell ?_ (by first | (left; simp; done) | (right; simp; try omega)) _) | (refine Kp.trans' ?_ (by assumption) (by simp; try omega)))))).1 (IsInts.litT .u8 5 [bits .or .u8 c 8, (i : Int)] (Kp.refl _ _) _ _ (by simp) rfl (by decide)) (by intro k hk; simp at hk; have := HI2.out.1.lt; omega) (by have := HAL.out; simp; omega) (by decide)).mono ?_; rintro e w10 ⟨rfl, hw10, hk10⟩
                      have Q10 : Hid (EnQ w w10 w2.heap.size r (acc ++ [bits .or .u8 c 8, (i : Int)]) (.slice (some ⟨gf, of, none⟩) A cf) (.slice px X cx) (.slice py Y cy) s.fl s.ax s.ay) := (HI2.out.kp0 (by (repeat (first | exact Kp.refl _ _ | assumption | refine Kp.drew ?_ | refine Kp.drewN ?_ _ | refine Kp.alloc ?_ _ | (refine Kp.setCell ?_ (by first | (left; simp; done) | (right; simp; try omega)) _) | (refine Kp.trans' ?_ (by assumption) (by simp; try omega)))))).wrote hw10 hk10
                      have hA3 : n + (i + 1) ≤ A := by omega
                      clear hw10 hk10
                      go_wp2_with fail
                      go_roundw
                      case rel => first | exact ⟨n + (i + 1), g, acc ++ [bits .or .u8 c 8, (i : Int)], hA3, int_eq' (by omega), by omega, HPN, Q10⟩ | ((repeat apply Exists.intro); exact ⟨⟨n + (i + 1), g, acc ++ [bits .or .u8 c 8, (i : Int)], hA3, int_eq' (by omega), by omega, HPN, Q10⟩, rfl⟩)
                      case measure => simp [intOf]; omega
                  · have hz : decide (0 < i) = false := decide_eq_false hi0
                    have HPN : Hid ((acc ++ [c]) ++ packM g (s.fl.drop (n + (i + 1))) = FIN) := by
                      show _ = _
                      have h := HPK.out
                      rw [if_neg (by omega)] at h
                      rw [List.append_assoc, ← h]; exact HP.out
                    clear HPK HP
                    rcases hw with ⟨hd0, hd1⟩ | ⟨hd0, hd1, hd2⟩ | ⟨hd0, hd1, hd3, hd2, y, hy, hyc⟩
                    all_goals
                      go_wp2_with fail
                      go_quiet (fail)
                      go_wp2_with fail
                      refine (rdata_calls r 1048576 acc (.slice (some ⟨gf, of + n, none⟩) 1 (cf - n)) [c] _ (HI2.out.kp0 (by (repeat (first | exact Kp.refl _ _ | assumption | refine Kp.drew ?_ | refine Kp.drewN ?_ _ | refine Kp.alloc ?_ _ | (refine Kp.setCell ?_ (by first | (left; simp; done) | (right; simp; try omega)) _) | (refine Kp.trans' ?_ (by assumption) (by simp; try omega)))))).1 (HONE.out.kp0 (by (repeat (first | exact Kp.refl _ _ | assumption | refine Kp.drew ?_ | refine Kp.drewN ?_ _ | refine Kp.alloc ?_ _ | (refine Kp.setCell ?_ (by first | (left; simp; done) | (right; simp; try omega)) _) | (refine Kp.trans' ?_ (by assumption) (by simp; try omega)))))) (by intro k hk; simp at hk; have := HGF.out; omega) (by have := HAL.out; simp; omega) (by decide)).mono ?_; rintro e w10 ⟨rfl, hw10, hk10⟩
                      have Q10 : Hid (EnQ w w10 w2.heap.size r (acc ++ [c]) (.slice (some ⟨gf, of, none⟩) A cf) (.slice px X cx) (.slice py Y cy) s.fl s.ax s.ay) := (HI2.out.kp0 (by (repeat (first | exact Kp.refl _ _ | assumption | refine Kp.drew ?_ | refine Kp.drewN ?_ _ | refine Kp.alloc ?_ _ | (refine Kp.setCell ?_ (by first | (left; simp; done) | (right; simp; try omega)) _) | (refine Kp.trans' ?_ (by assumption) (by simp; try omega)))))).wrote hw10 hk10
                      have hA3 : n + (i + 1) ≤ A := by omega
                      clear hw10 hk10
                      go_wp2_with fail
                      go_roundw
                      case rel => first | exact ⟨n + (i + 1), g, acc ++ [c], hA3, int_eq' (by omega), by omega, HPN, Q10⟩ | ((repeat apply Exists.intro); exact ⟨⟨n + (i + 1), g, acc ++ [c], hA3, int_eq' (by omega), by omega, HPN, Q10⟩, rfl⟩)
                      case measure => simp [intOf]; omega
            · obtain rfl : n = A := by omega
              have HAC : Hid (acc = FIN) := by
                show _ = _
                have h := HP.out
                rw [List.drop_eq_nil_of_le (by rw [HA.out]; exact Nat.le_refl _)] at h
                have e : packM g [] = [] := by cases g <;> rfl
                rwa [e, List.append_nil] at h
              rw [HAC.out] at HI
              clear HP HAC hg
              have hfl := HFL.out
              go_wp2_with fail
              refine (rdata_calls r 1048576 FIN (.slice px X cx) s.ax _ (HI.out.kp0 (by (repeat (first | exact Kp.refl _ _ | assumption | refine Kp.drew ?_ | refine Kp.drewN ?_ _ | refine Kp.alloc ?_ _ | (refine Kp.setCell ?_ (by first | (left; simp; done) | (right; simp; try omega)) _) | (refine Kp.trans' ?_ (by assumption) (by simp; try omega)))))).1 ((IsInts.owned HI.out.2.1.2.1).kp0 (by (repeat (first | exact Kp.refl _ _ | assumption | refine Kp.drew ?_ | refine Kp.drewN ?_ _ | refine Kp.alloc ?_ _ | (refine Kp.setCell ?_ (by first | (left; simp; done) | (right; simp; try omega)) _) | (refine Kp.trans' ?_ (by assumption) (by simp; try omega)))))) (fun k hk => by have := own_ge HI.out.2.1.2.1 k (blockOf_own hk); omega) (by have := HX.out; omega) (by decide)).mono ?_; rintro e w10 ⟨rfl, hw10, hk10⟩
              have Q10 := Lib.hid ((HI.out.kp0 (by (repeat (first | exact Kp.refl _ _ | assumption | refine Kp.drew ?_ | refine Kp.drewN ?_ _ | refine Kp.alloc ?_ _ | (refine Kp.setCell ?_ (by first | (left; simp; done) | (right; simp; try omega)) _) | (refine Kp.trans' ?_ (by assumption) (by simp; try omega)))))).wrote hw10 hk10)
              clear hw10 hk10 HI
              go_wp2_with fail
              refine (rdata_calls r 1048576 (FIN ++ s.ax) (.slice py Y cy) s.ay _ (Q10.out.kp0 (by (repeat (first | exact Kp.refl _ _ | assumption | refine Kp.drew ?_ | refine Kp.drewN ?_ _ | refine Kp.alloc ?_ _ | (refine Kp.setCell ?_ (by first | (left; simp; done) | (right; simp; try omega)) _) | (refine Kp.trans' ?_ (by assumption) (by simp; try omega)))))).1 ((IsInts.owned Q10.out.2.1.2.2.1).kp0 (by (repeat (first | exact Kp.refl _ _ | assumption | refine Kp.drew ?_ | refine Kp.drewN ?_ _ | refine Kp.alloc ?_ _ | (refine Kp.setCell ?_ (by first | (left; simp; done) | (right; simp; try omega)) _) | (refine Kp.trans' ?_ (by assumption) (by simp; try omega)))))) (fun k hk => by have := own_ge Q10.out.2.1.2.2.1 k (blockOf_own hk); omega) (by have := HX.out; have := HY.out; rw [List.length_append]; omega) (by decide)).mono ?_; rintro e w11 ⟨rfl, hw11, hk11⟩
              have Q11 := Lib.hid ((Q10.out.kp0 (by (repeat (first | exact Kp.refl _ _ | assumption | refine Kp.drew ?_ | refine Kp.drewN ?_ _ | refine Kp.alloc ?_ _ | (refine Kp.setCell ?_ (by first | (left; simp; done) | (right; simp; try omega)) _) | (refine Kp.trans' ?_ (by assumption) (by simp; try omega)))))).wrote hw11 hk11)
              obtain ⟨vo, hvo, hio, _⟩ := hw11
              have c0 : w11.cell? ⟨r, 0, none⟩ = some vo := by rw [cell_of_row w11 r 0 _ _ _ hvo]; rfl
              have HIO := Lib.hid hio
              clear hk11 hvo hio Q10
              go_wp2_with fail
              go_ret2
              rw [HRS.out, HE.out]
              exact ⟨vo, rfl, HIO.out.kp0 (by (repeat (first | exact Kp.refl _ _ | assumption | refine Kp.drew ?_ | refine Kp.drewN ?_ _ | refine Kp.alloc ?_ _ | (refine Kp.setCell ?_ (by first | (left; simp; done) | (right; simp; try omega)) _) | (refine Kp.trans' ?_ (by assumption) (by simp; try omega))))), Q11.out.2.2.1.trans (by (repeat (first | exact Kp.refl _ _ | assumption | refine Kp.drew ?_ | refine Kp.drewN ?_ _ | refine Kp.alloc ?_ _ | (refine Kp.setCell ?_ (by first | (left; simp; done) | (right; simp; try omega)) _) | (refine Kp.trans' ?_ (by assumption) (by simp; try omega)))))⟩
end Go.Proofs.YtafkhnlmipddmaaGreat

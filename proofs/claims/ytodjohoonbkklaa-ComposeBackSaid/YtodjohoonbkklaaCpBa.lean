/- compose: what was encoded is decoded, in plain Lean. -/
import Derived.Test.YtodjohoonbkklaaCpU
import Derived.Test.YtodjohoonbkklaaCpK
namespace Go.Proofs.Ytodjohoonbkklaa
open Go.RowKit
set_option linter.unusedVariables false
set_option linter.unusedSimpArgs false
theorem beN_b1 (x : Int) : beN (bytesN 1 x) = x % 256 := by simp [beN, bytesN]
theorem beN_b2 (x : Int) : beN (bytesN 2 x) = x % 65536 := by simp [beN, bytesN]; omega
theorem rd_at (zs rest : List Int) (k m : Nat) (x : Int) (hm : 0 < m) (hd : zs.drop k = bytesN m x ++ rest) : stp zs m (k, false) = (k + m, false) ∧ val zs m (k, false) = beN (bytesN m x) ∧ zs.drop (k + m) = rest := by
  have hl := congrArg List.length hd
  rw [List.length_drop, List.length_append, bytesN_length] at hl
  have hb : rdB zs k false m = false := by unfold rdB; simp; omega
  refine ⟨?_, ?_, ?_⟩
  · unfold stp rdK; dsimp only; rw [hb]; rfl
  · unfold val rdV; dsimp only; rw [hb]
    have : cutB zs k m = bytesN m x := by
      unfold cutB; rw [hd, List.take_left' (bytesN_length m x)]
    rw [this]; rfl
  · rw [← List.drop_drop, hd, List.drop_left' (bytesN_length m x)]
theorem head_back (zs rest : List Int) (k : Nat) (F g A B : Int) (n : Nat) (hn : n = argN (F % 4)) (h0 : 0 < n) (hF : 0 ≤ F ∧ F < 65536) (hg : 0 ≤ g ∧ g < 65536) (hA : argV (F % 4) (beN (bytesN n A)) = A) (hB : argV (F % 4) (beN (bytesN n B)) = B)
    (hd : zs.drop k = bytesN 2 F ++ (bytesN 2 g ++ (bytesN n A ++ (bytesN n B ++ rest)))) : headM zs (k, false) = ⟨F, g, A, B, (k + 2 + 2 + n + n, false)⟩ ∧ zs.drop (k + 2 + 2 + n + n) = rest := by
  obtain ⟨a1, a2, a3⟩ := rd_at zs _ k 2 F (by decide) hd
  obtain ⟨b1, b2, b3⟩ := rd_at zs _ (k + 2) 2 g (by decide) a3
  obtain ⟨c1, c2, c3⟩ := rd_at zs _ (k + 2 + 2) n A h0 b3
  obtain ⟨d1, d2, d3⟩ := rd_at zs _ (k + 2 + 2 + n) n B h0 c3
  have e1 : val zs 2 (k, false) = F := by rw [a2, beN_b2]; omega
  have e2 : val zs 2 (k + 2, false) = g := by rw [b2, beN_b2]; omega
  refine ⟨?_, d3⟩
  unfold headM
  dsimp only
  rw [e1, a1, e2, b1, ← hn, c1, c2, d1, d2, hA, hB]
theorem flag_bits : ∀ mf ∈ [(0 : Int), 8, 64, 128], ∀ tf ∈ [(0 : Int), 2050, 4098], ∀ g ∈ [(0 : Int), 32], ∀ y ∈ [(0 : Int), 1], (mf + tf + g + y) % 4 = tf % 4 + y ∧ bits .and .i64 (mf + tf + g + y) 200 = mf ∧ bits .and .i64 (mf + tf + g + y) 2 = tf % 4 ∧ bits .and .i64 (mf + tf + g + y) 6144 = tf - tf % 4 ∧ bits .and .i64 (mf + tf + g + y) 32 = g := by decide
theorem fitsM_bounds {a b c d : Int} (h : fitsM a b c d = true) : (-32768 ≤ a ∧ a < 32768) ∧ (-32768 ≤ b ∧ b < 32768) ∧ (-32768 ≤ c ∧ c < 32768) ∧ (-32768 ≤ d ∧ d < 32768) := by
  unfold fitsM s16B at h
  simp only [Bool.and_eq_true, decide_eq_true_eq] at h
  omega
theorem s16_b2 (x : Int) (h : -32768 ≤ x ∧ x < 32768) : s16 (beN (bytesN 2 x)) = x := by rw [beN_b2]; unfold s16; split <;> omega
theorem s8_b1 (x : Int) (h : -128 ≤ x ∧ x < 128) : s8 (beN (bytesN 1 x)) = x := by rw [beN_b1]; unfold s8; split <;> omega
/-- A part whose head is read, read on. -/
theorem mat_back (zs rest : List Int) (s0 k : Nat) (F g A B xx xy yx yy : Int) (hh : headM zs (s0, false) = ⟨F, g, A, B, (k, false)⟩) (hfit : fitsM xx xy yx yy = true) (hmat : bits .and .i64 F 200 = mflag xx xy yx yy)
    (hd : zs.drop k = (mnums xx xy yx yy).flatMap (bytesN 2) ++ rest) :
    partM zs (s0, false) = ({ bareM ⟨F, g, A, B, (k, false)⟩ with xx := xx, xy := xy, yx := yx, yy := yy }, decide (bits .and .i64 F 32 ≠ 0), true, (k + 2 * (mnums xx xy yx yy).length, false)) ∧ zs.drop (k + 2 * (mnums xx xy yx yy).length) = rest := by
  obtain ⟨q1, q2, q3, q4⟩ := fitsM_bounds hfit
  have hbare : (bareM ⟨F, g, A, B, (k, false)⟩).xx = 16384 ∧ (bareM ⟨F, g, A, B, (k, false)⟩).xy = 0 ∧ (bareM ⟨F, g, A, B, (k, false)⟩).yx = 0 ∧ (bareM ⟨F, g, A, B, (k, false)⟩).yy = 16384 := by
    unfold bareM; split <;> simp
  unfold partM matM
  rw [hh]
  dsimp only
  rw [hmat]
  generalize bareM ⟨F, g, A, B, (k, false)⟩ = p at *
  obtain ⟨pg, p1, p2, p3, p4, pm, pdx, pdy, pt, ppa, pch⟩ := p
  obtain ⟨rfl, rfl, rfl, rfl⟩ := hbare
  by_cases h1 : xx = 16384 ∧ xy = 0 ∧ yx = 0 ∧ yy = 16384
  · obtain ⟨rfl, rfl, rfl, rfl⟩ := h1
    exact ⟨rfl, hd⟩
  · have hf : mflag xx xy yx yy = if xy ≠ 0 ∨ yx ≠ 0 then 128 else if xx = yy then 8 else 64 := by unfold mflag; rw [if_neg h1]
    have hm : mnums xx xy yx yy = if xy ≠ 0 ∨ yx ≠ 0 then [xx, xy, yx, yy] else if xx = yy then [xx] else [xx, yy] := by unfold mnums; rw [if_neg h1]
    rw [hf, hm]
    rw [hm] at hd
    by_cases h2 : xy ≠ 0 ∨ yx ≠ 0
    · rw [if_pos h2] at hd ⊢
      rw [if_pos h2]
      simp only [List.flatMap_cons, List.flatMap_nil, List.append_nil, List.append_assoc] at hd
      obtain ⟨a1, a2, a3⟩ := rd_at zs _ k 2 xx (by decide) hd
      obtain ⟨b1, b2, b3⟩ := rd_at zs _ (k + 2) 2 xy (by decide) a3
      obtain ⟨c1, c2, c3⟩ := rd_at zs _ (k + 2 + 2) 2 yx (by decide) b3
      obtain ⟨d1, d2, d3⟩ := rd_at zs _ (k + 2 + 2 + 2) 2 yy (by decide) c3
      rw [a1, b1, c1, d1, a2, b2, c2, d2, s16_b2 _ q1, s16_b2 _ q2, s16_b2 _ q3, s16_b2 _ q4]
      exact ⟨rfl, d3⟩
    · have hb : xy = 0 := by omega
      have hc : yx = 0 := by omega
      subst hb; subst hc
      rw [if_neg h2] at hd ⊢
      rw [if_neg h2]
      by_cases h3 : xx = yy
      · rw [if_pos h3] at hd ⊢
        rw [if_pos h3]
        subst h3
        simp only [List.flatMap_cons, List.flatMap_nil, List.append_nil, List.append_assoc] at hd
        obtain ⟨a1, a2, a3⟩ := rd_at zs _ k 2 xx (by decide) hd
        rw [a1, a2, s16_b2 _ q1]
        exact ⟨rfl, a3⟩
      · rw [if_neg h3] at hd ⊢
        rw [if_neg h3]
        simp only [List.flatMap_cons, List.flatMap_nil, List.append_nil, List.append_assoc] at hd
        obtain ⟨a1, a2, a3⟩ := rd_at zs _ k 2 xx (by decide) hd
        obtain ⟨b1, b2, b3⟩ := rd_at zs _ (k + 2) 2 yy (by decide) a3
        rw [a1, b1, a2, b2, s16_b2 _ q1, s16_b2 _ q4]
        exact ⟨rfl, b3⟩
theorem bare_is (F g A B xx xy yx yy dx dy pa ch : Int) (m t : Bool) (s : Rs) (h2 : stepB F = !m) (ht : m = false → turnB F = t) (h : (m = true ∧ A = pa ∧ B = ch ∧ dx = 0 ∧ dy = 0 ∧ t = false) ∨ (m = false ∧ A = dx ∧ B = dy ∧ pa = 0 ∧ ch = 0)) :
    ({ bareM ⟨F, g, A, B, s⟩ with xx := xx, xy := xy, yx := yx, yy := yy } : Pt) = ⟨g, xx, xy, yx, yy, m, dx, dy, t, pa, ch⟩ := by
  unfold bareM
  dsimp only
  rw [h2]
  rcases h with ⟨rfl, rfl, rfl, rfl, rfl, rfl⟩ | ⟨rfl, rfl, rfl, rfl, rfl⟩
  · rfl
  · rw [ht rfl]; rfl
theorem bothB_iff (a b lo hi : Int) : bothB a b lo hi = true ↔ lo ≤ a ∧ lo ≤ b ∧ a ≤ hi ∧ b ≤ hi := by
  unfold bothB
  simp only [Bool.and_eq_true, decide_eq_true_eq]
  omega
/-- A part that is read where it was put. -/
theorem part_back (zs rest : List Int) (k : Nat) (p : Pt) (G : Bool) (hm : mayPt p = true) (hd : zs.drop k = putM p G ++ rest) :
    partM zs (k, false) = (p, G, true, (k + (putM p G).length, false)) ∧ zs.drop (k + (putM p G).length) = rest := by
  obtain ⟨g, xx, xy, yx, yy, m, dx, dy, t, pa, ch⟩ := p
  obtain ⟨hg, hfit, hk⟩ := may_parts hm
  have hmf := mflag_cases xx xy yx yy
  obtain ⟨tf, htf, htm⟩ : ∃ tf, tflag ⟨g, xx, xy, yx, yy, m, dx, dy, t, pa, ch⟩ = tf ∧ tf ∈ [(0 : Int), 2050, 4098] := ⟨_, rfl, by unfold tflag; dsimp only; cases m <;> cases t <;> simp⟩
  obtain ⟨gf, hgf, hgm⟩ : ∃ gf, (if G then (32 : Int) else 0) = gf ∧ gf ∈ [(0 : Int), 32] := ⟨_, rfl, by cases G <;> simp⟩
  obtain ⟨yf, hyf, hym⟩ : ∃ yf, (if tinyB ⟨g, xx, xy, yx, yy, m, dx, dy, t, pa, ch⟩ then (0 : Int) else 1) = yf ∧ yf ∈ [(0 : Int), 1] := ⟨_, rfl, by split <;> simp⟩
  obtain ⟨b1, b2, b3, b4, b5⟩ := flag_bits (mflag xx xy yx yy) (by simpa using hmf) tf htm gf hgm yf hym
  have hF : flagsM ⟨g, xx, xy, yx, yy, m, dx, dy, t, pa, ch⟩ G = mflag xx xy yx yy + tf + gf + yf := by unfold flagsM; dsimp only; rw [htf, hgf, hyf]
  have hF0 : 0 ≤ mflag xx xy yx yy + tf + gf + yf ∧ mflag xx xy yx yy + tf + gf + yf < 65536 := by
    simp at htm hgm hym; omega
  unfold putM at hd ⊢
  rw [hF] at hd ⊢
  dsimp only at hd ⊢
  simp only [List.append_assoc] at hd
  generalize mflag xx xy yx yy + tf + gf + yf = F at *
  obtain ⟨A, hA⟩ : ∃ A, numA ⟨g, xx, xy, yx, yy, m, dx, dy, t, pa, ch⟩ = A := ⟨_, rfl⟩
  obtain ⟨B, hB⟩ : ∃ B, numB ⟨g, xx, xy, yx, yy, m, dx, dy, t, pa, ch⟩ = B := ⟨_, rfl⟩
  obtain ⟨n, hn⟩ : ∃ n, lenN ⟨g, xx, xy, yx, yy, m, dx, dy, t, pa, ch⟩ = n := ⟨_, rfl⟩
  rw [hA, hB, hn] at hd ⊢
  have hread : n = argN (F % 4) ∧ 0 < n ∧ argV (F % 4) (beN (bytesN n A)) = A ∧ argV (F % 4) (beN (bytesN n B)) = B ∧ stepB F = !m ∧ (m = false → turnB F = t) := by
    rw [b1]
    unfold numA at hA; unfold numB at hB; unfold lenN at hn; unfold tflag at htf
    unfold stepB turnB; rw [b3, b4]
    rcases hk with ⟨rfl, ha, hb, rfl, rfl, rfl⟩ | ⟨rfl, ha, hb, rfl, rfl⟩
    · dsimp only at hA hB hn htf hyf
      simp only [if_true] at hA hB htf
      subst hA hB htf
      have htb : tinyB ⟨g, xx, xy, yx, yy, true, 0, 0, false, pa, ch⟩ = bothB pa ch 0 255 := rfl
      rw [htb] at hn hyf
      cases hY : bothB pa ch 0 255
      · rw [hY] at hn hyf
        simp only [Bool.false_eq_true, if_false] at hn hyf
        subst hn hyf
        refine ⟨rfl, by decide, ?_, ?_, rfl, by simp⟩ <;> (show beN _ = _) <;> rw [beN_b2] <;> omega
      · rw [hY] at hn hyf
        simp only [if_true] at hn hyf
        subst hn hyf
        obtain ⟨y1, y2, y3, y4⟩ := (bothB_iff _ _ _ _).1 hY
        refine ⟨rfl, by decide, ?_, ?_, rfl, by simp⟩ <;> (show beN _ = _) <;> rw [beN_b1] <;> omega
    · dsimp only at hA hB hn htf hyf
      simp only [Bool.false_eq_true, if_false] at hA hB htf
      subst hA hB
      have htb : tinyB ⟨g, xx, xy, yx, yy, false, dx, dy, t, 0, 0⟩ = bothB dx dy (-128) 127 := rfl
      rw [htb] at hn hyf
      have h4 : tf % 4 = 2 ∧ decide (tf - tf % 4 = 2048) = t := by cases t <;> (simp only [Bool.false_eq_true, if_false, if_true] at htf; subst htf; decide)
      rw [h4.2]; rw [h4.1]
      cases hY : bothB dx dy (-128) 127
      · rw [hY] at hn hyf
        simp only [Bool.false_eq_true, if_false] at hn hyf
        subst hn hyf
        refine ⟨rfl, by decide, ?_, ?_, rfl, fun _ => rfl⟩ <;> (show s16 (beN _) = _) <;> exact s16_b2 _ (by omega)
      · rw [hY] at hn hyf
        simp only [if_true] at hn hyf
        subst hn hyf
        obtain ⟨y1, y2, y3, y4⟩ := (bothB_iff _ _ _ _).1 hY
        refine ⟨rfl, by decide, ?_, ?_, rfl, fun _ => rfl⟩ <;> (show s8 (beN _) = _) <;> exact s8_b1 _ (by omega)
  obtain ⟨r1, r2, r3, r4, r5, r6⟩ := hread
  obtain ⟨hh, hd2⟩ := head_back zs _ k F g A B n r1 r2 hF0 hg r3 r4 hd
  obtain ⟨hp, hd3⟩ := mat_back zs rest k _ F g A B xx xy yx yy hh hfit b2 hd2
  have hlen : (bytesN 2 F ++ bytesN 2 g ++ bytesN n A ++ bytesN n B ++ (mnums xx xy yx yy).flatMap (bytesN 2)).length = 2 + 2 + n + n + 2 * (mnums xx xy yx yy).length := by
    simp only [List.length_append, bytesN_length, flat2_len]
  rw [hlen, show k + (2 + 2 + n + n + 2 * (mnums xx xy yx yy).length) = k + 2 + 2 + n + n + 2 * (mnums xx xy yx yy).length by omega]
  refine ⟨?_, hd3⟩
  rw [hp, bare_is F g A B xx xy yx yy dx dy pa ch m t _ r5 r6 ?_, b5]
  · congr 2
    subst hgf; cases G <;> rfl
  · unfold numA at hA; unfold numB at hB
    rcases hk with ⟨rfl, ha, hb, rfl, rfl, rfl⟩ | ⟨rfl, ha, hb, rfl, rfl⟩
    · exact .inl ⟨rfl, hA.symm, hB.symm, rfl, rfl, rfl⟩
    · exact .inr ⟨rfl, hA.symm, hB.symm, rfl, rfl⟩
/-- The bytes of so many parts from the j-th on. -/
def encT (l : List Pt) : Nat → Nat → List Int
  | _, 0 => []
  | j, n + 1 => putM (l.getD j pt0) (decide (j + 1 < l.length)) ++ encT l (j + 1) n
theorem encPre_T (l : List Pt) : ∀ n j, encPre l j ++ encT l j n = encPre l (j + n) := by
  intro n
  induction n with
  | zero => intro j; simp [encT]
  | succ n ih =>
    intro j
    rw [encT, ← List.append_assoc, show encPre l j ++ putM (l.getD j pt0) (decide (j + 1 < l.length)) = encPre l (j + 1) from rfl, ih, show j + 1 + n = j + (n + 1) by omega]
theorem decGo_back (l : List Pt) (zs behind : List Int) (hm : ∀ p ∈ l, mayPt p = true) (h64 : l.length ≤ 64) : ∀ n j k, j + (n + 1) = l.length → zs.drop k = encT l j (n + 1) ++ behind → decGo zs (64 - j) (k, false) (l.take j) = (l, 0) := by
  intro n
  induction n with
  | zero =>
    intro j k hj hd
    rw [encT, encT, List.append_nil] at hd
    have hjl : j < l.length := by omega
    obtain ⟨hp, _⟩ := part_back zs behind k (l.getD j pt0) _ (hm _ (by rw [List.getD_eq_getElem?_getD, List.getElem?_eq_getElem hjl]; exact List.getElem_mem _)) hd
    rw [show 64 - j = (64 - (j + 1)) + 1 by omega, decGo, hp]
    dsimp only
    rw [if_neg (by simp), if_pos (by simp; omega), ← take_snoc l j pt0 hjl, List.take_of_length_le (by omega)]
  | succ n ih =>
    intro j k hj hd
    rw [encT, List.append_assoc] at hd
    have hjl : j < l.length := by omega
    obtain ⟨hp, hd2⟩ := part_back zs _ k (l.getD j pt0) _ (hm _ (by rw [List.getD_eq_getElem?_getD, List.getElem?_eq_getElem hjl]; exact List.getElem_mem _)) hd
    rw [show 64 - j = (64 - (j + 1)) + 1 by omega, decGo, hp]
    dsimp only
    rw [if_neg (by simp), if_neg (by simp; omega), ← take_snoc l j pt0 hjl]
    exact ih (j + 1) _ (by omega) hd2
theorem dec_back (l : List Pt) (behind : List Int) (hm : ∀ p ∈ l, mayPt p = true) (h0 : 0 < l.length) (h64 : l.length ≤ 64) : decM ((encH ++ encPre l l.length) ++ behind) = (l, 0) := by
  have hd : ((encH ++ encPre l l.length) ++ behind).drop 0 = bytesN 2 (-1) ++ (bytesN 8 0 ++ (encT l 0 l.length ++ behind)) := by
    have h := encPre_T l l.length 0
    rw [Nat.zero_add] at h
    rw [← h]; rfl
  obtain ⟨a1, a2, a3⟩ := rd_at _ _ 0 2 (-1) (by decide) hd
  obtain ⟨b1, b2, b3⟩ := rd_at _ _ (0 + 2) 8 0 (by decide) a3
  unfold decM
  dsimp only
  rw [a1, b1, a2]
  rw [if_neg (by rw [s16_b2 _ (by decide)]; simp)]
  obtain ⟨n, hn⟩ : ∃ n, l.length = n + 1 := ⟨l.length - 1, by omega⟩
  have := decGo_back l ((encH ++ encPre l l.length) ++ behind) behind hm h64 n 0 (0 + 2 + 8) (by omega) (by rw [← hn]; exact b3)
  exact this
theorem putM_bytes (p : Pt) (G : Bool) : ∀ c ∈ putM p G, 0 ≤ c ∧ c ≤ 255 := by
  have hb : ∀ n x, ∀ c ∈ bytesN n x, 0 ≤ c ∧ c ≤ 255 := by
    intro n
    induction n with
    | zero => intro x c hc; simp [bytesN] at hc
    | succ n ih =>
      intro x c hc
      unfold bytesN at hc
      rcases List.mem_cons.1 hc with rfl | h
      · omega
      · exact ih x c h
  intro c hc
  unfold putM at hc
  simp only [List.mem_append, List.mem_flatMap] at hc
  rcases hc with (((h | h) | h) | h) | ⟨x, _, h⟩ <;> exact hb _ _ c h
theorem enc_bytes (l : List Pt) (j : Nat) : ∀ c ∈ encH ++ encPre l j, 0 ≤ c ∧ c ≤ 255 := by
  induction j with
  | zero => unfold encPre; decide
  | succ j ih =>
    intro c hc
    rw [show encPre l (j + 1) = encPre l j ++ putM (l.getD j pt0) (decide (j + 1 < l.length)) from rfl, ← List.append_assoc] at hc
    rcases List.mem_append.1 hc with h | h
    · exact ih c h
    · exact putM_bytes _ _ c h
end Go.Proofs.Ytodjohoonbkklaa

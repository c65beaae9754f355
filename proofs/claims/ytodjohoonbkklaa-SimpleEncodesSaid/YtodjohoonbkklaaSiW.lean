/- simple: no beginning of a glyph's bytes is a glyph (plain). -/
import Derived.Test.YtodjohoonbkklaaSiV
namespace Go.Proofs.Ytodjohoonbkklaa
open Go.RowKit
set_option linter.unusedVariables false
set_option linter.unusedSimpArgs false
/-- Where a reader of the first n bytes stands, against a reader of all. -/
def Cut (n : Nat) (s s' : Rs) : Prop := (s' = s ∧ s.2 = false ∧ s.1 ≤ n) ∨ s'.2 = true
theorem stp_bad (zs : List Int) (m : Nat) (s : Rs) (h : s.2 = true) : stp zs m s = s ∧ val zs m s = 0 := by
  obtain ⟨k, b⟩ := s
  dsimp only at h; subst h
  exact ⟨by simp [stp, rdK, rdB], by simp [val, rdV, rdB]⟩
theorem stp_cut (zs : List Int) (n m : Nat) (s s' : Rs) (h : Cut n s s') (hg : (stp zs m s).2 = false) : Cut n (stp zs m s) (stp (zs.take n) m s') ∧ ((stp (zs.take n) m s').2 = false → val (zs.take n) m s' = val zs m s) := by
  rcases h with ⟨rfl, h2, h3⟩ | h
  · obtain ⟨k, b⟩ := s'
    dsimp only at h2 h3; subst h2
    have hb : rdB zs k false m = false := hg
    have hl : k + m ≤ zs.length := by unfold rdB at hb; simpa using hb
    have hgood : stp zs m (k, false) = (k + m, false) := by unfold stp rdK; dsimp only; rw [hb]; rfl
    by_cases hc : k + m ≤ n
    · have hb2 : rdB (zs.take n) k false m = false := by unfold rdB; simp; omega
      have h4 : stp (zs.take n) m (k, false) = (k + m, false) := by unfold stp rdK; dsimp only; rw [hb2]; rfl
      refine ⟨.inl ⟨by rw [h4, hgood], by rw [hgood], by rw [hgood]; exact hc⟩, fun _ => ?_⟩
      unfold val rdV
      dsimp only
      rw [hb, hb2]
      have : cutB (zs.take n) k m = cutB zs k m := by
        unfold cutB
        rw [List.drop_take, List.take_take, Nat.min_eq_left (by omega)]
      rw [this]
    · have hb2 : rdB (zs.take n) k false m = true := by unfold rdB; simp; omega
      have h4 : (stp (zs.take n) m (k, false)).2 = true := hb2
      exact ⟨.inr h4, fun h => by rw [h4] at h; cases h⟩
  · have := stp_bad (zs.take n) m s' h
    exact ⟨.inr (by rw [this.1]; exact h), fun hh => by rw [this.1, h] at hh; cases hh⟩
theorem stp_good {zs : List Int} {m : Nat} {s : Rs} (h : (stp zs m s).2 = false) : s.2 = false := by
  by_cases hs : s.2 = true
  · rw [(stp_bad zs m s hs).1] at h; exact h
  · simpa using hs
theorem endsR_good (zs : List Int) : ∀ (N : Nat) (last : Int) (s : Rs) (l : List Int), (endsR zs N last s l).2.1 = 0 → (endsR zs N last s l).2.2.2 = false → s.2 = false := by
  intro N
  induction N with
  | zero => intro last s l _ h; exact h
  | succ N ih =>
    intro last s l h1 h2
    rw [endsR] at h1 h2
    by_cases hc : (stp zs 2 s).2 = true ∨ val zs 2 s ≤ last
    · rw [if_pos hc] at h1; simp at h1
    · rw [if_neg hc] at h1 h2
      by_cases hd : 4096 ≤ val zs 2 s
      · rw [if_pos hd] at h1; simp at h1
      · have : (stp zs 2 s).2 = false := by simpa using fun e => hc (.inl e)
        exact stp_good this
theorem endsR_cut (zs : List Int) (n : Nat) : ∀ (N : Nat) (last : Int) (s s' : Rs) (l : List Int), Cut n s s' → (endsR zs N last s l).2.1 = 0 →
    (endsR (zs.take n) N last s' l).2.1 = 110 ∧ (endsR (zs.take n) N last s' l).1 = [] ∨ ∃ s1', endsR (zs.take n) N last s' l = ((endsR zs N last s l).1, 0, s1') ∧ Cut n (endsR zs N last s l).2.2 s1' := by
  intro N
  induction N with
  | zero => intro last s s' l h _; exact .inr ⟨s', rfl, h⟩
  | succ N ih =>
    intro last s s' l h h1
    rw [endsR] at h1
    rw [endsR, endsR]
    by_cases hc : (stp zs 2 s).2 = true ∨ val zs 2 s ≤ last
    · rw [if_pos hc] at h1; simp at h1
    · rw [if_neg hc] at h1 ⊢
      by_cases hd : 4096 ≤ val zs 2 s
      · rw [if_pos hd] at h1; simp at h1
      · rw [if_neg hd] at h1 ⊢
        have hg : (stp zs 2 s).2 = false := by simpa using fun e => hc (.inl e)
        obtain ⟨c1, c2⟩ := stp_cut zs n 2 s s' h hg
        by_cases hb : (stp (zs.take n) 2 s').2 = true
        · rw [if_pos (.inl hb)]; exact .inl ⟨rfl, rfl⟩
        · have hb : (stp (zs.take n) 2 s').2 = false := by simpa using hb
          rw [c2 hb, if_neg (by rintro (e | e); rw [hb] at e; cases e; exact hc (.inr e)), if_neg hd]
          exact ih _ _ _ _ c1 h1
theorem flS_cut (zs : List Int) (n : Nat) (s : Rs) (h0 : s.2 = false) (hn : s.1 ≤ n) (hg : (flS zs s).2 = false) : Cut n (flS zs s) (flS (zs.take n) s) ∧ ((flS (zs.take n) s).2 = false → flM (zs.take n) s = flM zs s ∧ val (zs.take n) 1 s = val zs 1 s) := by
  have hg1 : (stp zs 1 s).2 = false := by
    unfold flS at hg
    split at hg
    · exact hg
    · exact stp_good hg
  obtain ⟨c1, c2⟩ := stp_cut zs n 1 s s (.inl ⟨rfl, h0, hn⟩) hg1
  by_cases hb : (stp (zs.take n) 1 s).2 = true
  · have hbad : (flS (zs.take n) s).2 = true := by
      unfold flS
      split
      · exact hb
      · rw [(stp_bad _ 1 _ hb).1]; exact hb
    exact ⟨.inr hbad, fun e => by rw [hbad] at e; cases e⟩
  · have hb : (stp (zs.take n) 1 s).2 = false := by simpa using hb
    have hv := c2 hb
    unfold flS at hg ⊢
    unfold flM
    rw [hv]
    by_cases h8 : bits .and .i64 (val zs 1 s) 8 = 0
    · rw [if_pos h8, if_pos h8, if_pos h8, if_pos h8]
      exact ⟨c1, fun _ => ⟨rfl, rfl⟩⟩
    · rw [if_neg h8] at hg
      rw [if_neg h8, if_neg h8, if_neg h8, if_neg h8]
      obtain ⟨d1, d2⟩ := stp_cut zs n 1 _ _ c1 hg
      exact ⟨d1, fun e => ⟨d2 e, rfl⟩⟩
theorem flagsR_cut (zs : List Int) (n N : Nat) : ∀ (f : Nat) (s : Rs) (l : List Int) (q : List Int × Rs), s.2 = false → s.1 ≤ n → flagsR zs N f s l = some q →
    flagsR (zs.take n) N f s l = none ∨ (flagsR (zs.take n) N f s l = some q ∧ q.2.2 = false ∧ q.2.1 ≤ n) := by
  intro f
  induction f with
  | zero => intro s l q _ _ h; cases h
  | succ f ih =>
    intro s l q h0 hn h
    rw [flagsR] at h ⊢
    by_cases hl : N ≤ l.length
    · rw [if_pos hl] at h ⊢
      have := Option.some.inj h
      subst this
      exact .inr ⟨rfl, h0, hn⟩
    · rw [if_neg hl] at h ⊢
      by_cases hc : (flS zs s).2 = true ∨ (N : Int) - (l.length : Int) ≤ flM zs s
      · rw [if_pos hc] at h; cases h
      · rw [if_neg hc] at h
        have hg : (flS zs s).2 = false := by simpa using fun e => hc (.inl e)
        obtain ⟨c1, c2⟩ := flS_cut zs n s h0 hn hg
        by_cases hb : (flS (zs.take n) s).2 = true
        · rw [if_pos (.inl hb)]; exact .inl rfl
        · have hb : (flS (zs.take n) s).2 = false := by simpa using hb
          obtain ⟨m1, m2⟩ := c2 hb
          rw [m1, m2, if_neg (by rintro (e | e); rw [hb] at e; cases e; exact hc (.inr e))]
          rcases c1 with ⟨e, e2, e3⟩ | e
          · rw [e]; exact ih _ _ q e2 e3 h
          · rw [hb] at e; cases e
theorem stV_bad (zs : List Int) (sh sa f : Int) (s : Rs) (h : s.2 = true) : (stV zs sh sa f s).2.2 = true := by
  unfold stV
  have h1 := (stp_bad zs 1 s h).1
  have h2 := (stp_bad zs 2 s h).1
  rw [h1, h2]
  repeat (first | exact h | split)
theorem steps_bad (zs : List Int) (sh sa : Int) : ∀ (fl : List Int) (x : Int) (s : Rs) (acc : List Int), s.2 = true → (stepsR zs sh sa fl x s acc).2.2 = true := by
  intro fl
  induction fl with
  | nil => intro x s acc h; exact h
  | cons f fl ih =>
    intro x s acc h
    rw [stepsR]
    have := stV_bad zs sh sa f s h
    split
    · exact ih _ _ _ this
    · exact this
theorem stV_cut (zs : List Int) (n : Nat) (sh sa f : Int) (s : Rs) (h0 : s.2 = false) (hn : s.1 ≤ n) (hg : (stV zs sh sa f s).2.2 = false) : (stV (zs.take n) sh sa f s).2.2 = true ∨ (stV (zs.take n) sh sa f s = stV zs sh sa f s ∧ (stV zs sh sa f s).2.1 ≤ n) := by
  have key : ∀ m, (stp zs m s).2 = false → (stp (zs.take n) m s).2 = true ∨ (stp (zs.take n) m s = stp zs m s ∧ val (zs.take n) m s = val zs m s ∧ (stp zs m s).1 ≤ n) := by
    intro m hm
    obtain ⟨c1, c2⟩ := stp_cut zs n m s s (.inl ⟨rfl, h0, hn⟩) hm
    by_cases hb : (stp (zs.take n) m s).2 = true
    · exact .inl hb
    · have hb : (stp (zs.take n) m s).2 = false := by simpa using hb
      rcases c1 with ⟨e, _, e3⟩ | e
      · exact .inr ⟨e, c2 hb, e3⟩
      · rw [hb] at e; cases e
  unfold stV at hg ⊢
  by_cases h1 : bits .and .i64 f sh ≠ 0
  · rw [if_pos h1] at hg
    rw [if_pos h1, if_pos h1]
    by_cases h2 : bits .and .i64 f sa ≠ 0
    · rw [if_pos h2] at hg
      rw [if_pos h2, if_pos h2]
      rcases key 1 hg with e | ⟨e1, e2, e3⟩
      · exact .inl e
      · exact .inr ⟨by rw [e1, e2], e3⟩
    · rw [if_neg h2] at hg
      rw [if_neg h2, if_neg h2]
      rcases key 1 hg with e | ⟨e1, e2, e3⟩
      · exact .inl e
      · exact .inr ⟨by rw [e1, e2], e3⟩
  · rw [if_neg h1] at hg
    rw [if_neg h1, if_neg h1]
    by_cases h2 : bits .and .i64 f sa = 0
    · rw [if_pos h2] at hg
      rw [if_pos h2, if_pos h2]
      rcases key 2 hg with e | ⟨e1, e2, e3⟩
      · exact .inl e
      · exact .inr ⟨by rw [e1, e2], e3⟩
    · rw [if_neg h2, if_neg h2]
      exact .inr ⟨rfl, hn⟩
theorem stepsR_cut (zs : List Int) (n : Nat) (sh sa : Int) : ∀ (fl : List Int) (x : Int) (s : Rs) (acc : List Int) (q : List Int) (s1 : Rs), s.2 = false → s.1 ≤ n → stepsR zs sh sa fl x s acc = (some q, s1) → s1.2 = false →
    (stepsR (zs.take n) sh sa fl x s acc).2.2 = true ∨ (stepsR (zs.take n) sh sa fl x s acc = (some q, s1) ∧ s1.1 ≤ n) := by
  intro fl
  induction fl with
  | nil =>
    intro x s acc q s1 h0 hn h hg
    refine .inr ⟨h, ?_⟩
    have : s = s1 := congrArg Prod.snd h
    rw [← this]; exact hn
  | cons f fl ih =>
    intro x s acc q s1 h0 hn h hg
    rw [stepsR] at h ⊢
    have hv : (stV zs sh sa f s).2.2 = false := by
      by_cases hb : (stV zs sh sa f s).2.2 = true
      · exfalso
        split at h
        · have := steps_bad zs sh sa fl (x + (stV zs sh sa f s).1) _ (acc ++ [x + (stV zs sh sa f s).1]) hb
          rw [h, hg] at this; cases this
        · cases h
      · simpa using hb
    rcases stV_cut zs n sh sa f s h0 hn hv with e | ⟨e, e2⟩
    · left
      split
      · exact steps_bad _ _ _ _ _ _ _ e
      · exact e
    · rw [e]
      split at h
      · rename_i hu
        rw [if_pos hu]
        exact ih _ _ _ q s1 hv e2 h hg
      · cases h
theorem DecB.cut {zs : List Int} {N : Nat} {es fl xs ys : List Int} {k1 k2 e : Nat} (h : DecB zs N es fl xs ys k1 k2 e) (n : Nat) (h1 : 1 ≤ n) (hn : n < e) (hl : n ≤ zs.length) : decS (zs.take n) = ([], 110) := by
  have hlen : (zs.take n).length = n := by rw [List.length_take]; omega
  unfold decS
  rw [if_neg (by rw [hlen]; omega)]
  obtain ⟨c1, c2⟩ := stp_cut zs n 2 (0, false) (0, false) (.inl ⟨rfl, rfl, by omega⟩) (by rw [h.h2])
  by_cases hb : (stp (zs.take n) 2 (0, false)).2 = true
  · rw [if_pos (.inl hb)]
  · have hb : (stp (zs.take n) 2 (0, false)).2 = false := by simpa using hb
    rw [c2 hb, h.hN, if_neg (by rintro (e | e); rw [hb] at e; cases e; omega), if_neg (by have := h.n0; omega), show ((N : Int)).toNat = N by omega]
    rw [h.h2] at c1
    obtain ⟨c3, _⟩ := stp_cut zs n 8 _ _ c1 (by rw [h.h8])
    rw [h.h8] at c3
    unfold decE
    rcases endsR_cut zs n N (-1) _ _ [] c3 (by rw [h.hE]) with ⟨g1, _⟩ | ⟨s1', g1, g2⟩
    · rw [g1, if_pos (by decide)]
    · rw [h.hE] at g1 g2
      rw [g1]
      dsimp only at g2 ⊢
      rw [if_neg (by simp)]
      obtain ⟨c4, c5⟩ := stp_cut zs n 2 _ _ g2 (by rw [h.hI])
      rw [h.hI] at c4
      unfold decF
      by_cases hb2 : (stp (zs.take n) 2 s1').2 = true
      · rw [if_pos (by rw [(stp_bad _ _ _ hb2).1]; exact hb2)]
      · have hb2 : (stp (zs.take n) 2 s1').2 = false := by simpa using hb2
        rw [c5 hb2, h.hI2, show (0 : Int).toNat = 0 from rfl]
        obtain ⟨c6, _⟩ := stp_cut zs n 0 _ _ c4 (by rw [h.hI3])
        rw [h.hI3] at c6
        by_cases hb3 : (stp (zs.take n) 0 (stp (zs.take n) 2 s1')).2 = true
        · rw [if_pos hb3]
        · rw [if_neg hb3]
          rcases c6 with ⟨e1, e2, e3⟩ | e1
          · rw [e1]
            rcases flagsR_cut zs n _ _ _ _ _ e2 e3 h.hF with f1 | ⟨f1, f2, f3⟩
            · rw [f1]
            · rw [f1]
              dsimp only at f2 f3 ⊢
              unfold decG
              refine if_neg ?_
              rintro ⟨o1, o2⟩
              rcases stepsR_cut zs n 2 16 fl 0 _ [] xs _ f2 f3 h.hX rfl with p1 | ⟨p1, p2⟩
              · unfold okT at o1; rw [p1] at o1; simp at o1
              · rw [p1] at o2
                rcases stepsR_cut zs n 4 32 fl 0 _ [] ys _ rfl p2 h.hY rfl with p3 | ⟨p3, p4⟩
                · unfold okT at o2; rw [p3] at o2; simp at o2
                · dsimp only at p4; omega
          · exact absurd e1 hb3
theorem putB_bytes (d : Int) : ∀ c ∈ putB d, 0 ≤ c ∧ c ≤ 255 := by
  intro c hc
  unfold putB at hc
  split at hc
  · cases hc
  · split at hc
    · simp at hc; omega
    · split at hc
      · simp at hc; omega
      · simp at hc; omega
theorem pts_kinds {o : List (List Pn)} {t : EnS} (hE : checkO o = 0) (hR : encS (restF o 0) en0 = some t) : ∀ p ∈ restF o 0, p.k = 1 ∨ p.k = 2 := by
  obtain ⟨hz1, hz2, hz3⟩ := checkO_zero hE
  intro p hp
  have h1 := (encS_facts _ _ _ hR).2.2.2.2.2 p hp
  unfold restF at hp
  rw [List.drop_zero, List.mem_flatten] at hp
  obtain ⟨c, hc, hpc⟩ := hp
  obtain ⟨i, hi, rfl⟩ := List.mem_iff_getElem.1 hc
  obtain ⟨m, hm, rfl⟩ := List.mem_iff_getElem.1 hpc
  have h := hz3 i hi
  rw [List.getD_eq_getElem?_getD, List.getElem?_eq_getElem hi] at h
  have h2 := (mayCo_facts h).2.2 m hm
  unfold mayPn at h2
  simp only [Option.getD_some, List.getD_eq_getElem?_getD, List.getElem?_eq_getElem hm, Bool.and_eq_true, Bool.or_eq_true, beq_iff_eq] at h2
  unfold ptOk at h1
  simp only [Bool.and_eq_true, Bool.not_eq_true', decide_eq_false_iff_not] at h1
  rcases h2.2.2 with h3 | h3 | h3
  · exact .inl h3
  · exact .inr h3
  · exact absurd h3.1 h1.2.2
theorem packM_bytes : ∀ (g : Nat) (FL : List Int), (∀ c ∈ FL, FlG c) → ∀ c ∈ packM g FL, 0 ≤ c ∧ c ≤ 255 := by
  intro g
  induction g with
  | zero => intro FL _ c hc; simp [packM] at hc
  | succ g ih =>
    intro FL hG c hc
    cases FL with
    | nil => simp [packM] at hc
    | cons x xs =>
      obtain ⟨gb, _, gb2, _⟩ := hG x (List.mem_cons_self ..)
      have hr := (runLen_le (x :: xs)).2
      have r0 : 1 ≤ runLen (x :: xs) := by simp [runLen]
      rw [packM] at hc
      rcases List.mem_append.1 hc with h | h
      · split at h
        · simp only [List.mem_cons, List.not_mem_nil, or_false] at h
          rcases h with rfl | rfl
          · exact gb2
          · omega
        · simp at h; subst h; exact gb
      · exact ih _ (fun y hy => hG y (List.mem_of_mem_drop hy)) c h
theorem encEnds_bytes (o : List (List Pn)) : ∀ j, ∀ c ∈ encEnds o j, 0 ≤ c ∧ c ≤ 255 := by
  intro j
  induction j with
  | zero => intro c hc; simp [encEnds] at hc
  | succ j ih =>
    intro c hc
    rw [encEnds] at hc
    rcases List.mem_append.1 hc with h | h
    · exact ih c h
    · simp only [bytesN, List.mem_cons, List.not_mem_nil, or_false] at h
      rcases h with rfl | rfl <;> omega
/-- No beginning of what was encoded is a glyph. -/
theorem enc_cut (o : List (List Pn)) (b : Bx) (t : EnS) (hE : checkO o = 0) (h0 : o ≠ []) (hR : encS (restF o 0) en0 = some t) (n : Nat) (h1 : 1 ≤ n) (hn : n < (encB o b t).length) : decS ((encB o b t).take n) = ([], 110) := by
  obtain ⟨es, fl, xs, ys, k1, k2, h, _⟩ := enc_back o b t [] hE h0 hR
  rw [List.append_nil] at h
  exact h.cut n h1 hn (by omega)
theorem enc_dec (o : List (List Pn)) (b : Bx) (t : EnS) (behind : List Int) (hE : checkO o = 0) (h0 : o ≠ []) (hR : encS (restF o 0) en0 = some t) : decS (encB o b t ++ behind) = (o, 0) := by
  obtain ⟨es, fl, xs, ys, k1, k2, h, h2⟩ := enc_back o b t behind hE h0 hR
  rw [h.dec, h2]
end Go.Proofs.Ytodjohoonbkklaa

/- glyf: the bytes of an outline: how many, and what they may be (simple's SiW, SiX: the plain part). -/
import Derived.Test.YtafkhnlmipddmaaGreatGlU
import Derived.Deep.DeepCutAuto
namespace Go.Proofs.YtafkhnlmipddmaaGreat
open Go.RowKit
set_option linter.unusedVariables false
set_option linter.unusedSimpArgs false
theorem putB_bytes (d : Int) : ∀ c ∈ putB d, 0 ≤ c ∧ c ≤ 255 := by
  intro c hc
  unfold putB at hc
  split at hc
  · cases hc
  · split at hc
    · simp at hc; omega
    · split at hc
      · simp at hc; omega
      · simp at hc; omega
theorem pts_kinds {o : List (List Pn)} {t : EnS} (hE : checkO o = 0) (hR : encS (restF o 0) en0 = some t) : ∀ p ∈ restF o 0, p.k = 1 ∨ p.k = 2 := by
  obtain ⟨hz1, hz2, hz3⟩ := checkO_zero hE
  intro p hp
  have h1 := (encS_facts _ _ _ hR).2.2.2.2.2 p hp
  unfold restF at hp
  rw [List.drop_zero, List.mem_flatten] at hp
  obtain ⟨c, hc, hpc⟩ := hp
  obtain ⟨i, hi, rfl⟩ := List.mem_iff_getElem.1 hc
  obtain ⟨m, hm, rfl⟩ := List.mem_iff_getElem.1 hpc
  have h := hz3 i hi
  rw [List.getD_eq_getElem?_getD, List.getElem?_eq_getElem hi] at h
  have h2 := (mayCo_facts h).2.2 m hm
  unfold mayPn at h2
  simp only [Option.getD_some, List.getD_eq_getElem?_getD, List.getElem?_eq_getElem hm, Bool.and_eq_true, Bool.or_eq_true, beq_iff_eq] at h2
  unfold ptOk at h1
  simp only [Bool.and_eq_true, Bool.not_eq_true', decide_eq_false_iff_not] at h1
  rcases h2.2.2 with h3 | h3 | h3
  · exact .inl h3
  · exact .inr h3
  · exact absurd h3.1 h1.2.2
theorem packM_bytes : ∀ (g : Nat) (FL : List Int), (∀ c ∈ FL, FlG c) → ∀ c ∈ packM g FL, 0 ≤ c ∧ c ≤ 255 := by
  intro g
  induction g with
  | zero => intro FL _ c hc; simp [packM] at hc
  | succ g ih =>
    intro FL hG c hc
    cases FL with
    | nil => simp [packM] at hc
    | cons x xs =>
      obtain ⟨gb, _, gb2, _⟩ := hG x (List.mem_cons_self ..)
      have hr := (runLen_le (x :: xs)).2
      have r0 : 1 ≤ runLen (x :: xs) := by simp [runLen]
      rw [packM] at hc
      rcases List.mem_append.1 hc with h | h
      · split at h
        · simp only [List.mem_cons, List.not_mem_nil, or_false] at h
          rcases h with rfl | rfl
          · exact gb2
          · omega
        · simp at h; subst h; exact gb
      · exact ih _ (fun y hy => hG y (List.mem_of_mem_drop hy)) c h
theorem encEnds_bytes (o : List (List Pn)) : ∀ j, ∀ c ∈ encEnds o j, 0 ≤ c ∧ c ≤ 255 := by
  intro j
  induction j with
  | zero => intro c hc; simp [encEnds] at hc
  | succ j ih =>
    intro c hc
    rw [encEnds] at hc
    rcases List.mem_append.1 hc with h | h
    · exact ih c h
    · simp only [bytesN, List.mem_cons, List.not_mem_nil, or_false] at h
      rcases h with rfl | rfl <;> omega
theorem encB_facts (o : List (List Pn)) (b : Bx) (t : EnS) (hE : checkO o = 0) (hR : encS (restF o 0) en0 = some t) : 0 < (encB o b t).length ∧ (encB o b t).length ≤ 65536 ∧ ∀ c ∈ encB o b t, 0 ≤ c ∧ c ≤ 255 := by
  obtain ⟨hz1, hz2, hz3⟩ := checkO_zero hE
  obtain ⟨f1, f2, f3, f4, f5, f6⟩ := encS_facts _ _ _ hR
  have hcnt := flatTo_len o o.length (Nat.le_refl _)
  rw [← restF_zero o] at hcnt
  have hc : cntTo o o.length ≤ 4096 := hz2
  have f1' : t.fl = flsB en0.lx en0.ly (restF o 0) := by rw [f1]; rfl
  have f2' : t.ax = stsB 0 (uX (restF o 0)) := by rw [f2]; rfl
  have f3' : t.ay = stsB 0 (uY (restF o 0)) := by rw [f3]; rfl
  have hl : ∀ (xs : List Int) (l : Int), (stsB l xs).length ≤ 2 * xs.length := by
    intro xs
    induction xs with
    | nil => intro l; simp [stsB]
    | cons x xs ih => intro l; have a := putB_len (x - l); have b := ih x; simp only [stsB, List.length_append, List.length_cons]; omega
  have hbs : ∀ (xs : List Int) (l : Int), stsK l xs → ∀ c ∈ stsB l xs, 0 ≤ c ∧ c ≤ 255 := by
    intro xs
    induction xs with
    | nil => intro l _ c hc; simp [stsB] at hc
    | cons x xs ih =>
      intro l hk c hc
      rcases List.mem_append.1 hc with h | h
      · exact putB_bytes _ c h
      · exact ih x hk.2 c h
  have e1 := packM_len t.fl.length t.fl
  have l1 : t.fl.length ≤ 4096 := by rw [f1', flsB_len, hcnt]; exact hc
  have l2 : t.ax.length ≤ 8192 := by rw [f2']; have := hl (uX (restF o 0)) 0; simp only [uX, List.length_map] at this ⊢; omega
  have l3 : t.ay.length ≤ 8192 := by rw [f3']; have := hl (uY (restF o 0)) 0; simp only [uY, List.length_map] at this ⊢; omega
  have hlen : (encB o b t).length = 10 + 2 * o.length + 2 + (packM t.fl.length t.fl).length + t.ax.length + t.ay.length := by
    unfold encB; simp only [List.length_append, encTop_len, encEnds_len, bytesN_length]
  have hbN : ∀ (n : Nat) (x : Int), ∀ c ∈ bytesN n x, 0 ≤ c ∧ c ≤ 255 := by
    intro n x
    induction n with
    | zero => intro c hc; simp [bytesN] at hc
    | succ n ih =>
      intro c hc
      rcases List.mem_cons.1 hc with h | h
      · subst h; omega
      · exact ih c h
  have hkk : ∀ p ∈ restF o 0, p.k = 1 ∨ p.k = 2 := pts_kinds hE hR
  refine ⟨by omega, by omega, fun c hc => ?_⟩
  unfold encB encTop at hc
  simp only [List.mem_append] at hc
  rcases hc with ((((h | h) | h) | h) | h) | h
  · rcases h with ((((h | h) | h) | h) | h) | h
    · cases h
    all_goals exact hbN _ _ c h
  · exact encEnds_bytes o _ c h
  · exact hbN _ _ c h
  · rw [f1'] at h
    exact packM_bytes _ _ (fls_good _ _ _ hkk) c h
  · rw [f2'] at h; exact hbs _ _ f4 c h
  · rw [f3'] at h; exact hbs _ _ f5 c h
theorem sm_bytes {o : List (List Pn)} {a : List Int} (h : encM o = (a, 0)) : a.length ≤ 65536 ∧ ∀ c ∈ a, 0 ≤ c ∧ c ≤ 255 := by
  have hE := (sm_back h).1
  unfold encM at h
  rw [if_neg (by rw [hE]; simp)] at h
  split at h
  · obtain rfl : [] = a := (Prod.mk.inj h).1
    exact ⟨by decide, by simp⟩
  · split at h
    · cases (Prod.mk.inj h).2
    · rename_i t ht
      obtain rfl : encB o (hullO o) t = a := (Prod.mk.inj h).1
      exact (encB_facts o (hullO o) t hE ht).2
theorem sh_ok {o : List (List Pn)} {a : List Int} {dx dy : Int} (h : encM o = (a, 0)) (hx : -32768 ≤ dx ∧ dx < 32768) (hy : -32768 ≤ dy ∧ dy < 32768) : okBs [a, cmB [pl1 0 dx dy]] := by
  have hl := okL_one (g := 0) (by decide) hx hy
  obtain ⟨h1, h2⟩ := sm_bytes h
  obtain ⟨h3, h4⟩ := cmB_len hl
  have h5 := sm_kind h
  obtain ⟨h6, h7⟩ := sm_back h
  refine ⟨⟨⟨by simp, by simp⟩, ?_, ?_, fun i hi => ?_⟩, fun i hi => ?_⟩
  · simp only [List.flatten_cons, List.flatten_nil, List.append_nil, List.length_append]; omega
  · simp only [List.flatten_cons, List.flatten_nil, List.append_nil]
    intro e
    exact h4 (List.append_eq_nil_iff.1 e).2
  · have : i = 0 ∨ i = 1 := by simp at hi; omega
    rcases this with rfl | rfl
    · exact h2
    · exact cmB_bytes _
  · have : i = 0 ∨ i = 1 := by simp at hi; omega
    rcases this with rfl | rfl
    · exact ⟨fun _ => by show checkO (decS a).1 = 0; rw [h7]; exact h6, fun hk => absurd hk h5⟩
    · exact cmB_ok hl
end Go.Proofs.YtafkhnlmipddmaaGreat

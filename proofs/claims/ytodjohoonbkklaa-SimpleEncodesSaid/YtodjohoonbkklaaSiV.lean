/- simple: what was encoded is decoded, and no beginning of it (plain). -/
import Derived.Test.YtodjohoonbkklaaSiU
namespace Go.Proofs.Ytodjohoonbkklaa
open Go.RowKit
set_option linter.unusedVariables false
set_option linter.unusedSimpArgs false
theorem sim_pts : ∀ (ps : List Pn) (lx ly : Int) (FM : List Int), (∀ p ∈ ps, p.k = 1 ∨ p.k = 2) → simF FM (flsB lx ly ps) → simX 2 16 FM lx (uX ps) ∧ simX 4 32 FM ly (uY ps) ∧ (∀ i, i < ps.length → bits .and .i64 (FM.getD i 0) 1 = 2 - (ps.getD i pn0).k) ∧ FM.length = ps.length := by
  intro ps
  induction ps with
  | nil =>
    intro lx ly FM hk h
    cases FM with
    | nil => exact ⟨trivial, trivial, fun i hi => by simp at hi, rfl⟩
    | cons => exact h.elim
  | cons p ps ih =>
    intro lx ly FM hk h
    cases FM with
    | nil => exact h.elim
    | cons f FM =>
      obtain ⟨h1, h2⟩ := h
      obtain ⟨i1, i2, i3, i4⟩ := ih _ _ FM (fun q hq => hk q (List.mem_cons_of_mem _ hq)) h2
      obtain ⟨_, _, g1, _, _, g2⟩ := flagP_facts p.k (p.x.tdiv 65536 - lx) (p.y.tdiv 65536 - ly) (hk p (List.mem_cons_self ..))
      have g : FlOf p.k (p.x.tdiv 65536 - lx) (p.y.tdiv 65536 - ly) f := by rcases h1 with rfl | rfl; exact g1; exact g2
      refine ⟨⟨⟨g.1, g.2.1⟩, i1⟩, ⟨⟨g.2.2.1, g.2.2.2.1⟩, i2⟩, fun i hi => ?_, by simp [i4]⟩
      cases i with
      | zero => exact g.2.2.2.2
      | succ i => exact i3 i (by simpa using hi)
theorem fls_good : ∀ (ps : List Pn) (lx ly : Int), (∀ p ∈ ps, p.k = 1 ∨ p.k = 2) → ∀ c ∈ flsB lx ly ps, FlG c := by
  intro ps
  induction ps with
  | nil => intro lx ly _ c hc; cases hc
  | cons p ps ih =>
    intro lx ly hk c hc
    obtain ⟨a1, a2, _, a3, a4, _⟩ := flagP_facts p.k (p.x.tdiv 65536 - lx) (p.y.tdiv 65536 - ly) (hk p (List.mem_cons_self ..))
    rcases List.mem_cons.1 hc with rfl | h
    · exact ⟨a1, a2, a3, a4⟩
    · exact ih _ _ (fun q hq => hk q (List.mem_cons_of_mem _ hq)) c h
theorem pts_ext (a b : List Pn) (hl : a.length = b.length) (h : ∀ i, i < a.length → a.getD i pn0 = b.getD i pn0) : a = b := by
  refine List.ext_getElem hl fun i h1 h2 => ?_
  have := h i h1
  rwa [List.getD_eq_getElem?_getD, List.getD_eq_getElem?_getD, List.getElem?_eq_getElem h1, List.getElem?_eq_getElem h2] at this
theorem unit_back {x : Int} (h : unitsB x = true) : x.tdiv 65536 * 65536 = x ∧ unitB (x.tdiv 65536) = true := by
  unfold unitsB at h
  rw [Bool.and_eq_true, decide_eq_true_eq] at h
  have := Int.mul_tdiv_add_tmod x 65536
  exact ⟨by omega, h.2⟩
theorem pts_back (ps : List Pn) (FM : List Int) (hk : ∀ p ∈ ps, p.k = 1 ∨ p.k = 2) (hu : ∀ p ∈ ps, unitsB p.x = true ∧ unitsB p.y = true) (hl : FM.length = ps.length) (hf : ∀ i, i < ps.length → bits .and .i64 (FM.getD i 0) 1 = 2 - (ps.getD i pn0).k) : ptsOf FM (uX ps) (uY ps) = ps := by
  refine pts_ext _ _ (by rw [ptsOf_len]; exact hl) fun i hi => ?_
  rw [ptsOf_len] at hi
  rw [ptsOf_at _ _ _ i hi]
  have hi2 : i < ps.length := by omega
  have e1 : (uX ps).getD i 0 = (ps.getD i pn0).x.tdiv 65536 := by
    unfold uX; rw [List.getD_eq_getElem?_getD, List.getElem?_map, List.getD_eq_getElem?_getD, List.getElem?_eq_getElem hi2]; rfl
  have e2 : (uY ps).getD i 0 = (ps.getD i pn0).y.tdiv 65536 := by
    unfold uY; rw [List.getD_eq_getElem?_getD, List.getElem?_map, List.getD_eq_getElem?_getD, List.getElem?_eq_getElem hi2]; rfl
  have hm : ps.getD i pn0 ∈ ps := by rw [List.getD_eq_getElem?_getD, List.getElem?_eq_getElem hi2]; exact List.getElem_mem hi2
  rw [e1, e2]
  unfold pnF
  rw [hf i hi2, (unit_back (hu _ hm).1).1, (unit_back (hu _ hm).2).1]
  generalize ps.getD i pn0 = p at *
  obtain ⟨x, y, k⟩ := p
  rcases hk _ hm with h | h
  · dsimp only at h; subst h; rfl
  · dsimp only at h; subst h; rfl
theorem fromE_ends (o : List (List Pn)) (hp : ∀ i, i < o.length → 0 < (o.getD i []).length) : ∀ j, j ≤ o.length → fromE (endsL o o.length) j = cntTo o j := by
  intro j hj
  cases j with
  | zero => rfl
  | succ j =>
    show ((endsL o o.length).getD j 0).toNat + 1 = _
    rw [endsL_at o _ j (by omega)]
    have := hp j (by omega)
    have c2 : cntTo o (j + 1) = cntTo o j + (o.getD j []).length := rfl
    omega
theorem flat_rest (o : List (List Pn)) (j : Nat) (h : j < o.length) : flatTo o o.length = flatTo o j ++ (o.getD j [] ++ restF o (j + 1)) := by
  rw [← restF_at o j h]
  unfold flatTo restF
  rw [← List.flatten_append, List.take_append_drop, List.take_length]
theorem conts_back (o : List (List Pn)) (hp : ∀ i, i < o.length → 0 < (o.getD i []).length) : contsE (flatTo o o.length) (endsL o o.length) = o := by
  refine List.ext_getElem (by rw [contsE_len, endsL_len]) fun j h1 h2 => ?_
  simp only [contsE, List.getElem_map, List.getElem_range]
  rw [fromE_ends o hp j (by omega), fromE_ends o hp (j + 1) (by omega), flat_rest o j h2]
  have c2 : cntTo o (j + 1) = cntTo o j + (o.getD j []).length := rfl
  rw [← flatTo_len o j (by omega), List.drop_left, c2, ← flatTo_len o j (by omega), Nat.add_sub_cancel_left, List.take_left]
  rw [List.getD_eq_getElem?_getD, List.getElem?_eq_getElem h2]; rfl
theorem restF_zero (o : List (List Pn)) : restF o 0 = flatTo o o.length := by
  unfold restF flatTo; rw [List.drop_zero, List.take_length]
set_option maxRecDepth 4000 in
theorem enc_back (o : List (List Pn)) (b : Bx) (t : EnS) (behind : List Int) (hE : checkO o = 0) (h0 : o ≠ []) (hR : encS (restF o 0) en0 = some t) :
    ∃ es fl xs ys k1 k2, DecB (encB o b t ++ behind) o.length es fl xs ys k1 k2 (encB o b t).length ∧ contsE (ptsOf fl xs ys) es = o := by
  obtain ⟨hz1, hz2, hz3⟩ := checkO_zero hE
  have hp : ∀ i, i < o.length → 0 < (o.getD i []).length := fun i hi => (mayCo_facts (hz3 i hi)).1
  have hkk : ∀ p ∈ restF o 0, p.k = 1 ∨ p.k = 2 ∨ p.k = 3 := by
    intro p hp
    unfold restF at hp
    rw [List.drop_zero, List.mem_flatten] at hp
    obtain ⟨c, hc, hpc⟩ := hp
    obtain ⟨i, hi, rfl⟩ := List.mem_iff_getElem.1 hc
    obtain ⟨m, hm, rfl⟩ := List.mem_iff_getElem.1 hpc
    have h := hz3 i hi
    rw [List.getD_eq_getElem?_getD, List.getElem?_eq_getElem hi] at h
    have h2 := (mayCo_facts h).2.2 m hm
    unfold mayPn at h2
    simp only [Option.getD_some, List.getD_eq_getElem?_getD, List.getElem?_eq_getElem hm, Bool.and_eq_true, Bool.or_eq_true, beq_iff_eq] at h2
    rcases h2.2.2 with h3 | h3 | h3
    · exact .inl h3
    · exact .inr (.inl h3)
    · exact .inr (.inr h3.1)
  obtain ⟨f1, f2, f3, f4, f5, f6⟩ := encS_facts _ _ _ hR
  have hfl := restF_zero o
  have hcnt := flatTo_len o o.length (Nat.le_refl _)
  rw [hfl] at f1 f2 f3 f4 f5 f6 hkk
  have hps := conts_back o hp
  have hfe := fromE_ends o hp o.length (Nat.le_refl _)
  obtain ⟨ps, hpsd⟩ : ∃ ps, flatTo o o.length = ps := ⟨_, rfl⟩
  rw [hpsd] at f1 f2 f3 f4 f5 f6 hkk hcnt hps
  have hk : ∀ p ∈ ps, p.k = 1 ∨ p.k = 2 := by
    intro p hpm
    have h1 := f6 p hpm
    unfold ptOk at h1
    simp only [Bool.and_eq_true, Bool.not_eq_true', decide_eq_false_iff_not] at h1
    rcases hkk p hpm with h | h | h
    · exact .inl h
    · exact .inr h
    · exact absurd h h1.2.2
  have hu : ∀ p ∈ ps, unitsB p.x = true ∧ unitsB p.y = true := by
    intro p hpm
    have h1 := f6 p hpm
    unfold ptOk at h1
    simp only [Bool.and_eq_true] at h1
    exact ⟨h1.1, h1.2.1⟩
  have e1 : t.fl = flsB 0 0 ps := by rw [f1]; rfl
  have e2 : t.ax = stsB 0 (uX ps) := by rw [f2]; rfl
  have e3 : t.ay = stsB 0 (uY ps) := by rw [f3]; rfl
  have f4 : stsK 0 (uX ps) := f4
  have f5 : stsK 0 (uY ps) := f5
  have hN0 : 0 < o.length := List.length_pos_iff.2 h0
  obtain ⟨N, hN⟩ : ∃ N, o.length = N := ⟨_, rfl⟩
  obtain ⟨zs, hzs⟩ : ∃ zs, encB o b t ++ behind = zs := ⟨_, rfl⟩
  have d0 : zs.drop 0 = bytesN 2 (N : Int) ++ (bytesN 2 (b.x0.tdiv 65536) ++ (bytesN 2 (b.y0.tdiv 65536) ++ (bytesN 2 (b.x1.tdiv 65536) ++ (bytesN 2 (b.y1.tdiv 65536) ++ (encEnds o N ++ (bytesN 2 0 ++ (packM t.fl.length t.fl ++ (t.ax ++ (t.ay ++ behind))))))))) := by
    rw [List.drop_zero, ← hzs]
    unfold encB encTop
    rw [hN]
    simp only [List.append_assoc, List.nil_append]
  obtain ⟨a1, a2, a3⟩ := siRd zs _ 0 2 _ (by decide) d0
  obtain ⟨_, _, b3⟩ := siRd zs _ _ 2 _ (by decide) a3
  obtain ⟨_, _, c3⟩ := siRd zs _ _ 2 _ (by decide) b3
  obtain ⟨_, _, g3⟩ := siRd zs _ _ 2 _ (by decide) c3
  obtain ⟨q1, _, h3⟩ := siRd zs _ _ 2 _ (by decide) g3
  have h3' : zs.drop 10 = encT o 0 N ++ (bytesN 2 0 ++ (packM t.fl.length t.fl ++ (t.ax ++ (t.ay ++ behind)))) := by
    have h := encEnds_T o N 0
    rw [Nat.zero_add] at h
    rw [← h] at h3
    simpa [encEnds] using h3
  obtain ⟨i1, i2⟩ := ends_back o zs hp hz2 N 0 10 _ (by omega) h3'
  obtain ⟨j1, j2, j3⟩ := siRd zs _ _ 2 _ (by decide) i2
  have hlen : (packM t.fl.length t.fl).length + 12 + 2 * N ≤ zs.length := by
    rw [← hzs]; unfold encB; rw [hN]; simp only [List.length_append, encTop_len, encEnds_len, bytesN_length]; omega
  have flc : t.fl.length = cntTo o N := by rw [e1, flsB_len, hcnt, hN]
  rw [hN] at hfe
  obtain ⟨FM, m1, m2, m3⟩ := flags_back zs (cntTo o N) t.fl.length t.fl (10 + 2 * N + 2) (cntTo o N + 1) [] _ (Nat.le_refl _) (by rw [e1]; exact fls_good ps 0 0 hk) (by simp [flc]) (by omega) j3
  rw [e1] at m2
  obtain ⟨s1, s2, s3, s4⟩ := sim_pts ps 0 0 FM hk m2
  have ux : ∀ x ∈ uX ps, unitB x = true := by
    intro x hx
    obtain ⟨p, hpm, rfl⟩ := List.mem_map.1 hx
    exact (unit_back (hu p hpm).1).2
  have uy : ∀ x ∈ uY ps, unitB x = true := by
    intro x hx
    obtain ⟨p, hpm, rfl⟩ := List.mem_map.1 hx
    exact (unit_back (hu p hpm).2).2
  rw [e2, e3] at m3
  obtain ⟨n1, n2⟩ := steps_back zs 2 16 (.inl ⟨rfl, rfl⟩) FM (uX ps) 0 _ [] _ s1 f4 ux m3
  obtain ⟨n3, n4⟩ := steps_back zs 4 32 (.inr ⟨rfl, rfl⟩) FM (uY ps) 0 _ [] _ s2 f5 uy n2
  refine ⟨endsL o N, FM, uX ps, uY ps, 10 + 2 * N + 2 + (packM t.fl.length t.fl).length, 10 + 2 * N + 2 + (packM t.fl.length t.fl).length + (stsB 0 (uX ps)).length, ?_, ?_⟩
  · have hel : (endsL o N).length = N := endsL_len o N
    have hL : (encB o b t).length = 10 + 2 * N + 2 + (packM t.fl.length t.fl).length + (stsB 0 (uX ps)).length + (stsB 0 (uY ps)).length := by
      unfold encB; rw [hN, e2, e3]; simp only [List.length_append, encTop_len, encEnds_len, bytesN_length]
    rw [hL, hzs, hN]
    refine ⟨by omega, a1, ?_, ?_, ?_, ?_, ?_, ?_, ?_, n1, n3⟩
    · rw [a2, siB2]; unfold s16; split <;> omega
    · have hb : rdB zs 2 false 8 = false := by unfold rdB; simp; omega
      unfold stp rdK; dsimp only; rw [hb]; rfl
    · rw [hN] at i1; exact i1
    · rw [show 12 + 2 * N = 10 + 2 * N + 2 by omega]; exact j1
    · rw [j2, siB2]; rfl
    · have hb : rdB zs (12 + 2 * N) false 0 = false := by unfold rdB; simp; omega
      unfold stp rdK; dsimp only; rw [hb]; rfl
    · rw [hel]
      rw [hfe, show 12 + 2 * N = 10 + 2 * N + 2 by omega]
      exact m1
  · rw [pts_back ps FM hk hu s4 s3, ← hN]; exact hps
end Go.Proofs.Ytodjohoonbkklaa

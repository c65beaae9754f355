/- glyf: a glyph of one plain part of a simple one (plain). -/
import Derived.Test.YtafkhnlmipddmaaGreatGlP
import Derived.Test.YtafkhnlmipddmaaGreatSmC
import Derived.Deep.DeepCutAuto
namespace Go.Proofs.YtafkhnlmipddmaaGreat
open Go.RowKit
set_option linter.unusedVariables false
set_option linter.unusedSimpArgs false
theorem join_none_to {x : List (List Pn)} (h : checkO x = 0) : joinM [] x = (x, 0) := by
  obtain ⟨h1, h2, _⟩ := checkO_zero h
  have hc : cnt ([] : List (List Pn)) = 0 := rfl
  have h3 : ¬ (256 < ([] : List (List Pn)).length + x.length ∨ 4096 < cnt ([] : List (List Pn)) + cnt x) := by
    rw [hc, List.length_nil]; omega
  unfold joinM
  rw [if_neg (by rw [check_nil]; simp), if_neg (by rw [h]; simp), if_neg h3]; rfl
theorem sh_eval {a : List Int} {o : List (List Pn)} {dx dy : Int} (hk : kindM a ≠ 2) (hd : decS a = (o, 0)) (hx : -32768 ≤ dx ∧ dx < 32768) (hy : -32768 ≤ dy ∧ dy < 32768) (hc : checkO o = 0) :
    evalO [a, cmB [pl1 0 dx dy]] 6 1 0 = (((applyM o (dx * 65536) (dy * 65536)).1, (applyM o (dx * 65536) (dy * 65536)).2), 1) := by
  have h0 : evalO [a, cmB [pl1 0 dx dy]] 5 0 1 = ((o, 0), 1) := by
    refine (evalO_s [a, cmB [pl1 0 dx dy]] 4 0 1 (by simp)).trans ?_
    show glyIn a _ 1 = _
    unfold glyIn
    rw [if_pos hk, hd]
  refine (evalO_s [a, cmB [pl1 0 dx dy]] 5 1 0 (by simp)).trans ?_
  show glyIn (cmB [pl1 0 dx dy]) _ 0 = _
  rw [glyIn_cm (okL_one (by decide) hx hy)]
  dsimp only
  have hap : (applyM o (dx * 65536) (dy * 65536)).2 ≠ 0 → (applyM o (dx * 65536) (dy * 65536)).1 = [] := by
    unfold applyM
    split
    · intro h; exact absurd rfl h
    · intro _; rfl
  have hck := apply_check (dx := dx * 65536) (dy := dy * 65536) hc
  generalize hA : applyM o (dx * 65536) (dy * 65536) = A at *
  by_cases hz : A.2 = 0
  · have hp : partG (evalO [a, cmB [pl1 0 dx dy]] 5) (pl1 0 dx dy) [] 0 = ((A.1, 0), 1) := by
      unfold partG
      rw [if_neg (by omega), show (pl1 0 dx dy).g = 0 from rfl, h0]
      dsimp only
      rw [if_neg (by simp), show (pl1 0 dx dy).dx = dx from rfl, show (pl1 0 dx dy).dy = dy from rfl, hA, if_neg (by rw [hz]; simp), join_none_to hck]
    unfold partsG
    rw [hp]
    dsimp only
    rw [if_neg (by simp), hz]; rfl
  · have hp : partG (evalO [a, cmB [pl1 0 dx dy]] 5) (pl1 0 dx dy) [] 0 = (([], A.2), 1) := by
      unfold partG
      rw [if_neg (by omega), show (pl1 0 dx dy).g = 0 from rfl, h0]
      dsimp only
      rw [if_neg (by simp), show (pl1 0 dx dy).dx = dx from rfl, show (pl1 0 dx dy).dy = dy from rfl, hA, if_pos hz]
    unfold partsG
    rw [hp]
    dsimp only
    rw [if_pos hz, hap hz]
/-- What the bytes of an outline are. -/
theorem sm_back {o : List (List Pn)} {a : List Int} (h : encM o = (a, 0)) : checkO o = 0 ∧ decS a = (o, 0) := by
  unfold encM at h
  split at h
  · rename_i h1
    have : checkO o = 0 := (Prod.mk.inj h).2
    exact absurd this h1
  · rename_i h1
    have hE : checkO o = 0 := by omega
    refine ⟨hE, ?_⟩
    split at h
    · rename_i h2
      obtain rfl : [] = a := (Prod.mk.inj h).1
      subst h2
      rfl
    · rename_i h2
      split at h
      · cases (Prod.mk.inj h).2
      · rename_i t ht
        obtain rfl : encB o (hullO o) t = a := (Prod.mk.inj h).1
        obtain ⟨es, fl, xs, ys, k1, k2, hd, hc⟩ := enc_back o (hullO o) t [] hE h2 ht
        rw [List.append_nil] at hd
        rw [hd.dec, hc]
set_option maxRecDepth 100000 in
theorem top_byte : ∀ n, n < 257 → (bytesN 2 ((n : Nat) : Int)).getD 0 0 < 128 := by decide
theorem sm_kind {o : List (List Pn)} {a : List Int} (h : encM o = (a, 0)) : kindM a ≠ 2 := by
  have hE := (sm_back h).1
  obtain ⟨h1, _, _⟩ := checkO_zero hE
  unfold encM at h
  rw [if_neg (by rw [hE]; simp)] at h
  split at h
  · obtain rfl : [] = a := (Prod.mk.inj h).1
    decide
  · split at h
    · cases (Prod.mk.inj h).2
    · rename_i t ht
      obtain rfl : encB o (hullO o) t = a := (Prod.mk.inj h).1
      have hl : (bytesN 2 (o.length : Int)).length = 2 := bytesN_length _ _
      obtain ⟨rest, hr⟩ : ∃ rest, encB o (hullO o) t = bytesN 2 (o.length : Int) ++ rest := by unfold encB encTop; simp only [List.nil_append, List.append_assoc]; exact ⟨_, rfl⟩
      have hb := top_byte o.length (by omega)
      rw [hr]
      unfold kindM
      have h0 : (bytesN 2 (o.length : Int) ++ rest).getD 0 0 = (bytesN 2 (o.length : Int)).getD 0 0 := by
        rw [List.getD_eq_getElem?_getD, List.getElem?_append_left (by omega), ← List.getD_eq_getElem?_getD]
      rw [h0]
      split
      · decide
      · rw [if_neg (by omega)]; decide
end Go.Proofs.YtafkhnlmipddmaaGreat

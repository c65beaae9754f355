/- glyf: what a glyph of plain parts is (plain). -/
import Derived.Test.YtafkhnlmipddmaaGreatGlC
import Derived.Test.YtafkhnlmipddmaaGreatCmB
import Derived.Test.YtafkhnlmipddmaaGreatSmA
import Derived.Deep.DeepCutAuto
namespace Go.Proofs.YtafkhnlmipddmaaGreat
open Go.RowKit
set_option linter.unusedVariables false
set_option linter.unusedSimpArgs false
abbrev GRes := (List (List Pn) × Int) × Nat
def partG (ev : Int → Nat → GRes) (p : Cp.Pt) (all : List (List Pn)) (v : Nat) : GRes :=
  if 1024 ≤ v then (([], 120), v)
  else if (ev p.g (v + 1)).1.2 ≠ 0 then (([], (ev p.g (v + 1)).1.2), (ev p.g (v + 1)).2)
  else if (applyM (ev p.g (v + 1)).1.1 (p.dx * 65536) (p.dy * 65536)).2 ≠ 0 then (([], (applyM (ev p.g (v + 1)).1.1 (p.dx * 65536) (p.dy * 65536)).2), (ev p.g (v + 1)).2)
  else (joinM all (applyM (ev p.g (v + 1)).1.1 (p.dx * 65536) (p.dy * 65536)).1, (ev p.g (v + 1)).2)
def partsG (ev : Int → Nat → GRes) : List Cp.Pt → List (List Pn) → Nat → GRes
  | [], all, v => ((all, 0), v)
  | p :: ps, all, v => if (partG ev p all v).1.2 ≠ 0 then (([], (partG ev p all v).1.2), (partG ev p all v).2) else partsG ev ps (partG ev p all v).1.1 (partG ev p all v).2
def glyG (zs A : List Int) (ev : Option (Int → Nat → GRes)) (g : Int) (v : Nat) : GRes :=
  if ¬ (0 ≤ g ∧ g + 1 < A.length) then (([], 62), v)
  else if kindM (gB zs A g.toNat) ≠ 2 then (decS (gB zs A g.toNat), v)
  else match ev with
    | none => (([], 130), v)
    | some e => if (Cp.decM (gB zs A g.toNat)).2 ≠ 0 then (([], (Cp.decM (gB zs A g.toNat)).2), v) else partsG e (Cp.decM (gB zs A g.toNat)).1 [] v
def evalG (zs A : List Int) : Nat → Int → Nat → GRes
  | 0 => glyG zs A none
  | f + 1 => glyG zs A (some (evalG zs A f))
/-- What is asked of a table's glyphs. -/
def okG (zs A : List Int) : Prop := ∀ g, g + 1 < A.length → (kindM (gB zs A g) ≠ 2 → checkO (decS (gB zs A g)).1 = 0) ∧ (kindM (gB zs A g) = 2 → ∀ p ∈ (Cp.decM (gB zs A g)).1, plainP p)
def okE (r : GRes) : Prop := checkO r.1.1 = 0 ∧ r.2 ≤ 1024
theorem check_nil : checkO [] = 0 := by decide
theorem mvP_k (c : List Pn) (dx dy : Int) (i : Nat) : ((c.map (mvP dx dy)).getD i pn0).k = (c.getD i pn0).k := by
  rw [List.getD_eq_getElem?_getD, List.getElem?_map, List.getD_eq_getElem?_getD]
  cases c[i]? <;> rfl
theorem mvP_ring (c : List Pn) (dx dy : Int) (i : Int) : (ringAt (c.map (mvP dx dy)) i).k = (ringAt c i).k := by
  unfold ringAt
  rw [List.length_map, mvP_k]
theorem mvP_stands (c : List Pn) (dx dy : Int) (i : Int) : standsB (c.map (mvP dx dy)) i = standsB c i := by
  unfold standsB kindsB
  simp only [List.length_map, mvP_ring]
theorem mvP_may {c : List Pn} {dx dy : Int} (h : mayCo c = true) (ha : c.all (mvOk dx dy) = true) : mayCo (c.map (mvP dx dy)) = true := by
  obtain ⟨h1, h2, h3⟩ := mayCo_facts h
  unfold mayCo mayTo
  rw [List.length_map, decide_eq_true h1, Bool.true_and, List.all_eq_true]
  intro i hi
  rw [List.mem_range] at hi
  have h4 := h3 i hi
  have h5 := List.all_eq_true.1 ha (c.getD i pn0) (by rw [List.getD_eq_getElem?_getD, List.getElem?_eq_getElem hi]; exact List.getElem_mem _)
  unfold mayPn at h4 ⊢
  rw [mvP_k, mvP_stands]
  have e : (c.map (mvP dx dy)).getD i pn0 = mvP dx dy (c.getD i pn0) := by
    rw [List.getD_eq_getElem?_getD, List.getElem?_map, List.getD_eq_getElem?_getD, List.getElem?_eq_getElem hi]; rfl
  rw [e]
  unfold mvOk at h5
  simp only [Bool.and_eq_true] at h4 h5 ⊢
  exact ⟨h5.1, h5.2, h4.2.2⟩
theorem cnt_join (a b : List (List Pn)) : cnt (a ++ b) = cnt a + cnt b := by
  have h1 : ∀ j, j ≤ a.length → cntTo (a ++ b) j = cntTo a j := by
    intro j
    induction j with
    | zero => intro _; rfl
    | succ j ih =>
      intro hj
      rw [cntTo, cntTo, ih (by omega), List.getD_eq_getElem?_getD, List.getElem?_append_left (by omega), ← List.getD_eq_getElem?_getD]
  have h2 : ∀ j, cntTo (a ++ b) (a.length + j) = cntTo a a.length + cntTo b j := by
    intro j
    induction j with
    | zero => rw [Nat.add_zero, h1 _ (Nat.le_refl _)]; rfl
    | succ j ih =>
      rw [← Nat.add_assoc, cntTo, ih, cntTo, List.getD_eq_getElem?_getD, List.getElem?_append_right (by omega), Nat.add_sub_cancel_left, ← List.getD_eq_getElem?_getD]
      omega
  unfold cnt
  rw [List.length_append]
  exact h2 b.length
theorem apply_check {o : List (List Pn)} {dx dy : Int} (h : checkO o = 0) : checkO (applyM o dx dy).1 = 0 := by
  unfold applyM
  by_cases ha : (o.all fun c => c.all (mvOk dx dy)) = true
  · rw [if_pos ha]
    obtain ⟨h1, h2, h3⟩ := checkO_zero h
    show checkO (o.map (List.map (mvP dx dy))) = 0
    have hc : cnt (o.map (List.map (mvP dx dy))) = cnt o := by
      have : ∀ j, j ≤ o.length → cntTo (o.map (List.map (mvP dx dy))) j = cntTo o j := by
        intro j
        induction j with
        | zero => intro _; rfl
        | succ j ih =>
          intro hj
          rw [cntTo, cntTo, ih (by omega)]
          congr 1
          rw [List.getD_eq_getElem?_getD, List.getElem?_map, List.getD_eq_getElem?_getD, List.getElem?_eq_getElem (by omega)]
          exact List.length_map _
      unfold cnt
      rw [List.length_map]
      exact this _ (Nat.le_refl _)
    unfold checkO
    rw [List.length_map, hc, if_neg (by omega), if_pos]
    rw [List.all_eq_true]
    intro c hcm
    obtain ⟨d, hd, rfl⟩ := List.mem_map.1 hcm
    obtain ⟨i, hi, rfl⟩ := List.mem_iff_getElem.1 hd
    have h4 := h3 i hi
    rw [List.getD_eq_getElem?_getD, List.getElem?_eq_getElem hi] at h4
    exact mvP_may h4 (List.all_eq_true.1 ha _ hd)
  · rw [if_neg ha]; exact check_nil
theorem join_check {a b : List (List Pn)} : checkO (joinM a b).1 = 0 := by
  unfold joinM
  split
  · exact check_nil
  · split
    · exact check_nil
    · split
      · exact check_nil
      · rename_i h1 h2 h3
        have ha : checkO a = 0 := by omega
        have hb : checkO b = 0 := by omega
        obtain ⟨_, _, a3⟩ := checkO_zero ha
        obtain ⟨_, _, b3⟩ := checkO_zero hb
        show checkO (a ++ b) = 0
        have hc := cnt_join a b
        unfold checkO
        rw [List.length_append, hc, if_neg h3, if_pos]
        rw [List.all_eq_true]
        intro c hcm
        rcases List.mem_append.1 hcm with hd | hd
        · obtain ⟨i, hi, rfl⟩ := List.mem_iff_getElem.1 hd
          have h4 := a3 i hi
          rwa [List.getD_eq_getElem?_getD, List.getElem?_eq_getElem hi] at h4
        · obtain ⟨i, hi, rfl⟩ := List.mem_iff_getElem.1 hd
          have h4 := b3 i hi
          rwa [List.getD_eq_getElem?_getD, List.getElem?_eq_getElem hi] at h4
theorem partG_ok {ev : Int → Nat → GRes} (he : ∀ g v, v ≤ 1024 → okE (ev g v)) (p : Cp.Pt) (all : List (List Pn)) (v : Nat) (hv : v ≤ 1024) : okE (partG ev p all v) := by
  unfold partG
  split
  · exact ⟨check_nil, hv⟩
  · rename_i h
    have h1 := he p.g (v + 1) (by omega)
    split
    · exact ⟨check_nil, h1.2⟩
    · split
      · exact ⟨check_nil, h1.2⟩
      · exact ⟨join_check, h1.2⟩
theorem partsG_ok {ev : Int → Nat → GRes} (he : ∀ g v, v ≤ 1024 → okE (ev g v)) : ∀ (ps : List Cp.Pt) (all : List (List Pn)) (v : Nat), checkO all = 0 → v ≤ 1024 → okE (partsG ev ps all v) := by
  intro ps
  induction ps with
  | nil => intro all v h hv; exact ⟨h, hv⟩
  | cons p ps ih =>
    intro all v h hv
    have h1 := partG_ok he p all v hv
    unfold partsG
    split
    · exact ⟨check_nil, h1.2⟩
    · exact ih _ _ h1.1 h1.2
theorem glyG_ok {zs A : List Int} (ho : okG zs A) {ev : Option (Int → Nat → GRes)} (he : ∀ e, ev = some e → ∀ g v, v ≤ 1024 → okE (e g v)) (g : Int) (v : Nat) (hv : v ≤ 1024) : okE (glyG zs A ev g v) := by
  unfold glyG
  split
  · exact ⟨check_nil, hv⟩
  · rename_i hg
    split
    · rename_i hk
      exact ⟨(ho g.toNat (by omega)).1 hk, hv⟩
    · cases ev with
      | none => exact ⟨check_nil, hv⟩
      | some e =>
        dsimp only
        split
        · exact ⟨check_nil, hv⟩
        · exact partsG_ok (he e rfl) _ _ _ check_nil hv
theorem evalG_ok {zs A : List Int} (ho : okG zs A) : ∀ f g v, v ≤ 1024 → okE (evalG zs A f g v) := by
  intro f
  induction f with
  | zero => exact glyG_ok ho (fun e h => by cases h)
  | succ f ih => exact glyG_ok ho (fun e h => by cases h; exact ih)
end Go.Proofs.YtafkhnlmipddmaaGreat

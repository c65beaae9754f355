/- cff: what the table of any parts is. Plain lists; no program in sight · cff: parts as they lie in memory; where the laying of a table stands · cff: all parts are laid behind a top DICT (the program's). (Merged by wip/tools/mergetpl.py out of CbK, CbL, CbM.) -/
import Derived.Test.YtlhkaoccnpgkeaaGreatCdB
import Derived.Test.YtlhkaoccnpgkeaaGreatHcD
import Derived.Lib.SlBytesConst
namespace Go.Proofs.YtlhkaoccnpgkeaaGreat
set_option linter.unusedVariables false
/-- A CFF's parts. -/
structure CffP where
  codes : List (List Int)
  glob : List (List Int)
  fams : List Fam
  sel : List Int
  names : List Int
def fam0 : Fam := ⟨[], 0, 0⟩
def oneB : List Int := [0, 1, 1, 1, 2, 70]
theorem one_put : putM [[70]] = (oneB, 0) := by decide
def zeroI (size : Nat) : List Int := (putM [List.replicate size 0]).1
def headB (size : Nat) : List Int := [1, 0, 4, 4] ++ oneB ++ zeroI size ++ [0, 0]
def accG (p : CffP) (size : Nat) : List Int := headB size ++ (putM p.glob).1
def accN (p : CffP) (size : Nat) : List Int := accG p size ++ Ch.csPut p.names 0
def accC (p : CffP) (size : Nat) : List Int := accN p size ++ (putM p.codes).1
def accJ (p : CffP) (size j : Nat) : List Int := accC p size ++ (p.fams.take j).flatMap fun f => prvD f ++ prvL f
def dsJ (p : CffP) (size j : Nat) : List (List Int) := (List.range j).map fun i => entB (accJ p size i) (p.fams.getD i fam0)
def selB (p : CffP) : List Int := Ch.csPutSel p.sel 3
def accS (p : CffP) (size : Nat) : List Int := accJ p size p.fams.length ++ selB p
def outU (p : CffP) (size : Nat) : List Int := if p.sel = [] then accJ p size p.fams.length else accS p size ++ (putM (dsJ p size p.fams.length)).1
/-- Is it too long? -/
def badB (p : CffP) (size : Nat) : Bool := putF p.glob || putF p.codes || p.fams.any (fun f => putF f.l) || (decide (p.sel ≠ []) && putF (dsJ p size p.fams.length)) || decide (1048576 < (outU p size).length)
def topOf (p : CffP) (size : Nat) : List Int :=
  if p.sel = [] then topB false (accG p size).length (accN p size).length ((dsJ p size p.fams.length).getD 0 [])
  else topB true (accG p size).length (accN p size).length (sayB 3108 [((accS p size).length : Int)] ++ sayB 3109 [((accJ p size p.fams.length).length : Int)])
theorem accJ_zero (p : CffP) (size : Nat) : accJ p size 0 = accC p size := by simp [accJ]
theorem accJ_succ (p : CffP) (size : Nat) {j : Nat} (h : j < p.fams.length) : accJ p size (j + 1) = accJ p size j ++ prvD (p.fams.getD j fam0) ++ prvL (p.fams.getD j fam0) := by
  unfold accJ
  rw [List.take_succ_eq_append_getElem h, List.flatMap_append, List.getD_eq_getElem?_getD, List.getElem?_eq_getElem h]
  simp
theorem dsJ_succ (p : CffP) (size j : Nat) : dsJ p size (j + 1) = dsJ p size j ++ [entB (accJ p size j) (p.fams.getD j fam0)] := by
  unfold dsJ; rw [List.range_succ, List.map_append]; rfl
theorem dsJ_length (p : CffP) (size j : Nat) : (dsJ p size j).length = j := by simp [dsJ]
theorem accJ_le (p : CffP) (size : Nat) : ∀ d j, (accJ p size j).length ≤ (accJ p size (j + d)).length := by
  intro d
  induction d with
  | zero => intro j; exact Nat.le_refl _
  | succ d ih =>
    intro j
    refine Nat.le_trans (ih j) ?_
    by_cases h : j + d < p.fams.length
    · rw [← Nat.add_assoc, accJ_succ p size h]; simp only [List.length_append]; omega
    · have e : accJ p size (j + (d + 1)) = accJ p size (j + d) := by
        unfold accJ; rw [List.take_of_length_le (by omega), List.take_of_length_le (by omega)]
      rw [e]; exact Nat.le_refl _
theorem accJ_out (p : CffP) (size : Nat) {j : Nat} (h : j ≤ p.fams.length) : (accJ p size j).length ≤ (outU p size).length := by
  have h1 := accJ_le p size (p.fams.length - j) j
  rw [Nat.add_sub_cancel' h] at h1
  refine Nat.le_trans h1 ?_
  unfold outU accS
  split
  · exact Nat.le_refl _
  · simp only [List.length_append]; omega
theorem accG_le (p : CffP) (size : Nat) : (accG p size).length ≤ (accN p size).length := by unfold accN; simp only [List.length_append]; omega
theorem accN_le (p : CffP) (size : Nat) : (accN p size).length ≤ (accC p size).length := by unfold accC; simp only [List.length_append]; omega
theorem accC_out (p : CffP) (size : Nat) : (accC p size).length ≤ (outU p size).length := by rw [← accJ_zero]; exact accJ_out p size (Nat.zero_le _)
theorem addF_true {f : Bool} {n : Nat} {e : Int} : addF f n e = true ↔ f = true ∨ e ≠ 0 ∨ 1048576 < n := by
  unfold addF; cases f <;> simp
theorem addF_false {f : Bool} {n : Nat} {e : Int} : addF f n e = false ↔ f = false ∧ e = 0 ∧ n ≤ 1048576 := by
  unfold addF; cases f <;> simp
theorem eN_zero {f : Bool} : eN f = 0 ↔ f = false := by cases f <;> simp [eN]
theorem bad_iff (p : CffP) (size : Nat) : badB p size = true ↔ putF p.glob = true ∨ putF p.codes = true ∨ (∃ f ∈ p.fams, putF f.l = true) ∨ (p.sel ≠ [] ∧ putF (dsJ p size p.fams.length) = true) ∨ 1048576 < (outU p size).length := by
  unfold badB
  simp only [Bool.or_eq_true, Bool.and_eq_true, List.any_eq_true, decide_eq_true_eq, or_assoc]
/-- The flag behind the charstrings. -/
def F7 (p : CffP) (size : Nat) : Bool := addF (addF (addF false (accG p size).length (eN (putF p.glob))) (accN p size).length 0) (accC p size).length (eN (putF p.codes))
theorem F7_bad {p : CffP} {size : Nat} (h : F7 p size = true) : badB p size = true := by
  rw [bad_iff]
  have h1 := accG_le p size
  have h2 := accN_le p size
  have h3 := accC_out p size
  unfold F7 at h
  rw [addF_true, addF_true, addF_true] at h
  rcases h with ((h | h | h) | h | h) | h | h
  · cases h
  · exact .inl (by cases e : putF p.glob <;> simp_all [eN])
  · exact .inr (.inr (.inr (.inr (by omega))))
  · exact absurd rfl h
  · exact .inr (.inr (.inr (.inr (by omega))))
  · exact .inr (.inl (by cases e : putF p.codes <;> simp_all [eN]))
  · exact .inr (.inr (.inr (.inr (by omega))))
theorem F7_ok {p : CffP} {size : Nat} (h : F7 p size = false) : putF p.glob = false ∧ putF p.codes = false ∧ (accC p size).length ≤ 1048576 := by
  unfold F7 at h
  rw [addF_false, addF_false, addF_false] at h
  exact ⟨eN_zero.1 h.1.1.2.1, eN_zero.1 h.2.1, h.2.2⟩
/-- All is well up to family j. -/
def GoodJ (p : CffP) (size j : Nat) : Prop := putF p.glob = false ∧ putF p.codes = false ∧ (∀ i, i < j → putF (p.fams.getD i fam0).l = false) ∧ (accJ p size j).length ≤ 1048576
theorem prvF_bad {p : CffP} {size j : Nat} (hj : j < p.fams.length) (h : prvF (accJ p size j) (p.fams.getD j fam0) = true) : badB p size = true := by
  rw [bad_iff]
  have h1 := accJ_out p size (j := j + 1) hj
  have h2 := accJ_succ p size hj
  have hm : p.fams.getD j fam0 ∈ p.fams := by rw [List.getD_eq_getElem?_getD, List.getElem?_eq_getElem hj]; exact List.getElem_mem _
  generalize p.fams.getD j fam0 = f at *
  rw [h2] at h1
  simp only [List.length_append] at h1
  unfold prvF at h
  split at h
  · rw [addF_true] at h
    rcases h with h | h | h
    · cases h
    · exact absurd rfl h
    · exact .inr (.inr (.inr (.inr (by simp only [List.length_append] at h; omega))))
  · rw [addF_true, addF_true] at h
    rcases h with (h | h | h) | h | h
    · cases h
    · exact absurd rfl h
    · exact .inr (.inr (.inr (.inr (by simp only [List.length_append] at h; omega))))
    · exact .inr (.inr (.inl ⟨f, hm, by cases e : putF f.l <;> simp_all [eN]⟩))
    · exact .inr (.inr (.inr (.inr (by simp only [List.length_append] at h; omega))))
theorem putF_nil : putF [] = false := by decide
theorem prvF_ok {p : CffP} {size j : Nat} (hj : j < p.fams.length) (hg : GoodJ p size j) (h : prvF (accJ p size j) (p.fams.getD j fam0) = false) : GoodJ p size (j + 1) := by
  obtain ⟨g1, g2, g3, g4⟩ := hg
  have h2 := accJ_succ p size hj
  refine ⟨g1, g2, ?_, ?_⟩
  · intro i hi
    rcases Nat.lt_or_ge i j with hl | hl
    · exact g3 i hl
    · obtain rfl : i = j := by omega
      generalize p.fams.getD i fam0 = f at *
      unfold prvF at h
      split at h
      · rename_i e; rw [e]; exact putF_nil
      · rw [addF_false] at h; exact eN_zero.1 h.2.1
  · rw [h2]
    generalize p.fams.getD j fam0 = f at *
    unfold prvF at h
    split at h
    · rename_i e
      rw [addF_false] at h
      rw [show prvL f = [] by unfold prvL; rw [if_pos e], List.append_nil]
      exact h.2.2
    · rw [addF_false] at h; exact h.2.2
theorem good_start {p : CffP} {size : Nat} (h : F7 p size = false) : GoodJ p size 0 := by
  obtain ⟨h1, h2, h3⟩ := F7_ok h
  exact ⟨h1, h2, fun i hi => by omega, by rw [accJ_zero]; exact h3⟩
theorem good_any {p : CffP} {size : Nat} (h : GoodJ p size p.fams.length) : ¬ ∃ f ∈ p.fams, putF f.l = true := by
  rintro ⟨f, hf, hb⟩
  obtain ⟨i, hi, rfl⟩ := List.mem_iff_getElem.1 hf
  have := h.2.2.1 i hi
  rw [List.getD_eq_getElem?_getD, List.getElem?_eq_getElem hi] at this
  simp at this
  rw [this] at hb
  cases hb
/-- The end, where each glyph has the one family. -/
theorem good_one {p : CffP} {size : Nat} (h : GoodJ p size p.fams.length) (hs : p.sel = []) : badB p size = false ∧ outU p size = accJ p size p.fams.length := by
  have ho : outU p size = accJ p size p.fams.length := by unfold outU; rw [if_pos hs]
  refine ⟨?_, ho⟩
  rw [← Bool.not_eq_true, bad_iff]
  have h4 := good_any h
  obtain ⟨h1, h2, _, h3⟩ := h
  rw [ho]
  rintro (e | e | e | e | e)
  · rw [h1] at e; cases e
  · rw [h2] at e; cases e
  · exact h4 e
  · exact e.1 hs
  · omega
/-- The flag at the end, where families are selected. -/
def F9 (p : CffP) (size : Nat) : Bool := addF (addF false (accS p size).length 0) (outU p size).length (eN (putF (dsJ p size p.fams.length)))
theorem outU_sel {p : CffP} {size : Nat} (hs : p.sel ≠ []) : outU p size = accS p size ++ (putM (dsJ p size p.fams.length)).1 := by unfold outU; rw [if_neg hs]
theorem F9_bad {p : CffP} {size : Nat} (hs : p.sel ≠ []) (h : F9 p size = true) : badB p size = true := by
  rw [bad_iff]
  have ho : (accS p size).length ≤ (outU p size).length := by rw [outU_sel hs]; simp only [List.length_append]; omega
  unfold F9 at h
  rw [addF_true, addF_true] at h
  rcases h with (h | h | h) | h | h
  · cases h
  · exact absurd rfl h
  · exact .inr (.inr (.inr (.inr (by omega))))
  · exact .inr (.inr (.inr (.inl ⟨hs, by cases e : putF (dsJ p size p.fams.length) <;> simp_all [eN]⟩)))
  · exact .inr (.inr (.inr (.inr (by omega))))
theorem good_sel {p : CffP} {size : Nat} (h : GoodJ p size p.fams.length) (hs : p.sel ≠ []) (hf : F9 p size = false) : badB p size = false := by
  rw [← Bool.not_eq_true, bad_iff]
  have h4 := good_any h
  obtain ⟨h1, h2, _, h3⟩ := h
  unfold F9 at hf
  rw [addF_false, addF_false] at hf
  rintro (e | e | e | e | e)
  · rw [h1] at e; cases e
  · rw [h2] at e; cases e
  · exact h4 e
  · have := eN_zero.1 hf.2.1; rw [this] at e; cases e.2
  · omega
end Go.Proofs.YtlhkaoccnpgkeaaGreat
namespace Go.Proofs.YtlhkaoccnpgkeaaGreat
open Go.RowKit
set_option linter.unusedVariables false
set_option linter.unusedSimpArgs false
theorem infoRow : (Tryz.prog.info? 29).map (fun i => (i.zero, i.size, i.bytes)) = some (some (.slice none 0 0), 1, 24) := by kernel_rfl
/-- A number that an int may be. -/
def I64 (x : Int) : Prop := -9223372036854775808 ≤ x ∧ x ≤ 9223372036854775807
/-- Families, as they are read. -/
def IsFams (w : World) (v : Value) (fs : List Fam) : Prop :=
  ((∃ a, v = .slice a 0 0) ∧ fs = []) ∨ ∃ g off cap, v = .slice (some ⟨g, off, none⟩) fs.length cap ∧ fs.length ≤ cap ∧ cap ≤ maxLen ∧
    ∀ i, i < fs.length → ∃ lv, w.cell? ⟨g, off + i * 3, none⟩ = some lv ∧ w.cell? ⟨g, off + i * 3 + 1, none⟩ = some (.int .i64 (fs.getD i fam0).d) ∧ w.cell? ⟨g, off + i * 3 + 2, none⟩ = some (.int .i64 (fs.getD i fam0).n) ∧ IsBs w lv (fs.getD i fam0).l ∧ I64 (fs.getD i fam0).d ∧ I64 (fs.getD i fam0).n
theorem IsFams.kp0 {w w' : World} {v : Value} {fs : List Fam} (h : IsFams w v fs) (hk : Kp [] w w') : IsFams w' v fs := by
  rcases h with h | ⟨g, off, c, e, h1, h2, h3⟩
  · exact .inl h
  · refine .inr ⟨g, off, c, e, h1, h2, fun i hi => ?_⟩
    obtain ⟨lv, a1, a2, a3, a4, a5⟩ := h3 i hi
    exact ⟨lv, hk.cell a1 (by simp), hk.cell a2 (by simp), hk.cell a3 (by simp), a4.kp0 hk, a5⟩
theorem IsFams.form {w : World} {v : Value} {fs : List Fam} (h : IsFams w v fs) : ∃ p c, v = .slice p fs.length c := by
  rcases h with ⟨⟨a, rfl⟩, rfl⟩ | ⟨g, off, c, rfl, _⟩
  · exact ⟨_, _, rfl⟩
  · exact ⟨_, _, rfl⟩
/-- Parts, as they are read. -/
structure CffIn (w : World) (vc vg vf vs vn : Value) (p : CffP) : Prop where
  codes : IsBs w vc p.codes
  glob : IsBs w vg p.glob
  fams : IsFams w vf p.fams
  sel : IsInts .i64 w vs p.sel
  names : IsInts .i64 w vn p.names
theorem CffIn.kp0 {w w' : World} {vc vg vf vs vn : Value} {p : CffP} (h : CffIn w vc vg vf vs vn p) (hk : Kp [] w w') : CffIn w' vc vg vf vs vn p :=
  ⟨h.codes.kp0 hk, h.glob.kp0 hk, h.fams.kp0 hk, h.sel.kp hk (by simp), h.names.kp hk (by simp)⟩
/-- Where the laying stands: what is built, and the families' entries so far. -/
def LaS (B : Nat) (bx : Array Value) (u0 wr : World) (x : Nat) (acc : List Int) (f : Bool) (dv : Value) (ds : List (List Int)) : Prop :=
  ∃ v vs, Bld wr x v acc f ∧ Kp [] u0 wr ∧ wr.ownsRow (x + 1) 29 1 dv vs.length vs ∧ vs.length = ds.length ∧ (∀ i, i < ds.length → OwnB wr (x + 1) (vs.getD i (.slice none 0 0)) (ds.getD i [])) ∧ (∀ i, i < ds.length → ∀ k, (vs.getD i (.slice none 0 0)).ownBlock = some k → v.ownBlock ≠ some k) ∧ u0.heap.size ≤ x ∧ wr.heap[B]? = some (.cells bx 26 (0, 0)) ∧ B ≠ x
theorem LaS.kp0 {B : Nat} {bx : Array Value} {u0 wr w2 : World} {x : Nat} {acc : List Int} {f : Bool} {dv : Value} {ds : List (List Int)} (h : LaS B bx u0 wr x acc f dv ds) (hk : Kp [] wr w2) : LaS B bx u0 w2 x acc f dv ds := by
  obtain ⟨v, vs, h1, h2, h3, h4, h5, h6, h7, hB, hx⟩ := h
  exact ⟨v, vs, h1.kp0 hk, h2.trans hk, hk.row h3 (by simp), h4, fun i hi => (h5 i hi).kp0 hk, h6, h7, hk.heap hB (by simp), hx⟩
theorem LaS.base {B : Nat} {bx : Array Value} {u0 wr : World} {x : Nat} {acc : List Int} {f : Bool} {dv : Value} {ds : List (List Int)} (h : LaS B bx u0 wr x acc f dv ds) : Kp [] u0 wr := by
  obtain ⟨v, vs, h1, h2, _⟩ := h
  exact h2
theorem LaS.form {B : Nat} {bx : Array Value} {u0 wr : World} {x : Nat} {acc : List Int} {f : Bool} {dv : Value} {ds : List (List Int)} (h : LaS B bx u0 wr x acc f dv ds) : ∃ p c, dv = .slice p ds.length c := by
  obtain ⟨v, vs, h1, h2, h3, h4, _⟩ := h
  rw [← h4]
  exact slice_own h3
theorem LaS.cell {B : Nat} {bx : Array Value} {u0 wr : World} {x : Nat} {acc : List Int} {f : Bool} {dv : Value} {ds : List (List Int)} (h : LaS B bx u0 wr x acc f dv ds) : wr.cell? ⟨x, 1, none⟩ = some (.int .i64 (eN f)) := by
  obtain ⟨v, vs, h1, h2, _⟩ := h
  exact h1.facts.2.1
/-- Behind a change of what is built. -/
theorem LaS.wk {B : Nat} {bx : Array Value} {u0 wr w2 : World} {x : Nat} {acc a2 : List Int} {f f2 : Bool} {dv v v2 : Value} {vs : List Value} {ds : List (List Int)} (h1 : Bld wr x v acc f) (h2 : Kp [] u0 wr) (h3 : wr.ownsRow (x + 1) 29 1 dv vs.length vs) (h4 : vs.length = ds.length) (h5 : ∀ i, i < ds.length → OwnB wr (x + 1) (vs.getD i (.slice none 0 0)) (ds.getD i [])) (h6 : ∀ i, i < ds.length → ∀ k, (vs.getD i (.slice none 0 0)).ownBlock = some k → v.ownBlock ≠ some k) (h7 : u0.heap.size ≤ x) (hB : wr.heap[B]? = some (.cells bx 26 (0, 0))) (hx : B ≠ x)
    (g1 : Bld w2 x v2 a2 f2) (g2 : WK wr w2 x v v2) : Kp [] u0 w2 ∧ w2.ownsRow (x + 1) 29 1 dv vs.length vs ∧ (∀ i, i < ds.length → OwnB w2 (x + 1) (vs.getD i (.slice none 0 0)) (ds.getD i [])) ∧ (∀ i, i < ds.length → ∀ k, (vs.getD i (.slice none 0 0)).ownBlock = some k → v2.ownBlock ≠ some k) ∧ w2.heap[B]? = some (.cells bx 26 (0, 0)) := by
  have q1 : dv.ownBlock ≠ some x := own_box h3 h1.1 (by decide)
  refine ⟨h1.kpw g2 h2 h7, g2.1.row h3 (fun s hs => ?_), fun i hi => g2.1.row (h5 i hi) (fun s hs => ?_), fun i hi k hk => ?_, g2.1.heap hB (fun hs => ?_)⟩
  · rcases List.mem_cons.1 hs with rfl | hs
    · exact q1
    · intro e; exact own_ne h3 h1.2.1 (by decide) s e (by simpa using hs)
  · rcases List.mem_cons.1 hs with rfl | hs
    · exact own_box (h5 i hi) h1.1 (by decide)
    · intro e; exact h6 i hi s e (by simpa using hs)
  · intro e
    rcases g2.2 k e with e | e
    · exact h6 i hi k hk e
    · have := ((h5 i hi).lt k hk).2; omega
  · rcases List.mem_cons.1 hs with e | hs
    · exact hx e
    · exact own_box h1.2.1 hB (by decide) (by simpa using hs)
theorem LaS.add {B : Nat} {bx : Array Value} {u0 wr : World} {x : Nat} {acc : List Int} {f : Bool} {dv : Value} {ds : List (List Int)} (h : LaS B bx u0 wr x acc f dv ds) (b : Value) (zs : List Int) (e0 : Bool) (hb : IsInts .u8 wr b zs) (hl : acc.length + zs.length ≤ 1073741824) :
    Calls Tryz.prog 67 #[.pointer (some ⟨x, 0, none⟩), b, .int .i64 (eN e0)] wr fun e w' => e = .returned (.int .i64 (acc.length : Nat)) ∧ LaS B bx u0 w' x (acc ++ zs) (addF f (acc ++ zs).length (eN e0)) dv ds := by
  obtain ⟨v, vs, h1, h2, h3, h4, h5, h6, h7, hB, hx⟩ := h
  refine (add_calls x v acc f b zs e0 wr h1 hb hl).mono ?_
  rintro e w' ⟨rfl, v2, g1, g2⟩
  obtain ⟨a1, a2, a3, a4, a5⟩ := LaS.wk h1 h2 h3 h4 h5 h6 h7 hB hx g1 g2
  exact ⟨rfl, v2, vs, g1, a1, a2, h4, a3, a4, h7, a5, hx⟩
/-- Where the laying stands, an entry at hand. -/
def LaE (B : Nat) (bx : Array Value) (u0 wr : World) (x : Nat) (acc : List Int) (f : Bool) (dv : Value) (ds : List (List Int)) (u : Value) (E : List Int) : Prop :=
  ∃ v vs, Bld wr x v acc f ∧ Kp [] u0 wr ∧ wr.ownsRow (x + 1) 29 1 dv vs.length vs ∧ vs.length = ds.length ∧ (∀ i, i < ds.length → OwnB wr (x + 1) (vs.getD i (.slice none 0 0)) (ds.getD i [])) ∧ (∀ i, i < ds.length → ∀ k, (vs.getD i (.slice none 0 0)).ownBlock = some k → v.ownBlock ≠ some k) ∧ u0.heap.size ≤ x ∧ OwnB wr (x + 1) u E ∧ (∀ k, u.ownBlock = some k → v.ownBlock ≠ some k) ∧ wr.heap[B]? = some (.cells bx 26 (0, 0)) ∧ B ≠ x
theorem LaS.private {B : Nat} {bx : Array Value} {u0 wr : World} {x : Nat} {acc : List Int} {dv lv : Value} {ds : List (List Int)} (h : LaS B bx u0 wr x acc false dv ds) (f : Fam) (hlv : IsBs u0 lv f.l) (hd : I64 f.d) (hn : I64 f.n) (hl : acc.length ≤ 1048576) :
    Calls Tryz.prog 68 #[.pointer (some ⟨x, 0, none⟩), .agg #[lv, .int .i64 f.d, .int .i64 f.n]] wr fun e w' => ∃ u, e = .returned u ∧ LaE B bx u0 w' x (acc ++ prvD f ++ prvL f) (prvF acc f) dv ds u (entB acc f) := by
  obtain ⟨v, vs, h1, h2, h3, h4, h5, h6, h7, hB, hx⟩ := h
  refine (private_calls x v acc lv f wr u0 h2 h7 h1 hlv hd hn hl).mono ?_
  rintro e w' ⟨u, v2, rfl, k1, g1, g2, k2⟩
  obtain ⟨a1, a2, a3, a4, a5⟩ := LaS.wk h1 h2 h3 h4 h5 h6 h7 hB hx g1 g2
  exact ⟨u, rfl, v2, vs, g1, a1, a2, h4, a3, a4, h7, k1.base (by have := h1.2.2; omega), k2, a5, hx⟩
theorem LaE.form {B : Nat} {bx : Array Value} {u0 wr : World} {x : Nat} {acc : List Int} {f : Bool} {dv u : Value} {ds : List (List Int)} {E : List Int} (h : LaE B bx u0 wr x acc f dv ds u E) : ∃ p c, u = .slice p E.length c := by
  obtain ⟨v, vs, h1, h2, h3, h4, h5, h6, h7, h8, h9, _⟩ := h
  exact h8.form
theorem LaE.formD {B : Nat} {bx : Array Value} {u0 wr : World} {x : Nat} {acc : List Int} {f : Bool} {dv u : Value} {ds : List (List Int)} {E : List Int} (h : LaE B bx u0 wr x acc f dv ds u E) : ∃ p c, dv = .slice p ds.length c := by
  obtain ⟨v, vs, h1, h2, h3, h4, _⟩ := h
  rw [← h4]
  exact slice_own h3
theorem LaE.kp0 {B : Nat} {bx : Array Value} {u0 wr w2 : World} {x : Nat} {acc : List Int} {f : Bool} {dv u : Value} {ds : List (List Int)} {E : List Int} (h : LaE B bx u0 wr x acc f dv ds u E) (hk : Kp [] wr w2) : LaE B bx u0 w2 x acc f dv ds u E := by
  obtain ⟨v, vs, h1, h2, h3, h4, h5, h6, h7, h8, h9, hB, hx⟩ := h
  exact ⟨v, vs, h1.kp0 hk, h2.trans hk, hk.row h3 (by simp), h4, fun i hi => (h5 i hi).kp0 hk, h6, h7, h8.kp0 hk, h9, hk.heap hB (by simp), hx⟩
section
variable {w : World} {ops : Array Oper} {rest : List Oper} {o : Oper} {a : Act} {Q : Exit → Act → World → Prop}
/-- The entry is put behind the others: 'append(dicts, entry)'. -/
theorem LaE.push {B : Nat} {bx : Array Value} {u0 : World} {x : Nat} {acc : List Int} {f : Bool} {dv u : Value} {ds : List (List Int)} {E : List Int} {g : Nat} (hgd : o.guard = none) (s y : Operand)
    (ho : o.op = .call { callee := .builtin .append, args := #[s, y], argTypes := #[22, 22] })
    (h : LaE B bx u0 w x acc f dv ds u E) (hs : a.eval s = dv) (hy : a.eval y = .slice (some ⟨g, 0, none⟩) 1 1) (hc : w.cell? ⟨g, 0, none⟩ = some u) (hn : ds.length ≤ 65536)
    (hk : ∀ dv' w', LaS B bx u0 w' x acc f dv' (ds ++ [E]) → Kp dv.ownBlock.toList w w' → wpList Tryz.prog ops Q rest (a.put o.dst dv') w') : wpList Tryz.prog ops Q (o :: rest) a w := by
  obtain ⟨v, vs, h1, h2, h3, h4, h5, h6, h7, h8, h9, hB, hx⟩ := h
  have hxs := h1.2.2
  refine wpList_app hgd s y 22 ho (x + 1) 29 (.slice none 0 0) 1 24 Tryz.underlying22 infoRow rfl (by decide) (by decide) dv vs.length vs hs h3 (.slice (some ⟨g, 0, none⟩) 1 1) 1 [u] hy ⟨rfl, .inr ⟨g, 0, 1, rfl, by decide, by decide, ?_⟩⟩ ?_ (by omega) (by omega) ?_
  · intro j u' hu'
    cases j with
    | zero => simp at hu'; subst hu'; exact hc
    | succ j => simp at hu'
  · intro u' hu'
    simp at hu'; subst hu'
    obtain ⟨p, c, rfl⟩ := h8.form
    rfl
  · intro dv' w' hown hgr
    have hkk : Kp dv.ownBlock.toList w w' := Kp.grown (Kp.refl _ _) hgr (fun k hk => .inl (by rw [hk]; simp))
    have hq : ∀ (v : Value) (zs : List Int), OwnB w (x + 1) v zs → OwnB w' (x + 1) v zs := fun v zs hv => hkk.row hv (fun s hs e => own_ne hv h3 (by decide) s e (by simpa using hs))
    have hb : Bld w' x v acc f := ⟨hkk.heap h1.1 (fun hm => own_box h3 h1.1 (by decide) (by simpa using hm)), hq _ _ h1.2.1, Nat.lt_of_lt_of_le h1.2.2 hkk.size⟩
    refine hk dv' w' ⟨v, vs ++ [u], hb, h2.trans' hkk (fun t ht => .inr (by have := own_ge h3 t (by simpa using ht); omega)), by simpa using hown, by simp [h4], ?_, ?_, h7, hkk.heap hB (fun hm => own_box h3 hB (by decide) (by simpa using hm)), hx⟩ hkk
    · intro i hi
      by_cases e : i = ds.length
      · subst e
        rw [List.getD_eq_getElem?_getD, List.getElem?_append_right (by omega), h4, List.getD_eq_getElem?_getD (l := ds ++ [E]), List.getElem?_append_right (by omega)]
        simpa using hq _ _ h8
      · have hi2 : i < ds.length := by simp at hi; omega
        rw [List.getD_eq_getElem?_getD, List.getElem?_append_left (by omega), ← List.getD_eq_getElem?_getD, List.getD_eq_getElem?_getD (l := ds ++ [E]), List.getElem?_append_left (by omega), ← List.getD_eq_getElem?_getD]
        exact hq _ _ (h5 i hi2)
    · intro i hi
      by_cases e : i = ds.length
      · subst e
        rw [List.getD_eq_getElem?_getD, List.getElem?_append_right (by omega), h4]
        simpa using h9
      · have hi2 : i < ds.length := by simp at hi; omega
        rw [List.getD_eq_getElem?_getD, List.getElem?_append_left (by omega), ← List.getD_eq_getElem?_getD]
        exact h6 i hi2
end
theorem LaS.rows {B : Nat} {bx : Array Value} {u0 wr : World} {x : Nat} {acc : List Int} {f : Bool} {dv : Value} {ds : List (List Int)} (h : LaS B bx u0 wr x acc f dv ds) : IsBs wr dv ds := by
  obtain ⟨v, vs, h1, h2, h3, h4, h5, h6, h7, _⟩ := h
  exact ⟨vs, by rw [← h4]; exact Reads.owned h3, fun i hi => (h5 i hi).ints⟩
theorem LaS.box {B : Nat} {bx : Array Value} {u0 wr : World} {x : Nat} {acc : List Int} {f : Bool} {dv : Value} {ds : List (List Int)} (h : LaS B bx u0 wr x acc f dv ds) (i : Nat) (v : Value) (hi : bx[i]? = some v) : wr.cell? ⟨B, i, none⟩ = some v := by
  obtain ⟨_, vs, h1, h2, h3, h4, h5, h6, h7, hB, hx⟩ := h
  rw [cell_of_row wr B i _ _ _ hB]; exact hi
theorem LaS.bld {B : Nat} {bx : Array Value} {u0 wr : World} {x : Nat} {acc : List Int} {f : Bool} {dv : Value} {ds : List (List Int)} (h : LaS B bx u0 wr x acc f dv ds) : ∃ v, Bld wr x v acc f := by
  obtain ⟨v, vs, h1, _⟩ := h
  exact ⟨v, h1⟩
theorem LaS.start {u0 w : World} {x : Nat} {v : Value} (bx : Array Value) (h : Bld w x v [] false) (hk : Kp [] u0 w) (hx : u0.heap.size ≤ x) : LaS w.heap.size bx u0 (w.alloc (.cells bx 26)) x [] false (.slice none 0 0) [] :=
  ⟨v, [], h.kp0 ((Kp.refl _ _).alloc _), hk.alloc _, World.ownsRow_nil _ _ _ _, rfl, fun i hi => by simp at hi, fun i hi => by simp at hi, hx, heap_alloc_new w _, by have := h.2.2; omega⟩
end Go.Proofs.YtlhkaoccnpgkeaaGreat
namespace Go.Proofs.YtlhkaoccnpgkeaaGreat
open Go.RowKit
set_option linter.unusedVariables false
set_option linter.unusedSimpArgs false
theorem makeN (n : Nat) (hn : n ≤ 1000) (W : World) : (Instr.makeSlice 29 (.int .i64 n) (.int .i64 n)).run Tryz.prog W = .ok (.slice (some ⟨W.heap.size, 0, none⟩) n n) (W.alloc (.cells ((List.replicate n (0 : Int)).map (Value.int .u8)).toArray 5)) := by
  obtain ⟨i0, hi, hz0, hz1, hz2⟩ := info_parts infoByte
  have h := run_makeSlice (P := Tryz.prog) W 29 5 i0 (.int .u8 0) Tryz.underlying29 hi hz0 .i64 .i64 n n (by omega) (by omega) (by rw [hz1]; omega) (by rw [hz2]; omega) (by omega)
  rw [h, hz1]
  have hm : madeCells (Value.int .u8 0).cells ((n : Int).toNat * 1) = ((List.replicate n (0 : Int)).map (Value.int .u8)).toArray := by
    apply Array.toList_inj.1
    rw [Int.toNat_natCast, Nat.mul_one]
    exact madeBytes n
  rw [hm]; simp
/-- The same of a block that bears a mark. -/
theorem litF_at (w : World) (fz : Nat × Nat) (xs : List Int) (n : Nat) (hn : xs.length = n) (cs : Array Value) (hcs : cs = (xs.map (Value.int .u8)).toArray) (h100 : n ≤ 1000) (W : World) (hk : Kp [] (w.alloc (.cells cs 5 fz)) W) : IsInts .u8 W (.slice (some ⟨w.heap.size, 0, none⟩) n n) xs := by
  subst hcs
  subst hn
  refine IsInts.kp (S := []) (.inr ⟨w.heap.size, 0, xs.length, rfl, Nat.le_refl _, by unfold maxLen; omega, fun i hi => ?_⟩) hk (by simp)
  rw [cell_of_row _ w.heap.size _ _ _ fz (heap_alloc_new w _), Nat.zero_add]
  rw [List.getD_eq_getElem?_getD, List.getElem?_eq_getElem hi]
  simp [hi]
theorem rowF_at (w : World) (g : Nat) (hg : g = w.heap.size) (v : Value) (l : List Int) (W : World) (hv : IsInts .u8 w v l) (hk : Kp [] (w.alloc (.cells #[v] 29)) W) : IsBs W (.slice (some ⟨g, 0, none⟩) 1 1) [l] :=
  rows_at w g hg [v] [l] 1 rfl rfl _ rfl (by decide) (fun i hi => by obtain rfl : i = 0 := by omega
                                                                     exact hv) W hk
theorem LaS.putadd {B : Nat} {bx : Array Value} {u0 wr : World} {x : Nat} {acc : List Int} {f : Bool} {dv : Value} {ds : List (List Int)} (h : LaS B bx u0 wr x acc f dv ds) (o : List (List Int)) (b : Value) (hb : IsInts .u8 wr b (putM o).1) (hl : acc.length ≤ 16777216) (z : Int) (hz : z = (putM o).2) :
    Calls Tryz.prog 67 #[.pointer (some ⟨x, 0, none⟩), b, .int .i64 z] wr fun e w' => e = .returned (.int .i64 (acc.length : Nat)) ∧ LaS B bx u0 w' x (acc ++ (putM o).1) (addF f (acc ++ (putM o).1).length (eN (putF o))) dv ds := by
  subst hz
  rw [putM_e]
  exact h.add b _ _ hb (by have := putM_len o; omega)
theorem LaS.add0 {B : Nat} {bx : Array Value} {u0 wr : World} {x : Nat} {acc : List Int} {f : Bool} {dv : Value} {ds : List (List Int)} (h : LaS B bx u0 wr x acc f dv ds) (b : Value) (zs : List Int) (hb : IsInts .u8 wr b zs) (hl : acc.length + zs.length ≤ 1073741824) :
    Calls Tryz.prog 67 #[.pointer (some ⟨x, 0, none⟩), b, .int .i64 0] wr fun e w' => e = .returned (.int .i64 (acc.length : Nat)) ∧ LaS B bx u0 w' x (acc ++ zs) (addF f (acc ++ zs).length 0) dv ds := h.add b zs false hb hl
theorem zero_put (size : Nat) (h : size ≤ 1000) : putM [List.replicate size 0] = (zeroI size, 0) ∧ (zeroI size).length ≤ 1011 := by
  have h1 := ixB_len [List.replicate size 0]
  have h2 : szO [List.replicate size 0] ≤ 4 := (widN_b _).2
  simp only [List.length_singleton, List.flatten_cons, List.flatten_nil, List.append_nil, List.length_replicate] at h1
  have e : putM [List.replicate size 0] = (ixB [List.replicate size 0], 0) := by
    unfold putM
    rw [if_neg (by simp), if_neg (by simp), if_neg (by simp; omega), if_neg (by omega)]
  exact ⟨by unfold zeroI; rw [e], by unfold zeroI; rw [e]; show (ixB _).length ≤ _; omega⟩
theorem headB_len (size : Nat) (h : size ≤ 1000) : (headB size).length ≤ 1100 := by
  have := (zero_put size h).2
  unfold headB oneB
  simp only [List.length_append, List.length_cons, List.length_nil]
  omega
theorem acc_lens (p : CffP) (size : Nat) (h : size ≤ 1000) (hn : p.names.length ≤ 65535) : (headB size).length ≤ 1100 ∧ (accG p size).length ≤ 1049676 ∧ (accN p size).length ≤ 1311818 ∧ (Ch.csPut p.names 0).length ≤ 262141 ∧ (accC p size).length ≤ 2360394 := by
  have h1 := headB_len size h
  have h2 := putM_len p.glob
  have h3 := Ch.csPut_len p.names 0
  have h4 := putM_len p.codes
  unfold accC accN accG
  simp only [List.length_append]
  omega
/-- What lay does. -/
def LayD (x size : Nat) (p : CffP) (u0 : World) (e : Ending) (w' : World) : Prop := ∃ u acc F v', e = .returned u ∧ Bld w' x v' acc F ∧ Kp [] u0 w' ∧ (F = true → badB p size = true) ∧ (F = false → badB p size = false ∧ acc = outU p size ∧ OwnB w' (x + 1) u (topOf p size))
set_option maxRecDepth 100000 in
set_option maxHeartbeats 8000000 in
theorem lay_calls (x size : Nat) (v vc vg vf vs vn : Value) (p : CffP) (w u0 : World) (hb : Bld w x v [] false) (hu : Kp [] u0 w) (hux : u0.heap.size ≤ x) (hin : CffIn u0 vc vg vf vs vn p) (hs1 : 1 ≤ size) (hs2 : size ≤ 1000)
    (hn : Ch.mayPut p.names 0 = true) (hf1 : 1 ≤ p.fams.length) (hf2 : p.fams.length ≤ 256) (hsel : p.sel ≠ [] → Ch.maySel p.sel p.fams.length 3 = true) :
    Calls Tryz.prog 24 #[.pointer (some ⟨x, 0, none⟩), .agg #[vc, vg, vf, vs, vn], .int .i64 size] w (LayD x size p u0) := by
  have HIN := Lib.hid (fun W (hk : Kp [] u0 W) => hin.kp0 hk)
  have HMK := Lib.hid (makeN size hs2)
  obtain ⟨pc, cc, rfl⟩ := hin.codes.form
  obtain ⟨pg, cg, rfl⟩ := hin.glob.form
  obtain ⟨pf, cf, rfl⟩ := hin.fams.form
  obtain ⟨ps, cs, rfl⟩ := hin.sel.form
  obtain ⟨pn, cn, rfl⟩ := hin.names.form
  have HN := Lib.hid hn
  have HLN := Lib.hid (acc_lens p size hs2 (Ch.mayPut_true hn).2.1)
  have HZ : Hid ((addF false ([1, 0, 4, 4] ++ oneB ++ (putM [List.replicate size 0]).1).length (eN (putF [List.replicate size 0])) = false) ∧ addF false ([1, 0, 4, 4] ++ oneB ++ zeroI size ++ (putM []).1).length (eN (putF [])) = false ∧ (zeroI size).length ≤ 1011) := by
    obtain ⟨z1, z2⟩ := zero_put size hs2
    refine ⟨?_, ?_, z2⟩
    · rw [addF_false]
      refine ⟨rfl, by unfold putF; rw [z1]; rfl, ?_⟩
      rw [z1]
      simp only [List.length_append, List.length_cons, List.length_nil, oneB]; omega
    · rw [addF_false]
      refine ⟨rfl, by decide, ?_⟩
      simp only [List.length_append, List.length_cons, List.length_nil, oneB, show (putM []).1 = [0, 0] from rfl]; omega
  have HSEL := Lib.hid hsel
  obtain ⟨BX, hBX⟩ : ∃ BX : Array Value, BX = #[.slice pc p.codes.length cc, .slice pg p.glob.length cg, .slice pf p.fams.length cf, .slice ps p.sel.length cs, .slice pn p.names.length cn] := ⟨_, rfl⟩
  have H0 : Hid (LaS w.heap.size BX u0 (w.alloc (.cells #[.slice pc p.codes.length cc, .slice pg p.glob.length cg, .slice pf p.fams.length cf, .slice ps p.sel.length cs, .slice pn p.names.length cn] 26)) x [] false (.slice none 0 0) []) := by rw [← hBX]; exact LaS.start BX hb hu hux
  have HC : Hid (∀ wr acc f dv ds, LaS w.heap.size BX u0 wr x acc f dv ds → wr.cell? ⟨w.heap.size, 0, none⟩ = some (.slice pc p.codes.length cc) ∧ wr.cell? ⟨w.heap.size, 1, none⟩ = some (.slice pg p.glob.length cg) ∧ wr.cell? ⟨w.heap.size, 2, none⟩ = some (.slice pf p.fams.length cf) ∧ wr.cell? ⟨w.heap.size, 3, none⟩ = some (.slice ps p.sel.length cs) ∧ wr.cell? ⟨w.heap.size, 4, none⟩ = some (.slice pn p.names.length cn)) :=
    fun wr acc f dv ds h => ⟨h.box 0 _ (by rw [hBX]; rfl), h.box 1 _ (by rw [hBX]; rfl), h.box 2 _ (by rw [hBX]; rfl), h.box 3 _ (by rw [hBX]; rfl), h.box 4 _ (by rw [hBX]; rfl)⟩
  clear hb hu hin hn hsel hBX
  have hmk := HMK.out
  have kc := fun (w : World) (C : Array Value) (n c : Nat) => Lib.run_convert_bytes_const (P := Tryz.prog) w 29 5 C n c Tryz.underlying29 Tryz.underlying5
  go_enter Tryz.func24, Tryz.ntmps24
  go_wp2_with fail
  have HA := Lib.hid ((H0.out.kp0 ((Kp.refl _ _).alloc _)).add0 (.slice (some ⟨w.heap.size + 1, 0, none⟩) 4 4) [1, 0, 4, 4] (litb_at (w.alloc _) _ (by simp) [1, 0, 4, 4] 4 rfl #[.int .u8 1, .int .u8 0, .int .u8 4, .int .u8 4] rfl (by decide) _ (Kp.refl _ _)) (by simp))
  refine HA.out.mono ?_; rintro e w1 ⟨rfl, h1⟩
  have H1 : Hid (LaS w.heap.size BX u0 w1 x [1, 0, 4, 4] false (.slice none 0 0) []) := by show LaS _ _ _ _ _ _ _ _ _; simpa [addF] using h1
  clear h1 HA
  go_wp2_with fail
  refine (put_calls _ [[70]] _ (rowF_at (w1.alloc (.cells #[.int .u8 70] 5 (1, 2))) _ (by simp) _ [70] _ (litF_at w1 _ [70] 1 rfl _ rfl (by decide) _ (Kp.refl _ _)) (Kp.refl _ _))).mono ?_; rintro e w2a ⟨v2a, rfl, hi2, hk2, hf2⟩
  obtain ⟨p2a, c2a, rfl⟩ := hi2.form
  have HA2 := Lib.hid ((H1.out.kp0 (Kp.trans (by ((repeat (first | exact Kp.refl _ _ | assumption | refine Kp.drew ?_ | refine Kp.drewN ?_ _ | refine Kp.alloc ?_ _)); (first | done | fail))) hk2)).putadd [[70]] _ hi2 (by simp) _ rfl)
  clear hi2 hk2 hf2
  go_wp2_with fail
  refine HA2.out.mono ?_; rintro e w2 ⟨rfl, h2⟩
  have H2 : Hid (LaS w.heap.size BX u0 w2 x ([1, 0, 4, 4] ++ oneB) false (.slice none 0 0) []) := by
    show LaS _ _ _ _ _ _ _ _ _
    simpa [addF, one_put, putF, eN, oneB] using h2
  clear h2 HA2 H1
  go_wp2_with fail
  refine (put_calls _ [List.replicate size 0] _ (rowF_at (w2.alloc (.cells (Array.replicate size (.int .u8 0)) 5)) _ (by simp) _ (List.replicate size 0) _ (litb_at w2 _ rfl (List.replicate size 0) size (by simp) _ (by simp) (by omega) _ (Kp.refl _ _)) (Kp.refl _ _))).mono ?_; rintro e w3a ⟨v3a, rfl, hi3, hk3, hf3⟩
  obtain ⟨p3a, c3a, rfl⟩ := hi3.form
  have HA3 := Lib.hid ((H2.out.kp0 (Kp.trans (by ((repeat (first | exact Kp.refl _ _ | assumption | refine Kp.drew ?_ | refine Kp.drewN ?_ _ | refine Kp.alloc ?_ _)); (first | done | fail))) hk3)).putadd [List.replicate size 0] _ hi3 (by simp [oneB]) _ rfl)
  clear hi3 hk3 hf3
  go_wp2_with fail
  refine HA3.out.mono ?_; rintro e w3 ⟨rfl, h3⟩
  have H3 : Hid (LaS w.heap.size BX u0 w3 x ([1, 0, 4, 4] ++ oneB ++ zeroI size) false (.slice none 0 0) []) := by
    show LaS _ _ _ _ _ _ _ _ _
    rw [HZ.out.1] at h3; exact h3
  clear h3 HA3 H2
  go_wp2_with fail
  refine (put_calls _ [] _ (IsBs.nil _ _)).mono ?_; rintro e w4a ⟨v4a, rfl, hi4, hk4, hf4⟩
  obtain ⟨p4a, c4a, rfl⟩ := hi4.form
  have HA4 := Lib.hid ((H3.out.kp0 (Kp.trans (by ((repeat (first | exact Kp.refl _ _ | assumption | refine Kp.drew ?_ | refine Kp.drewN ?_ _ | refine Kp.alloc ?_ _)); (first | done | fail))) hk4)).putadd [] _ hi4 (by have := HZ.out.2.2; simp [oneB] at this ⊢; omega) _ rfl)
  clear hi4 hk4 hf4
  go_wp2_with fail
  refine HA4.out.mono ?_; rintro e w4 ⟨rfl, h4⟩
  have H4 : Hid (LaS w.heap.size BX u0 w4 x (headB size) false (.slice none 0 0) []) := by
    show LaS _ _ _ _ _ _ _ _ _
    have q : addF false ([1, 0, 4, 4] ++ oneB ++ zeroI size ++ (putM []).1).length (eN (putF [])) = false := HZ.out.2.1; rw [q] at h4; exact h4
  clear h4 HA4 H3
  obtain ⟨c0, c1, c2, c3, c4⟩ := HC.out _ _ _ _ _ H4.out
  go_wp2_with fail
  refine (put_calls _ p.glob _ ((HIN.out _ H4.out.base).glob)).mono ?_; rintro e w5a ⟨v5a, rfl, hi5, hk5, hf5⟩
  obtain ⟨p5a, c5a, rfl⟩ := hi5.form
  have HA5 := Lib.hid ((H4.out.kp0 (Kp.trans (by ((repeat (first | exact Kp.refl _ _ | assumption | refine Kp.drew ?_ | refine Kp.drewN ?_ _ | refine Kp.alloc ?_ _)); (first | done | fail))) hk5)).putadd p.glob _ hi5 (by have := HLN.out.1; omega) _ rfl)
  clear hi5 hk5 hf5
  go_wp2_with fail
  refine HA5.out.mono ?_; rintro e w5 ⟨rfl, h5⟩
  have H5 : Hid (LaS w.heap.size BX u0 w5 x (accG p size) (addF false (accG p size).length (eN (putF p.glob))) (.slice none 0 0) []) := by
    show LaS _ _ _ _ _ _ _ _ _
    exact h5
  clear h5 HA5 H4 c0 c1 c2 c3 c4
  obtain ⟨c0, c1, c2, c3, c4⟩ := HC.out _ _ _ _ _ H5.out
  go_wp2_with fail
  have HNI := Lib.hid (HIN.out _ H5.out.base).names
  refine (Ch.put_calls _ p.names 0 w5 HN.out HNI.out (fun b hb => by
    refine intsG_lt HNI.out ?_ b hb
    have := (Ch.mayPut_true HN.out).1
    intro e; rw [e] at this; simp at this)).mono ?_
  rintro e w6a (⟨h, _⟩ | ⟨l6, v6a, h, rfl, hi6, hk6, hf6⟩)
  · cases h
  cases h
  obtain ⟨p6a, c6a, rfl⟩ := hi6.form
  have HA6 := Lib.hid ((H5.out.kp0 (Kp.trans (by ((repeat (first | exact Kp.refl _ _ | assumption | refine Kp.drew ?_ | refine Kp.drewN ?_ _ | refine Kp.alloc ?_ _)); (first | done | fail))) hk6)).add0 _ (Ch.csPut p.names 0) hi6 (by have := HLN.out.2.1; have := HLN.out.2.2.2.1; omega))
  clear hi6 hk6 hf6
  go_wp2_with fail
  refine HA6.out.mono ?_; rintro e w6 ⟨rfl, h6⟩
  have H6 : Hid (LaS w.heap.size BX u0 w6 x (accN p size) (addF (addF false (accG p size).length (eN (putF p.glob))) (accN p size).length 0) (.slice none 0 0) []) := h6
  clear h6 HA6 H5 c0 c1 c2 c3 c4
  obtain ⟨c0, c1, c2, c3, c4⟩ := HC.out _ _ _ _ _ H6.out
  go_wp2_with fail
  refine (put_calls _ p.codes _ ((HIN.out _ H6.out.base).codes)).mono ?_; rintro e w7a ⟨v7a, rfl, hi7, hk7, hf7⟩
  obtain ⟨p7a, c7a, rfl⟩ := hi7.form
  have HA7 := Lib.hid ((H6.out.kp0 (Kp.trans (by ((repeat (first | exact Kp.refl _ _ | assumption | refine Kp.drew ?_ | refine Kp.drewN ?_ _ | refine Kp.alloc ?_ _)); (first | done | fail))) hk7)).putadd p.codes _ hi7 (by have := HLN.out.2.2.1; omega) _ rfl)
  clear hi7 hk7 hf7
  go_wp2_with fail
  refine HA7.out.mono ?_; rintro e w7 ⟨rfl, h7⟩
  have H7 : Hid (LaS w.heap.size BX u0 w7 x (accC p size) (F7 p size) (.slice none 0 0) []) := by
    show LaS _ _ _ _ _ _ _ _ _
    exact h7
  clear h7 HA7 H6 c0 c1 c2 c3 c4
  obtain ⟨c0, c1, c2, c3, c4⟩ := HC.out _ _ _ _ _ H7.out
  go_wp2_with fail
  have HST : Hid ((F7 p size = false → accC p size = accJ p size 0 ∧ ([] : List (List Int)) = dsJ p size 0 ∧ GoodJ p size 0) ∧ (F7 p size = true → badB p size = true) ∧ (accC p size).length ≤ 8388608 ∧ ([] : List (List Int)).length ≤ 0) :=
    ⟨fun h => ⟨(accJ_zero p size).symm, rfl, good_start h⟩, F7_bad, by have := HLN.out.2.2.2.2; omega, by simp⟩
  clear c0 c1 c2 c3 c4
  generalize F7 p size = FF at *
  obtain ⟨K, hK⟩ : ∃ K, p.fams.length = K := ⟨_, rfl⟩
  have HKF := Lib.hid hK
  go_loopw [10, 67] (fun dv i wr => ∃ (j : Nat) (acc : List Int) (f : Bool) (ds : List (List Int)), j ≤ p.fams.length ∧ i = .int .i64 j ∧ Hid (LaS w.heap.size BX u0 wr x acc f dv ds) ∧ Hid ((f = false → acc = accJ p size j ∧ ds = dsJ p size j ∧ GoodJ p size j) ∧ (f = true → badB p size = true) ∧ acc.length ≤ 8388608 ∧ ds.length ≤ j)) (fun _ i _ => p.fams.length - (intOf i).toNat)
  case atStart => exact ⟨0, accC p size, FF, [], by omega, rfl, H7, HST⟩
  case round =>
    obtain ⟨j, acc, f, ds, hj, rfl, HS, HI⟩ := hrel
    obtain ⟨pd, cd, rfl⟩ := HS.out.form
    obtain ⟨c0, c1, c2, c3, c4⟩ := HC.out _ _ _ _ _ HS.out
    clear H7 HST hK
    by_cases hlt : j < p.fams.length
    · obtain ⟨gf, of, cf2, ef, hf3, hf4, hf5⟩ : ∃ g off c, (.slice pf p.fams.length cf : Value) = .slice (some ⟨g, off, none⟩) p.fams.length c ∧ p.fams.length ≤ c ∧ c ≤ maxLen ∧ ∀ i, i < p.fams.length → ∃ lv, wr.cell? ⟨g, off + i * 3, none⟩ = some lv ∧ wr.cell? ⟨g, off + i * 3 + 1, none⟩ = some (.int .i64 (p.fams.getD i fam0).d) ∧ wr.cell? ⟨g, off + i * 3 + 2, none⟩ = some (.int .i64 (p.fams.getD i fam0).n) ∧ IsBs u0 lv (p.fams.getD i fam0).l ∧ I64 (p.fams.getD i fam0).d ∧ I64 (p.fams.getD i fam0).n := by
        rcases (HIN.out _ (Kp.refl _ _)).fams with ⟨_, e⟩ | ⟨g, off, c, e, h1, h2, h3⟩
        · exfalso; rw [e] at hlt; simp at hlt
        · refine ⟨g, off, c, e, h1, h2, fun i hi => ?_⟩
          obtain ⟨lv, a1, a2, a3, a4⟩ := h3 i hi
          exact ⟨lv, HS.out.base.cell a1 (by simp), HS.out.base.cell a2 (by simp), HS.out.base.cell a3 (by simp), a4⟩
      cases ef
      obtain ⟨lv, a1, a2, a3, a4, a5, a6⟩ := hf5 j hlt
      obtain ⟨pl, cl, rfl⟩ := a4.form
      have HJS := Lib.hid (accJ_succ p size hlt)
      have HDS := Lib.hid (dsJ_succ p size j)
      have HPB : Hid (prvF (accJ p size j) (p.fams.getD j fam0) = true → badB p size = true) := fun h => prvF_bad hlt h
      have HPO : Hid (GoodJ p size j → prvF (accJ p size j) (p.fams.getD j fam0) = false → GoodJ p size (j + 1)) := fun hg h => prvF_ok hlt hg h
      have HSA : Hid (LaS w.heap.size BX u0 (wr.alloc (.cells #[.slice pl (p.fams.getD j fam0).l.length cl, .int .i64 (p.fams.getD j fam0).d, .int .i64 (p.fams.getD j fam0).n] 54)) x acc f (.slice pd ds.length cd) ds) := HS.out.kp0 ((Kp.refl _ _).alloc _)
      have cx := HSA.out.cell
      have HA4 := Lib.hid a4
      have HA5 := Lib.hid a5
      have HA6 := Lib.hid a6
      clear hf5 a4 a5 a6 c0 c1 c3 c4 HS
      generalize p.fams.getD j fam0 = fm at *
      cases f with
      | true =>
        have cx2 : (wr.alloc (.cells #[.slice pl fm.l.length cl, .int .i64 fm.d, .int .i64 fm.n] 54)).cell? ⟨x, 1, none⟩ = some (.int .i64 3) := cx
        clear cx
        go_wp2_with fail
        have HI2 : Hid ((true = false → acc = accJ p size (j + 1) ∧ ds = dsJ p size (j + 1) ∧ GoodJ p size (j + 1)) ∧ (true = true → badB p size = true) ∧ acc.length ≤ 8388608 ∧ ds.length ≤ j + 1) := ⟨fun h => (by cases h), HI.out.2.1, HI.out.2.2.1, by have := HI.out.2.2.2; omega⟩
        go_roundw
        case rel => first | exact ⟨j + 1, acc, true, ds, hlt, int_eq' (by first | rfl | simp), HSA, HI2⟩ | ((repeat apply Exists.intro); exact ⟨⟨j + 1, acc, true, ds, hlt, int_eq' (by first | rfl | simp), HSA, HI2⟩, rfl⟩)
        case measure => simp [intOf] <;> omega
      | false =>
        have cx2 : (wr.alloc (.cells #[.slice pl fm.l.length cl, .int .i64 fm.d, .int .i64 fm.n] 54)).cell? ⟨x, 1, none⟩ = some (.int .i64 0) := cx
        have HPR := Lib.hid (HSA.out.private fm HA4.out HA5.out HA6.out (by have := (HI.out.1 rfl).2.2.2.2.2; rw [(HI.out.1 rfl).1]; exact this))
        clear cx
        go_wp2_with fail
        refine HPR.out.mono ?_; rintro e w8 ⟨u, rfl, h8⟩
        obtain ⟨pu, cu, rfl⟩ := h8.form
        have H8 := Lib.hid (h8.kp0 ((Kp.refl _ _).alloc (.cells #[.slice pu (entB acc fm).length cu] 29)))
        have hcu : (w8.alloc (.cells #[.slice pu (entB acc fm).length cu] 29)).cell? ⟨w8.heap.size, 0, none⟩ = some (.slice pu (entB acc fm).length cu) := by rw [cell_of_row _ w8.heap.size _ _ _ (0, 0) (heap_alloc_new w8 _)]; rfl
        have HCU := Lib.hid hcu
        have hdl : ds.length ≤ 65536 := by have := HI.out.2.2.2; omega
        have HI9 : Hid ((prvF acc fm = false → acc ++ prvD fm ++ prvL fm = accJ p size (j + 1) ∧ ds ++ [entB acc fm] = dsJ p size (j + 1) ∧ GoodJ p size (j + 1)) ∧ (prvF acc fm = true → badB p size = true) ∧ (acc ++ prvD fm ++ prvL fm).length ≤ 8388608 ∧ (ds ++ [entB acc fm]).length ≤ j + 1) := by
          obtain ⟨q1, q2, q3⟩ := HI.out.1 (by first | rfl | trivial)
          have q4 := q3.2.2.2
          have q5 := HI.out.2.2.2
          subst q1
          refine ⟨fun h => ⟨HJS.out.symm, by rw [HDS.out, q2], HPO.out q3 h⟩, HPB.out, ?_, ?_⟩
          · have z1 := prvD_len fm
            have z2 : (prvL fm).length ≤ 1048576 := by unfold prvL; split; simp; exact putM_len _
            simp only [List.length_append]
            split at z1 <;> omega
          · simp; omega
        generalize entB acc fm = EB at *
        generalize acc ++ prvD fm ++ prvL fm = AC at *
        generalize prvF acc fm = PF at *
        clear h8 hcu HPR HSA HI HJS HDS HPB HPO HA4 HA5 HA6 a1 a2 a3
        go_wp2_with (at_builtin; go_loud (refine LaE.push rfl _ _ rfl H8.out rfl rfl HCU.out hdl ?hk))
        case hk =>
        intro dv' w9 h9 hk9
        have H9 := Lib.hid h9
        obtain ⟨pd9, cd9, rfl⟩ := h9.form
        clear h9 hk9
        go_wp2_with fail
        go_roundw
        case rel => first | exact ⟨j + 1, AC, PF, ds ++ [EB], hlt, int_eq' (by first | rfl | simp), H9, HI9⟩ | ((repeat apply Exists.intro); exact ⟨⟨j + 1, AC, PF, ds ++ [EB], hlt, int_eq' (by first | rfl | simp), H9, HI9⟩, rfl⟩)
        case measure => simp [intOf] <;> omega
    · obtain rfl : p.fams.length = j := by omega
      have cx := HS.out.cell
      cases f with
      | true =>
        have cx2 : wr.cell? ⟨x, 1, none⟩ = some (.int .i64 3) := cx
        clear cx
        go_wp2_with fail
        go_ret
        obtain ⟨v', hv'⟩ := HS.out.bld
        exact ⟨_, acc, true, v', rfl, hv', HS.out.base, fun _ => HI.out.2.1 (by first | rfl | trivial), fun h => by cases h⟩
      | false =>
        have cx2 : wr.cell? ⟨x, 1, none⟩ = some (.int .i64 0) := cx
        have hi := HI.out.1 rfl
        obtain ⟨q1, q2, q3⟩ := hi
        subst q1
        subst q2
        have HG := Lib.hid q3
        have hdl := dsJ_length p size p.fams.length
        have HDL := Lib.hid hdl
        clear cx HI q3
        by_cases hsl : p.sel = []
        · have d0 : decide (0 < p.sel.length) = false := by rw [hsl]; rfl
          have HSL := Lib.hid hsl
          have hrow := HS.out.rows.row (i := 0) (by rw [hdl]; omega)
          obtain ⟨g1, o1, c1', p1, cv, e1, h2a, h2b, hc1, hi1⟩ := hrow
          cases e1
          have HTO : Hid (topOf p size = topB false (accG p size).length (accN p size).length ((dsJ p size p.fams.length).getD 0 [])) := by show _ = _; unfold topOf; rw [if_pos hsl]
          have hdl1 : 1 ≤ (dsJ p size p.fams.length).length := by rw [hdl]; omega
          have hEL : ((dsJ p size p.fams.length).getD 0 []).length ≤ 1000 := by
            unfold dsJ
            rw [List.getD_eq_getElem?_getD, List.getElem?_map, List.getElem?_range (by omega)]
            simp [entB, sayB_length]
          have HT := Lib.hid (top_calls false (accG p size).length (accN p size).length (by have := HLN.out.2.1; omega) (by have := HLN.out.2.2.1; omega) _ _ wr hi1 hEL)
          rw [← HTO.out] at HT
          have hc1' : wr.cell? ⟨g1, o1, none⟩ = some (.slice p1 ((dsJ p size p.fams.length).getD 0 []).length cv) := by simpa using hc1
          clear hi1 hEL HTO hsl hdl hc1
          generalize dsJ p size p.fams.length = DS at *
          generalize DS.getD 0 [] = D0 at *
          generalize DS.length = DL at *
          go_wp2_with fail
          refine HT.out.mono ?_; rintro e w10 ⟨u, rfl, h10, k10⟩
          have H10 := Lib.hid h10
          have HS10 := Lib.hid (HS.out.kp0 k10)
          have hwx : x + 1 ≤ wr.heap.size := by obtain ⟨v', hv'⟩ := HS.out.bld; have := hv'.2.2; omega
          clear h10 k10
          go_wp2_with fail
          go_ret
          obtain ⟨v', hv'⟩ := HS10.out.bld
          obtain ⟨g1, g2⟩ := good_one HG.out HSL.out
          exact ⟨u, _, false, v', rfl, hv', HS10.out.base, fun h => (by cases h), fun _ => ⟨g1, g2.symm, H10.out.base hwx⟩⟩
        · have d0 : decide (0 < p.sel.length) = true := decide_eq_true (List.length_pos_iff.2 hsl)
          have HSL := Lib.hid hsl
          have HTO : Hid (topOf p size = topB true (accG p size).length (accN p size).length (sayB 3108 [((accS p size).length : Int)] ++ sayB 3109 [((accJ p size p.fams.length).length : Int)])) := by show _ = _; unfold topOf; rw [if_neg hsl]
          have HM := Lib.hid (HSEL.out hsl)
          have HSI := Lib.hid (HIN.out _ HS.out.base).sel
          have HPS := Lib.hid (Ch.putsel_calls _ p.sel (p.fams.length : Nat) 3 wr HM.out HSI.out (fun b hb => intsG_lt HSI.out hsl b hb))
          have HSQ : Hid (Ch.csPutSel p.sel 3 = selB p ∧ (selB p).length ≤ 200000) := ⟨rfl, by
            have z := Ch.csPutSel_len p.sel 3
            have z2 := HM.out
            unfold Ch.maySel at z2
            simp only [Bool.and_eq_true, decide_eq_true_eq] at z2
            unfold selB; omega⟩
          rw [HSQ.out.1] at HPS
          have HSS : Hid (accJ p size p.fams.length ++ selB p = accS p size) := rfl
          have HOU := Lib.hid (outU_sel (p := p) (size := size) hsl)
          have HJL : Hid ((accJ p size p.fams.length).length ≤ 1048576) := HG.out.2.2.2
          clear hsl hdl
          go_wp2_with fail
          refine HPS.out.mono ?_; rintro e w10 (⟨h, _⟩ | ⟨l10, v10, h, rfl, hi10, hk10, hf10⟩)
          · cases h
          cases h
          obtain ⟨p10, c10, rfl⟩ := hi10.form
          have HA10 := Lib.hid ((HS.out.kp0 hk10).add0 _ (selB p) hi10 (by have := HSQ.out.2; have := HJL.out; omega))
          rw [HSS.out] at HA10
          clear hi10 hk10 hf10 HPS c0 c1 c2 c3 c4 cx2
          go_wp2_with fail
          refine HA10.out.mono ?_; rintro e w11 ⟨rfl, h11⟩
          have H11 := Lib.hid h11
          have hSL : (accS p size).length ≤ 1248576 := by rw [← HSS.out, List.length_append]; have := HSQ.out.2; have := HJL.out; omega
          have HSLl := Lib.hid hSL
          clear h11 HA10 hSL
          go_wp2_with fail
          refine (put_calls _ (dsJ p size p.fams.length) w11 H11.out.rows).mono ?_; rintro e w12a ⟨v12, rfl, hi12, hk12, hf12⟩
          obtain ⟨p12, c12, rfl⟩ := hi12.form
          have HA12 := Lib.hid ((H11.out.kp0 hk12).putadd (dsJ p size p.fams.length) _ hi12 (by have := HSLl.out; omega) _ rfl)
          rw [← HOU.out] at HA12
          clear hi12 hk12 hf12
          go_wp2_with fail
          refine HA12.out.mono ?_; rintro e w12 ⟨rfl, h12⟩
          have H12 : Hid (LaS w.heap.size BX u0 w12 x (outU p size) (F9 p size) (.slice pd (dsJ p size p.fams.length).length cd) (dsJ p size p.fams.length)) := h12
          clear h12 HA12 H11
          have HS8 := Lib.hid (say_at 3108 3108 rfl (by decide) (.slice (some ⟨w12.heap.size, 0, none⟩) 1 1) [((accS p size).length : Int)] _ (lit_at w12 _ rfl [((accS p size).length : Int)] 1 rfl #[.int .i64 ((accS p size).length : Nat)] rfl (by decide) _ (Kp.refl _ _)) (by simp) (by intro x hx; have := HSLl.out; simp at hx; omega))
          go_wp2_with fail
          refine HS8.out.mono ?_; rintro e w13 ⟨u13, rfl, h13, k13⟩
          obtain ⟨p13, c13, rfl⟩ := h13.form
          have H13 := Lib.hid h13
          have K13 : Hid (Kp [] w12 w13) := Kp.trans (by ((repeat (first | exact Kp.refl _ _ | assumption | refine Kp.drew ?_ | refine Kp.drewN ?_ _ | refine Kp.alloc ?_ _)); (first | done | fail))) k13
          clear h13 k13 HS8
          have HS9 := Lib.hid (say_at 3109 3109 rfl (by decide) (.slice (some ⟨w13.heap.size, 0, none⟩) 1 1) [((accJ p size p.fams.length).length : Int)] _ (lit_at w13 _ rfl [((accJ p size p.fams.length).length : Int)] 1 rfl #[.int .i64 ((accJ p size p.fams.length).length : Nat)] rfl (by decide) _ (Kp.refl _ _)) (by simp) (by intro x hx; have := HJL.out; simp at hx; omega))
          go_wp2_with fail
          refine HS9.out.mono ?_; rintro e w14 ⟨u14, rfl, h14, k14⟩
          obtain ⟨p14, c14, rfl⟩ := h14.form
          have H14 := Lib.hid h14
          have K14 : Hid (Kp [] w13 w14) := Kp.trans (by ((repeat (first | exact Kp.refl _ _ | assumption | refine Kp.drew ?_ | refine Kp.drewN ?_ _ | refine Kp.alloc ?_ _)); (first | done | fail))) k14
          clear h14 k14 HS9
          have HL8 : Hid ((sayB 3108 [((accS p size).length : Int)]).length = 7) := by show _ = _; rw [sayB_length]; rfl
          have HL9 : Hid ((sayB 3109 [((accJ p size p.fams.length).length : Int)]).length = 7) := by show _ = _; rw [sayB_length]; rfl
          have HTP := Lib.hid (fun (W : World) (V : Value) (h : IsInts .u8 W V (sayB 3108 [((accS p size).length : Int)] ++ sayB 3109 [((accJ p size p.fams.length).length : Int)])) => top_calls true (accG p size).length (accN p size).length (by have := HLN.out.2.1; omega) (by have := HLN.out.2.2.1; omega) V _ W h (by rw [List.length_append, HL8.out, HL9.out]; decide))
          rw [← HTO.out] at HTP
          generalize sayB 3108 [((accS p size).length : Int)] = E8 at *
          generalize sayB 3109 [((accJ p size p.fams.length).length : Int)] = E9 at *
          have HCO := Lib.hid (concatB_calls _ [E8, E9] _ (rows_at w14 w14.heap.size rfl [.slice p13 E8.length c13, .slice p14 E9.length c14] [E8, E9] 2 rfl rfl _ rfl (by decide) (fun i hi => by
             rcases (show i = 0 ∨ i = 1 by omega) with rfl | rfl
             · exact (H13.out.kp0 K14.out).ints
             · exact H14.out.ints) _ (Kp.refl _ _)) (by simp only [List.flatten_cons, List.length_append, HL8.out]; omega) (by simp only [List.flatten_cons, List.flatten_nil, List.append_nil, List.length_append, HL8.out, HL9.out]; omega))
          go_wp2_with fail
          refine HCO.out.mono ?_; rintro e w15 ⟨u15, rfl, h15, k15⟩
          have K15 : Hid (Kp [] w14 w15) := Kp.trans (by ((repeat (first | exact Kp.refl _ _ | assumption | refine Kp.drew ?_ | refine Kp.drewN ?_ _ | refine Kp.alloc ?_ _)); (first | done | fail))) k15
          have HT := Lib.hid (HTP.out w15 u15 (by have q := h15.ints; simpa using q))
          clear h15 k15 HCO HTP
          go_wp2_with fail
          refine HT.out.mono ?_; rintro e w16 ⟨u, rfl, h16, k16⟩
          have H16 := Lib.hid h16
          have HK16 : Hid (Kp [] w12 w16) := ((K13.out.trans K14.out).trans K15.out).trans k16
          have HK15 := ((K13.out.trans K14.out).trans K15.out).size
          have HS16 := Lib.hid (H12.out.kp0 HK16.out)
          have hwx : x + 1 ≤ w15.heap.size := by obtain ⟨v', hv'⟩ := H12.out.bld; have := hv'.2.2; omega
          clear h16 k16
          go_wp2_with fail
          go_ret
          obtain ⟨v', hv'⟩ := HS16.out.bld
          exact ⟨u, _, _, v', rfl, hv', HS16.out.base, fun h => F9_bad HSL.out h, fun h => ⟨good_sel HG.out HSL.out h, rfl, H16.out.base hwx⟩⟩
end Go.Proofs.YtlhkaoccnpgkeaaGreat

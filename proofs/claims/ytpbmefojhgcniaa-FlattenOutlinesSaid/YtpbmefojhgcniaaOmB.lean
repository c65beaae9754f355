/- outline: outlines that are built contour by contour; the law's own copy · outline: large; clone; slices.Clone at points · outline: slices.Clone at points; clone · outline: Join · outline: the reference's middle; the first point on the outline · outline: the first point that lies on the outline (slices.IndexFunc with isOn). (Merged by wip/tools/mergetpl.py out of OuJ, OuK, OuL, OuM, OuN, OuO.) -/
import Derived.Test.YtpbmefojhgcniaaOmA
import Derived.Deep.AppendLies
import Derived.Lib.SliceRun
namespace Go.Proofs.Ytpbmefojhgcniaa
open Go.RowKit
set_option linter.unusedVariables false
set_option linter.unusedSimpArgs false
theorem infoPs : (Try.prog.info? 56).map (fun i => (i.zero, i.size, i.bytes)) = some (some (.slice none 0 0), 1, 24) := by kernel_rfl
/-- The contours of an outline that is being built: the outer row is the call's own, no contour lies in it. -/
def WVs (w : World) (base : Nat) (v : Value) (vs : List Value) (o : List (List Pn)) : Prop :=
  w.ownsRow base 56 1 v o.length vs ∧ ∀ i, i < o.length → IsPs w (vs.getD i (.slice none 0 0)) (o.getD i []) ∧ ∀ b, blockOf (vs.getD i (.slice none 0 0)) = some b → v.ownBlock ≠ some b ∧ b < w.heap.size ∧ base ≤ b
def WOut (w : World) (base : Nat) (v : Value) (o : List (List Pn)) : Prop := ∃ vs, WVs w base v vs o
theorem WVs.kp0 {w w' : World} {base : Nat} {v : Value} {vs : List Value} {o : List (List Pn)} (h : WVs w base v vs o) (hk : Kp [] w w') : WVs w' base v vs o :=
  ⟨hk.row h.1 (by simp), fun i hi => ⟨(h.2 i hi).1.kp0 hk, fun b hb => ⟨((h.2 i hi).2 b hb).1, Nat.lt_of_lt_of_le ((h.2 i hi).2 b hb).2.1 hk.size, ((h.2 i hi).2 b hb).2.2⟩⟩⟩
theorem WOut.kp0 {w w' : World} {base : Nat} {v : Value} {o : List (List Pn)} (h : WOut w base v o) (hk : Kp [] w w') : WOut w' base v o := by
  obtain ⟨vs, h⟩ := h; exact ⟨vs, h.kp0 hk⟩
theorem WOut.nil (w : World) (base : Nat) : WOut w base (.slice none 0 0) [] := ⟨[], World.ownsRow_nil _ _ _ _, fun i hi => by simp at hi⟩
theorem WOut.out {w : World} {base : Nat} {v : Value} {o : List (List Pn)} (h : WOut w base v o) : IsOut w v o := by
  obtain ⟨vs, h1, h2⟩ := h
  exact ⟨vs, Reads.owned h1, fun i hi => (h2 i hi).1⟩
theorem WVs.push {w w4 : World} {base : Nat} {v cv : Value} {vs : List Value} {o : List (List Pn)} {c : List Pn} {g4 c4 H : Nat} (h : WVs w base v vs o) (hc : IsPs w cv c) (hcb : ∀ b, blockOf cv = some b → v.ownBlock ≠ some b ∧ b < w.heap.size ∧ base ≤ b)
    (hown : w4.ownsRow base 56 1 (.slice (some ⟨g4, 0, none⟩) (o.length + 1) c4) (o.length + 1) (vs ++ [cv])) (hgr : w.grownBy w4 v.ownBlock) (hat : v.ownBlock = some g4 ∨ g4 = H) (hH : w.heap.size ≤ H) :
    WVs w4 base (.slice (some ⟨g4, 0, none⟩) (o.length + 1) c4) (vs ++ [cv]) (o ++ [c]) := by
  have hvl : vs.length = o.length := by have := h.1.1; omega
  have hk : Kp v.ownBlock.toList w w4 := Kp.grown (Kp.refl _ _) hgr (fun k hk => .inl (by rw [hk]; simp))
  have key : ∀ (u : Value) (d : List Pn), IsPs w u d → (∀ b, blockOf u = some b → v.ownBlock ≠ some b ∧ b < w.heap.size ∧ base ≤ b) → IsPs w4 u d ∧ ∀ b, blockOf u = some b → (Value.slice (some ⟨g4, 0, none⟩) (o.length + 1) c4).ownBlock ≠ some b ∧ b < w4.heap.size ∧ base ≤ b := by
    intro u d hu hb
    refine ⟨hu.kp hk (fun s hs e => ?_), fun b hbb => ⟨fun e => ?_, Nat.lt_of_lt_of_le (hb b hbb).2.1 hk.size, (hb b hbb).2.2⟩⟩
    · exact (hb s e).1 (by simpa using hs)
    · simp [Value.ownBlock] at e
      subst e
      rcases hat with h1 | h1
      · exact (hb _ hbb).1 h1
      · have := (hb _ hbb).2.1; omega
  refine ⟨by simpa using hown, fun i hi => ?_⟩
  by_cases e : i < o.length
  · rw [List.getD_eq_getElem?_getD, List.getElem?_append_left (by omega), ← List.getD_eq_getElem?_getD, List.getD_eq_getElem?_getD (l := o ++ [c]), List.getElem?_append_left e, ← List.getD_eq_getElem?_getD]
    exact key _ _ (h.2 i e).1 (h.2 i e).2
  · obtain rfl : i = o.length := by simp at hi; omega
    rw [List.getD_eq_getElem?_getD, List.getElem?_append_right (by omega), hvl, Nat.sub_self, List.getD_eq_getElem?_getD (l := o ++ [c]), List.getElem?_append_right (Nat.le_refl _), Nat.sub_self]
    exact key cv c hc hcb
/-- No contour is long, nor are there many. -/
def fewO (o : List (List Pn)) : Prop := o.length ≤ 1048576 ∧ ∀ j, j < o.length → (o.getD j []).length ≤ 1048576
end Go.Proofs.Ytpbmefojhgcniaa
namespace Go.Proofs.Ytpbmefojhgcniaa
open Go.RowKit
set_option linter.unusedVariables false
set_option linter.unusedSimpArgs false
/-- Is an outline too large to be looked at? -/
def largeB (o : List (List Pn)) : Bool := decide (300 < o.length) || decide (5000 < cntTo o (min o.length 400))
theorem not_large {o : List (List Pn)} (h : largeB o = false) : o.length ≤ 300 ∧ cnt o ≤ 5000 := by
  unfold largeB at h
  simp only [Bool.or_eq_false_iff, decide_eq_false_iff_not] at h
  obtain ⟨h1, h2⟩ := h
  rw [show min o.length 400 = o.length by omega] at h2
  exact ⟨by omega, by unfold cnt; omega⟩
theorem len_le_cnt (o : List (List Pn)) {j : Nat} (h : j < o.length) : (o.getD j []).length ≤ cnt o := by
  have := cntTo_le o (j := j + 1) (by omega)
  rw [cntTo] at this
  omega
theorem cntTo_bound (o : List (List Pn)) (B : Nat) (h : ∀ j, j < o.length → (o.getD j []).length ≤ B) : ∀ j, j ≤ o.length → cntTo o j ≤ j * B := by
  intro j
  induction j with
  | zero => intro _; simp [cntTo]
  | succ j ih => intro hj; have a := ih (by omega); have b := h j (by omega); rw [cntTo, Nat.add_mul]; omega
end Go.Proofs.Ytpbmefojhgcniaa
namespace Go.Proofs.Ytpbmefojhgcniaa
open Go.RowKit
set_option linter.unusedVariables false
set_option linter.unusedSimpArgs false
set_option maxRecDepth 100000 in
theorem clonep_calls (v : Value) (c : List Pn) (w : World) (h : IsPs w v c) (hl : c.length ≤ 1048576) :
    Calls Try.prog 106 #[v] w fun e w' => ∃ v', e = .returned v' ∧ w'.ownsRow w.heap.size 25 3 v' c.length (psCells c) ∧ Kp [] w w' := by
  have H := Lib.hid h
  obtain ⟨pa, ca, hva⟩ := h.form
  subst hva
  cases pa with
  | none =>
    have hz : c = [] ∧ ca = 0 := by
      rcases h.cases with ⟨ad, e, rfl⟩ | ⟨g, off, cc, e, _⟩
      · cases e; exact ⟨rfl, rfl⟩
      · cases e
    obtain ⟨rfl, rfl⟩ := hz
    clear h H hl
    show Calls Try.prog 106 #[.slice none 0 0] w _
    have hq := Lib.run_eql_slice_nil (P := Try.prog) w 56 25 none 0 0 0 0 Try.underlying56
    simp only [Option.isNone] at hq
    go_enter Try.func106, Try.ntmps106
    go_wp2_with fail
    go_ret
    exact ⟨_, rfl, World.ownsRow_nil _ _ _ _, Kp.refl _ _⟩
  | some ad =>
    clear h
    obtain ⟨L, hcl⟩ : ∃ L, c.length = L := ⟨_, rfl⟩
    have HCL := Lib.hid hcl
    rw [hcl] at H hl ⊢
    clear hcl
    have hq := Lib.run_eql_slice_nil (P := Try.prog) w 56 25 (some ad) L ca 0 0 Try.underlying56
    simp only [Option.isNone] at hq
    go_enter Try.func106, Try.ntmps106
    go_wp2_with (at_builtin; refine wpList_app rfl _ _ 56 rfl w.heap.size 25 (.agg #[.int .i64 0, .int .i64 0, .int .i64 0]) 3 24 Try.underlying56 infoPn rfl (by decide) (by decide) (.slice (some ⟨w.heap.size, 0, none⟩) 0 0) 0 [] rfl ?hown (.slice (some ad) L ca) L (psCells c) rfl ?hsrc (oneCell_ps _) ?hb1 ?hb2 ?hk)
    case hown => exact own_empty _ _ _ _ _ rfl (by omega)
    case hsrc => have h := H.out.kp0 ((Kp.refl _ _).alloc (.cells #[] 25)); unfold IsPs at h; rw [HCL.out] at h; exact h
    case hb1 => omega
    case hb2 => first | omega | (simp; omega) | simp
    case hk =>
    intro v1 w1 hown hgr
    try simp only [Nat.zero_add, List.nil_append] at hown
    have hk1 : Kp [] w w1 := Kp.grown ((Kp.refl _ _).alloc _) hgr (by intro k hk; right; simp [Value.ownBlock] at hk; omega)
    have HO := Lib.hid hown
    clear hown hgr
    go_wp2_with fail
    go_ret
    exact ⟨_, rfl, HO.out, hk1⟩
end Go.Proofs.Ytpbmefojhgcniaa
namespace Go.Proofs.Ytpbmefojhgcniaa
open Go.RowKit
set_option linter.unusedVariables false
set_option linter.unusedSimpArgs false
theorem WVs.one {w : World} {base : Nat} {v : Value} {vs : List Value} {o : List (List Pn)} (h : WVs w base v vs o) : ∀ u ∈ vs, u.oneCell' = true := by
  intro u hu
  obtain ⟨i, hi, rfl⟩ := List.mem_iff_getElem.1 hu
  obtain ⟨p, c, e⟩ := (h.2 i (by have := h.1.1; omega)).1.form
  rw [List.getD_eq_getElem?_getD, List.getElem?_eq_getElem hi] at e
  simp only [Option.getD_some] at e
  rw [e]; rfl
/-- What Join gives. -/
def joinM (a b : List (List Pn)) : List (List Pn) × Int := if checkO a ≠ 0 then ([], checkO a) else if checkO b ≠ 0 then ([], checkO b) else if 256 < a.length + b.length ∨ 4096 < cnt a + cnt b then ([], 100) else (a ++ b, 0)
theorem join_out {w w4 : World} {base base2 : Nat} {va vb v : Value} {a b : List (List Pn)} {vsa vsb : List Value} {n : Nat} {e : TypeId} (ha : WVs w base va vsa a) (hb : WVs w base2 vb vsb b) (hlt : ∀ k, va.ownBlock = some k → k < base2)
    (hn : n = a.length + b.length) (hown : w4.ownsRow base e 1 v n (vsa ++ vsb)) (hgr : w.grownBy w4 va.ownBlock) : IsOut w4 v (a ++ b) := by
  have hla : vsa.length = a.length := by have := ha.1.1; omega
  have hlb : vsb.length = b.length := by have := hb.1.1; omega
  have hk : Kp va.ownBlock.toList w w4 := Kp.grown (Kp.refl _ _) hgr (fun k hk => .inl (by rw [hk]; simp))
  subst hn
  refine ⟨vsa ++ vsb, by rw [List.length_append]; exact Reads.owned hown, fun i hi => ?_⟩
  by_cases e : i < a.length
  · rw [List.getD_eq_getElem?_getD, List.getElem?_append_left (by omega), ← List.getD_eq_getElem?_getD, List.getD_eq_getElem?_getD (l := a ++ b), List.getElem?_append_left e, ← List.getD_eq_getElem?_getD]
    exact (ha.2 i e).1.kp hk (fun s hs e2 => ((ha.2 i e).2 s e2).1 (by simpa using hs))
  · have hi2 : i - a.length < b.length := by rw [List.length_append] at hi; omega
    rw [List.getD_eq_getElem?_getD, List.getElem?_append_right (by omega), hla, ← List.getD_eq_getElem?_getD, List.getD_eq_getElem?_getD (l := a ++ b), List.getElem?_append_right (by omega), ← List.getD_eq_getElem?_getD]
    exact (hb.2 _ hi2).1.kp hk (fun s hs e2 => by
      have h1 := ((hb.2 _ hi2).2 s e2).2.2
      have h2 := hlt s (by simpa using hs)
      omega)
end Go.Proofs.Ytpbmefojhgcniaa
namespace Go.Proofs.Ytpbmefojhgcniaa
open Go.RowKit
set_option linter.unusedVariables false
set_option linter.unusedSimpArgs false
set_option maxRecDepth 100000 in
set_option maxHeartbeats 2000000 in
theorem rmid_calls (a b : Pn) (w : World) (ha : numF a.x = true) (ha2 : numF a.y = true) (hb : numF b.x = true) (hb2 : numF b.y = true) :
    Calls Try.prog 92 #[pnV a, pnV b] w fun e w' => e = .returned (pnV (midP a b)) ∧ Kp [] w w' := by
  obtain ⟨ax, ay, ak⟩ := a
  obtain ⟨bx, cy, bk⟩ := b
  obtain ⟨a1, a2⟩ := (numF_iff _).1 ha
  obtain ⟨a3, a4⟩ := (numF_iff _).1 ha2
  obtain ⟨b1, b2⟩ := (numF_iff _).1 hb
  obtain ⟨b3, b4⟩ := (numF_iff _).1 hb2
  dsimp only at a1 a2 a3 a4 b1 b2 b3 b4
  clear ha ha2 hb hb2
  have HX : Hid (∀ W, Calls Try.prog 35 #[.int .i64 (ax + bx), .int .i64 2] W fun e w' => e = .returned (.int .i64 ((ax + bx) / 2)) ∧ w' = W) := fun W => (floor2_calls (ax + bx) (by omega) (by omega) W).mono fun _ _ ⟨x, y⟩ => ⟨x, y.symm⟩
  have HY : Hid (∀ W, Calls Try.prog 35 #[.int .i64 (ay + cy), .int .i64 2] W fun e w' => e = .returned (.int .i64 ((ay + cy) / 2)) ∧ w' = W) := fun W => (floor2_calls (ay + cy) (by omega) (by omega) W).mono fun _ _ ⟨x, y⟩ => ⟨x, y.symm⟩
  have hs1 : IntKind.i64.wrap (ax + bx) = ax + bx := by rw [IntKind.wrap_i64]; omega
  have hs2 : IntKind.i64.wrap (ay + cy) = ay + cy := by rw [IntKind.wrap_i64]; omega
  rw [show pnV ⟨ax, ay, ak⟩ = .agg #[.int .i64 ax, .int .i64 ay, .int .i64 ak] from rfl, show pnV ⟨bx, cy, bk⟩ = .agg #[.int .i64 bx, .int .i64 cy, .int .i64 bk] from rfl, show pnV (midP ⟨ax, ay, ak⟩ ⟨bx, cy, bk⟩) = .agg #[.int .i64 ((ax + bx) / 2), .int .i64 ((ay + cy) / 2), .int .i64 1] from rfl]
  go_enter Try.func92, Try.ntmps92
  go_wp2_with fail
  have hk0 : Kp [] w (((w.alloc (.cells #[.int .i64 ax, .int .i64 ay, .int .i64 ak] 25)).alloc (.cells #[.int .i64 bx, .int .i64 cy, .int .i64 bk] 25)).alloc (.cells #[.int .i64 0, .int .i64 0, .int .i64 0] 25)) := by (repeat (first | exact Kp.refl _ _ | assumption | refine Kp.drew ?_ | refine Kp.drewN ?_ _ | refine Kp.alloc ?_ _ | (refine Kp.setCell ?_ (by first | (left; simp; done) | (right; simp; try omega)) _) | (refine Kp.trans' ?_ (by assumption) (by simp; try omega))))
  have p0 : (((w.alloc (.cells #[.int .i64 ax, .int .i64 ay, .int .i64 ak] 25)).alloc (.cells #[.int .i64 bx, .int .i64 cy, .int .i64 bk] 25)).alloc (.cells #[.int .i64 0, .int .i64 0, .int .i64 0] 25)).cell? ⟨w.heap.size, 0, none⟩ = some (.int .i64 ax) := by go_simp
  have p1 : (((w.alloc (.cells #[.int .i64 ax, .int .i64 ay, .int .i64 ak] 25)).alloc (.cells #[.int .i64 bx, .int .i64 cy, .int .i64 bk] 25)).alloc (.cells #[.int .i64 0, .int .i64 0, .int .i64 0] 25)).cell? ⟨w.heap.size, 1, none⟩ = some (.int .i64 ay) := by go_simp
  have q0 : (((w.alloc (.cells #[.int .i64 ax, .int .i64 ay, .int .i64 ak] 25)).alloc (.cells #[.int .i64 bx, .int .i64 cy, .int .i64 bk] 25)).alloc (.cells #[.int .i64 0, .int .i64 0, .int .i64 0] 25)).cell? ⟨w.heap.size + 1, 0, none⟩ = some (.int .i64 bx) := by go_simp
  have q1 : (((w.alloc (.cells #[.int .i64 ax, .int .i64 ay, .int .i64 ak] 25)).alloc (.cells #[.int .i64 bx, .int .i64 cy, .int .i64 bk] 25)).alloc (.cells #[.int .i64 0, .int .i64 0, .int .i64 0] 25)).cell? ⟨w.heap.size + 1, 1, none⟩ = some (.int .i64 cy) := by go_simp
  have hB := heap_alloc_new ((w.alloc (.cells #[.int .i64 ax, .int .i64 ay, .int .i64 ak] 25)).alloc (.cells #[.int .i64 bx, .int .i64 cy, .int .i64 bk] 25)) (.cells #[.int .i64 0, .int .i64 0, .int .i64 0] 25)
  simp only [World.size_alloc] at hB
  generalize ((w.alloc (.cells #[.int .i64 ax, .int .i64 ay, .int .i64 ak] 25)).alloc (.cells #[.int .i64 bx, .int .i64 cy, .int .i64 bk] 25)).alloc (.cells #[.int .i64 0, .int .i64 0, .int .i64 0] 25) = w1 at *
  have r0 := fun n : KW w1 => KW.cell p0 n
  have r1 := fun n : KW w1 => KW.cell p1 n
  have t0 := fun n : KW w1 => KW.cell q0 n
  have t1 := fun n : KW w1 => KW.cell q1 n
  refine wp_region_kqt 13 (by kernel_rfl) (by kernel_rfl) ?_
  simp only [List.take_succ_cons, List.take_zero, List.drop_succ_cons, List.drop_zero]
  repeat (go_big_quiet_step ((first | (go_at_call 35; with_reducible exact Calls.kq0 (HX.out _)) | (go_at_call 35; with_reducible exact Calls.kq0 (HY.out _)))))
  refine wpQuiet_nil ?_
  intro w2 hw'
  obtain ⟨⟨_, hkw2⟩, rfl⟩ := hw'
  try dsimp only
  have hB2 := hkw2.heap hB (by simp)
  have HK2 : Hid (Kp [] w w2) := hk0.trans hkw2
  have d0 : w2.cell? ⟨w.heap.size + 1 + 1, 0, none⟩ = some (.int .i64 0) := by
    rw [cell_of_row w2 _ 0 _ _ _ hB2]; rfl
  have d1 : w2.cell? ⟨w.heap.size + 1 + 1, 1, none⟩ = some (.int .i64 0) := by
    rw [cell_of_row w2 _ 1 _ _ _ hB2]; rfl
  have d2 : w2.cell? ⟨w.heap.size + 1 + 1, 2, none⟩ = some (.int .i64 0) := by
    rw [cell_of_row w2 _ 2 _ _ _ hB2]; rfl
  have f0 := frozen_of_row w2 _ 0 _ _ hB2
  have f1 := frozen_of_row w2 _ 1 _ _ hB2
  have f2 := frozen_of_row w2 _ 2 _ _ hB2
  go_wp2_with fail
  refine bodyPost_ret (v := .agg #[.int .i64 ((ax + bx) / 2), .int .i64 ((ay + cy) / 2), .int .i64 1]) (by simp [results, Try.results92, go_sem, *]) rfl ⟨rfl, ?_⟩
  exact ((HK2.out.setCell (.inr (by show _ ≤ w.heap.size + 1 + 1; omega)) _).setCell (.inr (by show _ ≤ w.heap.size + 1 + 1; omega)) _).setCell (.inr (by show _ ≤ w.heap.size + 1 + 1; omega)) _
end Go.Proofs.Ytpbmefojhgcniaa
namespace Go.Proofs.Ytpbmefojhgcniaa
open Go.RowKit
set_option linter.unusedVariables false
set_option linter.unusedSimpArgs false
/-- How many points come before the first that lies on the outline. -/
def onAt : List Pn → Nat
  | [] => 0
  | p :: l => if p.k = 1 then 0 else onAt l + 1
/-- None of the first j points lies on the outline. -/
def offTo (c : List Pn) (j : Nat) : Prop := ∀ t, t < j → (c.getD t pn0).k ≠ 1
theorem onAt_le (c : List Pn) : onAt c ≤ c.length := by
  induction c with
  | nil => exact Nat.le_refl _
  | cons p l ih => unfold onAt; split <;> simp only [List.length_cons] <;> omega
theorem offTo_onAt (c : List Pn) : offTo c (onAt c) := by
  induction c with
  | nil => intro t ht; exact absurd ht (by simp [onAt])
  | cons p l ih =>
    intro t ht
    unfold onAt at ht
    split at ht
    · omega
    · rename_i h
      match t with
      | 0 => exact h
      | t + 1 => exact ih t (by omega)
theorem onAt_found (c : List Pn) (j : Nat) (hj : j < c.length) (h0 : offTo c j) (h : (c.getD j pn0).k = 1) : onAt c = j := by
  induction c generalizing j with
  | nil => simp at hj
  | cons p l ih =>
    unfold onAt
    match j with
    | 0 => rw [if_pos (by simpa using h)]
    | j + 1 =>
      rw [if_neg (by simpa using h0 0 (by omega)), ih j (by simpa using hj) (fun t ht => h0 (t + 1) (by omega)) (by simpa using h)]
theorem onAt_none (c : List Pn) (h0 : offTo c c.length) : onAt c = c.length := by
  induction c with
  | nil => rfl
  | cons p l ih =>
    unfold onAt
    rw [if_neg (by simpa using h0 0 (by simp)), ih (fun t ht => h0 (t + 1) (by simp only [List.length_cons]; omega))]; rfl
/-- The place of the first point that lies on the outline, or -1. -/
def firstOn (c : List Pn) : Int := if onAt c < c.length then (onAt c : Int) else -1
theorem offTo_succ {c : List Pn} {j : Nat} (h : offTo c j) (he : (c.getD j pn0).k ≠ 1) : offTo c (j + 1) := fun t ht => by
  by_cases e : t = j
  · rw [e]; exact he
  · exact h t (by omega)
set_option maxRecDepth 100000 in
set_option maxHeartbeats 2000000 in
theorem indexon_calls (v : Value) (c : List Pn) (w : World) (h : IsPs w v c) :
    Calls Try.prog 104 #[v, .func (.func 105) #[] #[]] w fun e w' => e = .returned (.int .i64 (firstOn c)) ∧ Kp [] w w' := by
  have hle := h.le
  unfold maxLen at hle
  obtain ⟨pa, ca, rfl⟩ := h.form
  have HV := Lib.hid h
  clear h
  have HF : Hid (∀ j, j < c.length → offTo c j → (c.getD j pn0).k = 1 → firstOn c = j) := fun j hj h0 h1 => by unfold firstOn; rw [onAt_found c j hj h0 h1, if_pos hj]
  have HE : Hid (offTo c c.length → firstOn c = -1) := fun h0 => by unfold firstOn; rw [onAt_none c h0, if_neg (by omega)]
  obtain ⟨N, hN⟩ : ∃ N, c.length = N := ⟨_, rfl⟩
  have HN := Lib.hid hN
  rw [hN] at HV hle HF HE ⊢
  clear hN
  generalize firstOn c = R at *
  go_enter Try.func104, Try.ntmps104
  go_wp2_with fail
  go_loopw [5, 8] (fun _ i wr => ∃ j : Nat, j ≤ N ∧ i = .int .i64 j ∧ Hid (offTo c j ∧ Kp [] w wr)) (fun _ i _ => N - (intOf i).toNat)
  case atStart => exact ⟨0, by omega, rfl, fun t ht => absurd ht (by omega), Kp.refl _ _⟩
  case round =>
    obtain ⟨j, hj, rfl, HJ⟩ := hrel
    by_cases hlt : j < N
    · obtain ⟨g1, o1, c1, e1, _, _, x1, y1, k1⟩ := (HV.out.kp0 HJ.out.2).row (i := j) (by rw [HN.out]; exact hlt)
      rw [HN.out] at e1
      cases e1
      have HC := Lib.hid (ison_calls (c.getD j pn0) wr)
      by_cases hk : (c.getD j pn0).k = 1
      · have HA := Lib.hid (HF.out j hlt HJ.out.1 hk)
        rw [show ((c.getD j pn0).k == 1) = true by rw [hk]; rfl, show pnV (c.getD j pn0) = .agg #[.int .i64 (c.getD j pn0).x, .int .i64 (c.getD j pn0).y, .int .i64 (c.getD j pn0).k] from rfl] at HC
        clear hk
        generalize (c.getD j pn0).x = X at *
        generalize (c.getD j pn0).y = Y at *
        generalize (c.getD j pn0).k = K at *
        go_wp2_with fail
        refine HC.out.mono ?_; rintro e w2 ⟨rfl, hk2⟩
        have HK2 : Hid (Kp [] w w2) := HJ.out.2.trans hk2
        clear hk2 x1 y1 k1
        go_wp2_with fail
        go_ret
        exact ⟨by rw [HA.out]; rfl, HK2.out⟩
      · have HB := Lib.hid (offTo_succ HJ.out.1 hk)
        rw [show ((c.getD j pn0).k == 1) = false by simpa using hk, show pnV (c.getD j pn0) = .agg #[.int .i64 (c.getD j pn0).x, .int .i64 (c.getD j pn0).y, .int .i64 (c.getD j pn0).k] from rfl] at HC
        clear hk
        generalize (c.getD j pn0).x = X at *
        generalize (c.getD j pn0).y = Y at *
        generalize (c.getD j pn0).k = K at *
        go_wp2_with fail
        refine HC.out.mono ?_; rintro e w2 ⟨rfl, hk2⟩
        have HK2 : Hid (Kp [] w w2) := HJ.out.2.trans hk2
        clear hk2 x1 y1 k1
        go_wp2_with fail
        go_roundw
        case rel => first | exact ⟨j + 1, by omega, int_eq' (by omega), HB.out, HK2.out⟩ | ((repeat apply Exists.intro); exact ⟨⟨j + 1, by omega, int_eq' (by omega), HB.out, HK2.out⟩, rfl⟩)
        case measure => simp [intOf]; omega
    · obtain rfl : j = N := by omega
      have HA := Lib.hid (HE.out HJ.out.1)
      go_wp2_with fail
      go_ret
      exact ⟨by rw [HA.out]; rfl, HJ.out.2⟩
end Go.Proofs.Ytpbmefojhgcniaa

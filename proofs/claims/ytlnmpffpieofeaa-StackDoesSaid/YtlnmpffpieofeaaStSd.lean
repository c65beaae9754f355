/- stack: StackDoes: the two Stacks side by side. -/
import Derived.Test.YtlnmpffpieofeaaStRe
import Derived.Test.YtlnmpffpieofeaaStFl
import Derived.Test.YtlnmpffpieofeaaPair
namespace Go.Proofs.Ytlnmpffpieofeaa
open Go.RowKit
set_option linter.unusedVariables false
set_option linter.unusedSimpArgs false
/-- The program's Stack (l, st, dr) and the reference's (l2, st2, used), apart; and a box of the law's own. -/
def DoSt (w : World) (s r : Nat) (vD : Value) (draws l st dr l2 st2 : List Int) (used bx : Nat) (cs : List Value) (wr : World) : Prop :=
  ∃ B B2 vl vd vL, w.heap.size ≤ B ∧ w.heap.size ≤ B2 ∧ StS wr s B vl l st vd dr ∧ RfS wr r B2 vL l2 st2 vD draws used ∧ s ≠ r ∧ (∀ k, vl.ownBlock = some k → k ≠ r ∧ vL.ownBlock ≠ some k) ∧ vL.ownBlock ≠ some s ∧ (∀ k, blockOf vd = some k → k ≠ r ∧ vL.ownBlock ≠ some k) ∧
    (∀ b, blockOf vD = some b → b < w.heap.size) ∧ (∀ j u, cs[j]? = some u → bx ≠ s ∧ bx ≠ r ∧ vl.ownBlock ≠ some bx ∧ vL.ownBlock ≠ some bx ∧ wr.cell? ⟨bx, j, none⟩ = some u) ∧ Kp [] w wr
section
variable {w wr w' : World} {s r used used' bx : Nat} {vD : Value} {draws l st dr l2 st2 l' st' dr' : List Int} {cs : List Value}
theorem DoSt.base (h : DoSt w s r vD draws l st dr l2 st2 used bx cs wr) : Kp [] w wr := by
  obtain ⟨B, B2, vl, vd, vL, h1, h2, h3, h4, h5, h6, h7, h8, h9, h10, h11⟩ := h; exact h11
theorem DoSt.cell (h : DoSt w s r vD draws l st dr l2 st2 used bx cs wr) (j : Nat) (u : Value) (hj : cs[j]? = some u) : wr.cell? ⟨bx, j, none⟩ = some u := by
  obtain ⟨B, B2, vl, vd, vL, h1, h2, h3, h4, h5, h6, h7, h8, h9, h10, h11⟩ := h; exact (h10 j u hj).2.2.2.2
theorem DoSt.kp (h : DoSt w s r vD draws l st dr l2 st2 used bx cs wr) (hk : Kp [] wr w') : DoSt w s r vD draws l st dr l2 st2 used bx cs w' := by
  obtain ⟨B, B2, vl, vd, vL, h1, h2, h3, h4, h5, h6, h7, h8, h9, h10, h11⟩ := h
  exact ⟨B, B2, vl, vd, vL, h1, h2, h3.kp0 hk, h4.kp hk (fun t ht => nomatch ht), h5, h6, h7, h8, h9, fun j u hj => ⟨(h10 j u hj).1, (h10 j u hj).2.1, (h10 j u hj).2.2.1, (h10 j u hj).2.2.2.1, hk.cell (h10 j u hj).2.2.2.2 (by simp)⟩, h11.trans hk⟩
/-- A step of the program's Stack. -/
theorem DoSt.code {B B2 : Nat} {vl vd vL vl' vd' : Value} (h1 : w.heap.size ≤ B) (h2 : w.heap.size ≤ B2) (h3 : StS wr s B vl l st vd dr) (h4 : RfS wr r B2 vL l2 st2 vD draws used) (h5 : s ≠ r) (h6 : ∀ k, vl.ownBlock = some k → k ≠ r ∧ vL.ownBlock ≠ some k) (h7 : vL.ownBlock ≠ some s) (h8 : ∀ k, blockOf vd = some k → k ≠ r ∧ vL.ownBlock ≠ some k)
    (h9 : ∀ b, blockOf vD = some b → b < w.heap.size) (h10 : ∀ j u, cs[j]? = some u → bx ≠ s ∧ bx ≠ r ∧ vl.ownBlock ≠ some bx ∧ vL.ownBlock ≠ some bx ∧ wr.cell? ⟨bx, j, none⟩ = some u) (h11 : Kp [] w wr)
    (hS : StS w' s B vl' l' st' vd' dr') (hK : StK wr w' s vl vl') (hv : KV vd vd') : DoSt w s r vD draws l' st' dr' l2 st2 used bx cs w' := by
  have hn : ∀ t, t ∈ s :: vl.ownBlock.toList → t = s ∨ vl.ownBlock = some t := fun t ht => by
    rcases List.mem_cons.1 ht with e | e
    · exact .inl e
    · exact .inr (own_mem e)
  have hr := h4.lt
  refine ⟨B, B2, vl', vd', vL, h1, h2, hS, h4.kp hK.1 (fun t ht => ?_), h5, fun k e => ?_, h7, fun k e => h8 k (hv k e), h9, fun j u hj => ?_, hK.kp0 h3.2.2.1 (fun k e => (h3.2.2.2.1.lt k e).1) h1 h11⟩
  · rcases hn t ht with rfl | e
    · exact ⟨h5, h7, fun e2 => by have := h9 _ e2; have := h3.2.2.1; omega⟩
    · exact ⟨(h6 t e).1, (h6 t e).2, fun e2 => by have := h9 _ e2; have := (h3.2.2.2.1.lt t e).1; omega⟩
  · rcases hK.2 k e with g | g
    · exact h6 k g
    · exact ⟨by omega, fun e2 => by have := (h4.2.2.2.1.lt k e2).2; omega⟩
  · obtain ⟨x1, x2, x3, x4, x5⟩ := h10 j u hj
    refine ⟨x1, x2, fun e => ?_, x4, hK.1.cell x5 (fun ht => ?_)⟩
    · rcases hK.2 bx e with g | g
      · exact x3 g
      · have := World.block_lt_of_cell? wr _ x5; simp at this; omega
    · rcases hn _ ht with e | e
      · exact x1 e
      · exact x3 e
/-- A step of the reference's. -/
theorem DoSt.ref {B B2 : Nat} {vl vd vL vL' : Value} {l2' st2' : List Int} (h1 : w.heap.size ≤ B) (h2 : w.heap.size ≤ B2) (h3 : StS wr s B vl l st vd dr) (h4 : RfS wr r B2 vL l2 st2 vD draws used) (h5 : s ≠ r) (h6 : ∀ k, vl.ownBlock = some k → k ≠ r ∧ vL.ownBlock ≠ some k) (h7 : vL.ownBlock ≠ some s) (h8 : ∀ k, blockOf vd = some k → k ≠ r ∧ vL.ownBlock ≠ some k)
    (h9 : ∀ b, blockOf vD = some b → b < w.heap.size) (h10 : ∀ j u, cs[j]? = some u → bx ≠ s ∧ bx ≠ r ∧ vl.ownBlock ≠ some bx ∧ vL.ownBlock ≠ some bx ∧ wr.cell? ⟨bx, j, none⟩ = some u) (h11 : Kp [] w wr)
    (hS : RfS w' r B2 vL' l2' st2' vD draws used') (hK : RfK wr w' r vL vL') : DoSt w s r vD draws l st dr l2' st2' used' bx cs w' := by
  refine ⟨B, B2, vl, vd, vL', h1, h2, h3.kp hK.1 (fun t ht => ?_), hS, h5, fun k e => ⟨(h6 k e).1, fun e2 => ?_⟩, fun e => ?_, fun k e => ⟨(h8 k e).1, fun e2 => ?_⟩, h9, fun j u hj => ?_, h11.trans' hK.1 (fun t ht => by simp at ht; subst ht; exact .inr (Nat.le_trans h2 h4.2.2.1))⟩
  · simp at ht; subst ht
    exact ⟨fun e => h5 e.symm, fun e => (h6 _ e).1 rfl, fun e => (h8 _ e).1 rfl⟩
  · rcases hK.2 k e2 with g | g
    · exact (h6 k e).2 g
    · have := (h3.2.2.2.1.lt k e).2; omega
  · rcases hK.2 s e with g | g
    · exact h7 g
    · have := h3.lt; omega
  · rcases hK.2 k e2 with g | g
    · exact (h8 k e).2 g
    · have := (h3.2.2.2.2.2.2 k e).2.2.2; omega
  · obtain ⟨x1, x2, x3, x4, x5⟩ := h10 j u hj
    refine ⟨x1, x2, x3, fun e => ?_, hK.1.cell x5 (fun ht => by simp at ht; exact x2 ht)⟩
    rcases hK.2 bx e with g | g
    · exact x4 g
    · have := World.block_lt_of_cell? wr _ x5; simp at this; omega
def pushE (l : List Int) (x : Int) : Int := if mayB x = false then 10 else if l.length = 48 then 170 else 0
def pushL (l : List Int) (x : Int) : List Int := if mayB x = true ∧ l.length ≠ 48 then l ++ [x] else l
def popE (l : List Int) : Int := if l = [] then 170 else 0
theorem push_hc {l : List Int} {x : Int} (hc : ¬ (mayB x = true ∧ l.length ≠ 48)) : mayB x = false ∨ l.length = 48 := by
  by_cases hm : mayB x = true
  · exact .inr (Classical.byContradiction fun h => hc ⟨hm, h⟩)
  · exact .inl (by simpa using hm)
theorem pushE_no {l : List Int} {x : Int} (hc : ¬ (mayB x = true ∧ l.length ≠ 48)) : (if mayB x = false then 10 else 170 : Int) = pushE l x := by
  unfold pushE
  by_cases hm : mayB x = false
  · rw [if_pos hm, if_pos hm]
  · rcases push_hc hc with g | g
    · exact absurd g hm
    · rw [if_neg hm, if_neg hm, if_pos g]
theorem pushL_ok {x : Int} (h : OkM l st) : OkM (pushL l x) st := by
  unfold pushL
  split
  · rename_i hc
    have := h.1
    exact okM_app (by omega) h.2.1 hc.1 h.2.2.1 h.2.2.2
  · exact h
theorem pop_ok (h : OkM l st) : OkM l.dropLast st := ⟨by have := h.1; simp; omega, fun x hx => h.2.1 x ((List.dropLast_sublist l).subset hx), h.2.2⟩
theorem snoc (l : List Int) (h : l ≠ []) : l = l.dropLast ++ [l.getLastD 0] := by
  have := List.dropLast_concat_getLast h
  conv => lhs; rw [← this]
  congr 2
  cases l with
  | nil => exact absurd rfl h
  | cons a t => rfl
theorem dpush (x : Int) (h : DoSt w s r vD draws l st dr l2 st2 used bx cs wr) (hl : l.length ≤ 48) :
    Calls Try.prog 10 #[.pointer (some ⟨s, 0, none⟩), .int .i64 x] wr fun e w' => e = .returned (.int .i64 (pushE l x)) ∧ DoSt w s r vD draws (pushL l x) st dr l2 st2 used bx cs w' := by
  have H := h
  obtain ⟨B, B2, vl, vd, vL, h1, h2, h3, h4, h5, h6, h7, h8, h9, h10, h11⟩ := h
  by_cases hc : mayB x = true ∧ l.length ≠ 48
  · refine (push_calls s B vl vd l st dr x hc.1 wr h3 (by omega)).mono fun e w' hh => ?_
    obtain ⟨he, vl', hS, hK⟩ := hh
    rw [show pushE l x = 0 by unfold pushE; rw [if_neg (by rw [hc.1]; decide), if_neg hc.2], show pushL l x = l ++ [x] by unfold pushL; rw [if_pos hc]]
    exact ⟨he, DoSt.code h1 h2 h3 h4 h5 h6 h7 h8 h9 h10 h11 hS hK (KV.refl vd)⟩
  · refine (push_no s B vl vd l st dr x wr h3 hl (push_hc hc)).mono fun e w' hh => ?_
    obtain ⟨he, rfl⟩ := hh
    refine ⟨?_, by unfold pushL; rw [if_neg hc]; exact H⟩
    rw [he, pushE_no hc]
theorem drpush (x : Int) (h : DoSt w s r vD draws l st dr l2 st2 used bx cs wr) (hl : l2.length ≤ 48) :
    Calls Try.prog 18 #[.pointer (some ⟨r, 0, none⟩), .int .i64 x] wr fun e w' => e = .returned (.int .i64 (pushE l2 x)) ∧ DoSt w s r vD draws l st dr (pushL l2 x) st2 used bx cs w' := by
  have H := h
  obtain ⟨B, B2, vl, vd, vL, h1, h2, h3, h4, h5, h6, h7, h8, h9, h10, h11⟩ := h
  by_cases hc : mayB x = true ∧ l2.length ≠ 48
  · refine (rpush_calls r B2 vL vD l2 st2 draws used x hc.1 wr h4 (by omega)).mono fun e w' hh => ?_
    obtain ⟨he, vl', hS, hK⟩ := hh
    rw [show pushE l2 x = 0 by unfold pushE; rw [if_neg (by rw [hc.1]; decide), if_neg hc.2], show pushL l2 x = l2 ++ [x] by unfold pushL; rw [if_pos hc]]
    exact ⟨he, DoSt.ref h1 h2 h3 h4 h5 h6 h7 h8 h9 h10 h11 hS hK⟩
  · refine (rpush_no r B2 vL vD l2 st2 draws used x wr h4 hl (push_hc hc)).mono fun e w' hh => ?_
    obtain ⟨he, rfl⟩ := hh
    refine ⟨?_, by unfold pushL; rw [if_neg hc]; exact H⟩
    rw [he, pushE_no hc]
theorem dpop (h : DoSt w s r vD draws l st dr l2 st2 used bx cs wr) (hl : l.length ≤ 48) :
    Calls Try.prog 12 #[.pointer (some ⟨s, 0, none⟩)] wr fun e w' => e = .returned (.tuple #[.int .i64 (l.getLastD 0), .int .i64 (popE l)]) ∧ DoSt w s r vD draws l.dropLast st dr l2 st2 used bx cs w' := by
  have H := h
  obtain ⟨B, B2, vl, vd, vL, h1, h2, h3, h4, h5, h6, h7, h8, h9, h10, h11⟩ := h
  by_cases hc : l = []
  · subst hc
    refine (pop_empty s B vl vd st dr wr h3).mono fun e w' hh => ?_
    obtain ⟨he, rfl⟩ := hh
    exact ⟨he, H⟩
  · have hs := snoc l hc
    have hlen : l.dropLast.length < 48 := by have := List.length_pos_iff.2 hc; simp; omega
    unfold popE; rw [if_neg hc]
    generalize l.dropLast = q at *
    generalize l.getLastD 0 = x at *
    subst hs
    refine (pop_calls s B vl vd q st dr x wr h3 (by omega)).mono fun e w' hh => ?_
    obtain ⟨he, vl', hS, hK⟩ := hh
    exact ⟨he, DoSt.code h1 h2 h3 h4 h5 h6 h7 h8 h9 h10 h11 hS hK (KV.refl vd)⟩
theorem drpop (h : DoSt w s r vD draws l st dr l2 st2 used bx cs wr) (hl : l2.length ≤ 48) :
    Calls Try.prog 19 #[.pointer (some ⟨r, 0, none⟩)] wr fun e w' => e = .returned (.tuple #[.int .i64 (l2.getLastD 0), .int .i64 (popE l2)]) ∧ DoSt w s r vD draws l st dr l2.dropLast st2 used bx cs w' := by
  have H := h
  obtain ⟨B, B2, vl, vd, vL, h1, h2, h3, h4, h5, h6, h7, h8, h9, h10, h11⟩ := h
  by_cases hc : l2 = []
  · subst hc
    refine (rpop_empty r B2 vL vD st2 draws used wr h4).mono fun e w' hh => ?_
    obtain ⟨he, rfl⟩ := hh
    exact ⟨he, H⟩
  · have hs := snoc l2 hc
    have hlen : l2.dropLast.length < 48 := by have := List.length_pos_iff.2 hc; simp; omega
    unfold popE; rw [if_neg hc]
    generalize l2.dropLast = q at *
    generalize l2.getLastD 0 = x at *
    subst hs
    refine (rpop_calls r B2 vL vD q st2 draws used x wr h4 hlen).mono fun e w' hh => ?_
    obtain ⟨he, vl', hS, hK⟩ := hh
    exact ⟨he, DoSt.ref h1 h2 h3 h4 h5 h6 h7 h8 h9 h10 h11 hS hK⟩
theorem ddo (op : Int) (h : DoSt w s r vD draws l st dr l2 st2 used bx cs wr) (hok : OkM l st) :
    Calls Try.prog 15 #[.pointer (some ⟨s, 0, none⟩), .int .i64 op] wr fun e w' => e = .returned (.int .i64 (doM op l st dr).1) ∧ DoSt w s r vD draws (doM op l st dr).2.1 (doM op l st dr).2.2.1 (doM op l st dr).2.2.2 l2 st2 used bx cs w' := by
  obtain ⟨B, B2, vl, vd, vL, h1, h2, h3, h4, h5, h6, h7, h8, h9, h10, h11⟩ := h
  refine (do_calls op s B vl vd l st dr wr h3 hok.1 hok.2.1).mono fun e w' hh => ?_
  obtain ⟨he, vl', vd', hS, hK, hv⟩ := hh
  exact ⟨he, DoSt.code h1 h2 h3 h4 h5 h6 h7 h8 h9 h10 h11 hS hK hv⟩
theorem drdo (op : Int) (h : DoSt w s r vD draws l st dr l2 st2 used bx cs wr) (hok : OkM l2 st2) (hu : used ≤ 100000) (res : Int × List Int × List Int × List Int) (hres : doM op l2 st2 (draws.drop used) = res) :
    Calls Try.prog 20 #[.pointer (some ⟨r, 0, none⟩), .int .i64 op] wr fun e w' => e = .returned (.int .i64 res.1) ∧ ∃ used', used' ≤ used + 1 ∧ res.2.2.2 = draws.drop used' ∧ DoSt w s r vD draws l st dr res.2.1 res.2.2.1 used' bx cs w' := by
  subst hres
  obtain ⟨B, B2, vl, vd, vL, h1, h2, h3, h4, h5, h6, h7, h8, h9, h10, h11⟩ := h
  refine (rdo_calls op r B2 used vL vD l2 st2 draws wr h4 hok hu).mono fun e w' hh => ?_
  obtain ⟨he, vL', used', hu1, hu2, hS, hK⟩ := hh
  exact ⟨he, used', hu1, hu2, DoSt.ref h1 h2 h3 h4 h5 h6 h7 h8 h9 h10 h11 hS hK⟩
theorem dlen (h : DoSt w s r vD draws l st dr l2 st2 used bx cs wr) :
    Calls Try.prog 13 #[.pointer (some ⟨s, 0, none⟩)] wr fun e w' => e = .returned (.int .i64 l.length) ∧ wr = w' := by
  obtain ⟨B, B2, vl, vd, vL, h1, h2, h3, h4, h5, h6, h7, h8, h9, h10, h11⟩ := h
  exact slen_calls s B vl vd l st dr wr h3
theorem dall (h : DoSt w s r vD draws l st dr l2 st2 used bx cs wr) (hl : l.length ≤ 48) :
    Calls Try.prog 17 #[.pointer (some ⟨s, 0, none⟩)] wr fun e w' => ∃ v, e = .returned v ∧ IsInts .i64 w' v l ∧ Kp [] wr w' ∧ DoSt w s r vD draws l st dr l2 st2 used bx cs w' := by
  have H := h
  obtain ⟨B, B2, vl, vd, vL, h1, h2, h3, h4, h5, h6, h7, h8, h9, h10, h11⟩ := h
  exact (sall_calls s B vl vd l st dr wr h3 (by omega)).mono fun e w' ⟨v, he, hi, hk⟩ => ⟨v, he, hi, hk, H.kp hk⟩
theorem dtake (h : DoSt w s r vD draws l st dr l2 st2 used bx cs wr) :
    Calls Try.prog 23 #[.pointer (some ⟨s, 0, none⟩)] wr fun e w' => ∃ v, e = .returned v ∧ IsInts .i64 w' v l ∧ Kp [s] wr w' ∧ DoSt w s r vD draws [] st dr l2 st2 used bx cs w' := by
  obtain ⟨B, B2, vl, vd, vL, h1, h2, h3, h4, h5, h6, h7, h8, h9, h10, h11⟩ := h
  refine (stake_calls s B vl vd l st dr wr h3).mono fun e w' hh => ?_
  obtain ⟨he, hS, hk, hi⟩ := hh
  refine ⟨vl, he, hi, hk, DoSt.code h1 h2 h3 h4 h5 h6 h7 h8 h9 h10 h11 hS ⟨hk.more (fun t ht => .inl (by simp at ht; subst ht; simp)), fun k e => by simp [Value.ownBlock] at e⟩ (KV.refl vd)⟩
/-- The reference's numbers, read. -/
theorem DoSt.rl (h : DoSt w s r vD draws l st dr l2 st2 used bx cs wr) : ∃ p c, wr.cell? ⟨r, 0, none⟩ = some (.slice p l2.length c) ∧ IsInts .i64 wr (.slice p l2.length c) l2 ∧ wr.frozen? ⟨r, 0, none⟩ = false ∧
    DoSt w s r vD draws l st dr [] st2 used bx cs (wr.setCell ⟨r, 0, none⟩ (.slice none 0 0)) ∧ ∀ w', Kp [s] wr w' → w'.cell? ⟨r, 0, none⟩ = some (.slice p l2.length c) := by
  obtain ⟨B, B2, vl, vd, vL, h1, h2, h3, h4, h5, h6, h7, h8, h9, h10, h11⟩ := h
  obtain ⟨p, c, rfl⟩ := h4.2.2.2.1.form
  have hp := h4.put (v' := .slice none 0 0) (l' := []) (Kp.refl _ _) (.inl ⟨rfl, rfl⟩)
  exact ⟨p, c, h4.cell0, h4.2.2.2.1.ints, h4.frozen 0, DoSt.ref h1 h2 h3 h4 h5 h6 h7 h8 h9 h10 h11 hp.1 hp.2, fun w' hk => hk.cell h4.cell0 (by simp; exact fun e => h5 e.symm)⟩
/-- A box, laid. -/
theorem DoSt.box (h : DoSt w s r vD draws l st dr l2 st2 used bx cs wr) (cs' : Array Value) (T : TypeId) : DoSt w s r vD draws l st dr l2 st2 used wr.heap.size cs'.toList (wr.alloc (.cells cs' T)) := by
  have hk : Kp [] wr (wr.alloc (.cells cs' T)) := (Kp.refl _ _).alloc _
  obtain ⟨B, B2, vl, vd, vL, h1, h2, h3, h4, h5, h6, h7, h8, h9, h10, h11⟩ := h
  have h3s := h3.lt
  have h4r := h4.lt
  refine ⟨B, B2, vl, vd, vL, h1, h2, h3.kp0 hk, h4.kp hk (fun t ht => nomatch ht), h5, h6, h7, h8, h9, fun j u hj => ⟨by omega, by omega, fun e => by have := (h3.2.2.2.1.lt _ e).2; omega, fun e => by have := (h4.2.2.2.1.lt _ e).2; omega, ?_⟩, h11.trans hk⟩
  rw [cell_of_row _ _ j _ _ _ (heap_alloc_new wr _), ← Array.getElem?_toList]; exact hj
theorem DoSt.nobox (h : DoSt w s r vD draws l st dr l2 st2 used bx cs wr) : DoSt w s r vD draws l st dr l2 st2 used 0 [] wr := by
  obtain ⟨B, B2, vl, vd, vL, h1, h2, h3, h4, h5, h6, h7, h8, h9, h10, h11⟩ := h
  exact ⟨B, B2, vl, vd, vL, h1, h2, h3, h4, h5, h6, h7, h8, h9, fun j u hj => by simp at hj, h11⟩
end
theorem same_true (va vb : Value) (xs : List Int) (w : World) (ha : IsInts .i64 w va xs) (hb : IsInts .i64 w vb xs) : Calls Try.prog 16 #[va, vb] w fun e w' => e = .returned (.bool true) ∧ Kp [] w w' := by
  have := same_calls va vb xs xs w ha hb
  rw [decide_eq_true rfl] at this; exact this
end Go.Proofs.Ytlnmpffpieofeaa

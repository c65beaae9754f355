/- The bytes of a selection, as the document has them. Plain lists; no program in sight · charset.PutSelect in the format 3: the bytes of a selection, range by range · The reference's MayPut and MaySelect. (Written by wip/charset/genmay.py.) · The reference's Put. (Written by wip/charset/genrput.py.) · What was put is loaded again, whatever follows. Plain lists; no program in sight · The bytes that are put are bytes, and so many at the most. Plain lists; no program in sight. (Merged by wip/tools/mergetpl.py out of ChPlainQ, ChL, ChX, ChY, ChPlainU, ChPlainV.) -/
import Derived.Test.YtlhkaoccnpgkeaaGreatHcA
import Derived.Lib.Hide
import Derived.Test.YtlhkaoccnpgkeaaGreatHcB
import Derived.Test.YtlhkaoccnpgkeaaGreatWmA
import Derived.BigQuiet
import Derived.Deep.QuietTactic
namespace Go.Proofs.YtlhkaoccnpgkeaaGreat.Ch
set_option linter.unusedVariables false
set_option linter.unusedSimpArgs false
/-- How many equal numbers a list begins with. -/
def runE (all : Int) (l : List Int) : Nat := runGo (fun i => l.getD i 0 == l.getD 0 0) all (l.length - 1) 1
theorem runE_ge (all : Int) (l : List Int) : 1 ≤ runE all l := (runGo_le _ _ _ _).1
theorem runE_le (all : Int) (l : List Int) (h : 1 ≤ l.length) : runE all l ≤ l.length := by have := (runGo_le (fun i => l.getD i 0 == l.getD 0 0) all (l.length - 1) 1).2; unfold runE; omega
/-- A selection's ranges: where each begins, and its number. -/
def psGo (all : Int) : Nat → List Int → Nat → List (Nat × Int)
  | 0, _, _ => []
  | m + 1, l, a => if l = [] then [] else (a, l.getD 0 0) :: psGo all m (l.drop (runE all l)) (a + runE all l)
def psB (rs : List (Nat × Int)) : List Int := rs.flatMap fun p => by2 p.1 ++ [p.2 % 256]
theorem psB_length (rs : List (Nat × Int)) : (psB rs).length = 3 * rs.length := by
  induction rs with
  | nil => rfl
  | cons p l ih => simp [psB, by2] at ih ⊢; omega
theorem psB_snoc (rs : List (Nat × Int)) (p : Nat × Int) : psB (rs ++ [p]) = psB rs ++ (by2 p.1 ++ [p.2 % 256]) := by simp [psB]
/-- Where a put stands: the ranges so far, and the numbers still to come, from place a on. -/
def PsAt (all : Int) (R acc : List (Nat × Int)) (rest : List Int) (a : Nat) : Prop := ∃ m, rest.length ≤ m ∧ acc ++ psGo all m rest a = R
theorem psAt_start (l : List Int) : PsAt l.length (psGo l.length l.length l 0) [] l 0 := ⟨l.length, Nat.le_refl _, rfl⟩
theorem psAt_end (all : Int) (R acc : List (Nat × Int)) (a : Nat) (h : PsAt all R acc [] a) : R = acc := by
  obtain ⟨m, _, rfl⟩ := h
  cases m <;> simp [psGo]
theorem psAt_step (all : Int) (R acc : List (Nat × Int)) (rest : List Int) (a : Nat) (h : PsAt all R acc rest a) (hr : rest ≠ []) : PsAt all R (acc ++ [(a, rest.getD 0 0)]) (rest.drop (runE all rest)) (a + runE all rest) := by
  obtain ⟨m, hm, rfl⟩ := h
  have hl : 1 ≤ rest.length := by cases rest with | nil => exact absurd rfl hr | cons a l => simp
  cases m with
  | zero => omega
  | succ m =>
    refine ⟨m, ?_, ?_⟩
    · have := runE_ge all rest; rw [List.length_drop]; omega
    · simp [psGo, hr]
/-- The bytes of a selection. -/
def csPutSel (l : List Int) (f : Int) : List Int :=
  if f = 0 then [0] ++ l.map (· % 256)
  else [3] ++ by2 (psGo l.length l.length l 0).length ++ psB (psGo l.length l.length l 0) ++ by2 l.length
/-- May a selection be put? -/
def maySel (l : List Int) (q f : Int) : Bool := decide (1 ≤ l.length) && decide (l.length ≤ 65535) && decide (1 ≤ q) && decide (q ≤ 256) && l.all (inB (q - 1)) && (f == 0 || f == 3)
end Go.Proofs.YtlhkaoccnpgkeaaGreat.Ch
namespace Go.Proofs.YtlhkaoccnpgkeaaGreat.Ch
open Go.RowKit
set_option linter.unusedVariables false
set_option linter.unusedSimpArgs false
theorem puts1_calls (b : Nat) (v : Value) (xs : List Int) (i : Nat) (hi : i < xs.length) (w : World) (h : w.cell? ⟨b, 0, none⟩ = some v) (hv : IsInts .i64 w v xs) (hl : xs.length ≤ 65535) :
    Calls Tryz.prog 102 #[.int .i64 i, .pointer (some ⟨b, 0, none⟩)] w fun e w' => e = .returned (.bool (xs.getD i 0 == xs.getD 0 0)) ∧ Kp [] w w' := by
  rcases hv with ⟨⟨ad, rfl⟩, rfl⟩ | ⟨g, off, c, rfl, h1, h2, h3⟩
  · simp at hi
  · have c1 := h3 i hi
    have c0 := h3 0 (by omega)
    rw [Nat.add_zero] at c0
    have h0 : 0 < xs.length := by omega
    clear h3
    generalize xs.getD i 0 = x at *
    generalize xs.getD 0 0 = y at *
    go_enter Tryz.func102, Tryz.ntmps102
    go_wp2
    go_quiet (fail)
    go_wp2
    go_ret
    exact ⟨by simp, by (repeat (first | exact Kp.refl _ _ | assumption | refine Kp.drew ?_ | refine Kp.drewN ?_ _ | refine Kp.alloc ?_ _ | (refine Kp.setCell ?_ (by first | (left; simp; done) | (right; simp; try omega)) _) | (refine Kp.trans' ?_ (by assumption) (by simp; try omega))))⟩
/-- Where a put of a selection stands in memory. -/
def PsSt (w wr : World) (bx B b8 : Nat) (v' : Value) (rest acc : List Int) (v12 : Value) : Prop :=
  wr.heap[bx]? = some (.cells #[v'] 24 (0, 0)) ∧ IsInts .i64 wr v' rest ∧ (∀ b, blockOf v' = some b → b < bx) ∧
  wr.ownsRow B 5 1 v12 acc.length (acc.map (Value.int .u8)) ∧ wr.ownsRow (bx + 1) 5 1 (.slice (some ⟨b8, 0, none⟩) 1 1) 1 [.int .u8 3] ∧ b8 < B ∧ Kp [] w wr ∧ B ≤ wr.heap.size ∧ bx < B ∧ w.heap.size = bx
theorem PsSt.app {w wr wq w2 : World} {bx B b8 : Nat} {v' : Value} {rest acc news : List Int} {v6 v7 : Value} (h : PsSt w wr bx B b8 v' rest acc v6) (hq : Kp [] wr wq)
    (hown : w2.ownsRow B 5 1 v7 (acc.length + news.length) (acc.map (Value.int .u8) ++ news.map (Value.int .u8))) (hg : wq.grownBy w2 v6.ownBlock) : PsSt w w2 bx B b8 v' rest (acc ++ news) v7 := by
  obtain ⟨h1, h2, h3, h4, h8, h9, h5, h6, hb, h7⟩ := h
  have hge := own_ge h4
  have hk : Kp [] w w2 := Kp.grown (h5.trans hq) hg (fun k hk => .inr (by have := hge k hk; omega))
  have hk2 : Kp (v6.ownBlock.toList) wr w2 := Kp.grown (hq.more (fun s hs => nomatch hs)) hg (fun k hk => .inl (by rw [hk]; simp))
  have hall : ∀ s ∈ v6.ownBlock.toList, B ≤ s := by
    intro s hs; cases hv : v6.ownBlock with
    | none => simp [hv] at hs
    | some b => simp [hv] at hs; subst hs; exact hge _ hv
  exact ⟨hk2.heap h1 (fun hm => by have := hall _ hm; omega), h2.kp hk2 (fun s hs e => by have := hall s hs; have := h3 _ e; omega), h3, by simpa using hown, hk2.row h8 (fun s hs e => by have := hall s hs; simp [Value.ownBlock] at e; omega), h9, hk, Nat.le_trans h6 hk2.size, hb, h7⟩
theorem PsSt.kp {w wr w2 : World} {bx B b8 : Nat} {v' : Value} {rest acc : List Int} {v6 : Value} (h : PsSt w wr bx B b8 v' rest acc v6) (hq : Kp [] wr w2) : PsSt w w2 bx B b8 v' rest acc v6 := by
  obtain ⟨h1, h2, h3, h4, h8, h9, h5, h6, hb, h7⟩ := h
  exact ⟨hq.heap h1 (by simp), h2.kp hq (by simp), h3, hq.row h4 (by simp), hq.row h8 (by simp), h9, h5.trans hq, Nat.le_trans h6 hq.size, hb, h7⟩
theorem PsSt.box {w wr : World} {bx B b8 : Nat} {v' : Value} {rest acc : List Int} {v6 : Value} (h : PsSt w wr bx B b8 v' rest acc v6) (n : Nat) (hn : n ≤ rest.length) :
    PsSt w (wr.setCell ⟨bx, 0, none⟩ (cutV v' n)) bx B b8 (cutV v' n) (rest.drop n) acc v6 := by
  obtain ⟨h1, h2, h3, h4, h8, h9, h5, h6, hb, h7⟩ := h
  have hk : Kp [bx] wr (wr.setCell ⟨bx, 0, none⟩ (cutV v' n)) := (Kp.refl _ _).setCell (.inl (by simp)) _
  have hbb : ∀ b, blockOf (cutV v' n) = some b → blockOf v' = some b := blockOf_cut v' n
  refine ⟨one_setCell h1, (h2.kp hk (by intro s hs e; simp at hs; subst hs; have := h3 _ e; omega)).drop n hn, fun b e => h3 b (hbb b e), hk.row h4 (by intro s hs e; simp at hs; subst hs; have := own_ge h4 _ e; omega), hk.row h8 (by intro s hs e; simp at hs; subst hs; have := own_ge h8 _ e; omega), h9, h5.setCell (.inr (by simp; omega)) _, by simp [World.setCell]; exact h6, hb, h7⟩
set_option maxRecDepth 100000 in
set_option maxHeartbeats 4000000 in
theorem putsel_3 (g off c : Nat) (l : List Int) (q : Int) (w : World) (h3 : l.length ≤ c) (h4 : c ≤ maxLen) (hz2 : Hid (IsInts .i64 w (.slice (some ⟨g, off, none⟩) l.length c) l)) (h1 : 1 ≤ l.length) (h2 : l.length ≤ 65535)
    (q1 : 1 ≤ q) (q2 : q ≤ 256) (HB : Hid (l.all (inB (q - 1)) = true)) (hg : g < w.heap.size) :
    Calls Tryz.prog 69 #[.slice (some ⟨g, off, none⟩) l.length c, .int .i64 q, .int .i64 3] w (Loaded .u8 (some (csPutSel l 3)) 0 w) := by
  go_enter Tryz.func69, Tryz.ntmps69
  go_wp2_with fail
  refine (count_yes _ (by omega) (by omega) _).mono ?_; rintro e w' ⟨rfl, rfl⟩
  go_wp2_with fail
  refine (within_calls _ l (q - 1) _ (hz2.out.kp (S := []) ((Kp.refl _ _).alloc _) (by simp))).mono ?_; rintro e w1 ⟨rfl, hk1⟩
  rw [HB.out]
  have hbc : Hid (w1.heap[w.heap.size]? = some (.cells #[.slice (some ⟨g, off, none⟩) l.length c] 24 (0, 0))) := hk1.heap (heap_alloc_new w _) (by simp)
  have hcx := cell_of_one hbc.out
  have hs1 := hk1.size
  rw [show (w.alloc (.cells #[.slice (some ⟨g, off, none⟩) l.length c] 24)).heap.size = w.heap.size + 1 by simp] at hs1
  have hk0 : Kp [] w w1 := ((Kp.refl _ _).alloc _).trans hk1
  have hzz := hz2.out.kp hk0 (by simp)
  have hst : PsSt w (w1.alloc (.cells #[.int .u8 3] 5)) w.heap.size (w1.heap.size + 1) w1.heap.size (.slice (some ⟨g, off, none⟩) l.length c) l [] (.slice none 0 0) :=
    ⟨(Kp.refl [] w1).alloc _ |>.heap hbc.out (by simp), hzz.kp (S := []) ((Kp.refl _ _).alloc _) (by simp), fun b hb => by simp [Value.ownBlock] at hb; omega, World.ownsRow_nil _ _ _ _, own_lit _ _ _ _ 1 1 #[.int .u8 3] rfl (by omega) (by decide) rfl, by omega, hk0.alloc _, by simp, by omega, rfl⟩
  have HBB : Hid (∀ x ∈ l, 0 ≤ x ∧ x ≤ 255) := by
    intro x hx; have := List.all_eq_true.1 HB.out x hx; simp [inB] at this; omega
  clear hk1 hz2 HB hk0 hzz
  generalize hbe : w.heap.size = bx at *
  generalize hb8 : w1.heap.size = b8 at *
  have hbl : bx < b8 := by omega
  have hAT : Hid (PsAt l.length (psGo l.length l.length l 0) [] l 0) := psAt_start l
  go_wp2_with fail
  clear hcx hbc
  go_loopw [12, 13, 14, 15] (fun v12 cn a _ wr => ∃ (v' : Value) (rest : List Int) (rs : List (Nat × Int)) (k : Nat), PsSt w wr bx (b8 + 1) b8 v' rest (psB rs) v12 ∧ PsAt l.length (psGo l.length l.length l 0) rs rest k ∧ (∀ x ∈ rest, 0 ≤ x ∧ x ≤ 255) ∧ k + rest.length = l.length ∧ rs.length ≤ k ∧ cn = .int .i64 rs.length ∧ a = .int .i64 k) (fun _ _ a _ _ => l.length - (intOf a).toNat)
  case atStart => exact ⟨_, l, [], 0, hst, hAT.out, HBB.out, by omega, by simp, rfl, rfl⟩
  case round =>
    obtain ⟨v', rest, rs, k, hs, ha, hb, hkl, hrs, rfl, rfl⟩ := hrel
    clear hst
    have hcx := cell_of_one hs.1
    have hfx := free_of_one hs.1
    have HS := Lib.hid hs
    have HA := Lib.hid ha
    have HB2 := Lib.hid hb
    have HK := Lib.hid hkl
    have hi := hs.2.1
    have hB := hs.2.2.2.2.2.2.2.1
    clear hs ha hb
    by_cases hr : rest = []
    · have hke : l.length ≤ k := by rw [hr] at hkl; simp at hkl; omega
      have hke2 : k ≤ l.length := by omega
      clear hkl
      subst hr
      have hend := Lib.hid (psAt_end _ _ _ _ HA.out)
      have hle : (psB rs).length ≤ 3 * 65535 := by rw [psB_length]; omega
      have ho8 := Lib.hid HS.out.2.2.2.2.1
      obtain ⟨p12, c12, rfl⟩ := slice_own HS.out.2.2.2.1
      have hrs2 : rs.length ≤ 65535 := by omega
      clear hi
      go_wp2_with (at_builtin; refine wpList_app rfl _ _ 29 rfl (bx + 1) 5 (.int .u8 0) 1 1 Tryz.underlying29 infoByte rfl (by decide) (by decide) (.slice (some ⟨b8, 0, none⟩) 1 1) 1 [.int .u8 3] rfl ?hown (.slice (some ⟨wr.heap.size, 0, none⟩) 2 2) 2 [.int .u8 ((rs.length : Int) / 256), .int .u8 ((rs.length : Int) % 256)] rfl ?hsrc ?hone ?hb1 ?hb2 ?hk)
      case hown => exact ho8.out.alloc _
      case hsrc => exact Reads.made _ _ 1 2 [.int .u8 ((rs.length : Int) / 256), .int .u8 ((rs.length : Int) % 256)] _ rfl rfl (by decide)
      case hone => intro u hu; simp at hu; rcases hu with rfl | rfl <;> rfl
      case hb1 => omega
      case hb2 => simp; omega
      case hk =>
      intro v7 w3 hown hgrow
      have hkg : Kp [b8] wr w3 := Kp.grown ((Kp.refl _ _).alloc _) hgrow (fun k hk => by simp [Value.ownBlock] at hk; exact .inl (by simp [hk]))
      have h12 := Lib.hid (hkg.row HS.out.2.2.2.1 (fun s hs e => by have := own_ge HS.out.2.2.2.1 _ e; simp at hs; omega))
      have hk3 : Kp [] w w3 := HS.out.2.2.2.2.2.2.1.trans' hkg (fun t ht => .inr (by simp at ht; have := HS.out.2.2.2.2.2.2.2.2.2; omega))
      have HO7 := Lib.hid hown
      obtain ⟨p7, c7, rfl⟩ := slice_own hown
      have hs37 := hkg.size
      have hwb := HS.out.2.2.2.2.2.2.2.2.2
      clear hown hgrow hkg HS HA hcx hfx ho8
      have HWB := Lib.hid hwb
      clear hwb
      go_wp2_with (at_builtin; refine wpList_app rfl _ _ 29 rfl (bx + 1) 5 (.int .u8 0) 1 1 Tryz.underlying29 infoByte rfl (by decide) (by decide) (.slice p7 (1 + 2) c7) (1 + 2) ([.int .u8 3] ++ [.int .u8 ((rs.length : Int) / 256), .int .u8 ((rs.length : Int) % 256)]) rfl ?hown (.slice p12 (psB rs).length c12) (psB rs).length ((psB rs).map (Value.int .u8)) rfl ?hsrc (oneCell_ints _ _) ?hb1 ?hb2 ?hk)
      case hown => exact HO7.out
      case hsrc => exact Reads.owned h12.out
      case hb1 => omega
      case hb2 => omega
      case hk =>
      intro v6 w4 hown hgrow
      have hk4 : Kp [] w w4 := Kp.grown hk3 hgrow (fun k hk => .inr (by have := own_ge HO7.out k hk; have := HWB.out; omega))
      have hs4 := hgrow.size
      have HO6 := Lib.hid hown
      obtain ⟨p6, c6, rfl⟩ := slice_own hown
      clear hown hgrow HO7 hk3
      go_wp2_with (at_builtin; refine wpList_app rfl _ _ 29 rfl (bx + 1) 5 (.int .u8 0) 1 1 Tryz.underlying29 infoByte rfl (by decide) (by decide) (.slice p6 (1 + 2 + (psB rs).length) c6) (1 + 2 + (psB rs).length) (([.int .u8 3] ++ [.int .u8 ((rs.length : Int) / 256), .int .u8 ((rs.length : Int) % 256)]) ++ (psB rs).map (Value.int .u8)) rfl ?hown (.slice (some ⟨w4.heap.size, 0, none⟩) 2 2) 2 [.int .u8 ((l.length : Int) / 256), .int .u8 ((l.length : Int) % 256)] rfl ?hsrc ?hone ?hb1 ?hb2 ?hk)
      case hown => exact HO6.out.alloc _
      case hsrc => exact Reads.made _ _ 1 2 [.int .u8 ((l.length : Int) / 256), .int .u8 ((l.length : Int) % 256)] _ rfl rfl (by decide)
      case hone => intro u hu; simp at hu; rcases hu with rfl | rfl <;> rfl
      case hb1 => omega
      case hb2 => simp; omega
      case hk =>
      intro v5 w5 hown hgrow
      have hk5 : Kp [] w w5 := Kp.grown (hk4.alloc _) hgrow (fun k hk => .inr (by have := own_ge HO6.out k hk; have := HWB.out; omega))
      have e1 : (rs.length : Int) / 256 % 256 = (rs.length : Int) / 256 := by omega
      have e2 : (l.length : Int) / 256 % 256 = (l.length : Int) / 256 := by omega
      have HF : Hid (IsInts .u8 w5 v5 (csPutSel l 3)) := by
        have e3 : csPutSel l 3 = [3, (rs.length : Int) / 256, (rs.length : Int) % 256] ++ psB rs ++ [(l.length : Int) / 256, (l.length : Int) % 256] := by
          unfold csPutSel; rw [if_neg (by decide), hend.out]; simp [by2, e1, e2]
        rw [e3]
        refine IsInts.owned (base := bx + 1) (e := 5) (n := 1 + 2 + (psB rs).length + 2) ?_
        simpa using hown
      have hge5 := Lib.hid (own_geb hown)
      clear hown hgrow e1 e2 hend
      go_wp2_with fail
      go_ret2
      exact .inr ⟨_, v5, rfl, rfl, HF.out, hk5, fun b hb => by have := hge5.out b hb; have := HWB.out; omega⟩
    · have hr1 : 1 ≤ rest.length := by cases rest with | nil => exact absurd rfl hr | cons a t => simp
      have hlt : k < l.length := by omega
      have hrl : rest.length ≤ 65535 := by omega
      clear hkl
      rcases hi with ⟨⟨ad, rfl⟩, rfl⟩ | ⟨g1, o1, c1, rfl, p1, p2, p3⟩
      · simp at hr
      · have q0 := p3 0 (by omega)
        rw [Nat.add_zero] at q0
        clear p3
        have hx0 : 0 ≤ rest.getD 0 0 ∧ rest.getD 0 0 ≤ 255 := HB2.out _ (by rw [List.getD_eq_getElem?_getD, List.getElem?_eq_getElem (by omega)]; exact List.getElem_mem _)
        obtain ⟨p12, c12, rfl⟩ := slice_own HS.out.2.2.2.1
        have hstep := Lib.hid (psAt_step _ _ _ _ _ HA.out hr)
        have hle : (psB rs).length ≤ 3 * 65535 := by rw [psB_length]; omega
        generalize hxe : rest.getD 0 0 = x0 at *
        have HXE := Lib.hid hxe
        clear hxe
        obtain ⟨x00, x01⟩ := hx0
        have hg1 : g1 < wr.heap.size := by have := HS.out.2.2.1 g1 ((blockOf_some _ _ _ _ _ _).2 ⟨by omega, rfl⟩); omega
        go_wp2_with (at_builtin; refine wpList_app rfl _ _ 29 rfl (b8 + 1) 5 (.int .u8 0) 1 1 Tryz.underlying29 infoByte rfl (by decide) (by decide) (.slice p12 (psB rs).length c12) (psB rs).length ((psB rs).map (Value.int .u8)) rfl ?hown (.slice (some ⟨wr.heap.size, 0, none⟩) 3 3) 3 [.int .u8 ((k : Int) / 256), .int .u8 ((k : Int) % 256), .int .u8 x0] rfl ?hsrc ?hone ?hb1 ?hb2 ?hk)
        case hown => exact (HS.out.kp ((Kp.refl _ _).alloc _)).2.2.2.1
        case hsrc => exact Reads.made _ _ 1 3 [.int .u8 ((k : Int) / 256), .int .u8 ((k : Int) % 256), .int .u8 x0] _ rfl rfl (by decide)
        case hone => intro u hu; simp at hu; rcases hu with rfl | rfl | rfl <;> rfl
        case hb1 => omega
        case hb2 => simp; omega
        case hk =>
        intro v7 w3 hown hgrow
        have hs3 : PsSt w w3 bx (b8 + 1) b8 (.slice (some ⟨g1, o1, none⟩) rest.length c1) rest (psB rs ++ [(k : Int) / 256, (k : Int) % 256, x0]) v7 := HS.out.app ((Kp.refl _ _).alloc _) (news := [(k : Int) / 256, (k : Int) % 256, x0]) hown hgrow
        have e9 : (k : Int) / 256 % 256 = (k : Int) / 256 := by omega
        have e8 : x0 % 256 = x0 := by omega
        rw [show psB rs ++ [(k : Int) / 256, (k : Int) % 256, x0] = psB (rs ++ [(k, x0)]) by rw [psB_snoc]; simp [by2, e9, e8]] at hs3
        clear e9 e8 hown hgrow hcx hfx q0
        have hcx3 := cell_of_one hs3.1
        have hfx3 := free_of_one hs3.1
        have HS3 := Lib.hid hs3
        clear hs3 HS HA
        have hrun := Lib.hid (run_calls 102 Tryz.call102 (.pointer (some ⟨bx, 0, none⟩)) (fun i => rest.getD i 0 == rest.getD 0 0) l.length (some ⟨g1, o1, none⟩) rest.length c1 hrl hr1 w3 (fun i _ hi wr' hk => puts1_calls bx _ rest i hi wr' (hk.cell hcx3 (by simp)) (HS3.out.2.1.kp hk (by simp)) hrl))
        go_wp2_with fail
        refine Calls.mono hrun.out ?_; rintro e w4 ⟨rfl, hk4⟩
        clear hrun
        have hn : Hid (runGo (fun i => rest.getD i 0 == rest.getD 0 0) l.length (rest.length - 1) 1 = runE l.length rest) := rfl
        rw [hn.out]
        clear hn
        have hn1 := runE_ge l.length rest
        have hn2 := runE_le l.length rest hr1
        generalize hne : runE l.length rest = n at *
        clear hne
        have hcx4 := hk4.cell hcx3 (by simp)
        have hs4 := HS3.out.kp hk4
        have hfx4 := free_of_one hs4.1
        have HFI := Lib.hid (hs4.box n hn2)
        have hns := run_cut g1 o1 rest.length c1 n n rfl hn2 p1 p2
        clear hs4 hcx3 hfx3 HS3
        go_wp2_with fail
        go_roundw
        case rel => first
          | exact ⟨_, rest.drop n, rs ++ [(k, x0)], k + n, HFI.out, hstep.out, fun x hx => HB2.out x (List.mem_of_mem_drop hx), by have := HK.out; simp; omega, by simp; omega, by simp, by simp⟩
          | (repeat apply Exists.intro; exact ⟨⟨_, rest.drop n, rs ++ [(k, x0)], k + n, HFI.out, hstep.out, fun x hx => HB2.out x (List.mem_of_mem_drop hx), by have := HK.out; simp; omega, by simp; omega, by simp, by simp⟩, rfl⟩)
        case measure => simp [intOf]; omega
end Go.Proofs.YtlhkaoccnpgkeaaGreat.Ch
namespace Go.Proofs.YtlhkaoccnpgkeaaGreat.Ch
open Go.RowKit
set_option linter.unusedVariables false
set_option linter.unusedSimpArgs false
set_option maxRecDepth 100000 in
set_option maxHeartbeats 2000000 in
theorem rmayput_calls (v : Value) (l : List Int) (f : Int) (w : World) (hz : IsInts .i64 w v l) :
    Calls Tryz.prog 26 #[v, .int .i64 f] w fun e w' => e = .returned (.bool (mayPut l f)) ∧ w' = w := by
  rcases hz with ⟨⟨ad, rfl⟩, rfl⟩ | ⟨g, off, c, rfl, h3, h4, h5⟩
  · go_enter Tryz.func26, Tryz.ntmps26
    go_wp2_with fail
    go_ret
    exact ⟨rfl, rfl⟩
  · have H5 : Hid _ := h5
    clear h5
    by_cases h0 : l.length = 0
    · have hE : Hid ((mayPut l f) = false) := by unfold Hid mayPut; simp [h0]
      go_enter Tryz.func26, Tryz.ntmps26
      go_wp2_with fail
      go_ret
      exact ⟨by rw [hE.out]; rfl, rfl⟩
    have hpos : 0 < l.length := by omega
    have hp1 : decide ((l.length : Int) < 1) = false := by simp; omega
    have hc0 := H5.out 0 hpos
    rw [Nat.add_zero] at hc0
    by_cases ha : (65535 : Int) < l.length
    · have hE : Hid ((mayPut l f) = false) := by unfold Hid mayPut; simp; omega
      go_enter Tryz.func26, Tryz.ntmps26
      go_wp2_with fail
      go_ret
      exact ⟨by rw [hE.out]; rfl, rfl⟩
    have ha' : decide ((65535 : Int) < l.length) = false := by simpa using ha
    by_cases hl0 : l.getD 0 0 = 0 → False
    · have hE : Hid ((mayPut l f) = false) := by unfold Hid mayPut; rw [show (l.getD 0 0 == 0) = false from beq_eq_false_iff_ne.2 hl0]; simp
      have hl1 : (l.getD 0 0 == 0) = false := beq_eq_false_iff_ne.2 hl0
      generalize l.getD 0 0 = y at *
      go_enter Tryz.func26, Tryz.ntmps26
      go_wp2_with fail
      go_ret
      exact ⟨by rw [hE.out]; rfl, rfl⟩
    have hl0' : l.getD 0 0 = 0 := Classical.not_not.1 hl0
    rw [hl0'] at hc0
    have HL0 : Hid _ := hl0'
    clear hl0 hl0'
    by_cases hf0 : f < 0
    · have hE : Hid ((mayPut l f) = false) := by unfold Hid mayPut; simp; omega
      go_enter Tryz.func26, Tryz.ntmps26
      go_wp2_with fail
      go_ret
      exact ⟨by rw [hE.out]; rfl, rfl⟩
    have hf0' : decide (f < 0) = false := by simpa using hf0
    by_cases hf2 : 2 < f
    · have hE : Hid ((mayPut l f) = false) := by unfold Hid mayPut; simp; omega
      go_enter Tryz.func26, Tryz.ntmps26
      go_wp2_with fail
      go_ret
      exact ⟨by rw [hE.out]; rfl, rfl⟩
    have hf2' : decide (2 < f) = false := by simpa using hf2
    have hE : Hid ((l.all (inB 65535)) = (mayPut l f)) := by unfold Hid mayPut; rw [HL0.out, show decide (1 ≤ l.length) = true from decide_eq_true (by omega), show decide (l.length ≤ 65535) = true from decide_eq_true (by omega), show decide (0 ≤ f) = true from decide_eq_true (by omega), show decide (f ≤ 2) = true from decide_eq_true (by omega)]; simp
    go_enter Tryz.func26, Tryz.ntmps26
    go_wp2_with fail
    go_loopw [5] (fun i wr => ∃ j : Nat, j ≤ l.length ∧ i = .int .i64 j ∧ wr = w ∧ Hid ((l.take j).all (inB 65535) = true)) (fun i _ => l.length - (intOf i).toNat)
    case atStart => exact ⟨0, by omega, rfl, rfl, by simp [Hid]⟩
    case round =>
      obtain ⟨j, hj, rfl, rfl, HA⟩ := hrel
      by_cases hlt : j < l.length
      · have hc := H5.out j hlt
        have hge : Hid (l[j]? = some (l.getD j 0)) := by unfold Hid; rw [List.getD_eq_getElem?_getD, List.getElem?_eq_getElem hlt]; rfl
        have hmem : Hid (l.getD j 0 ∈ l) := by unfold Hid; rw [List.getD_eq_getElem?_getD, List.getElem?_eq_getElem hlt]; exact List.getElem_mem _
        generalize l.getD j 0 = x at *
        by_cases g1 : x < 0
        · have hF : Hid ((mayPut l f) = false) := by rw [Hid, ← hE.out, ← Bool.not_eq_true]; intro h; have := List.all_eq_true.1 h x hmem.out; simp [inB] at this; omega
          go_wp2_with fail
          go_ret
          exact ⟨by rw [hF.out]; rfl, rfl⟩
        · by_cases g2 : 65535 < x
          · have hF : Hid ((mayPut l f) = false) := by rw [Hid, ← hE.out, ← Bool.not_eq_true]; intro h; have := List.all_eq_true.1 h x hmem.out; simp [inB] at this; omega
            go_wp2_with fail
            go_ret
            exact ⟨by rw [hF.out]; rfl, rfl⟩
          · have HN : Hid ((l.take (j + 1)).all (inB 65535) = true) := by
              rw [Hid, List.take_add_one, hge.out, List.all_append, HA.out]; simp [inB]; omega
            go_wp2_with fail
            go_roundw
            case rel => exact ⟨j + 1, by omega, int_eq (by omega), (by first | trivial | rfl), HN.out⟩
            case measure => simp [intOf]; omega
      · have hF : Hid ((mayPut l f) = true) := by
          have : j = l.length := by omega
          have h := HA.out
          rw [this, List.take_length] at h; rw [Hid, ← hE.out, h]
        go_wp2_with fail
        go_ret
        exact ⟨by rw [hF.out]; rfl, rfl⟩
end Go.Proofs.YtlhkaoccnpgkeaaGreat.Ch
namespace Go.Proofs.YtlhkaoccnpgkeaaGreat.Ch
open Go.RowKit
set_option linter.unusedVariables false
set_option linter.unusedSimpArgs false
theorem bytesN_2 (x : Int) : bytesN 2 x = by2 x := by simp [bytesN, by2]
/-- Where the reference's put stands in memory. -/
def RPutSt (w wr : World) (B : Nat) (v : Value) (l acc : List Int) (v5 : Value) : Prop :=
  IsInts .i64 wr v l ∧ wr.ownsRow B 5 1 v5 acc.length (acc.map (Value.int .u8)) ∧ Kp [] w wr ∧ w.heap.size = B ∧ ∀ b, blockOf v = some b → b < B
theorem RPutSt.kp {w wr w2 : World} {B : Nat} {v : Value} {l acc : List Int} {v5 : Value} (h : RPutSt w wr B v l acc v5) (hq : Kp [] wr w2) : RPutSt w w2 B v l acc v5 :=
  ⟨h.1.kp hq (by simp), hq.row h.2.1 (by simp), h.2.2.1.trans hq, h.2.2.2⟩
theorem RPutSt.app {w wr wq w2 : World} {B : Nat} {v : Value} {l acc news : List Int} {v5 v7 : Value} (h : RPutSt w wr B v l acc v5) (hq : Kp [] wr wq)
    (hown : w2.ownsRow B 5 1 v7 (acc.length + news.length) (acc.map (Value.int .u8) ++ news.map (Value.int .u8))) (hg : wq.grownBy w2 v5.ownBlock) : RPutSt w w2 B v l (acc ++ news) v7 := by
  obtain ⟨h1, h2, h3, h4, h5⟩ := h
  have hge := own_ge h2
  have hk : Kp [] w w2 := Kp.grown (h3.trans hq) hg (fun k hk => .inr (by have := hge k hk; omega))
  have hk2 : Kp (v5.ownBlock.toList) wr w2 := Kp.grown (hq.more (fun s hs => nomatch hs)) hg (fun k hk => .inl (by rw [hk]; simp))
  have hnot2 : ∀ s ∈ v5.ownBlock.toList, blockOf v ≠ some s := by
    intro s hs; cases hv : v5.ownBlock with
    | none => simp [hv] at hs
    | some b => simp [hv] at hs; subst hs; intro e; have := h5 _ e; have := hge _ hv; omega
  exact ⟨h1.kp hk2 hnot2, by simpa using hown, hk, h4, h5⟩
theorem RPutSt.base {w wr : World} {B : Nat} {v : Value} {l acc : List Int} {v5 : Value} (h : RPutSt w wr B v l acc v5) : B ≤ wr.heap.size := by have := h.2.2.1.size; have := h.2.2.2.1; omega
/-- What the reference's put hands back. -/
def RPutD (R : List Int) (w : World) (e : Ending) (w' : World) : Prop := ∃ v, e = .returned v ∧ IsInts .u8 w' v R ∧ Kp [] w w' ∧ ∀ b, blockOf v = some b → w.heap.size ≤ b
set_option maxRecDepth 100000 in
set_option maxHeartbeats 4000000 in
theorem rput_0 (v : Value) (l : List Int) (w : World) (hm : mayPut l 0 = true) (hz : IsInts .i64 w v l) (hv : ∀ b, blockOf v = some b → b < w.heap.size) :
    Calls Tryz.prog 28 #[v, .int .i64 0] w (RPutD (csPut l 0) w) := by
  obtain ⟨k1, k2, k3, k4, k5, k6⟩ := mayPut_true hm
  have HA : Hid (∀ c ∈ l, 0 ≤ c ∧ c ≤ 65535) := fun c hc => by have := List.all_eq_true.1 k4 c hc; simpa [inB] using this
  have HLN : Hid (l.length ≤ 65535) := k2
  have HV : Hid _ := hv
  have HAT : Hid (PutAt 0 (csPut l 0) [0] (l.drop 1)) := putAt_start l 0
  have hlt1 : ∃ N : Nat, l.length = N := ⟨_, rfl⟩
  rcases hz with ⟨⟨ad, rfl⟩, rfl⟩ | ⟨g, off, c, rfl, p1, p2, p3⟩
  · simp at k1
  have HZ : Hid (IsInts .i64 w (.slice (some ⟨g, off, none⟩) l.length c) l) := .inr ⟨g, off, c, rfl, p1, p2, p3⟩
  clear hm k2 k3 k4 k5 k6 hv p3 hlt1
  go_enter Tryz.func28, Tryz.ntmps28
  go_wp2_with fail
  generalize hB : w.heap.size = B at *
  go_loopw [5, 7, 8] (fun v5 i _ wr => ∃ (j : Nat) (acc : List Int), 1 ≤ j ∧ j ≤ l.length ∧ i = .int .i64 j ∧ RPutSt w wr B (.slice (some ⟨g, off, none⟩) l.length c) l acc v5 ∧ Hid (acc.length ≤ 4 * j) ∧ Hid (PutAt 0 (csPut l 0) acc (l.drop j))) (fun _ i _ _ => l.length - (intOf i).toNat)
  case atStart => exact ⟨1, [0], by omega, by omega, rfl, ⟨HZ.out.kp (S := []) (by (repeat (first | exact Kp.refl _ _ | assumption | refine Kp.drew ?_ | refine Kp.drewN ?_ _ | refine Kp.alloc ?_ _ | (refine Kp.setCell ?_ (by first | (left; simp; done) | (right; simp; try omega)) _) | (refine Kp.trans' ?_ (by assumption) (by simp; try omega))))) (by simp), own_lit w _ _ _ 1 1 #[.int .u8 0] hB.symm (by omega) (by decide) rfl, by (repeat (first | exact Kp.refl _ _ | assumption | refine Kp.drew ?_ | refine Kp.drewN ?_ _ | refine Kp.alloc ?_ _ | (refine Kp.setCell ?_ (by first | (left; simp; done) | (right; simp; try omega)) _) | (refine Kp.trans' ?_ (by assumption) (by simp; try omega)))), hB, fun b hb => HV.out b hb⟩, by simp [Hid], HAT.out⟩
  case round =>
    obtain ⟨j, acc, hj1, hj, rfl, hs, HL, HP⟩ := hrel
    obtain ⟨p5, c5, rfl⟩ := slice_own hs.2.1
    have HS : Hid (RPutSt w wr B (.slice (some ⟨g, off, none⟩) l.length c) l acc (.slice p5 acc.length c5)) := hs
    clear hs HAT HZ
    by_cases hlt : j < l.length
    · have HJ : Hid (l.drop j ≠ []) := by intro e; have := congrArg List.length e; simp at this; omega
      have hrun : Hid (runL 0 (l.drop j) = runGo (fun t => (l.drop j).getD t 0 == (l.drop j).getD 0 0 + t) 0 (l.length - j - 1) 1) := by unfold Hid runL; rw [List.length_drop]; rfl
      obtain ⟨y, hy⟩ : ∃ y, l.getD j 0 = y := ⟨_, rfl⟩
      have hy0 : (l.drop j).getD 0 0 = y := by rw [← hy, List.getD_eq_getElem?_getD, List.getElem?_drop, List.getD_eq_getElem?_getD, Nat.add_zero]
      have hyb : 0 ≤ y ∧ y ≤ 65535 := by rw [← hy]; exact HA.out _ (by rw [List.getD_eq_getElem?_getD, List.getElem?_eq_getElem hlt]; exact List.getElem_mem _)
      obtain ⟨hyb1, hyb2⟩ := hyb
      have HY : Hid _ := hy
      have HY0 : Hid _ := hy0
      have hcj : wr.cell? ⟨g, off + j, none⟩ = some (.int .i64 y) := by
        rcases HS.out.1 with ⟨⟨ad, h⟩, h'⟩ | ⟨g1, o1, c1, h, _, _, h3⟩
        · exfalso; rw [h'] at hlt; simp at hlt
        · cases h; rw [← hy]; exact h3 j hlt
      clear hy hy0
      go_wp2_with fail
      go_loopw [8] (fun m wi => ∃ t : Nat, m = .int .i64 t ∧ j + t < l.length ∧ RPutSt w wi B (.slice (some ⟨g, off, none⟩) l.length c) l acc (.slice p5 acc.length c5) ∧ Hid (runGo (fun t => (l.drop j).getD t 0 == (l.drop j).getD 0 0 + t) 0 (l.length - j - 1 - t) (1 + t) = runL 0 (l.drop j))) (fun m _ => l.length - (intOf m).toNat)
      case atStart => exact ⟨0, by simp, by omega, HS.out, by rw [Hid, hrun.out]; rfl⟩
      case round =>
        obtain ⟨t, rfl, ht, hs2, HR⟩ := hrel
        have HS2 : Hid (RPutSt w wr B (.slice (some ⟨g, off, none⟩) l.length c) l acc (.slice p5 acc.length c5)) := hs2
        clear hs2 HS hcj
        have hcj : wr.cell? ⟨g, off + j, none⟩ = some (.int .i64 y) := by
          rcases HS2.out.1 with ⟨⟨ad, h⟩, h'⟩ | ⟨g1, o1, c1, h, _, _, h3⟩
          · exfalso; rw [h'] at hlt; simp at hlt
          · cases h; rw [← HY.out]; exact h3 j hlt
        have hfin : Hid ((¬ (t : Int) < 0 ∨ ¬ j + t + 1 < l.length ∨ ¬ l.getD (j + t + 1) 0 = y + t + 1) → runL 0 (l.drop j) = t + 1) := by
          intro h
          rw [← HR.out]
          rcases Nat.lt_or_ge (j + t + 1) l.length with h2 | h2
          · rw [show l.length - j - 1 - t = (l.length - j - 1 - (t + 1)) + 1 by omega]
            unfold runGo; rw [if_neg]; omega
            rintro ⟨q1, q2⟩
            rw [HY0.out] at q2
            have e : (l.drop j).getD (1 + t) 0 = l.getD (j + t + 1) 0 := by rw [List.getD_eq_getElem?_getD, List.getElem?_drop, List.getD_eq_getElem?_getD, show j + (1 + t) = j + t + 1 by omega]
            rw [e] at q2
            have q3 := eq_of_beq q2
            rcases h with h | h | h
            · omega
            · omega
            · exact h (by rw [q3]; omega)
          · rw [show l.length - j - 1 - t = 0 by omega]; unfold runGo; omega
        have hgo : Hid ((t : Int) < 0 → j + t + 1 < l.length → l.getD (j + t + 1) 0 = y + t + 1 → runGo (fun t => (l.drop j).getD t 0 == (l.drop j).getD 0 0 + t) 0 (l.length - j - 1 - (t + 1)) (1 + (t + 1)) = runL 0 (l.drop j)) := by
          intro h h2 h3
          rw [← HR.out, show l.length - j - 1 - t = (l.length - j - 1 - (t + 1)) + 1 by omega]
          rw [show runGo (fun t => (l.drop j).getD t 0 == (l.drop j).getD 0 0 + t) 0 ((l.length - j - 1 - (t + 1)) + 1) (1 + t) = if ((1 + t : Nat) : Int) ≤ 0 ∧ ((fun t : Nat => (l.drop j).getD t 0 == (l.drop j).getD 0 0 + t) (1 + t)) = true then runGo (fun t => (l.drop j).getD t 0 == (l.drop j).getD 0 0 + t) 0 (l.length - j - 1 - (t + 1)) (1 + t + 1) else 1 + t from rfl]
          rw [if_pos]; rfl
          refine ⟨by omega, ?_⟩
          have e : (l.drop j).getD (1 + t) 0 = l.getD (j + t + 1) 0 := by rw [List.getD_eq_getElem?_getD, List.getElem?_drop, List.getD_eq_getElem?_getD, show j + (1 + t) = j + t + 1 by omega]
          show ((l.drop j).getD (1 + t) 0 == (l.drop j).getD 0 0 + ((1 + t : Nat) : Int)) = true
          rw [e, HY0.out, h3]; simp; omega
        clear HR
        have hjt : j + t ≤ 65535 := by have := HLN.out; omega
        by_cases q1 : (t : Int) < 0
        · by_cases q2 : j + t + 1 < l.length
          · obtain ⟨x, hx⟩ : ∃ x, l.getD (j + t + 1) 0 = x := ⟨_, rfl⟩
            have hcx : wr.cell? ⟨g, off + (j + t + 1), none⟩ = some (.int .i64 x) := by
              rcases HS2.out.1 with ⟨⟨ad, h⟩, h'⟩ | ⟨g1, o1, c1, h, _, _, h3⟩
              · exfalso; rw [h'] at hlt; simp at hlt
              · cases h; rw [← hx]; exact h3 _ q2
            rw [hx] at hfin hgo
            clear hx
            by_cases q3 : x = y + t + 1
            · have HGO : Hid _ := hgo.out q1 q2 q3
              clear hfin hgo
              have q1' : decide ((t : Int) < 0) = true := decide_eq_true q1
              have q2' : decide ((j : Int) + t + 1 < l.length) = true := by simp; omega
              subst q3
              go_wp2_with fail
              go_quiet (fail)
              go_wp2_with fail
              go_roundw
              case rel => first | exact ⟨t + 1, int_eq (by omega), by omega, HS2.out.kp (by (repeat (first | exact Kp.refl _ _ | assumption | refine Kp.drew ?_ | refine Kp.drewN ?_ _ | refine Kp.alloc ?_ _ | (refine Kp.setCell ?_ (by first | (left; simp; done) | (right; simp; try omega)) _) | (refine Kp.trans' ?_ (by assumption) (by simp; try omega))))), HGO.out⟩ | ((repeat apply Exists.intro); exact ⟨⟨t + 1, int_eq (by omega), by omega, HS2.out.kp (by (repeat (first | exact Kp.refl _ _ | assumption | refine Kp.drew ?_ | refine Kp.drewN ?_ _ | refine Kp.alloc ?_ _ | (refine Kp.setCell ?_ (by first | (left; simp; done) | (right; simp; try omega)) _) | (refine Kp.trans' ?_ (by assumption) (by simp; try omega))))), HGO.out⟩, rfl⟩)
              case measure => simp [intOf]; omega
            · have hrl : Hid _ := hfin.out (.inr (.inr q3))
              clear hfin hgo
              have q1' : decide ((t : Int) < 0) = true := decide_eq_true q1
              have q2' : decide ((j : Int) + t + 1 < l.length) = true := by simp; omega
              have q3' : (x == y + t + 1) = false := beq_eq_false_iff_ne.2 q3
              go_wp2_with fail
              go_quiet (fail)
              go_wp2_with fail
              refine (rbytes_calls 2 y (by decide) (by decide) (by omega) (by omega) _).mono ?_
              rintro e w3 ⟨v3, rfl, hown3, hk3⟩
              obtain ⟨p3, c3, rfl⟩ := slice_own hown3
              have HS3 : Hid (RPutSt w w3 B (.slice (some ⟨g, off, none⟩) l.length c) l acc (.slice p5 acc.length c5)) := HS2.out.kp (Kp.trans (by (repeat (first | exact Kp.refl _ _ | assumption | refine Kp.drew ?_ | refine Kp.drewN ?_ _ | refine Kp.alloc ?_ _ | (refine Kp.setCell ?_ (by first | (left; simp; done) | (right; simp; try omega)) _) | (refine Kp.trans' ?_ (by assumption) (by simp; try omega))))) hk3)
              have HN3 : Hid _ := Reads.owned hown3
              clear hown3
              go_wp2_with (at_builtin; refine wpList_app rfl _ _ 29 rfl B 5 (.int .u8 0) 1 1 Tryz.underlying29 infoByte rfl (by decide) (by decide) (.slice p5 acc.length c5) acc.length (acc.map (Value.int .u8)) rfl ?hown (.slice p3 2 c3) 2 ((bytesN 2 y).map (Value.int .u8)) rfl ?hsrc (oneCell_ints _ _) ?hb1 ?hb2 ?hk)
              case hown => exact HS3.out.2.1
              case hsrc => exact HN3.out
              case hb1 => have := HL.out; have := HS3.out.base; have := HLN.out; omega
              case hb2 => have := HL.out; have := HS3.out.base; have := HLN.out; omega
              case hk =>
                intro v6 w4 hown4 hgr4
                have HS4 : Hid (RPutSt w w4 B (.slice (some ⟨g, off, none⟩) l.length c) l (acc ++ bytesN 2 y) v6) := HS3.out.app (Kp.refl _ _) (by rw [bytesN_length]; exact hown4) hgr4
                have HL4 : Hid ((acc ++ bytesN 2 y).length ≤ 4 * j + 2) := by have := HL.out; unfold Hid; rw [List.length_append, bytesN_length]; omega
                clear hown4 hgr4 HS3 HN3
                have HP2 := HP.out
                have HP3 := putAt_step _ _ _ _ HP2 HJ.out
                rw [hrl.out, HY0.out, List.drop_drop] at HP3
                have HPN : Hid (PutAt 0 (csPut l 0) (acc ++ bytesN 2 y) (l.drop (j + t + 1))) := by
                  rw [Hid, bytesN_2, show j + t + 1 = j + (t + 1) by omega]; simp [moreB] at HP3; exact HP3
                clear HP2 HP3
                go_wp2_with fail
                go_roundw
                case rel => exact ⟨j + t + 1, _, by omega, by omega, int_eq (by omega), HS4.out, by have := HL4.out; unfold Hid; omega, HPN.out⟩
                case measure => simp [intOf]; omega
          · have hrl : Hid _ := hfin.out (.inr (.inl q2))
            clear hfin hgo
            have q1' : decide ((t : Int) < 0) = true := decide_eq_true q1
            have q2' : decide ((j : Int) + t + 1 < l.length) = false := by simp; omega
            go_wp2_with fail
            go_quiet (fail)
            go_wp2_with fail
            refine (rbytes_calls 2 y (by decide) (by decide) (by omega) (by omega) _).mono ?_
            rintro e w3 ⟨v3, rfl, hown3, hk3⟩
            obtain ⟨p3, c3, rfl⟩ := slice_own hown3
            have HS3 : Hid (RPutSt w w3 B (.slice (some ⟨g, off, none⟩) l.length c) l acc (.slice p5 acc.length c5)) := HS2.out.kp (Kp.trans (by (repeat (first | exact Kp.refl _ _ | assumption | refine Kp.drew ?_ | refine Kp.drewN ?_ _ | refine Kp.alloc ?_ _ | (refine Kp.setCell ?_ (by first | (left; simp; done) | (right; simp; try omega)) _) | (refine Kp.trans' ?_ (by assumption) (by simp; try omega))))) hk3)
            have HN3 : Hid _ := Reads.owned hown3
            clear hown3
            go_wp2_with (at_builtin; refine wpList_app rfl _ _ 29 rfl B 5 (.int .u8 0) 1 1 Tryz.underlying29 infoByte rfl (by decide) (by decide) (.slice p5 acc.length c5) acc.length (acc.map (Value.int .u8)) rfl ?hown (.slice p3 2 c3) 2 ((bytesN 2 y).map (Value.int .u8)) rfl ?hsrc (oneCell_ints _ _) ?hb1 ?hb2 ?hk)
            case hown => exact HS3.out.2.1
            case hsrc => exact HN3.out
            case hb1 => have := HL.out; have := HS3.out.base; have := HLN.out; omega
            case hb2 => have := HL.out; have := HS3.out.base; have := HLN.out; omega
            case hk =>
              intro v6 w4 hown4 hgr4
              have HS4 : Hid (RPutSt w w4 B (.slice (some ⟨g, off, none⟩) l.length c) l (acc ++ bytesN 2 y) v6) := HS3.out.app (Kp.refl _ _) (by rw [bytesN_length]; exact hown4) hgr4
              have HL4 : Hid ((acc ++ bytesN 2 y).length ≤ 4 * j + 2) := by have := HL.out; unfold Hid; rw [List.length_append, bytesN_length]; omega
              clear hown4 hgr4 HS3 HN3
              have HP2 := HP.out
              have HP3 := putAt_step _ _ _ _ HP2 HJ.out
              rw [hrl.out, HY0.out, List.drop_drop] at HP3
              have HPN : Hid (PutAt 0 (csPut l 0) (acc ++ bytesN 2 y) (l.drop (j + t + 1))) := by
                rw [Hid, bytesN_2, show j + t + 1 = j + (t + 1) by omega]; simp [moreB] at HP3; exact HP3
              clear HP2 HP3
              go_wp2_with fail
              go_roundw
              case rel => exact ⟨j + t + 1, _, by omega, by omega, int_eq (by omega), HS4.out, by have := HL4.out; unfold Hid; omega, HPN.out⟩
              case measure => simp [intOf]; omega
        · have hrl : Hid _ := hfin.out (.inl q1)
          clear hfin hgo
          have q1' : decide ((t : Int) < 0) = false := decide_eq_false q1
          go_wp2_with fail
          go_quiet (fail)
          go_wp2_with fail
          refine (rbytes_calls 2 y (by decide) (by decide) (by omega) (by omega) _).mono ?_
          rintro e w3 ⟨v3, rfl, hown3, hk3⟩
          obtain ⟨p3, c3, rfl⟩ := slice_own hown3
          have HS3 : Hid (RPutSt w w3 B (.slice (some ⟨g, off, none⟩) l.length c) l acc (.slice p5 acc.length c5)) := HS2.out.kp (Kp.trans (by (repeat (first | exact Kp.refl _ _ | assumption | refine Kp.drew ?_ | refine Kp.drewN ?_ _ | refine Kp.alloc ?_ _ | (refine Kp.setCell ?_ (by first | (left; simp; done) | (right; simp; try omega)) _) | (refine Kp.trans' ?_ (by assumption) (by simp; try omega))))) hk3)
          have HN3 : Hid _ := Reads.owned hown3
          clear hown3
          go_wp2_with (at_builtin; refine wpList_app rfl _ _ 29 rfl B 5 (.int .u8 0) 1 1 Tryz.underlying29 infoByte rfl (by decide) (by decide) (.slice p5 acc.length c5) acc.length (acc.map (Value.int .u8)) rfl ?hown (.slice p3 2 c3) 2 ((bytesN 2 y).map (Value.int .u8)) rfl ?hsrc (oneCell_ints _ _) ?hb1 ?hb2 ?hk)
          case hown => exact HS3.out.2.1
          case hsrc => exact HN3.out
          case hb1 => have := HL.out; have := HS3.out.base; have := HLN.out; omega
          case hb2 => have := HL.out; have := HS3.out.base; have := HLN.out; omega
          case hk =>
            intro v6 w4 hown4 hgr4
            have HS4 : Hid (RPutSt w w4 B (.slice (some ⟨g, off, none⟩) l.length c) l (acc ++ bytesN 2 y) v6) := HS3.out.app (Kp.refl _ _) (by rw [bytesN_length]; exact hown4) hgr4
            have HL4 : Hid ((acc ++ bytesN 2 y).length ≤ 4 * j + 2) := by have := HL.out; unfold Hid; rw [List.length_append, bytesN_length]; omega
            clear hown4 hgr4 HS3 HN3
            have HP2 := HP.out
            have HP3 := putAt_step _ _ _ _ HP2 HJ.out
            rw [hrl.out, HY0.out, List.drop_drop] at HP3
            have HPN : Hid (PutAt 0 (csPut l 0) (acc ++ bytesN 2 y) (l.drop (j + t + 1))) := by
              rw [Hid, bytesN_2, show j + t + 1 = j + (t + 1) by omega]; simp [moreB] at HP3; exact HP3
            clear HP2 HP3
            go_wp2_with fail
            go_roundw
            case rel => exact ⟨j + t + 1, _, by omega, by omega, int_eq (by omega), HS4.out, by have := HL4.out; unfold Hid; omega, HPN.out⟩
            case measure => simp [intOf]; omega
    · have hR : Hid (csPut l 0 = acc) := by
        have h := HP.out
        rw [List.drop_eq_nil_of_le (by omega)] at h
        exact putAt_end _ _ _ h
      go_wp2_with fail
      go_ret
      exact ⟨_, rfl, by rw [hR.out]; exact IsInts.owned HS.out.2.1, HS.out.2.2.1, fun b hb => by have := own_geb HS.out.2.1 b hb; omega⟩
set_option maxRecDepth 100000 in
set_option maxHeartbeats 4000000 in
theorem rput_1 (v : Value) (l : List Int) (w : World) (hm : mayPut l 1 = true) (hz : IsInts .i64 w v l) (hv : ∀ b, blockOf v = some b → b < w.heap.size) :
    Calls Tryz.prog 28 #[v, .int .i64 1] w (RPutD (csPut l 1) w) := by
  obtain ⟨k1, k2, k3, k4, k5, k6⟩ := mayPut_true hm
  have HA : Hid (∀ c ∈ l, 0 ≤ c ∧ c ≤ 65535) := fun c hc => by have := List.all_eq_true.1 k4 c hc; simpa [inB] using this
  have HLN : Hid (l.length ≤ 65535) := k2
  have HV : Hid _ := hv
  have HAT : Hid (PutAt 1 (csPut l 1) [1] (l.drop 1)) := putAt_start l 1
  have hlt1 : ∃ N : Nat, l.length = N := ⟨_, rfl⟩
  rcases hz with ⟨⟨ad, rfl⟩, rfl⟩ | ⟨g, off, c, rfl, p1, p2, p3⟩
  · simp at k1
  have HZ : Hid (IsInts .i64 w (.slice (some ⟨g, off, none⟩) l.length c) l) := .inr ⟨g, off, c, rfl, p1, p2, p3⟩
  clear hm k2 k3 k4 k5 k6 hv p3 hlt1
  go_enter Tryz.func28, Tryz.ntmps28
  go_wp2_with fail
  generalize hB : w.heap.size = B at *
  go_loopw [5, 7, 8] (fun v5 i _ wr => ∃ (j : Nat) (acc : List Int), 1 ≤ j ∧ j ≤ l.length ∧ i = .int .i64 j ∧ RPutSt w wr B (.slice (some ⟨g, off, none⟩) l.length c) l acc v5 ∧ Hid (acc.length ≤ 4 * j) ∧ Hid (PutAt 1 (csPut l 1) acc (l.drop j))) (fun _ i _ _ => l.length - (intOf i).toNat)
  case atStart => exact ⟨1, [1], by omega, by omega, rfl, ⟨HZ.out.kp (S := []) (by (repeat (first | exact Kp.refl _ _ | assumption | refine Kp.drew ?_ | refine Kp.drewN ?_ _ | refine Kp.alloc ?_ _ | (refine Kp.setCell ?_ (by first | (left; simp; done) | (right; simp; try omega)) _) | (refine Kp.trans' ?_ (by assumption) (by simp; try omega))))) (by simp), own_lit w _ _ _ 1 1 #[.int .u8 1] hB.symm (by omega) (by decide) rfl, by (repeat (first | exact Kp.refl _ _ | assumption | refine Kp.drew ?_ | refine Kp.drewN ?_ _ | refine Kp.alloc ?_ _ | (refine Kp.setCell ?_ (by first | (left; simp; done) | (right; simp; try omega)) _) | (refine Kp.trans' ?_ (by assumption) (by simp; try omega)))), hB, fun b hb => HV.out b hb⟩, by simp [Hid], HAT.out⟩
  case round =>
    obtain ⟨j, acc, hj1, hj, rfl, hs, HL, HP⟩ := hrel
    obtain ⟨p5, c5, rfl⟩ := slice_own hs.2.1
    have HS : Hid (RPutSt w wr B (.slice (some ⟨g, off, none⟩) l.length c) l acc (.slice p5 acc.length c5)) := hs
    clear hs HAT HZ
    by_cases hlt : j < l.length
    · have HJ : Hid (l.drop j ≠ []) := by intro e; have := congrArg List.length e; simp at this; omega
      have hrun : Hid (runL 1 (l.drop j) = runGo (fun t => (l.drop j).getD t 0 == (l.drop j).getD 0 0 + t) 255 (l.length - j - 1) 1) := by unfold Hid runL; rw [List.length_drop]; rfl
      obtain ⟨y, hy⟩ : ∃ y, l.getD j 0 = y := ⟨_, rfl⟩
      have hy0 : (l.drop j).getD 0 0 = y := by rw [← hy, List.getD_eq_getElem?_getD, List.getElem?_drop, List.getD_eq_getElem?_getD, Nat.add_zero]
      have hyb : 0 ≤ y ∧ y ≤ 65535 := by rw [← hy]; exact HA.out _ (by rw [List.getD_eq_getElem?_getD, List.getElem?_eq_getElem hlt]; exact List.getElem_mem _)
      obtain ⟨hyb1, hyb2⟩ := hyb
      have HY : Hid _ := hy
      have HY0 : Hid _ := hy0
      have hcj : wr.cell? ⟨g, off + j, none⟩ = some (.int .i64 y) := by
        rcases HS.out.1 with ⟨⟨ad, h⟩, h'⟩ | ⟨g1, o1, c1, h, _, _, h3⟩
        · exfalso; rw [h'] at hlt; simp at hlt
        · cases h; rw [← hy]; exact h3 j hlt
      clear hy hy0
      go_wp2_with fail
      go_loopw [8] (fun m wi => ∃ t : Nat, m = .int .i64 t ∧ j + t < l.length ∧ RPutSt w wi B (.slice (some ⟨g, off, none⟩) l.length c) l acc (.slice p5 acc.length c5) ∧ Hid (runGo (fun t => (l.drop j).getD t 0 == (l.drop j).getD 0 0 + t) 255 (l.length - j - 1 - t) (1 + t) = runL 1 (l.drop j))) (fun m _ => l.length - (intOf m).toNat)
      case atStart => exact ⟨0, by simp, by omega, HS.out, by rw [Hid, hrun.out]; rfl⟩
      case round =>
        obtain ⟨t, rfl, ht, hs2, HR⟩ := hrel
        have HS2 : Hid (RPutSt w wr B (.slice (some ⟨g, off, none⟩) l.length c) l acc (.slice p5 acc.length c5)) := hs2
        clear hs2 HS hcj
        have hcj : wr.cell? ⟨g, off + j, none⟩ = some (.int .i64 y) := by
          rcases HS2.out.1 with ⟨⟨ad, h⟩, h'⟩ | ⟨g1, o1, c1, h, _, _, h3⟩
          · exfalso; rw [h'] at hlt; simp at hlt
          · cases h; rw [← HY.out]; exact h3 j hlt
        have hfin : Hid ((¬ (t : Int) < 255 ∨ ¬ j + t + 1 < l.length ∨ ¬ l.getD (j + t + 1) 0 = y + t + 1) → runL 1 (l.drop j) = t + 1) := by
          intro h
          rw [← HR.out]
          rcases Nat.lt_or_ge (j + t + 1) l.length with h2 | h2
          · rw [show l.length - j - 1 - t = (l.length - j - 1 - (t + 1)) + 1 by omega]
            unfold runGo; rw [if_neg]; omega
            rintro ⟨q1, q2⟩
            rw [HY0.out] at q2
            have e : (l.drop j).getD (1 + t) 0 = l.getD (j + t + 1) 0 := by rw [List.getD_eq_getElem?_getD, List.getElem?_drop, List.getD_eq_getElem?_getD, show j + (1 + t) = j + t + 1 by omega]
            rw [e] at q2
            have q3 := eq_of_beq q2
            rcases h with h | h | h
            · omega
            · omega
            · exact h (by rw [q3]; omega)
          · rw [show l.length - j - 1 - t = 0 by omega]; unfold runGo; omega
        have hgo : Hid ((t : Int) < 255 → j + t + 1 < l.length → l.getD (j + t + 1) 0 = y + t + 1 → runGo (fun t => (l.drop j).getD t 0 == (l.drop j).getD 0 0 + t) 255 (l.length - j - 1 - (t + 1)) (1 + (t + 1)) = runL 1 (l.drop j)) := by
          intro h h2 h3
          rw [← HR.out, show l.length - j - 1 - t = (l.length - j - 1 - (t + 1)) + 1 by omega]
          rw [show runGo (fun t => (l.drop j).getD t 0 == (l.drop j).getD 0 0 + t) 255 ((l.length - j - 1 - (t + 1)) + 1) (1 + t) = if ((1 + t : Nat) : Int) ≤ 255 ∧ ((fun t : Nat => (l.drop j).getD t 0 == (l.drop j).getD 0 0 + t) (1 + t)) = true then runGo (fun t => (l.drop j).getD t 0 == (l.drop j).getD 0 0 + t) 255 (l.length - j - 1 - (t + 1)) (1 + t + 1) else 1 + t from rfl]
          rw [if_pos]; rfl
          refine ⟨by omega, ?_⟩
          have e : (l.drop j).getD (1 + t) 0 = l.getD (j + t + 1) 0 := by rw [List.getD_eq_getElem?_getD, List.getElem?_drop, List.getD_eq_getElem?_getD, show j + (1 + t) = j + t + 1 by omega]
          show ((l.drop j).getD (1 + t) 0 == (l.drop j).getD 0 0 + ((1 + t : Nat) : Int)) = true
          rw [e, HY0.out, h3]; simp; omega
        clear HR
        have hjt : j + t ≤ 65535 := by have := HLN.out; omega
        by_cases q1 : (t : Int) < 255
        · by_cases q2 : j + t + 1 < l.length
          · obtain ⟨x, hx⟩ : ∃ x, l.getD (j + t + 1) 0 = x := ⟨_, rfl⟩
            have hcx : wr.cell? ⟨g, off + (j + t + 1), none⟩ = some (.int .i64 x) := by
              rcases HS2.out.1 with ⟨⟨ad, h⟩, h'⟩ | ⟨g1, o1, c1, h, _, _, h3⟩
              · exfalso; rw [h'] at hlt; simp at hlt
              · cases h; rw [← hx]; exact h3 _ q2
            rw [hx] at hfin hgo
            clear hx
            by_cases q3 : x = y + t + 1
            · have HGO : Hid _ := hgo.out q1 q2 q3
              clear hfin hgo
              have q1' : decide ((t : Int) < 255) = true := decide_eq_true q1
              have q2' : decide ((j : Int) + t + 1 < l.length) = true := by simp; omega
              subst q3
              go_wp2_with fail
              go_quiet (fail)
              go_wp2_with fail
              go_roundw
              case rel => first | exact ⟨t + 1, int_eq (by omega), by omega, HS2.out.kp (by (repeat (first | exact Kp.refl _ _ | assumption | refine Kp.drew ?_ | refine Kp.drewN ?_ _ | refine Kp.alloc ?_ _ | (refine Kp.setCell ?_ (by first | (left; simp; done) | (right; simp; try omega)) _) | (refine Kp.trans' ?_ (by assumption) (by simp; try omega))))), HGO.out⟩ | ((repeat apply Exists.intro); exact ⟨⟨t + 1, int_eq (by omega), by omega, HS2.out.kp (by (repeat (first | exact Kp.refl _ _ | assumption | refine Kp.drew ?_ | refine Kp.drewN ?_ _ | refine Kp.alloc ?_ _ | (refine Kp.setCell ?_ (by first | (left; simp; done) | (right; simp; try omega)) _) | (refine Kp.trans' ?_ (by assumption) (by simp; try omega))))), HGO.out⟩, rfl⟩)
              case measure => simp [intOf]; omega
            · have hrl : Hid _ := hfin.out (.inr (.inr q3))
              clear hfin hgo
              have q1' : decide ((t : Int) < 255) = true := decide_eq_true q1
              have q2' : decide ((j : Int) + t + 1 < l.length) = true := by simp; omega
              have q3' : (x == y + t + 1) = false := beq_eq_false_iff_ne.2 q3
              go_wp2_with fail
              go_quiet (fail)
              go_wp2_with fail
              refine (rbytes_calls 2 y (by decide) (by decide) (by omega) (by omega) _).mono ?_
              rintro e w3 ⟨v3, rfl, hown3, hk3⟩
              obtain ⟨p3, c3, rfl⟩ := slice_own hown3
              have HS3 : Hid (RPutSt w w3 B (.slice (some ⟨g, off, none⟩) l.length c) l acc (.slice p5 acc.length c5)) := HS2.out.kp (Kp.trans (by (repeat (first | exact Kp.refl _ _ | assumption | refine Kp.drew ?_ | refine Kp.drewN ?_ _ | refine Kp.alloc ?_ _ | (refine Kp.setCell ?_ (by first | (left; simp; done) | (right; simp; try omega)) _) | (refine Kp.trans' ?_ (by assumption) (by simp; try omega))))) hk3)
              have HN3 : Hid _ := Reads.owned hown3
              clear hown3
              go_wp2_with (at_builtin; refine wpList_app rfl _ _ 29 rfl B 5 (.int .u8 0) 1 1 Tryz.underlying29 infoByte rfl (by decide) (by decide) (.slice p5 acc.length c5) acc.length (acc.map (Value.int .u8)) rfl ?hown (.slice p3 2 c3) 2 ((bytesN 2 y).map (Value.int .u8)) rfl ?hsrc (oneCell_ints _ _) ?hb1 ?hb2 ?hk)
              case hown => exact HS3.out.2.1
              case hsrc => exact HN3.out
              case hb1 => have := HL.out; have := HS3.out.base; have := HLN.out; omega
              case hb2 => have := HL.out; have := HS3.out.base; have := HLN.out; omega
              case hk =>
                intro v6 w4 hown4 hgr4
                have HS4 : Hid (RPutSt w w4 B (.slice (some ⟨g, off, none⟩) l.length c) l (acc ++ bytesN 2 y) v6) := HS3.out.app (Kp.refl _ _) (by rw [bytesN_length]; exact hown4) hgr4
                have HL4 : Hid ((acc ++ bytesN 2 y).length ≤ 4 * j + 2) := by have := HL.out; unfold Hid; rw [List.length_append, bytesN_length]; omega
                clear hown4 hgr4 HS3 HN3
                obtain ⟨p6, c6, hv6⟩ := slice_own HS4.out.2.1
                subst hv6
                have hmr : moreB 1 (t + 1) = bytesN 1 t := by simp [moreB, bytesN]
                have HMR : Hid _ := hmr
                clear hmr
                go_wp2_with fail
                refine (rbytes_calls 1 t (by decide) (by decide) (by omega) (by omega) _).mono ?_
                rintro e w5 ⟨v5, rfl, hown5, hk5⟩
                obtain ⟨p7, c7, rfl⟩ := slice_own hown5
                have HS5 : Hid (RPutSt w w5 B (.slice (some ⟨g, off, none⟩) l.length c) l (acc ++ bytesN 2 y) (.slice p6 (acc ++ bytesN 2 y).length c6)) := HS4.out.kp hk5
                have HN5 : Hid _ := Reads.owned hown5
                clear hown5
                generalize hA2 : acc ++ bytesN 2 y = acc2 at *
                have HA2 : Hid _ := hA2
                clear hA2
                go_wp2_with (at_builtin; refine wpList_app rfl _ _ 29 rfl B 5 (.int .u8 0) 1 1 Tryz.underlying29 infoByte rfl (by decide) (by decide) (.slice p6 acc2.length c6) acc2.length (acc2.map (Value.int .u8)) rfl ?hown (.slice p7 1 c7) 1 ((bytesN 1 t).map (Value.int .u8)) rfl ?hsrc (oneCell_ints _ _) ?hb1 ?hb2 ?hk)
                case hown => exact HS5.out.2.1
                case hsrc => exact HN5.out
                case hb1 => have := HL4.out; have := HS5.out.base; have := HLN.out; omega
                case hb2 => have := HL4.out; have := HS5.out.base; have := HLN.out; omega
                case hk =>
                  intro v8 w6 hown6 hgr6
                  have HS6 : Hid (RPutSt w w6 B (.slice (some ⟨g, off, none⟩) l.length c) l (acc2 ++ bytesN 1 t) v8) := HS5.out.app (Kp.refl _ _) (by rw [bytesN_length]; exact hown6) hgr6
                  have HL6 : Hid ((acc2 ++ bytesN 1 t).length ≤ 4 * j + 4) := by have := HL4.out; unfold Hid; rw [List.length_append, bytesN_length]; omega
                  clear hown6 hgr6 HS5 HN5
                  have HP2 := HP.out
                  have HP3 := putAt_step _ _ _ _ HP2 HJ.out
                  rw [hrl.out, HY0.out, List.drop_drop, HMR.out, ← bytesN_2, HA2.out] at HP3
                  have HPN : Hid (PutAt 1 (csPut l 1) (acc2 ++ bytesN 1 t) (l.drop (j + t + 1))) := by
                    rw [Hid, show j + t + 1 = j + (t + 1) by omega]; exact HP3
                  clear HP2 HP3
                  go_wp2_with fail
                  go_roundw
                  case rel => first | exact ⟨j + t + 1, _, by omega, by omega, int_eq (by omega), HS6.out, by have := HL6.out; unfold Hid; omega, HPN.out⟩ | ((repeat apply Exists.intro); exact ⟨⟨j + t + 1, _, by omega, by omega, int_eq (by omega), HS6.out, by have := HL6.out; unfold Hid; omega, HPN.out⟩, rfl⟩)
                  case measure => simp [intOf]; omega
          · have hrl : Hid _ := hfin.out (.inr (.inl q2))
            clear hfin hgo
            have q1' : decide ((t : Int) < 255) = true := decide_eq_true q1
            have q2' : decide ((j : Int) + t + 1 < l.length) = false := by simp; omega
            go_wp2_with fail
            go_quiet (fail)
            go_wp2_with fail
            refine (rbytes_calls 2 y (by decide) (by decide) (by omega) (by omega) _).mono ?_
            rintro e w3 ⟨v3, rfl, hown3, hk3⟩
            obtain ⟨p3, c3, rfl⟩ := slice_own hown3
            have HS3 : Hid (RPutSt w w3 B (.slice (some ⟨g, off, none⟩) l.length c) l acc (.slice p5 acc.length c5)) := HS2.out.kp (Kp.trans (by (repeat (first | exact Kp.refl _ _ | assumption | refine Kp.drew ?_ | refine Kp.drewN ?_ _ | refine Kp.alloc ?_ _ | (refine Kp.setCell ?_ (by first | (left; simp; done) | (right; simp; try omega)) _) | (refine Kp.trans' ?_ (by assumption) (by simp; try omega))))) hk3)
            have HN3 : Hid _ := Reads.owned hown3
            clear hown3
            go_wp2_with (at_builtin; refine wpList_app rfl _ _ 29 rfl B 5 (.int .u8 0) 1 1 Tryz.underlying29 infoByte rfl (by decide) (by decide) (.slice p5 acc.length c5) acc.length (acc.map (Value.int .u8)) rfl ?hown (.slice p3 2 c3) 2 ((bytesN 2 y).map (Value.int .u8)) rfl ?hsrc (oneCell_ints _ _) ?hb1 ?hb2 ?hk)
            case hown => exact HS3.out.2.1
            case hsrc => exact HN3.out
            case hb1 => have := HL.out; have := HS3.out.base; have := HLN.out; omega
            case hb2 => have := HL.out; have := HS3.out.base; have := HLN.out; omega
            case hk =>
              intro v6 w4 hown4 hgr4
              have HS4 : Hid (RPutSt w w4 B (.slice (some ⟨g, off, none⟩) l.length c) l (acc ++ bytesN 2 y) v6) := HS3.out.app (Kp.refl _ _) (by rw [bytesN_length]; exact hown4) hgr4
              have HL4 : Hid ((acc ++ bytesN 2 y).length ≤ 4 * j + 2) := by have := HL.out; unfold Hid; rw [List.length_append, bytesN_length]; omega
              clear hown4 hgr4 HS3 HN3
              obtain ⟨p6, c6, hv6⟩ := slice_own HS4.out.2.1
              subst hv6
              have hmr : moreB 1 (t + 1) = bytesN 1 t := by simp [moreB, bytesN]
              have HMR : Hid _ := hmr
              clear hmr
              go_wp2_with fail
              refine (rbytes_calls 1 t (by decide) (by decide) (by omega) (by omega) _).mono ?_
              rintro e w5 ⟨v5, rfl, hown5, hk5⟩
              obtain ⟨p7, c7, rfl⟩ := slice_own hown5
              have HS5 : Hid (RPutSt w w5 B (.slice (some ⟨g, off, none⟩) l.length c) l (acc ++ bytesN 2 y) (.slice p6 (acc ++ bytesN 2 y).length c6)) := HS4.out.kp hk5
              have HN5 : Hid _ := Reads.owned hown5
              clear hown5
              generalize hA2 : acc ++ bytesN 2 y = acc2 at *
              have HA2 : Hid _ := hA2
              clear hA2
              go_wp2_with (at_builtin; refine wpList_app rfl _ _ 29 rfl B 5 (.int .u8 0) 1 1 Tryz.underlying29 infoByte rfl (by decide) (by decide) (.slice p6 acc2.length c6) acc2.length (acc2.map (Value.int .u8)) rfl ?hown (.slice p7 1 c7) 1 ((bytesN 1 t).map (Value.int .u8)) rfl ?hsrc (oneCell_ints _ _) ?hb1 ?hb2 ?hk)
              case hown => exact HS5.out.2.1
              case hsrc => exact HN5.out
              case hb1 => have := HL4.out; have := HS5.out.base; have := HLN.out; omega
              case hb2 => have := HL4.out; have := HS5.out.base; have := HLN.out; omega
              case hk =>
                intro v8 w6 hown6 hgr6
                have HS6 : Hid (RPutSt w w6 B (.slice (some ⟨g, off, none⟩) l.length c) l (acc2 ++ bytesN 1 t) v8) := HS5.out.app (Kp.refl _ _) (by rw [bytesN_length]; exact hown6) hgr6
                have HL6 : Hid ((acc2 ++ bytesN 1 t).length ≤ 4 * j + 4) := by have := HL4.out; unfold Hid; rw [List.length_append, bytesN_length]; omega
                clear hown6 hgr6 HS5 HN5
                have HP2 := HP.out
                have HP3 := putAt_step _ _ _ _ HP2 HJ.out
                rw [hrl.out, HY0.out, List.drop_drop, HMR.out, ← bytesN_2, HA2.out] at HP3
                have HPN : Hid (PutAt 1 (csPut l 1) (acc2 ++ bytesN 1 t) (l.drop (j + t + 1))) := by
                  rw [Hid, show j + t + 1 = j + (t + 1) by omega]; exact HP3
                clear HP2 HP3
                go_wp2_with fail
                go_roundw
                case rel => first | exact ⟨j + t + 1, _, by omega, by omega, int_eq (by omega), HS6.out, by have := HL6.out; unfold Hid; omega, HPN.out⟩ | ((repeat apply Exists.intro); exact ⟨⟨j + t + 1, _, by omega, by omega, int_eq (by omega), HS6.out, by have := HL6.out; unfold Hid; omega, HPN.out⟩, rfl⟩)
                case measure => simp [intOf]; omega
        · have hrl : Hid _ := hfin.out (.inl q1)
          clear hfin hgo
          have q1' : decide ((t : Int) < 255) = false := decide_eq_false q1
          go_wp2_with fail
          go_quiet (fail)
          go_wp2_with fail
          refine (rbytes_calls 2 y (by decide) (by decide) (by omega) (by omega) _).mono ?_
          rintro e w3 ⟨v3, rfl, hown3, hk3⟩
          obtain ⟨p3, c3, rfl⟩ := slice_own hown3
          have HS3 : Hid (RPutSt w w3 B (.slice (some ⟨g, off, none⟩) l.length c) l acc (.slice p5 acc.length c5)) := HS2.out.kp (Kp.trans (by (repeat (first | exact Kp.refl _ _ | assumption | refine Kp.drew ?_ | refine Kp.drewN ?_ _ | refine Kp.alloc ?_ _ | (refine Kp.setCell ?_ (by first | (left; simp; done) | (right; simp; try omega)) _) | (refine Kp.trans' ?_ (by assumption) (by simp; try omega))))) hk3)
          have HN3 : Hid _ := Reads.owned hown3
          clear hown3
          go_wp2_with (at_builtin; refine wpList_app rfl _ _ 29 rfl B 5 (.int .u8 0) 1 1 Tryz.underlying29 infoByte rfl (by decide) (by decide) (.slice p5 acc.length c5) acc.length (acc.map (Value.int .u8)) rfl ?hown (.slice p3 2 c3) 2 ((bytesN 2 y).map (Value.int .u8)) rfl ?hsrc (oneCell_ints _ _) ?hb1 ?hb2 ?hk)
          case hown => exact HS3.out.2.1
          case hsrc => exact HN3.out
          case hb1 => have := HL.out; have := HS3.out.base; have := HLN.out; omega
          case hb2 => have := HL.out; have := HS3.out.base; have := HLN.out; omega
          case hk =>
            intro v6 w4 hown4 hgr4
            have HS4 : Hid (RPutSt w w4 B (.slice (some ⟨g, off, none⟩) l.length c) l (acc ++ bytesN 2 y) v6) := HS3.out.app (Kp.refl _ _) (by rw [bytesN_length]; exact hown4) hgr4
            have HL4 : Hid ((acc ++ bytesN 2 y).length ≤ 4 * j + 2) := by have := HL.out; unfold Hid; rw [List.length_append, bytesN_length]; omega
            clear hown4 hgr4 HS3 HN3
            obtain ⟨p6, c6, hv6⟩ := slice_own HS4.out.2.1
            subst hv6
            have hmr : moreB 1 (t + 1) = bytesN 1 t := by simp [moreB, bytesN]
            have HMR : Hid _ := hmr
            clear hmr
            go_wp2_with fail
            refine (rbytes_calls 1 t (by decide) (by decide) (by omega) (by omega) _).mono ?_
            rintro e w5 ⟨v5, rfl, hown5, hk5⟩
            obtain ⟨p7, c7, rfl⟩ := slice_own hown5
            have HS5 : Hid (RPutSt w w5 B (.slice (some ⟨g, off, none⟩) l.length c) l (acc ++ bytesN 2 y) (.slice p6 (acc ++ bytesN 2 y).length c6)) := HS4.out.kp hk5
            have HN5 : Hid _ := Reads.owned hown5
            clear hown5
            generalize hA2 : acc ++ bytesN 2 y = acc2 at *
            have HA2 : Hid _ := hA2
            clear hA2
            go_wp2_with (at_builtin; refine wpList_app rfl _ _ 29 rfl B 5 (.int .u8 0) 1 1 Tryz.underlying29 infoByte rfl (by decide) (by decide) (.slice p6 acc2.length c6) acc2.length (acc2.map (Value.int .u8)) rfl ?hown (.slice p7 1 c7) 1 ((bytesN 1 t).map (Value.int .u8)) rfl ?hsrc (oneCell_ints _ _) ?hb1 ?hb2 ?hk)
            case hown => exact HS5.out.2.1
            case hsrc => exact HN5.out
            case hb1 => have := HL4.out; have := HS5.out.base; have := HLN.out; omega
            case hb2 => have := HL4.out; have := HS5.out.base; have := HLN.out; omega
            case hk =>
              intro v8 w6 hown6 hgr6
              have HS6 : Hid (RPutSt w w6 B (.slice (some ⟨g, off, none⟩) l.length c) l (acc2 ++ bytesN 1 t) v8) := HS5.out.app (Kp.refl _ _) (by rw [bytesN_length]; exact hown6) hgr6
              have HL6 : Hid ((acc2 ++ bytesN 1 t).length ≤ 4 * j + 4) := by have := HL4.out; unfold Hid; rw [List.length_append, bytesN_length]; omega
              clear hown6 hgr6 HS5 HN5
              have HP2 := HP.out
              have HP3 := putAt_step _ _ _ _ HP2 HJ.out
              rw [hrl.out, HY0.out, List.drop_drop, HMR.out, ← bytesN_2, HA2.out] at HP3
              have HPN : Hid (PutAt 1 (csPut l 1) (acc2 ++ bytesN 1 t) (l.drop (j + t + 1))) := by
                rw [Hid, show j + t + 1 = j + (t + 1) by omega]; exact HP3
              clear HP2 HP3
              go_wp2_with fail
              go_roundw
              case rel => first | exact ⟨j + t + 1, _, by omega, by omega, int_eq (by omega), HS6.out, by have := HL6.out; unfold Hid; omega, HPN.out⟩ | ((repeat apply Exists.intro); exact ⟨⟨j + t + 1, _, by omega, by omega, int_eq (by omega), HS6.out, by have := HL6.out; unfold Hid; omega, HPN.out⟩, rfl⟩)
              case measure => simp [intOf]; omega
    · have hR : Hid (csPut l 1 = acc) := by
        have h := HP.out
        rw [List.drop_eq_nil_of_le (by omega)] at h
        exact putAt_end _ _ _ h
      go_wp2_with fail
      go_ret
      exact ⟨_, rfl, by rw [hR.out]; exact IsInts.owned HS.out.2.1, HS.out.2.2.1, fun b hb => by have := own_geb HS.out.2.1 b hb; omega⟩
set_option maxRecDepth 100000 in
set_option maxHeartbeats 4000000 in
theorem rput_2 (v : Value) (l : List Int) (w : World) (hm : mayPut l 2 = true) (hz : IsInts .i64 w v l) (hv : ∀ b, blockOf v = some b → b < w.heap.size) :
    Calls Tryz.prog 28 #[v, .int .i64 2] w (RPutD (csPut l 2) w) := by
  obtain ⟨k1, k2, k3, k4, k5, k6⟩ := mayPut_true hm
  have HA : Hid (∀ c ∈ l, 0 ≤ c ∧ c ≤ 65535) := fun c hc => by have := List.all_eq_true.1 k4 c hc; simpa [inB] using this
  have HLN : Hid (l.length ≤ 65535) := k2
  have HV : Hid _ := hv
  have HAT : Hid (PutAt 2 (csPut l 2) [2] (l.drop 1)) := putAt_start l 2
  have hlt1 : ∃ N : Nat, l.length = N := ⟨_, rfl⟩
  rcases hz with ⟨⟨ad, rfl⟩, rfl⟩ | ⟨g, off, c, rfl, p1, p2, p3⟩
  · simp at k1
  have HZ : Hid (IsInts .i64 w (.slice (some ⟨g, off, none⟩) l.length c) l) := .inr ⟨g, off, c, rfl, p1, p2, p3⟩
  clear hm k2 k3 k4 k5 k6 hv p3 hlt1
  go_enter Tryz.func28, Tryz.ntmps28
  go_wp2_with fail
  generalize hB : w.heap.size = B at *
  go_loopw [5, 7, 8] (fun v5 i _ wr => ∃ (j : Nat) (acc : List Int), 1 ≤ j ∧ j ≤ l.length ∧ i = .int .i64 j ∧ RPutSt w wr B (.slice (some ⟨g, off, none⟩) l.length c) l acc v5 ∧ Hid (acc.length ≤ 4 * j) ∧ Hid (PutAt 2 (csPut l 2) acc (l.drop j))) (fun _ i _ _ => l.length - (intOf i).toNat)
  case atStart => exact ⟨1, [2], by omega, by omega, rfl, ⟨HZ.out.kp (S := []) (by (repeat (first | exact Kp.refl _ _ | assumption | refine Kp.drew ?_ | refine Kp.drewN ?_ _ | refine Kp.alloc ?_ _ | (refine Kp.setCell ?_ (by first | (left; simp; done) | (right; simp; try omega)) _) | (refine Kp.trans' ?_ (by assumption) (by simp; try omega))))) (by simp), own_lit w _ _ _ 1 1 #[.int .u8 2] hB.symm (by omega) (by decide) rfl, by (repeat (first | exact Kp.refl _ _ | assumption | refine Kp.drew ?_ | refine Kp.drewN ?_ _ | refine Kp.alloc ?_ _ | (refine Kp.setCell ?_ (by first | (left; simp; done) | (right; simp; try omega)) _) | (refine Kp.trans' ?_ (by assumption) (by simp; try omega)))), hB, fun b hb => HV.out b hb⟩, by simp [Hid], HAT.out⟩
  case round =>
    obtain ⟨j, acc, hj1, hj, rfl, hs, HL, HP⟩ := hrel
    obtain ⟨p5, c5, rfl⟩ := slice_own hs.2.1
    have HS : Hid (RPutSt w wr B (.slice (some ⟨g, off, none⟩) l.length c) l acc (.slice p5 acc.length c5)) := hs
    clear hs HAT HZ
    by_cases hlt : j < l.length
    · have HJ : Hid (l.drop j ≠ []) := by intro e; have := congrArg List.length e; simp at this; omega
      have hrun : Hid (runL 2 (l.drop j) = runGo (fun t => (l.drop j).getD t 0 == (l.drop j).getD 0 0 + t) 65535 (l.length - j - 1) 1) := by unfold Hid runL; rw [List.length_drop]; rfl
      obtain ⟨y, hy⟩ : ∃ y, l.getD j 0 = y := ⟨_, rfl⟩
      have hy0 : (l.drop j).getD 0 0 = y := by rw [← hy, List.getD_eq_getElem?_getD, List.getElem?_drop, List.getD_eq_getElem?_getD, Nat.add_zero]
      have hyb : 0 ≤ y ∧ y ≤ 65535 := by rw [← hy]; exact HA.out _ (by rw [List.getD_eq_getElem?_getD, List.getElem?_eq_getElem hlt]; exact List.getElem_mem _)
      obtain ⟨hyb1, hyb2⟩ := hyb
      have HY : Hid _ := hy
      have HY0 : Hid _ := hy0
      have hcj : wr.cell? ⟨g, off + j, none⟩ = some (.int .i64 y) := by
        rcases HS.out.1 with ⟨⟨ad, h⟩, h'⟩ | ⟨g1, o1, c1, h, _, _, h3⟩
        · exfalso; rw [h'] at hlt; simp at hlt
        · cases h; rw [← hy]; exact h3 j hlt
      clear hy hy0
      go_wp2_with fail
      go_loopw [8] (fun m wi => ∃ t : Nat, m = .int .i64 t ∧ j + t < l.length ∧ RPutSt w wi B (.slice (some ⟨g, off, none⟩) l.length c) l acc (.slice p5 acc.length c5) ∧ Hid (runGo (fun t => (l.drop j).getD t 0 == (l.drop j).getD 0 0 + t) 65535 (l.length - j - 1 - t) (1 + t) = runL 2 (l.drop j))) (fun m _ => l.length - (intOf m).toNat)
      case atStart => exact ⟨0, by simp, by omega, HS.out, by rw [Hid, hrun.out]; rfl⟩
      case round =>
        obtain ⟨t, rfl, ht, hs2, HR⟩ := hrel
        have HS2 : Hid (RPutSt w wr B (.slice (some ⟨g, off, none⟩) l.length c) l acc (.slice p5 acc.length c5)) := hs2
        clear hs2 HS hcj
        have hcj : wr.cell? ⟨g, off + j, none⟩ = some (.int .i64 y) := by
          rcases HS2.out.1 with ⟨⟨ad, h⟩, h'⟩ | ⟨g1, o1, c1, h, _, _, h3⟩
          · exfalso; rw [h'] at hlt; simp at hlt
          · cases h; rw [← HY.out]; exact h3 j hlt
        have hfin : Hid ((¬ (t : Int) < 65535 ∨ ¬ j + t + 1 < l.length ∨ ¬ l.getD (j + t + 1) 0 = y + t + 1) → runL 2 (l.drop j) = t + 1) := by
          intro h
          rw [← HR.out]
          rcases Nat.lt_or_ge (j + t + 1) l.length with h2 | h2
          · rw [show l.length - j - 1 - t = (l.length - j - 1 - (t + 1)) + 1 by omega]
            unfold runGo; rw [if_neg]; omega
            rintro ⟨q1, q2⟩
            rw [HY0.out] at q2
            have e : (l.drop j).getD (1 + t) 0 = l.getD (j + t + 1) 0 := by rw [List.getD_eq_getElem?_getD, List.getElem?_drop, List.getD_eq_getElem?_getD, show j + (1 + t) = j + t + 1 by omega]
            rw [e] at q2
            have q3 := eq_of_beq q2
            rcases h with h | h | h
            · omega
            · omega
            · exact h (by rw [q3]; omega)
          · rw [show l.length - j - 1 - t = 0 by omega]; unfold runGo; omega
        have hgo : Hid ((t : Int) < 65535 → j + t + 1 < l.length → l.getD (j + t + 1) 0 = y + t + 1 → runGo (fun t => (l.drop j).getD t 0 == (l.drop j).getD 0 0 + t) 65535 (l.length - j - 1 - (t + 1)) (1 + (t + 1)) = runL 2 (l.drop j)) := by
          intro h h2 h3
          rw [← HR.out, show l.length - j - 1 - t = (l.length - j - 1 - (t + 1)) + 1 by omega]
          rw [show runGo (fun t => (l.drop j).getD t 0 == (l.drop j).getD 0 0 + t) 65535 ((l.length - j - 1 - (t + 1)) + 1) (1 + t) = if ((1 + t : Nat) : Int) ≤ 65535 ∧ ((fun t : Nat => (l.drop j).getD t 0 == (l.drop j).getD 0 0 + t) (1 + t)) = true then runGo (fun t => (l.drop j).getD t 0 == (l.drop j).getD 0 0 + t) 65535 (l.length - j - 1 - (t + 1)) (1 + t + 1) else 1 + t from rfl]
          rw [if_pos]; rfl
          refine ⟨by omega, ?_⟩
          have e : (l.drop j).getD (1 + t) 0 = l.getD (j + t + 1) 0 := by rw [List.getD_eq_getElem?_getD, List.getElem?_drop, List.getD_eq_getElem?_getD, show j + (1 + t) = j + t + 1 by omega]
          show ((l.drop j).getD (1 + t) 0 == (l.drop j).getD 0 0 + ((1 + t : Nat) : Int)) = true
          rw [e, HY0.out, h3]; simp; omega
        clear HR
        have hjt : j + t ≤ 65535 := by have := HLN.out; omega
        by_cases q1 : (t : Int) < 65535
        · by_cases q2 : j + t + 1 < l.length
          · obtain ⟨x, hx⟩ : ∃ x, l.getD (j + t + 1) 0 = x := ⟨_, rfl⟩
            have hcx : wr.cell? ⟨g, off + (j + t + 1), none⟩ = some (.int .i64 x) := by
              rcases HS2.out.1 with ⟨⟨ad, h⟩, h'⟩ | ⟨g1, o1, c1, h, _, _, h3⟩
              · exfalso; rw [h'] at hlt; simp at hlt
              · cases h; rw [← hx]; exact h3 _ q2
            rw [hx] at hfin hgo
            clear hx
            by_cases q3 : x = y + t + 1
            · have HGO : Hid _ := hgo.out q1 q2 q3
              clear hfin hgo
              have q1' : decide ((t : Int) < 65535) = true := decide_eq_true q1
              have q2' : decide ((j : Int) + t + 1 < l.length) = true := by simp; omega
              subst q3
              go_wp2_with fail
              go_quiet (fail)
              go_wp2_with fail
              go_roundw
              case rel => first | exact ⟨t + 1, int_eq (by omega), by omega, HS2.out.kp (by (repeat (first | exact Kp.refl _ _ | assumption | refine Kp.drew ?_ | refine Kp.drewN ?_ _ | refine Kp.alloc ?_ _ | (refine Kp.setCell ?_ (by first | (left; simp; done) | (right; simp; try omega)) _) | (refine Kp.trans' ?_ (by assumption) (by simp; try omega))))), HGO.out⟩ | ((repeat apply Exists.intro); exact ⟨⟨t + 1, int_eq (by omega), by omega, HS2.out.kp (by (repeat (first | exact Kp.refl _ _ | assumption | refine Kp.drew ?_ | refine Kp.drewN ?_ _ | refine Kp.alloc ?_ _ | (refine Kp.setCell ?_ (by first | (left; simp; done) | (right; simp; try omega)) _) | (refine Kp.trans' ?_ (by assumption) (by simp; try omega))))), HGO.out⟩, rfl⟩)
              case measure => simp [intOf]; omega
            · have hrl : Hid _ := hfin.out (.inr (.inr q3))
              clear hfin hgo
              have q1' : decide ((t : Int) < 65535) = true := decide_eq_true q1
              have q2' : decide ((j : Int) + t + 1 < l.length) = true := by simp; omega
              have q3' : (x == y + t + 1) = false := beq_eq_false_iff_ne.2 q3
              go_wp2_with fail
              go_quiet (fail)
              go_wp2_with fail
              refine (rbytes_calls 2 y (by decide) (by decide) (by omega) (by omega) _).mono ?_
              rintro e w3 ⟨v3, rfl, hown3, hk3⟩
              obtain ⟨p3, c3, rfl⟩ := slice_own hown3
              have HS3 : Hid (RPutSt w w3 B (.slice (some ⟨g, off, none⟩) l.length c) l acc (.slice p5 acc.length c5)) := HS2.out.kp (Kp.trans (by (repeat (first | exact Kp.refl _ _ | assumption | refine Kp.drew ?_ | refine Kp.drewN ?_ _ | refine Kp.alloc ?_ _ | (refine Kp.setCell ?_ (by first | (left; simp; done) | (right; simp; try omega)) _) | (refine Kp.trans' ?_ (by assumption) (by simp; try omega))))) hk3)
              have HN3 : Hid _ := Reads.owned hown3
              clear hown3
              go_wp2_with (at_builtin; refine wpList_app rfl _ _ 29 rfl B 5 (.int .u8 0) 1 1 Tryz.underlying29 infoByte rfl (by decide) (by decide) (.slice p5 acc.length c5) acc.length (acc.map (Value.int .u8)) rfl ?hown (.slice p3 2 c3) 2 ((bytesN 2 y).map (Value.int .u8)) rfl ?hsrc (oneCell_ints _ _) ?hb1 ?hb2 ?hk)
              case hown => exact HS3.out.2.1
              case hsrc => exact HN3.out
              case hb1 => have := HL.out; have := HS3.out.base; have := HLN.out; omega
              case hb2 => have := HL.out; have := HS3.out.base; have := HLN.out; omega
              case hk =>
                intro v6 w4 hown4 hgr4
                have HS4 : Hid (RPutSt w w4 B (.slice (some ⟨g, off, none⟩) l.length c) l (acc ++ bytesN 2 y) v6) := HS3.out.app (Kp.refl _ _) (by rw [bytesN_length]; exact hown4) hgr4
                have HL4 : Hid ((acc ++ bytesN 2 y).length ≤ 4 * j + 2) := by have := HL.out; unfold Hid; rw [List.length_append, bytesN_length]; omega
                clear hown4 hgr4 HS3 HN3
                obtain ⟨p6, c6, hv6⟩ := slice_own HS4.out.2.1
                subst hv6
                have hmr : moreB 2 (t + 1) = bytesN 2 t := by simp [moreB, by2, bytesN]
                have HMR : Hid _ := hmr
                clear hmr
                go_wp2_with fail
                refine (rbytes_calls 2 t (by decide) (by decide) (by omega) (by omega) _).mono ?_
                rintro e w5 ⟨v5, rfl, hown5, hk5⟩
                obtain ⟨p7, c7, rfl⟩ := slice_own hown5
                have HS5 : Hid (RPutSt w w5 B (.slice (some ⟨g, off, none⟩) l.length c) l (acc ++ bytesN 2 y) (.slice p6 (acc ++ bytesN 2 y).length c6)) := HS4.out.kp hk5
                have HN5 : Hid _ := Reads.owned hown5
                clear hown5
                generalize hA2 : acc ++ bytesN 2 y = acc2 at *
                have HA2 : Hid _ := hA2
                clear hA2
                go_wp2_with (at_builtin; refine wpList_app rfl _ _ 29 rfl B 5 (.int .u8 0) 1 1 Tryz.underlying29 infoByte rfl (by decide) (by decide) (.slice p6 acc2.length c6) acc2.length (acc2.map (Value.int .u8)) rfl ?hown (.slice p7 2 c7) 2 ((bytesN 2 t).map (Value.int .u8)) rfl ?hsrc (oneCell_ints _ _) ?hb1 ?hb2 ?hk)
                case hown => exact HS5.out.2.1
                case hsrc => exact HN5.out
                case hb1 => have := HL4.out; have := HS5.out.base; have := HLN.out; omega
                case hb2 => have := HL4.out; have := HS5.out.base; have := HLN.out; omega
                case hk =>
                  intro v8 w6 hown6 hgr6
                  have HS6 : Hid (RPutSt w w6 B (.slice (some ⟨g, off, none⟩) l.length c) l (acc2 ++ bytesN 2 t) v8) := HS5.out.app (Kp.refl _ _) (by rw [bytesN_length]; exact hown6) hgr6
                  have HL6 : Hid ((acc2 ++ bytesN 2 t).length ≤ 4 * j + 4) := by have := HL4.out; unfold Hid; rw [List.length_append, bytesN_length]; omega
                  clear hown6 hgr6 HS5 HN5
                  have HP2 := HP.out
                  have HP3 := putAt_step _ _ _ _ HP2 HJ.out
                  rw [hrl.out, HY0.out, List.drop_drop, HMR.out, ← bytesN_2, HA2.out] at HP3
                  have HPN : Hid (PutAt 2 (csPut l 2) (acc2 ++ bytesN 2 t) (l.drop (j + t + 1))) := by
                    rw [Hid, show j + t + 1 = j + (t + 1) by omega]; exact HP3
                  clear HP2 HP3
                  go_wp2_with fail
                  go_roundw
                  case rel => first | exact ⟨j + t + 1, _, by omega, by omega, int_eq (by omega), HS6.out, by have := HL6.out; unfold Hid; omega, HPN.out⟩ | ((repeat apply Exists.intro); exact ⟨⟨j + t + 1, _, by omega, by omega, int_eq (by omega), HS6.out, by have := HL6.out; unfold Hid; omega, HPN.out⟩, rfl⟩)
                  case measure => simp [intOf]; omega
          · have hrl : Hid _ := hfin.out (.inr (.inl q2))
            clear hfin hgo
            have q1' : decide ((t : Int) < 65535) = true := decide_eq_true q1
            have q2' : decide ((j : Int) + t + 1 < l.length) = false := by simp; omega
            go_wp2_with fail
            go_quiet (fail)
            go_wp2_with fail
            refine (rbytes_calls 2 y (by decide) (by decide) (by omega) (by omega) _).mono ?_
            rintro e w3 ⟨v3, rfl, hown3, hk3⟩
            obtain ⟨p3, c3, rfl⟩ := slice_own hown3
            have HS3 : Hid (RPutSt w w3 B (.slice (some ⟨g, off, none⟩) l.length c) l acc (.slice p5 acc.length c5)) := HS2.out.kp (Kp.trans (by (repeat (first | exact Kp.refl _ _ | assumption | refine Kp.drew ?_ | refine Kp.drewN ?_ _ | refine Kp.alloc ?_ _ | (refine Kp.setCell ?_ (by first | (left; simp; done) | (right; simp; try omega)) _) | (refine Kp.trans' ?_ (by assumption) (by simp; try omega))))) hk3)
            have HN3 : Hid _ := Reads.owned hown3
            clear hown3
            go_wp2_with (at_builtin; refine wpList_app rfl _ _ 29 rfl B 5 (.int .u8 0) 1 1 Tryz.underlying29 infoByte rfl (by decide) (by decide) (.slice p5 acc.length c5) acc.length (acc.map (Value.int .u8)) rfl ?hown (.slice p3 2 c3) 2 ((bytesN 2 y).map (Value.int .u8)) rfl ?hsrc (oneCell_ints _ _) ?hb1 ?hb2 ?hk)
            case hown => exact HS3.out.2.1
            case hsrc => exact HN3.out
            case hb1 => have := HL.out; have := HS3.out.base; have := HLN.out; omega
            case hb2 => have := HL.out; have := HS3.out.base; have := HLN.out; omega
            case hk =>
              intro v6 w4 hown4 hgr4
              have HS4 : Hid (RPutSt w w4 B (.slice (some ⟨g, off, none⟩) l.length c) l (acc ++ bytesN 2 y) v6) := HS3.out.app (Kp.refl _ _) (by rw [bytesN_length]; exact hown4) hgr4
              have HL4 : Hid ((acc ++ bytesN 2 y).length ≤ 4 * j + 2) := by have := HL.out; unfold Hid; rw [List.length_append, bytesN_length]; omega
              clear hown4 hgr4 HS3 HN3
              obtain ⟨p6, c6, hv6⟩ := slice_own HS4.out.2.1
              subst hv6
              have hmr : moreB 2 (t + 1) = bytesN 2 t := by simp [moreB, by2, bytesN]
              have HMR : Hid _ := hmr
              clear hmr
              go_wp2_with fail
              refine (rbytes_calls 2 t (by decide) (by decide) (by omega) (by omega) _).mono ?_
              rintro e w5 ⟨v5, rfl, hown5, hk5⟩
              obtain ⟨p7, c7, rfl⟩ := slice_own hown5
              have HS5 : Hid (RPutSt w w5 B (.slice (some ⟨g, off, none⟩) l.length c) l (acc ++ bytesN 2 y) (.slice p6 (acc ++ bytesN 2 y).length c6)) := HS4.out.kp hk5
              have HN5 : Hid _ := Reads.owned hown5
              clear hown5
              generalize hA2 : acc ++ bytesN 2 y = acc2 at *
              have HA2 : Hid _ := hA2
              clear hA2
              go_wp2_with (at_builtin; refine wpList_app rfl _ _ 29 rfl B 5 (.int .u8 0) 1 1 Tryz.underlying29 infoByte rfl (by decide) (by decide) (.slice p6 acc2.length c6) acc2.length (acc2.map (Value.int .u8)) rfl ?hown (.slice p7 2 c7) 2 ((bytesN 2 t).map (Value.int .u8)) rfl ?hsrc (oneCell_ints _ _) ?hb1 ?hb2 ?hk)
              case hown => exact HS5.out.2.1
              case hsrc => exact HN5.out
              case hb1 => have := HL4.out; have := HS5.out.base; have := HLN.out; omega
              case hb2 => have := HL4.out; have := HS5.out.base; have := HLN.out; omega
              case hk =>
                intro v8 w6 hown6 hgr6
                have HS6 : Hid (RPutSt w w6 B (.slice (some ⟨g, off, none⟩) l.length c) l (acc2 ++ bytesN 2 t) v8) := HS5.out.app (Kp.refl _ _) (by rw [bytesN_length]; exact hown6) hgr6
                have HL6 : Hid ((acc2 ++ bytesN 2 t).length ≤ 4 * j + 4) := by have := HL4.out; unfold Hid; rw [List.length_append, bytesN_length]; omega
                clear hown6 hgr6 HS5 HN5
                have HP2 := HP.out
                have HP3 := putAt_step _ _ _ _ HP2 HJ.out
                rw [hrl.out, HY0.out, List.drop_drop, HMR.out, ← bytesN_2, HA2.out] at HP3
                have HPN : Hid (PutAt 2 (csPut l 2) (acc2 ++ bytesN 2 t) (l.drop (j + t + 1))) := by
                  rw [Hid, show j + t + 1 = j + (t + 1) by omega]; exact HP3
                clear HP2 HP3
                go_wp2_with fail
                go_roundw
                case rel => first | exact ⟨j + t + 1, _, by omega, by omega, int_eq (by omega), HS6.out, by have := HL6.out; unfold Hid; omega, HPN.out⟩ | ((repeat apply Exists.intro); exact ⟨⟨j + t + 1, _, by omega, by omega, int_eq (by omega), HS6.out, by have := HL6.out; unfold Hid; omega, HPN.out⟩, rfl⟩)
                case measure => simp [intOf]; omega
        · have hrl : Hid _ := hfin.out (.inl q1)
          clear hfin hgo
          have q1' : decide ((t : Int) < 65535) = false := decide_eq_false q1
          go_wp2_with fail
          go_quiet (fail)
          go_wp2_with fail
          refine (rbytes_calls 2 y (by decide) (by decide) (by omega) (by omega) _).mono ?_
          rintro e w3 ⟨v3, rfl, hown3, hk3⟩
          obtain ⟨p3, c3, rfl⟩ := slice_own hown3
          have HS3 : Hid (RPutSt w w3 B (.slice (some ⟨g, off, none⟩) l.length c) l acc (.slice p5 acc.length c5)) := HS2.out.kp (Kp.trans (by (repeat (first | exact Kp.refl _ _ | assumption | refine Kp.drew ?_ | refine Kp.drewN ?_ _ | refine Kp.alloc ?_ _ | (refine Kp.setCell ?_ (by first | (left; simp; done) | (right; simp; try omega)) _) | (refine Kp.trans' ?_ (by assumption) (by simp; try omega))))) hk3)
          have HN3 : Hid _ := Reads.owned hown3
          clear hown3
          go_wp2_with (at_builtin; refine wpList_app rfl _ _ 29 rfl B 5 (.int .u8 0) 1 1 Tryz.underlying29 infoByte rfl (by decide) (by decide) (.slice p5 acc.length c5) acc.length (acc.map (Value.int .u8)) rfl ?hown (.slice p3 2 c3) 2 ((bytesN 2 y).map (Value.int .u8)) rfl ?hsrc (oneCell_ints _ _) ?hb1 ?hb2 ?hk)
          case hown => exact HS3.out.2.1
          case hsrc => exact HN3.out
          case hb1 => have := HL.out; have := HS3.out.base; have := HLN.out; omega
          case hb2 => have := HL.out; have := HS3.out.base; have := HLN.out; omega
          case hk =>
            intro v6 w4 hown4 hgr4
            have HS4 : Hid (RPutSt w w4 B (.slice (some ⟨g, off, none⟩) l.length c) l (acc ++ bytesN 2 y) v6) := HS3.out.app (Kp.refl _ _) (by rw [bytesN_length]; exact hown4) hgr4
            have HL4 : Hid ((acc ++ bytesN 2 y).length ≤ 4 * j + 2) := by have := HL.out; unfold Hid; rw [List.length_append, bytesN_length]; omega
            clear hown4 hgr4 HS3 HN3
            obtain ⟨p6, c6, hv6⟩ := slice_own HS4.out.2.1
            subst hv6
            have hmr : moreB 2 (t + 1) = bytesN 2 t := by simp [moreB, by2, bytesN]
            have HMR : Hid _ := hmr
            clear hmr
            go_wp2_with fail
            refine (rbytes_calls 2 t (by decide) (by decide) (by omega) (by omega) _).mono ?_
            rintro e w5 ⟨v5, rfl, hown5, hk5⟩
            obtain ⟨p7, c7, rfl⟩ := slice_own hown5
            have HS5 : Hid (RPutSt w w5 B (.slice (some ⟨g, off, none⟩) l.length c) l (acc ++ bytesN 2 y) (.slice p6 (acc ++ bytesN 2 y).length c6)) := HS4.out.kp hk5
            have HN5 : Hid _ := Reads.owned hown5
            clear hown5
            generalize hA2 : acc ++ bytesN 2 y = acc2 at *
            have HA2 : Hid _ := hA2
            clear hA2
            go_wp2_with (at_builtin; refine wpList_app rfl _ _ 29 rfl B 5 (.int .u8 0) 1 1 Tryz.underlying29 infoByte rfl (by decide) (by decide) (.slice p6 acc2.length c6) acc2.length (acc2.map (Value.int .u8)) rfl ?hown (.slice p7 2 c7) 2 ((bytesN 2 t).map (Value.int .u8)) rfl ?hsrc (oneCell_ints _ _) ?hb1 ?hb2 ?hk)
            case hown => exact HS5.out.2.1
            case hsrc => exact HN5.out
            case hb1 => have := HL4.out; have := HS5.out.base; have := HLN.out; omega
            case hb2 => have := HL4.out; have := HS5.out.base; have := HLN.out; omega
            case hk =>
              intro v8 w6 hown6 hgr6
              have HS6 : Hid (RPutSt w w6 B (.slice (some ⟨g, off, none⟩) l.length c) l (acc2 ++ bytesN 2 t) v8) := HS5.out.app (Kp.refl _ _) (by rw [bytesN_length]; exact hown6) hgr6
              have HL6 : Hid ((acc2 ++ bytesN 2 t).length ≤ 4 * j + 4) := by have := HL4.out; unfold Hid; rw [List.length_append, bytesN_length]; omega
              clear hown6 hgr6 HS5 HN5
              have HP2 := HP.out
              have HP3 := putAt_step _ _ _ _ HP2 HJ.out
              rw [hrl.out, HY0.out, List.drop_drop, HMR.out, ← bytesN_2, HA2.out] at HP3
              have HPN : Hid (PutAt 2 (csPut l 2) (acc2 ++ bytesN 2 t) (l.drop (j + t + 1))) := by
                rw [Hid, show j + t + 1 = j + (t + 1) by omega]; exact HP3
              clear HP2 HP3
              go_wp2_with fail
              go_roundw
              case rel => first | exact ⟨j + t + 1, _, by omega, by omega, int_eq (by omega), HS6.out, by have := HL6.out; unfold Hid; omega, HPN.out⟩ | ((repeat apply Exists.intro); exact ⟨⟨j + t + 1, _, by omega, by omega, int_eq (by omega), HS6.out, by have := HL6.out; unfold Hid; omega, HPN.out⟩, rfl⟩)
              case measure => simp [intOf]; omega
    · have hR : Hid (csPut l 2 = acc) := by
        have h := HP.out
        rw [List.drop_eq_nil_of_le (by omega)] at h
        exact putAt_end _ _ _ h
      go_wp2_with fail
      go_ret
      exact ⟨_, rfl, by rw [hR.out]; exact IsInts.owned HS.out.2.1, HS.out.2.2.1, fun b hb => by have := own_geb HS.out.2.1 b hb; omega⟩
theorem rput_calls (v : Value) (l : List Int) (f : Int) (w : World) (hm : mayPut l f = true) (hz : IsInts .i64 w v l) (hv : ∀ b, blockOf v = some b → b < w.heap.size) :
    Calls Tryz.prog 28 #[v, .int .i64 f] w (RPutD (csPut l f.toNat) w) := by
  obtain ⟨_, _, _, _, k5, k6⟩ := mayPut_true hm
  have h : f = 0 ∨ f = 1 ∨ f = 2 := by omega
  rcases h with rfl | rfl | rfl
  · exact rput_0 v l w hm hz hv
  · exact rput_1 v l w hm hz hv
  · exact rput_2 v l w hm hz hv
end Go.Proofs.YtlhkaoccnpgkeaaGreat.Ch
namespace Go.Proofs.YtlhkaoccnpgkeaaGreat.Ch
set_option linter.unusedVariables false
set_option linter.unusedSimpArgs false
theorem rd_at (A B C : List Int) : rdB (A ++ B ++ C) A.length false B.length = false ∧ rdV (A ++ B ++ C) A.length false B.length = beN B ∧ rdK (A ++ B ++ C) A.length false B.length = A.length + B.length := by
  have h1 : rdB (A ++ B ++ C) A.length false B.length = false := by unfold rdB; simp
  refine ⟨h1, ?_, ?_⟩
  · unfold rdV cutB; rw [h1, if_neg (by simp), List.append_assoc, List.drop_left, List.take_left]
  · unfold rdK; rw [h1, if_neg (by simp)]
theorem rd_in {zs A B C : List Int} (h : zs = A ++ B ++ C) (k m : Nat) (hk : k = A.length) (hm : m = B.length) : rdB zs k false m = false ∧ rdV zs k false m = beN B ∧ rdK zs k false m = k + m := by
  subst h hk hm; exact rd_at A B C
theorem beN_by2 (x : Int) (h0 : 0 ≤ x) (h1 : x ≤ 65535) : beN (by2 x) = x := by simp [beN, by2]; omega
theorem beN_1 (x : Int) : beN [x] = x := by simp [beN]
theorem runGo_all (p : Nat → Bool) (most : Int) : ∀ (fuel n t : Nat), n ≤ t → t < runGo p most fuel n → p t = true ∧ (t : Int) ≤ most := by
  intro fuel
  induction fuel with
  | zero => intro n t h1 h2; unfold runGo at h2; omega
  | succ fuel ih =>
    intro n t h1 h2
    unfold runGo at h2
    split at h2
    · rename_i hc
      by_cases e : n = t
      · subst e; exact ⟨hc.2, hc.1⟩
      · exact ih (n + 1) t (by omega) h2
    · omega
theorem ups_run (f : Nat) (l : List Int) (h : 1 ≤ l.length) : ups (l.getD 0 0) (runL f l) = l.take (runL f l) := by
  have hle := runL_le f l h
  apply List.ext_getElem?
  intro i
  unfold ups
  rw [List.getElem?_map]
  by_cases hi : i < runL f l
  · rw [List.getElem?_range hi, List.getElem?_take_of_lt hi, List.getElem?_eq_getElem (by omega)]
    by_cases h0 : i = 0
    · subst h0; simp [List.getD_eq_getElem?_getD, List.getElem?_eq_getElem (show 0 < l.length by omega)]
    · have := (runGo_all _ _ _ 1 i (by omega) hi).1
      have e := eq_of_beq this
      rw [List.getD_eq_getElem?_getD, List.getElem?_eq_getElem (by omega)] at e
      simp at e ⊢; omega
  · rw [List.getElem?_eq_none (by simp; omega), List.getElem?_eq_none (by simp; omega)]; rfl
theorem runL_most (f : Nat) (l : List Int) : ((runL f l : Nat) : Int) - 1 ≤ mostOf f := by
  by_cases h : runL f l = 1
  · rw [h]; unfold mostOf; split <;> (try split) <;> omega
  · have h1 := runL_ge f l
    have := (runGo_all (fun i => l.getD i 0 == l.getD 0 0 + i) (mostOf f) (l.length - 1) 1 (runL f l - 1) (by omega) (by unfold runL; have := h1; unfold runL at this; omega)).2
    omega
theorem moreB_len (f r : Nat) (hf : f ≤ 2) : (moreB f r).length = f := by
  have : f = 0 ∨ f = 1 ∨ f = 2 := by omega
  rcases this with rfl | rfl | rfl <;> simp [moreB, by2]
theorem moreB_val (f r : Nat) (hf : f ≤ 2) (h1 : 1 ≤ r) (hr : ((r : Nat) : Int) - 1 ≤ mostOf f) : f ≠ 0 → beN (moreB f r) = (r : Int) - 1 := by
  have : f = 0 ∨ f = 1 ∨ f = 2 := by omega
  rcases this with rfl | rfl | rfl
  · intro h; exact absurd rfl h
  · intro _; simp [moreB, beN]; simp [mostOf] at hr; omega
  · intro _; simp only [moreB]; rw [if_neg (by decide), if_neg (by decide)]; simp [mostOf] at hr; exact beN_by2 _ (by omega) (by omega)
theorem loads_go (f : Nat) (hf : f ≤ 2) (zs behind l : List Int) (R : Option (List Int)) (hb : ∀ c ∈ l, 0 ≤ c ∧ c ≤ 65535) :
    ∀ (m : Nat) (rest A L : List Int), rest.length ≤ m → zs = A ++ putGo f m rest ++ behind → L ++ rest = l → CsAt zs f l.length R L A.length → R = some l := by
  intro m
  induction m with
  | zero =>
    intro rest A L h1 h2 h3 h4
    have : rest = [] := List.eq_nil_of_length_eq_zero (by omega)
    subst this
    simp at h3; subst h3
    exact csAt_end _ _ _ _ _ _ h4 (by omega)
  | succ m ih =>
    intro rest A L h1 h2 h3 h4
    by_cases hr : rest = []
    · subst hr
      simp at h3; subst h3
      exact csAt_end _ _ _ _ _ _ h4 (by omega)
    · have hr1 : 1 ≤ rest.length := List.length_pos_iff.2 hr
      unfold putGo at h2
      rw [if_neg hr] at h2
      unfold putRun at h2
      have hlen : L.length + rest.length = l.length := by rw [← h3]; simp
      have g1 := runL_ge f rest
      have g2 := runL_le f rest hr1
      have g3 := runL_most f rest
      have g4 := ups_run f rest hr1
      have hin : ∀ i, i < rest.length → 0 ≤ rest.getD i 0 ∧ rest.getD i 0 ≤ 65535 := by
        intro i hi
        apply hb
        rw [← h3, List.getD_eq_getElem?_getD, List.getElem?_eq_getElem hi]
        exact List.mem_append_right _ (List.getElem_mem _)
      have hx := hin 0 (by omega)
      have hlast : rest.getD 0 0 + ((runL f rest : Nat) : Int) - 1 ≤ 65535 := by
        have e : (ups (rest.getD 0 0) (runL f rest))[runL f rest - 1]? = rest[runL f rest - 1]? := by rw [g4, List.getElem?_take_of_lt (by omega)]
        unfold ups at e
        rw [List.getElem?_map, List.getElem?_range (by omega), List.getElem?_eq_getElem (by omega)] at e
        have e2 := hin (runL f rest - 1) (by omega)
        rw [List.getD_eq_getElem?_getD, List.getElem?_eq_getElem (by omega)] at e2
        have e0 : rest[0]?.getD 0 = rest.getD 0 0 := by rw [List.getD_eq_getElem?_getD]
        simp at e e2
        omega
      generalize hrr : runL f rest = r at *
      have e1 := rd_in (zs := zs) (A := A) (B := by2 (rest.getD 0 0)) (C := moreB f r ++ putGo f m (rest.drop r) ++ behind) (by rw [h2]; simp [List.append_assoc]) A.length 2 rfl rfl
      have e2 := rd_in (zs := zs) (A := A ++ by2 (rest.getD 0 0)) (B := moreB f r) (C := putGo f m (rest.drop r) ++ behind) (by rw [h2]; simp [List.append_assoc]) (A.length + 2) f (by simp [by2]) (moreB_len f r hf).symm
      have c1 : cs1 zs f A.length = rest.getD 0 0 := by unfold cs1; rw [e1.2.1]; exact beN_by2 _ hx.1 hx.2
      have cm : csM zs f A.length = (r : Int) - 1 := by
        unfold csM moV; rw [e1.2.2, e1.1]
        by_cases h0 : f = 0
        · subst h0; rw [if_pos rfl]; simp [mostOf] at g3; omega
        · rw [if_neg h0, e2.2.1]; exact moreB_val f r hf g1 g3 h0
      have ck : csK zs f A.length = A.length + 2 + f := by
        unfold csK moK; rw [e1.2.2, e1.1]
        by_cases h0 : f = 0
        · subst h0; rw [if_pos rfl]
        · rw [if_neg h0, e2.2.2]
      have cb : csB zs f A.length = false := by
        unfold csB moB; rw [e1.2.2, e1.1]
        by_cases h0 : f = 0
        · rw [if_pos h0]
        · rw [if_neg h0, e2.1]
      have st := csAt_step zs f l.length R L A.length h4 (by omega) (by rw [cb, c1, cm]; rintro (h | h | h); exact absurd h (by simp); omega; omega) (by rw [cm]; omega)
      rw [c1, cm, ck, show ((r : Int) - 1).toNat + 1 = r by omega, g4] at st
      refine ih (rest.drop r) (A ++ by2 (rest.getD 0 0) ++ moreB f r) (L ++ rest.take r) (by simp; omega) ?_ (by rw [List.append_assoc, List.take_append_drop]; exact h3) ?_
      · rw [h2]; simp [List.append_assoc]
      · rw [List.length_append, List.length_append, moreB_len f r hf]; exact st
theorem loads_put (l : List Int) (f : Nat) (behind : List Int) (hm : mayPut l f = true) : csLoad (csPut l f ++ behind) l.length = some l := by
  unfold mayPut at hm
  simp only [Bool.and_eq_true, decide_eq_true_eq, beq_iff_eq] at hm
  obtain ⟨⟨⟨⟨⟨k1, k2⟩, k3⟩, k4⟩, k5⟩, k6⟩ := hm
  have hb : ∀ c ∈ l, 0 ≤ c ∧ c ≤ 65535 := fun c hc => by have := List.all_eq_true.1 k4 c hc; simpa [inB] using this
  have hf : f ≤ 2 := by omega
  have e := rd_in (zs := csPut l f ++ behind) (A := []) (B := [(f : Int)]) (C := putGo f l.length (l.drop 1) ++ behind) (by simp [csPut]) 0 1 rfl rfl
  rw [beN_1] at e
  have st := csAt_start (csPut l f ++ behind) l.length k1 e.1 (by rw [e.2.1]; omega)
  rw [e.2.1, e.2.2, Int.toNat_natCast] at st
  refine loads_go f hf (csPut l f ++ behind) behind l _ hb l.length (l.drop 1) [(f : Int)] [0] (by simp) rfl ?_ st
  cases l with
  | nil => simp at k1
  | cons a t => simp at k3 ⊢; exact k3.symm
end Go.Proofs.YtlhkaoccnpgkeaaGreat.Ch
namespace Go.Proofs.YtlhkaoccnpgkeaaGreat.Ch
set_option linter.unusedVariables false
set_option linter.unusedSimpArgs false
theorem by2_bytes (x : Int) : ∀ c ∈ by2 x, 0 ≤ c ∧ c ≤ 255 := by
  intro c hc; simp [by2] at hc; rcases hc with rfl | rfl <;> omega
theorem moreB_bytes (f n : Nat) : ∀ c ∈ moreB f n, 0 ≤ c ∧ c ≤ 255 := by
  intro c hc; unfold moreB at hc
  split at hc
  · simp at hc
  · split at hc
    · simp at hc; subst hc; omega
    · exact by2_bytes _ _ hc
theorem putGo_bytes (f : Nat) : ∀ (m : Nat) (l : List Int), ∀ c ∈ putGo f m l, 0 ≤ c ∧ c ≤ 255 := by
  intro m
  induction m with
  | zero => intro l c hc; simp [putGo] at hc
  | succ m ih =>
    intro l c hc
    unfold putGo at hc
    split at hc
    · simp at hc
    · unfold putRun at hc
      rcases List.mem_append.1 hc with h | h
      · rcases List.mem_append.1 h with h | h
        · exact by2_bytes _ _ h
        · exact moreB_bytes _ _ _ h
      · exact ih _ _ h
theorem putGo_len (f : Nat) : ∀ (m : Nat) (l : List Int), (putGo f m l).length ≤ 4 * l.length := by
  intro m
  induction m with
  | zero => intro l; simp [putGo]
  | succ m ih =>
    intro l
    unfold putGo
    split
    · simp
    · rename_i h
      have h1 : 1 ≤ l.length := List.length_pos_iff.2 h
      have h2 := runL_ge f l
      have h3 := runL_le f l h1
      have h4 := ih (l.drop (runL f l))
      have h5 := moreB_length f (runL f l)
      simp only [putRun, List.length_append, List.length_drop] at h4 ⊢
      have : (by2 (l.getD 0 0)).length = 2 := rfl
      omega
theorem csPut_bytes (l : List Int) (f : Nat) (hf : f ≤ 2) : ∀ c ∈ csPut l f, 0 ≤ c ∧ c ≤ 255 := by
  intro c hc
  unfold csPut at hc
  rcases List.mem_append.1 hc with h | h
  · simp at h; subst h; omega
  · exact putGo_bytes _ _ _ _ h
theorem csPut_len (l : List Int) (f : Nat) : (csPut l f).length ≤ 1 + 4 * l.length := by
  unfold csPut
  have := putGo_len f l.length (l.drop 1)
  simp only [List.length_append, List.length_singleton, List.length_drop] at this ⊢
  omega
end Go.Proofs.YtlhkaoccnpgkeaaGreat.Ch

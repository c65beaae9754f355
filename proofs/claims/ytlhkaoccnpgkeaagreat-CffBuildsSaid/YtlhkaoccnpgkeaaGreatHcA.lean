/- Charsets as the document has them: what bytes are, glyph by glyph. Plain lists; no program in sight · Charsets: two slices of the same integers; counts · charset.Load: what bytes are as a charset. (Written by wip/charset/genload.py.) · Charsets: the first place of a number · Functions handed to the library: slices.IndexFunc, slices.ContainsFunc, at integers; within · How far a run goes; the question that charset.Put asks of a number · The bytes of a charset, as the document has them. Plain lists; no program in sight · charset.Put: the bytes of a charset. (Written by wip/charset/genput.py.). (Merged by wip/tools/mergetpl.py out of ChPlain, ChA, ChB, ChC, ChE, ChF, ChPlainP, ChG.) -/
import Derived.Test.YtlhkaoccnpgkeaaGreatWmA
import Derived.Lib.Hide
import Derived.Deep.RegionHeld3
import Derived.Deep.AppendLies
namespace Go.Proofs.YtlhkaoccnpgkeaaGreat.Ch
set_option linter.unusedVariables false
/-- j numbers from x on. -/
def ups (x : Int) (j : Nat) : List Int := (List.range j).map fun i => x + (i : Nat)
theorem ups_succ (x : Int) (j : Nat) : ups x (j + 1) = ups x j ++ [x + j] := by simp [ups, List.range_succ]
theorem ups_length (x : Int) (j : Nat) : (ups x j).length = j := by simp [ups]
/-- How many more a range has: in the formats 0, 1, 2 (of 0, 1, 2 bytes). -/
def moV (zs : List Int) (k : Nat) (bad : Bool) (f : Nat) : Int := if f = 0 then 0 else rdV zs k bad f
def moK (zs : List Int) (k : Nat) (bad : Bool) (f : Nat) : Nat := if f = 0 then k else rdK zs k bad f
def moB (zs : List Int) (k : Nat) (bad : Bool) (f : Nat) : Bool := if f = 0 then bad else rdB zs k bad f
def cs1 (zs : List Int) (f k : Nat) : Int := rdV zs k false 2
def csM (zs : List Int) (f k : Nat) : Int := moV zs (rdK zs k false 2) (rdB zs k false 2) f
def csK (zs : List Int) (f k : Nat) : Nat := moK zs (rdK zs k false 2) (rdB zs k false 2) f
def csB (zs : List Int) (f k : Nat) : Bool := moB zs (rdK zs k false 2) (rdB zs k false 2) f
/-- One range: the numbers so far, and the place behind it. -/
def csStep (zs : List Int) (f n : Nat) (l : List Int) (k : Nat) : Option (List Int × Nat) :=
  if csB zs f k = true ∨ 65535 < cs1 zs f k + csM zs f k ∨ (n : Int) - l.length ≤ csM zs f k then none
  else some (l ++ ups (cs1 zs f k) ((csM zs f k).toNat + 1), csK zs f k)
def csGo (zs : List Int) (f n : Nat) : Nat → List Int → Nat → Option (List Int)
  | 0, l, k => some l
  | m + 1, l, k => if l.length < n then (csStep zs f n l k).bind fun p => csGo zs f n m p.1 p.2 else some l
/-- What bytes are, as a charset of n glyphs. -/
def csLoad (zs : List Int) (n : Nat) : Option (List Int) :=
  if rdB zs 0 false 1 = true ∨ 2 < rdV zs 0 false 1 then none else csGo zs (rdV zs 0 false 1).toNat n n [0] (rdK zs 0 false 1)
/-- Where a load stands: what is still to come gives R. -/
def CsAt (zs : List Int) (f n : Nat) (R : Option (List Int)) (l : List Int) (k : Nat) : Prop :=
  k ≤ zs.length ∧ 1 ≤ l.length ∧ l.length ≤ n ∧ ∃ m, n ≤ l.length + m ∧ csGo zs f n m l k = R
theorem csAt_start (zs : List Int) (n : Nat) (hn : 1 ≤ n) (h : rdB zs 0 false 1 = false) (h2 : ¬ 2 < rdV zs 0 false 1) : CsAt zs (rdV zs 0 false 1).toNat n (csLoad zs n) [0] (rdK zs 0 false 1) :=
  ⟨rdK_le _ _ _ _ (Nat.zero_le _), by simp, by simpa using hn, n, by omega, by unfold csLoad; rw [if_neg (by simp [h, h2])]⟩
theorem csAt_end (zs : List Int) (f n : Nat) (R : Option (List Int)) (l : List Int) (k : Nat) (h : CsAt zs f n R l k) (hl : ¬ l.length < n) : R = some l := by
  obtain ⟨_, _, _, m, h2, rfl⟩ := h
  cases m with
  | zero => rfl
  | succ m => simp [csGo, hl]
theorem moK_le (zs : List Int) (k : Nat) (bad : Bool) (m : Nat) (h : k ≤ zs.length) : moK zs k bad m ≤ zs.length := by
  unfold moK; split; exact h; exact rdK_le _ _ _ _ h
theorem csAt_fail (zs : List Int) (f n : Nat) (R : Option (List Int)) (l : List Int) (k : Nat) (h : CsAt zs f n R l k) (hl : l.length < n)
    (hf : csB zs f k = true ∨ 65535 < cs1 zs f k + csM zs f k ∨ (n : Int) - l.length ≤ csM zs f k) : R = none := by
  obtain ⟨_, _, _, m, h2, rfl⟩ := h
  cases m with
  | zero => omega
  | succ m => simp [csGo, hl, csStep, hf]
theorem csAt_step (zs : List Int) (f n : Nat) (R : Option (List Int)) (l : List Int) (k : Nat) (h : CsAt zs f n R l k) (hl : l.length < n)
    (hf : ¬ (csB zs f k = true ∨ 65535 < cs1 zs f k + csM zs f k ∨ (n : Int) - l.length ≤ csM zs f k)) (h0 : 0 ≤ csM zs f k) :
    CsAt zs f n R (l ++ ups (cs1 zs f k) ((csM zs f k).toNat + 1)) (csK zs f k) := by
  obtain ⟨hk, h1, _, m, h2, rfl⟩ := h
  cases m with
  | zero => omega
  | succ m =>
    refine ⟨moK_le _ _ _ _ (rdK_le _ _ _ _ hk), by rw [List.length_append]; omega, ?_, m, ?_, ?_⟩
    · simp only [List.length_append, ups_length]; omega
    · simp only [List.length_append, ups_length]; omega
    · simp [csGo, hl, csStep, hf]
end Go.Proofs.YtlhkaoccnpgkeaaGreat.Ch
namespace Go.Proofs.YtlhkaoccnpgkeaaGreat.Ch
open Go.RowKit
set_option linter.unusedVariables false
theorem infoInt : (Tryz.prog.info? 3).map (fun i => (i.zero, i.size, i.bytes)) = some (some (.int .i64 0), 1, 8) := by kernel_rfl
/-- Two slices of the same integers. -/
theorem same_true (a b : Value) (xs : List Int) (w : World) (ha : IsInts .i64 w a xs) (hb : IsInts .i64 w b xs) :
    Calls Tryz.prog 88 #[a, b] w fun e w' => e = .returned (.bool true) ∧ Kp [] w w' := by
  have hle := ha.le
  unfold maxLen at hle
  obtain ⟨pa, ca, rfl, hca⟩ : ∃ p c, a = .slice p xs.length c ∧ (0 < xs.length → ∃ g off, p = some ⟨g, off, none⟩ ∧ ∀ i, i < xs.length → w.cell? ⟨g, off + i, none⟩ = some (.int .i64 (xs.getD i 0))) := by
    rcases ha with ⟨⟨ad, rfl⟩, rfl⟩ | ⟨g, off, c, rfl, _, _, h⟩
    · exact ⟨_, 0, rfl, fun h => absurd h (by simp)⟩
    · exact ⟨_, c, rfl, fun _ => ⟨g, off, rfl, h⟩⟩
  obtain ⟨pb, cb, rfl, hcb⟩ : ∃ p c, b = .slice p xs.length c ∧ (0 < xs.length → ∃ g off, p = some ⟨g, off, none⟩ ∧ ∀ i, i < xs.length → w.cell? ⟨g, off + i, none⟩ = some (.int .i64 (xs.getD i 0))) := by
    rcases hb with ⟨⟨ad, rfl⟩, rfl⟩ | ⟨g, off, c, rfl, _, _, h⟩
    · exact ⟨_, 0, rfl, fun h => absurd h (by simp)⟩
    · exact ⟨_, c, rfl, fun _ => ⟨g, off, rfl, h⟩⟩
  have Ha : Hid _ := hca
  have Hb : Hid _ := hcb
  clear hca hcb ha hb
  go_enter Tryz.func88, Tryz.ntmps88
  go_wp2
  go_loopw [5] (fun i wr => ∃ j : Nat, j ≤ xs.length ∧ i = .int .i64 j ∧ Kp [] w wr) (fun i _ => xs.length - (intOf i).toNat)
  case atStart => exact ⟨0, by omega, rfl, Kp.refl _ _⟩
  case round =>
    obtain ⟨j, hj, rfl, hk⟩ := hrel
    by_cases hlt : j < xs.length
    · obtain ⟨g1, o1, rfl, h1⟩ := Ha.out (by omega)
      obtain ⟨g2, o2, rfl, h2⟩ := Hb.out (by omega)
      have c1 := hk.cell (h1 j hlt) (by simp)
      have c2 := hk.cell (h2 j hlt) (by simp)
      clear h1 h2
      generalize xs.getD j 0 = z at *
      go_wp2
      go_quiet (fail)
      go_wp2
      go_roundw
      case rel => exact ⟨j + 1, by omega, by go_num, by (repeat (first | exact Kp.refl _ _ | assumption | refine Kp.drew ?_ | refine Kp.drewN ?_ _ | refine Kp.alloc ?_ _ | (refine Kp.setCell ?_ (by first | (left; simp; done) | (right; simp; try omega)) _) | (refine Kp.trans' ?_ (by assumption) (by simp; try omega))))⟩
      case measure => simp [intOf]; omega
    · go_wp2
      go_ret
      exact ⟨rfl, hk⟩
theorem count_yes (n : Int) (h1 : 1 ≤ n) (h2 : n ≤ 65535) (w : World) : Calls Tryz.prog 57 #[.int .i64 n] w fun e w' => e = .returned (.bool true) ∧ w = w' := by
  go_enter Tryz.func57, Tryz.ntmps57
  go_wp2
  go_ret
  exact ⟨by simp, rfl⟩
theorem count_no (n : Int) (h1 : n < 1 ∨ 65535 < n) (w : World) : Calls Tryz.prog 57 #[.int .i64 n] w fun e w' => e = .returned (.bool false) ∧ w = w' := by
  by_cases h : n < 1
  · have h2 : decide (1 ≤ n) = false := by simpa using h
    go_enter Tryz.func57, Tryz.ntmps57
    go_wp2
    go_ret
    exact ⟨by simp, rfl⟩
  · go_enter Tryz.func57, Tryz.ntmps57
    go_wp2
    go_ret
    exact ⟨by simp; omega, rfl⟩
end Go.Proofs.YtlhkaoccnpgkeaaGreat.Ch
namespace Go.Proofs.YtlhkaoccnpgkeaaGreat.Ch
open Go.RowKit
set_option linter.unusedVariables false
theorem load_arg (v : Value) (n : Int) (h1 : n < 1 ∨ 65535 < n) (w : World) : Calls Tryz.prog 83 #[v, .int .i64 n] w fun e w' => e = .returned (.tuple #[.slice none 0 0, .int .i64 1]) ∧ w = w' := by
  go_enter Tryz.func83, Tryz.ntmps83
  go_wp2_with fail
  refine (count_no _ h1 _).mono ?_; rintro e w' ⟨rfl, rfl⟩
  go_wp2_with fail
  go_ret2
  exact ⟨rfl, rfl⟩
theorem int_eq {k : IntKind} {a b : Int} (h : a = b) : Value.int k a = Value.int k b := by rw [h]
/-- What a load hands back. -/
def Loaded (k : IntKind) (R : Option (List Int)) (code : Int) (w : World) (e : Ending) (w' : World) : Prop :=
  (R = none ∧ e = .returned (.tuple #[.slice none 0 0, .int .i64 code]) ∧ Kp [] w w') ∨
  (∃ l v, R = some l ∧ e = .returned (.tuple #[v, .int .i64 0]) ∧ IsInts k w' v l ∧ Kp [] w w' ∧ ∀ b, blockOf v = some b → w.heap.size ≤ b)
/-- Where a load stands in memory: the numbers so far, in a row of its own; its reader. -/
def ChSt (w wr : World) (r : Nat) (v : Value) (zs : List Int) (k : Nat) (l : List Int) (v9 : Value) : Prop :=
  wr.ownsRow (r + 1) 3 1 v9 l.length (l.map (Value.int .i64)) ∧ Rdr wr r v k false ∧ IsInts .u8 wr v zs ∧ Kp [] w wr ∧ r + 1 ≤ wr.heap.size ∧ w.heap.size = r ∧ (∀ b, blockOf v = some b → b < r)
theorem ChSt.app {w wr w2 : World} {r : Nat} {v : Value} {zs : List Int} {k : Nat} {l : List Int} {v9 v' : Value} {x : Int} {o : Obj} (h : ChSt w wr r v zs k l v9)
    (hown : w2.ownsRow (r + 1) 3 1 v' (l.length + 1) (l.map (Value.int .i64) ++ [.int .i64 x])) (hg : (wr.alloc o).grownBy w2 v9.ownBlock) : ChSt w w2 r v zs k (l ++ [x]) v' := by
  obtain ⟨h1, h2, h3, h4, h5, h6, h7⟩ := h
  have hge := own_ge h1
  have hk : Kp [] w w2 := Kp.grown (h4.alloc o) hg (fun k hk => .inr (by have := hge k hk; omega))
  have hk' : ∀ b, v9.ownBlock = some b → b ≠ r := fun b hb => by have := hge b hb; omega
  have hk2 : Kp (v9.ownBlock.toList) wr w2 := Kp.grown ((Kp.refl _ _).alloc o) hg (fun k hk => .inl (by rw [hk]; simp))
  refine ⟨by simpa using hown, h2.kp hk2 ?_, h3.kp hk2 ?_, hk, Nat.le_trans h5 hk2.size, h6, h7⟩
  · intro hm; cases hv : v9.ownBlock with
    | none => simp [hv] at hm
    | some b => simp [hv] at hm; exact hk' b hv hm.symm
  · intro s hs; cases hv : v9.ownBlock with
    | none => simp [hv] at hs
    | some b => simp [hv] at hs; subst hs; intro e; have := h7 _ e; have := hge _ hv; omega
set_option maxRecDepth 100000 in
set_option maxHeartbeats 1000000 in
theorem load_bad (v : Value) (zs : List Int) (n : Nat) (h1 : 1 ≤ n) (h2 : n ≤ 65535) (w : World) (hz : IsInts .u8 w v zs) (hb : ∀ c ∈ zs, 0 ≤ c ∧ c ≤ 255) (hv : ∀ b, blockOf v = some b → b < w.heap.size)
    (HB1 : Hid (rdB zs 0 false 1 = true)) :
    Calls Tryz.prog 83 #[v, .int .i64 n] w (Loaded .i64 none 160 w) := by
  obtain ⟨pa, ca, hva⟩ : ∃ p c, v = .slice p zs.length c := by
    rcases hz with ⟨⟨ad, rfl⟩, rfl⟩ | ⟨g, off, c, rfl, _⟩
    · exact ⟨_, 0, rfl⟩
    · exact ⟨_, c, rfl⟩
  have HB : Hid _ := hb
  have HV : Hid _ := hv
  have HVA : Hid _ := hva
  clear hb hv hva
  go_enter Tryz.func83, Tryz.ntmps83
  go_wp2_with fail
  refine (count_yes _ (by omega) (by omega) _).mono ?_; rintro e w' ⟨rfl, rfl⟩
  go_wp2_with fail
  refine (new_calls v pa zs.length ca HVA.out _).mono ?_; rintro e w1 ⟨rfl, hw1⟩
  have hr1 : Rdr w1 w.heap.size v (0 : Nat) false := by subst hw1; exact heap_alloc_new w _
  have hk1 : Kp [] w w1 := by subst hw1; (repeat (first | exact Kp.refl _ _ | assumption | refine Kp.drew ?_ | refine Kp.drewN ?_ _ | refine Kp.alloc ?_ _ | (refine Kp.setCell ?_ (by first | (left; simp; done) | (right; simp; try omega)) _) | (refine Kp.trans' ?_ (by assumption) (by simp; try omega))))
  have hne : blockOf v ≠ some w.heap.size := fun e => by have := HV.out _ e; omega
  have hsz : w.heap.size < w1.heap.size := by subst hw1; simp
  clear hw1
  have hz1 := hz.kp hk1 (by simp)
  clear hz
  generalize hr : w.heap.size = r at *
  go_wp2_with fail
  refine (u8_calls r v zs 0 false _ hr1 hz1 HB.out hne (by omega)).mono ?_; rintro e w2 ⟨rfl, hr2, hk2⟩
  rw [HB1.out] at hr2
  go_wp2_with fail
  refine (done_calls r v _ _ _ hr2).mono ?_; rintro e w' ⟨rfl, rfl⟩
  generalize rdV zs 0 false 1 = fv at *
  go_wp2_with fail
  go_ret2
  exact .inl ⟨rfl, rfl, by subst hr; (repeat (first | exact Kp.refl _ _ | assumption | refine Kp.drew ?_ | refine Kp.drewN ?_ _ | refine Kp.alloc ?_ _ | (refine Kp.setCell ?_ (by first | (left; simp; done) | (right; simp; try omega)) _) | (refine Kp.trans' ?_ (by assumption) (by simp; try omega))))⟩
set_option maxRecDepth 100000 in
set_option maxHeartbeats 1000000 in
theorem load_fmt (v : Value) (zs : List Int) (n : Nat) (h1 : 1 ≤ n) (h2 : n ≤ 65535) (w : World) (hz : IsInts .u8 w v zs) (hb : ∀ c ∈ zs, 0 ≤ c ∧ c ≤ 255) (hv : ∀ b, blockOf v = some b → b < w.heap.size)
    (HB1 : Hid (rdB zs 0 false 1 = false)) (hf : 2 < rdV zs 0 false 1) :
    Calls Tryz.prog 83 #[v, .int .i64 n] w (Loaded .i64 none 160 w) := by
  obtain ⟨pa, ca, hva⟩ : ∃ p c, v = .slice p zs.length c := by
    rcases hz with ⟨⟨ad, rfl⟩, rfl⟩ | ⟨g, off, c, rfl, _⟩
    · exact ⟨_, 0, rfl⟩
    · exact ⟨_, c, rfl⟩
  have HB : Hid _ := hb
  have HV : Hid _ := hv
  have HVA : Hid _ := hva
  clear hb hv hva
  go_enter Tryz.func83, Tryz.ntmps83
  go_wp2_with fail
  refine (count_yes _ (by omega) (by omega) _).mono ?_; rintro e w' ⟨rfl, rfl⟩
  go_wp2_with fail
  refine (new_calls v pa zs.length ca HVA.out _).mono ?_; rintro e w1 ⟨rfl, hw1⟩
  have hr1 : Rdr w1 w.heap.size v (0 : Nat) false := by subst hw1; exact heap_alloc_new w _
  have hk1 : Kp [] w w1 := by subst hw1; (repeat (first | exact Kp.refl _ _ | assumption | refine Kp.drew ?_ | refine Kp.drewN ?_ _ | refine Kp.alloc ?_ _ | (refine Kp.setCell ?_ (by first | (left; simp; done) | (right; simp; try omega)) _) | (refine Kp.trans' ?_ (by assumption) (by simp; try omega))))
  have hne : blockOf v ≠ some w.heap.size := fun e => by have := HV.out _ e; omega
  have hsz : w.heap.size < w1.heap.size := by subst hw1; simp
  clear hw1
  have hz1 := hz.kp hk1 (by simp)
  clear hz
  generalize hr : w.heap.size = r at *
  go_wp2_with fail
  refine (u8_calls r v zs 0 false _ hr1 hz1 HB.out hne (by omega)).mono ?_; rintro e w2 ⟨rfl, hr2, hk2⟩
  rw [HB1.out] at hr2
  go_wp2_with fail
  refine (done_calls r v _ _ _ hr2).mono ?_; rintro e w' ⟨rfl, rfl⟩
  generalize rdV zs 0 false 1 = fv at *
  go_wp2_with fail
  go_ret2
  exact .inl ⟨rfl, rfl, by subst hr; (repeat (first | exact Kp.refl _ _ | assumption | refine Kp.drew ?_ | refine Kp.drewN ?_ _ | refine Kp.alloc ?_ _ | (refine Kp.setCell ?_ (by first | (left; simp; done) | (right; simp; try omega)) _) | (refine Kp.trans' ?_ (by assumption) (by simp; try omega))))⟩
set_option maxRecDepth 100000 in
set_option maxHeartbeats 4000000 in
theorem load_f0 (v : Value) (zs : List Int) (n : Nat) (h1 : 1 ≤ n) (h2 : n ≤ 65535) (w : World) (hz : IsInts .u8 w v zs) (hb : ∀ c ∈ zs, 0 ≤ c ∧ c ≤ 255) (hv : ∀ b, blockOf v = some b → b < w.heap.size)
    (HB1 : Hid (rdB zs 0 false 1 = false)) (HF : Hid (rdV zs 0 false 1 = 0)) :
    Calls Tryz.prog 83 #[v, .int .i64 n] w (Loaded .i64 (csLoad zs n) 160 w) := by
  have HC : Hid (CsAt zs 0 n (csLoad zs n) [0] (rdK zs 0 false 1)) := by
    have := csAt_start zs n h1 HB1.out (by rw [HF.out]; omega)
    rw [HF.out] at this; exact this
  obtain ⟨pa, ca, hva⟩ : ∃ p c, v = .slice p zs.length c := by
    rcases hz with ⟨⟨ad, rfl⟩, rfl⟩ | ⟨g, off, c, rfl, _⟩
    · exact ⟨_, 0, rfl⟩
    · exact ⟨_, c, rfl⟩
  have HB : Hid _ := hb
  have HV : Hid _ := hv
  have HVA : Hid _ := hva
  clear hb hv hva
  go_enter Tryz.func83, Tryz.ntmps83
  go_wp2_with fail
  refine (count_yes _ (by omega) (by omega) _).mono ?_; rintro e w' ⟨rfl, rfl⟩
  go_wp2_with fail
  refine (new_calls v pa zs.length ca HVA.out _).mono ?_; rintro e w1 ⟨rfl, hw1⟩
  have hr1 : Rdr w1 w.heap.size v (0 : Nat) false := by subst hw1; exact heap_alloc_new w _
  have hk1 : Kp [] w w1 := by subst hw1; (repeat (first | exact Kp.refl _ _ | assumption | refine Kp.drew ?_ | refine Kp.drewN ?_ _ | refine Kp.alloc ?_ _ | (refine Kp.setCell ?_ (by first | (left; simp; done) | (right; simp; try omega)) _) | (refine Kp.trans' ?_ (by assumption) (by simp; try omega))))
  have hne : blockOf v ≠ some w.heap.size := fun e => by have := HV.out _ e; omega
  have hsz : w.heap.size < w1.heap.size := by subst hw1; simp
  clear hw1
  have hz1 := hz.kp hk1 (by simp)
  clear hz
  generalize hr : w.heap.size = r at *
  go_wp2_with fail
  refine (u8_calls r v zs 0 false _ hr1 hz1 HB.out hne (by omega)).mono ?_; rintro e w2 ⟨rfl, hr2, hk2⟩
  rw [HB1.out] at hr2
  go_wp2_with fail
  refine (done_calls r v _ _ _ hr2).mono ?_; rintro e w' ⟨rfl, rfl⟩
  rw [HF.out]
  generalize hk0 : rdK zs 0 false 1 = k0 at *
  go_wp2_with (go_at_call 114; go_in)
  have hst : ChSt w (w2.alloc (.cells #[.int .i64 0] 3)) r v zs k0 [0] (.slice (some ⟨w2.heap.size, 0, none⟩) 1 1) := by
    have hs2 := hk2.size
    refine ⟨own_lit w2 _ _ _ 1 1 #[.int .i64 0] rfl (by omega) (by decide) rfl, hr2.kp (S := []) (by (repeat (first | exact Kp.refl _ _ | assumption | refine Kp.drew ?_ | refine Kp.drewN ?_ _ | refine Kp.alloc ?_ _ | (refine Kp.setCell ?_ (by first | (left; simp; done) | (right; simp; try omega)) _) | (refine Kp.trans' ?_ (by assumption) (by simp; try omega))))) (by simp), hz1.kp (S := [r]) (by (repeat (first | exact Kp.refl _ _ | assumption | refine Kp.drew ?_ | refine Kp.drewN ?_ _ | refine Kp.alloc ?_ _ | (refine Kp.setCell ?_ (by first | (left; simp; done) | (right; simp; try omega)) _) | (refine Kp.trans' ?_ (by assumption) (by simp; try omega))))) (by intro s hs; simp at hs; subst hs; exact hne), by subst hr; (repeat (first | exact Kp.refl _ _ | assumption | refine Kp.drew ?_ | refine Kp.drewN ?_ _ | refine Kp.alloc ?_ _ | (refine Kp.setCell ?_ (by first | (left; simp; done) | (right; simp; try omega)) _) | (refine Kp.trans' ?_ (by assumption) (by simp; try omega)))), by simp; omega, hr, fun b hb => by have := HV.out b hb; exact this⟩
  clear hr2 hz1 hk1 hk2 hr1 hsz
  go_loopw [9, 10, 11, 12] (fun v9 _ _ _ wr => ∃ (k : Nat) (l : List Int), ChSt w wr r v zs k l v9 ∧ CsAt zs 0 n (csLoad zs n) l k) (fun v9 _ _ _ _ => n - vlen v9)
  case atStart => exact ⟨k0, [0], hst, HC.out⟩
  case round =>
    obtain ⟨k, l, hs, hc⟩ := hrel
    obtain ⟨hown, hrd, hzz, hkk, hbs, hwr, hvb⟩ := hs
    obtain ⟨p9, c9, rfl⟩ := slice_own hown
    have hkz := hc.1
    have hln := hc.2.2.1
    have HC2 : Hid _ := hc
    clear hc
    have HO : Hid _ := hown
    clear hown
    by_cases hlt : l.length < n
    · obtain ⟨q0, q1'⟩ := rdV_bounds zs k false 2 HB.out
      have q1 : rdV zs k false 2 < 65536 := by omega
      clear q1'
      go_wp2_with fail
      refine (u16_calls r v zs k false _ hrd hzz HB.out hne hkz).mono ?_; rintro e wb ⟨rfl, hrb, hka⟩
      have hzb := hzz.kp hka (by intro s hs; simp at hs; subst hs; exact hne)
      have hob := hka.row HO.out (by intro s hs e; simp at hs; subst hs; have := own_ge HO.out _ e; omega)
      go_wp2_with (go_at_call 144; go_in)
      have hkwb : Kp [r] wr wb := hka
      have hfail := csAt_fail zs 0 n _ l k HC2.out hlt
      have hstep := csAt_step zs 0 n _ l k HC2.out hlt
      rw [show csB zs 0 k = rdB zs k false 2 from rfl, show csM zs 0 k = csM zs 0 k from rfl, show cs1 zs 0 k = rdV zs k false 2 from rfl] at hfail hstep
      rw [show csK zs 0 k = rdK zs k false 2 from rfl] at hstep
      have hmor : csM zs 0 k = 0 := rfl
      generalize csM zs 0 k = mor at *
      have q2 : 0 ≤ mor := by omega
      have q3 : mor < 1 := by omega
      have q4 : Hid (mor = 0) := hmor
      clear hmor
      generalize rdK zs k false 2 = k2 at *
      generalize rdB zs k false 2 = b2 at *
      generalize rdV zs k false 2 = fst at *
      have HFA : Hid _ := hfail
      have HST : Hid _ := hstep
      clear hfail hstep
      go_wp2_with fail
      refine (done_calls r v _ _ _ hrb).mono ?_; rintro e w' ⟨rfl, rfl⟩
      cases b2
      · by_cases g1 : 65535 < fst + mor
        · have hn0 := HFA.out (.inr (.inl g1))
          exfalso; omega
        · by_cases g2 : (n : Int) - l.length ≤ mor
          · have hn0 := HFA.out (.inr (.inr g2))
            exfalso; omega
          · have hst2 : Hid _ := HST.out (by rintro (h | h | h); exact absurd h (by simp); exact g1 h; exact g2 h) q2
            have hs0 : Hid (ChSt w wb r v zs k2 l (.slice p9 l.length c9)) := ⟨hob, hrb, hzb, by subst hwr; (repeat (first | exact Kp.refl _ _ | assumption | refine Kp.drew ?_ | refine Kp.drewN ?_ _ | refine Kp.alloc ?_ _ | (refine Kp.setCell ?_ (by first | (left; simp; done) | (right; simp; try omega)) _) | (refine Kp.trans' ?_ (by assumption) (by simp; try omega)))), by have := hkwb.size; omega, hwr, hvb⟩
            have hvo : vlen (.slice p9 l.length c9) = l.length := rfl
            clear hob hrb hzb hkwb hzz hrd hkk hka hwr hvb HFA HST
            obtain rfl : mor = 0 := q4.out
            clear q3
            go_wp2_with fail
            go_loopw [9, 12] (fun v9 x wi => ∃ (j : Nat) (L : List Int), j ≤ 1 ∧ x = .int .i64 (fst + j) ∧ Hid (L = l ++ ups fst j) ∧ ChSt w wi r v zs k2 L v9) (fun _ x _ => (fst + 1 - intOf x).toNat)
            case atStart => exact ⟨0, l, by omega, by simp, by simp [Hid, ups], hs0.out⟩
            case round =>
              obtain ⟨j, L, hj, rfl, hL, hs⟩ := hrel
              have HS : Hid _ := hs
              obtain ⟨p8, c8, rfl⟩ := slice_own hs.1
              have hl8 : L.length ≤ l.length + j := by rw [hL.out, List.length_append, ups_length]; omega
              clear hs
              by_cases hlj : j ≤ 0
              · have hsr := HS.out.2.2.2.2.1
                go_wp2_with (at_builtin; refine wpList_app rfl _ _ 24 rfl (r + 1) 3 (.int .i64 0) 1 8 Tryz.underlying24 infoInt rfl (by decide) (by decide) (.slice p8 L.length c8) L.length (L.map (Value.int .i64)) rfl ?hown (.slice (some ⟨wr.heap.size, 0, none⟩) 1 1) 1 [.int .i64 (fst + j)] rfl ?hsrc ?hone ?hb1 ?hb2 ?hk)
                case hown => exact HS.out.1.alloc _
                case hsrc => exact Reads.made _ _ 1 1 [.int .i64 (fst + j)] _ rfl rfl (by decide)
                case hone => intro u hu; simp at hu; subst hu; rfl
                case hb1 => omega
                case hb2 => simp; omega
                case hk =>
                  intro v' wj hown hgr
                  have hs' : ChSt w wj r v zs k2 (L ++ [fst + j]) v' := ChSt.app HS.out hown hgr
                  clear hown hgr HS
                  go_wp2_with fail
                  go_roundw
                  case rel => exact ⟨j + 1, L ++ [fst + j], by omega, int_eq (by omega), by unfold Hid; rw [hL.out, ups_succ, List.append_assoc], hs'⟩
                  case measure => simp [intOf]; omega
              · obtain rfl : j = 1 := by omega
                have hl9 : L.length = l.length + 1 := by rw [hL.out, List.length_append, ups_length]
                have HL9 : Hid (n - L.length < n - l.length) := by unfold Hid; omega
                clear hl9
                go_wp2_with fail
                go_roundw
                case rel =>
                  repeat apply Exists.intro
                  refine ⟨⟨k2, L, HS.out, by rw [hL.out]; exact hst2.out⟩, ?_⟩
                  rfl
                case measure => exact HL9.out
      · have hn0 := HFA.out (.inl rfl)
        go_wp2_with fail
        go_ret2
        exact .inl ⟨hn0, rfl, by subst hwr; (repeat (first | exact Kp.refl _ _ | assumption | refine Kp.drew ?_ | refine Kp.drewN ?_ _ | refine Kp.alloc ?_ _ | (refine Kp.setCell ?_ (by first | (left; simp; done) | (right; simp; try omega)) _) | (refine Kp.trans' ?_ (by assumption) (by simp; try omega))))⟩
    · have hR := csAt_end zs 0 n _ l k HC2.out hlt
      have hln' : l.length = n := by omega
      have HR : Hid _ := hR
      have HL : Hid _ := hln'
      clear hR hln'
      go_wp2_with fail
      go_ret2
      exact .inr ⟨l, _, HR.out, rfl, IsInts.owned (by have := HO.out; exact this), by subst hwr; exact hkk, fun b hb => by have := own_geb HO.out b hb; omega⟩
set_option maxRecDepth 100000 in
set_option maxHeartbeats 4000000 in
theorem load_f1 (v : Value) (zs : List Int) (n : Nat) (h1 : 1 ≤ n) (h2 : n ≤ 65535) (w : World) (hz : IsInts .u8 w v zs) (hb : ∀ c ∈ zs, 0 ≤ c ∧ c ≤ 255) (hv : ∀ b, blockOf v = some b → b < w.heap.size)
    (HB1 : Hid (rdB zs 0 false 1 = false)) (HF : Hid (rdV zs 0 false 1 = 1)) :
    Calls Tryz.prog 83 #[v, .int .i64 n] w (Loaded .i64 (csLoad zs n) 160 w) := by
  have HC : Hid (CsAt zs 1 n (csLoad zs n) [0] (rdK zs 0 false 1)) := by
    have := csAt_start zs n h1 HB1.out (by rw [HF.out]; omega)
    rw [HF.out] at this; exact this
  obtain ⟨pa, ca, hva⟩ : ∃ p c, v = .slice p zs.length c := by
    rcases hz with ⟨⟨ad, rfl⟩, rfl⟩ | ⟨g, off, c, rfl, _⟩
    · exact ⟨_, 0, rfl⟩
    · exact ⟨_, c, rfl⟩
  have HB : Hid _ := hb
  have HV : Hid _ := hv
  have HVA : Hid _ := hva
  clear hb hv hva
  go_enter Tryz.func83, Tryz.ntmps83
  go_wp2_with fail
  refine (count_yes _ (by omega) (by omega) _).mono ?_; rintro e w' ⟨rfl, rfl⟩
  go_wp2_with fail
  refine (new_calls v pa zs.length ca HVA.out _).mono ?_; rintro e w1 ⟨rfl, hw1⟩
  have hr1 : Rdr w1 w.heap.size v (0 : Nat) false := by subst hw1; exact heap_alloc_new w _
  have hk1 : Kp [] w w1 := by subst hw1; (repeat (first | exact Kp.refl _ _ | assumption | refine Kp.drew ?_ | refine Kp.drewN ?_ _ | refine Kp.alloc ?_ _ | (refine Kp.setCell ?_ (by first | (left; simp; done) | (right; simp; try omega)) _) | (refine Kp.trans' ?_ (by assumption) (by simp; try omega))))
  have hne : blockOf v ≠ some w.heap.size := fun e => by have := HV.out _ e; omega
  have hsz : w.heap.size < w1.heap.size := by subst hw1; simp
  clear hw1
  have hz1 := hz.kp hk1 (by simp)
  clear hz
  generalize hr : w.heap.size = r at *
  go_wp2_with fail
  refine (u8_calls r v zs 0 false _ hr1 hz1 HB.out hne (by omega)).mono ?_; rintro e w2 ⟨rfl, hr2, hk2⟩
  rw [HB1.out] at hr2
  go_wp2_with fail
  refine (done_calls r v _ _ _ hr2).mono ?_; rintro e w' ⟨rfl, rfl⟩
  rw [HF.out]
  generalize hk0 : rdK zs 0 false 1 = k0 at *
  go_wp2_with (go_at_call 114; go_in)
  have hst : ChSt w (w2.alloc (.cells #[.int .i64 0] 3)) r v zs k0 [0] (.slice (some ⟨w2.heap.size, 0, none⟩) 1 1) := by
    have hs2 := hk2.size
    refine ⟨own_lit w2 _ _ _ 1 1 #[.int .i64 0] rfl (by omega) (by decide) rfl, hr2.kp (S := []) (by (repeat (first | exact Kp.refl _ _ | assumption | refine Kp.drew ?_ | refine Kp.drewN ?_ _ | refine Kp.alloc ?_ _ | (refine Kp.setCell ?_ (by first | (left; simp; done) | (right; simp; try omega)) _) | (refine Kp.trans' ?_ (by assumption) (by simp; try omega))))) (by simp), hz1.kp (S := [r]) (by (repeat (first | exact Kp.refl _ _ | assumption | refine Kp.drew ?_ | refine Kp.drewN ?_ _ | refine Kp.alloc ?_ _ | (refine Kp.setCell ?_ (by first | (left; simp; done) | (right; simp; try omega)) _) | (refine Kp.trans' ?_ (by assumption) (by simp; try omega))))) (by intro s hs; simp at hs; subst hs; exact hne), by subst hr; (repeat (first | exact Kp.refl _ _ | assumption | refine Kp.drew ?_ | refine Kp.drewN ?_ _ | refine Kp.alloc ?_ _ | (refine Kp.setCell ?_ (by first | (left; simp; done) | (right; simp; try omega)) _) | (refine Kp.trans' ?_ (by assumption) (by simp; try omega)))), by simp; omega, hr, fun b hb => by have := HV.out b hb; exact this⟩
  clear hr2 hz1 hk1 hk2 hr1 hsz
  go_loopw [9, 10, 11, 12] (fun v9 _ _ _ wr => ∃ (k : Nat) (l : List Int), ChSt w wr r v zs k l v9 ∧ CsAt zs 1 n (csLoad zs n) l k) (fun v9 _ _ _ _ => n - vlen v9)
  case atStart => exact ⟨k0, [0], hst, HC.out⟩
  case round =>
    obtain ⟨k, l, hs, hc⟩ := hrel
    obtain ⟨hown, hrd, hzz, hkk, hbs, hwr, hvb⟩ := hs
    obtain ⟨p9, c9, rfl⟩ := slice_own hown
    have hkz := hc.1
    have hln := hc.2.2.1
    have HC2 : Hid _ := hc
    clear hc
    have HO : Hid _ := hown
    clear hown
    by_cases hlt : l.length < n
    · obtain ⟨q0, q1'⟩ := rdV_bounds zs k false 2 HB.out
      have q1 : rdV zs k false 2 < 65536 := by omega
      clear q1'
      go_wp2_with fail
      refine (u16_calls r v zs k false _ hrd hzz HB.out hne hkz).mono ?_; rintro e wa ⟨rfl, hra, hka⟩
      have hza := hzz.kp hka (by intro s hs; simp at hs; subst hs; exact hne)
      have hoa := hka.row HO.out (by intro s hs e; simp at hs; subst hs; have := own_ge HO.out _ e; omega)
      go_wp2_with fail
      refine (u8_calls r v zs _ _ _ hra hza HB.out hne (rdK_le _ _ _ _ hkz)).mono ?_; rintro e wb ⟨rfl, hrb, hkb⟩
      have hzb := hza.kp hkb (by intro s hs; simp at hs; subst hs; exact hne)
      have hob := hkb.row hoa (by intro s hs e; simp at hs; subst hs; have := own_ge HO.out _ e; omega)
      have hkwb : Kp [r] wr wb := hka.trans hkb
      have hfail := csAt_fail zs 1 n _ l k HC2.out hlt
      have hstep := csAt_step zs 1 n _ l k HC2.out hlt
      obtain ⟨q2, q3'⟩ := rdV_bounds zs (rdK zs k false 2) (rdB zs k false 2) 1 HB.out
      have q3 : rdV zs (rdK zs k false 2) (rdB zs k false 2) 1 < 65536 := by omega
      clear q3'
      rw [show csB zs 1 k = rdB zs (rdK zs k false 2) (rdB zs k false 2) 1 from rfl, show csM zs 1 k = rdV zs (rdK zs k false 2) (rdB zs k false 2) 1 from rfl, show cs1 zs 1 k = rdV zs k false 2 from rfl] at hfail hstep
      rw [show csK zs 1 k = rdK zs (rdK zs k false 2) (rdB zs k false 2) 1 from rfl] at hstep
      generalize rdV zs (rdK zs k false 2) (rdB zs k false 2) 1 = mor at *
      generalize rdK zs (rdK zs k false 2) (rdB zs k false 2) 1 = k2 at *
      generalize rdB zs (rdK zs k false 2) (rdB zs k false 2) 1 = b2 at *
      generalize rdV zs k false 2 = fst at *
      have HFA : Hid _ := hfail
      have HST : Hid _ := hstep
      clear hfail hstep
      go_wp2_with fail
      refine (done_calls r v _ _ _ hrb).mono ?_; rintro e w' ⟨rfl, rfl⟩
      cases b2
      · by_cases g1 : 65535 < fst + mor
        · have hn0 := HFA.out (.inr (.inl g1))
          go_wp2_with fail
          go_ret2
          exact .inl ⟨hn0, rfl, by subst hwr; (repeat (first | exact Kp.refl _ _ | assumption | refine Kp.drew ?_ | refine Kp.drewN ?_ _ | refine Kp.alloc ?_ _ | (refine Kp.setCell ?_ (by first | (left; simp; done) | (right; simp; try omega)) _) | (refine Kp.trans' ?_ (by assumption) (by simp; try omega))))⟩
        · by_cases g2 : (n : Int) - l.length ≤ mor
          · have hn0 := HFA.out (.inr (.inr g2))
            go_wp2_with fail
            go_ret2
            exact .inl ⟨hn0, rfl, by subst hwr; (repeat (first | exact Kp.refl _ _ | assumption | refine Kp.drew ?_ | refine Kp.drewN ?_ _ | refine Kp.alloc ?_ _ | (refine Kp.setCell ?_ (by first | (left; simp; done) | (right; simp; try omega)) _) | (refine Kp.trans' ?_ (by assumption) (by simp; try omega))))⟩
          · have hst2 : Hid _ := HST.out (by rintro (h | h | h); exact absurd h (by simp); exact g1 h; exact g2 h) q2
            have hs0 : Hid (ChSt w wb r v zs k2 l (.slice p9 l.length c9)) := ⟨hob, hrb, hzb, by subst hwr; (repeat (first | exact Kp.refl _ _ | assumption | refine Kp.drew ?_ | refine Kp.drewN ?_ _ | refine Kp.alloc ?_ _ | (refine Kp.setCell ?_ (by first | (left; simp; done) | (right; simp; try omega)) _) | (refine Kp.trans' ?_ (by assumption) (by simp; try omega)))), by have := hkwb.size; omega, hwr, hvb⟩
            have hvo : vlen (.slice p9 l.length c9) = l.length := rfl
            clear hob hrb hzb hkwb hzz hrd hkk hka hwr hvb hza hoa hra hkb HFA HST
            obtain ⟨m, rfl⟩ : ∃ m : Nat, mor = m := ⟨mor.toNat, by omega⟩
            clear q3
            go_wp2_with fail
            go_loopw [9, 12] (fun v9 x wi => ∃ (j : Nat) (L : List Int), j ≤ m + 1 ∧ x = .int .i64 (fst + j) ∧ Hid (L = l ++ ups fst j) ∧ ChSt w wi r v zs k2 L v9) (fun _ x _ => (fst + m + 1 - intOf x).toNat)
            case atStart => exact ⟨0, l, by omega, by simp, by simp [Hid, ups], hs0.out⟩
            case round =>
              obtain ⟨j, L, hj, rfl, hL, hs⟩ := hrel
              have HS : Hid _ := hs
              obtain ⟨p8, c8, rfl⟩ := slice_own hs.1
              have hl8 : L.length ≤ l.length + j := by rw [hL.out, List.length_append, ups_length]; omega
              clear hs
              by_cases hlj : j ≤ m
              · have hsr := HS.out.2.2.2.2.1
                go_wp2_with (at_builtin; refine wpList_app rfl _ _ 24 rfl (r + 1) 3 (.int .i64 0) 1 8 Tryz.underlying24 infoInt rfl (by decide) (by decide) (.slice p8 L.length c8) L.length (L.map (Value.int .i64)) rfl ?hown (.slice (some ⟨wr.heap.size, 0, none⟩) 1 1) 1 [.int .i64 (fst + j)] rfl ?hsrc ?hone ?hb1 ?hb2 ?hk)
                case hown => exact HS.out.1.alloc _
                case hsrc => exact Reads.made _ _ 1 1 [.int .i64 (fst + j)] _ rfl rfl (by decide)
                case hone => intro u hu; simp at hu; subst hu; rfl
                case hb1 => omega
                case hb2 => simp; omega
                case hk =>
                  intro v' wj hown hgr
                  have hs' : ChSt w wj r v zs k2 (L ++ [fst + j]) v' := ChSt.app HS.out hown hgr
                  clear hown hgr HS
                  go_wp2_with fail
                  go_roundw
                  case rel => exact ⟨j + 1, L ++ [fst + j], by omega, int_eq (by omega), by unfold Hid; rw [hL.out, ups_succ, List.append_assoc], hs'⟩
                  case measure => simp [intOf]; omega
              · obtain rfl : j = m + 1 := by omega
                have hl9 : L.length = l.length + (m + 1) := by rw [hL.out, List.length_append, ups_length]
                have HL9 : Hid (n - L.length < n - l.length) := by unfold Hid; omega
                clear hl9
                go_wp2_with fail
                go_roundw
                case rel =>
                  repeat apply Exists.intro
                  refine ⟨⟨k2, L, HS.out, by have := hst2.out; rw [Int.toNat_natCast] at this; rw [hL.out]; exact this⟩, ?_⟩
                  rfl
                case measure => exact HL9.out
      · have hn0 := HFA.out (.inl rfl)
        go_wp2_with fail
        go_ret2
        exact .inl ⟨hn0, rfl, by subst hwr; (repeat (first | exact Kp.refl _ _ | assumption | refine Kp.drew ?_ | refine Kp.drewN ?_ _ | refine Kp.alloc ?_ _ | (refine Kp.setCell ?_ (by first | (left; simp; done) | (right; simp; try omega)) _) | (refine Kp.trans' ?_ (by assumption) (by simp; try omega))))⟩
    · have hR := csAt_end zs 1 n _ l k HC2.out hlt
      have hln' : l.length = n := by omega
      have HR : Hid _ := hR
      have HL : Hid _ := hln'
      clear hR hln'
      go_wp2_with fail
      go_ret2
      exact .inr ⟨l, _, HR.out, rfl, IsInts.owned (by have := HO.out; exact this), by subst hwr; exact hkk, fun b hb => by have := own_geb HO.out b hb; omega⟩
set_option maxRecDepth 100000 in
set_option maxHeartbeats 4000000 in
theorem load_f2 (v : Value) (zs : List Int) (n : Nat) (h1 : 1 ≤ n) (h2 : n ≤ 65535) (w : World) (hz : IsInts .u8 w v zs) (hb : ∀ c ∈ zs, 0 ≤ c ∧ c ≤ 255) (hv : ∀ b, blockOf v = some b → b < w.heap.size)
    (HB1 : Hid (rdB zs 0 false 1 = false)) (HF : Hid (rdV zs 0 false 1 = 2)) :
    Calls Tryz.prog 83 #[v, .int .i64 n] w (Loaded .i64 (csLoad zs n) 160 w) := by
  have HC : Hid (CsAt zs 2 n (csLoad zs n) [0] (rdK zs 0 false 1)) := by
    have := csAt_start zs n h1 HB1.out (by rw [HF.out]; omega)
    rw [HF.out] at this; exact this
  obtain ⟨pa, ca, hva⟩ : ∃ p c, v = .slice p zs.length c := by
    rcases hz with ⟨⟨ad, rfl⟩, rfl⟩ | ⟨g, off, c, rfl, _⟩
    · exact ⟨_, 0, rfl⟩
    · exact ⟨_, c, rfl⟩
  have HB : Hid _ := hb
  have HV : Hid _ := hv
  have HVA : Hid _ := hva
  clear hb hv hva
  go_enter Tryz.func83, Tryz.ntmps83
  go_wp2_with fail
  refine (count_yes _ (by omega) (by omega) _).mono ?_; rintro e w' ⟨rfl, rfl⟩
  go_wp2_with fail
  refine (new_calls v pa zs.length ca HVA.out _).mono ?_; rintro e w1 ⟨rfl, hw1⟩
  have hr1 : Rdr w1 w.heap.size v (0 : Nat) false := by subst hw1; exact heap_alloc_new w _
  have hk1 : Kp [] w w1 := by subst hw1; (repeat (first | exact Kp.refl _ _ | assumption | refine Kp.drew ?_ | refine Kp.drewN ?_ _ | refine Kp.alloc ?_ _ | (refine Kp.setCell ?_ (by first | (left; simp; done) | (right; simp; try omega)) _) | (refine Kp.trans' ?_ (by assumption) (by simp; try omega))))
  have hne : blockOf v ≠ some w.heap.size := fun e => by have := HV.out _ e; omega
  have hsz : w.heap.size < w1.heap.size := by subst hw1; simp
  clear hw1
  have hz1 := hz.kp hk1 (by simp)
  clear hz
  generalize hr : w.heap.size = r at *
  go_wp2_with fail
  refine (u8_calls r v zs 0 false _ hr1 hz1 HB.out hne (by omega)).mono ?_; rintro e w2 ⟨rfl, hr2, hk2⟩
  rw [HB1.out] at hr2
  go_wp2_with fail
  refine (done_calls r v _ _ _ hr2).mono ?_; rintro e w' ⟨rfl, rfl⟩
  rw [HF.out]
  generalize hk0 : rdK zs 0 false 1 = k0 at *
  go_wp2_with (go_at_call 114; go_in)
  have hst : ChSt w (w2.alloc (.cells #[.int .i64 0] 3)) r v zs k0 [0] (.slice (some ⟨w2.heap.size, 0, none⟩) 1 1) := by
    have hs2 := hk2.size
    refine ⟨own_lit w2 _ _ _ 1 1 #[.int .i64 0] rfl (by omega) (by decide) rfl, hr2.kp (S := []) (by (repeat (first | exact Kp.refl _ _ | assumption | refine Kp.drew ?_ | refine Kp.drewN ?_ _ | refine Kp.alloc ?_ _ | (refine Kp.setCell ?_ (by first | (left; simp; done) | (right; simp; try omega)) _) | (refine Kp.trans' ?_ (by assumption) (by simp; try omega))))) (by simp), hz1.kp (S := [r]) (by (repeat (first | exact Kp.refl _ _ | assumption | refine Kp.drew ?_ | refine Kp.drewN ?_ _ | refine Kp.alloc ?_ _ | (refine Kp.setCell ?_ (by first | (left; simp; done) | (right; simp; try omega)) _) | (refine Kp.trans' ?_ (by assumption) (by simp; try omega))))) (by intro s hs; simp at hs; subst hs; exact hne), by subst hr; (repeat (first | exact Kp.refl _ _ | assumption | refine Kp.drew ?_ | refine Kp.drewN ?_ _ | refine Kp.alloc ?_ _ | (refine Kp.setCell ?_ (by first | (left; simp; done) | (right; simp; try omega)) _) | (refine Kp.trans' ?_ (by assumption) (by simp; try omega)))), by simp; omega, hr, fun b hb => by have := HV.out b hb; exact this⟩
  clear hr2 hz1 hk1 hk2 hr1 hsz
  go_loopw [9, 10, 11, 12] (fun v9 _ _ _ wr => ∃ (k : Nat) (l : List Int), ChSt w wr r v zs k l v9 ∧ CsAt zs 2 n (csLoad zs n) l k) (fun v9 _ _ _ _ => n - vlen v9)
  case atStart => exact ⟨k0, [0], hst, HC.out⟩
  case round =>
    obtain ⟨k, l, hs, hc⟩ := hrel
    obtain ⟨hown, hrd, hzz, hkk, hbs, hwr, hvb⟩ := hs
    obtain ⟨p9, c9, rfl⟩ := slice_own hown
    have hkz := hc.1
    have hln := hc.2.2.1
    have HC2 : Hid _ := hc
    clear hc
    have HO : Hid _ := hown
    clear hown
    by_cases hlt : l.length < n
    · obtain ⟨q0, q1'⟩ := rdV_bounds zs k false 2 HB.out
      have q1 : rdV zs k false 2 < 65536 := by omega
      clear q1'
      go_wp2_with fail
      refine (u16_calls r v zs k false _ hrd hzz HB.out hne hkz).mono ?_; rintro e wa ⟨rfl, hra, hka⟩
      have hza := hzz.kp hka (by intro s hs; simp at hs; subst hs; exact hne)
      have hoa := hka.row HO.out (by intro s hs e; simp at hs; subst hs; have := own_ge HO.out _ e; omega)
      go_wp2_with fail
      refine (u16_calls r v zs _ _ _ hra hza HB.out hne (rdK_le _ _ _ _ hkz)).mono ?_; rintro e wb ⟨rfl, hrb, hkb⟩
      have hzb := hza.kp hkb (by intro s hs; simp at hs; subst hs; exact hne)
      have hob := hkb.row hoa (by intro s hs e; simp at hs; subst hs; have := own_ge HO.out _ e; omega)
      have hkwb : Kp [r] wr wb := hka.trans hkb
      have hfail := csAt_fail zs 2 n _ l k HC2.out hlt
      have hstep := csAt_step zs 2 n _ l k HC2.out hlt
      obtain ⟨q2, q3'⟩ := rdV_bounds zs (rdK zs k false 2) (rdB zs k false 2) 2 HB.out
      have q3 : rdV zs (rdK zs k false 2) (rdB zs k false 2) 2 < 65536 := by omega
      clear q3'
      rw [show csB zs 2 k = rdB zs (rdK zs k false 2) (rdB zs k false 2) 2 from rfl, show csM zs 2 k = rdV zs (rdK zs k false 2) (rdB zs k false 2) 2 from rfl, show cs1 zs 2 k = rdV zs k false 2 from rfl] at hfail hstep
      rw [show csK zs 2 k = rdK zs (rdK zs k false 2) (rdB zs k false 2) 2 from rfl] at hstep
      generalize rdV zs (rdK zs k false 2) (rdB zs k false 2) 2 = mor at *
      generalize rdK zs (rdK zs k false 2) (rdB zs k false 2) 2 = k2 at *
      generalize rdB zs (rdK zs k false 2) (rdB zs k false 2) 2 = b2 at *
      generalize rdV zs k false 2 = fst at *
      have HFA : Hid _ := hfail
      have HST : Hid _ := hstep
      clear hfail hstep
      go_wp2_with fail
      refine (done_calls r v _ _ _ hrb).mono ?_; rintro e w' ⟨rfl, rfl⟩
      cases b2
      · by_cases g1 : 65535 < fst + mor
        · have hn0 := HFA.out (.inr (.inl g1))
          go_wp2_with fail
          go_ret2
          exact .inl ⟨hn0, rfl, by subst hwr; (repeat (first | exact Kp.refl _ _ | assumption | refine Kp.drew ?_ | refine Kp.drewN ?_ _ | refine Kp.alloc ?_ _ | (refine Kp.setCell ?_ (by first | (left; simp; done) | (right; simp; try omega)) _) | (refine Kp.trans' ?_ (by assumption) (by simp; try omega))))⟩
        · by_cases g2 : (n : Int) - l.length ≤ mor
          · have hn0 := HFA.out (.inr (.inr g2))
            go_wp2_with fail
            go_ret2
            exact .inl ⟨hn0, rfl, by subst hwr; (repeat (first | exact Kp.refl _ _ | assumption | refine Kp.drew ?_ | refine Kp.drewN ?_ _ | refine Kp.alloc ?_ _ | (refine Kp.setCell ?_ (by first | (left; simp; done) | (right; simp; try omega)) _) | (refine Kp.trans' ?_ (by assumption) (by simp; try omega))))⟩
          · have hst2 : Hid _ := HST.out (by rintro (h | h | h); exact absurd h (by simp); exact g1 h; exact g2 h) q2
            have hs0 : Hid (ChSt w wb r v zs k2 l (.slice p9 l.length c9)) := ⟨hob, hrb, hzb, by subst hwr; (repeat (first | exact Kp.refl _ _ | assumption | refine Kp.drew ?_ | refine Kp.drewN ?_ _ | refine Kp.alloc ?_ _ | (refine Kp.setCell ?_ (by first | (left; simp; done) | (right; simp; try omega)) _) | (refine Kp.trans' ?_ (by assumption) (by simp; try omega)))), by have := hkwb.size; omega, hwr, hvb⟩
            have hvo : vlen (.slice p9 l.length c9) = l.length := rfl
            clear hob hrb hzb hkwb hzz hrd hkk hka hwr hvb hza hoa hra hkb HFA HST
            obtain ⟨m, rfl⟩ : ∃ m : Nat, mor = m := ⟨mor.toNat, by omega⟩
            clear q3
            go_wp2_with fail
            go_loopw [9, 12] (fun v9 x wi => ∃ (j : Nat) (L : List Int), j ≤ m + 1 ∧ x = .int .i64 (fst + j) ∧ Hid (L = l ++ ups fst j) ∧ ChSt w wi r v zs k2 L v9) (fun _ x _ => (fst + m + 1 - intOf x).toNat)
            case atStart => exact ⟨0, l, by omega, by simp, by simp [Hid, ups], hs0.out⟩
            case round =>
              obtain ⟨j, L, hj, rfl, hL, hs⟩ := hrel
              have HS : Hid _ := hs
              obtain ⟨p8, c8, rfl⟩ := slice_own hs.1
              have hl8 : L.length ≤ l.length + j := by rw [hL.out, List.length_append, ups_length]; omega
              clear hs
              by_cases hlj : j ≤ m
              · have hsr := HS.out.2.2.2.2.1
                go_wp2_with (at_builtin; refine wpList_app rfl _ _ 24 rfl (r + 1) 3 (.int .i64 0) 1 8 Tryz.underlying24 infoInt rfl (by decide) (by decide) (.slice p8 L.length c8) L.length (L.map (Value.int .i64)) rfl ?hown (.slice (some ⟨wr.heap.size, 0, none⟩) 1 1) 1 [.int .i64 (fst + j)] rfl ?hsrc ?hone ?hb1 ?hb2 ?hk)
                case hown => exact HS.out.1.alloc _
                case hsrc => exact Reads.made _ _ 1 1 [.int .i64 (fst + j)] _ rfl rfl (by decide)
                case hone => intro u hu; simp at hu; subst hu; rfl
                case hb1 => omega
                case hb2 => simp; omega
                case hk =>
                  intro v' wj hown hgr
                  have hs' : ChSt w wj r v zs k2 (L ++ [fst + j]) v' := ChSt.app HS.out hown hgr
                  clear hown hgr HS
                  go_wp2_with fail
                  go_roundw
                  case rel => exact ⟨j + 1, L ++ [fst + j], by omega, int_eq (by omega), by unfold Hid; rw [hL.out, ups_succ, List.append_assoc], hs'⟩
                  case measure => simp [intOf]; omega
              · obtain rfl : j = m + 1 := by omega
                have hl9 : L.length = l.length + (m + 1) := by rw [hL.out, List.length_append, ups_length]
                have HL9 : Hid (n - L.length < n - l.length) := by unfold Hid; omega
                clear hl9
                go_wp2_with fail
                go_roundw
                case rel =>
                  repeat apply Exists.intro
                  refine ⟨⟨k2, L, HS.out, by have := hst2.out; rw [Int.toNat_natCast] at this; rw [hL.out]; exact this⟩, ?_⟩
                  rfl
                case measure => exact HL9.out
      · have hn0 := HFA.out (.inl rfl)
        go_wp2_with fail
        go_ret2
        exact .inl ⟨hn0, rfl, by subst hwr; (repeat (first | exact Kp.refl _ _ | assumption | refine Kp.drew ?_ | refine Kp.drewN ?_ _ | refine Kp.alloc ?_ _ | (refine Kp.setCell ?_ (by first | (left; simp; done) | (right; simp; try omega)) _) | (refine Kp.trans' ?_ (by assumption) (by simp; try omega))))⟩
    · have hR := csAt_end zs 2 n _ l k HC2.out hlt
      have hln' : l.length = n := by omega
      have HR : Hid _ := hR
      have HL : Hid _ := hln'
      clear hR hln'
      go_wp2_with fail
      go_ret2
      exact .inr ⟨l, _, HR.out, rfl, IsInts.owned (by have := HO.out; exact this), by subst hwr; exact hkk, fun b hb => by have := own_geb HO.out b hb; omega⟩
theorem load_calls (v : Value) (zs : List Int) (n : Nat) (h1 : 1 ≤ n) (h2 : n ≤ 65535) (w : World) (hz : IsInts .u8 w v zs) (hb : ∀ c ∈ zs, 0 ≤ c ∧ c ≤ 255) (hv : ∀ b, blockOf v = some b → b < w.heap.size) :
    Calls Tryz.prog 83 #[v, .int .i64 n] w (Loaded .i64 (csLoad zs n) 160 w) := by
  cases hb1 : rdB zs 0 false 1
  · by_cases hf : 2 < rdV zs 0 false 1
    · rw [show csLoad zs n = none by unfold csLoad; rw [if_pos (.inr hf)]]
      exact load_fmt v zs n h1 h2 w hz hb hv hb1 hf
    · obtain ⟨q0, q1⟩ := rdV_bounds zs 0 false 1 hb
      rcases (show rdV zs 0 false 1 = 0 ∨ rdV zs 0 false 1 = 1 ∨ rdV zs 0 false 1 = 2 by omega) with h | h | h
      · exact load_f0 v zs n h1 h2 w hz hb hv hb1 h
      · exact load_f1 v zs n h1 h2 w hz hb hv hb1 h
      · exact load_f2 v zs n h1 h2 w hz hb hv hb1 h
  · rw [show csLoad zs n = none by unfold csLoad; rw [if_pos (.inl hb1)]]
    exact load_bad v zs n h1 h2 w hz hb hv hb1
end Go.Proofs.YtlhkaoccnpgkeaaGreat.Ch
namespace Go.Proofs.YtlhkaoccnpgkeaaGreat.Ch
open Go.RowKit
set_option linter.unusedVariables false
/-- The first place of x in a list, counted from i; -1: there is none. -/
def firstFrom (x : Int) : List Int → Nat → Int
  | [], _ => -1
  | a :: l, i => if a = x then i else firstFrom x l (i + 1)
theorem firstFrom_hit (x : Int) (xs : List Int) (j : Nat) (h : j < xs.length) (he : xs.getD j 0 = x) : firstFrom x (xs.drop j) j = j := by
  rw [List.drop_eq_getElem_cons h]
  rw [List.getD_eq_getElem?_getD, List.getElem?_eq_getElem h] at he
  exact if_pos he
theorem firstFrom_miss (x : Int) (xs : List Int) (j : Nat) (h : j < xs.length) (he : ¬ xs.getD j 0 = x) : firstFrom x (xs.drop j) j = firstFrom x (xs.drop (j + 1)) (j + 1) := by
  rw [List.drop_eq_getElem_cons h]
  rw [List.getD_eq_getElem?_getD, List.getElem?_eq_getElem h] at he
  exact if_neg he
theorem firstFrom_ge (x : Int) : ∀ (l : List Int) (i : Nat), -1 ≤ firstFrom x l i ∧ firstFrom x l i < (i : Int) + l.length ∨ firstFrom x l i = -1 := by
  intro l
  induction l with
  | nil => intro i; right; rfl
  | cons a l ih =>
    intro i
    unfold firstFrom
    split
    · left; simp; omega
    · rcases ih (i + 1) with h | h
      · left; simp; omega
      · right; exact h
def findV (x : Int) : Int := if 0 ≤ x then x else 0
def findE (x : Int) : Int := if 0 ≤ x then 0 else 4
end Go.Proofs.YtlhkaoccnpgkeaaGreat.Ch
namespace Go.Proofs.YtlhkaoccnpgkeaaGreat.Ch
open Go.RowKit
set_option linter.unusedVariables false
/-- The first place whose number is so, counted from i; -1: there is none. -/
def posFrom (p : Int → Bool) : List Int → Nat → Int
  | [], _ => -1
  | a :: l, i => if p a then i else posFrom p l (i + 1)
theorem posFrom_hit (p : Int → Bool) (xs : List Int) (j : Nat) (h : j < xs.length) (he : p (xs.getD j 0) = true) : posFrom p (xs.drop j) j = j := by
  rw [List.drop_eq_getElem_cons h]
  rw [List.getD_eq_getElem?_getD, List.getElem?_eq_getElem h] at he
  exact if_pos he
theorem posFrom_miss (p : Int → Bool) (xs : List Int) (j : Nat) (h : j < xs.length) (he : p (xs.getD j 0) = false) : posFrom p (xs.drop j) j = posFrom p (xs.drop (j + 1)) (j + 1) := by
  rw [List.drop_eq_getElem_cons h]
  rw [List.getD_eq_getElem?_getD, List.getElem?_eq_getElem h] at he
  exact if_neg (by simpa using he)
theorem posFrom_any (p : Int → Bool) : ∀ (l : List Int) (i : Nat), decide (0 ≤ posFrom p l i) = l.any p := by
  intro l
  induction l with
  | nil => intro i; rfl
  | cons a l ih =>
    intro i
    unfold posFrom
    cases h : p a
    · simp [h, ih]
    · simp [h]
theorem indexFunc_calls (k : Nat) (hent : ∀ (args : Array Value) (w : World), (callFunc k args).run Tryz.prog w = .ok (.enter k args) w) (cap : Value) (p : Int → Bool) (v : Value) (xs : List Int) (w : World) (hv : IsInts .i64 w v xs)
    (hp : ∀ i, i < xs.length → ∀ wr, Kp [] w wr → Calls Tryz.prog k #[.int .i64 (xs.getD i 0), cap] wr fun e w' => e = .returned (.bool (p (xs.getD i 0))) ∧ Kp [] wr w') :
    Calls Tryz.prog 97 #[v, .func (.func k) #[] #[cap]] w fun e w' => e = .returned (.int .i64 (posFrom p xs 0)) ∧ Kp [] w w' := by
  have hle := hv.le
  unfold maxLen at hle
  obtain ⟨pa, ca, rfl, hca⟩ : ∃ p c, v = .slice p xs.length c ∧ (0 < xs.length → ∃ g off, p = some ⟨g, off, none⟩ ∧ ∀ i, i < xs.length → w.cell? ⟨g, off + i, none⟩ = some (.int .i64 (xs.getD i 0))) := by
    rcases hv with ⟨⟨ad, rfl⟩, rfl⟩ | ⟨g, off, c, rfl, _, _, h⟩
    · exact ⟨_, 0, rfl, fun h => absurd h (by simp)⟩
    · exact ⟨_, c, rfl, fun _ => ⟨g, off, rfl, h⟩⟩
  have Ha : Hid _ := hca
  have HP : Hid _ := hp
  clear hca hv hp
  go_enter Tryz.func97, Tryz.ntmps97
  go_wp2_with fail
  go_loopw [5, 8] (fun _ i wr => ∃ j : Nat, j ≤ xs.length ∧ i = .int .i64 j ∧ Hid (posFrom p (xs.drop j) j = posFrom p xs 0) ∧ Kp [] w wr) (fun _ i _ => xs.length - (intOf i).toNat)
  case atStart => exact ⟨0, by omega, rfl, by simp [Hid], Kp.refl _ _⟩
  case round =>
    obtain ⟨j, hj, rfl, hf, hk⟩ := hrel
    by_cases hlt : j < xs.length
    · obtain ⟨g1, o1, rfl, h1⟩ := Ha.out (by omega)
      have c1 := hk.cell (h1 j hlt) (by simp)
      clear h1
      have hcl := Lib.hid (HP.out j hlt wr hk)
      cases he : p (xs.getD j 0)
      · have hr : Hid (posFrom p (xs.drop (j + 1)) (j + 1) = posFrom p xs 0) := by rw [← hf.out]; exact (posFrom_miss p xs j hlt he).symm
        rw [he] at hcl
        clear he
        generalize xs.getD j 0 = z at *
        go_wp2_with fail
        refine Calls.mono hcl.out ?_; rintro e w2 ⟨rfl, hk2⟩
        go_wp2_with fail
        go_roundw
        case rel => exact ⟨j + 1, by omega, by go_num, hr, by (repeat (first | exact Kp.refl _ _ | assumption | refine Kp.drew ?_ | refine Kp.drewN ?_ _ | refine Kp.alloc ?_ _ | (refine Kp.setCell ?_ (by first | (left; simp; done) | (right; simp; try omega)) _) | (refine Kp.trans' ?_ (by assumption) (by simp; try omega))))⟩
        case measure => simp [intOf]; omega
      · have hr : Hid (posFrom p xs 0 = j) := by rw [← hf.out]; exact posFrom_hit p xs j hlt he
        rw [he] at hcl
        clear he
        generalize xs.getD j 0 = z at *
        go_wp2_with fail
        refine Calls.mono hcl.out ?_; rintro e w2 ⟨rfl, hk2⟩
        go_wp2_with fail
        go_ret
        exact ⟨by rw [hr.out]; simp, by (repeat (first | exact Kp.refl _ _ | assumption | refine Kp.drew ?_ | refine Kp.drewN ?_ _ | refine Kp.alloc ?_ _ | (refine Kp.setCell ?_ (by first | (left; simp; done) | (right; simp; try omega)) _) | (refine Kp.trans' ?_ (by assumption) (by simp; try omega))))⟩
    · obtain rfl : j = xs.length := by omega
      have hr : Hid (posFrom p xs 0 = -1) := by rw [← hf.out, List.drop_length]; rfl
      go_wp2
      go_ret
      exact ⟨by rw [hr.out]; simp, hk⟩
theorem containsFunc_calls (k : Nat) (hent : ∀ (args : Array Value) (w : World), (callFunc k args).run Tryz.prog w = .ok (.enter k args) w) (cap : Value) (p : Int → Bool) (v : Value) (xs : List Int) (w : World) (hv : IsInts .i64 w v xs)
    (hp : ∀ i, i < xs.length → ∀ wr, Kp [] w wr → Calls Tryz.prog k #[.int .i64 (xs.getD i 0), cap] wr fun e w' => e = .returned (.bool (p (xs.getD i 0))) ∧ Kp [] wr w') :
    Calls Tryz.prog 55 #[v, .func (.func k) #[] #[cap]] w fun e w' => e = .returned (.bool (xs.any p)) ∧ Kp [] w w' := by
  have hf := Lib.hid (indexFunc_calls k hent cap p v xs w hv hp)
  have ha := Lib.hid (posFrom_any p xs 0)
  clear hp hv
  go_enter Tryz.func55, Tryz.ntmps55
  go_wp2_with fail
  refine Calls.mono hf.out ?_; rintro e w1 ⟨rfl, hk⟩
  have hb := Lib.hid ha.out
  clear hf ha
  generalize posFrom p xs 0 = x at *
  go_wp2_with fail
  go_ret
  exact ⟨by rw [← hb.out]; simp, hk⟩
/-- From 0 up to one. -/
def inB (most x : Int) : Bool := decide (0 ≤ x) && decide (x ≤ most)
theorem within1_calls (most x : Int) (b : Nat) (w : World) (h : w.cell? ⟨b, 0, none⟩ = some (.int .i64 most)) :
    Calls Tryz.prog 99 #[.int .i64 x, .pointer (some ⟨b, 0, none⟩)] w fun e w' => e = .returned (.bool (!inB most x)) ∧ Kp [] w w' := by
  by_cases h1 : x < 0
  · have e : Hid (inB most x = false) := by unfold Hid inB; simp; omega
    go_enter Tryz.func99, Tryz.ntmps99
    go_wp2
    go_ret
    exact ⟨by rw [e.out]; simp, Kp.refl _ _⟩
  · have h2 : decide (x < 0) = false := by simpa using h1
    have e : Hid ((!inB most x) = decide (most < x)) := by unfold Hid inB; by_cases h3 : most < x <;> simp [h3] <;> omega
    go_enter Tryz.func99, Tryz.ntmps99
    go_wp2
    go_ret
    exact ⟨by rw [e.out]; simp, Kp.refl _ _⟩
theorem within_calls (v : Value) (xs : List Int) (most : Int) (w : World) (hv : IsInts .i64 w v xs) :
    Calls Tryz.prog 58 #[v, .int .i64 most] w fun e w' => e = .returned (.bool (xs.all (inB most))) ∧ Kp [] w w' := by
  have ha : Hid ((!(xs.any fun x => !inB most x)) = xs.all (inB most)) := by unfold Hid; rw [List.not_any_eq_all_not]; simp
  have hk1 : Kp [] w (w.alloc (.cells #[.int .i64 most] 3)) := (Kp.refl _ _).alloc _
  have hc := Lib.hid (containsFunc_calls 99 Tryz.call99 (.pointer (some ⟨w.heap.size, 0, none⟩)) (fun x => !inB most x) v xs _ (hv.kp hk1 (by simp)) (fun i hi wr hk => within1_calls most _ _ wr (hk.cell (by go_simp) (by simp))))
  obtain ⟨p, n, c, rfl⟩ : ∃ p n c, v = .slice p n c := by
    rcases hv with ⟨⟨ad, rfl⟩, rfl⟩ | ⟨g, off, c, rfl, _⟩
    · exact ⟨_, _, _, rfl⟩
    · exact ⟨_, _, _, rfl⟩
  clear hv
  go_enter Tryz.func58, Tryz.ntmps58
  go_wp2_with fail
  refine Calls.mono hc.out ?_; rintro e w1 ⟨rfl, hk⟩
  go_wp2_with fail
  go_ret
  exact ⟨by rw [← ha.out]; simp, hk1.trans hk⟩
end Go.Proofs.YtlhkaoccnpgkeaaGreat.Ch
namespace Go.Proofs.YtlhkaoccnpgkeaaGreat.Ch
open Go.RowKit
set_option linter.unusedVariables false
/-- How far a run goes: from n on, at most so many, as long as p says yes ('fuel': how many there are behind n). -/
def runGo (p : Nat → Bool) (most : Int) : Nat → Nat → Nat
  | 0, n => n
  | f + 1, n => if (n : Int) ≤ most ∧ p n = true then runGo p most f (n + 1) else n
theorem runGo_le (p : Nat → Bool) (most : Int) : ∀ (f n : Nat), n ≤ runGo p most f n ∧ runGo p most f n ≤ n + f := by
  intro f
  induction f with
  | zero => intro n; exact ⟨Nat.le_refl _, Nat.le_refl _⟩
  | succ f ih =>
    intro n
    unfold runGo
    split
    · have := ih (n + 1); omega
    · omega
theorem run_calls (k : Nat) (hent : ∀ (args : Array Value) (w : World), (callFunc k args).run Tryz.prog w = .ok (.enter k args) w) (cap : Value) (p : Nat → Bool) (most : Int) (a : Option Addr) (N c : Nat) (hN : N ≤ 65535) (h1 : 1 ≤ N) (w : World)
    (hp : ∀ i, 1 ≤ i → i < N → ∀ wr, Kp [] w wr → Calls Tryz.prog k #[.int .i64 (i : Nat), cap] wr fun e w' => e = .returned (.bool (p i)) ∧ Kp [] wr w') :
    Calls Tryz.prog 59 #[.slice a N c, .int .i64 most, .func (.func k) #[] #[cap]] w fun e w' => e = .returned (.int .i64 (runGo p most (N - 1) 1 : Nat)) ∧ Kp [] w w' := by
  have HP := Lib.hid hp
  clear hp
  go_enter Tryz.func59, Tryz.ntmps59
  go_wp2_with fail
  go_loopw [7] (fun i wr => ∃ j : Nat, 1 ≤ j ∧ j ≤ N ∧ i = .int .i64 j ∧ Hid (runGo p most (N - j) j = runGo p most (N - 1) 1) ∧ Kp [] w wr) (fun i _ => N - (intOf i).toNat)
  case atStart => exact ⟨1, by omega, by omega, rfl, rfl, Kp.refl _ _⟩
  case round =>
    obtain ⟨j, hj1, hj, rfl, hf, hk⟩ := hrel
    by_cases hlt : j < N
    · have hlt' : decide (j < N) = true := by simpa using hlt
      have e1 : N - j = (N - (j + 1)) + 1 := by omega
      have hf2 := hf.out
      rw [e1] at hf2
      clear e1 hf
      by_cases hm : (j : Int) ≤ most
      · have hcl := Lib.hid (HP.out j hj1 hlt wr hk)
        cases he : p j
        · have hr : Hid (runGo p most (N - 1) 1 = j) := by rw [← hf2]; unfold runGo; rw [if_neg (by simp [he])]; rfl
          rw [he] at hcl
          clear he hf2
          go_wp2_with fail
          refine Calls.mono hcl.out ?_; rintro e w2 ⟨rfl, hk2⟩
          go_wp2_with fail
          go_ret
          exact ⟨by rw [hr.out]; simp, by (repeat (first | exact Kp.refl _ _ | assumption | refine Kp.drew ?_ | refine Kp.drewN ?_ _ | refine Kp.alloc ?_ _ | (refine Kp.setCell ?_ (by first | (left; simp; done) | (right; simp; try omega)) _) | (refine Kp.trans' ?_ (by assumption) (by simp; try omega))))⟩
        · have hr : Hid (runGo p most (N - (j + 1)) (j + 1) = runGo p most (N - 1) 1) := by rw [← hf2]; exact (if_pos ⟨hm, he⟩).symm
          rw [he] at hcl
          clear he hf2
          go_wp2_with fail
          refine Calls.mono hcl.out ?_; rintro e w2 ⟨rfl, hk2⟩
          go_wp2_with fail
          go_roundw
          case rel => exact ⟨j + 1, by omega, by omega, by go_num, hr, by (repeat (first | exact Kp.refl _ _ | assumption | refine Kp.drew ?_ | refine Kp.drewN ?_ _ | refine Kp.alloc ?_ _ | (refine Kp.setCell ?_ (by first | (left; simp; done) | (right; simp; try omega)) _) | (refine Kp.trans' ?_ (by assumption) (by simp; try omega))))⟩
          case measure => simp [intOf]; omega
      · have hr : Hid (runGo p most (N - 1) 1 = j) := by rw [← hf2]; unfold runGo; rw [if_neg (fun h => hm h.1)]; rfl
        clear hf2
        have hm' : decide ((j : Int) ≤ most) = false := by simpa using hm
        go_wp2_with fail
        go_ret
        exact ⟨by rw [hr.out]; simp, hk⟩
    · obtain rfl : j = N := by omega
      have hlt' : decide (j < j) = false := by simp
      have hr : Hid (runGo p most (j - 1) 1 = j) := by rw [← hf.out, Nat.sub_self]; rfl
      go_wp2
      go_ret
      exact ⟨by rw [hr.out]; simp, hk⟩
theorem put1_calls (b : Nat) (v : Value) (xs : List Int) (i : Nat) (hi : i < xs.length) (w : World) (h : w.cell? ⟨b, 0, none⟩ = some v) (hv : IsInts .i64 w v xs) (hb : ∀ x ∈ xs, 0 ≤ x ∧ x ≤ 65535) (hl : xs.length ≤ 65535) :
    Calls Tryz.prog 60 #[.int .i64 i, .pointer (some ⟨b, 0, none⟩)] w fun e w' => e = .returned (.bool (xs.getD i 0 == xs.getD 0 0 + i)) ∧ Kp [] w w' := by
  rcases hv with ⟨⟨ad, rfl⟩, rfl⟩ | ⟨g, off, c, rfl, h1, h2, h3⟩
  · simp at hi
  · have c1 := h3 i hi
    have c0 := h3 0 (by omega)
    rw [Nat.add_zero] at c0
    have b0 : 0 ≤ xs.getD 0 0 ∧ xs.getD 0 0 ≤ 65535 := by
      have : xs.getD 0 0 ∈ xs := by rw [List.getD_eq_getElem?_getD, List.getElem?_eq_getElem (by omega)]; exact List.getElem_mem _
      exact hb _ this
    have h0 : 0 < xs.length := by omega
    clear h3 hb
    generalize xs.getD i 0 = x at *
    generalize xs.getD 0 0 = y at *
    go_enter Tryz.func60, Tryz.ntmps60
    go_wp2
    go_quiet (fail)
    go_wp2
    go_ret
    exact ⟨by simp, by (repeat (first | exact Kp.refl _ _ | assumption | refine Kp.drew ?_ | refine Kp.drewN ?_ _ | refine Kp.alloc ?_ _ | (refine Kp.setCell ?_ (by first | (left; simp; done) | (right; simp; try omega)) _) | (refine Kp.trans' ?_ (by assumption) (by simp; try omega))))⟩
end Go.Proofs.YtlhkaoccnpgkeaaGreat.Ch
namespace Go.Proofs.YtlhkaoccnpgkeaaGreat.Ch
set_option linter.unusedVariables false
/-- A number's two bytes. -/
def by2 (x : Int) : List Int := [x / 256 % 256, x % 256]
def mostOf (f : Nat) : Int := if f = 0 then 0 else if f = 1 then 255 else 65535
/-- How many numbers the first range of a list has. -/
def runL (f : Nat) (l : List Int) : Nat := runGo (fun i => l.getD i 0 == l.getD 0 0 + i) (mostOf f) (l.length - 1) 1
theorem runL_ge (f : Nat) (l : List Int) : 1 ≤ runL f l := (runGo_le _ _ _ _).1
theorem runL_le (f : Nat) (l : List Int) (h : 1 ≤ l.length) : runL f l ≤ l.length := by have := (runGo_le (fun i => l.getD i 0 == l.getD 0 0 + i) (mostOf f) (l.length - 1) 1).2; unfold runL; omega
/-- How many more a range has, as bytes. -/
def moreB (f : Nat) (n : Nat) : List Int := if f = 0 then [] else if f = 1 then [((n : Int) - 1) % 256] else by2 ((n : Int) - 1)
def putRun (f : Nat) (l : List Int) (n : Nat) : List Int := by2 (l.getD 0 0) ++ moreB f n
def putGo (f : Nat) : Nat → List Int → List Int
  | 0, _ => []
  | m + 1, l => if l = [] then [] else putRun f l (runL f l) ++ putGo f m (l.drop (runL f l))
/-- A charset's bytes. -/
def csPut (l : List Int) (f : Nat) : List Int := [(f : Int)] ++ putGo f l.length (l.drop 1)
/-- Where a put stands: what was written, and the numbers still to come. -/
def PutAt (f : Nat) (R acc rest : List Int) : Prop := ∃ m, rest.length ≤ m ∧ acc ++ putGo f m rest = R
theorem putAt_start (l : List Int) (f : Nat) : PutAt f (csPut l f) [(f : Int)] (l.drop 1) := ⟨l.length, by simp, rfl⟩
theorem putAt_end (f : Nat) (R acc : List Int) (h : PutAt f R acc []) : R = acc := by
  obtain ⟨m, _, rfl⟩ := h
  cases m with
  | zero => simp [putGo]
  | succ m => simp [putGo]
theorem putAt_step (f : Nat) (R acc rest : List Int) (h : PutAt f R acc rest) (hr : rest ≠ []) : PutAt f R (acc ++ by2 (rest.getD 0 0) ++ moreB f (runL f rest)) (rest.drop (runL f rest)) := by
  obtain ⟨m, hm, rfl⟩ := h
  have hl : 1 ≤ rest.length := by cases rest with | nil => exact absurd rfl hr | cons a l => simp
  cases m with
  | zero => omega
  | succ m =>
    refine ⟨m, ?_, ?_⟩
    · have := runL_ge f rest; rw [List.length_drop]; omega
    · simp [putGo, hr, putRun, List.append_assoc]
theorem moreB_length (f n : Nat) : (moreB f n).length ≤ 2 := by unfold moreB by2; split; simp; split <;> simp
/-- May numbers be put? -/
def mayPut (l : List Int) (f : Int) : Bool := decide (1 ≤ l.length) && decide (l.length ≤ 65535) && (l.getD 0 0 == 0) && l.all (inB 65535) && decide (0 ≤ f) && decide (f ≤ 2)
end Go.Proofs.YtlhkaoccnpgkeaaGreat.Ch
namespace Go.Proofs.YtlhkaoccnpgkeaaGreat.Ch
open Go.RowKit
set_option linter.unusedVariables false
set_option linter.unusedSimpArgs false
/-- Where a put stands in memory: the numbers still to come, behind the captured variable; the bytes so far, in a row of its own. -/
def PutSt (w wr : World) (bx : Nat) (v' : Value) (rest acc : List Int) (v6 : Value) : Prop :=
  wr.heap[bx]? = some (.cells #[v'] 24 (0, 0)) ∧ IsInts .i64 wr v' rest ∧ (∀ b, blockOf v' = some b → b < bx) ∧
  wr.ownsRow (bx + 1) 5 1 v6 acc.length (acc.map (Value.int .u8)) ∧ Kp [] w wr ∧ bx + 1 ≤ wr.heap.size ∧ w.heap.size = bx
theorem PutSt.app {w wr wq w2 : World} {bx : Nat} {v' : Value} {rest acc news : List Int} {v6 v7 : Value} (h : PutSt w wr bx v' rest acc v6) (hq : Kp [] wr wq)
    (hown : w2.ownsRow (bx + 1) 5 1 v7 (acc.length + news.length) (acc.map (Value.int .u8) ++ news.map (Value.int .u8))) (hg : wq.grownBy w2 v6.ownBlock) : PutSt w w2 bx v' rest (acc ++ news) v7 := by
  obtain ⟨h1, h2, h3, h4, h5, h6, h7⟩ := h
  have hge := own_ge h4
  have hk : Kp [] w w2 := Kp.grown (h5.trans hq) hg (fun k hk => .inr (by have := hge k hk; omega))
  have hk2 : Kp (v6.ownBlock.toList) wr w2 := Kp.grown (hq.more (fun s hs => nomatch hs)) hg (fun k hk => .inl (by rw [hk]; simp))
  have hnot : bx ∉ v6.ownBlock.toList := by
    intro hm; cases hv : v6.ownBlock with
    | none => simp [hv] at hm
    | some b => simp [hv] at hm; have := hge _ hv; omega
  have hnot2 : ∀ s ∈ v6.ownBlock.toList, blockOf v' ≠ some s := by
    intro s hs; cases hv : v6.ownBlock with
    | none => simp [hv] at hs
    | some b => simp [hv] at hs; subst hs; intro e; have := h3 _ e; have := hge _ hv; omega
  exact ⟨hk2.heap h1 hnot, h2.kp hk2 hnot2, h3, by simpa using hown, hk, Nat.le_trans h6 hk2.size, h7⟩
theorem PutSt.kp {w wr w2 : World} {bx : Nat} {v' : Value} {rest acc : List Int} {v6 : Value} (h : PutSt w wr bx v' rest acc v6) (hq : Kp [] wr w2) : PutSt w w2 bx v' rest acc v6 := by
  obtain ⟨h1, h2, h3, h4, h5, h6, h7⟩ := h
  exact ⟨hq.heap h1 (by simp), h2.kp hq (by simp), h3, hq.row h4 (by simp), h5.trans hq, Nat.le_trans h6 hq.size, h7⟩
/-- Where the rest of a slice begins. -/
def cutOff (off n c : Nat) : Nat := if n = c then off else off + n
/-- The rest of a slice. -/
def cutV (v : Value) (n : Nat) : Value := match v with
  | .slice (some a) len c => .slice (some ⟨a.block, cutOff a.off n c, none⟩) (len - n) (c - n)
  | v => v
theorem blockOf_cut (v : Value) (n b : Nat) (h : blockOf (cutV v n) = some b) : blockOf v = some b := by
  unfold cutV at h
  split at h
  · rename_i a _ c
    obtain ⟨x, y, z⟩ := a
    simp at h ⊢
    exact ⟨by omega, h.2⟩
  · exact h
theorem run_cut (g off N c n : Nat) (i : Int) (hi : i = n) (h1 : n ≤ N) (h2 : N ≤ c) (hc : c ≤ maxLen) (w : World) :
    (Instr.slice 24 (.slice (some ⟨g, off, none⟩) N c) (some (.int .i64 i)) none none).run Tryz.prog w = .ok (.slice (some ⟨g, cutOff off n c, none⟩) (N - n) (c - n)) w := by
  subst hi
  unfold maxLen at hc
  go_simp
  unfold cutOff
  by_cases h : c = n <;> simp [h, eq_comm]
theorem _root_.Go.Proofs.YtlhkaoccnpgkeaaGreat.IsInts.drop {k : IntKind} {w : World} {v : Value} {zs : List Int} (h : IsInts k w v zs) (n : Nat) (hn : n ≤ zs.length) : IsInts k w (cutV v n) (zs.drop n) := by
  rcases h with ⟨⟨ad, rfl⟩, rfl⟩ | ⟨g, off, c, rfl, h1, h2, h3⟩
  · refine .inl ⟨?_, by simp⟩
    cases ad <;> simp [cutV]
  · by_cases hc : n = c
    · have hl : n = zs.length := by omega
      refine .inr ⟨g, off, c - n, ?_, by simp; omega, by omega, fun i hi => ?_⟩
      · simp [cutV, cutOff, hc]
      · simp at hi; omega
    · refine .inr ⟨g, off + n, c - n, ?_, by simp; omega, by omega, fun i hi => ?_⟩
      · simp [cutV, cutOff, hc]
      · simp at hi
        have := h3 (n + i) (by omega)
        rw [← Nat.add_assoc] at this
        rw [this]; simp [List.getD_eq_getElem?_getD]
theorem PutSt.box {w wr : World} {bx : Nat} {v' : Value} {rest acc : List Int} {v6 : Value} (h : PutSt w wr bx v' rest acc v6) (n : Nat) (hn : n ≤ rest.length) :
    PutSt w (wr.setCell ⟨bx, 0, none⟩ (cutV v' n)) bx (cutV v' n) (rest.drop n) acc v6 := by
  obtain ⟨h1, h2, h3, h4, h5, h6, h7⟩ := h
  have hk : Kp [bx] wr (wr.setCell ⟨bx, 0, none⟩ (cutV v' n)) := (Kp.refl _ _).setCell (.inl (by simp)) _
  have hb : ∀ b, blockOf (cutV v' n) = some b → blockOf v' = some b := blockOf_cut v' n
  refine ⟨one_setCell h1, (h2.kp hk (by intro s hs e; simp at hs; subst hs; have := h3 _ e; omega)).drop n hn, fun b e => h3 b (hb b e), hk.row h4 (by intro s hs e; simp at hs; subst hs; have := own_ge h4 _ e; omega), h5.setCell (.inr (by simp; omega)) _, by simp [World.setCell]; exact h6, h7⟩
theorem news_of_heap {w : World} {n : Nat} {cs : List Value} {e : TypeId} (h : w.heap[n]? = some (.cells cs.toArray e (0, 0))) : ∀ j u, cs[j]? = some u → w.cell? ⟨n, 0 + j, none⟩ = some u := by
  intro j u hu
  rw [cell_of_row w n _ cs.toArray e (0, 0) h, Nat.zero_add]
  simpa using hu
set_option maxRecDepth 100000 in
set_option maxHeartbeats 4000000 in
theorem put_f0 (g off c : Nat) (l : List Int) (w : World) (h3 : l.length ≤ c) (h4 : c ≤ maxLen) (hz2 : Hid (IsInts .i64 w (.slice (some ⟨g, off, none⟩) l.length c) l)) (h1 : 1 ≤ l.length) (h2 : l.length ≤ 65535)
    (hc0 : w.cell? ⟨g, off, none⟩ = some (.int .i64 0)) (HB : Hid (l.all (inB 65535) = true)) (hg : g < w.heap.size) :
    Calls Tryz.prog 20 #[.slice (some ⟨g, off, none⟩) l.length c, .int .i64 0] w (Loaded .u8 (some (csPut l 0)) 0 w) := by
  go_enter Tryz.func20, Tryz.ntmps20
  go_wp2_with fail
  refine (count_yes _ (by omega) (by omega) _).mono ?_; rintro e w' ⟨rfl, rfl⟩
  go_wp2_with fail
  refine (within_calls _ l 65535 _ (hz2.out.kp (S := []) ((Kp.refl _ _).alloc _) (by simp))).mono ?_; rintro e w1 ⟨rfl, hk1⟩
  rw [HB.out]
  have hst : PutSt w w1 w.heap.size (.slice (some ⟨g, off, none⟩) l.length c) l [] (.slice none 0 0) := by
    refine PutSt.kp (wr := w.alloc (.cells #[.slice (some ⟨g, off, none⟩) l.length c] 24)) ⟨heap_alloc_new w _, hz2.out.kp (S := []) ((Kp.refl _ _).alloc _) (by simp), fun b hb => by simp [Value.ownBlock] at hb; omega, World.ownsRow_nil _ _ _ _, by (repeat (first | exact Kp.refl _ _ | assumption | refine Kp.drew ?_ | refine Kp.drewN ?_ _ | refine Kp.alloc ?_ _ | (refine Kp.setCell ?_ (by first | (left; simp; done) | (right; simp; try omega)) _) | (refine Kp.trans' ?_ (by assumption) (by simp; try omega)))), by simp, rfl⟩ hk1
  have hbx : w.heap.size < w1.heap.size := by have := hst.2.2.2.2.2.1; omega
  generalize hbe : w.heap.size = bx at *
  have hcx := cell_of_one hst.1
  have hfx := free_of_one hst.1
  have i0 : ∀ w, (Instr.index 100 (.agg #[.int .i64 0, .int .i64 255, .int .i64 65535]) (.int .i64 0)).run Tryz.prog w = .ok (.int .i64 0) w := fun _ => by kernel_rfl
  have hs1 := run_cut g off l.length c 1 1 rfl h1 h3 h4
  have HR : Hid (PutAt 0 (csPut l 0) [((0 : Nat) : Int)] (l.drop 1)) := putAt_start l 0
  have HBB : Hid (∀ x ∈ l, 0 ≤ x ∧ x ≤ 65535) := by
    intro x hx; have := List.all_eq_true.1 HB.out x hx; simpa [inB] using this
  go_wp2_with fail
  have hst2 : PutSt w ((w1.setCell ⟨bx, 0, none⟩ (.slice (some ⟨g, cutOff off 1 c, none⟩) (l.length - 1) (c - 1))).alloc (.cells #[.int .u8 0] 5)) bx (.slice (some ⟨g, cutOff off 1 c, none⟩) (l.length - 1) (c - 1)) (l.drop 1) [((0 : Nat) : Int)] (.slice (some ⟨w1.heap.size, 0, none⟩) 1 1) := by
    obtain ⟨p1, p2, p3, p4, p5, p6, p7⟩ := hst.box 1 h1
    exact ⟨(Kp.refl [] _).alloc _ |>.heap p1 (by simp), p2.kp (S := []) ((Kp.refl _ _).alloc _) (by simp), p3, own_lit _ _ _ _ 1 1 #[.int .u8 0] (by simp) (by omega) (by decide) rfl, p5.alloc _, by simp at p6 ⊢; omega, p7⟩
  clear hst hk1 hz2 HB hcx hfx hc0 hs1
  generalize Value.slice (some ⟨g, cutOff off 1 c, none⟩) (l.length - 1) (c - 1) = vs at *
  go_loopw [6, 8] (fun v6 _ wr => ∃ (v' : Value) (rest acc : List Int), PutSt w wr bx v' rest acc v6 ∧ PutAt 0 (csPut l 0) acc rest ∧ (∀ x ∈ rest, 0 ≤ x ∧ x ≤ 65535) ∧ rest.length ≤ 65535 ∧ acc.length + 4 * rest.length ≤ 262145) (fun _ _ wr => vlen ((wr.cell? ⟨bx, 0, none⟩).getD undef))
  case atStart => exact ⟨vs, l.drop 1, [((0 : Nat) : Int)], hst2, HR.out, fun x hx => HBB.out x (List.mem_of_mem_drop hx), by simp; omega, by simp; omega⟩
  case round =>
    obtain ⟨v', rest, acc, hs, ha, hb, hl1, hl2⟩ := hrel
    have hcx := cell_of_one hs.1
    have hfx := free_of_one hs.1
    have HCX := Lib.hid hcx
    by_cases hr : rest = []
    · subst hr
      have hend := Lib.hid (putAt_end _ _ _ ha)
      have HS := Lib.hid hs
      have hi := hs.2.1
      clear hs ha hb
      rcases hi with ⟨⟨ad, rfl⟩, _⟩ | ⟨g1, o1, c1, rfl, q1, q2, q3⟩
      all_goals
        go_wp2_with fail
        go_ret2
        exact .inr ⟨acc, _, by rw [hend.out], rfl, IsInts.owned HS.out.2.2.2.1, HS.out.2.2.2.2.1, fun b hb => by have := own_geb HS.out.2.2.2.1 b hb; omega⟩
    · have hr1 : 1 ≤ rest.length := by cases rest with | nil => exact absurd rfl hr | cons a t => simp
      have HS := Lib.hid hs
      have HA := Lib.hid ha
      have HB2 := Lib.hid hb
      have hi := hs.2.1
      clear hs ha hb
      rcases hi with ⟨⟨ad, rfl⟩, rfl⟩ | ⟨g1, o1, c1, rfl, q1, q2, q3⟩
      · simp at hr
      · have q0 := q3 0 (by omega)
        rw [Nat.add_zero] at q0
        have hrun := Lib.hid (run_calls 60 Tryz.call60 (.pointer (some ⟨bx, 0, none⟩)) (fun i => rest.getD i 0 == rest.getD 0 0 + i) 0 (some ⟨g1, o1, none⟩) rest.length c1 hl1 hr1 wr (fun i _ hi wr' hk => put1_calls bx _ rest i hi wr' (hk.cell hcx (by simp)) (HS.out.2.1.kp hk (by simp)) HB2.out hl1))
        clear q3
        go_wp2_with fail
        refine Calls.mono hrun.out ?_; rintro e w2 ⟨rfl, hk2⟩
        clear hrun
        have hn : Hid (runGo (fun i => rest.getD i 0 == rest.getD 0 0 + i) 0 (rest.length - 1) 1 = runL 0 rest) := rfl
        rw [hn.out]
        clear hn
        have hn1 := runL_ge 0 rest
        have hn2 := runL_le 0 rest hr1
        have hcx2 := hk2.cell hcx (by simp)
        have hs2 := HS.out.kp hk2
        have hfx2 := free_of_one hs2.1
        have q02 := hk2.cell q0 (by simp)
        clear hcx hfx q0
        have hx0 : 0 ≤ rest.getD 0 0 ∧ rest.getD 0 0 ≤ 65535 := HB2.out _ (by rw [List.getD_eq_getElem?_getD, List.getElem?_eq_getElem (by omega)]; exact List.getElem_mem _)
        have HS2 := Lib.hid hs2
        clear hs2
        have hstep := Lib.hid (putAt_step 0 _ _ _ HA.out hr)
        generalize hne : runL 0 rest = n at *
        generalize hxe : rest.getD 0 0 = x0 at *
        have hns := run_cut g1 o1 rest.length c1 n n rfl hn2 q1 q2
        have hm1 : ((n : Int) - 1) ≤ 65534 := by omega
        clear hne hxe HS HA
        go_wp2_with fail
        have hbx2 : bx < w2.heap.size := HS2.out.2.2.2.2.2.1
        have hg1 : g1 < bx := HS2.out.2.2.1 g1 ((blockOf_some _ _ _ _ _ _).2 ⟨by omega, rfl⟩)
        have hnb : u6.ownBlock ≠ some bx := fun e => by have := own_ge HS2.out.2.2.2.1 _ e; omega
        have hng : u6.ownBlock ≠ some g1 := fun e => by have := own_ge HS2.out.2.2.2.1 _ e; omega
        go_region_held3 (fun w' => w'.cell? ⟨bx, 0, none⟩ = some (.slice (some ⟨g1, o1, none⟩) rest.length c1) ∧ w'.cell? ⟨g1, o1, none⟩ = some (.int .i64 x0))
          (first
            | go_keep
            | (go_split_ands
               refine ⟨?_, ?_⟩
               · (rw [hgrow.cell_far _ (by simp; omega) (Ne.symm hnb)]; assumption)
               · (rw [hgrow.cell_far _ (by simp; omega) (Ne.symm hng)]; assumption)))
          ((refine step_app (by rfl) _ _ 29 (by rfl) (bx + 1) 5 (.int .u8 0) 1 1 Tryz.underlying29 infoByte rfl (by decide) (by decide) u6 acc.length (acc.map (Value.int .u8)) (by rfl) ((HS2.out.kp (by (repeat (first | exact Kp.refl _ _ | assumption | refine Kp.drew ?_ | refine Kp.drewN ?_ _ | refine Kp.alloc ?_ _ | (refine Kp.setCell ?_ (by first | (left; simp; done) | (right; simp; try omega)) _) | (refine Kp.trans' ?_ (by assumption) (by simp; try omega)))))).2.2.2.1) w2.heap.size 0 2 2 [.int .u8 (x0 / 256 % 256), .int .u8 (x0 % 256)] (by rfl) (by rfl) (news_of_heap (heap_alloc_new w2 _)) (by intro u hu; simp at hu; rcases hu with rfl | rfl <;> rfl) (by omega) (by simp; omega) ?_; intro v7 w3 hown hgrow))
        have hs3 : PutSt w w3 bx (.slice (some ⟨g1, o1, none⟩) rest.length c1) rest (acc ++ by2 x0) v7 := HS2.out.app (by (repeat (first | exact Kp.refl _ _ | assumption | refine Kp.drew ?_ | refine Kp.drewN ?_ _ | refine Kp.alloc ?_ _ | (refine Kp.setCell ?_ (by first | (left; simp; done) | (right; simp; try omega)) _) | (refine Kp.trans' ?_ (by assumption) (by simp; try omega))))) (news := by2 x0) hown hgrow
        have hl3 : (acc ++ by2 x0).length = acc.length + 2 := by simp [by2]
        have hl3b : (acc ++ by2 x0).length ≤ acc.length + 2 := by omega
        have HL3 := Lib.hid hl3
        clear hl3 hown hgrow hcx2 hfx2 q02 hk2 HS2 hnb hng
        have hcx3 := cell_of_one hs3.1
        have hfx3 := free_of_one hs3.1
        have HS3 := Lib.hid hs3
        clear hs3
        generalize hac : acc ++ by2 x0 = ac3 at *
        obtain ⟨p7, m7, rfl⟩ := slice_own HS3.out.2.2.2.1
        have HAC : Hid (ac3 = ac3 ++ moreB 0 n) := by unfold Hid; simp [moreB]
        have hlf : ac3.length + 4 * (rest.length - n) ≤ 262145 := by omega
        have hfin := Lib.hid (HS3.out.box n hn2)
        go_wp2_with fail
        go_roundw
        case rel =>
          have hrel2 : PutAt 0 (csPut l 0) ac3 (rest.drop n) := by rw [HAC.out]; exact hstep.out
          first
            | exact ⟨_, rest.drop n, ac3, hfin.out, hrel2, fun x hx => HB2.out x (List.mem_of_mem_drop hx), by simp; omega, by simp; omega⟩
            | (repeat apply Exists.intro; exact ⟨⟨_, rest.drop n, ac3, hfin.out, hrel2, fun x hx => HB2.out x (List.mem_of_mem_drop hx), by simp; omega, by simp; omega⟩, rfl⟩)
        case measure =>
          have e1 : (w3.setCell ⟨bx, 0, none⟩ (.slice (some ⟨g1, cutOff o1 n c1, none⟩) (rest.length - n) (c1 - n))).cell? ⟨bx, 0, none⟩ = some (.slice (some ⟨g1, cutOff o1 n c1, none⟩) (rest.length - n) (c1 - n)) := cell_of_one hfin.out.1
          have e2 : wr.cell? ⟨bx, 0, none⟩ = some (.slice (some ⟨g1, o1, none⟩) rest.length c1) := HCX.out
          rw [e1, e2]
          show rest.length - n < rest.length
          omega
set_option maxRecDepth 100000 in
set_option maxHeartbeats 4000000 in
theorem put_f1 (g off c : Nat) (l : List Int) (w : World) (h3 : l.length ≤ c) (h4 : c ≤ maxLen) (hz2 : Hid (IsInts .i64 w (.slice (some ⟨g, off, none⟩) l.length c) l)) (h1 : 1 ≤ l.length) (h2 : l.length ≤ 65535)
    (hc0 : w.cell? ⟨g, off, none⟩ = some (.int .i64 0)) (HB : Hid (l.all (inB 65535) = true)) (hg : g < w.heap.size) :
    Calls Tryz.prog 20 #[.slice (some ⟨g, off, none⟩) l.length c, .int .i64 1] w (Loaded .u8 (some (csPut l 1)) 0 w) := by
  go_enter Tryz.func20, Tryz.ntmps20
  go_wp2_with fail
  refine (count_yes _ (by omega) (by omega) _).mono ?_; rintro e w' ⟨rfl, rfl⟩
  go_wp2_with fail
  refine (within_calls _ l 65535 _ (hz2.out.kp (S := []) ((Kp.refl _ _).alloc _) (by simp))).mono ?_; rintro e w1 ⟨rfl, hk1⟩
  rw [HB.out]
  have hst : PutSt w w1 w.heap.size (.slice (some ⟨g, off, none⟩) l.length c) l [] (.slice none 0 0) := by
    refine PutSt.kp (wr := w.alloc (.cells #[.slice (some ⟨g, off, none⟩) l.length c] 24)) ⟨heap_alloc_new w _, hz2.out.kp (S := []) ((Kp.refl _ _).alloc _) (by simp), fun b hb => by simp [Value.ownBlock] at hb; omega, World.ownsRow_nil _ _ _ _, by (repeat (first | exact Kp.refl _ _ | assumption | refine Kp.drew ?_ | refine Kp.drewN ?_ _ | refine Kp.alloc ?_ _ | (refine Kp.setCell ?_ (by first | (left; simp; done) | (right; simp; try omega)) _) | (refine Kp.trans' ?_ (by assumption) (by simp; try omega)))), by simp, rfl⟩ hk1
  have hbx : w.heap.size < w1.heap.size := by have := hst.2.2.2.2.2.1; omega
  generalize hbe : w.heap.size = bx at *
  have hcx := cell_of_one hst.1
  have hfx := free_of_one hst.1
  have i0 : ∀ w, (Instr.index 100 (.agg #[.int .i64 0, .int .i64 255, .int .i64 65535]) (.int .i64 1)).run Tryz.prog w = .ok (.int .i64 255) w := fun _ => by kernel_rfl
  have hs1 := run_cut g off l.length c 1 1 rfl h1 h3 h4
  have HR : Hid (PutAt 1 (csPut l 1) [((1 : Nat) : Int)] (l.drop 1)) := putAt_start l 1
  have HBB : Hid (∀ x ∈ l, 0 ≤ x ∧ x ≤ 65535) := by
    intro x hx; have := List.all_eq_true.1 HB.out x hx; simpa [inB] using this
  go_wp2_with fail
  have hst2 : PutSt w ((w1.setCell ⟨bx, 0, none⟩ (.slice (some ⟨g, cutOff off 1 c, none⟩) (l.length - 1) (c - 1))).alloc (.cells #[.int .u8 1] 5)) bx (.slice (some ⟨g, cutOff off 1 c, none⟩) (l.length - 1) (c - 1)) (l.drop 1) [((1 : Nat) : Int)] (.slice (some ⟨w1.heap.size, 0, none⟩) 1 1) := by
    obtain ⟨p1, p2, p3, p4, p5, p6, p7⟩ := hst.box 1 h1
    exact ⟨(Kp.refl [] _).alloc _ |>.heap p1 (by simp), p2.kp (S := []) ((Kp.refl _ _).alloc _) (by simp), p3, own_lit _ _ _ _ 1 1 #[.int .u8 1] (by simp) (by omega) (by decide) rfl, p5.alloc _, by simp at p6 ⊢; omega, p7⟩
  clear hst hk1 hz2 HB hcx hfx hc0 hs1
  generalize Value.slice (some ⟨g, cutOff off 1 c, none⟩) (l.length - 1) (c - 1) = vs at *
  go_loopw [6, 8] (fun v6 _ wr => ∃ (v' : Value) (rest acc : List Int), PutSt w wr bx v' rest acc v6 ∧ PutAt 1 (csPut l 1) acc rest ∧ (∀ x ∈ rest, 0 ≤ x ∧ x ≤ 65535) ∧ rest.length ≤ 65535 ∧ acc.length + 4 * rest.length ≤ 262145) (fun _ _ wr => vlen ((wr.cell? ⟨bx, 0, none⟩).getD undef))
  case atStart => exact ⟨vs, l.drop 1, [((1 : Nat) : Int)], hst2, HR.out, fun x hx => HBB.out x (List.mem_of_mem_drop hx), by simp; omega, by simp; omega⟩
  case round =>
    obtain ⟨v', rest, acc, hs, ha, hb, hl1, hl2⟩ := hrel
    have hcx := cell_of_one hs.1
    have hfx := free_of_one hs.1
    have HCX := Lib.hid hcx
    by_cases hr : rest = []
    · subst hr
      have hend := Lib.hid (putAt_end _ _ _ ha)
      have HS := Lib.hid hs
      have hi := hs.2.1
      clear hs ha hb
      rcases hi with ⟨⟨ad, rfl⟩, _⟩ | ⟨g1, o1, c1, rfl, q1, q2, q3⟩
      all_goals
        go_wp2_with fail
        go_ret2
        exact .inr ⟨acc, _, by rw [hend.out], rfl, IsInts.owned HS.out.2.2.2.1, HS.out.2.2.2.2.1, fun b hb => by have := own_geb HS.out.2.2.2.1 b hb; omega⟩
    · have hr1 : 1 ≤ rest.length := by cases rest with | nil => exact absurd rfl hr | cons a t => simp
      have HS := Lib.hid hs
      have HA := Lib.hid ha
      have HB2 := Lib.hid hb
      have hi := hs.2.1
      clear hs ha hb
      rcases hi with ⟨⟨ad, rfl⟩, rfl⟩ | ⟨g1, o1, c1, rfl, q1, q2, q3⟩
      · simp at hr
      · have q0 := q3 0 (by omega)
        rw [Nat.add_zero] at q0
        have hrun := Lib.hid (run_calls 60 Tryz.call60 (.pointer (some ⟨bx, 0, none⟩)) (fun i => rest.getD i 0 == rest.getD 0 0 + i) 255 (some ⟨g1, o1, none⟩) rest.length c1 hl1 hr1 wr (fun i _ hi wr' hk => put1_calls bx _ rest i hi wr' (hk.cell hcx (by simp)) (HS.out.2.1.kp hk (by simp)) HB2.out hl1))
        clear q3
        go_wp2_with fail
        refine Calls.mono hrun.out ?_; rintro e w2 ⟨rfl, hk2⟩
        clear hrun
        have hn : Hid (runGo (fun i => rest.getD i 0 == rest.getD 0 0 + i) 255 (rest.length - 1) 1 = runL 1 rest) := rfl
        rw [hn.out]
        clear hn
        have hn1 := runL_ge 1 rest
        have hn2 := runL_le 1 rest hr1
        have hcx2 := hk2.cell hcx (by simp)
        have hs2 := HS.out.kp hk2
        have hfx2 := free_of_one hs2.1
        have q02 := hk2.cell q0 (by simp)
        clear hcx hfx q0
        have hx0 : 0 ≤ rest.getD 0 0 ∧ rest.getD 0 0 ≤ 65535 := HB2.out _ (by rw [List.getD_eq_getElem?_getD, List.getElem?_eq_getElem (by omega)]; exact List.getElem_mem _)
        have HS2 := Lib.hid hs2
        clear hs2
        have hstep := Lib.hid (putAt_step 1 _ _ _ HA.out hr)
        generalize hne : runL 1 rest = n at *
        generalize hxe : rest.getD 0 0 = x0 at *
        have hns := run_cut g1 o1 rest.length c1 n n rfl hn2 q1 q2
        have hm1 : ((n : Int) - 1) ≤ 65534 := by omega
        clear hne hxe HS HA
        go_wp2_with fail
        have hbx2 : bx < w2.heap.size := HS2.out.2.2.2.2.2.1
        have hg1 : g1 < bx := HS2.out.2.2.1 g1 ((blockOf_some _ _ _ _ _ _).2 ⟨by omega, rfl⟩)
        have hnb : u6.ownBlock ≠ some bx := fun e => by have := own_ge HS2.out.2.2.2.1 _ e; omega
        have hng : u6.ownBlock ≠ some g1 := fun e => by have := own_ge HS2.out.2.2.2.1 _ e; omega
        go_region_held3 (fun w' => w'.cell? ⟨bx, 0, none⟩ = some (.slice (some ⟨g1, o1, none⟩) rest.length c1) ∧ w'.cell? ⟨g1, o1, none⟩ = some (.int .i64 x0))
          (first
            | go_keep
            | (go_split_ands
               refine ⟨?_, ?_⟩
               · (rw [hgrow.cell_far _ (by simp; omega) (Ne.symm hnb)]; assumption)
               · (rw [hgrow.cell_far _ (by simp; omega) (Ne.symm hng)]; assumption)))
          ((refine step_app (by rfl) _ _ 29 (by rfl) (bx + 1) 5 (.int .u8 0) 1 1 Tryz.underlying29 infoByte rfl (by decide) (by decide) u6 acc.length (acc.map (Value.int .u8)) (by rfl) ((HS2.out.kp (by (repeat (first | exact Kp.refl _ _ | assumption | refine Kp.drew ?_ | refine Kp.drewN ?_ _ | refine Kp.alloc ?_ _ | (refine Kp.setCell ?_ (by first | (left; simp; done) | (right; simp; try omega)) _) | (refine Kp.trans' ?_ (by assumption) (by simp; try omega)))))).2.2.2.1) w2.heap.size 0 2 2 [.int .u8 (x0 / 256 % 256), .int .u8 (x0 % 256)] (by rfl) (by rfl) (news_of_heap (heap_alloc_new w2 _)) (by intro u hu; simp at hu; rcases hu with rfl | rfl <;> rfl) (by omega) (by simp; omega) ?_; intro v7 w3 hown hgrow))
        have hs3 : PutSt w w3 bx (.slice (some ⟨g1, o1, none⟩) rest.length c1) rest (acc ++ by2 x0) v7 := HS2.out.app (by (repeat (first | exact Kp.refl _ _ | assumption | refine Kp.drew ?_ | refine Kp.drewN ?_ _ | refine Kp.alloc ?_ _ | (refine Kp.setCell ?_ (by first | (left; simp; done) | (right; simp; try omega)) _) | (refine Kp.trans' ?_ (by assumption) (by simp; try omega))))) (news := by2 x0) hown hgrow
        have hl3 : (acc ++ by2 x0).length = acc.length + 2 := by simp [by2]
        have hl3b : (acc ++ by2 x0).length ≤ acc.length + 2 := by omega
        have HL3 := Lib.hid hl3
        clear hl3 hown hgrow hcx2 hfx2 q02 hk2 HS2 hnb hng
        have hcx3 := cell_of_one hs3.1
        have hfx3 := free_of_one hs3.1
        have HS3 := Lib.hid hs3
        clear hs3
        generalize hac : acc ++ by2 x0 = ac3 at *
        obtain ⟨p7, m7, rfl⟩ := slice_own HS3.out.2.2.2.1
        go_wp2_with (at_builtin; refine wpList_app rfl _ _ 29 rfl (bx + 1) 5 (.int .u8 0) 1 1 Tryz.underlying29 infoByte rfl (by decide) (by decide) (.slice p7 ac3.length m7) ac3.length (ac3.map (Value.int .u8)) rfl ?hown (.slice (some ⟨w3.heap.size, 0, none⟩) 1 1) 1 [.int .u8 (((n : Int) - 1) % 256)] rfl ?hsrc ?hone ?hb1 ?hb2 ?hk)
        case hown => exact (HS3.out.kp ((Kp.refl _ _).alloc _)).2.2.2.1
        case hsrc => exact Reads.made _ _ 1 1 [.int .u8 (((n : Int) - 1) % 256)] _ rfl rfl (by decide)
        case hone => intro u hu; simp at hu; subst hu; rfl
        case hb1 => omega
        case hb2 => have := HS3.out.2.2.2.2.2.1; simp; omega
        case hk =>
        intro v8 w4 hown hgrow
        have hs4 : PutSt w w4 bx (.slice (some ⟨g1, o1, none⟩) rest.length c1) rest (ac3 ++ [((n : Int) - 1) % 256]) v8 := HS3.out.app ((Kp.refl _ _).alloc _) (news := [((n : Int) - 1) % 256]) hown hgrow
        have HL4 : Hid ((ac3 ++ [((n : Int) - 1) % 256]).length = ac3.length + 1) := by simp [Hid]
        have hl4b : (ac3 ++ [((n : Int) - 1) % 256]).length ≤ ac3.length + 1 := by simp
        clear hown hgrow hcx3 hfx3
        have hcx4 := cell_of_one hs4.1
        have hfx4 := free_of_one hs4.1
        have HS4 := Lib.hid hs4
        clear hs4 HS3
        generalize hac4 : ac3 ++ [((n : Int) - 1) % 256] = ac4 at *
        obtain ⟨p8, m8, rfl⟩ := slice_own HS4.out.2.2.2.1
        have HAC : Hid (ac4 = ac3 ++ moreB 1 n) := by unfold Hid; rw [← hac4]; simp [moreB]
        have hlf : ac4.length + 4 * (rest.length - n) ≤ 262145 := by omega
        have hfin := Lib.hid (HS4.out.box n hn2)
        go_wp2_with fail
        go_roundw
        case rel =>
          have hrel2 : PutAt 1 (csPut l 1) ac4 (rest.drop n) := by rw [HAC.out]; exact hstep.out
          first
            | exact ⟨_, rest.drop n, ac4, hfin.out, hrel2, fun x hx => HB2.out x (List.mem_of_mem_drop hx), by simp; omega, by simp; omega⟩
            | (repeat apply Exists.intro; exact ⟨⟨_, rest.drop n, ac4, hfin.out, hrel2, fun x hx => HB2.out x (List.mem_of_mem_drop hx), by simp; omega, by simp; omega⟩, rfl⟩)
        case measure =>
          have e1 : (w4.setCell ⟨bx, 0, none⟩ (.slice (some ⟨g1, cutOff o1 n c1, none⟩) (rest.length - n) (c1 - n))).cell? ⟨bx, 0, none⟩ = some (.slice (some ⟨g1, cutOff o1 n c1, none⟩) (rest.length - n) (c1 - n)) := cell_of_one hfin.out.1
          have e2 : wr.cell? ⟨bx, 0, none⟩ = some (.slice (some ⟨g1, o1, none⟩) rest.length c1) := HCX.out
          rw [e1, e2]
          show rest.length - n < rest.length
          omega
set_option maxRecDepth 100000 in
set_option maxHeartbeats 4000000 in
theorem put_f2 (g off c : Nat) (l : List Int) (w : World) (h3 : l.length ≤ c) (h4 : c ≤ maxLen) (hz2 : Hid (IsInts .i64 w (.slice (some ⟨g, off, none⟩) l.length c) l)) (h1 : 1 ≤ l.length) (h2 : l.length ≤ 65535)
    (hc0 : w.cell? ⟨g, off, none⟩ = some (.int .i64 0)) (HB : Hid (l.all (inB 65535) = true)) (hg : g < w.heap.size) :
    Calls Tryz.prog 20 #[.slice (some ⟨g, off, none⟩) l.length c, .int .i64 2] w (Loaded .u8 (some (csPut l 2)) 0 w) := by
  go_enter Tryz.func20, Tryz.ntmps20
  go_wp2_with fail
  refine (count_yes _ (by omega) (by omega) _).mono ?_; rintro e w' ⟨rfl, rfl⟩
  go_wp2_with fail
  refine (within_calls _ l 65535 _ (hz2.out.kp (S := []) ((Kp.refl _ _).alloc _) (by simp))).mono ?_; rintro e w1 ⟨rfl, hk1⟩
  rw [HB.out]
  have hst : PutSt w w1 w.heap.size (.slice (some ⟨g, off, none⟩) l.length c) l [] (.slice none 0 0) := by
    refine PutSt.kp (wr := w.alloc (.cells #[.slice (some ⟨g, off, none⟩) l.length c] 24)) ⟨heap_alloc_new w _, hz2.out.kp (S := []) ((Kp.refl _ _).alloc _) (by simp), fun b hb => by simp [Value.ownBlock] at hb; omega, World.ownsRow_nil _ _ _ _, by (repeat (first | exact Kp.refl _ _ | assumption | refine Kp.drew ?_ | refine Kp.drewN ?_ _ | refine Kp.alloc ?_ _ | (refine Kp.setCell ?_ (by first | (left; simp; done) | (right; simp; try omega)) _) | (refine Kp.trans' ?_ (by assumption) (by simp; try omega)))), by simp, rfl⟩ hk1
  have hbx : w.heap.size < w1.heap.size := by have := hst.2.2.2.2.2.1; omega
  generalize hbe : w.heap.size = bx at *
  have hcx := cell_of_one hst.1
  have hfx := free_of_one hst.1
  have i0 : ∀ w, (Instr.index 100 (.agg #[.int .i64 0, .int .i64 255, .int .i64 65535]) (.int .i64 2)).run Tryz.prog w = .ok (.int .i64 65535) w := fun _ => by kernel_rfl
  have hs1 := run_cut g off l.length c 1 1 rfl h1 h3 h4
  have HR : Hid (PutAt 2 (csPut l 2) [((2 : Nat) : Int)] (l.drop 1)) := putAt_start l 2
  have HBB : Hid (∀ x ∈ l, 0 ≤ x ∧ x ≤ 65535) := by
    intro x hx; have := List.all_eq_true.1 HB.out x hx; simpa [inB] using this
  go_wp2_with fail
  have hst2 : PutSt w ((w1.setCell ⟨bx, 0, none⟩ (.slice (some ⟨g, cutOff off 1 c, none⟩) (l.length - 1) (c - 1))).alloc (.cells #[.int .u8 2] 5)) bx (.slice (some ⟨g, cutOff off 1 c, none⟩) (l.length - 1) (c - 1)) (l.drop 1) [((2 : Nat) : Int)] (.slice (some ⟨w1.heap.size, 0, none⟩) 1 1) := by
    obtain ⟨p1, p2, p3, p4, p5, p6, p7⟩ := hst.box 1 h1
    exact ⟨(Kp.refl [] _).alloc _ |>.heap p1 (by simp), p2.kp (S := []) ((Kp.refl _ _).alloc _) (by simp), p3, own_lit _ _ _ _ 1 1 #[.int .u8 2] (by simp) (by omega) (by decide) rfl, p5.alloc _, by simp at p6 ⊢; omega, p7⟩
  clear hst hk1 hz2 HB hcx hfx hc0 hs1
  generalize Value.slice (some ⟨g, cutOff off 1 c, none⟩) (l.length - 1) (c - 1) = vs at *
  go_loopw [6, 8] (fun v6 _ wr => ∃ (v' : Value) (rest acc : List Int), PutSt w wr bx v' rest acc v6 ∧ PutAt 2 (csPut l 2) acc rest ∧ (∀ x ∈ rest, 0 ≤ x ∧ x ≤ 65535) ∧ rest.length ≤ 65535 ∧ acc.length + 4 * rest.length ≤ 262145) (fun _ _ wr => vlen ((wr.cell? ⟨bx, 0, none⟩).getD undef))
  case atStart => exact ⟨vs, l.drop 1, [((2 : Nat) : Int)], hst2, HR.out, fun x hx => HBB.out x (List.mem_of_mem_drop hx), by simp; omega, by simp; omega⟩
  case round =>
    obtain ⟨v', rest, acc, hs, ha, hb, hl1, hl2⟩ := hrel
    have hcx := cell_of_one hs.1
    have hfx := free_of_one hs.1
    have HCX := Lib.hid hcx
    by_cases hr : rest = []
    · subst hr
      have hend := Lib.hid (putAt_end _ _ _ ha)
      have HS := Lib.hid hs
      have hi := hs.2.1
      clear hs ha hb
      rcases hi with ⟨⟨ad, rfl⟩, _⟩ | ⟨g1, o1, c1, rfl, q1, q2, q3⟩
      all_goals
        go_wp2_with fail
        go_ret2
        exact .inr ⟨acc, _, by rw [hend.out], rfl, IsInts.owned HS.out.2.2.2.1, HS.out.2.2.2.2.1, fun b hb => by have := own_geb HS.out.2.2.2.1 b hb; omega⟩
    · have hr1 : 1 ≤ rest.length := by cases rest with | nil => exact absurd rfl hr | cons a t => simp
      have HS := Lib.hid hs
      have HA := Lib.hid ha
      have HB2 := Lib.hid hb
      have hi := hs.2.1
      clear hs ha hb
      rcases hi with ⟨⟨ad, rfl⟩, rfl⟩ | ⟨g1, o1, c1, rfl, q1, q2, q3⟩
      · simp at hr
      · have q0 := q3 0 (by omega)
        rw [Nat.add_zero] at q0
        have hrun := Lib.hid (run_calls 60 Tryz.call60 (.pointer (some ⟨bx, 0, none⟩)) (fun i => rest.getD i 0 == rest.getD 0 0 + i) 65535 (some ⟨g1, o1, none⟩) rest.length c1 hl1 hr1 wr (fun i _ hi wr' hk => put1_calls bx _ rest i hi wr' (hk.cell hcx (by simp)) (HS.out.2.1.kp hk (by simp)) HB2.out hl1))
        clear q3
        go_wp2_with fail
        refine Calls.mono hrun.out ?_; rintro e w2 ⟨rfl, hk2⟩
        clear hrun
        have hn : Hid (runGo (fun i => rest.getD i 0 == rest.getD 0 0 + i) 65535 (rest.length - 1) 1 = runL 2 rest) := rfl
        rw [hn.out]
        clear hn
        have hn1 := runL_ge 2 rest
        have hn2 := runL_le 2 rest hr1
        have hcx2 := hk2.cell hcx (by simp)
        have hs2 := HS.out.kp hk2
        have hfx2 := free_of_one hs2.1
        have q02 := hk2.cell q0 (by simp)
        clear hcx hfx q0
        have hx0 : 0 ≤ rest.getD 0 0 ∧ rest.getD 0 0 ≤ 65535 := HB2.out _ (by rw [List.getD_eq_getElem?_getD, List.getElem?_eq_getElem (by omega)]; exact List.getElem_mem _)
        have HS2 := Lib.hid hs2
        clear hs2
        have hstep := Lib.hid (putAt_step 2 _ _ _ HA.out hr)
        generalize hne : runL 2 rest = n at *
        generalize hxe : rest.getD 0 0 = x0 at *
        have hns := run_cut g1 o1 rest.length c1 n n rfl hn2 q1 q2
        have hm1 : ((n : Int) - 1) ≤ 65534 := by omega
        clear hne hxe HS HA
        go_wp2_with fail
        have hbx2 : bx < w2.heap.size := HS2.out.2.2.2.2.2.1
        have hg1 : g1 < bx := HS2.out.2.2.1 g1 ((blockOf_some _ _ _ _ _ _).2 ⟨by omega, rfl⟩)
        have hnb : u6.ownBlock ≠ some bx := fun e => by have := own_ge HS2.out.2.2.2.1 _ e; omega
        have hng : u6.ownBlock ≠ some g1 := fun e => by have := own_ge HS2.out.2.2.2.1 _ e; omega
        go_region_held3 (fun w' => w'.cell? ⟨bx, 0, none⟩ = some (.slice (some ⟨g1, o1, none⟩) rest.length c1) ∧ w'.cell? ⟨g1, o1, none⟩ = some (.int .i64 x0))
          (first
            | go_keep
            | (go_split_ands
               refine ⟨?_, ?_⟩
               · (rw [hgrow.cell_far _ (by simp; omega) (Ne.symm hnb)]; assumption)
               · (rw [hgrow.cell_far _ (by simp; omega) (Ne.symm hng)]; assumption)))
          ((refine step_app (by rfl) _ _ 29 (by rfl) (bx + 1) 5 (.int .u8 0) 1 1 Tryz.underlying29 infoByte rfl (by decide) (by decide) u6 acc.length (acc.map (Value.int .u8)) (by rfl) ((HS2.out.kp (by (repeat (first | exact Kp.refl _ _ | assumption | refine Kp.drew ?_ | refine Kp.drewN ?_ _ | refine Kp.alloc ?_ _ | (refine Kp.setCell ?_ (by first | (left; simp; done) | (right; simp; try omega)) _) | (refine Kp.trans' ?_ (by assumption) (by simp; try omega)))))).2.2.2.1) w2.heap.size 0 2 2 [.int .u8 (x0 / 256 % 256), .int .u8 (x0 % 256)] (by rfl) (by rfl) (news_of_heap (heap_alloc_new w2 _)) (by intro u hu; simp at hu; rcases hu with rfl | rfl <;> rfl) (by omega) (by simp; omega) ?_; intro v7 w3 hown hgrow))
        have hs3 : PutSt w w3 bx (.slice (some ⟨g1, o1, none⟩) rest.length c1) rest (acc ++ by2 x0) v7 := HS2.out.app (by (repeat (first | exact Kp.refl _ _ | assumption | refine Kp.drew ?_ | refine Kp.drewN ?_ _ | refine Kp.alloc ?_ _ | (refine Kp.setCell ?_ (by first | (left; simp; done) | (right; simp; try omega)) _) | (refine Kp.trans' ?_ (by assumption) (by simp; try omega))))) (news := by2 x0) hown hgrow
        have hl3 : (acc ++ by2 x0).length = acc.length + 2 := by simp [by2]
        have hl3b : (acc ++ by2 x0).length ≤ acc.length + 2 := by omega
        have HL3 := Lib.hid hl3
        clear hl3 hown hgrow hcx2 hfx2 q02 hk2 HS2 hnb hng
        have hcx3 := cell_of_one hs3.1
        have hfx3 := free_of_one hs3.1
        have HS3 := Lib.hid hs3
        clear hs3
        generalize hac : acc ++ by2 x0 = ac3 at *
        obtain ⟨p7, m7, rfl⟩ := slice_own HS3.out.2.2.2.1
        go_wp2_with (at_builtin; refine wpList_app rfl _ _ 29 rfl (bx + 1) 5 (.int .u8 0) 1 1 Tryz.underlying29 infoByte rfl (by decide) (by decide) (.slice p7 ac3.length m7) ac3.length (ac3.map (Value.int .u8)) rfl ?hown (.slice (some ⟨w3.heap.size, 0, none⟩) 1 1) 1 [.int .u8 (((n : Int) - 1) / 256)] rfl ?hsrc ?hone ?hb1 ?hb2 ?hk)
        case hown => exact (HS3.out.kp ((Kp.refl _ _).alloc _)).2.2.2.1
        case hsrc => exact Reads.made _ _ 1 1 [.int .u8 (((n : Int) - 1) / 256)] _ rfl rfl (by decide)
        case hone => intro u hu; simp at hu; subst hu; rfl
        case hb1 => omega
        case hb2 => have := HS3.out.2.2.2.2.2.1; simp; omega
        case hk =>
        intro v8 w4 hown hgrow
        have hs4 : PutSt w w4 bx (.slice (some ⟨g1, o1, none⟩) rest.length c1) rest (ac3 ++ [((n : Int) - 1) / 256]) v8 := HS3.out.app ((Kp.refl _ _).alloc _) (news := [((n : Int) - 1) / 256]) hown hgrow
        have HL4 : Hid ((ac3 ++ [((n : Int) - 1) / 256]).length = ac3.length + 1) := by simp [Hid]
        have hl4b : (ac3 ++ [((n : Int) - 1) / 256]).length ≤ ac3.length + 1 := by simp
        clear hown hgrow hcx3 hfx3
        have hcx4 := cell_of_one hs4.1
        have hfx4 := free_of_one hs4.1
        have HS4 := Lib.hid hs4
        clear hs4 HS3
        generalize hac4 : ac3 ++ [((n : Int) - 1) / 256] = ac4 at *
        obtain ⟨p8, m8, rfl⟩ := slice_own HS4.out.2.2.2.1
        go_wp2_with (at_builtin; refine wpList_app rfl _ _ 29 rfl (bx + 1) 5 (.int .u8 0) 1 1 Tryz.underlying29 infoByte rfl (by decide) (by decide) (.slice p8 ac4.length m8) ac4.length (ac4.map (Value.int .u8)) rfl ?hown (.slice (some ⟨w4.heap.size, 0, none⟩) 1 1) 1 [.int .u8 (((n : Int) - 1) % 256)] rfl ?hsrc ?hone ?hb1 ?hb2 ?hk)
        case hown => exact (HS4.out.kp ((Kp.refl _ _).alloc _)).2.2.2.1
        case hsrc => exact Reads.made _ _ 1 1 [.int .u8 (((n : Int) - 1) % 256)] _ rfl rfl (by decide)
        case hone => intro u hu; simp at hu; subst hu; rfl
        case hb1 => omega
        case hb2 => have := HS4.out.2.2.2.2.2.1; simp; omega
        case hk =>
        intro v9 w5 hown hgrow
        have hs5 : PutSt w w5 bx (.slice (some ⟨g1, o1, none⟩) rest.length c1) rest (ac4 ++ [((n : Int) - 1) % 256]) v9 := HS4.out.app ((Kp.refl _ _).alloc _) (news := [((n : Int) - 1) % 256]) hown hgrow
        have HL5 : Hid ((ac4 ++ [((n : Int) - 1) % 256]).length = ac4.length + 1) := by simp [Hid]
        have hl5b : (ac4 ++ [((n : Int) - 1) % 256]).length ≤ ac4.length + 1 := by simp
        clear hown hgrow hcx4 hfx4
        have hcx5 := cell_of_one hs5.1
        have hfx5 := free_of_one hs5.1
        have HS5 := Lib.hid hs5
        clear hs5 HS4
        generalize hac5 : ac4 ++ [((n : Int) - 1) % 256] = ac5 at *
        obtain ⟨p9, m9, rfl⟩ := slice_own HS5.out.2.2.2.1
        have HAC : Hid (ac5 = ac3 ++ moreB 2 n) := by unfold Hid; rw [← hac5, ← hac4]; have e9 : ((n : Int) - 1) / 256 % 256 = ((n : Int) - 1) / 256 := (by omega); simp [moreB, by2, e9]
        have hlf : ac5.length + 4 * (rest.length - n) ≤ 262145 := by omega
        have hfin := Lib.hid (HS5.out.box n hn2)
        go_wp2_with fail
        go_roundw
        case rel =>
          have hrel2 : PutAt 2 (csPut l 2) ac5 (rest.drop n) := by rw [HAC.out]; exact hstep.out
          first
            | exact ⟨_, rest.drop n, ac5, hfin.out, hrel2, fun x hx => HB2.out x (List.mem_of_mem_drop hx), by simp; omega, by simp; omega⟩
            | (repeat apply Exists.intro; exact ⟨⟨_, rest.drop n, ac5, hfin.out, hrel2, fun x hx => HB2.out x (List.mem_of_mem_drop hx), by simp; omega, by simp; omega⟩, rfl⟩)
        case measure =>
          have e1 : (w5.setCell ⟨bx, 0, none⟩ (.slice (some ⟨g1, cutOff o1 n c1, none⟩) (rest.length - n) (c1 - n))).cell? ⟨bx, 0, none⟩ = some (.slice (some ⟨g1, cutOff o1 n c1, none⟩) (rest.length - n) (c1 - n)) := cell_of_one hfin.out.1
          have e2 : wr.cell? ⟨bx, 0, none⟩ = some (.slice (some ⟨g1, o1, none⟩) rest.length c1) := HCX.out
          rw [e1, e2]
          show rest.length - n < rest.length
          omega
theorem mayPut_true {l : List Int} {f : Int} (h : mayPut l f = true) : 1 ≤ l.length ∧ l.length ≤ 65535 ∧ l.getD 0 0 = 0 ∧ l.all (inB 65535) = true ∧ 0 ≤ f ∧ f ≤ 2 := by
  unfold mayPut at h
  simp only [Bool.and_eq_true, decide_eq_true_eq, beq_iff_eq] at h
  exact ⟨h.1.1.1.1.1, h.1.1.1.1.2, h.1.1.1.2, h.1.1.2, h.1.2, h.2⟩
theorem put_calls (v : Value) (l : List Int) (f : Int) (w : World) (hm : mayPut l f = true) (hz : IsInts .i64 w v l) (hv : ∀ b, blockOf v = some b → b < w.heap.size) :
    Calls Tryz.prog 20 #[v, .int .i64 f] w (Loaded .u8 (some (csPut l f.toNat)) 0 w) := by
  obtain ⟨h1, h2, h0, hb, hf0, hf2⟩ := mayPut_true hm
  have hz2 := hz
  rcases hz with ⟨⟨ad, rfl⟩, rfl⟩ | ⟨g, off, c, rfl, h3, h4, h5⟩
  · simp at h1
  · have hc0 := h5 0 (by omega)
    rw [Nat.add_zero, h0] at hc0
    rcases (show f = 0 ∨ f = 1 ∨ f = 2 by omega) with rfl | rfl | rfl
    · exact put_f0 g off c l w h3 h4 hz2 h1 h2 hc0 hb (hv g ((blockOf_some _ _ _ _ _ _).2 ⟨by omega, rfl⟩))
    · exact put_f1 g off c l w h3 h4 hz2 h1 h2 hc0 hb (hv g ((blockOf_some _ _ _ _ _ _).2 ⟨by omega, rfl⟩))
    · exact put_f2 g off c l w h3 h4 hz2 h1 h2 hc0 hb (hv g ((blockOf_some _ _ _ _ _ _).2 ⟨by omega, rfl⟩))
set_option maxRecDepth 100000 in
set_option maxHeartbeats 1000000 in
theorem put_no (v : Value) (l : List Int) (f : Int) (w : World) (hm : mayPut l f = false) (hz : IsInts .i64 w v l) (hlen : l.length < 4611686018427387904) :
    Calls Tryz.prog 20 #[v, .int .i64 f] w fun e w' => e = .returned (.tuple #[.slice none 0 0, .int .i64 1]) ∧ Kp [] w w' := by
  have hz2 := Lib.hid hz
  by_cases hc : 1 ≤ l.length ∧ l.length ≤ 65535
  · rcases hz with ⟨⟨ad, rfl⟩, rfl⟩ | ⟨g, off, c, rfl, h3, h4, h5⟩
    · simp at hc
    · have hc0 := h5 0 (by omega)
      have hlen0 : 0 < l.length := by omega
      rw [Nat.add_zero] at hc0
      have hg : g < w.heap.size := World.block_lt_of_cell? w _ hc0
      clear h5
      by_cases h0 : l.getD 0 0 = 0
      · rw [h0] at hc0
        cases hb : l.all (inB 65535)
        · have HB := Lib.hid hb
          clear hb hm
          go_enter Tryz.func20, Tryz.ntmps20
          go_wp2_with fail
          refine (count_yes _ (by omega) (by omega) _).mono ?_; rintro e w' ⟨rfl, rfl⟩
          go_wp2_with fail
          refine (within_calls _ l 65535 _ (hz2.out.kp (S := []) ((Kp.refl _ _).alloc _) (by simp))).mono ?_; rintro e w1 ⟨rfl, hk1⟩
          rw [HB.out]
          go_wp2_with fail
          go_ret2
          exact ⟨rfl, ((Kp.refl _ _).alloc _).trans hk1⟩
        · have HB := Lib.hid hb
          have hf : f < 0 ∨ 2 < f := by
            apply Classical.byContradiction
            intro hn
            have : mayPut l f = true := by unfold mayPut; simp [hc, hb]; simp only [List.getD_eq_getElem?_getD] at h0; exact ⟨⟨h0, by omega⟩, by omega⟩
            rw [hm] at this; exact absurd this (by simp)
          clear hb hm
          by_cases hf1 : f < 0
          · go_enter Tryz.func20, Tryz.ntmps20
            go_wp2_with fail
            refine (count_yes _ (by omega) (by omega) _).mono ?_; rintro e w' ⟨rfl, rfl⟩
            go_wp2_with fail
            refine (within_calls _ l 65535 _ (hz2.out.kp (S := []) ((Kp.refl _ _).alloc _) (by simp))).mono ?_; rintro e w1 ⟨rfl, hk1⟩
            rw [HB.out]
            go_wp2_with fail
            go_ret2
            exact ⟨rfl, ((Kp.refl _ _).alloc _).trans hk1⟩
          · have hf2 : 2 < f := by omega
            have hf3 : decide (f < 0) = false := by simpa using hf1
            clear hf
            go_enter Tryz.func20, Tryz.ntmps20
            go_wp2_with fail
            refine (count_yes _ (by omega) (by omega) _).mono ?_; rintro e w' ⟨rfl, rfl⟩
            go_wp2_with fail
            refine (within_calls _ l 65535 _ (hz2.out.kp (S := []) ((Kp.refl _ _).alloc _) (by simp))).mono ?_; rintro e w1 ⟨rfl, hk1⟩
            rw [HB.out]
            go_wp2_with fail
            go_ret2
            exact ⟨rfl, ((Kp.refl _ _).alloc _).trans hk1⟩
      · have hb0 : (l.getD 0 0 != 0) = true := by rw [bne_iff_ne]; exact h0
        clear h0 hm
        generalize l.getD 0 0 = x0 at *
        go_enter Tryz.func20, Tryz.ntmps20
        go_wp2_with fail
        refine (count_yes _ (by omega) (by omega) _).mono ?_; rintro e w' ⟨rfl, rfl⟩
        go_wp2_with fail
        go_ret2
        exact ⟨rfl, (Kp.refl _ _).alloc _⟩
  · obtain ⟨p, c, rfl⟩ : ∃ p c, v = .slice p l.length c := by
      rcases hz with ⟨⟨ad, rfl⟩, rfl⟩ | ⟨g, off, c, rfl, _⟩
      · exact ⟨_, 0, rfl⟩
      · exact ⟨_, c, rfl⟩
    clear hz hm
    go_enter Tryz.func20, Tryz.ntmps20
    go_wp2_with fail
    refine (count_no _ (by omega) _).mono ?_; rintro e w' ⟨rfl, rfl⟩
    go_wp2_with fail
    go_ret2
    exact ⟨rfl, (Kp.refl _ _).alloc _⟩
end Go.Proofs.YtlhkaoccnpgkeaaGreat.Ch

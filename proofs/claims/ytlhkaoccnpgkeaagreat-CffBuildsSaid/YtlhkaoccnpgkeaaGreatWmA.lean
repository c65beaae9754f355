/- The contracts of the layer wire: the reader · The contracts of the layer wire: the reader's numbers · The contracts of the reference of the layer wire: the reader · The reference's Bytes: a number's lowest n bytes. (Written by wip/wire/genbytes.py.) · The contracts of the layer wire: the writer that has room. (Written by wip/wire/genwriter.py.) · The contracts of the layer wire: slices.Clone, the writer's end · The contracts of the layer wire: Data of the writer that has room; the reference's writer. --prune · Bytes as a text: 'string(b)'. (Merged by wip/tools/mergetpl.py out of WireA, WireB, WireC, WireD, WireE, WireF, WireG, Str.) -/
import Derived.Test.YtlhkaoccnpgkeaaGreatRows
import Derived.Test.YtlhkaoccnpgkeaaGreatMem
import Derived.Test.YtlhkaoccnpgkeaaGreatBits
import Derived.WalkKit
import Derived.ProofKit
import Derived.BigQuiet
import Derived.Deep.QuietTactic
import Derived.WalkLawsBesides
import Derived.WalkSpells
import Derived.Test.YtlhkaoccnpgkeaaGreatApp
import Derived.Lib.Hide
import Derived.Deep.RegionHeld3
import Derived.Deep.RegionLaw
import Derived.Deep.AppendLies
import Derived.Laws.BytesString
import Derived.Laws.Cells
namespace Go.Proofs.YtlhkaoccnpgkeaaGreat
open Go.RowKit
set_option linter.unusedVariables false
set_option linter.unusedSimpArgs false

/-- Block r is a reader over the bytes of v, at a place, bad or not. -/
def Rdr (w : World) (r : Nat) (v : Value) (at_ : Int) (bad : Bool) : Prop := w.heap[r]? = some (.cells #[v, .int .i64 at_, .bool bad] 197 (0, 0))
theorem Rdr.kp {S : List Nat} {w w' : World} {r : Nat} {v : Value} {k : Int} {bad : Bool} (h : Rdr w r v k bad) (hk : Kp S w w') (hr : r ∉ S) : Rdr w' r v k bad := hk.heap h hr
theorem Rdr.facts {w : World} {r : Nat} {v : Value} {k : Int} {bad : Bool} (h : Rdr w r v k bad) :
    w.cell? ⟨r, 0, none⟩ = some v ∧ w.cell? ⟨r, 1, none⟩ = some (.int .i64 k) ∧ w.cell? ⟨r, 2, none⟩ = some (.bool bad) ∧ w.frozen? ⟨r, 1, none⟩ = false ∧ w.frozen? ⟨r, 2, none⟩ = false :=
  ⟨by rw [cell_of_row w r 0 _ _ _ h]; rfl, by rw [cell_of_row w r 1 _ _ _ h]; rfl, by rw [cell_of_row w r 2 _ _ _ h]; rfl, frozen_of_row w r 1 _ _ h, frozen_of_row w r 2 _ _ h⟩
theorem Rdr.setAt {w : World} {r : Nat} {v : Value} {k : Int} {bad : Bool} (h : Rdr w r v k bad) (m : Int) : Rdr (w.setCell ⟨r, 1, none⟩ (.int .i64 m)) r v m bad := heap_setCell_same w r 1 _ _ _ h
theorem Rdr.setBad {w : World} {r : Nat} {v : Value} {k : Int} {bad : Bool} (h : Rdr w r v k bad) (m : Bool) : Rdr (w.setCell ⟨r, 2, none⟩ (.bool m)) r v k m := heap_setCell_same w r 2 _ _ _ h

theorem new_calls (v : Value) (a : Option Addr) (n c : Nat) (hv : v = .slice a n c) (w : World) :
    Calls Tryz.prog 104 #[v] w fun e w' => e = .returned (.pointer (some ⟨w.heap.size, 0, none⟩)) ∧ w' = w.alloc (.cells #[v, .int .i64 0, .bool false] 197) := by
  subst hv
  go_enter Tryz.func104, Tryz.ntmps104
  go_wp2
  go_ret
  exact ⟨rfl, rfl⟩
theorem wrong_calls (r : Nat) (v : Value) (k : Int) (bad : Bool) (w : World) (h : Rdr w r v k bad) :
    Calls Tryz.prog 138 #[.pointer (some ⟨r, 0, none⟩)] w fun e w' => e = .returned (.bool bad) ∧ w = w' := by
  obtain ⟨c0, c1, c2, f1, f2⟩ := h.facts
  go_enter Tryz.func138, Tryz.ntmps138
  go_wp2
  go_ret
  exact ⟨rfl, rfl⟩
theorem done_calls (r : Nat) (v : Value) (k : Int) (bad : Bool) (w : World) (h : Rdr w r v k bad) :
    Calls Tryz.prog 108 #[.pointer (some ⟨r, 0, none⟩)] w fun e w' => e = .returned (.int .i64 (bif bad then 30 else 0)) ∧ w = w' := by
  cases bad
  all_goals
    go_enter Tryz.func108, Tryz.ntmps108
    go_wp2_with fail
    refine (wrong_calls _ _ _ _ _ h).mono ?_; rintro e w' ⟨rfl, rfl⟩
    go_wp2
    go_ret
    exact ⟨rfl, rfl⟩
theorem spoil_calls (r : Nat) (v : Value) (k : Int) (bad : Bool) (w : World) (h : Rdr w r v k bad) :
    Calls Tryz.prog 177 #[.pointer (some ⟨r, 0, none⟩)] w fun e w' => e = .returned (.tuple #[]) ∧ w' = w.setCell ⟨r, 2, none⟩ (.bool true) := by
  obtain ⟨c0, c1, c2, f1, f2⟩ := h.facts
  go_enter Tryz.func177, Tryz.ntmps177
  go_wp2
  go_end0
  exact ⟨rfl, rfl⟩
theorem next_bad (r : Nat) (v : Value) (k n : Int) (w : World) (h : Rdr w r v k true) :
    Calls Tryz.prog 143 #[.pointer (some ⟨r, 0, none⟩), .int .i64 n] w fun e w' => e = .returned (.slice none 0 0) ∧ Rdr w' r v k true ∧ Kp [r] w w' := by
  go_enter Tryz.func143, Tryz.ntmps143
  go_wp2
  go_quiet ((go_at_call 138; exact Calls.quiet_of_same ((wrong_calls r v k true _ (by exact h)).mono fun _ _ ⟨a, b⟩ => ⟨a, b.symm⟩)))
  go_wp2_with fail
  refine (spoil_calls r v k true _ (by exact h)).mono ?_; rintro e w' ⟨rfl, rfl⟩
  go_wp2_with fail
  go_ret
  exact ⟨rfl, Rdr.setBad (by exact h) _, ((Kp.refl [r] w).drewN _).setCell (.inl (by simp)) _⟩
theorem next_short (r : Nat) (a : Option Addr) (N c k : Nat) (n : Int) (w : World) (h : Rdr w r (.slice a N c) k false) (h1 : 0 ≤ n) (h2 : (N : Int) - k < n) (hN : N ≤ maxLen) (hk : k ≤ N) :
    Calls Tryz.prog 143 #[.pointer (some ⟨r, 0, none⟩), .int .i64 n] w fun e w' => e = .returned (.slice none 0 0) ∧ Rdr w' r (.slice a N c) k true ∧ Kp [r] w w' := by
  obtain ⟨c0, c1, c2, f1, f2⟩ := h.facts
  unfold maxLen at hN
  have hlt : decide (n < 0) = false := by simpa using h1
  go_enter Tryz.func143, Tryz.ntmps143
  go_wp2
  go_quiet ((go_at_call 138; exact Calls.quiet_of_same ((wrong_calls r (.slice a N c) k false _ (by exact h)).mono fun _ _ ⟨a, b⟩ => ⟨a, b.symm⟩)))
  go_wp2_with fail
  refine (spoil_calls r (.slice a N c) k false _ (by exact h)).mono ?_; rintro e w' ⟨rfl, rfl⟩
  go_wp2_with fail
  go_ret
  exact ⟨rfl, Rdr.setBad (by exact h) _, ((Kp.refl [r] w).drewN _).setCell (.inl (by simp)) _⟩
theorem next_ok (r g off N c k m : Nat) (n : Int) (hn : n = m) (w : World) (h : Rdr w r (.slice (some ⟨g, off, none⟩) N c) k false) (h1 : 1 ≤ n) (h2 : n ≤ (N : Int) - k) (hN : N ≤ c) (hc : c ≤ maxLen) :
    Calls Tryz.prog 143 #[.pointer (some ⟨r, 0, none⟩), .int .i64 n] w fun e w' => e = .returned (.slice (some ⟨g, off + k, none⟩) m (c - k)) ∧ Rdr w' r (.slice (some ⟨g, off, none⟩) N c) ((k + m : Nat) : Int) false ∧ Kp [r] w w' := by
  subst hn
  obtain ⟨c0, c1, c2, f1, f2⟩ := h.facts
  unfold maxLen at hc
  have hlt : decide ((m : Int) < 0) = false := by simp
  go_enter Tryz.func143, Tryz.ntmps143
  go_wp2
  go_quiet ((go_at_call 138; exact Calls.quiet_of_same ((wrong_calls r (.slice (some ⟨g, off, none⟩) N c) k false _ (by exact h)).mono fun _ _ ⟨a, b⟩ => ⟨a, b.symm⟩)))
  go_wp2_with fail
  go_quiet (fail)
  go_wp2
  go_ret
  refine ⟨?_, Rdr.setAt (k := (k : Int)) (by exact h) _, by (repeat (first | exact Kp.refl _ _ | assumption | refine Kp.drew ?_ | refine Kp.drewN ?_ _ | refine Kp.alloc ?_ _ | (refine Kp.setCell ?_ (by first | (left; simp; done) | (right; simp; try omega)) _) | (refine Kp.trans' ?_ (by assumption) (by simp; try omega))))⟩
  simp
end Go.Proofs.YtlhkaoccnpgkeaaGreat
namespace Go.Proofs.YtlhkaoccnpgkeaaGreat
open Go.RowKit
set_option linter.unusedVariables false
set_option linter.unusedSimpArgs false
/-- The number that bytes are, the highest first. -/
def beN (l : List Int) : Int := l.foldl (fun x c => x * 256 + c) 0
theorem beN_snoc (l : List Int) (c : Int) : beN (l ++ [c]) = beN l * 256 + c := by simp [beN]
theorem beN_acc (l : List Int) (h : ∀ c ∈ l, 0 ≤ c ∧ c ≤ 255) : ∀ (x : Int) (j : Nat), 0 ≤ x → x < (256 ^ j : Nat) → 0 ≤ l.foldl (fun x c => x * 256 + c) x ∧ l.foldl (fun x c => x * 256 + c) x < (256 ^ (j + l.length) : Nat) := by
  induction l with
  | nil => intro x j h0 h1; exact ⟨h0, h1⟩
  | cons c l ih =>
    intro x j h0 h1
    have h2 := h c (by simp)
    have := ih (fun y hy => h y (by simp [hy])) (x * 256 + c) (j + 1) (by omega) (by rw [Nat.pow_succ]; generalize 256 ^ j = P at *; omega)
    rw [List.foldl_cons, List.length_cons, show j + (l.length + 1) = j + 1 + l.length by omega]
    exact this
theorem beN_lt (l : List Int) (h : ∀ c ∈ l, 0 ≤ c ∧ c ≤ 255) : 0 ≤ beN l ∧ beN l < (256 ^ l.length : Nat) := by
  have := beN_acc l h 0 0 (by omega) (by simp)
  simpa [beN] using this
/-- The bytes of one number. -/
def cutB (zs : List Int) (k m : Nat) : List Int := (zs.drop k).take m
theorem cutB_succ (zs : List Int) (k i : Nat) (h : k + i < zs.length) : cutB zs k (i + 1) = cutB zs k i ++ [zs.getD (k + i) 0] := by
  unfold cutB
  rw [List.take_succ_eq_append_getElem (by simp; omega), List.getElem_drop, List.getD_eq_getElem?_getD, List.getElem?_eq_getElem h]; rfl
theorem cutB_mem (zs : List Int) (k i : Nat) (h : ∀ c ∈ zs, 0 ≤ c ∧ c ≤ 255) : ∀ c ∈ cutB zs k i, 0 ≤ c ∧ c ≤ 255 :=
  fun c hc => h c (List.mem_of_mem_drop (List.mem_of_mem_take hc))
theorem getD_mem_bounds (zs : List Int) (i : Nat) (h : ∀ c ∈ zs, 0 ≤ c ∧ c ≤ 255) : 0 ≤ zs.getD i 0 ∧ zs.getD i 0 ≤ 255 := by
  rw [List.getD_eq_getElem?_getD]
  by_cases hi : i < zs.length
  · rw [List.getElem?_eq_getElem hi]; exact h _ (List.getElem_mem hi)
  · rw [List.getElem?_eq_none (by omega)]; simp
theorem pow256_le (i : Nat) (h : i ≤ 3) : (256 ^ i : Nat) ≤ 16777216 := Nat.le_trans (Nat.pow_le_pow_right (by decide) h) (by decide)
theorem number_ok (r : Nat) (v : Value) (zs : List Int) (k m : Nat) (n : Int) (hn : n = m) (w : World) (h : Rdr w r v k false) (hz : IsInts .u8 w v zs) (hb : ∀ c ∈ zs, 0 ≤ c ∧ c ≤ 255) (hr : blockOf v ≠ some r)
    (h1 : 1 ≤ m) (h4 : m ≤ 4) (h2 : k + m ≤ zs.length) :
    Calls Tryz.prog 139 #[.pointer (some ⟨r, 0, none⟩), .int .i64 n] w fun e w' => e = .returned (.int .i64 (beN (cutB zs k m))) ∧ Rdr w' r v ((k + m : Nat) : Int) false ∧ Kp [r] w w' := by
  rcases hz with ⟨⟨ad, rfl⟩, rfl⟩ | ⟨g, off, c, rfl, hN, hc, hcell⟩
  · simp at h2; omega
  · subst hn
    have hg : g ≠ r := fun e => hr ((blockOf_some _ _ _ _ _ _).2 ⟨by omega, e⟩)
    have hB : Hid _ := hb
    clear hb hr
    go_enter Tryz.func139, Tryz.ntmps139
    go_wp2_with fail
    refine (next_ok r g off zs.length c k m m rfl _ (by exact h) (by omega) (by omega) hN hc).mono ?_; rintro e w1 ⟨rfl, hr1, hk1⟩
    have hcell1 : Hid (∀ i, i < zs.length → w1.cell? ⟨g, off + i, none⟩ = some (.int .u8 (zs.getD i 0))) := fun i hi => hk1.cell (hcell i hi) (by simpa using hg)
    clear hcell
    go_wp2_with fail
    go_loop [5, 7, 12] (fun x _ i => ∃ j : Nat, j ≤ m ∧ i = .int .i64 j ∧ x = .int .i64 (beN (cutB zs k j))) (fun _ _ i => m - (intOf i).toNat)
    case atStart => exact ⟨0, by omega, rfl, by simp [cutB, beN]⟩
    case round =>
      obtain ⟨j, hj, rfl, rfl⟩ := hrel
      by_cases hlt : j < m
      · have hcl := hcell1.out (k + j) (by omega)
        rw [← Nat.add_assoc] at hcl
        have hs := cutB_succ zs k j (by omega)
        have hbn := beN_lt (cutB zs k j) (cutB_mem zs k j hB.out)
        have hl : (cutB zs k j).length = j := by simp [cutB]; omega
        rw [hl] at hbn
        have hp := pow256_le j (by omega)
        obtain ⟨z0, z1⟩ := getD_mem_bounds zs (k + j) hB.out
        have hor := i64_or8 (beN (cutB zs k j)) (zs.getD (k + j) 0) (by omega) (by omega) z0 (by omega)
        have hs2 : Hid (beN (cutB zs k (j + 1)) = beN (cutB zs k j) * 256 + zs.getD (k + j) 0) := by unfold Hid; rw [hs, beN_snoc]
        obtain ⟨b0, b1⟩ := hbn
        have b2 : beN (cutB zs k j) ≤ 16777216 := by omega
        clear hs hl hp b1
        generalize zs.getD (k + j) 0 = z at *
        generalize beN (cutB zs k j) = x at *
        go_wp2
        go_round
        case rel => exact ⟨j + 1, by omega, by go_num, by rw [hs2.out]⟩
        case measure => simp [intOf]; omega
      · obtain rfl : j = m := by omega
        go_wp2
        go_ret
        exact ⟨by simp, hr1, hk1⟩
theorem number_bad (r : Nat) (v : Value) (k : Int) (n : Int) (w : World) (h : Rdr w r v k true) :
    Calls Tryz.prog 139 #[.pointer (some ⟨r, 0, none⟩), .int .i64 n] w fun e w' => e = .returned (.int .i64 0) ∧ Rdr w' r v k true ∧ Kp [r] w w' := by
  go_enter Tryz.func139, Tryz.ntmps139
  go_wp2_with fail
  refine (next_bad r v k n _ (by exact h)).mono ?_; rintro e w1 ⟨rfl, hr1, hk1⟩
  go_wp2_with fail
  go_loop [5, 7, 12] (fun x _ i => x = .int .i64 0 ∧ i = .int .i64 0) (fun _ _ i => 0)
  case atStart => exact ⟨rfl, rfl⟩
  case round =>
    obtain ⟨rfl, rfl⟩ := hrel
    go_wp2
    go_ret
    exact ⟨by simp, hr1, hk1⟩
theorem number_short (r : Nat) (v : Value) (zs : List Int) (k : Nat) (n : Int) (w : World) (h : Rdr w r v k false) (hz : IsInts .u8 w v zs) (h1 : 0 ≤ n) (h2 : (zs.length : Int) - k < n) (hk : k ≤ zs.length) :
    Calls Tryz.prog 139 #[.pointer (some ⟨r, 0, none⟩), .int .i64 n] w fun e w' => e = .returned (.int .i64 0) ∧ Rdr w' r v k true ∧ Kp [r] w w' := by
  have hle := hz.le
  obtain ⟨a, c, rfl⟩ : ∃ a c, v = .slice a zs.length c := by
    rcases hz with ⟨⟨ad, rfl⟩, rfl⟩ | ⟨g, off, c, rfl, _⟩
    · exact ⟨_, 0, rfl⟩
    · exact ⟨_, c, rfl⟩
  go_enter Tryz.func139, Tryz.ntmps139
  go_wp2_with fail
  refine (next_short r a zs.length c k n _ (by exact h) h1 h2 hle hk).mono ?_; rintro e w1 ⟨rfl, hr1, hk1⟩
  go_wp2_with fail
  go_loop [5, 7, 12] (fun x _ i => x = .int .i64 0 ∧ i = .int .i64 0) (fun _ _ i => 0)
  case atStart => exact ⟨rfl, rfl⟩
  case round =>
    obtain ⟨rfl, rfl⟩ := hrel
    go_wp2
    go_ret
    exact ⟨by simp, hr1, hk1⟩
/-- What a reader of 'zs' at place k is behind a read of m bytes: is it bad, where is it, what was read. -/
def rdB (zs : List Int) (k : Nat) (bad : Bool) (m : Nat) : Bool := bad || decide (zs.length < k + m)
def rdK (zs : List Int) (k : Nat) (bad : Bool) (m : Nat) : Nat := if rdB zs k bad m then k else k + m
def rdV (zs : List Int) (k : Nat) (bad : Bool) (m : Nat) : Int := if rdB zs k bad m then 0 else beN (cutB zs k m)
theorem rdK_le (zs : List Int) (k : Nat) (bad : Bool) (m : Nat) (h : k ≤ zs.length) : rdK zs k bad m ≤ zs.length := by
  unfold rdK rdB; cases bad <;> simp <;> (try split) <;> omega
theorem rdV_bounds (zs : List Int) (k : Nat) (bad : Bool) (m : Nat) (hb : ∀ c ∈ zs, 0 ≤ c ∧ c ≤ 255) : 0 ≤ rdV zs k bad m ∧ rdV zs k bad m < (256 ^ m : Nat) := by
  unfold rdV
  have hp : 0 < 256 ^ m := Nat.pow_pos (by decide)
  split
  · omega
  · have := beN_lt (cutB zs k m) (cutB_mem zs k m hb)
    have hl : (cutB zs k m).length ≤ m := by simp [cutB]; omega
    have := Nat.pow_le_pow_right (n := 256) (by decide) hl
    omega
theorem number_calls (r : Nat) (v : Value) (zs : List Int) (k m : Nat) (bad : Bool) (n : Int) (hn : n = m) (w : World) (h : Rdr w r v k bad) (hz : IsInts .u8 w v zs) (hb : ∀ c ∈ zs, 0 ≤ c ∧ c ≤ 255) (hr : blockOf v ≠ some r)
    (h1 : 1 ≤ m) (h4 : m ≤ 4) (hk : k ≤ zs.length) :
    Calls Tryz.prog 139 #[.pointer (some ⟨r, 0, none⟩), .int .i64 n] w fun e w' => e = .returned (.int .i64 (rdV zs k bad m)) ∧ Rdr w' r v (rdK zs k bad m : Nat) (rdB zs k bad m) ∧ Kp [r] w w' := by
  cases bad
  · by_cases h2 : zs.length < k + m
    · have e1 : rdB zs k false m = true := by simp [rdB, h2]
      unfold rdV rdK; rw [e1]
      exact number_short r v zs k n w h hz (by omega) (by omega) hk
    · have e1 : rdB zs k false m = false := by simp [rdB]; omega
      unfold rdV rdK; rw [e1]
      exact number_ok r v zs k m n hn w h hz hb hr h1 h4 (by omega)
  · have e1 : rdB zs k true m = true := by simp [rdB]
    unfold rdV rdK; rw [e1]
    exact number_bad r v k n w h
theorem u8_calls (r : Nat) (v : Value) (zs : List Int) (k : Nat) (bad : Bool) (w : World) (h : Rdr w r v k bad) (hz : IsInts .u8 w v zs) (hb : ∀ c ∈ zs, 0 ≤ c ∧ c ≤ 255) (hr : blockOf v ≠ some r) (hk : k ≤ zs.length) :
    Calls Tryz.prog 106 #[.pointer (some ⟨r, 0, none⟩)] w fun e w' => e = .returned (.int .i64 (rdV zs k bad 1)) ∧ Rdr w' r v (rdK zs k bad 1 : Nat) (rdB zs k bad 1) ∧ Kp [r] w w' := by
  go_enter Tryz.func106, Tryz.ntmps106
  go_wp2_with fail
  refine (number_calls r v zs k 1 bad 1 rfl w h hz hb hr (by omega) (by omega) hk).mono ?_; rintro e w1 ⟨rfl, hr1, hk1⟩
  go_wp2_with fail
  go_ret
  exact ⟨by simp, hr1, hk1⟩
theorem u16_calls (r : Nat) (v : Value) (zs : List Int) (k : Nat) (bad : Bool) (w : World) (h : Rdr w r v k bad) (hz : IsInts .u8 w v zs) (hb : ∀ c ∈ zs, 0 ≤ c ∧ c ≤ 255) (hr : blockOf v ≠ some r) (hk : k ≤ zs.length) :
    Calls Tryz.prog 109 #[.pointer (some ⟨r, 0, none⟩)] w fun e w' => e = .returned (.int .i64 (rdV zs k bad 2)) ∧ Rdr w' r v (rdK zs k bad 2 : Nat) (rdB zs k bad 2) ∧ Kp [r] w w' := by
  go_enter Tryz.func109, Tryz.ntmps109
  go_wp2_with fail
  refine (number_calls r v zs k 2 bad 2 rfl w h hz hb hr (by omega) (by omega) hk).mono ?_; rintro e w1 ⟨rfl, hr1, hk1⟩
  go_wp2_with fail
  go_ret
  exact ⟨by simp, hr1, hk1⟩
theorem u32_calls (r : Nat) (v : Value) (zs : List Int) (k : Nat) (bad : Bool) (w : World) (h : Rdr w r v k bad) (hz : IsInts .u8 w v zs) (hb : ∀ c ∈ zs, 0 ≤ c ∧ c ≤ 255) (hr : blockOf v ≠ some r) (hk : k ≤ zs.length) :
    Calls Tryz.prog 175 #[.pointer (some ⟨r, 0, none⟩)] w fun e w' => e = .returned (.int .i64 (rdV zs k bad 4)) ∧ Rdr w' r v (rdK zs k bad 4 : Nat) (rdB zs k bad 4) ∧ Kp [r] w w' := by
  go_enter Tryz.func175, Tryz.ntmps175
  go_wp2_with fail
  refine (number_calls r v zs k 4 bad 4 rfl w h hz hb hr (by omega) (by omega) hk).mono ?_; rintro e w1 ⟨rfl, hr1, hk1⟩
  go_wp2_with fail
  go_ret
  exact ⟨by simp, hr1, hk1⟩
/-- A number of 16 bits, with its sign. -/
def s16 (x : Int) : Int := if 32768 ≤ x then x - 65536 else x
theorem wrap16_s16 (x : Int) (h0 : 0 ≤ x) (h1 : x < 65536) : IntKind.i16.wrap x = s16 x := by
  unfold s16; by_cases h : 32768 ≤ x <;> simp [IntKind.wrap, IntKind.signed, IntKind.bits, h] <;> omega
theorem s16_bounds (x : Int) (h0 : 0 ≤ x) (h1 : x < 65536) : -32768 ≤ s16 x ∧ s16 x ≤ 32767 := by
  unfold s16; split <;> omega
theorem i16_calls (r : Nat) (v : Value) (zs : List Int) (k : Nat) (bad : Bool) (w : World) (h : Rdr w r v k bad) (hz : IsInts .u8 w v zs) (hb : ∀ c ∈ zs, 0 ≤ c ∧ c ≤ 255) (hr : blockOf v ≠ some r) (hk : k ≤ zs.length) :
    Calls Tryz.prog 174 #[.pointer (some ⟨r, 0, none⟩)] w fun e w' => e = .returned (.int .i64 (s16 (rdV zs k bad 2))) ∧ Rdr w' r v (rdK zs k bad 2 : Nat) (rdB zs k bad 2) ∧ Kp [r] w w' := by
  obtain ⟨q0, q1⟩ := rdV_bounds zs k bad 2 hb
  have e1 := wrap16_s16 _ q0 q1
  have e2 : Hid _ := e1
  obtain ⟨q2, q3⟩ := s16_bounds _ q0 q1
  clear e1
  go_enter Tryz.func174, Tryz.ntmps174
  go_wp2_with fail
  refine (number_calls r v zs k 2 bad 2 rfl w h hz hb hr (by omega) (by omega) hk).mono ?_; rintro e w1 ⟨rfl, hr1, hk1⟩
  generalize hy : rdV zs k bad 2 = y at e2 q0 q1 q2 q3 ⊢
  have e4 : Hid (s16 y = s16 (rdV zs k bad 2)) := by rw [hy]; rfl
  clear hy
  have e3 := e2.out
  go_wp2_with fail
  go_ret
  exact ⟨by rw [← e4.out]; simp, hr1, hk1⟩
end Go.Proofs.YtlhkaoccnpgkeaaGreat
namespace Go.Proofs.YtlhkaoccnpgkeaaGreat
open Go.RowKit
set_option linter.unusedVariables false
set_option linter.unusedSimpArgs false
theorem infoByte : (Tryz.prog.info? 5).map (fun i => (i.zero, i.size, i.bytes)) = some (some (.int .u8 0), 1, 1) := by kernel_rfl

/-- Block r is a reader of the reference over the bytes of v, at a place, bad or not. -/
def Rrd (w : World) (r : Nat) (v : Value) (at_ : Int) (bad : Bool) : Prop := w.heap[r]? = some (.cells #[v, .int .i64 at_, .bool bad] 185 (0, 0))
theorem Rrd.kp {S : List Nat} {w w' : World} {r : Nat} {v : Value} {k : Int} {bad : Bool} (h : Rrd w r v k bad) (hk : Kp S w w') (hr : r ∉ S) : Rrd w' r v k bad := hk.heap h hr
theorem Rrd.facts {w : World} {r : Nat} {v : Value} {k : Int} {bad : Bool} (h : Rrd w r v k bad) :
    w.cell? ⟨r, 0, none⟩ = some v ∧ w.cell? ⟨r, 1, none⟩ = some (.int .i64 k) ∧ w.cell? ⟨r, 2, none⟩ = some (.bool bad) ∧ w.frozen? ⟨r, 1, none⟩ = false ∧ w.frozen? ⟨r, 2, none⟩ = false :=
  ⟨by rw [cell_of_row w r 0 _ _ _ h]; rfl, by rw [cell_of_row w r 1 _ _ _ h]; rfl, by rw [cell_of_row w r 2 _ _ _ h]; rfl, frozen_of_row w r 1 _ _ h, frozen_of_row w r 2 _ _ h⟩
theorem Rrd.setAt {w : World} {r : Nat} {v : Value} {k : Int} {bad : Bool} (h : Rrd w r v k bad) (m : Int) : Rrd (w.setCell ⟨r, 1, none⟩ (.int .i64 m)) r v m bad := heap_setCell_same w r 1 _ _ _ h
theorem Rrd.setBad {w : World} {r : Nat} {v : Value} {k : Int} {bad : Bool} (h : Rrd w r v k bad) (m : Bool) : Rrd (w.setCell ⟨r, 2, none⟩ (.bool m)) r v k m := heap_setCell_same w r 2 _ _ _ h
theorem rtake_bad (r : Nat) (v : Value) (k n : Int) (w : World) (h : Rrd w r v k true) :
    Calls Tryz.prog 129 #[.pointer (some ⟨r, 0, none⟩), .int .i64 n] w fun e w' => e = .returned (.slice none 0 0) ∧ Rrd w' r v k true ∧ Kp [r] w w' := by
  obtain ⟨c0, c1, c2, f1, f2⟩ := h.facts
  go_enter Tryz.func129, Tryz.ntmps129
  go_wp2
  go_quiet (fail)
  go_wp2
  go_ret
  exact ⟨rfl, Rrd.setBad (by exact h) _, by (repeat (first | exact Kp.refl _ _ | assumption | refine Kp.drew ?_ | refine Kp.drewN ?_ _ | refine Kp.alloc ?_ _ | (refine Kp.setCell ?_ (by first | (left; simp; done) | (right; simp; try omega)) _) | (refine Kp.trans' ?_ (by assumption) (by simp; try omega))))⟩
theorem rtake_short (r : Nat) (a : Option Addr) (N c k : Nat) (n : Int) (w : World) (h : Rrd w r (.slice a N c) k false) (h1 : 0 ≤ n) (h2 : (N : Int) - k < n) (hN : N ≤ maxLen) (hk : k ≤ N) :
    Calls Tryz.prog 129 #[.pointer (some ⟨r, 0, none⟩), .int .i64 n] w fun e w' => e = .returned (.slice none 0 0) ∧ Rrd w' r (.slice a N c) k true ∧ Kp [r] w w' := by
  obtain ⟨c0, c1, c2, f1, f2⟩ := h.facts
  unfold maxLen at hN
  have hlt : decide (n < 0) = false := by simpa using h1
  go_enter Tryz.func129, Tryz.ntmps129
  go_wp2
  go_quiet (fail)
  go_wp2
  go_ret
  exact ⟨rfl, Rrd.setBad (by exact h) _, by (repeat (first | exact Kp.refl _ _ | assumption | refine Kp.drew ?_ | refine Kp.drewN ?_ _ | refine Kp.alloc ?_ _ | (refine Kp.setCell ?_ (by first | (left; simp; done) | (right; simp; try omega)) _) | (refine Kp.trans' ?_ (by assumption) (by simp; try omega))))⟩
theorem rtake_ok (r g off N c k m : Nat) (n : Int) (hn : n = m) (zs : List Int) (w : World) (h : Rrd w r (.slice (some ⟨g, off, none⟩) N c) k false) (h1 : 1 ≤ n) (h2 : n ≤ (N : Int) - k) (hN : N ≤ c) (hc : c ≤ maxLen)
    (hl : zs.length = m) (hz : ∀ i, i < m → w.cell? ⟨g, off + k + i, none⟩ = some (.int .u8 (zs.getD i 0))) (hm : m ≤ 4) (hg : g ≠ r) :
    Calls Tryz.prog 129 #[.pointer (some ⟨r, 0, none⟩), .int .i64 n] w fun e w' => ∃ v, e = .returned v ∧ IsInts .u8 w' v zs ∧ Rrd w' r (.slice (some ⟨g, off, none⟩) N c) ((k + m : Nat) : Int) false ∧ Kp [r] w w' ∧ (∀ b, blockOf v = some b → w.heap.size ≤ b) := by
  subst hn
  obtain ⟨c0, c1, c2, f1, f2⟩ := h.facts
  unfold maxLen at hc
  have hlt : decide ((m : Int) < 0) = false := by simp
  have hz2 : Hid _ := hz
  clear hz
  go_enter Tryz.func129, Tryz.ntmps129
  go_wp2
  go_quiet (fail)
  go_wp2_with fail
  go_quiet (fail)
  go_wp2_with (at_builtin; go_loud (refine wpList_app rfl _ _ 29 rfl w.heap.size 5 (.int .u8 0) 1 1 Tryz.underlying29 infoByte rfl (by decide) (by decide) (.slice (some ⟨w.heap.size, 0, none⟩) 0 0) 0 [] rfl ?hown (.slice (some ⟨g, off + k, none⟩) (k + m - k) (c - k)) (k + m - k) (zs.map (Value.int .u8)) rfl ?hsrc (oneCell_ints _ _) ?hb1 ?hb2 ?hk))
  case hown => exact own_empty _ _ _ _ _ (by simp) (by simp)
  case hb1 => omega
  case hb2 => simp
  case hsrc =>
    rw [show k + m - k = m by omega]
    refine Reads.kp (w := w) (S := [r]) ?_ (by (repeat (first | exact Kp.refl _ _ | assumption | refine Kp.drew ?_ | refine Kp.drewN ?_ _ | refine Kp.alloc ?_ _ | (refine Kp.setCell ?_ (by first | (left; simp; done) | (right; simp; try omega)) _) | (refine Kp.trans' ?_ (by assumption) (by simp; try omega))))) (by intro s hs e; simp [Value.ownBlock] at hs e; omega)
    refine ⟨by simp [hl], .inr ⟨g, off + k, _, rfl, by omega, by unfold maxLen; omega, fun j u hu => ?_⟩⟩
    rw [List.getElem?_map] at hu
    by_cases hj : j < m
    · rw [hz2.out j hj, List.getD_eq_getElem?_getD]
      rw [List.getElem?_eq_getElem (by omega)] at hu ⊢
      simpa using hu
    · rw [List.getElem?_eq_none (by omega)] at hu; simp at hu
  case hk =>
    intro v' w2 hown hgr
    go_wp2_with fail
    go_ret
    have hk2 : Kp [r] w w2 := Kp.grown (by (repeat (first | exact Kp.refl _ _ | assumption | refine Kp.drew ?_ | refine Kp.drewN ?_ _ | refine Kp.alloc ?_ _ | (refine Kp.setCell ?_ (by first | (left; simp; done) | (right; simp; try omega)) _) | (refine Kp.trans' ?_ (by assumption) (by simp; try omega))))) hgr (by intro k hk; right; simp [Value.ownBlock] at hk; omega)
    have hk3 := Kp.grown (S := []) ((Kp.refl [] _).alloc _) hgr (by intro k hk; right; simp [Value.ownBlock] at hk; simp; omega)
    refine ⟨v', rfl, IsInts.owned (by rw [← hl] at hown; exact hown), ?_, hk2, fun b hb => (hown.lt b (blockOf_own hb)).1⟩
    have := (Rrd.setAt (k := k) (bad := false) (v := (.slice (some ⟨g, off, none⟩) N c)) (by exact h) (k + m)).kp hk3 (by simp)
    simpa using this
theorem ru_zero (r : Nat) (n : Int) (w : World) (R : World → Prop)
    (ht : Calls Tryz.prog 129 #[.pointer (some ⟨r, 0, none⟩), .int .i64 n] w fun e w' => e = .returned (.slice none 0 0) ∧ R w') :
    Calls Tryz.prog 123 #[.pointer (some ⟨r, 0, none⟩), .int .i64 n] w fun e w' => e = .returned (.int .i64 0) ∧ R w' := by
  have H : Hid _ := ht
  clear ht
  go_enter Tryz.func123, Tryz.ntmps123
  go_wp2_with fail
  refine Calls.mono H.out ?_; rintro e w1 ⟨rfl, hr1⟩
  have hr2 : Hid (R w1) := hr1
  clear hr1
  go_wp2_with fail
  go_loop [5, 7] (fun x i => x = .int .i64 0 ∧ i = .int .i64 0) (fun _ i => 0)
  case atStart => exact ⟨rfl, rfl⟩
  case round =>
    obtain ⟨rfl, rfl⟩ := hrel
    go_wp2
    go_ret
    exact ⟨by simp, hr2⟩
theorem ru_ok (r : Nat) (v : Value) (zs : List Int) (k m : Nat) (n : Int) (hn : n = m) (w : World) (h : Rrd w r v k false) (hz : IsInts .u8 w v zs) (hb : ∀ c ∈ zs, 0 ≤ c ∧ c ≤ 255) (hr : blockOf v ≠ some r)
    (h1 : 1 ≤ m) (h4 : m ≤ 4) (h2 : k + m ≤ zs.length) :
    Calls Tryz.prog 123 #[.pointer (some ⟨r, 0, none⟩), .int .i64 n] w fun e w' => e = .returned (.int .i64 (beN (cutB zs k m))) ∧ Rrd w' r v ((k + m : Nat) : Int) false ∧ Kp [r] w w' := by
  have hl : (cutB zs k m).length = m := by simp [cutB]; omega
  rcases hz with ⟨⟨ad, rfl⟩, rfl⟩ | ⟨g, off, c, rfl, hN, hc, hcell⟩
  · simp at h2; omega
  · subst hn
    have hg : g ≠ r := fun e => hr ((blockOf_some _ _ _ _ _ _).2 ⟨by omega, e⟩)
    have hB : Hid _ := cutB_mem zs k m hb
    have hcl : Hid (∀ i, i < m → w.cell? ⟨g, off + k + i, none⟩ = some (.int .u8 ((cutB zs k m).getD i 0))) := fun i hi => by
      have := hcell (k + i) (by omega)
      rw [← Nat.add_assoc] at this
      rw [this]
      simp only [cutB, List.getD_eq_getElem?_getD, List.getElem?_take, if_pos hi, List.getElem?_drop]
    clear hb hr hcell
    generalize cutB zs k m = l at *
    go_enter Tryz.func123, Tryz.ntmps123
    go_wp2_with fail
    refine (rtake_ok r g off zs.length c k m m rfl l _ (by exact h) (by omega) (by omega) hN hc hl hcl.out h4 hg).mono ?_; rintro e w1 ⟨v, rfl, hz1, hr1, hk1, hv⟩
    have hfin : Hid (Rrd w1 r (.slice (some ⟨g, off, none⟩) zs.length c) ((k + m : Nat) : Int) false ∧ Kp [r] w w1) := ⟨hr1, hk1⟩
    clear hr1 hk1 hcl hv h
    rcases hz1 with ⟨⟨ad, rfl⟩, rfl⟩ | ⟨g1, off1, c1, rfl, hN1, hc1, hcell1⟩
    · simp at hl; omega
    · have hcell2 : Hid _ := hcell1
      clear hcell1
      subst hl
      go_wp2_with fail
      go_loop [5, 7] (fun x i => ∃ j : Nat, j ≤ l.length ∧ i = .int .i64 j ∧ x = .int .i64 (beN (l.take j))) (fun _ i => l.length - (intOf i).toNat)
      case atStart => exact ⟨0, by omega, rfl, by simp [beN]⟩
      case round =>
        obtain ⟨j, hj, rfl, rfl⟩ := hrel
        by_cases hlt : j < l.length
        · have hcl := hcell2.out j hlt
          have hs : l.take (j + 1) = l.take j ++ [l.getD j 0] := by
            rw [List.take_succ_eq_append_getElem hlt, List.getD_eq_getElem?_getD, List.getElem?_eq_getElem hlt]; rfl
          have hbn := beN_lt (l.take j) (fun c hc => hB.out c (List.mem_of_mem_take hc))
          have hll : (l.take j).length = j := by simp; omega
          rw [hll] at hbn
          have hp := pow256_le j (by omega)
          obtain ⟨z0, z1⟩ := getD_mem_bounds l j hB.out
          have hs2 : Hid (beN (l.take (j + 1)) = beN (l.take j) * 256 + l.getD j 0) := by unfold Hid; rw [hs, beN_snoc]
          obtain ⟨b0, b1⟩ := hbn
          have b2 : beN (l.take j) ≤ 16777216 := by omega
          clear hs hll hp b1
          generalize l.getD j 0 = z at *
          generalize beN (l.take j) = x at *
          go_wp2
          go_round
          case rel => exact ⟨j + 1, by omega, by go_num, by rw [hs2.out]⟩
          case measure => simp [intOf]; omega
        · obtain rfl : j = l.length := by omega
          go_wp2
          go_ret
          exact ⟨by simp, hfin.out⟩
theorem ru_calls (r : Nat) (v : Value) (zs : List Int) (k m : Nat) (bad : Bool) (n : Int) (hn : n = m) (w : World) (h : Rrd w r v k bad) (hz : IsInts .u8 w v zs) (hb : ∀ c ∈ zs, 0 ≤ c ∧ c ≤ 255) (hr : blockOf v ≠ some r)
    (h1 : 1 ≤ m) (h4 : m ≤ 4) (hk : k ≤ zs.length) :
    Calls Tryz.prog 123 #[.pointer (some ⟨r, 0, none⟩), .int .i64 n] w fun e w' => e = .returned (.int .i64 (rdV zs k bad m)) ∧ Rrd w' r v (rdK zs k bad m : Nat) (rdB zs k bad m) ∧ Kp [r] w w' := by
  cases bad
  · by_cases h2 : zs.length < k + m
    · have e1 : rdB zs k false m = true := by simp [rdB, h2]
      unfold rdV rdK; rw [e1]
      have hle := hz.le
      obtain ⟨a, c, rfl⟩ : ∃ a c, v = .slice a zs.length c := by
        rcases hz with ⟨⟨ad, rfl⟩, rfl⟩ | ⟨g, off, c, rfl, _⟩
        · exact ⟨_, 0, rfl⟩
        · exact ⟨_, c, rfl⟩
      exact ru_zero r n w _ (rtake_short r a zs.length c k n w h (by omega) (by omega) hle hk)
    · have e1 : rdB zs k false m = false := by simp [rdB]; omega
      unfold rdV rdK; rw [e1]
      exact ru_ok r v zs k m n hn w h hz hb hr h1 h4 (by omega)
  · have e1 : rdB zs k true m = true := by simp [rdB]
    unfold rdV rdK; rw [e1]
    exact ru_zero r n w _ (rtake_bad r v k n w h)
theorem ri16_calls (r : Nat) (v : Value) (zs : List Int) (k : Nat) (bad : Bool) (w : World) (h : Rrd w r v k bad) (hz : IsInts .u8 w v zs) (hb : ∀ c ∈ zs, 0 ≤ c ∧ c ≤ 255) (hr : blockOf v ≠ some r) (hk : k ≤ zs.length) :
    Calls Tryz.prog 146 #[.pointer (some ⟨r, 0, none⟩)] w fun e w' => e = .returned (.int .i64 (s16 (rdV zs k bad 2))) ∧ Rrd w' r v (rdK zs k bad 2 : Nat) (rdB zs k bad 2) ∧ Kp [r] w w' := by
  obtain ⟨q0, q1⟩ := rdV_bounds zs k bad 2 hb
  by_cases hlt : 32768 ≤ rdV zs k bad 2
  · have e4 : Hid (s16 (rdV zs k bad 2) = rdV zs k bad 2 - 65536) := if_pos hlt
    go_enter Tryz.func146, Tryz.ntmps146
    go_wp2_with fail
    refine (ru_calls r v zs k 2 bad 2 rfl w h hz hb hr (by omega) (by omega) hk).mono ?_; rintro e w1 ⟨rfl, hr1, hk1⟩
    go_wp2_with fail
    go_ret
    exact ⟨by rw [e4.out]; simp, hr1, hk1⟩
  · have e4 : Hid (s16 (rdV zs k bad 2) = rdV zs k bad 2) := if_neg hlt
    go_enter Tryz.func146, Tryz.ntmps146
    go_wp2_with fail
    refine (ru_calls r v zs k 2 bad 2 rfl w h hz hb hr (by omega) (by omega) hk).mono ?_; rintro e w1 ⟨rfl, hr1, hk1⟩
    go_wp2_with fail
    go_ret
    exact ⟨by rw [e4.out]; simp, hr1, hk1⟩
end Go.Proofs.YtlhkaoccnpgkeaaGreat
namespace Go.Proofs.YtlhkaoccnpgkeaaGreat
open Go.RowKit
set_option linter.unusedVariables false
set_option linter.unusedSimpArgs false
/-- A number's lowest n bytes, the highest first. -/
def bytesN : Nat → Int → List Int
  | 0, _ => []
  | i + 1, x => (x / (256 ^ i : Nat) % 256) :: bytesN i x
theorem bytesN_length (n : Nat) (x : Int) : (bytesN n x).length = n := by
  induction n with
  | zero => rfl
  | succ n ih => simp [bytesN, ih]
theorem madeBytes (n : Nat) : (madeCells #[Value.int .u8 0] n).toList = (List.replicate n (0 : Int)).map (Value.int .u8) := by
  apply List.ext_getElem?
  intro i
  simp only [madeCells, Array.toList_map, Array.toList_range, List.getElem?_map, List.getElem?_range, List.map_replicate]
  by_cases h : i < n
  · simp [h, Nat.mod_one]
  · simp [h]
/-- So many of the lowest bytes, the others still 0. -/
def halfB (n i : Nat) (x : Int) : List Int := List.replicate (n - i) 0 ++ bytesN i x
theorem halfB_set (n i : Nat) (x : Int) (h : i < n) : (halfB n i x).set (n - 1 - i) (x / (256 ^ i : Nat) % 256) = halfB n (i + 1) x := by
  unfold halfB
  rw [show n - i = (n - 1 - i) + 1 by omega, List.replicate_succ', List.append_assoc, List.set_append, if_neg (by simp), List.length_replicate, Nat.sub_self]
  simp only [List.singleton_append, List.set_cons_zero, bytesN]
  rw [show n - 1 - i = n - (i + 1) by omega]
theorem halfB_length (n i : Nat) (x : Int) (h : i ≤ n) : (halfB n i x).length = n := by
  unfold halfB; rw [List.length_append, bytesN_length, List.length_replicate]; omega
set_option maxRecDepth 100000 in
set_option maxHeartbeats 1000000 in
theorem rbytes_1 (x : Int) (g1 : -9223372036854775808 ≤ x) (g2 : x ≤ 9223372036854775807) (w : World) :
    Calls Tryz.prog 73 #[.int .i64 1, .int .i64 x] w fun e w' => ∃ v, e = .returned v ∧ w'.ownsRow w.heap.size 5 1 v 1 ((bytesN 1 x).map (Value.int .u8)) ∧ Kp [] w w' := by
  obtain ⟨i0, hi, hz0, hz1, hz2⟩ := info_parts infoByte
  go_enter Tryz.func73, Tryz.ntmps73
  go_wp2_with (at_make; refine wpList_make_full _ rfl _ _ 29 rfl w.heap.size 5 i0 (.int .u8 0) 1 Tryz.underlying29 hi hz0 hz1 .i64 .i64 1 1 1 rfl rfl rfl rfl ?b2 ?b3 ?b4 ?hK)
  case b2 => rw [hz2]; omega
  case b3 => unfold maxLen; omega
  case b4 => exact Nat.le_refl _
  case hK =>
  intro w1 hown hgr
  rw [madeBytes] at hown
  have hk1 : Kp [] w w1 := Kp.grown (Kp.refl _ _) hgr (fun k hk => nomatch hk)
  generalize hB : w.heap.size = B at *
  have hBs : B < w1.heap.size := by have := hown.lt B rfl; exact this.2
  have HOW : Hid (w1.ownsRow B 5 1 (.slice (some ⟨B, 0, none⟩) 1 1) 1 ((halfB 1 0 x).map (Value.int .u8))) := hown
  clear hown hgr
  go_wp2_with fail
  go_loopw [6] (fun i wr => ∃ j : Nat, j ≤ 1 ∧ i = .int .i64 j ∧ wr.ownsRow B 5 1 (.slice (some ⟨B, 0, none⟩) 1 1) 1 ((halfB 1 j x).map (Value.int .u8)) ∧ Kp [] w wr ∧ B < wr.heap.size) (fun i _ => 1 - (intOf i).toNat)
  case atStart => exact ⟨0, by omega, rfl, HOW.out, hk1, hBs⟩
  case round =>
    obtain ⟨j, hj, rfl, hown, hkp, hbs⟩ := hrel
    clear hk1 hBs HOW
    have hj4 : j = 0 ∨ j = 1 := by omega
    rcases hj4 with rfl | rfl
    · have hfz := hown.frozenAt 0
      have hold := hown.cells (g := B) rfl 0 (.int .u8 ((halfB 1 0 x).getD 0 0)) (by rw [List.getElem?_map, List.getD_eq_getElem?_getD, List.getElem?_eq_getElem (by rw [halfB_length _ _ _ (by omega)]; omega)]; rfl)
      rw [add_lit, Nat.zero_add] at hold
      have hst := hown.stored 0 (.int .u8 (x % 256))
      have HST : Hid ((wr.setCell ⟨B, 0, none⟩ (.int .u8 (x % 256))).ownsRow B 5 1 (.slice (some ⟨B, 0, none⟩) 1 1) 1 ((halfB 1 1 x).map (Value.int .u8))) := by
        have h9 := hst.1
        rw [← List.map_set] at h9
        have e := halfB_set 1 0 x (by omega)
        simp only [show (256 ^ 0 : Nat) = 1 from rfl] at e
        try rw [show x / ((1 : Nat) : Int) = x from Int.ediv_one x] at e
        rw [← e]; exact h9
      have hk3 : Kp [] w (wr.setCell ⟨B, 0, none⟩ (.int .u8 (x % 256))) := hkp.setCell (.inr (by simp; omega)) _
      have hps3 : Hid (B < (wr.setCell ⟨B, 0, none⟩ (.int .u8 (x % 256))).heap.size) := by unfold Hid; simpa [World.setCell] using hbs
      clear hst hown
      generalize (halfB 1 0 x).getD 0 0 = oldx at *
      go_wp2_with fail
      go_roundw
      case rel => exact ⟨1, by omega, rfl, HST.out, hk3, hps3.out⟩
      case measure => simp [intOf]
    · have HO : Hid (wr.ownsRow B 5 1 (.slice (some ⟨B, 0, none⟩) 1 1) 1 ((bytesN 1 x).map (Value.int .u8))) := hown
      clear hown
      go_wp2_with fail
      go_ret
      exact ⟨_, rfl, by rw [hB]; exact HO.out, hkp⟩
set_option maxRecDepth 100000 in
set_option maxHeartbeats 1000000 in
theorem rbytes_2 (x : Int) (g1 : -9223372036854775808 ≤ x) (g2 : x ≤ 9223372036854775807) (w : World) :
    Calls Tryz.prog 73 #[.int .i64 2, .int .i64 x] w fun e w' => ∃ v, e = .returned v ∧ w'.ownsRow w.heap.size 5 1 v 2 ((bytesN 2 x).map (Value.int .u8)) ∧ Kp [] w w' := by
  obtain ⟨i0, hi, hz0, hz1, hz2⟩ := info_parts infoByte
  go_enter Tryz.func73, Tryz.ntmps73
  go_wp2_with (at_make; refine wpList_make_full _ rfl _ _ 29 rfl w.heap.size 5 i0 (.int .u8 0) 1 Tryz.underlying29 hi hz0 hz1 .i64 .i64 2 2 2 rfl rfl rfl rfl ?b2 ?b3 ?b4 ?hK)
  case b2 => rw [hz2]; omega
  case b3 => unfold maxLen; omega
  case b4 => exact Nat.le_refl _
  case hK =>
  intro w1 hown hgr
  rw [madeBytes] at hown
  have hk1 : Kp [] w w1 := Kp.grown (Kp.refl _ _) hgr (fun k hk => nomatch hk)
  generalize hB : w.heap.size = B at *
  have hBs : B < w1.heap.size := by have := hown.lt B rfl; exact this.2
  have HOW : Hid (w1.ownsRow B 5 1 (.slice (some ⟨B, 0, none⟩) 2 2) 2 ((halfB 2 0 x).map (Value.int .u8))) := hown
  clear hown hgr
  go_wp2_with fail
  go_loopw [6] (fun i wr => ∃ j : Nat, j ≤ 2 ∧ i = .int .i64 j ∧ wr.ownsRow B 5 1 (.slice (some ⟨B, 0, none⟩) 2 2) 2 ((halfB 2 j x).map (Value.int .u8)) ∧ Kp [] w wr ∧ B < wr.heap.size) (fun i _ => 2 - (intOf i).toNat)
  case atStart => exact ⟨0, by omega, rfl, HOW.out, hk1, hBs⟩
  case round =>
    obtain ⟨j, hj, rfl, hown, hkp, hbs⟩ := hrel
    clear hk1 hBs HOW
    have hj4 : j = 0 ∨ j = 1 ∨ j = 2 := by omega
    rcases hj4 with rfl | rfl | rfl
    · have hfz := hown.frozenAt 1
      have hold := hown.cells (g := B) rfl 1 (.int .u8 ((halfB 2 0 x).getD 1 0)) (by rw [List.getElem?_map, List.getD_eq_getElem?_getD, List.getElem?_eq_getElem (by rw [halfB_length _ _ _ (by omega)]; omega)]; rfl)
      rw [add_lit, Nat.zero_add] at hold
      have hst := hown.stored 1 (.int .u8 (x % 256))
      have HST : Hid ((wr.setCell ⟨B, 1, none⟩ (.int .u8 (x % 256))).ownsRow B 5 1 (.slice (some ⟨B, 0, none⟩) 2 2) 2 ((halfB 2 1 x).map (Value.int .u8))) := by
        have h9 := hst.1
        rw [← List.map_set] at h9
        have e := halfB_set 2 0 x (by omega)
        simp only [show (256 ^ 0 : Nat) = 1 from rfl] at e
        try rw [show x / ((1 : Nat) : Int) = x from Int.ediv_one x] at e
        rw [← e]; exact h9
      have hk3 : Kp [] w (wr.setCell ⟨B, 1, none⟩ (.int .u8 (x % 256))) := hkp.setCell (.inr (by simp; omega)) _
      have hps3 : Hid (B < (wr.setCell ⟨B, 1, none⟩ (.int .u8 (x % 256))).heap.size) := by unfold Hid; simpa [World.setCell] using hbs
      clear hst hown
      generalize (halfB 2 0 x).getD 1 0 = oldx at *
      go_wp2_with fail
      go_roundw
      case rel => exact ⟨1, by omega, rfl, HST.out, hk3, hps3.out⟩
      case measure => simp [intOf]
    · have hfz := hown.frozenAt 0
      have hold := hown.cells (g := B) rfl 0 (.int .u8 ((halfB 2 1 x).getD 0 0)) (by rw [List.getElem?_map, List.getD_eq_getElem?_getD, List.getElem?_eq_getElem (by rw [halfB_length _ _ _ (by omega)]; omega)]; rfl)
      rw [add_lit, Nat.zero_add] at hold
      have hst := hown.stored 0 (.int .u8 (x / 256 % 256))
      have HST : Hid ((wr.setCell ⟨B, 0, none⟩ (.int .u8 (x / 256 % 256))).ownsRow B 5 1 (.slice (some ⟨B, 0, none⟩) 2 2) 2 ((halfB 2 2 x).map (Value.int .u8))) := by
        have h9 := hst.1
        rw [← List.map_set] at h9
        have e := halfB_set 2 1 x (by omega)
        simp only [show (256 ^ 1 : Nat) = 256 from rfl] at e
        try rw [show x / ((1 : Nat) : Int) = x from Int.ediv_one x] at e
        rw [← e]; exact h9
      have hk3 : Kp [] w (wr.setCell ⟨B, 0, none⟩ (.int .u8 (x / 256 % 256))) := hkp.setCell (.inr (by simp; omega)) _
      have hps3 : Hid (B < (wr.setCell ⟨B, 0, none⟩ (.int .u8 (x / 256 % 256))).heap.size) := by unfold Hid; simpa [World.setCell] using hbs
      clear hst hown
      generalize (halfB 2 1 x).getD 0 0 = oldx at *
      go_wp2_with fail
      go_roundw
      case rel => exact ⟨2, by omega, rfl, HST.out, hk3, hps3.out⟩
      case measure => simp [intOf]
    · have HO : Hid (wr.ownsRow B 5 1 (.slice (some ⟨B, 0, none⟩) 2 2) 2 ((bytesN 2 x).map (Value.int .u8))) := hown
      clear hown
      go_wp2_with fail
      go_ret
      exact ⟨_, rfl, by rw [hB]; exact HO.out, hkp⟩
set_option maxRecDepth 100000 in
set_option maxHeartbeats 1000000 in
theorem rbytes_3 (x : Int) (g1 : -9223372036854775808 ≤ x) (g2 : x ≤ 9223372036854775807) (w : World) :
    Calls Tryz.prog 73 #[.int .i64 3, .int .i64 x] w fun e w' => ∃ v, e = .returned v ∧ w'.ownsRow w.heap.size 5 1 v 3 ((bytesN 3 x).map (Value.int .u8)) ∧ Kp [] w w' := by
  obtain ⟨i0, hi, hz0, hz1, hz2⟩ := info_parts infoByte
  go_enter Tryz.func73, Tryz.ntmps73
  go_wp2_with (at_make; refine wpList_make_full _ rfl _ _ 29 rfl w.heap.size 5 i0 (.int .u8 0) 1 Tryz.underlying29 hi hz0 hz1 .i64 .i64 3 3 3 rfl rfl rfl rfl ?b2 ?b3 ?b4 ?hK)
  case b2 => rw [hz2]; omega
  case b3 => unfold maxLen; omega
  case b4 => exact Nat.le_refl _
  case hK =>
  intro w1 hown hgr
  rw [madeBytes] at hown
  have hk1 : Kp [] w w1 := Kp.grown (Kp.refl _ _) hgr (fun k hk => nomatch hk)
  generalize hB : w.heap.size = B at *
  have hBs : B < w1.heap.size := by have := hown.lt B rfl; exact this.2
  have HOW : Hid (w1.ownsRow B 5 1 (.slice (some ⟨B, 0, none⟩) 3 3) 3 ((halfB 3 0 x).map (Value.int .u8))) := hown
  clear hown hgr
  go_wp2_with fail
  go_loopw [6] (fun i wr => ∃ j : Nat, j ≤ 3 ∧ i = .int .i64 j ∧ wr.ownsRow B 5 1 (.slice (some ⟨B, 0, none⟩) 3 3) 3 ((halfB 3 j x).map (Value.int .u8)) ∧ Kp [] w wr ∧ B < wr.heap.size) (fun i _ => 3 - (intOf i).toNat)
  case atStart => exact ⟨0, by omega, rfl, HOW.out, hk1, hBs⟩
  case round =>
    obtain ⟨j, hj, rfl, hown, hkp, hbs⟩ := hrel
    clear hk1 hBs HOW
    have hj4 : j = 0 ∨ j = 1 ∨ j = 2 ∨ j = 3 := by omega
    rcases hj4 with rfl | rfl | rfl | rfl
    · have hfz := hown.frozenAt 2
      have hold := hown.cells (g := B) rfl 2 (.int .u8 ((halfB 3 0 x).getD 2 0)) (by rw [List.getElem?_map, List.getD_eq_getElem?_getD, List.getElem?_eq_getElem (by rw [halfB_length _ _ _ (by omega)]; omega)]; rfl)
      rw [add_lit, Nat.zero_add] at hold
      have hst := hown.stored 2 (.int .u8 (x % 256))
      have HST : Hid ((wr.setCell ⟨B, 2, none⟩ (.int .u8 (x % 256))).ownsRow B 5 1 (.slice (some ⟨B, 0, none⟩) 3 3) 3 ((halfB 3 1 x).map (Value.int .u8))) := by
        have h9 := hst.1
        rw [← List.map_set] at h9
        have e := halfB_set 3 0 x (by omega)
        simp only [show (256 ^ 0 : Nat) = 1 from rfl] at e
        try rw [show x / ((1 : Nat) : Int) = x from Int.ediv_one x] at e
        rw [← e]; exact h9
      have hk3 : Kp [] w (wr.setCell ⟨B, 2, none⟩ (.int .u8 (x % 256))) := hkp.setCell (.inr (by simp; omega)) _
      have hps3 : Hid (B < (wr.setCell ⟨B, 2, none⟩ (.int .u8 (x % 256))).heap.size) := by unfold Hid; simpa [World.setCell] using hbs
      clear hst hown
      generalize (halfB 3 0 x).getD 2 0 = oldx at *
      go_wp2_with fail
      go_roundw
      case rel => exact ⟨1, by omega, rfl, HST.out, hk3, hps3.out⟩
      case measure => simp [intOf]
    · have hfz := hown.frozenAt 1
      have hold := hown.cells (g := B) rfl 1 (.int .u8 ((halfB 3 1 x).getD 1 0)) (by rw [List.getElem?_map, List.getD_eq_getElem?_getD, List.getElem?_eq_getElem (by rw [halfB_length _ _ _ (by omega)]; omega)]; rfl)
      rw [add_lit, Nat.zero_add] at hold
      have hst := hown.stored 1 (.int .u8 (x / 256 % 256))
      have HST : Hid ((wr.setCell ⟨B, 1, none⟩ (.int .u8 (x / 256 % 256))).ownsRow B 5 1 (.slice (some ⟨B, 0, none⟩) 3 3) 3 ((halfB 3 2 x).map (Value.int .u8))) := by
        have h9 := hst.1
        rw [← List.map_set] at h9
        have e := halfB_set 3 1 x (by omega)
        simp only [show (256 ^ 1 : Nat) = 256 from rfl] at e
        try rw [show x / ((1 : Nat) : Int) = x from Int.ediv_one x] at e
        rw [← e]; exact h9
      have hk3 : Kp [] w (wr.setCell ⟨B, 1, none⟩ (.int .u8 (x / 256 % 256))) := hkp.setCell (.inr (by simp; omega)) _
      have hps3 : Hid (B < (wr.setCell ⟨B, 1, none⟩ (.int .u8 (x / 256 % 256))).heap.size) := by unfold Hid; simpa [World.setCell] using hbs
      clear hst hown
      generalize (halfB 3 1 x).getD 1 0 = oldx at *
      go_wp2_with fail
      go_roundw
      case rel => exact ⟨2, by omega, rfl, HST.out, hk3, hps3.out⟩
      case measure => simp [intOf]
    · have hfz := hown.frozenAt 0
      have hold := hown.cells (g := B) rfl 0 (.int .u8 ((halfB 3 2 x).getD 0 0)) (by rw [List.getElem?_map, List.getD_eq_getElem?_getD, List.getElem?_eq_getElem (by rw [halfB_length _ _ _ (by omega)]; omega)]; rfl)
      rw [add_lit, Nat.zero_add] at hold
      have hst := hown.stored 0 (.int .u8 (x / 65536 % 256))
      have HST : Hid ((wr.setCell ⟨B, 0, none⟩ (.int .u8 (x / 65536 % 256))).ownsRow B 5 1 (.slice (some ⟨B, 0, none⟩) 3 3) 3 ((halfB 3 3 x).map (Value.int .u8))) := by
        have h9 := hst.1
        rw [← List.map_set] at h9
        have e := halfB_set 3 2 x (by omega)
        simp only [show (256 ^ 2 : Nat) = 65536 from rfl] at e
        try rw [show x / ((1 : Nat) : Int) = x from Int.ediv_one x] at e
        rw [← e]; exact h9
      have hk3 : Kp [] w (wr.setCell ⟨B, 0, none⟩ (.int .u8 (x / 65536 % 256))) := hkp.setCell (.inr (by simp; omega)) _
      have hps3 : Hid (B < (wr.setCell ⟨B, 0, none⟩ (.int .u8 (x / 65536 % 256))).heap.size) := by unfold Hid; simpa [World.setCell] using hbs
      clear hst hown
      generalize (halfB 3 2 x).getD 0 0 = oldx at *
      go_wp2_with fail
      go_roundw
      case rel => exact ⟨3, by omega, rfl, HST.out, hk3, hps3.out⟩
      case measure => simp [intOf]
    · have HO : Hid (wr.ownsRow B 5 1 (.slice (some ⟨B, 0, none⟩) 3 3) 3 ((bytesN 3 x).map (Value.int .u8))) := hown
      clear hown
      go_wp2_with fail
      go_ret
      exact ⟨_, rfl, by rw [hB]; exact HO.out, hkp⟩
set_option maxRecDepth 100000 in
set_option maxHeartbeats 1000000 in
theorem rbytes_4 (x : Int) (g1 : -9223372036854775808 ≤ x) (g2 : x ≤ 9223372036854775807) (w : World) :
    Calls Tryz.prog 73 #[.int .i64 4, .int .i64 x] w fun e w' => ∃ v, e = .returned v ∧ w'.ownsRow w.heap.size 5 1 v 4 ((bytesN 4 x).map (Value.int .u8)) ∧ Kp [] w w' := by
  obtain ⟨i0, hi, hz0, hz1, hz2⟩ := info_parts infoByte
  go_enter Tryz.func73, Tryz.ntmps73
  go_wp2_with (at_make; refine wpList_make_full _ rfl _ _ 29 rfl w.heap.size 5 i0 (.int .u8 0) 1 Tryz.underlying29 hi hz0 hz1 .i64 .i64 4 4 4 rfl rfl rfl rfl ?b2 ?b3 ?b4 ?hK)
  case b2 => rw [hz2]; omega
  case b3 => unfold maxLen; omega
  case b4 => exact Nat.le_refl _
  case hK =>
  intro w1 hown hgr
  rw [madeBytes] at hown
  have hk1 : Kp [] w w1 := Kp.grown (Kp.refl _ _) hgr (fun k hk => nomatch hk)
  generalize hB : w.heap.size = B at *
  have hBs : B < w1.heap.size := by have := hown.lt B rfl; exact this.2
  have HOW : Hid (w1.ownsRow B 5 1 (.slice (some ⟨B, 0, none⟩) 4 4) 4 ((halfB 4 0 x).map (Value.int .u8))) := hown
  clear hown hgr
  go_wp2_with fail
  go_loopw [6] (fun i wr => ∃ j : Nat, j ≤ 4 ∧ i = .int .i64 j ∧ wr.ownsRow B 5 1 (.slice (some ⟨B, 0, none⟩) 4 4) 4 ((halfB 4 j x).map (Value.int .u8)) ∧ Kp [] w wr ∧ B < wr.heap.size) (fun i _ => 4 - (intOf i).toNat)
  case atStart => exact ⟨0, by omega, rfl, HOW.out, hk1, hBs⟩
  case round =>
    obtain ⟨j, hj, rfl, hown, hkp, hbs⟩ := hrel
    clear hk1 hBs HOW
    have hj4 : j = 0 ∨ j = 1 ∨ j = 2 ∨ j = 3 ∨ j = 4 := by omega
    rcases hj4 with rfl | rfl | rfl | rfl | rfl
    · have hfz := hown.frozenAt 3
      have hold := hown.cells (g := B) rfl 3 (.int .u8 ((halfB 4 0 x).getD 3 0)) (by rw [List.getElem?_map, List.getD_eq_getElem?_getD, List.getElem?_eq_getElem (by rw [halfB_length _ _ _ (by omega)]; omega)]; rfl)
      rw [add_lit, Nat.zero_add] at hold
      have hst := hown.stored 3 (.int .u8 (x % 256))
      have HST : Hid ((wr.setCell ⟨B, 3, none⟩ (.int .u8 (x % 256))).ownsRow B 5 1 (.slice (some ⟨B, 0, none⟩) 4 4) 4 ((halfB 4 1 x).map (Value.int .u8))) := by
        have h9 := hst.1
        rw [← List.map_set] at h9
        have e := halfB_set 4 0 x (by omega)
        simp only [show (256 ^ 0 : Nat) = 1 from rfl] at e
        try rw [show x / ((1 : Nat) : Int) = x from Int.ediv_one x] at e
        rw [← e]; exact h9
      have hk3 : Kp [] w (wr.setCell ⟨B, 3, none⟩ (.int .u8 (x % 256))) := hkp.setCell (.inr (by simp; omega)) _
      have hps3 : Hid (B < (wr.setCell ⟨B, 3, none⟩ (.int .u8 (x % 256))).heap.size) := by unfold Hid; simpa [World.setCell] using hbs
      clear hst hown
      generalize (halfB 4 0 x).getD 3 0 = oldx at *
      go_wp2_with fail
      go_roundw
      case rel => exact ⟨1, by omega, rfl, HST.out, hk3, hps3.out⟩
      case measure => simp [intOf]
    · have hfz := hown.frozenAt 2
      have hold := hown.cells (g := B) rfl 2 (.int .u8 ((halfB 4 1 x).getD 2 0)) (by rw [List.getElem?_map, List.getD_eq_getElem?_getD, List.getElem?_eq_getElem (by rw [halfB_length _ _ _ (by omega)]; omega)]; rfl)
      rw [add_lit, Nat.zero_add] at hold
      have hst := hown.stored 2 (.int .u8 (x / 256 % 256))
      have HST : Hid ((wr.setCell ⟨B, 2, none⟩ (.int .u8 (x / 256 % 256))).ownsRow B 5 1 (.slice (some ⟨B, 0, none⟩) 4 4) 4 ((halfB 4 2 x).map (Value.int .u8))) := by
        have h9 := hst.1
        rw [← List.map_set] at h9
        have e := halfB_set 4 1 x (by omega)
        simp only [show (256 ^ 1 : Nat) = 256 from rfl] at e
        try rw [show x / ((1 : Nat) : Int) = x from Int.ediv_one x] at e
        rw [← e]; exact h9
      have hk3 : Kp [] w (wr.setCell ⟨B, 2, none⟩ (.int .u8 (x / 256 % 256))) := hkp.setCell (.inr (by simp; omega)) _
      have hps3 : Hid (B < (wr.setCell ⟨B, 2, none⟩ (.int .u8 (x / 256 % 256))).heap.size) := by unfold Hid; simpa [World.setCell] using hbs
      clear hst hown
      generalize (halfB 4 1 x).getD 2 0 = oldx at *
      go_wp2_with fail
      go_roundw
      case rel => exact ⟨2, by omega, rfl, HST.out, hk3, hps3.out⟩
      case measure => simp [intOf]
    · have hfz := hown.frozenAt 1
      have hold := hown.cells (g := B) rfl 1 (.int .u8 ((halfB 4 2 x).getD 1 0)) (by rw [List.getElem?_map, List.getD_eq_getElem?_getD, List.getElem?_eq_getElem (by rw [halfB_length _ _ _ (by omega)]; omega)]; rfl)
      rw [add_lit, Nat.zero_add] at hold
      have hst := hown.stored 1 (.int .u8 (x / 65536 % 256))
      have HST : Hid ((wr.setCell ⟨B, 1, none⟩ (.int .u8 (x / 65536 % 256))).ownsRow B 5 1 (.slice (some ⟨B, 0, none⟩) 4 4) 4 ((halfB 4 3 x).map (Value.int .u8))) := by
        have h9 := hst.1
        rw [← List.map_set] at h9
        have e := halfB_set 4 2 x (by omega)
        simp only [show (256 ^ 2 : Nat) = 65536 from rfl] at e
        try rw [show x / ((1 : Nat) : Int) = x from Int.ediv_one x] at e
        rw [← e]; exact h9
      have hk3 : Kp [] w (wr.setCell ⟨B, 1, none⟩ (.int .u8 (x / 65536 % 256))) := hkp.setCell (.inr (by simp; omega)) _
      have hps3 : Hid (B < (wr.setCell ⟨B, 1, none⟩ (.int .u8 (x / 65536 % 256))).heap.size) := by unfold Hid; simpa [World.setCell] using hbs
      clear hst hown
      generalize (halfB 4 2 x).getD 1 0 = oldx at *
      go_wp2_with fail
      go_roundw
      case rel => exact ⟨3, by omega, rfl, HST.out, hk3, hps3.out⟩
      case measure => simp [intOf]
    · have hfz := hown.frozenAt 0
      have hold := hown.cells (g := B) rfl 0 (.int .u8 ((halfB 4 3 x).getD 0 0)) (by rw [List.getElem?_map, List.getD_eq_getElem?_getD, List.getElem?_eq_getElem (by rw [halfB_length _ _ _ (by omega)]; omega)]; rfl)
      rw [add_lit, Nat.zero_add] at hold
      have hst := hown.stored 0 (.int .u8 (x / 16777216 % 256))
      have HST : Hid ((wr.setCell ⟨B, 0, none⟩ (.int .u8 (x / 16777216 % 256))).ownsRow B 5 1 (.slice (some ⟨B, 0, none⟩) 4 4) 4 ((halfB 4 4 x).map (Value.int .u8))) := by
        have h9 := hst.1
        rw [← List.map_set] at h9
        have e := halfB_set 4 3 x (by omega)
        simp only [show (256 ^ 3 : Nat) = 16777216 from rfl] at e
        try rw [show x / ((1 : Nat) : Int) = x from Int.ediv_one x] at e
        rw [← e]; exact h9
      have hk3 : Kp [] w (wr.setCell ⟨B, 0, none⟩ (.int .u8 (x / 16777216 % 256))) := hkp.setCell (.inr (by simp; omega)) _
      have hps3 : Hid (B < (wr.setCell ⟨B, 0, none⟩ (.int .u8 (x / 16777216 % 256))).heap.size) := by unfold Hid; simpa [World.setCell] using hbs
      clear hst hown
      generalize (halfB 4 3 x).getD 0 0 = oldx at *
      go_wp2_with fail
      go_roundw
      case rel => exact ⟨4, by omega, rfl, HST.out, hk3, hps3.out⟩
      case measure => simp [intOf]
    · have HO : Hid (wr.ownsRow B 5 1 (.slice (some ⟨B, 0, none⟩) 4 4) 4 ((bytesN 4 x).map (Value.int .u8))) := hown
      clear hown
      go_wp2_with fail
      go_ret
      exact ⟨_, rfl, by rw [hB]; exact HO.out, hkp⟩
theorem rbytes_calls (n : Nat) (x : Int) (h1 : 1 ≤ n) (h4 : n ≤ 4) (g1 : -9223372036854775808 ≤ x) (g2 : x ≤ 9223372036854775807) (w : World) :
    Calls Tryz.prog 73 #[.int .i64 n, .int .i64 x] w fun e w' => ∃ v, e = .returned v ∧ w'.ownsRow w.heap.size 5 1 v n ((bytesN n x).map (Value.int .u8)) ∧ Kp [] w w' := by
  have h : n = 1 ∨ n = 2 ∨ n = 3 ∨ n = 4 := by omega
  rcases h with rfl | rfl | rfl | rfl
  · exact rbytes_1 x g1 g2 w
  · exact rbytes_2 x g1 g2 w
  · exact rbytes_3 x g1 g2 w
  · exact rbytes_4 x g1 g2 w
end Go.Proofs.YtlhkaoccnpgkeaaGreat
namespace Go.Proofs.YtlhkaoccnpgkeaaGreat
open Go.RowKit
set_option linter.unusedVariables false
set_option linter.unusedSimpArgs false
/-- Block r is a writer that is not full; its bytes lie in a row of their own, made later. -/
def WSt (w : World) (r : Nat) (room : Int) (v : Value) (acc : List Int) : Prop :=
  w.heap[r]? = some (.cells #[v, .int .i64 room, .bool false] 162 (0, 0)) ∧ w.ownsRow (r + 1) 5 1 v acc.length (acc.map (Value.int .u8)) ∧ r < w.heap.size
theorem WSt.facts {w : World} {r : Nat} {room : Int} {v : Value} {acc : List Int} (h : WSt w r room v acc) :
    w.cell? ⟨r, 0, none⟩ = some v ∧ w.cell? ⟨r, 1, none⟩ = some (.int .i64 room) ∧ w.cell? ⟨r, 2, none⟩ = some (.bool false) ∧ w.frozen? ⟨r, 0, none⟩ = false ∧ w.frozen? ⟨r, 2, none⟩ = false :=
  ⟨by rw [cell_of_row w r 0 _ _ _ h.1]; rfl, by rw [cell_of_row w r 1 _ _ _ h.1]; rfl, by rw [cell_of_row w r 2 _ _ _ h.1]; rfl, frozen_of_row w r 0 _ _ h.1, frozen_of_row w r 2 _ _ h.1⟩
theorem WSt.kp {S : List Nat} {w w' : World} {r : Nat} {room : Int} {v : Value} {acc : List Int} (h : WSt w r room v acc) (hk : Kp S w w') (hr : r ∉ S) (hv : ∀ s ∈ S, v.ownBlock ≠ some s) : WSt w' r room v acc :=
  ⟨hk.heap h.1 hr, hk.row h.2.1 hv, Nat.lt_of_lt_of_le h.2.2 hk.size⟩
/-- What a write may have turned: the writer, its own row, what is new. -/
def WK (w wr : World) (r : Nat) (v v' : Value) : Prop := Kp (r :: v.ownBlock.toList) w wr ∧ ∀ k, v'.ownBlock = some k → v.ownBlock = some k ∨ w.heap.size ≤ k
theorem WK.refl (w : World) (r : Nat) (v : Value) : WK w w r v v := ⟨Kp.refl _ _, fun k h => .inl h⟩
theorem WK.trans {a b c : World} {r : Nat} {v v' v'' : Value} (h : WK a b r v v') (k : WK b c r v' v'') : WK a c r v v'' := by
  have hs := h.1.size
  refine ⟨h.1.trans' k.1 ?_, fun i hi => ?_⟩
  · intro t ht
    rcases List.mem_cons.1 ht with rfl | ht
    · exact .inl List.mem_cons_self
    · cases hv : v'.ownBlock with
      | none => simp [hv] at ht
      | some b =>
        simp [hv] at ht; subst ht
        rcases h.2 _ hv with e | e
        · exact .inl (by simp [e])
        · exact .inr e
  · rcases k.2 i hi with e | e
    · exact h.2 i e
    · exact .inr (Nat.le_trans hs e)
/-- A write keeps what was there before the writer. -/
theorem WK.kp0 {a w wr : World} {r : Nat} {room : Int} {v v' : Value} {acc : List Int} (h : WK w wr r v v') (hs : WSt w r room v acc) (ha : Kp [] a w) (hr : a.heap.size ≤ r) : Kp [] a wr := by
  refine ha.trans' h.1 ?_
  intro t ht
  rcases List.mem_cons.1 ht with rfl | ht
  · exact .inr hr
  · cases hv : v.ownBlock with
    | none => simp [hv] at ht
    | some b => simp [hv] at ht; subst ht; exact .inr (by have := own_ge hs.2.1 _ hv; omega)
theorem WSt.at4 {wr w4 : World} {r : Nat} {room : Int} {v : Value} {ac : List Int} {O : Obj} (h : WSt wr r room v ac) (hgr : (wr.alloc O).drew.grownBy w4 v.ownBlock) : w4.cell? ⟨r, 0, none⟩ = some v ∧ w4.frozen? ⟨r, 0, none⟩ = false := by
  have hnr : r ∉ v.ownBlock.toList := by
    intro hm; cases hv : v.ownBlock with
    | none => simp [hv] at hm
    | some b => simp [hv] at hm; have := own_ge h.2.1 _ hv; omega
  have hk4 : Kp v.ownBlock.toList wr w4 := Kp.grown (((Kp.refl _ _).alloc O).drew) hgr (fun k hk => .inl (by rw [hk]; simp))
  have hb := hk4.heap h.1 hnr
  exact ⟨by rw [cell_of_row w4 r 0 _ _ _ hb]; rfl, frozen_of_row w4 r 0 _ _ hb⟩
theorem WSt.wrote {wr w4 : World} {r : Nat} {room : Int} {v : Value} {ac : List Int} {x : Int} {O : Obj} {g4 c4 H : Nat} (h : WSt wr r room v ac)
    (hown : w4.ownsRow (r + 1) 5 1 (.slice (some ⟨g4, 0, none⟩) (ac.length + 1) c4) (ac.length + 1) (ac.map (Value.int .u8) ++ [.int .u8 x])) (hgr : (wr.alloc O).drew.grownBy w4 v.ownBlock) (hat : v.ownBlock = some g4 ∨ g4 = H) (hH : wr.heap.size ≤ H) :
    WSt (w4.setCell ⟨r, 0, none⟩ (.slice (some ⟨g4, 0, none⟩) (ac.length + 1) c4)) r room (.slice (some ⟨g4, 0, none⟩) (ac.length + 1) c4) (ac ++ [x]) ∧ WK wr (w4.setCell ⟨r, 0, none⟩ (.slice (some ⟨g4, 0, none⟩) (ac.length + 1) c4)) r v (.slice (some ⟨g4, 0, none⟩) (ac.length + 1) c4) := by
  obtain ⟨h1, h2, h3⟩ := h
  have hnr : r ∉ v.ownBlock.toList := by
    intro hm; cases hv : v.ownBlock with
    | none => simp [hv] at hm
    | some b => simp [hv] at hm; have := own_ge h2 _ hv; omega
  have hk4 : Kp v.ownBlock.toList wr w4 := Kp.grown (((Kp.refl _ _).alloc O).drew) hgr (fun k hk => .inl (by rw [hk]; simp))
  have hk5 : Kp [r] w4 (w4.setCell ⟨r, 0, none⟩ (.slice (some ⟨g4, 0, none⟩) (ac.length + 1) c4)) := (Kp.refl _ _).setCell (.inl (by simp)) _
  have hs4 := hk4.size
  refine ⟨⟨heap_setCell_same w4 r 0 _ _ _ (hk4.heap h1 hnr), ?_, by simp [World.setCell]; omega⟩, ?_, ?_⟩
  · have := hk5.row hown (by intro s hs e; simp at hs; subst hs; have := own_ge hown _ e; omega)
    simpa using this
  · exact (hk4.more (fun s hs => .inl (List.mem_cons_of_mem _ hs))).trans (hk5.more (fun s hs => .inl (by simp at hs; simp [hs])))
  · intro k hk
    simp [Value.ownBlock] at hk; subst hk
    rcases hat with e | e
    · exact .inl e
    · exact .inr (by omega)
theorem to_calls (n : Int) (h0 : 0 ≤ n) (w : World) :
    Calls Tryz.prog 61 #[.int .i64 n] w fun e w' => e = .returned (.pointer (some ⟨w.heap.size, 0, none⟩)) ∧ WSt w' w.heap.size n (.slice none 0 0) [] ∧ Kp [] w w' := by
  have hm : max n 0 = n := by omega
  go_enter Tryz.func61, Tryz.ntmps61
  go_wp2
  go_ret
  refine ⟨rfl, ⟨?_, World.ownsRow_nil _ _ _ _, by simp⟩, by (repeat (first | exact Kp.refl _ _ | assumption | refine Kp.drew ?_ | refine Kp.drewN ?_ _ | refine Kp.alloc ?_ _ | (refine Kp.setCell ?_ (by first | (left; simp; done) | (right; simp; try omega)) _) | (refine Kp.trans' ?_ (by assumption) (by simp; try omega))))⟩
  first | exact heap_alloc_new w _ | (simp only [hm]; exact heap_alloc_new w _)
theorem wfits_calls (r : Nat) (room : Int) (v : Value) (acc : List Int) (n : Nat) (w : World) (h : WSt w r room v acc) (hn : (acc.length : Int) + n ≤ room) (hn2 : n ≤ 1073741824) (hr : room ≤ 1073741824) :
    Calls Tryz.prog 103 #[.pointer (some ⟨r, 0, none⟩), .int .i64 n] w fun e w' => e = .returned (.bool true) ∧ WSt w' r room v acc ∧ Kp [r] w w' := by
  obtain ⟨c0, c1, c2, f0, f2⟩ := h.facts
  obtain ⟨p, c, rfl⟩ := slice_own h.2.1
  have hd : decide (room - (acc.length : Int) < n) = false := decide_eq_false (by omega)
  have hl0 : (0 : Int) ≤ acc.length := by omega
  have hX : decide (IntKind.i64.wrap (room - (acc.length : Int)) < n) = false := by rw [IntKind.wrap_i64]; exact decide_eq_false (by omega)
  have hkk : Kp [r] w (w.setCell ⟨r, 2, none⟩ (.bool false)) := (Kp.refl _ _).setCell (.inl (by simp)) _
  have HS : Hid (WSt (w.setCell ⟨r, 2, none⟩ (.bool false)) r room (.slice p acc.length c) acc) :=
    ⟨heap_setCell_same w r 2 _ _ _ h.1, hkk.row h.2.1 (by intro s hs e; simp at hs; subst hs; have := own_ge h.2.1 _ e; omega), by simpa [World.setCell] using h.2.2⟩
  have hS2 : (w.setCell ⟨r, 2, none⟩ (.bool false)).drew.cell? ⟨r, 0, none⟩ = some (.slice p acc.length c) ∧ (w.setCell ⟨r, 2, none⟩ (.bool false)).drew.cell? ⟨r, 1, none⟩ = some (.int .i64 room) ∧ (w.setCell ⟨r, 2, none⟩ (.bool false)).drew.cell? ⟨r, 2, none⟩ = some (.bool false) :=
    ⟨HS.out.facts.1, HS.out.facts.2.1, HS.out.facts.2.2.1⟩
  clear h
  go_enter Tryz.func103, Tryz.ntmps103
  go_wp2_with fail
  go_region_held3 (fun w' => w'.cell? ⟨r, 0, none⟩ = some (.slice p acc.length c) ∧ w'.cell? ⟨r, 1, none⟩ = some (.int .i64 room) ∧ w'.cell? ⟨r, 2, none⟩ = some (.bool false))
    (first | go_keep | (simp only [hX]; exact hS2)) (fail)
  try simp only [hX]
  go_wp2_with fail
  go_ret
  refine ⟨rfl, HS.out.kp (S := []) (by (repeat (first | exact Kp.refl _ _ | assumption | refine Kp.drew ?_ | refine Kp.drewN ?_ _ | refine Kp.alloc ?_ _ | (refine Kp.setCell ?_ (by first | (left; simp; done) | (right; simp; try omega)) _) | (refine Kp.trans' ?_ (by assumption) (by simp; try omega))))) (by simp) (by simp), by (repeat (first | exact Kp.refl _ _ | assumption | refine Kp.drew ?_ | refine Kp.drewN ?_ _ | refine Kp.alloc ?_ _ | (refine Kp.setCell ?_ (by first | (left; simp; done) | (right; simp; try omega)) _) | (refine Kp.trans' ?_ (by assumption) (by simp; try omega))))⟩

set_option maxRecDepth 100000 in
set_option maxHeartbeats 2000000 in
theorem wnum_1 (r : Nat) (room : Int) (v : Value) (acc : List Int) (x : Int) (g1 : -9223372036854775808 ≤ x) (g2 : x ≤ 9223372036854775807) (w : World) (h : WSt w r room v acc) (hn : (acc.length : Int) + 1 ≤ room) (hr : room ≤ 1073741824) :
    Calls Tryz.prog 101 #[.pointer (some ⟨r, 0, none⟩), .int .i64 1, .int .i64 x] w fun e w' => e = .returned (.pointer (some ⟨r, 0, none⟩)) ∧ ∃ v', WSt w' r room v' (acc ++ bytesN 1 x) ∧ WK w w' r v v' := by
  obtain ⟨i0, hi, hz0, hz1, hz2⟩ := info_parts infoByte
  go_enter Tryz.func101, Tryz.ntmps101
  go_wp2_with fail
  refine (wfits_calls r room v acc 1 w h hn (by decide) hr).mono ?_; rintro e w1 ⟨rfl, hs1, hk1⟩
  have hst : WSt w1 r room v acc ∧ WK w w1 r v v := ⟨hs1, hk1.more (fun s hs => .inl (by simp at hs; simp [hs])), fun k h => .inl h⟩
  have hal : acc.length ≤ 1073741824 := by omega
  clear hs1 hk1 h
  go_wp2_with fail
  go_loopw [7, 12] (fun _ i wr => ∃ (j : Nat) (v1 : Value), j ≤ 1 ∧ i = .int .i64 j ∧ WSt wr r room v1 (acc ++ (bytesN 1 x).take j) ∧ WK w wr r v v1) (fun _ i _ => 1 - (intOf i).toNat)
  case atStart => exact ⟨0, v, by omega, rfl, by simpa using hst.1, hst.2⟩
  case round =>
    obtain ⟨j, v1, hj, rfl, hs, hk⟩ := hrel
    clear hst
    have hj4 : j = 0 ∨ j = 1 := by omega
    rcases hj4 with rfl | rfl
    · have hnx : Hid (acc ++ (bytesN 1 x).take 0 ++ [x % 256] = acc ++ (bytesN 1 x).take 1) := by simp [Hid, bytesN]
      have hlen : Hid ((acc ++ (bytesN 1 x).take 0).length = acc.length + 0) := by rw [Hid, List.length_append, List.length_take, bytesN_length]; omega
      generalize acc ++ (bytesN 1 x).take 0 = ac at *
      obtain ⟨c0, c1, c2, f0, f2⟩ := hs.facts
      obtain ⟨p, c, rfl⟩ := slice_own hs.2.1
      have hwr : r < wr.heap.size := hs.2.2
      have HS : Hid (WSt wr r room (.slice p ac.length c) ac) := hs
      have HK : Hid (WK w wr r v (.slice p ac.length c)) := hk
      clear hs hk
      have hwx : IntKind.u8.wrap x = x % 256 := by rw [IntKind.wrap_u8]
      have hw0 : IntKind.i64.wrap 0 = 0 := by decide
      have hw1 : IntKind.i64.wrap 1 = 1 := by decide
      have hw2 : IntKind.i64.wrap 2 = 2 := by decide
      have hw3 : IntKind.i64.wrap 3 = 3 := by decide
      have hw8 : IntKind.i64.wrap 8 = 8 := by decide
      have hw16 : IntKind.i64.wrap 16 = 16 := by decide
      have hw24 : IntKind.i64.wrap 24 = 24 := by decide
      have hle : ac.length ≤ 1073741824 + 1 := by have := hlen.out; omega
      go_wp2_with fail
      go_region_law ((first
          | (refine step_append_lies _ (by rfl) _ _ 29 (by rfl) (r + 1) 5 i0 (.int .u8 0) 1 1 Tryz.underlying29 hi hz0 hz1 hz2 rfl (by decide) (.slice p ac.length c) ac.length (ac.map (Value.int .u8)) (by rfl) (Kp.row (S := []) (by (repeat (first | exact Kp.refl _ _ | assumption | refine Kp.drew ?_ | refine Kp.drewN ?_ _ | refine Kp.alloc ?_ _ | (refine Kp.setCell ?_ (by first | (left; simp; done) | (right; simp; try omega)) _) | (refine Kp.trans' ?_ (by assumption) (by simp; try omega))))) HS.out.2.1 (by simp)) ⟨wr.heap.size, 0, none⟩ 1 1 [.int .u8 (IntKind.u8.wrap x)] (by rfl) rfl (World.news_of_block (by exact heap_alloc_new wr _)) (by intro u hu; simp at hu; subst hu; rfl) (by decide) (by unfold maxLen; omega) (by omega) (by simp; omega) _ rfl ?_
             intro g4 c4 w4 hown hgr hat hlt
             obtain ⟨hc4, hf4⟩ := HS.out.at4 hgr)))
      all_goals
        obtain ⟨hw5, hk5⟩ := HS.out.wrote hown hgr hat (by simp)
        have HK5 : Hid (WK w _ r v _) := HK.out.trans hk5
        rw [hwx, hnx.out] at hw5
        clear hown hgr hat hlt hc4 hf4 c0 c1 c2 f0 f2 hk5
        go_wp2_with fail
        go_roundw
        case rel => first | exact ⟨1, _, by omega, rfl, hw5, HK5.out⟩ | ((repeat apply Exists.intro); exact ⟨⟨1, _, by omega, rfl, hw5, HK5.out⟩, rfl⟩)
        case measure => simp [intOf]
    · have HS : Hid (WSt wr r room v1 (acc ++ bytesN 1 x)) := hs
      have HK : Hid _ := hk
      clear hs hk
      go_wp2_with fail
      go_ret
      exact ⟨rfl, v1, HS.out, HK.out⟩
set_option maxRecDepth 100000 in
set_option maxHeartbeats 2000000 in
theorem wnum_2 (r : Nat) (room : Int) (v : Value) (acc : List Int) (x : Int) (g1 : -9223372036854775808 ≤ x) (g2 : x ≤ 9223372036854775807) (w : World) (h : WSt w r room v acc) (hn : (acc.length : Int) + 2 ≤ room) (hr : room ≤ 1073741824) :
    Calls Tryz.prog 101 #[.pointer (some ⟨r, 0, none⟩), .int .i64 2, .int .i64 x] w fun e w' => e = .returned (.pointer (some ⟨r, 0, none⟩)) ∧ ∃ v', WSt w' r room v' (acc ++ bytesN 2 x) ∧ WK w w' r v v' := by
  obtain ⟨i0, hi, hz0, hz1, hz2⟩ := info_parts infoByte
  go_enter Tryz.func101, Tryz.ntmps101
  go_wp2_with fail
  refine (wfits_calls r room v acc 2 w h hn (by decide) hr).mono ?_; rintro e w1 ⟨rfl, hs1, hk1⟩
  have hst : WSt w1 r room v acc ∧ WK w w1 r v v := ⟨hs1, hk1.more (fun s hs => .inl (by simp at hs; simp [hs])), fun k h => .inl h⟩
  have hal : acc.length ≤ 1073741824 := by omega
  clear hs1 hk1 h
  go_wp2_with fail
  go_loopw [7, 12] (fun _ i wr => ∃ (j : Nat) (v1 : Value), j ≤ 2 ∧ i = .int .i64 j ∧ WSt wr r room v1 (acc ++ (bytesN 2 x).take j) ∧ WK w wr r v v1) (fun _ i _ => 2 - (intOf i).toNat)
  case atStart => exact ⟨0, v, by omega, rfl, by simpa using hst.1, hst.2⟩
  case round =>
    obtain ⟨j, v1, hj, rfl, hs, hk⟩ := hrel
    clear hst
    have hj4 : j = 0 ∨ j = 1 ∨ j = 2 := by omega
    rcases hj4 with rfl | rfl | rfl
    · have hnx : Hid (acc ++ (bytesN 2 x).take 0 ++ [x / 256 % 256] = acc ++ (bytesN 2 x).take 1) := by simp [Hid, bytesN]
      have hlen : Hid ((acc ++ (bytesN 2 x).take 0).length = acc.length + 0) := by rw [Hid, List.length_append, List.length_take, bytesN_length]; omega
      generalize acc ++ (bytesN 2 x).take 0 = ac at *
      obtain ⟨c0, c1, c2, f0, f2⟩ := hs.facts
      obtain ⟨p, c, rfl⟩ := slice_own hs.2.1
      have hwr : r < wr.heap.size := hs.2.2
      have HS : Hid (WSt wr r room (.slice p ac.length c) ac) := hs
      have HK : Hid (WK w wr r v (.slice p ac.length c)) := hk
      clear hs hk
      have hwx : IntKind.u8.wrap (x / 256) = x / 256 % 256 := by rw [IntKind.wrap_u8]
      have hw0 : IntKind.i64.wrap 0 = 0 := by decide
      have hw1 : IntKind.i64.wrap 1 = 1 := by decide
      have hw2 : IntKind.i64.wrap 2 = 2 := by decide
      have hw3 : IntKind.i64.wrap 3 = 3 := by decide
      have hw8 : IntKind.i64.wrap 8 = 8 := by decide
      have hw16 : IntKind.i64.wrap 16 = 16 := by decide
      have hw24 : IntKind.i64.wrap 24 = 24 := by decide
      have hle : ac.length ≤ 1073741824 + 2 := by have := hlen.out; omega
      go_wp2_with fail
      go_region_law ((first
          | (refine step_append_lies _ (by rfl) _ _ 29 (by rfl) (r + 1) 5 i0 (.int .u8 0) 1 1 Tryz.underlying29 hi hz0 hz1 hz2 rfl (by decide) (.slice p ac.length c) ac.length (ac.map (Value.int .u8)) (by rfl) (Kp.row (S := []) (by (repeat (first | exact Kp.refl _ _ | assumption | refine Kp.drew ?_ | refine Kp.drewN ?_ _ | refine Kp.alloc ?_ _ | (refine Kp.setCell ?_ (by first | (left; simp; done) | (right; simp; try omega)) _) | (refine Kp.trans' ?_ (by assumption) (by simp; try omega))))) HS.out.2.1 (by simp)) ⟨wr.heap.size, 0, none⟩ 1 1 [.int .u8 (IntKind.u8.wrap (x / 256))] (by rfl) rfl (World.news_of_block (by exact heap_alloc_new wr _)) (by intro u hu; simp at hu; subst hu; rfl) (by decide) (by unfold maxLen; omega) (by omega) (by simp; omega) _ rfl ?_
             intro g4 c4 w4 hown hgr hat hlt
             obtain ⟨hc4, hf4⟩ := HS.out.at4 hgr)))
      all_goals
        obtain ⟨hw5, hk5⟩ := HS.out.wrote hown hgr hat (by simp)
        have HK5 : Hid (WK w _ r v _) := HK.out.trans hk5
        rw [hwx, hnx.out] at hw5
        clear hown hgr hat hlt hc4 hf4 c0 c1 c2 f0 f2 hk5
        go_wp2_with fail
        go_roundw
        case rel => first | exact ⟨1, _, by omega, rfl, hw5, HK5.out⟩ | ((repeat apply Exists.intro); exact ⟨⟨1, _, by omega, rfl, hw5, HK5.out⟩, rfl⟩)
        case measure => simp [intOf]
    · have hnx : Hid (acc ++ (bytesN 2 x).take 1 ++ [x % 256] = acc ++ (bytesN 2 x).take 2) := by simp [Hid, bytesN]
      have hlen : Hid ((acc ++ (bytesN 2 x).take 1).length = acc.length + 1) := by rw [Hid, List.length_append, List.length_take, bytesN_length]; omega
      generalize acc ++ (bytesN 2 x).take 1 = ac at *
      obtain ⟨c0, c1, c2, f0, f2⟩ := hs.facts
      obtain ⟨p, c, rfl⟩ := slice_own hs.2.1
      have hwr : r < wr.heap.size := hs.2.2
      have HS : Hid (WSt wr r room (.slice p ac.length c) ac) := hs
      have HK : Hid (WK w wr r v (.slice p ac.length c)) := hk
      clear hs hk
      have hwx : IntKind.u8.wrap x = x % 256 := by rw [IntKind.wrap_u8]
      have hw0 : IntKind.i64.wrap 0 = 0 := by decide
      have hw1 : IntKind.i64.wrap 1 = 1 := by decide
      have hw2 : IntKind.i64.wrap 2 = 2 := by decide
      have hw3 : IntKind.i64.wrap 3 = 3 := by decide
      have hw8 : IntKind.i64.wrap 8 = 8 := by decide
      have hw16 : IntKind.i64.wrap 16 = 16 := by decide
      have hw24 : IntKind.i64.wrap 24 = 24 := by decide
      have hle : ac.length ≤ 1073741824 + 2 := by have := hlen.out; omega
      go_wp2_with fail
      go_region_law ((first
          | (refine step_append_lies _ (by rfl) _ _ 29 (by rfl) (r + 1) 5 i0 (.int .u8 0) 1 1 Tryz.underlying29 hi hz0 hz1 hz2 rfl (by decide) (.slice p ac.length c) ac.length (ac.map (Value.int .u8)) (by rfl) (Kp.row (S := []) (by (repeat (first | exact Kp.refl _ _ | assumption | refine Kp.drew ?_ | refine Kp.drewN ?_ _ | refine Kp.alloc ?_ _ | (refine Kp.setCell ?_ (by first | (left; simp; done) | (right; simp; try omega)) _) | (refine Kp.trans' ?_ (by assumption) (by simp; try omega))))) HS.out.2.1 (by simp)) ⟨wr.heap.size, 0, none⟩ 1 1 [.int .u8 (IntKind.u8.wrap x)] (by rfl) rfl (World.news_of_block (by exact heap_alloc_new wr _)) (by intro u hu; simp at hu; subst hu; rfl) (by decide) (by unfold maxLen; omega) (by omega) (by simp; omega) _ rfl ?_
             intro g4 c4 w4 hown hgr hat hlt
             obtain ⟨hc4, hf4⟩ := HS.out.at4 hgr)))
      all_goals
        obtain ⟨hw5, hk5⟩ := HS.out.wrote hown hgr hat (by simp)
        have HK5 : Hid (WK w _ r v _) := HK.out.trans hk5
        rw [hwx, hnx.out] at hw5
        clear hown hgr hat hlt hc4 hf4 c0 c1 c2 f0 f2 hk5
        go_wp2_with fail
        go_roundw
        case rel => first | exact ⟨2, _, by omega, rfl, hw5, HK5.out⟩ | ((repeat apply Exists.intro); exact ⟨⟨2, _, by omega, rfl, hw5, HK5.out⟩, rfl⟩)
        case measure => simp [intOf]
    · have HS : Hid (WSt wr r room v1 (acc ++ bytesN 2 x)) := hs
      have HK : Hid _ := hk
      clear hs hk
      go_wp2_with fail
      go_ret
      exact ⟨rfl, v1, HS.out, HK.out⟩
set_option maxRecDepth 100000 in
set_option maxHeartbeats 2000000 in
theorem wnum_4 (r : Nat) (room : Int) (v : Value) (acc : List Int) (x : Int) (g1 : -9223372036854775808 ≤ x) (g2 : x ≤ 9223372036854775807) (w : World) (h : WSt w r room v acc) (hn : (acc.length : Int) + 4 ≤ room) (hr : room ≤ 1073741824) :
    Calls Tryz.prog 101 #[.pointer (some ⟨r, 0, none⟩), .int .i64 4, .int .i64 x] w fun e w' => e = .returned (.pointer (some ⟨r, 0, none⟩)) ∧ ∃ v', WSt w' r room v' (acc ++ bytesN 4 x) ∧ WK w w' r v v' := by
  obtain ⟨i0, hi, hz0, hz1, hz2⟩ := info_parts infoByte
  go_enter Tryz.func101, Tryz.ntmps101
  go_wp2_with fail
  refine (wfits_calls r room v acc 4 w h hn (by decide) hr).mono ?_; rintro e w1 ⟨rfl, hs1, hk1⟩
  have hst : WSt w1 r room v acc ∧ WK w w1 r v v := ⟨hs1, hk1.more (fun s hs => .inl (by simp at hs; simp [hs])), fun k h => .inl h⟩
  have hal : acc.length ≤ 1073741824 := by omega
  clear hs1 hk1 h
  go_wp2_with fail
  go_loopw [7, 12] (fun _ i wr => ∃ (j : Nat) (v1 : Value), j ≤ 4 ∧ i = .int .i64 j ∧ WSt wr r room v1 (acc ++ (bytesN 4 x).take j) ∧ WK w wr r v v1) (fun _ i _ => 4 - (intOf i).toNat)
  case atStart => exact ⟨0, v, by omega, rfl, by simpa using hst.1, hst.2⟩
  case round =>
    obtain ⟨j, v1, hj, rfl, hs, hk⟩ := hrel
    clear hst
    have hj4 : j = 0 ∨ j = 1 ∨ j = 2 ∨ j = 3 ∨ j = 4 := by omega
    rcases hj4 with rfl | rfl | rfl | rfl | rfl
    · have hnx : Hid (acc ++ (bytesN 4 x).take 0 ++ [x / 16777216 % 256] = acc ++ (bytesN 4 x).take 1) := by simp [Hid, bytesN]
      have hlen : Hid ((acc ++ (bytesN 4 x).take 0).length = acc.length + 0) := by rw [Hid, List.length_append, List.length_take, bytesN_length]; omega
      generalize acc ++ (bytesN 4 x).take 0 = ac at *
      obtain ⟨c0, c1, c2, f0, f2⟩ := hs.facts
      obtain ⟨p, c, rfl⟩ := slice_own hs.2.1
      have hwr : r < wr.heap.size := hs.2.2
      have HS : Hid (WSt wr r room (.slice p ac.length c) ac) := hs
      have HK : Hid (WK w wr r v (.slice p ac.length c)) := hk
      clear hs hk
      have hwx : IntKind.u8.wrap (x / 16777216) = x / 16777216 % 256 := by rw [IntKind.wrap_u8]
      have hw0 : IntKind.i64.wrap 0 = 0 := by decide
      have hw1 : IntKind.i64.wrap 1 = 1 := by decide
      have hw2 : IntKind.i64.wrap 2 = 2 := by decide
      have hw3 : IntKind.i64.wrap 3 = 3 := by decide
      have hw8 : IntKind.i64.wrap 8 = 8 := by decide
      have hw16 : IntKind.i64.wrap 16 = 16 := by decide
      have hw24 : IntKind.i64.wrap 24 = 24 := by decide
      have hle : ac.length ≤ 1073741824 + 4 := by have := hlen.out; omega
      go_wp2_with fail
      go_region_law ((first
          | (refine step_append_lies _ (by rfl) _ _ 29 (by rfl) (r + 1) 5 i0 (.int .u8 0) 1 1 Tryz.underlying29 hi hz0 hz1 hz2 rfl (by decide) (.slice p ac.length c) ac.length (ac.map (Value.int .u8)) (by rfl) (Kp.row (S := []) (by (repeat (first | exact Kp.refl _ _ | assumption | refine Kp.drew ?_ | refine Kp.drewN ?_ _ | refine Kp.alloc ?_ _ | (refine Kp.setCell ?_ (by first | (left; simp; done) | (right; simp; try omega)) _) | (refine Kp.trans' ?_ (by assumption) (by simp; try omega))))) HS.out.2.1 (by simp)) ⟨wr.heap.size, 0, none⟩ 1 1 [.int .u8 (IntKind.u8.wrap (x / 16777216))] (by rfl) rfl (World.news_of_block (by exact heap_alloc_new wr _)) (by intro u hu; simp at hu; subst hu; rfl) (by decide) (by unfold maxLen; omega) (by omega) (by simp; omega) _ rfl ?_
             intro g4 c4 w4 hown hgr hat hlt
             obtain ⟨hc4, hf4⟩ := HS.out.at4 hgr)))
      all_goals
        obtain ⟨hw5, hk5⟩ := HS.out.wrote hown hgr hat (by simp)
        have HK5 : Hid (WK w _ r v _) := HK.out.trans hk5
        rw [hwx, hnx.out] at hw5
        clear hown hgr hat hlt hc4 hf4 c0 c1 c2 f0 f2 hk5
        go_wp2_with fail
        go_roundw
        case rel => first | exact ⟨1, _, by omega, rfl, hw5, HK5.out⟩ | ((repeat apply Exists.intro); exact ⟨⟨1, _, by omega, rfl, hw5, HK5.out⟩, rfl⟩)
        case measure => simp [intOf]
    · have hnx : Hid (acc ++ (bytesN 4 x).take 1 ++ [x / 65536 % 256] = acc ++ (bytesN 4 x).take 2) := by simp [Hid, bytesN]
      have hlen : Hid ((acc ++ (bytesN 4 x).take 1).length = acc.length + 1) := by rw [Hid, List.length_append, List.length_take, bytesN_length]; omega
      generalize acc ++ (bytesN 4 x).take 1 = ac at *
      obtain ⟨c0, c1, c2, f0, f2⟩ := hs.facts
      obtain ⟨p, c, rfl⟩ := slice_own hs.2.1
      have hwr : r < wr.heap.size := hs.2.2
      have HS : Hid (WSt wr r room (.slice p ac.length c) ac) := hs
      have HK : Hid (WK w wr r v (.slice p ac.length c)) := hk
      clear hs hk
      have hwx : IntKind.u8.wrap (x / 65536) = x / 65536 % 256 := by rw [IntKind.wrap_u8]
      have hw0 : IntKind.i64.wrap 0 = 0 := by decide
      have hw1 : IntKind.i64.wrap 1 = 1 := by decide
      have hw2 : IntKind.i64.wrap 2 = 2 := by decide
      have hw3 : IntKind.i64.wrap 3 = 3 := by decide
      have hw8 : IntKind.i64.wrap 8 = 8 := by decide
      have hw16 : IntKind.i64.wrap 16 = 16 := by decide
      have hw24 : IntKind.i64.wrap 24 = 24 := by decide
      have hle : ac.length ≤ 1073741824 + 4 := by have := hlen.out; omega
      go_wp2_with fail
      go_region_law ((first
          | (refine step_append_lies _ (by rfl) _ _ 29 (by rfl) (r + 1) 5 i0 (.int .u8 0) 1 1 Tryz.underlying29 hi hz0 hz1 hz2 rfl (by decide) (.slice p ac.length c) ac.length (ac.map (Value.int .u8)) (by rfl) (Kp.row (S := []) (by (repeat (first | exact Kp.refl _ _ | assumption | refine Kp.drew ?_ | refine Kp.drewN ?_ _ | refine Kp.alloc ?_ _ | (refine Kp.setCell ?_ (by first | (left; simp; done) | (right; simp; try omega)) _) | (refine Kp.trans' ?_ (by assumption) (by simp; try omega))))) HS.out.2.1 (by simp)) ⟨wr.heap.size, 0, none⟩ 1 1 [.int .u8 (IntKind.u8.wrap (x / 65536))] (by rfl) rfl (World.news_of_block (by exact heap_alloc_new wr _)) (by intro u hu; simp at hu; subst hu; rfl) (by decide) (by unfold maxLen; omega) (by omega) (by simp; omega) _ rfl ?_
             intro g4 c4 w4 hown hgr hat hlt
             obtain ⟨hc4, hf4⟩ := HS.out.at4 hgr)))
      all_goals
        obtain ⟨hw5, hk5⟩ := HS.out.wrote hown hgr hat (by simp)
        have HK5 : Hid (WK w _ r v _) := HK.out.trans hk5
        rw [hwx, hnx.out] at hw5
        clear hown hgr hat hlt hc4 hf4 c0 c1 c2 f0 f2 hk5
        go_wp2_with fail
        go_roundw
        case rel => first | exact ⟨2, _, by omega, rfl, hw5, HK5.out⟩ | ((repeat apply Exists.intro); exact ⟨⟨2, _, by omega, rfl, hw5, HK5.out⟩, rfl⟩)
        case measure => simp [intOf]
    · have hnx : Hid (acc ++ (bytesN 4 x).take 2 ++ [x / 256 % 256] = acc ++ (bytesN 4 x).take 3) := by simp [Hid, bytesN]
      have hlen : Hid ((acc ++ (bytesN 4 x).take 2).length = acc.length + 2) := by rw [Hid, List.length_append, List.length_take, bytesN_length]; omega
      generalize acc ++ (bytesN 4 x).take 2 = ac at *
      obtain ⟨c0, c1, c2, f0, f2⟩ := hs.facts
      obtain ⟨p, c, rfl⟩ := slice_own hs.2.1
      have hwr : r < wr.heap.size := hs.2.2
      have HS : Hid (WSt wr r room (.slice p ac.length c) ac) := hs
      have HK : Hid (WK w wr r v (.slice p ac.length c)) := hk
      clear hs hk
      have hwx : IntKind.u8.wrap (x / 256) = x / 256 % 256 := by rw [IntKind.wrap_u8]
      have hw0 : IntKind.i64.wrap 0 = 0 := by decide
      have hw1 : IntKind.i64.wrap 1 = 1 := by decide
      have hw2 : IntKind.i64.wrap 2 = 2 := by decide
      have hw3 : IntKind.i64.wrap 3 = 3 := by decide
      have hw8 : IntKind.i64.wrap 8 = 8 := by decide
      have hw16 : IntKind.i64.wrap 16 = 16 := by decide
      have hw24 : IntKind.i64.wrap 24 = 24 := by decide
      have hle : ac.length ≤ 1073741824 + 4 := by have := hlen.out; omega
      go_wp2_with fail
      go_region_law ((first
          | (refine step_append_lies _ (by rfl) _ _ 29 (by rfl) (r + 1) 5 i0 (.int .u8 0) 1 1 Tryz.underlying29 hi hz0 hz1 hz2 rfl (by decide) (.slice p ac.length c) ac.length (ac.map (Value.int .u8)) (by rfl) (Kp.row (S := []) (by (repeat (first | exact Kp.refl _ _ | assumption | refine Kp.drew ?_ | refine Kp.drewN ?_ _ | refine Kp.alloc ?_ _ | (refine Kp.setCell ?_ (by first | (left; simp; done) | (right; simp; try omega)) _) | (refine Kp.trans' ?_ (by assumption) (by simp; try omega))))) HS.out.2.1 (by simp)) ⟨wr.heap.size, 0, none⟩ 1 1 [.int .u8 (IntKind.u8.wrap (x / 256))] (by rfl) rfl (World.news_of_block (by exact heap_alloc_new wr _)) (by intro u hu; simp at hu; subst hu; rfl) (by decide) (by unfold maxLen; omega) (by omega) (by simp; omega) _ rfl ?_
             intro g4 c4 w4 hown hgr hat hlt
             obtain ⟨hc4, hf4⟩ := HS.out.at4 hgr)))
      all_goals
        obtain ⟨hw5, hk5⟩ := HS.out.wrote hown hgr hat (by simp)
        have HK5 : Hid (WK w _ r v _) := HK.out.trans hk5
        rw [hwx, hnx.out] at hw5
        clear hown hgr hat hlt hc4 hf4 c0 c1 c2 f0 f2 hk5
        go_wp2_with fail
        go_roundw
        case rel => first | exact ⟨3, _, by omega, rfl, hw5, HK5.out⟩ | ((repeat apply Exists.intro); exact ⟨⟨3, _, by omega, rfl, hw5, HK5.out⟩, rfl⟩)
        case measure => simp [intOf]
    · have hnx : Hid (acc ++ (bytesN 4 x).take 3 ++ [x % 256] = acc ++ (bytesN 4 x).take 4) := by simp [Hid, bytesN]
      have hlen : Hid ((acc ++ (bytesN 4 x).take 3).length = acc.length + 3) := by rw [Hid, List.length_append, List.length_take, bytesN_length]; omega
      generalize acc ++ (bytesN 4 x).take 3 = ac at *
      obtain ⟨c0, c1, c2, f0, f2⟩ := hs.facts
      obtain ⟨p, c, rfl⟩ := slice_own hs.2.1
      have hwr : r < wr.heap.size := hs.2.2
      have HS : Hid (WSt wr r room (.slice p ac.length c) ac) := hs
      have HK : Hid (WK w wr r v (.slice p ac.length c)) := hk
      clear hs hk
      have hwx : IntKind.u8.wrap x = x % 256 := by rw [IntKind.wrap_u8]
      have hw0 : IntKind.i64.wrap 0 = 0 := by decide
      have hw1 : IntKind.i64.wrap 1 = 1 := by decide
      have hw2 : IntKind.i64.wrap 2 = 2 := by decide
      have hw3 : IntKind.i64.wrap 3 = 3 := by decide
      have hw8 : IntKind.i64.wrap 8 = 8 := by decide
      have hw16 : IntKind.i64.wrap 16 = 16 := by decide
      have hw24 : IntKind.i64.wrap 24 = 24 := by decide
      have hle : ac.length ≤ 1073741824 + 4 := by have := hlen.out; omega
      go_wp2_with fail
      go_region_law ((first
          | (refine step_append_lies _ (by rfl) _ _ 29 (by rfl) (r + 1) 5 i0 (.int .u8 0) 1 1 Tryz.underlying29 hi hz0 hz1 hz2 rfl (by decide) (.slice p ac.length c) ac.length (ac.map (Value.int .u8)) (by rfl) (Kp.row (S := []) (by (repeat (first | exact Kp.refl _ _ | assumption | refine Kp.drew ?_ | refine Kp.drewN ?_ _ | refine Kp.alloc ?_ _ | (refine Kp.setCell ?_ (by first | (left; simp; done) | (right; simp; try omega)) _) | (refine Kp.trans' ?_ (by assumption) (by simp; try omega))))) HS.out.2.1 (by simp)) ⟨wr.heap.size, 0, none⟩ 1 1 [.int .u8 (IntKind.u8.wrap x)] (by rfl) rfl (World.news_of_block (by exact heap_alloc_new wr _)) (by intro u hu; simp at hu; subst hu; rfl) (by decide) (by unfold maxLen; omega) (by omega) (by simp; omega) _ rfl ?_
             intro g4 c4 w4 hown hgr hat hlt
             obtain ⟨hc4, hf4⟩ := HS.out.at4 hgr)))
      all_goals
        obtain ⟨hw5, hk5⟩ := HS.out.wrote hown hgr hat (by simp)
        have HK5 : Hid (WK w _ r v _) := HK.out.trans hk5
        rw [hwx, hnx.out] at hw5
        clear hown hgr hat hlt hc4 hf4 c0 c1 c2 f0 f2 hk5
        go_wp2_with fail
        go_roundw
        case rel => first | exact ⟨4, _, by omega, rfl, hw5, HK5.out⟩ | ((repeat apply Exists.intro); exact ⟨⟨4, _, by omega, rfl, hw5, HK5.out⟩, rfl⟩)
        case measure => simp [intOf]
    · have HS : Hid (WSt wr r room v1 (acc ++ bytesN 4 x)) := hs
      have HK : Hid _ := hk
      clear hs hk
      go_wp2_with fail
      go_ret
      exact ⟨rfl, v1, HS.out, HK.out⟩
theorem wu8_calls (r : Nat) (room : Int) (v : Value) (acc : List Int) (x : Int) (g1 : -9223372036854775808 ≤ x) (g2 : x ≤ 9223372036854775807) (w : World) (h : WSt w r room v acc) (hn : (acc.length : Int) + 1 ≤ room) (hr : room ≤ 1073741824) :
    Calls Tryz.prog 64 #[.pointer (some ⟨r, 0, none⟩), .int .i64 x] w fun e w' => e = .returned (.pointer (some ⟨r, 0, none⟩)) ∧ ∃ v', WSt w' r room v' (acc ++ bytesN 1 x) ∧ WK w w' r v v' := by
  go_enter Tryz.func64, Tryz.ntmps64
  go_wp2_with fail
  refine (wnum_1 r room v acc x g1 g2 w h hn hr).mono ?_; rintro e w1 ⟨rfl, v', h1, h2⟩
  go_wp2_with fail
  go_ret
  exact ⟨rfl, v', h1, h2⟩
theorem wu16_calls (r : Nat) (room : Int) (v : Value) (acc : List Int) (x : Int) (g1 : -9223372036854775808 ≤ x) (g2 : x ≤ 9223372036854775807) (w : World) (h : WSt w r room v acc) (hn : (acc.length : Int) + 2 ≤ room) (hr : room ≤ 1073741824) :
    Calls Tryz.prog 63 #[.pointer (some ⟨r, 0, none⟩), .int .i64 x] w fun e w' => e = .returned (.pointer (some ⟨r, 0, none⟩)) ∧ ∃ v', WSt w' r room v' (acc ++ bytesN 2 x) ∧ WK w w' r v v' := by
  go_enter Tryz.func63, Tryz.ntmps63
  go_wp2_with fail
  refine (wnum_2 r room v acc x g1 g2 w h hn hr).mono ?_; rintro e w1 ⟨rfl, v', h1, h2⟩
  go_wp2_with fail
  go_ret
  exact ⟨rfl, v', h1, h2⟩
theorem wu32_calls (r : Nat) (room : Int) (v : Value) (acc : List Int) (x : Int) (g1 : -9223372036854775808 ≤ x) (g2 : x ≤ 9223372036854775807) (w : World) (h : WSt w r room v acc) (hn : (acc.length : Int) + 4 ≤ room) (hr : room ≤ 1073741824) :
    Calls Tryz.prog 100 #[.pointer (some ⟨r, 0, none⟩), .int .i64 x] w fun e w' => e = .returned (.pointer (some ⟨r, 0, none⟩)) ∧ ∃ v', WSt w' r room v' (acc ++ bytesN 4 x) ∧ WK w w' r v v' := by
  go_enter Tryz.func100, Tryz.ntmps100
  go_wp2_with fail
  refine (wnum_4 r room v acc x g1 g2 w h hn hr).mono ?_; rintro e w1 ⟨rfl, v', h1, h2⟩
  go_wp2_with fail
  go_ret
  exact ⟨rfl, v', h1, h2⟩
end Go.Proofs.YtlhkaoccnpgkeaaGreat
namespace Go.Proofs.YtlhkaoccnpgkeaaGreat
open Go.RowKit
set_option linter.unusedVariables false
set_option linter.unusedSimpArgs false
set_option maxRecDepth 100000 in
theorem clone_calls (v : Value) (zs : List Int) (w : World) (h : IsInts .u8 w v zs) (hl : zs.length ≤ 140737488355328) :
    Calls Tryz.prog 76 #[v] w fun e w' => ∃ v', e = .returned v' ∧ IsInts .u8 w' v' zs ∧ Kp [] w w' ∧ ∀ b, blockOf v' = some b → w.heap.size ≤ b := by
  have H : Hid (IsInts .u8 w v zs) := h
  have HL : Hid _ := hl
  clear hl
  obtain ⟨pa, ca, hva⟩ : ∃ p c, v = .slice p zs.length c := by
    rcases h with ⟨⟨ad, rfl⟩, rfl⟩ | ⟨g, off, c, rfl, _⟩
    · exact ⟨_, 0, rfl⟩
    · exact ⟨_, c, rfl⟩
  subst hva
  cases pa with
  | none =>
    have hz : zs = [] ∧ ca = 0 := by
      rcases h with ⟨⟨ad, e⟩, rfl⟩ | ⟨g, off, c, e, _⟩
      · cases e; exact ⟨rfl, rfl⟩
      · cases e
    obtain ⟨rfl, rfl⟩ := hz
    clear h H HL
    show Calls Tryz.prog 76 #[.slice none 0 0] w _
    have hq := Lib.run_eql_slice_nil (P := Tryz.prog) w 29 5 none 0 0 0 0 Tryz.underlying29
    simp only [Option.isNone] at hq
    go_enter Tryz.func76, Tryz.ntmps76
    go_wp2_with fail
    go_ret
    exact ⟨_, rfl, IsInts.nil _ _, Kp.refl _ _, fun b hb => by simp at hb⟩
  | some ad =>
    clear h
    have hq := Lib.run_eql_slice_nil (P := Tryz.prog) w 29 5 (some ad) zs.length ca 0 0 Tryz.underlying29
    simp only [Option.isNone] at hq
    go_enter Tryz.func76, Tryz.ntmps76
    go_wp2_with (at_builtin; refine wpList_app rfl _ _ 29 rfl w.heap.size 5 (.int .u8 0) 1 1 Tryz.underlying29 infoByte rfl (by decide) (by decide) (.slice (some ⟨w.heap.size, 0, none⟩) 0 0) 0 [] rfl ?hown (.slice (some ad) zs.length ca) zs.length (zs.map (Value.int .u8)) rfl ?hsrc (oneCell_ints _ _) ?hb1 ?hb2 ?hk)
    case hown => exact own_empty _ _ _ _ _ rfl (by omega)
    case hsrc => exact (H.out.kp (S := []) ((Kp.refl _ _).alloc _) (by simp)).reads
    case hb1 => have := HL.out; first | omega | (simp; omega) | simp
    case hb2 => first | omega | (simp; omega) | simp
    case hk =>
    intro v1 w1 hown hgr
    try simp only [Nat.zero_add, List.nil_append] at hown
    have hk1 : Kp [] w w1 := Kp.grown ((Kp.refl _ _).alloc _) hgr (by intro k hk; right; simp [Value.ownBlock] at hk; omega)
    have hge := own_geb hown
    have hi : Hid (IsInts .u8 w1 v1 zs) := IsInts.owned hown
    clear hown hgr
    go_wp2_with fail
    go_ret
    exact ⟨_, rfl, hi.out, hk1, fun b hb => hge b hb⟩
set_option maxRecDepth 100000 in
theorem wdone_calls (r : Nat) (room : Int) (v : Value) (acc : List Int) (w : World) (h : WSt w r room v acc) (hl : acc.length ≤ 140737488355328) :
    Calls Tryz.prog 65 #[.pointer (some ⟨r, 0, none⟩)] w fun e w' => ∃ v', e = .returned (.tuple #[v', .int .i64 0]) ∧ IsInts .u8 w' v' acc ∧ Kp [] w w' ∧ ∀ b, blockOf v' = some b → w.heap.size ≤ b := by
  obtain ⟨c0, c1, c2, f0, f2⟩ := h.facts
  have HI : Hid (IsInts .u8 w v acc) := IsInts.owned h.2.1
  obtain ⟨p, c, rfl⟩ := slice_own h.2.1
  clear h
  go_enter Tryz.func65, Tryz.ntmps65
  go_wp2_with fail
  refine (clone_calls _ acc _ HI.out hl).mono ?_; rintro e w1 ⟨v', rfl, h1, h2, h3⟩
  have H1 : Hid _ := h1
  have H3 : Hid _ := h3
  clear h1 h3
  go_wp2_with fail
  go_ret2
  exact ⟨v', rfl, H1.out, h2, H3.out⟩
end Go.Proofs.YtlhkaoccnpgkeaaGreat
namespace Go.Proofs.YtlhkaoccnpgkeaaGreat
open Go.RowKit
set_option linter.unusedVariables false
set_option linter.unusedSimpArgs false
theorem WSt.wroteL {w w4 : World} {r : Nat} {room : Int} {v : Value} {ac news : List Int} {g4 c4 H : Nat} (h : WSt w r room v ac)
    (hown : w4.ownsRow (r + 1) 5 1 (.slice (some ⟨g4, 0, none⟩) (ac.length + news.length) c4) (ac.length + news.length) (ac.map (Value.int .u8) ++ news.map (Value.int .u8))) (hgr : w.grownBy w4 v.ownBlock) (hat : v.ownBlock = some g4 ∨ g4 = H) (hH : w.heap.size ≤ H) :
    WSt (w4.setCell ⟨r, 0, none⟩ (.slice (some ⟨g4, 0, none⟩) (ac.length + news.length) c4)) r room (.slice (some ⟨g4, 0, none⟩) (ac.length + news.length) c4) (ac ++ news) ∧ WK w (w4.setCell ⟨r, 0, none⟩ (.slice (some ⟨g4, 0, none⟩) (ac.length + news.length) c4)) r v (.slice (some ⟨g4, 0, none⟩) (ac.length + news.length) c4) := by
  obtain ⟨h1, h2, h3⟩ := h
  have hnr : r ∉ v.ownBlock.toList := by
    intro hm; cases hv : v.ownBlock with
    | none => simp [hv] at hm
    | some b => simp [hv] at hm; have := own_ge h2 _ hv; omega
  have hk4 : Kp v.ownBlock.toList w w4 := Kp.grown (Kp.refl _ _) hgr (fun k hk => .inl (by rw [hk]; simp))
  have hk5 : Kp [r] w4 (w4.setCell ⟨r, 0, none⟩ (.slice (some ⟨g4, 0, none⟩) (ac.length + news.length) c4)) := (Kp.refl _ _).setCell (.inl (by simp)) _
  have hs4 := hk4.size
  refine ⟨⟨heap_setCell_same w4 r 0 _ _ _ (hk4.heap h1 hnr), ?_, by simp [World.setCell]; omega⟩, ?_, ?_⟩
  · have := hk5.row hown (by intro s hs e; simp at hs; subst hs; have := own_ge hown _ e; omega)
    simpa using this
  · exact (hk4.more (fun s hs => .inl (List.mem_cons_of_mem _ hs))).trans (hk5.more (fun s hs => .inl (by simp at hs; simp [hs])))
  · intro k hk
    simp [Value.ownBlock] at hk; subst hk
    rcases hat with e | e
    · exact .inl e
    · exact .inr (by omega)
theorem WSt.out {w : World} {r : Nat} {room : Int} {v : Value} {acc : List Int} (h : WSt w r room v acc) (b : Nat) (hb : w.heap.size ≤ b) : b ∉ r :: v.ownBlock.toList := by
  intro hm
  rcases List.mem_cons.1 hm with rfl | hm
  · have := h.2.2; omega
  · cases hv : v.ownBlock with
    | none => simp [hv] at hm
    | some b' => simp [hv] at hm; have := h.2.1.lt _ hv; omega
set_option maxRecDepth 100000 in
theorem wdata_calls (r : Nat) (room : Int) (v : Value) (acc : List Int) (b : Value) (zs : List Int) (w : World) (h : WSt w r room v acc) (hb : IsInts .u8 w b zs) (hbr : ∀ k, blockOf b = some k → k ≠ r) (h0 : 0 < zs.length) (hn : (acc.length : Int) + zs.length ≤ room) (hr : room ≤ 1073741824) :
    Calls Tryz.prog 72 #[.pointer (some ⟨r, 0, none⟩), b] w fun e w' => e = .returned (.pointer (some ⟨r, 0, none⟩)) ∧ ∃ v', WSt w' r room v' (acc ++ zs) ∧ WK w w' r v v' := by
  obtain ⟨i0, hi, hz0, hz1, hz2⟩ := info_parts infoByte
  obtain ⟨g, off, c, rfl, g1, g2, g3⟩ : ∃ g off c, b = .slice (some ⟨g, off, none⟩) zs.length c ∧ zs.length ≤ c ∧ c ≤ maxLen ∧ ∀ i, i < zs.length → w.cell? ⟨g, off + i, none⟩ = some (.int .u8 (zs.getD i 0)) := by
    rcases hb with ⟨⟨a, rfl⟩, rfl⟩ | ⟨g, off, c, rfl, h1, h2, h3⟩
    · simp at h0
    · exact ⟨g, off, c, rfl, h1, h2, h3⟩
  have HB := Lib.hid hb
  have HG := Lib.hid g3
  have hgr := hbr g ((blockOf_some _ _ _ _ _ _).2 ⟨by omega, rfl⟩)
  clear hb g3 hbr
  go_enter Tryz.func72, Tryz.ntmps72
  go_wp2_with fail
  refine (wfits_calls r room v acc zs.length w h (by omega) (by omega) hr).mono ?_; rintro e w1 ⟨rfl, hs1, hk1⟩
  have hst : WSt w1 r room v acc ∧ WK w w1 r v v := ⟨hs1, hk1.more (fun s hs => .inl (by simp at hs; simp [hs])), fun k h => .inl h⟩
  have hal : acc.length + zs.length ≤ 1073741824 := by omega
  have HC := Lib.hid (HB.out.kp hk1 (by intro s hs e; simp at hs; subst hs; exact hgr ((blockOf_some _ _ _ _ _ _).1 e).2))
  obtain ⟨c0, c1, c2, f0, f2⟩ := hst.1.facts
  obtain ⟨p, c5, rfl⟩ := slice_own hst.1.2.1
  have HS := Lib.hid hst
  clear hs1 hk1 h hst
  have hnews : ∀ j u, (zs.map (Value.int .u8))[j]? = some u → w1.cell? ((⟨g, off, none⟩ : Addr).add j) = some u := by
    intro j u hu
    rw [add_lit]
    rcases HC.out.reads.2 with ⟨⟨a, e⟩, e0⟩ | ⟨g', off', c', e, _, _, h3⟩
    · omega
    · cases e; exact h3 j u hu
  go_wp2_with (at_builtin; go_loud (refine wpList_append_lies _ rfl _ _ 29 rfl (r + 1) 5 i0 (.int .u8 0) 1 1 Tryz.underlying29 hi hz0 hz1 hz2 rfl (by decide) (.slice p acc.length c5) acc.length (acc.map (Value.int .u8)) rfl HS.out.1.2.1 ⟨g, off, none⟩ zs.length c (zs.map (Value.int .u8)) rfl (by simp) hnews (oneCell_ints _ _) h0 (by unfold maxLen; omega) (by omega) (by have := HS.out.1.2.2; omega) w1.heap.size rfl ?hk))
  case hk =>
    intro g4 c4 w4 hown hgr4 hat hlt
    have hk4 : Kp (Value.slice p acc.length c5).ownBlock.toList w1 w4 := Kp.grown (Kp.refl _ _) hgr4 (fun k hk => .inl (by rw [hk]; simp))
    have hnr : r ∉ (Value.slice p acc.length c5).ownBlock.toList := by
      intro hm; cases hv : (Value.slice p acc.length c5).ownBlock with
      | none => simp [hv] at hm
      | some b => simp [hv] at hm; have := own_ge HS.out.1.2.1 _ hv; omega
    have hb4 := hk4.heap HS.out.1.1 hnr
    have c40 : w4.cell? ⟨r, 0, none⟩ = some (.slice p acc.length c5) := by rw [cell_of_row w4 r 0 _ _ _ hb4]; rfl
    have f40 := frozen_of_row w4 r 0 _ _ hb4
    obtain ⟨hw5, hk5⟩ := HS.out.1.wroteL hown hgr4 hat (by simp)
    have HW := Lib.hid hw5
    have HK := Lib.hid (HS.out.2.trans hk5)
    clear hw5 hk5 hown hgr4 hat hb4 hk4 hnr c0 c1 c2 f0 f2
    go_wp2_with fail
    go_ret
    exact ⟨rfl, _, HW.out, HK.out⟩
end Go.Proofs.YtlhkaoccnpgkeaaGreat
namespace Go.Proofs.YtlhkaoccnpgkeaaGreat
open Go.RowKit
set_option linter.unusedVariables false
set_option linter.unusedSimpArgs false
/-- The text that bytes are. -/
def toStr (zs : List Int) : ByteArray := zs.foldl (fun r n => r.push (UInt8.ofNat n.toNat)) ByteArray.empty
theorem run_str (v : Value) (zs : List Int) (w : World) (h : IsInts .u8 w v zs) : (Go.convert 29 9 v).run Tryz.prog w = .ok (.string (toStr zs)) w := by
  have key : ∀ a l c, (Go.convert 29 9 (.slice a l c)).run Tryz.prog w = (Conv.bytesToString (.slice a l c)).run Tryz.prog w := fun a l c =>
    run_convert_bytes_string w 29 9 5 a l c Tryz.underlying29 Tryz.underlying5 Tryz.underlying9
  rcases h with ⟨⟨ad, rfl⟩, rfl⟩ | ⟨g, off, c, rfl, h1, h2, h3⟩
  · rw [key]
    cases ad with
    | none => rfl
    | some a => exact run_bytesToString w a 0 0 [] (by simp [loadCells, loadCellsFrom, Sem.run_pure])
  · rw [key]
    refine run_bytesToString w _ _ _ zs ?_
    have := run_loadCells_list (P := Tryz.prog) (w := w) ⟨g, off, none⟩ (zs.map (Value.int .u8)) (fun j u hu => by
      rw [add_lit]
      rw [List.getElem?_map] at hu
      by_cases hj : j < zs.length
      · rw [List.getElem?_eq_getElem hj] at hu
        rw [h3 j hj, List.getD_eq_getElem?_getD, List.getElem?_eq_getElem hj]
        simpa using hu
      · rw [List.getElem?_eq_none (by omega)] at hu; simp at hu)
    simpa using this
end Go.Proofs.YtlhkaoccnpgkeaaGreat

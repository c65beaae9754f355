/- The contracts of the layer wire: the reader · The contracts of the layer wire: the reader's numbers · The contracts of the reference of the layer wire: the reader · The reference's Bytes: a number's lowest n bytes. (Written by wip/wire/genbytes.py.) · The contracts of the layer wire: the writer that has room. (Written by wip/wire/genwriter.py.) · The contracts of the layer wire: slices.Clone, the writer's end · The contracts of the layer wire: Data of the writer that has room; the reference's writer. --prune · Bytes as a text: 'string(b)'. (Merged by wip/tools/mergetpl.py out of WireA, WireB, WireC, WireD, WireE, WireF, WireG, Str.) -/
import Derived.Test.YtfgpocpfapnkkaaGreatRows
import Derived.Test.YtfgpocpfapnkkaaGreatMem
import Derived.Test.YtfgpocpfapnkkaaGreatBits
import Derived.WalkKit
import Derived.ProofKit
import Derived.BigQuiet
import Derived.Deep.QuietTactic
import Derived.WalkLawsBesides
import Derived.WalkSpells
import Derived.Test.YtfgpocpfapnkkaaGreatApp
import Derived.Lib.Hide
import Derived.Deep.RegionHeld3
import Derived.Deep.RegionLaw
import Derived.Deep.AppendLies
import Derived.Laws.BytesString
import Derived.Laws.Cells
namespace Go.Proofs.YtfgpocpfapnkkaaGreat
open Go.RowKit
set_option linter.unusedVariables false
set_option linter.unusedSimpArgs false

/-- Block r is a reader over the bytes of v, at a place, bad or not. -/
def Rdr (w : World) (r : Nat) (v : Value) (at_ : Int) (bad : Bool) : Prop := w.heap[r]? = some (.cells #[v, .int .i64 at_, .bool bad] 70 (0, 0))
theorem Rdr.kp {S : List Nat} {w w' : World} {r : Nat} {v : Value} {k : Int} {bad : Bool} (h : Rdr w r v k bad) (hk : Kp S w w') (hr : r ∉ S) : Rdr w' r v k bad := hk.heap h hr
theorem Rdr.facts {w : World} {r : Nat} {v : Value} {k : Int} {bad : Bool} (h : Rdr w r v k bad) :
    w.cell? ⟨r, 0, none⟩ = some v ∧ w.cell? ⟨r, 1, none⟩ = some (.int .i64 k) ∧ w.cell? ⟨r, 2, none⟩ = some (.bool bad) ∧ w.frozen? ⟨r, 1, none⟩ = false ∧ w.frozen? ⟨r, 2, none⟩ = false :=
  ⟨by rw [cell_of_row w r 0 _ _ _ h]; rfl, by rw [cell_of_row w r 1 _ _ _ h]; rfl, by rw [cell_of_row w r 2 _ _ _ h]; rfl, frozen_of_row w r 1 _ _ h, frozen_of_row w r 2 _ _ h⟩
theorem Rdr.setAt {w : World} {r : Nat} {v : Value} {k : Int} {bad : Bool} (h : Rdr w r v k bad) (m : Int) : Rdr (w.setCell ⟨r, 1, none⟩ (.int .i64 m)) r v m bad := heap_setCell_same w r 1 _ _ _ h
theorem Rdr.setBad {w : World} {r : Nat} {v : Value} {k : Int} {bad : Bool} (h : Rdr w r v k bad) (m : Bool) : Rdr (w.setCell ⟨r, 2, none⟩ (.bool m)) r v k m := heap_setCell_same w r 2 _ _ _ h

theorem new_calls (v : Value) (a : Option Addr) (n c : Nat) (hv : v = .slice a n c) (w : World) :
    Calls Tryz.prog 24 #[v] w fun e w' => e = .returned (.pointer (some ⟨w.heap.size, 0, none⟩)) ∧ w' = w.alloc (.cells #[v, .int .i64 0, .bool false] 70) := by
  subst hv
  go_enter Tryz.func24, Tryz.ntmps24
  go_wp2
  go_ret
  exact ⟨rfl, rfl⟩
theorem wrong_calls (r : Nat) (v : Value) (k : Int) (bad : Bool) (w : World) (h : Rdr w r v k bad) :
    Calls Tryz.prog 35 #[.pointer (some ⟨r, 0, none⟩)] w fun e w' => e = .returned (.bool bad) ∧ w = w' := by
  obtain ⟨c0, c1, c2, f1, f2⟩ := h.facts
  go_enter Tryz.func35, Tryz.ntmps35
  go_wp2
  go_ret
  exact ⟨rfl, rfl⟩
theorem done_calls (r : Nat) (v : Value) (k : Int) (bad : Bool) (w : World) (h : Rdr w r v k bad) :
    Calls Tryz.prog 38 #[.pointer (some ⟨r, 0, none⟩)] w fun e w' => e = .returned (.int .i64 (bif bad then 30 else 0)) ∧ w = w' := by
  cases bad
  all_goals
    go_enter Tryz.func38, Tryz.ntmps38
    go_wp2_with fail
    refine (wrong_calls _ _ _ _ _ h).mono ?_; rintro e w' ⟨rfl, rfl⟩
    go_wp2
    go_ret
    exact ⟨rfl, rfl⟩
theorem spoil_calls (r : Nat) (v : Value) (k : Int) (bad : Bool) (w : World) (h : Rdr w r v k bad) :
    Calls Tryz.prog 63 #[.pointer (some ⟨r, 0, none⟩)] w fun e w' => e = .returned (.tuple #[]) ∧ w' = w.setCell ⟨r, 2, none⟩ (.bool true) := by
  obtain ⟨c0, c1, c2, f1, f2⟩ := h.facts
  go_enter Tryz.func63, Tryz.ntmps63
  go_wp2
  go_end0
  exact ⟨rfl, rfl⟩
theorem next_bad (r : Nat) (v : Value) (k n : Int) (w : World) (h : Rdr w r v k true) :
    Calls Tryz.prog 49 #[.pointer (some ⟨r, 0, none⟩), .int .i64 n] w fun e w' => e = .returned (.slice none 0 0) ∧ Rdr w' r v k true ∧ Kp [r] w w' := by
  go_enter Tryz.func49, Tryz.ntmps49
  go_wp2
  go_quiet ((go_at_call 35; exact Calls.quiet_of_same ((wrong_calls r v k true _ (by exact h)).mono fun _ _ ⟨a, b⟩ => ⟨a, b.symm⟩)))
  go_wp2_with fail
  refine (spoil_calls r v k true _ (by exact h)).mono ?_; rintro e w' ⟨rfl, rfl⟩
  go_wp2_with fail
  go_ret
  exact ⟨rfl, Rdr.setBad (by exact h) _, ((Kp.refl [r] w).drewN _).setCell (.inl (by simp)) _⟩
theorem next_short (r : Nat) (a : Option Addr) (N c k : Nat) (n : Int) (w : World) (h : Rdr w r (.slice a N c) k false) (h1 : 0 ≤ n) (h2 : (N : Int) - k < n) (hN : N ≤ maxLen) (hk : k ≤ N) :
    Calls Tryz.prog 49 #[.pointer (some ⟨r, 0, none⟩), .int .i64 n] w fun e w' => e = .returned (.slice none 0 0) ∧ Rdr w' r (.slice a N c) k true ∧ Kp [r] w w' := by
  obtain ⟨c0, c1, c2, f1, f2⟩ := h.facts
  unfold maxLen at hN
  have hlt : decide (n < 0) = false := by simpa using h1
  go_enter Tryz.func49, Tryz.ntmps49
  go_wp2
  go_quiet ((go_at_call 35; exact Calls.quiet_of_same ((wrong_calls r (.slice a N c) k false _ (by exact h)).mono fun _ _ ⟨a, b⟩ => ⟨a, b.symm⟩)))
  go_wp2_with fail
  refine (spoil_calls r (.slice a N c) k false _ (by exact h)).mono ?_; rintro e w' ⟨rfl, rfl⟩
  go_wp2_with fail
  go_ret
  exact ⟨rfl, Rdr.setBad (by exact h) _, ((Kp.refl [r] w).drewN _).setCell (.inl (by simp)) _⟩
theorem next_ok (r g off N c k m : Nat) (n : Int) (hn : n = m) (w : World) (h : Rdr w r (.slice (some ⟨g, off, none⟩) N c) k false) (h1 : 1 ≤ n) (h2 : n ≤ (N : Int) - k) (hN : N ≤ c) (hc : c ≤ maxLen) :
    Calls Tryz.prog 49 #[.pointer (some ⟨r, 0, none⟩), .int .i64 n] w fun e w' => e = .returned (.slice (some ⟨g, off + k, none⟩) m (c - k)) ∧ Rdr w' r (.slice (some ⟨g, off, none⟩) N c) ((k + m : Nat) : Int) false ∧ Kp [r] w w' := by
  subst hn
  obtain ⟨c0, c1, c2, f1, f2⟩ := h.facts
  unfold maxLen at hc
  have hlt : decide ((m : Int) < 0) = false := by simp
  go_enter Tryz.func49, Tryz.ntmps49
  go_wp2
  go_quiet ((go_at_call 35; exact Calls.quiet_of_same ((wrong_calls r (.slice (some ⟨g, off, none⟩) N c) k false _ (by exact h)).mono fun _ _ ⟨a, b⟩ => ⟨a, b.symm⟩)))
  go_wp2_with fail
  go_quiet (fail)
  go_wp2
  go_ret
  refine ⟨?_, Rdr.setAt (k := (k : Int)) (by exact h) _, by (repeat (first | exact Kp.refl _ _ | assumption | refine Kp.drew ?_ | refine Kp.drewN ?_ _ | refine Kp.alloc ?_ _ | (refine Kp.setCell ?_ (by first | (left; simp; done) | (right; simp; try omega)) _) | (refine Kp.trans' ?_ (by assumption) (by simp; try omega))))⟩
  simp
end Go.Proofs.YtfgpocpfapnkkaaGreat
namespace Go.Proofs.YtfgpocpfapnkkaaGreat
open Go.RowKit
set_option linter.unusedVariables false
set_option linter.unusedSimpArgs false
/-- The number that bytes are, the highest first. -/
def beN (l : List Int) : Int := l.foldl (fun x c => x * 256 + c) 0
theorem beN_snoc (l : List Int) (c : Int) : beN (l ++ [c]) = beN l * 256 + c := by simp [beN]
theorem beN_acc (l : List Int) (h : ∀ c ∈ l, 0 ≤ c ∧ c ≤ 255) : ∀ (x : Int) (j : Nat), 0 ≤ x → x < (256 ^ j : Nat) → 0 ≤ l.foldl (fun x c => x * 256 + c) x ∧ l.foldl (fun x c => x * 256 + c) x < (256 ^ (j + l.length) : Nat) := by
  induction l with
  | nil => intro x j h0 h1; exact ⟨h0, h1⟩
  | cons c l ih =>
    intro x j h0 h1
    have h2 := h c (by simp)
    have := ih (fun y hy => h y (by simp [hy])) (x * 256 + c) (j + 1) (by omega) (by rw [Nat.pow_succ]; generalize 256 ^ j = P at *; omega)
    rw [List.foldl_cons, List.length_cons, show j + (l.length + 1) = j + 1 + l.length by omega]
    exact this
theorem beN_lt (l : List Int) (h : ∀ c ∈ l, 0 ≤ c ∧ c ≤ 255) : 0 ≤ beN l ∧ beN l < (256 ^ l.length : Nat) := by
  have := beN_acc l h 0 0 (by omega) (by simp)
  simpa [beN] using this
/-- The bytes of one number. -/
def cutB (zs : List Int) (k m : Nat) : List Int := (zs.drop k).take m
theorem cutB_succ (zs : List Int) (k i : Nat) (h : k + i < zs.length) : cutB zs k (i + 1) = cutB zs k i ++ [zs.getD (k + i) 0] := by
  unfold cutB
  rw [List.take_succ_eq_append_getElem (by simp; omega), List.getElem_drop, List.getD_eq_getElem?_getD, List.getElem?_eq_getElem h]; rfl
theorem cutB_mem (zs : List Int) (k i : Nat) (h : ∀ c ∈ zs, 0 ≤ c ∧ c ≤ 255) : ∀ c ∈ cutB zs k i, 0 ≤ c ∧ c ≤ 255 :=
  fun c hc => h c (List.mem_of_mem_drop (List.mem_of_mem_take hc))
theorem getD_mem_bounds (zs : List Int) (i : Nat) (h : ∀ c ∈ zs, 0 ≤ c ∧ c ≤ 255) : 0 ≤ zs.getD i 0 ∧ zs.getD i 0 ≤ 255 := by
  rw [List.getD_eq_getElem?_getD]
  by_cases hi : i < zs.length
  · rw [List.getElem?_eq_getElem hi]; exact h _ (List.getElem_mem hi)
  · rw [List.getElem?_eq_none (by omega)]; simp
theorem pow256_le (i : Nat) (h : i ≤ 3) : (256 ^ i : Nat) ≤ 16777216 := Nat.le_trans (Nat.pow_le_pow_right (by decide) h) (by decide)
theorem number_ok (r : Nat) (v : Value) (zs : List Int) (k m : Nat) (n : Int) (hn : n = m) (w : World) (h : Rdr w r v k false) (hz : IsInts .u8 w v zs) (hb : ∀ c ∈ zs, 0 ≤ c ∧ c ≤ 255) (hr : blockOf v ≠ some r)
    (h1 : 1 ≤ m) (h4 : m ≤ 4) (h2 : k + m ≤ zs.length) :
    Calls Tryz.prog 36 #[.pointer (some ⟨r, 0, none⟩), .int .i64 n] w fun e w' => e = .returned (.int .i64 (beN (cutB zs k m))) ∧ Rdr w' r v ((k + m : Nat) : Int) false ∧ Kp [r] w w' := by
  rcases hz with ⟨⟨ad, rfl⟩, rfl⟩ | ⟨g, off, c, rfl, hN, hc, hcell⟩
  · simp at h2; omega
  · subst hn
    have hg : g ≠ r := fun e => hr ((blockOf_some _ _ _ _ _ _).2 ⟨by omega, e⟩)
    have hB : Hid _ := hb
    clear hb hr
    go_enter Tryz.func36, Tryz.ntmps36
    go_wp2_with fail
    refine (next_ok r g off zs.length c k m m rfl _ (by exact h) (by omega) (by omega) hN hc).mono ?_; rintro e w1 ⟨rfl, hr1, hk1⟩
    have hcell1 : Hid (∀ i, i < zs.length → w1.cell? ⟨g, off + i, none⟩ = some (.int .u8 (zs.getD i 0))) := fun i hi => hk1.cell (hcell i hi) (by simpa using hg)
    clear hcell
    go_wp2_with fail
    go_loop [5, 7, 12] (fun x _ i => ∃ j : Nat, j ≤ m ∧ i = .int .i64 j ∧ x = .int .i64 (beN (cutB zs k j))) (fun _ _ i => m - (intOf i).toNat)
    case atStart => exact ⟨0, by omega, rfl, by simp [cutB, beN]⟩
    case round =>
      obtain ⟨j, hj, rfl, rfl⟩ := hrel
      by_cases hlt : j < m
      · have hcl := hcell1.out (k + j) (by omega)
        rw [← Nat.add_assoc] at hcl
        have hs := cutB_succ zs k j (by omega)
        have hbn := beN_lt (cutB zs k j) (cutB_mem zs k j hB.out)
        have hl : (cutB zs k j).length = j := by simp [cutB]; omega
        rw [hl] at hbn
        have hp := pow256_le j (by omega)
        obtain ⟨z0, z1⟩ := getD_mem_bounds zs (k + j) hB.out
        have hor := i64_or8 (beN (cutB zs k j)) (zs.getD (k + j) 0) (by omega) (by omega) z0 (by omega)
        have hs2 : Hid (beN (cutB zs k (j + 1)) = beN (cutB zs k j) * 256 + zs.getD (k + j) 0) := by unfold Hid; rw [hs, beN_snoc]
        obtain ⟨b0, b1⟩ := hbn
        have b2 : beN (cutB zs k j) ≤ 16777216 := by omega
        clear hs hl hp b1
        generalize zs.getD (k + j) 0 = z at *
        generalize beN (cutB zs k j) = x at *
        go_wp2
        go_round
        case rel => exact ⟨j + 1, by omega, by go_num, by rw [hs2.out]⟩
        case measure => simp [intOf]; omega
      · obtain rfl : j = m := by omega
        go_wp2
        go_ret
        exact ⟨by simp, hr1, hk1⟩
theorem number_bad (r : Nat) (v : Value) (k : Int) (n : Int) (w : World) (h : Rdr w r v k true) :
    Calls Tryz.prog 36 #[.pointer (some ⟨r, 0, none⟩), .int .i64 n] w fun e w' => e = .returned (.int .i64 0) ∧ Rdr w' r v k true ∧ Kp [r] w w' := by
  go_enter Tryz.func36, Tryz.ntmps36
  go_wp2_with fail
  refine (next_bad r v k n _ (by exact h)).mono ?_; rintro e w1 ⟨rfl, hr1, hk1⟩
  go_wp2_with fail
  go_loop [5, 7, 12] (fun x _ i => x = .int .i64 0 ∧ i = .int .i64 0) (fun _ _ i => 0)
  case atStart => exact ⟨rfl, rfl⟩
  case round =>
    obtain ⟨rfl, rfl⟩ := hrel
    go_wp2
    go_ret
    exact ⟨by simp, hr1, hk1⟩
theorem number_short (r : Nat) (v : Value) (zs : List Int) (k : Nat) (n : Int) (w : World) (h : Rdr w r v k false) (hz : IsInts .u8 w v zs) (h1 : 0 ≤ n) (h2 : (zs.length : Int) - k < n) (hk : k ≤ zs.length) :
    Calls Tryz.prog 36 #[.pointer (some ⟨r, 0, none⟩), .int .i64 n] w fun e w' => e = .returned (.int .i64 0) ∧ Rdr w' r v k true ∧ Kp [r] w w' := by
  have hle := hz.le
  obtain ⟨a, c, rfl⟩ : ∃ a c, v = .slice a zs.length c := by
    rcases hz with ⟨⟨ad, rfl⟩, rfl⟩ | ⟨g, off, c, rfl, _⟩
    · exact ⟨_, 0, rfl⟩
    · exact ⟨_, c, rfl⟩
  go_enter Tryz.func36, Tryz.ntmps36
  go_wp2_with fail
  refine (next_short r a zs.length c k n _ (by exact h) h1 h2 hle hk).mono ?_; rintro e w1 ⟨rfl, hr1, hk1⟩
  go_wp2_with fail
  go_loop [5, 7, 12] (fun x _ i => x = .int .i64 0 ∧ i = .int .i64 0) (fun _ _ i => 0)
  case atStart => exact ⟨rfl, rfl⟩
  case round =>
    obtain ⟨rfl, rfl⟩ := hrel
    go_wp2
    go_ret
    exact ⟨by simp, hr1, hk1⟩
/-- What a reader of 'zs' at place k is behind a read of m bytes: is it bad, where is it, what was read. -/
def rdB (zs : List Int) (k : Nat) (bad : Bool) (m : Nat) : Bool := bad || decide (zs.length < k + m)
def rdK (zs : List Int) (k : Nat) (bad : Bool) (m : Nat) : Nat := if rdB zs k bad m then k else k + m
def rdV (zs : List Int) (k : Nat) (bad : Bool) (m : Nat) : Int := if rdB zs k bad m then 0 else beN (cutB zs k m)
theorem rdK_le (zs : List Int) (k : Nat) (bad : Bool) (m : Nat) (h : k ≤ zs.length) : rdK zs k bad m ≤ zs.length := by
  unfold rdK rdB; cases bad <;> simp <;> (try split) <;> omega
theorem rdV_bounds (zs : List Int) (k : Nat) (bad : Bool) (m : Nat) (hb : ∀ c ∈ zs, 0 ≤ c ∧ c ≤ 255) : 0 ≤ rdV zs k bad m ∧ rdV zs k bad m < (256 ^ m : Nat) := by
  unfold rdV
  have hp : 0 < 256 ^ m := Nat.pow_pos (by decide)
  split
  · omega
  · have := beN_lt (cutB zs k m) (cutB_mem zs k m hb)
    have hl : (cutB zs k m).length ≤ m := by simp [cutB]; omega
    have := Nat.pow_le_pow_right (n := 256) (by decide) hl
    omega
theorem number_calls (r : Nat) (v : Value) (zs : List Int) (k m : Nat) (bad : Bool) (n : Int) (hn : n = m) (w : World) (h : Rdr w r v k bad) (hz : IsInts .u8 w v zs) (hb : ∀ c ∈ zs, 0 ≤ c ∧ c ≤ 255) (hr : blockOf v ≠ some r)
    (h1 : 1 ≤ m) (h4 : m ≤ 4) (hk : k ≤ zs.length) :
    Calls Tryz.prog 36 #[.pointer (some ⟨r, 0, none⟩), .int .i64 n] w fun e w' => e = .returned (.int .i64 (rdV zs k bad m)) ∧ Rdr w' r v (rdK zs k bad m : Nat) (rdB zs k bad m) ∧ Kp [r] w w' := by
  cases bad
  · by_cases h2 : zs.length < k + m
    · have e1 : rdB zs k false m = true := by simp [rdB, h2]
      unfold rdV rdK; rw [e1]
      exact number_short r v zs k n w h hz (by omega) (by omega) hk
    · have e1 : rdB zs k false m = false := by simp [rdB]; omega
      unfold rdV rdK; rw [e1]
      exact number_ok r v zs k m n hn w h hz hb hr h1 h4 (by omega)
  · have e1 : rdB zs k true m = true := by simp [rdB]
    unfold rdV rdK; rw [e1]
    exact number_bad r v k n w h
theorem u8_calls (r : Nat) (v : Value) (zs : List Int) (k : Nat) (bad : Bool) (w : World) (h : Rdr w r v k bad) (hz : IsInts .u8 w v zs) (hb : ∀ c ∈ zs, 0 ≤ c ∧ c ≤ 255) (hr : blockOf v ≠ some r) (hk : k ≤ zs.length) :
    Calls Tryz.prog 26 #[.pointer (some ⟨r, 0, none⟩)] w fun e w' => e = .returned (.int .i64 (rdV zs k bad 1)) ∧ Rdr w' r v (rdK zs k bad 1 : Nat) (rdB zs k bad 1) ∧ Kp [r] w w' := by
  go_enter Tryz.func26, Tryz.ntmps26
  go_wp2_with fail
  refine (number_calls r v zs k 1 bad 1 rfl w h hz hb hr (by omega) (by omega) hk).mono ?_; rintro e w1 ⟨rfl, hr1, hk1⟩
  go_wp2_with fail
  go_ret
  exact ⟨by simp, hr1, hk1⟩
theorem u32_calls (r : Nat) (v : Value) (zs : List Int) (k : Nat) (bad : Bool) (w : World) (h : Rdr w r v k bad) (hz : IsInts .u8 w v zs) (hb : ∀ c ∈ zs, 0 ≤ c ∧ c ≤ 255) (hr : blockOf v ≠ some r) (hk : k ≤ zs.length) :
    Calls Tryz.prog 51 #[.pointer (some ⟨r, 0, none⟩)] w fun e w' => e = .returned (.int .i64 (rdV zs k bad 4)) ∧ Rdr w' r v (rdK zs k bad 4 : Nat) (rdB zs k bad 4) ∧ Kp [r] w w' := by
  go_enter Tryz.func51, Tryz.ntmps51
  go_wp2_with fail
  refine (number_calls r v zs k 4 bad 4 rfl w h hz hb hr (by omega) (by omega) hk).mono ?_; rintro e w1 ⟨rfl, hr1, hk1⟩
  go_wp2_with fail
  go_ret
  exact ⟨by simp, hr1, hk1⟩
/-- A number of 16 bits, with its sign. -/
def s16 (x : Int) : Int := if 32768 ≤ x then x - 65536 else x
theorem wrap16_s16 (x : Int) (h0 : 0 ≤ x) (h1 : x < 65536) : IntKind.i16.wrap x = s16 x := by
  unfold s16; by_cases h : 32768 ≤ x <;> simp [IntKind.wrap, IntKind.signed, IntKind.bits, h] <;> omega
theorem s16_bounds (x : Int) (h0 : 0 ≤ x) (h1 : x < 65536) : -32768 ≤ s16 x ∧ s16 x ≤ 32767 := by
  unfold s16; split <;> omega
theorem i16_calls (r : Nat) (v : Value) (zs : List Int) (k : Nat) (bad : Bool) (w : World) (h : Rdr w r v k bad) (hz : IsInts .u8 w v zs) (hb : ∀ c ∈ zs, 0 ≤ c ∧ c ≤ 255) (hr : blockOf v ≠ some r) (hk : k ≤ zs.length) :
    Calls Tryz.prog 50 #[.pointer (some ⟨r, 0, none⟩)] w fun e w' => e = .returned (.int .i64 (s16 (rdV zs k bad 2))) ∧ Rdr w' r v (rdK zs k bad 2 : Nat) (rdB zs k bad 2) ∧ Kp [r] w w' := by
  obtain ⟨q0, q1⟩ := rdV_bounds zs k bad 2 hb
  have e1 := wrap16_s16 _ q0 q1
  have e2 : Hid _ := e1
  obtain ⟨q2, q3⟩ := s16_bounds _ q0 q1
  clear e1
  go_enter Tryz.func50, Tryz.ntmps50
  go_wp2_with fail
  refine (number_calls r v zs k 2 bad 2 rfl w h hz hb hr (by omega) (by omega) hk).mono ?_; rintro e w1 ⟨rfl, hr1, hk1⟩
  generalize hy : rdV zs k bad 2 = y at e2 q0 q1 q2 q3 ⊢
  have e4 : Hid (s16 y = s16 (rdV zs k bad 2)) := by rw [hy]; rfl
  clear hy
  have e3 := e2.out
  go_wp2_with fail
  go_ret
  exact ⟨by rw [← e4.out]; simp, hr1, hk1⟩
end Go.Proofs.YtfgpocpfapnkkaaGreat
namespace Go.Proofs.YtfgpocpfapnkkaaGreat
open Go.RowKit
set_option linter.unusedVariables false
set_option linter.unusedSimpArgs false
theorem infoByte : (Tryz.prog.info? 5).map (fun i => (i.zero, i.size, i.bytes)) = some (some (.int .u8 0), 1, 1) := by kernel_rfl

end Go.Proofs.YtfgpocpfapnkkaaGreat
namespace Go.Proofs.YtfgpocpfapnkkaaGreat
open Go.RowKit
set_option linter.unusedVariables false
set_option linter.unusedSimpArgs false
/-- A number's lowest n bytes, the highest first. -/
def bytesN : Nat → Int → List Int
  | 0, _ => []
  | i + 1, x => (x / (256 ^ i : Nat) % 256) :: bytesN i x
theorem bytesN_length (n : Nat) (x : Int) : (bytesN n x).length = n := by
  induction n with
  | zero => rfl
  | succ n ih => simp [bytesN, ih]
theorem madeBytes (n : Nat) : (madeCells #[Value.int .u8 0] n).toList = (List.replicate n (0 : Int)).map (Value.int .u8) := by
  apply List.ext_getElem?
  intro i
  simp only [madeCells, Array.toList_map, Array.toList_range, List.getElem?_map, List.getElem?_range, List.map_replicate]
  by_cases h : i < n
  · simp [h, Nat.mod_one]
  · simp [h]
/-- So many of the lowest bytes, the others still 0. -/
def halfB (n i : Nat) (x : Int) : List Int := List.replicate (n - i) 0 ++ bytesN i x
theorem halfB_set (n i : Nat) (x : Int) (h : i < n) : (halfB n i x).set (n - 1 - i) (x / (256 ^ i : Nat) % 256) = halfB n (i + 1) x := by
  unfold halfB
  rw [show n - i = (n - 1 - i) + 1 by omega, List.replicate_succ', List.append_assoc, List.set_append, if_neg (by simp), List.length_replicate, Nat.sub_self]
  simp only [List.singleton_append, List.set_cons_zero, bytesN]
  rw [show n - 1 - i = n - (i + 1) by omega]
theorem halfB_length (n i : Nat) (x : Int) (h : i ≤ n) : (halfB n i x).length = n := by
  unfold halfB; rw [List.length_append, bytesN_length, List.length_replicate]; omega
end Go.Proofs.YtfgpocpfapnkkaaGreat
namespace Go.Proofs.YtfgpocpfapnkkaaGreat
open Go.RowKit
set_option linter.unusedVariables false
set_option linter.unusedSimpArgs false
/-- What a write may have turned: the writer, its own row, what is new. -/
def WK (w wr : World) (r : Nat) (v v' : Value) : Prop := Kp (r :: v.ownBlock.toList) w wr ∧ ∀ k, v'.ownBlock = some k → v.ownBlock = some k ∨ w.heap.size ≤ k
theorem WK.refl (w : World) (r : Nat) (v : Value) : WK w w r v v := ⟨Kp.refl _ _, fun k h => .inl h⟩
theorem WK.trans {a b c : World} {r : Nat} {v v' v'' : Value} (h : WK a b r v v') (k : WK b c r v' v'') : WK a c r v v'' := by
  have hs := h.1.size
  refine ⟨h.1.trans' k.1 ?_, fun i hi => ?_⟩
  · intro t ht
    rcases List.mem_cons.1 ht with rfl | ht
    · exact .inl List.mem_cons_self
    · cases hv : v'.ownBlock with
      | none => simp [hv] at ht
      | some b =>
        simp [hv] at ht; subst ht
        rcases h.2 _ hv with e | e
        · exact .inl (by simp [e])
        · exact .inr e
  · rcases k.2 i hi with e | e
    · exact h.2 i e
    · exact .inr (Nat.le_trans hs e)
end Go.Proofs.YtfgpocpfapnkkaaGreat
namespace Go.Proofs.YtfgpocpfapnkkaaGreat
open Go.RowKit
set_option linter.unusedVariables false
set_option linter.unusedSimpArgs false
set_option maxRecDepth 100000 in
theorem clone_calls (v : Value) (zs : List Int) (w : World) (h : IsInts .u8 w v zs) (hl : zs.length ≤ 140737488355328) :
    Calls Tryz.prog 57 #[v] w fun e w' => ∃ v', e = .returned v' ∧ IsInts .u8 w' v' zs ∧ Kp [] w w' ∧ ∀ b, blockOf v' = some b → w.heap.size ≤ b := by
  have H : Hid (IsInts .u8 w v zs) := h
  have HL : Hid _ := hl
  clear hl
  obtain ⟨pa, ca, hva⟩ : ∃ p c, v = .slice p zs.length c := by
    rcases h with ⟨⟨ad, rfl⟩, rfl⟩ | ⟨g, off, c, rfl, _⟩
    · exact ⟨_, 0, rfl⟩
    · exact ⟨_, c, rfl⟩
  subst hva
  cases pa with
  | none =>
    have hz : zs = [] ∧ ca = 0 := by
      rcases h with ⟨⟨ad, e⟩, rfl⟩ | ⟨g, off, c, e, _⟩
      · cases e; exact ⟨rfl, rfl⟩
      · cases e
    obtain ⟨rfl, rfl⟩ := hz
    clear h H HL
    show Calls Tryz.prog 57 #[.slice none 0 0] w _
    have hq := Lib.run_eql_slice_nil (P := Tryz.prog) w 22 5 none 0 0 0 0 Tryz.underlying22
    simp only [Option.isNone] at hq
    go_enter Tryz.func57, Tryz.ntmps57
    go_wp2_with fail
    go_ret
    exact ⟨_, rfl, IsInts.nil _ _, Kp.refl _ _, fun b hb => by simp at hb⟩
  | some ad =>
    clear h
    have hq := Lib.run_eql_slice_nil (P := Tryz.prog) w 22 5 (some ad) zs.length ca 0 0 Tryz.underlying22
    simp only [Option.isNone] at hq
    go_enter Tryz.func57, Tryz.ntmps57
    go_wp2_with (at_builtin; refine wpList_app rfl _ _ 22 rfl w.heap.size 5 (.int .u8 0) 1 1 Tryz.underlying22 infoByte rfl (by decide) (by decide) (.slice (some ⟨w.heap.size, 0, none⟩) 0 0) 0 [] rfl ?hown (.slice (some ad) zs.length ca) zs.length (zs.map (Value.int .u8)) rfl ?hsrc (oneCell_ints _ _) ?hb1 ?hb2 ?hk)
    case hown => exact own_empty _ _ _ _ _ rfl (by omega)
    case hsrc => exact (H.out.kp (S := []) ((Kp.refl _ _).alloc _) (by simp)).reads
    case hb1 => have := HL.out; first | omega | (simp; omega) | simp
    case hb2 => first | omega | (simp; omega) | simp
    case hk =>
    intro v1 w1 hown hgr
    try simp only [Nat.zero_add, List.nil_append] at hown
    have hk1 : Kp [] w w1 := Kp.grown ((Kp.refl _ _).alloc _) hgr (by intro k hk; right; simp [Value.ownBlock] at hk; omega)
    have hge := own_geb hown
    have hi : Hid (IsInts .u8 w1 v1 zs) := IsInts.owned hown
    clear hown hgr
    go_wp2_with fail
    go_ret
    exact ⟨_, rfl, hi.out, hk1, fun b hb => hge b hb⟩
end Go.Proofs.YtfgpocpfapnkkaaGreat
namespace Go.Proofs.YtfgpocpfapnkkaaGreat
open Go.RowKit
set_option linter.unusedVariables false
set_option linter.unusedSimpArgs false
end Go.Proofs.YtfgpocpfapnkkaaGreat
namespace Go.Proofs.YtfgpocpfapnkkaaGreat
open Go.RowKit
set_option linter.unusedVariables false
set_option linter.unusedSimpArgs false
/-- The text that bytes are. -/
def toStr (zs : List Int) : ByteArray := zs.foldl (fun r n => r.push (UInt8.ofNat n.toNat)) ByteArray.empty
theorem run_str (v : Value) (zs : List Int) (w : World) (h : IsInts .u8 w v zs) : (Go.convert 22 9 v).run Tryz.prog w = .ok (.string (toStr zs)) w := by
  have key : ∀ a l c, (Go.convert 22 9 (.slice a l c)).run Tryz.prog w = (Conv.bytesToString (.slice a l c)).run Tryz.prog w := fun a l c =>
    run_convert_bytes_string w 22 9 5 a l c Tryz.underlying22 Tryz.underlying5 Tryz.underlying9
  rcases h with ⟨⟨ad, rfl⟩, rfl⟩ | ⟨g, off, c, rfl, h1, h2, h3⟩
  · rw [key]
    cases ad with
    | none => rfl
    | some a => exact run_bytesToString w a 0 0 [] (by simp [loadCells, loadCellsFrom, Sem.run_pure])
  · rw [key]
    refine run_bytesToString w _ _ _ zs ?_
    have := run_loadCells_list (P := Tryz.prog) (w := w) ⟨g, off, none⟩ (zs.map (Value.int .u8)) (fun j u hu => by
      rw [add_lit]
      rw [List.getElem?_map] at hu
      by_cases hj : j < zs.length
      · rw [List.getElem?_eq_getElem hj] at hu
        rw [h3 j hj, List.getD_eq_getElem?_getD, List.getElem?_eq_getElem hj]
        simpa using hu
      · rw [List.getElem?_eq_none (by omega)] at hu; simp at hu)
    simpa using this
end Go.Proofs.YtfgpocpfapnkkaaGreat

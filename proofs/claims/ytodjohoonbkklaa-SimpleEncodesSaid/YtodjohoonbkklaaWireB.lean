/- The contracts of the layer wire: the reader's numbers. -/
import Derived.Test.YtodjohoonbkklaaWireA
namespace Go.Proofs.Ytodjohoonbkklaa
open Go.RowKit
set_option linter.unusedVariables false
set_option linter.unusedSimpArgs false
/-- The number that bytes are, the highest first. -/
def beN (l : List Int) : Int := l.foldl (fun x c => x * 256 + c) 0
theorem beN_snoc (l : List Int) (c : Int) : beN (l ++ [c]) = beN l * 256 + c := by simp [beN]
theorem beN_acc (l : List Int) (h : ∀ c ∈ l, 0 ≤ c ∧ c ≤ 255) : ∀ (x : Int) (j : Nat), 0 ≤ x → x < (256 ^ j : Nat) → 0 ≤ l.foldl (fun x c => x * 256 + c) x ∧ l.foldl (fun x c => x * 256 + c) x < (256 ^ (j + l.length) : Nat) := by
  induction l with
  | nil => intro x j h0 h1; exact ⟨h0, h1⟩
  | cons c l ih =>
    intro x j h0 h1
    have h2 := h c (by simp)
    have := ih (fun y hy => h y (by simp [hy])) (x * 256 + c) (j + 1) (by omega) (by rw [Nat.pow_succ]; generalize 256 ^ j = P at *; omega)
    rw [List.foldl_cons, List.length_cons, show j + (l.length + 1) = j + 1 + l.length by omega]
    exact this
theorem beN_lt (l : List Int) (h : ∀ c ∈ l, 0 ≤ c ∧ c ≤ 255) : 0 ≤ beN l ∧ beN l < (256 ^ l.length : Nat) := by
  have := beN_acc l h 0 0 (by omega) (by simp)
  simpa [beN] using this
/-- The bytes of one number. -/
def cutB (zs : List Int) (k m : Nat) : List Int := (zs.drop k).take m
theorem cutB_succ (zs : List Int) (k i : Nat) (h : k + i < zs.length) : cutB zs k (i + 1) = cutB zs k i ++ [zs.getD (k + i) 0] := by
  unfold cutB
  rw [List.take_succ_eq_append_getElem (by simp; omega), List.getElem_drop, List.getD_eq_getElem?_getD, List.getElem?_eq_getElem h]; rfl
theorem cutB_mem (zs : List Int) (k i : Nat) (h : ∀ c ∈ zs, 0 ≤ c ∧ c ≤ 255) : ∀ c ∈ cutB zs k i, 0 ≤ c ∧ c ≤ 255 :=
  fun c hc => h c (List.mem_of_mem_drop (List.mem_of_mem_take hc))
theorem getD_mem_bounds (zs : List Int) (i : Nat) (h : ∀ c ∈ zs, 0 ≤ c ∧ c ≤ 255) : 0 ≤ zs.getD i 0 ∧ zs.getD i 0 ≤ 255 := by
  rw [List.getD_eq_getElem?_getD]
  by_cases hi : i < zs.length
  · rw [List.getElem?_eq_getElem hi]; exact h _ (List.getElem_mem hi)
  · rw [List.getElem?_eq_none (by omega)]; simp
theorem pow256_le (i : Nat) (h : i ≤ 3) : (256 ^ i : Nat) ≤ 16777216 := Nat.le_trans (Nat.pow_le_pow_right (by decide) h) (by decide)
theorem number_ok (r : Nat) (v : Value) (zs : List Int) (k m : Nat) (n : Int) (hn : n = m) (w : World) (h : Rdr w r v k false) (hz : IsInts .u8 w v zs) (hb : ∀ c ∈ zs, 0 ≤ c ∧ c ≤ 255) (hr : blockOf v ≠ some r)
    (h1 : 1 ≤ m) (h4 : m ≤ 4) (h2 : k + m ≤ zs.length) :
    Calls Try.prog 108 #[.pointer (some ⟨r, 0, none⟩), .int .i64 n] w fun e w' => e = .returned (.int .i64 (beN (cutB zs k m))) ∧ Rdr w' r v ((k + m : Nat) : Int) false ∧ Kp [r] w w' := by
  rcases hz with ⟨⟨ad, rfl⟩, rfl⟩ | ⟨g, off, c, rfl, hN, hc, hcell⟩
  · simp at h2; omega
  · subst hn
    have hg : g ≠ r := fun e => hr ((blockOf_some _ _ _ _ _ _).2 ⟨by omega, e⟩)
    have hB : Hid _ := hb
    clear hb hr
    go_enter Try.func108, Try.ntmps108
    go_wp2_with fail
    refine (next_ok r g off zs.length c k m m rfl _ (by exact h) (by omega) (by omega) hN hc).mono ?_; rintro e w1 ⟨rfl, hr1, hk1⟩
    have hcell1 : Hid (∀ i, i < zs.length → w1.cell? ⟨g, off + i, none⟩ = some (.int .u8 (zs.getD i 0))) := fun i hi => hk1.cell (hcell i hi) (by simpa using hg)
    clear hcell
    go_wp2_with fail
    go_loop [5, 7, 12] (fun x _ i => ∃ j : Nat, j ≤ m ∧ i = .int .i64 j ∧ x = .int .i64 (beN (cutB zs k j))) (fun _ _ i => m - (intOf i).toNat)
    case atStart => exact ⟨0, by omega, rfl, by simp [cutB, beN]⟩
    case round =>
      obtain ⟨j, hj, rfl, rfl⟩ := hrel
      by_cases hlt : j < m
      · have hcl := hcell1.out (k + j) (by omega)
        rw [← Nat.add_assoc] at hcl
        have hs := cutB_succ zs k j (by omega)
        have hbn := beN_lt (cutB zs k j) (cutB_mem zs k j hB.out)
        have hl : (cutB zs k j).length = j := by simp [cutB]; omega
        rw [hl] at hbn
        have hp := pow256_le j (by omega)
        obtain ⟨z0, z1⟩ := getD_mem_bounds zs (k + j) hB.out
        have hor := i64_or8 (beN (cutB zs k j)) (zs.getD (k + j) 0) (by omega) (by omega) z0 (by omega)
        have hs2 : Hid (beN (cutB zs k (j + 1)) = beN (cutB zs k j) * 256 + zs.getD (k + j) 0) := by unfold Hid; rw [hs, beN_snoc]
        obtain ⟨b0, b1⟩ := hbn
        have b2 : beN (cutB zs k j) ≤ 16777216 := by omega
        clear hs hl hp b1
        generalize zs.getD (k + j) 0 = z at *
        generalize beN (cutB zs k j) = x at *
        go_wp2
        go_round
        case rel => exact ⟨j + 1, by omega, by go_num, by rw [hs2.out]⟩
        case measure => simp [intOf]; omega
      · obtain rfl : j = m := by omega
        go_wp2
        go_ret
        exact ⟨by simp, hr1, hk1⟩
theorem number_bad (r : Nat) (v : Value) (k : Int) (n : Int) (w : World) (h : Rdr w r v k true) :
    Calls Try.prog 108 #[.pointer (some ⟨r, 0, none⟩), .int .i64 n] w fun e w' => e = .returned (.int .i64 0) ∧ Rdr w' r v k true ∧ Kp [r] w w' := by
  go_enter Try.func108, Try.ntmps108
  go_wp2_with fail
  refine (next_bad r v k n _ (by exact h)).mono ?_; rintro e w1 ⟨rfl, hr1, hk1⟩
  go_wp2_with fail
  go_loop [5, 7, 12] (fun x _ i => x = .int .i64 0 ∧ i = .int .i64 0) (fun _ _ i => 0)
  case atStart => exact ⟨rfl, rfl⟩
  case round =>
    obtain ⟨rfl, rfl⟩ := hrel
    go_wp2
    go_ret
    exact ⟨by simp, hr1, hk1⟩
theorem number_short (r : Nat) (v : Value) (zs : List Int) (k : Nat) (n : Int) (w : World) (h : Rdr w r v k false) (hz : IsInts .u8 w v zs) (h1 : 0 ≤ n) (h2 : (zs.length : Int) - k < n) (hk : k ≤ zs.length) :
    Calls Try.prog 108 #[.pointer (some ⟨r, 0, none⟩), .int .i64 n] w fun e w' => e = .returned (.int .i64 0) ∧ Rdr w' r v k true ∧ Kp [r] w w' := by
  have hle := hz.le
  obtain ⟨a, c, rfl⟩ : ∃ a c, v = .slice a zs.length c := by
    rcases hz with ⟨⟨ad, rfl⟩, rfl⟩ | ⟨g, off, c, rfl, _⟩
    · exact ⟨_, 0, rfl⟩
    · exact ⟨_, c, rfl⟩
  go_enter Try.func108, Try.ntmps108
  go_wp2_with fail
  refine (next_short r a zs.length c k n _ (by exact h) h1 h2 hle hk).mono ?_; rintro e w1 ⟨rfl, hr1, hk1⟩
  go_wp2_with fail
  go_loop [5, 7, 12] (fun x _ i => x = .int .i64 0 ∧ i = .int .i64 0) (fun _ _ i => 0)
  case atStart => exact ⟨rfl, rfl⟩
  case round =>
    obtain ⟨rfl, rfl⟩ := hrel
    go_wp2
    go_ret
    exact ⟨by simp, hr1, hk1⟩
/-- What a reader of 'zs' at place k is behind a read of m bytes: is it bad, where is it, what was read. -/
def rdB (zs : List Int) (k : Nat) (bad : Bool) (m : Nat) : Bool := bad || decide (zs.length < k + m)
def rdK (zs : List Int) (k : Nat) (bad : Bool) (m : Nat) : Nat := if rdB zs k bad m then k else k + m
def rdV (zs : List Int) (k : Nat) (bad : Bool) (m : Nat) : Int := if rdB zs k bad m then 0 else beN (cutB zs k m)
theorem rdK_le (zs : List Int) (k : Nat) (bad : Bool) (m : Nat) (h : k ≤ zs.length) : rdK zs k bad m ≤ zs.length := by
  unfold rdK rdB; cases bad <;> simp <;> (try split) <;> omega
theorem rdV_bounds (zs : List Int) (k : Nat) (bad : Bool) (m : Nat) (hb : ∀ c ∈ zs, 0 ≤ c ∧ c ≤ 255) : 0 ≤ rdV zs k bad m ∧ rdV zs k bad m < (256 ^ m : Nat) := by
  unfold rdV
  have hp : 0 < 256 ^ m := Nat.pow_pos (by decide)
  split
  · omega
  · have := beN_lt (cutB zs k m) (cutB_mem zs k m hb)
    have hl : (cutB zs k m).length ≤ m := by simp [cutB]; omega
    have := Nat.pow_le_pow_right (n := 256) (by decide) hl
    omega
theorem number_calls (r : Nat) (v : Value) (zs : List Int) (k m : Nat) (bad : Bool) (n : Int) (hn : n = m) (w : World) (h : Rdr w r v k bad) (hz : IsInts .u8 w v zs) (hb : ∀ c ∈ zs, 0 ≤ c ∧ c ≤ 255) (hr : blockOf v ≠ some r)
    (h1 : 1 ≤ m) (h4 : m ≤ 4) (hk : k ≤ zs.length) :
    Calls Try.prog 108 #[.pointer (some ⟨r, 0, none⟩), .int .i64 n] w fun e w' => e = .returned (.int .i64 (rdV zs k bad m)) ∧ Rdr w' r v (rdK zs k bad m : Nat) (rdB zs k bad m) ∧ Kp [r] w w' := by
  cases bad
  · by_cases h2 : zs.length < k + m
    · have e1 : rdB zs k false m = true := by simp [rdB, h2]
      unfold rdV rdK; rw [e1]
      exact number_short r v zs k n w h hz (by omega) (by omega) hk
    · have e1 : rdB zs k false m = false := by simp [rdB]; omega
      unfold rdV rdK; rw [e1]
      exact number_ok r v zs k m n hn w h hz hb hr h1 h4 (by omega)
  · have e1 : rdB zs k true m = true := by simp [rdB]
    unfold rdV rdK; rw [e1]
    exact number_bad r v k n w h
theorem u8_calls (r : Nat) (v : Value) (zs : List Int) (k : Nat) (bad : Bool) (w : World) (h : Rdr w r v k bad) (hz : IsInts .u8 w v zs) (hb : ∀ c ∈ zs, 0 ≤ c ∧ c ≤ 255) (hr : blockOf v ≠ some r) (hk : k ≤ zs.length) :
    Calls Try.prog 140 #[.pointer (some ⟨r, 0, none⟩)] w fun e w' => e = .returned (.int .i64 (rdV zs k bad 1)) ∧ Rdr w' r v (rdK zs k bad 1 : Nat) (rdB zs k bad 1) ∧ Kp [r] w w' := by
  go_enter Try.func140, Try.ntmps140
  go_wp2_with fail
  refine (number_calls r v zs k 1 bad 1 rfl w h hz hb hr (by omega) (by omega) hk).mono ?_; rintro e w1 ⟨rfl, hr1, hk1⟩
  go_wp2_with fail
  go_ret
  exact ⟨by simp, hr1, hk1⟩
theorem u16_calls (r : Nat) (v : Value) (zs : List Int) (k : Nat) (bad : Bool) (w : World) (h : Rdr w r v k bad) (hz : IsInts .u8 w v zs) (hb : ∀ c ∈ zs, 0 ≤ c ∧ c ≤ 255) (hr : blockOf v ≠ some r) (hk : k ≤ zs.length) :
    Calls Try.prog 95 #[.pointer (some ⟨r, 0, none⟩)] w fun e w' => e = .returned (.int .i64 (rdV zs k bad 2)) ∧ Rdr w' r v (rdK zs k bad 2 : Nat) (rdB zs k bad 2) ∧ Kp [r] w w' := by
  go_enter Try.func95, Try.ntmps95
  go_wp2_with fail
  refine (number_calls r v zs k 2 bad 2 rfl w h hz hb hr (by omega) (by omega) hk).mono ?_; rintro e w1 ⟨rfl, hr1, hk1⟩
  go_wp2_with fail
  go_ret
  exact ⟨by simp, hr1, hk1⟩
/-- A number of 16 bits, with its sign. -/
def s16 (x : Int) : Int := if 32768 ≤ x then x - 65536 else x
theorem wrap16_s16 (x : Int) (h0 : 0 ≤ x) (h1 : x < 65536) : IntKind.i16.wrap x = s16 x := by
  unfold s16; by_cases h : 32768 ≤ x <;> simp [IntKind.wrap, IntKind.signed, IntKind.bits, h] <;> omega
theorem s16_bounds (x : Int) (h0 : 0 ≤ x) (h1 : x < 65536) : -32768 ≤ s16 x ∧ s16 x ≤ 32767 := by
  unfold s16; split <;> omega
theorem i16_calls (r : Nat) (v : Value) (zs : List Int) (k : Nat) (bad : Bool) (w : World) (h : Rdr w r v k bad) (hz : IsInts .u8 w v zs) (hb : ∀ c ∈ zs, 0 ≤ c ∧ c ≤ 255) (hr : blockOf v ≠ some r) (hk : k ≤ zs.length) :
    Calls Try.prog 52 #[.pointer (some ⟨r, 0, none⟩)] w fun e w' => e = .returned (.int .i64 (s16 (rdV zs k bad 2))) ∧ Rdr w' r v (rdK zs k bad 2 : Nat) (rdB zs k bad 2) ∧ Kp [r] w w' := by
  obtain ⟨q0, q1⟩ := rdV_bounds zs k bad 2 hb
  have e1 := wrap16_s16 _ q0 q1
  have e2 : Hid _ := e1
  obtain ⟨q2, q3⟩ := s16_bounds _ q0 q1
  clear e1
  go_enter Try.func52, Try.ntmps52
  go_wp2_with fail
  refine (number_calls r v zs k 2 bad 2 rfl w h hz hb hr (by omega) (by omega) hk).mono ?_; rintro e w1 ⟨rfl, hr1, hk1⟩
  generalize hy : rdV zs k bad 2 = y at e2 q0 q1 q2 q3 ⊢
  have e4 : Hid (s16 y = s16 (rdV zs k bad 2)) := by rw [hy]; rfl
  clear hy
  have e3 := e2.out
  go_wp2_with fail
  go_ret
  exact ⟨by rw [← e4.out]; simp, hr1, hk1⟩
end Go.Proofs.Ytodjohoonbkklaa

/- Places that were put are loaded again, whatever follows. Plain lists; no program in sight. -/
import Derived.Test.YthmokldmdcjklaaMtH
import Derived.Test.YthmokldmdcjklaaMtI
namespace Go.Proofs.Ythmokldmdcjklaa
set_option linter.unusedVariables false
set_option linter.unusedSimpArgs false
theorem rd_atM (A B C : List Int) : rdB (A ++ B ++ C) A.length false B.length = false ∧ rdV (A ++ B ++ C) A.length false B.length = beN B ∧ rdK (A ++ B ++ C) A.length false B.length = A.length + B.length := by
  have h1 : rdB (A ++ B ++ C) A.length false B.length = false := by unfold rdB; simp
  refine ⟨h1, ?_, ?_⟩
  · unfold rdV cutB; rw [h1, if_neg (by simp), List.append_assoc, List.drop_left, List.take_left]
  · unfold rdK; rw [h1, if_neg (by simp)]
theorem rd_inM {zs A B C : List Int} (h : zs = A ++ B ++ C) (k m : Nat) (hk : k = A.length) (hm : m = B.length) : rdB zs k false m = false ∧ rdV zs k false m = beN B ∧ rdK zs k false m = k + m := by
  subst h hk hm; exact rd_atM A B C
theorem beN_bytes2 (x : Int) (h0 : 0 ≤ x) (h1 : x ≤ 65535) : beN (bytesN 2 x) = x := by simp [beN, bytesN]; omega
theorem beN_bytes4 (x : Int) (h0 : 0 ≤ x) (h1 : x ≤ 4294967295) : beN (bytesN 4 x) = x := by simp [beN, bytesN]; omega
theorem plPre_split (l : List Int) (long : Bool) (j d : Nat) : ∃ r, plPre l long (j + d) = plPre l long j ++ r := by
  induction d with
  | zero => exact ⟨[], by simp⟩
  | succ d ih =>
    obtain ⟨r, h⟩ := ih
    refine ⟨r ++ (if long then bytesN 4 (l.getD (j + d) 0) else bytesN 2 (l.getD (j + d) 0 / 2)), ?_⟩
    rw [show j + (d + 1) = (j + d) + 1 by omega, plPre, h, List.append_assoc]
theorem pl_read (l : List Int) (long : Bool) (behind : List Int) (j : Nat) (hj : j < l.length) (h : okPl long (l.getD j 0) = true) :
    plB (plPre l long l.length ++ behind) long ((if long then 4 else 2) * j) = false ∧ plV (plPre l long l.length ++ behind) long ((if long then 4 else 2) * j) = l.getD j 0 ∧ plK (plPre l long l.length ++ behind) long ((if long then 4 else 2) * j) = (if long then 4 else 2) * (j + 1) := by
  obtain ⟨r, hr⟩ := plPre_split l long (j + 1) (l.length - (j + 1))
  rw [show j + 1 + (l.length - (j + 1)) = l.length by omega] at hr
  have hl := plPre_len l long j
  unfold okPl at h
  simp only [Bool.and_eq_true, Bool.or_eq_true, decide_eq_true_eq, beq_iff_eq] at h
  obtain ⟨⟨h0, h1⟩, h2⟩ := h
  cases long
  · have e := rd_inM (zs := plPre l false l.length ++ behind) (A := plPre l false j) (B := bytesN 2 (l.getD j 0 / 2)) (C := r ++ behind) (by rw [hr, plPre]; simp [List.append_assoc]) (2 * j) 2 (by rw [hl]; simp) (bytesN_length 2 _).symm
    have h2' : l.getD j 0 % 2 = 0 ∧ l.getD j 0 ≤ 131070 := by
      rcases h2 with h2 | h2
      · cases h2
      · exact h2
    obtain ⟨h3, h4⟩ := h2'
    rw [beN_bytes2 _ (by omega) (by omega)] at e
    refine ⟨e.1, ?_, ?_⟩
    · show 2 * rdV _ (2 * j) false 2 = _
      rw [e.2.1]; omega
    · show rdK _ (2 * j) false 2 = 2 * (j + 1)
      rw [e.2.2]; omega
  · have e := rd_inM (zs := plPre l true l.length ++ behind) (A := plPre l true j) (B := bytesN 4 (l.getD j 0)) (C := r ++ behind) (by rw [hr, plPre]; simp [List.append_assoc]) (4 * j) 4 (by rw [hl]; simp) (bytesN_length 4 _).symm
    rw [beN_bytes4 _ (by omega) (by omega)] at e
    refine ⟨e.1, e.2.1, ?_⟩
    show rdK _ (4 * j) false 4 = 4 * (j + 1)
    rw [e.2.2]; omega
theorem srt_le (l : List Int) (h : srt l = true) (i d : Nat) (hi : i + d < l.length) : l.getD i 0 ≤ l.getD (i + d) 0 := by
  induction d with
  | zero => exact Int.le_refl _
  | succ d ih => have a := ih (by omega); have b := srt_at l h (i + d) (by omega); rw [show i + (d + 1) = i + d + 1 by omega]; omega
theorem plGo_put (l : List Int) (long : Bool) (behind : List Int) (hok : l.all (okPl long) = true) (hs : srt l = true) :
    ∀ (m j : Nat) (lst : Int), j + m = l.length → (j = 0 → lst = 0) → (0 < j → lst = l.getD (j - 1) 0) → plGo (plPre l long l.length ++ behind) long (l.getD (l.length - 1) 0) m lst (l.take j) ((if long then 4 else 2) * j) = some l := by
  intro m
  induction m with
  | zero => intro j lst h1 h2 h3; rw [show j = l.length by omega, List.take_length]; rfl
  | succ m ih =>
    intro j lst h1 h2 h3
    have hj : j < l.length := by omega
    have hm : l.getD j 0 ∈ l := by rw [List.getD_eq_getElem?_getD, List.getElem?_eq_getElem hj]; exact List.getElem_mem _
    have hk := List.all_eq_true.1 hok _ hm
    obtain ⟨e1, e2, e3⟩ := pl_read l long behind j hj hk
    have hle : l.getD j 0 ≤ l.getD (l.length - 1) 0 := by
      have := srt_le l hs j (l.length - 1 - j) (by omega)
      rwa [show j + (l.length - 1 - j) = l.length - 1 by omega] at this
    have h0 : 0 ≤ l.getD j 0 := by
      unfold okPl at hk
      simp only [Bool.and_eq_true, decide_eq_true_eq] at hk
      exact hk.1.1
    have hlst : lst ≤ l.getD j 0 := by
      by_cases hz : j = 0
      · rw [h2 hz]; exact h0
      · rw [h3 (by omega)]
        have := srt_at l hs (j - 1) (by omega)
        rwa [show j - 1 + 1 = j by omega] at this
    rw [plGo, e1, e2, e3, if_neg (by rintro (h | h | h); cases h; omega; omega)]
    have ht : l.take j ++ [l.getD j 0] = l.take (j + 1) := by
      rw [List.take_add_one, List.getD_eq_getElem?_getD, List.getElem?_eq_getElem hj]; rfl
    rw [ht]
    exact ih (j + 1) _ (by omega) (fun h => by omega) (fun _ => by rw [Nat.add_sub_cancel])
theorem pl_put (l : List Int) (long : Bool) (behind : List Int) (hm : mayPl l long = true) : plLoad (plPre l long l.length ++ behind) (l.length - 1) long (l.getD (l.length - 1) 0) = some l := by
  unfold mayPl at hm
  simp only [Bool.and_eq_true, decide_eq_true_eq] at hm
  obtain ⟨⟨⟨k1, k2⟩, k3⟩, k4⟩ := hm
  have := plGo_put l long behind k4 k3 l.length 0 0 (by omega) (fun _ => rfl) (fun h => absurd h (by omega))
  unfold plLoad
  rw [show l.length - 1 + 1 = l.length by omega]
  simpa using this
theorem plPre_bytes (l : List Int) (long : Bool) (j : Nat) : ∀ c ∈ plPre l long j, 0 ≤ c ∧ c ≤ 255 := by
  have hb : ∀ (n : Nat) (x c : Int), c ∈ bytesN n x → 0 ≤ c ∧ c ≤ 255 := by
    intro n
    induction n with
    | zero => intro x c h; simp [bytesN] at h
    | succ n ih =>
      intro x c h
      rcases List.mem_cons.1 h with rfl | h
      · omega
      · exact ih x c h
  induction j with
  | zero => intro c h; simp [plPre] at h
  | succ j ih =>
    intro c h
    unfold plPre at h
    rcases List.mem_append.1 h with h | h
    · exact ih c h
    · cases long
      · exact hb 2 _ c h
      · exact hb 4 _ c h
end Go.Proofs.Ythmokldmdcjklaa

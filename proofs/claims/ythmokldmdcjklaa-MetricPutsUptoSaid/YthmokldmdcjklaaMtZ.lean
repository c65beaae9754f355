/- Metrics that were put are loaded again, whatever follows. Plain lists; no program in sight. -/
import Derived.Test.YthmokldmdcjklaaMtC
import Derived.Test.YthmokldmdcjklaaMtD
import Derived.Test.YthmokldmdcjklaaMtU
namespace Go.Proofs.Ythmokldmdcjklaa
set_option linter.unusedVariables false
set_option linter.unusedSimpArgs false
theorem s16_bytes (x : Int) (h0 : -32768 ≤ x) (h1 : x ≤ 32767) : s16 (beN (bytesN 2 x)) = x := by
  have : beN (bytesN 2 x) = x % 65536 := by simp [beN, bytesN]; omega
  rw [this]; unfold s16; split <;> omega
theorem cut_at (A B C : List Int) : cutB (A ++ (B ++ C)) A.length B.length = B := by
  unfold cutB; rw [List.drop_left, List.take_left]
theorem cut_in {zs A B C : List Int} (h : zs = A ++ (B ++ C)) (k m : Nat) (hk : k = A.length) (hm : m = B.length) : cutB zs k m = B := by
  subst h hk hm; exact cut_at A B C
theorem metPre_split (l : List (Int × Int)) (m j d : Nat) : ∃ r, metPre l m (j + d) = metPre l m j ++ r := by
  induction d with
  | zero => exact ⟨[], by simp⟩
  | succ d ih =>
    obtain ⟨r, h⟩ := ih
    refine ⟨r ++ ((if j + d < m then bytesN 2 (l.getD (j + d) (0, 0)).1 else []) ++ bytesN 2 (l.getD (j + d) (0, 0)).2), ?_⟩
    rw [show j + (d + 1) = (j + d) + 1 by omega, metPre, h, List.append_assoc, List.append_assoc]
theorem met_readA (l : List (Int × Int)) (m : Nat) (behind : List Int) (j : Nat) (hj : j < l.length) (hjm : j < m) (h0 : 0 ≤ (l.getD j (0, 0)).1) (h1 : (l.getD j (0, 0)).1 ≤ 65535) :
    metA (metPre l m l.length ++ behind) m j = (l.getD j (0, 0)).1 := by
  obtain ⟨r, hr⟩ := metPre_split l m (j + 1) (l.length - (j + 1))
  rw [show j + 1 + (l.length - (j + 1)) = l.length by omega, metPre, if_pos hjm] at hr
  have hl := metPre_len l m j
  unfold metA
  rw [cut_in (A := metPre l m j) (B := bytesN 2 (l.getD j (0, 0)).1) (C := bytesN 2 (l.getD j (0, 0)).2 ++ (r ++ behind)) (by rw [hr]; simp [List.append_assoc]) (kM m j) 2 (by rw [hl, kM]) (bytesN_length 2 _).symm, beN_bytes2 _ h0 h1]
theorem met_readB (l : List (Int × Int)) (m : Nat) (behind : List Int) (j : Nat) (hj : j < l.length) (h0 : -32768 ≤ (l.getD j (0, 0)).2) (h1 : (l.getD j (0, 0)).2 ≤ 32767) :
    metB (metPre l m l.length ++ behind) m j = (l.getD j (0, 0)).2 := by
  obtain ⟨r, hr⟩ := metPre_split l m (j + 1) (l.length - (j + 1))
  rw [show j + 1 + (l.length - (j + 1)) = l.length by omega, metPre] at hr
  have hl := metPre_len l m j
  unfold metB
  rw [cut_in (A := metPre l m j ++ (if j < m then bytesN 2 (l.getD j (0, 0)).1 else [])) (B := bytesN 2 (l.getD j (0, 0)).2) (C := r ++ behind) (by rw [hr]; simp [List.append_assoc]) (kM m j + if j < m then 2 else 0) 2 (by rw [List.length_append, hl, kM]; by_cases h : j < m <;> simp [h, bytesN_length]) (bytesN_length 2 _).symm, s16_bytes _ h0 h1]
theorem kM_all (m n : Nat) (h : m ≤ n) : kM m n = 4 * m + 2 * (n - m) := by unfold kM; omega
theorem met_put (l : List (Int × Int)) (m : Nat) (behind : List Int) (hm : mayMet l m = true) :
    kM m l.length ≤ (metPre l m l.length ++ behind).length ∧ (∀ i, i < l.length → l.getD i (0, 0) = ((advsL (metPre l m l.length ++ behind) m l.length).getD (min i ((advsL (metPre l m l.length ++ behind) m l.length).length - 1)) 0, (bearsL (metPre l m l.length ++ behind) m l.length).getD i 0)) := by
  unfold mayMet at hm
  simp only [Bool.and_eq_true, decide_eq_true_eq] at hm
  obtain ⟨⟨⟨⟨⟨k1, k2⟩, k3⟩, k4⟩, k5⟩, k6⟩ := hm
  have hmn : m ≤ l.length := by omega
  have h1m : 1 ≤ m := by omega
  have hget : ∀ i, i < l.length → l.getD i (0, 0) ∈ l := fun i hi => by rw [List.getD_eq_getElem?_getD, List.getElem?_eq_getElem hi]; exact List.getElem_mem _
  have hf : ∀ i, i < l.length → 0 ≤ (l.getD i (0, 0)).1 ∧ (l.getD i (0, 0)).1 ≤ 65535 ∧ -32768 ≤ (l.getD i (0, 0)).2 ∧ (l.getD i (0, 0)).2 ≤ 32767 := fun i hi => by
    have := List.all_eq_true.1 k5 _ (hget i hi)
    simp only [fitsM, Bool.and_eq_true, decide_eq_true_eq] at this
    omega
  refine ⟨by rw [List.length_append, metPre_len, kM]; omega, fun i hi => ?_⟩
  have hA : (advsL (metPre l m l.length ++ behind) m l.length).length = m := by rw [advsL_length]; omega
  rw [hA]
  have hb : (bearsL (metPre l m l.length ++ behind) m l.length).getD i 0 = (l.getD i (0, 0)).2 := by
    unfold bearsL
    rw [List.getD_eq_getElem?_getD, List.getElem?_map, List.getElem?_range hi]
    exact met_readB l m behind i hi (hf i hi).2.2.1 (hf i hi).2.2.2
  have ha : ∀ k, k < m → (advsL (metPre l m l.length ++ behind) m l.length).getD k 0 = (l.getD k (0, 0)).1 := fun k hk => by
    unfold advsL
    rw [List.getD_eq_getElem?_getD, List.getElem?_map, List.getElem?_range (by omega)]
    exact met_readA l m behind k (by omega) hk (hf k (by omega)).1 (hf k (by omega)).2.1
  rw [hb]
  by_cases him : i < m
  · rw [show min i (m - 1) = i by omega, ha i him]
  · rw [show min i (m - 1) = m - 1 by omega, ha (m - 1) (by omega)]
    have hd : l.getD i (0, 0) ∈ l.drop (m : Int).toNat := by
      rw [List.getD_eq_getElem?_getD, List.getElem?_eq_getElem hi]
      rw [Int.toNat_natCast]
      have := List.getElem_mem (l := l.drop m) (n := i - m) (by rw [List.length_drop]; omega)
      rw [List.getElem_drop] at this
      simpa [show m + (i - m) = i by omega] using this
    have := List.all_eq_true.1 k6 _ hd
    simp only [Int.toNat_natCast, beq_iff_eq] at this
    rw [← this]
theorem metPre_bytes (l : List (Int × Int)) (m j : Nat) : ∀ c ∈ metPre l m j, 0 ≤ c ∧ c ≤ 255 := by
  have hb : ∀ (n : Nat) (x c : Int), c ∈ bytesN n x → 0 ≤ c ∧ c ≤ 255 := by
    intro n
    induction n with
    | zero => intro x c h; simp [bytesN] at h
    | succ n ih =>
      intro x c h
      rcases List.mem_cons.1 h with rfl | h
      · omega
      · exact ih x c h
  induction j with
  | zero => intro c h; simp [metPre] at h
  | succ j ih =>
    intro c h
    unfold metPre at h
    rcases List.mem_append.1 h with h | h
    · rcases List.mem_append.1 h with h | h
      · exact ih c h
      · by_cases hjm : j < m
        · rw [if_pos hjm] at h; exact hb 2 _ c h
        · rw [if_neg hjm] at h; simp at h
    · exact hb 2 _ c h
end Go.Proofs.Ythmokldmdcjklaa

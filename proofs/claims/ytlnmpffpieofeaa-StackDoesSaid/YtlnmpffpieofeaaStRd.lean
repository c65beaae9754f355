/- stack: the reference's roll. -/
import Derived.Test.YtlnmpffpieofeaaStRb
import Derived.OwnWalk
namespace Go.Proofs.Ytlnmpffpieofeaa
open Go.RowKit
set_option linter.unusedVariables false
set_option linter.unusedSimpArgs false
theorem wI (x : Int) (h1 : -9223372036854775808 ≤ x) (h2 : x ≤ 9223372036854775807) : IntKind.i64.wrap x = x := by rw [IntKind.wrap_i64]; omega
theorem w64 (x : Int) (h1 : -9223372036854775808 ≤ x) (h2 : x ≤ 9223372036854775807) : wrap64 x = x := by unfold wrap64; omega
theorem map_getDs {l : List Int} {t : Nat} (h : t < l.length) : (l.map (Value.int .i64))[t]? = some (.int .i64 (l.getD t 0)) := by
  rw [List.getElem?_map, List.getD_eq_getElem?_getD, List.getElem?_eq_getElem h]; rfl
theorem madeInts (n : Nat) : (madeCells #[Value.int .i64 0] n).toList = (List.replicate n (0 : Int)).map (Value.int .i64) := by
  apply List.ext_getElem?
  intro i
  simp only [madeCells, Array.toList_map, Array.toList_range, List.getElem?_map, List.getElem?_range, List.map_replicate]
  by_cases h : i < n
  · simp [h, Nat.mod_one]
  · simp [h]
theorem rr_at (X : List Int) (k i : Nat) (hk : k < X.length) (hi : i < X.length) : (rr X k).getD ((i + k) % X.length) 0 = X.getD i 0 := by
  unfold rr
  have hd : (X.drop (X.length - k)).length = k := by simp; omega
  rw [List.getD_eq_getElem?_getD, List.getD_eq_getElem?_getD]
  by_cases h : i + k < X.length
  · rw [Nat.mod_eq_of_lt h, List.getElem?_append_right (by omega), hd, show i + k - k = i by omega, List.getElem?_take_of_lt (by omega)]
  · rw [show (i + k) % X.length = i + k - X.length by rw [Nat.mod_eq_sub_mod (by omega), Nat.mod_eq_of_lt (by omega)], List.getElem?_append_left (by omega), List.getElem?_drop, show X.length - k + (i + k - X.length) = i by omega]
/-- A row that is laid place by place is the rolled one. -/
theorem rolled (X C : List Int) (k : Nat) (hk : k < X.length) (hl : C.length = X.length) (h : ∀ s, s < X.length → C.getD ((s + k) % X.length) 0 = X.getD s 0) : C = rr X k := by
  apply List.ext_getElem?
  intro q
  by_cases hq : q < X.length
  · have hs : (q + (X.length - k)) % X.length < X.length := Nat.mod_lt _ (by omega)
    have e : ((q + (X.length - k)) % X.length + k) % X.length = q := by
      rw [Nat.mod_add_mod, show q + (X.length - k) + k = q + X.length by omega, Nat.add_mod_right, Nat.mod_eq_of_lt hq]
    have h1 := h _ hs
    have h2 := rr_at X k _ hk hs
    rw [e] at h1 h2
    rw [← h2] at h1
    rw [List.getD_eq_getElem?_getD, List.getD_eq_getElem?_getD, List.getElem?_eq_getElem (by omega), List.getElem?_eq_getElem (by rw [rr_len]; omega)] at h1
    rw [List.getElem?_eq_getElem (by omega), List.getElem?_eq_getElem (by rw [rr_len]; omega)]
    simpa using h1
  · rw [List.getElem?_eq_none (by omega), List.getElem?_eq_none (by rw [rr_len]; omega)]
theorem place_nat (t n : Nat) (j : Int) (hn : 0 < n) : (((t : Int) + j).tmod n + n).tmod n = (((t + (j % n).toNat) % n : Nat) : Int) := by
  rw [tm _ _ (by omega)]
  have h0 := Int.emod_nonneg j (b := n) (by omega)
  rw [Int.natCast_emod, Int.natCast_add, Int.toNat_of_nonneg h0, Int.add_emod_emod]
set_option maxRecDepth 100000 in
set_option maxHeartbeats 4000000 in
theorem rroll_calls (va : Value) (X : List Int) (j : Int) (hn1 : 1 ≤ X.length) (hn2 : X.length ≤ 48) (hj1 : -32768 ≤ j) (hj2 : j ≤ 32768) (w : World) (hi : IsInts .i64 w va X) :
    Calls Try.prog 31 #[va, .int .i64 j] w fun e w' => ∃ p c, e = .returned (.slice p X.length c) ∧ IsInts .i64 w' (.slice p X.length c) (rr X (j % X.length).toNat) ∧ Kp [] w w' := by
  obtain ⟨i0, hi0, hz0, hz1, hz2⟩ := info_parts infoIntS
  obtain ⟨p, c, rfl⟩ := islc hi
  have HI := Lib.hid hi
  obtain ⟨n, hn⟩ : ∃ n, X.length = n := ⟨_, rfl⟩
  have HN := Lib.hid hn
  rw [hn] at hn1 hn2 HI ⊢
  have hk0 : Hid ((j % n).toNat < n) := by
    have a := Int.emod_nonneg j (b := n) (by omega)
    have b := Int.emod_lt_of_pos j (b := n) (by omega)
    show _ < _; omega
  obtain ⟨k, hk⟩ : ∃ k, (j % n).toNat = k := ⟨_, rfl⟩
  rw [hk] at hk0 ⊢
  have HK := Lib.hid hk
  clear hi hn hk
  go_enter Try.func31, Try.ntmps31
  go_wp2_with (at_make; refine wpList_make_full _ rfl _ _ 22 rfl w.heap.size 3 i0 (.int .i64 0) 1 Try.underlying22 hi0 hz0 hz1 .i64 .i64 _ _ n rfl rfl ?b0 ?b1 ?b2 ?b3 ?b4 ?hK)
  case b0 => omega
  case b1 => omega
  case b2 => rw [hz2]; omega
  case b3 => unfold maxLen; omega
  case b4 => exact Nat.le_refl _
  case hK =>
  intro w1 hown hgr
  rw [madeInts] at hown
  have hk1 : Kp [] w w1 := Kp.grown (Kp.refl _ _) hgr (fun k hk => nomatch hk)
  have hBs : w.heap.size < w1.heap.size := (hown.lt w.heap.size rfl).2
  have HOW := Lib.hid hown
  obtain ⟨B, hB⟩ : ∃ B, B = w.heap.size := ⟨_, rfl⟩
  have HB : Hid (B = w.heap.size) := hB
  rw [← hB] at HOW hBs ⊢
  clear hown hgr hB
  go_wp2_with fail
  go_loopw [7] (fun i wr => ∃ (t : Nat) (C : List Int), t ≤ n ∧ i = .int .i64 t ∧ C.length = n ∧ wr.ownsRow B 3 1 (.slice (some ⟨B, 0, none⟩) n n) n (C.map (Value.int .i64)) ∧ Kp [] w wr ∧ B < wr.heap.size ∧ Hid (∀ s, s < t → C.getD ((s + k) % n) 0 = X.getD s 0)) (fun i _ => n - (intOf i).toNat)
  case atStart => exact ⟨0, List.replicate n 0, by omega, rfl, by simp, HOW.out, hk1, hBs, fun s hs => by omega⟩
  case round =>
    obtain ⟨t, C, ht, rfl, hC, hown, hkr, hbr, hP⟩ := hrel
    have HCL := Lib.hid hC
    have HOC := Lib.hid hown
    have HKR := Lib.hid hkr
    have HBR := Lib.hid hbr
    clear hC hk1 hBs
    by_cases hlt : t < n
    · obtain ⟨g, off, rfl, hcell, hca⟩ := (HI.out.kp hkr (by simp)).at HN.out t hlt
      obtain ⟨P, hPd⟩ : ∃ P, (t + k) % n = P := ⟨_, rfl⟩
      have hPn : P < n := by rw [← hPd]; exact Nat.mod_lt _ (by omega)
      have hpl : (((t : Int) + j).tmod n + n).tmod n = (P : Int) := by rw [← hPd, ← HK.out]; exact place_nat t n j (by omega)
      have hb1 := Int.lt_tmod_of_pos ((t : Int) + j) (b := (n : Int)) (by omega)
      have hb2 := Int.tmod_lt_of_pos ((t : Int) + j) (b := (n : Int)) (by omega)
      have hPI : (P : Int) < n := by omega
      have hP0 : (0 : Int) ≤ P := by omega
      have hnz : ¬ ((n : Int) = 0) := by omega
      have hnzN : ¬ (n = 0) := by omega
      have hnew : Hid (∀ s, s < t + 1 → (C.set P (X.getD t 0)).getD ((s + k) % n) 0 = X.getD s 0) := fun s hs => by
        have hnpos : 0 < n := by omega
        rw [List.getD_eq_getElem?_getD]
        by_cases e : s = t
        · subst e; rw [hPd, List.getElem?_set_self (by rw [HCL.out]; exact hPn)]; rfl
        · have hne : P ≠ (s + k) % n := fun e2 => by
            rw [← hPd] at e2
            have hk00 := hk0.out
            have h1 : s < n := by omega
            have h2 : ∀ y, y < n → (y + k) % n = if y + k < n then y + k else y + k - n := fun y hy => by
              split
              · exact Nat.mod_eq_of_lt (by omega)
              · rw [Nat.mod_eq_sub_mod (by omega), Nat.mod_eq_of_lt (by omega)]
            rw [h2 t hlt, h2 s h1] at e2
            split at e2 <;> split at e2 <;> omega
          rw [List.getElem?_set_ne hne, ← List.getD_eq_getElem?_getD]
          exact hP.out s (by omega)
      have hlen : Hid ((C.set P (X.getD t 0)).length = n) := by show _ = _; rw [List.length_set]; exact HCL.out
      have e1 : Hid (IntKind.i64.wrap ((t : Int) + j) = (t : Int) + j) := wI _ (by omega) (by omega)
      have e2 : Hid (IntKind.i64.wrap (((t : Int) + j).tmod n + n) = ((t : Int) + j).tmod n + n) := wI _ (by omega) (by omega)
      have e3 : Hid (IntKind.i64.wrap ((t : Int) + 1) = (t : Int) + 1) := wI _ (by omega) (by omega)
      generalize hx : X.getD t 0 = x at *
      clear hx hown hb1 hb2 hPd
      have qq := KW.cell hcell
      have e1 := e1.out
      have e2 := e2.out
      have e3 := e3.out
      go_wp2_with fail
      refine wp_region_kqt 15 (by kernel_rfl) (by kernel_rfl) ?_
      simp only [List.take_succ_cons, List.take_zero, List.drop_succ_cons, List.drop_zero]
      repeat (go_big_quiet_step (fail))
      refine wpQuiet_nil ?_
      intro w2 hw'
      obtain ⟨⟨_, hkw2⟩, rfl⟩ := hw'
      try dsimp only
      clear qq
      have hown2 := hkw2.row HOC.out (fun s hs => nomatch hs)
      have hold := hown2.cells (g := B) rfl P (.int .i64 (C.getD P 0)) (map_getDs (by rw [HCL.out]; exact hPn))
      rw [add_lit, Nat.zero_add] at hold
      have hfz := hown2.frozenAt P
      have hst := (hown2.stored P (.int .i64 x))
      have hown1 := hst.1
      rw [← List.map_set] at hown1
      have HO1 := Lib.hid hown1
      have HK3 : Hid (Kp [] w (w2.setCell ⟨B, P, none⟩ (.int .i64 x))) := (HKR.out.trans hkw2).setCell (.inr (by have := HB.out; simp; omega)) _
      have HB3 : Hid (B < (w2.setCell ⟨B, P, none⟩ (.int .i64 x)).heap.size) := by have := hkw2.size; have := HBR.out; show _ < _; simp [World.setCell]; omega
      generalize C.getD P 0 = y at *
      clear hst hown1 hown2
      go_wp2_with fail
      go_roundw
      case rel => first | exact ⟨t + 1, _, by omega, by go_num, hlen.out, HO1.out, HK3.out, HB3.out, hnew⟩ | ((repeat apply Exists.intro); exact ⟨⟨t + 1, _, by omega, by go_num, hlen.out, HO1.out, HK3.out, HB3.out, hnew⟩, rfl⟩)
      case measure => simp [intOf]; omega
    · obtain rfl : t = n := by omega
      have HF : Hid (IsInts .i64 wr (.slice (some ⟨B, 0, none⟩) t t) (rr X k)) := by
        have e : C = rr X k := rolled X C k (by rw [HN.out]; exact hk0.out) (by rw [HN.out]; exact HCL.out) (fun s hs => by rw [HN.out]; exact hP.out s (by rw [HN.out] at hs; exact hs))
        have := IsInts.owned hown
        rw [e] at this; exact this
      clear hown hlt
      go_wp2_with fail
      go_ret
      exact ⟨_, _, rfl, HF.out, hkr⟩
end Go.Proofs.Ytlnmpffpieofeaa

/- simple: the law SimpleCuts. -/
import Derived.Test.YtodjohoonbkklaaSiX
import Derived.Deep.DeepCutAuto
namespace Go.Proofs.Ytodjohoonbkklaa
open Go.RowKit
set_option linter.unusedVariables false
set_option linter.unusedSimpArgs false
theorem IsInts.take8 {w : World} {g off c : Nat} {ys : List Int} {n : Nat} (h : IsInts .u8 w (.slice (some ⟨g, off, none⟩) ys.length c) ys) (hn : n ≤ ys.length) (h0 : 0 < n) : IsInts .u8 w (.slice (some ⟨g, off, none⟩) n c) (ys.take n) := by
  rcases h with ⟨⟨ad, e⟩, rfl⟩ | ⟨g', off', c', e, h1, h2, h3⟩
  · simp at hn; omega
  · simp only [Value.slice.injEq, Option.some.injEq, Addr.mk.injEq] at e
    obtain ⟨⟨rfl, rfl, _⟩, _, rfl⟩ := e
    have hl : (ys.take n).length = n := by rw [List.length_take]; omega
    refine .inr ⟨g, off, c, by rw [hl], by omega, h2, fun i hi => ?_⟩
    rw [hl] at hi
    rw [h3 i (by omega), List.getD_eq_getElem?_getD, List.getD_eq_getElem?_getD, List.getElem?_take_of_lt hi]
set_option maxRecDepth 100000 in
set_option maxHeartbeats 4000000 in
theorem law_SimpleCuts (v : Value) (o : List (List Pn)) (n : Int) (w : World) (hv : IsOut w v o) (hbo : ∀ j, j < o.length → (o.getD j []).length ≤ 1125899906842624) (hn : (Lit.int .i64 n).wf = true) :
    Calls Try.prog 14 #[v, .int .i64 n] w fun e w' => e = .returned (.bool true) ∧ Kp [] w w' := by
  obtain ⟨pa, ca, rfl⟩ := hv.form
  have HL := Lib.hid (large11_calls _ o w hv hbo)
  have HZ := Lib.hid hv
  clear hv
  cases hlo : largeB o with
  | true =>
    rw [hlo] at HL
    generalize o.length = N at *
    go_enter Try.func14, Try.ntmps14
    go_wp2_with fail
    refine HL.out.mono ?_; rintro e w1 ⟨rfl, rfl⟩
    go_wp2_with fail
    refine (lives11_calls _).mono ?_; rintro e w1 ⟨rfl, hk⟩
    go_wp2_with fail
    go_ret
    exact ⟨rfl, hk⟩
  | false =>
    rw [hlo] at HL
    obtain ⟨hs1, hs2⟩ := not_large hlo
    have HEN := Lib.hid (sencode_calls _ o w HZ.out (fun j hj => by have := len_le_cnt o hj; omega) (by omega))
    have key : ∀ (R : List Int) (E : Int), encM o = (R, E) → R.length ≤ 65536 → (∀ c ∈ R, 0 ≤ c ∧ c ≤ 255) → (E = 0 → ∀ m : Nat, 1 ≤ m → m < R.length → decS (R.take m) = ([], 110)) → Calls Try.prog 14 #[.slice pa o.length ca, .int .i64 n] w fun e w' => e = .returned (.bool true) ∧ Kp [] w w' := by
      intro R E hE hRl hRB hcut
      rw [hE] at HEN
      have HRB := Lib.hid hRB
      have HCU := Lib.hid hcut
      clear hE hlo hRB hcut
      generalize o.length = N at *
      by_cases hgo : E = 0 ∧ 1 ≤ n ∧ n < R.length
      · obtain ⟨rfl, hn1, hn2⟩ := hgo
        obtain ⟨m, rfl⟩ : ∃ m : Nat, n = m := ⟨n.toNat, by omega⟩
        have HD := Lib.hid (HCU.out rfl m (by omega) (by omega))
        have hm1 : 1 ≤ m := by omega
        have hm2 : m < R.length := by omega
        clear hn1 hn2 hn HCU
        go_enter Try.func14, Try.ntmps14
        go_wp2_with fail
        refine HL.out.mono ?_; rintro e w1 ⟨rfl, rfl⟩
        go_wp2_with fail
        refine HEN.out.mono ?_; rintro e w2 ⟨v2, rfl, hi2, hk2, hb2⟩
        dsimp only at hi2 ⊢
        obtain ⟨g2, o2, c2, hv2, hRc⟩ : ∃ g o c, v2 = .slice (some ⟨g, o, none⟩) R.length c ∧ R.length ≤ c := by
          rcases hi2 with ⟨⟨ad, rfl⟩, e⟩ | ⟨g, off, c, rfl, h, _⟩
          · rw [e] at hm2; simp at hm2
          · exact ⟨_, _, c, rfl, h⟩
        subst hv2
        have HK2 := Lib.hid hk2
        have HI2 := Lib.hid (hi2.take8 (n := m) (by omega) (by omega))
        have hml : (R.take m).length = m := by rw [List.length_take]; omega
        have HMB : Hid (∀ c ∈ R.take m, 0 ≤ c ∧ c ≤ 255) := fun c hc => HRB.out c (List.mem_of_mem_take hc)
        generalize R.take m = T at *
        have HT := Lib.hid hml
        generalize R.length = RL at *
        clear hi2 hk2 hb2 HL HEN hml HRB
        go_wp2_with fail
        refine (lives11_calls _).mono ?_; rintro e w3 ⟨rfl, hk3⟩
        have HK3 : Hid (Kp [] w w3) := HK2.out.trans hk3
        have HI3 : Hid (IsInts .u8 w3 (.slice (some ⟨g2, o2, none⟩) m c2) T) := HI2.out.kp hk3 (by simp)
        clear hk3 HK2 HI2
        go_wp2_with (at_builtin; refine wpList_app rfl _ _ 22 rfl w3.heap.size 5 (.int .u8 0) 1 1 Try.underlying22 infoByte rfl (by decide) (by decide) (.slice (some ⟨w3.heap.size, 0, none⟩) 0 0) 0 [] rfl ?hown (.slice (some ⟨g2, o2, none⟩) m c2) m (T.map (Value.int .u8)) rfl ?hsrc (oneCell_ints _ _) ?hb1 ?hb2 ?hk)
        case hown => exact own_empty _ _ _ _ _ rfl (by omega)
        case hsrc =>
          have h := (HI3.out.kp (S := []) (w' := w3.alloc (.cells #[] 5)) ((Kp.refl _ _).alloc _) (by simp)).reads
          rw [HT.out] at h; exact h
        case hb1 => omega
        case hb2 => simp
        case hk =>
        intro v4 w4 hown hgr
        try simp only [Nat.zero_add, List.nil_append] at hown
        have HK4 : Hid (Kp [] w w4) := Kp.grown (HK3.out.alloc _) hgr (by intro k hk; right; simp [Value.ownBlock] at hk; have := HK3.out.size; omega)
        have HI4 : Hid (IsInts .u8 w4 v4 T) := IsInts.owned (n := T.length) (by rw [HT.out]; exact hown)
        have HL4 := Lib.hid (fun b (hb : blockOf v4 = some b) => (hown.lt b (blockOf_own hb)).2)
        clear hown hgr
        go_wp2_with fail
        refine (decode_calls HI4.out HMB.out HL4.out).mono ?_; rintro e w6 ⟨v6, rfl, hi6, hk6⟩
        rw [HD.out] at hi6 ⊢
        dsimp only at hi6 ⊢
        have HK6 : Hid (Kp [] w w6) := HK4.out.trans hk6
        obtain ⟨p6, c6, hv6⟩ := hi6.form
        simp only [List.length_nil] at hv6
        subst hv6
        clear hi6 hk6 HK4 HI4 HL4
        go_wp2_with fail
        go_ret
        exact ⟨by simp, HK6.out⟩
      · have hsp : (E != 0) = true ∨ (E = 0 ∧ n < 1) ∨ (E = 0 ∧ 1 ≤ n ∧ (R.length : Int) ≤ n) := by
          by_cases h1 : E = 0
          · by_cases h2 : n < 1
            · exact .inr (.inl ⟨h1, h2⟩)
            · exact .inr (.inr ⟨h1, by omega, by omega⟩)
          · exact .inl (by simpa using h1)
        clear hgo HCU
        rcases hsp with h | ⟨rfl, h⟩ | ⟨rfl, h1, h⟩
        all_goals
          go_enter Try.func14, Try.ntmps14
          go_wp2_with fail
          refine HL.out.mono ?_; rintro e w1 ⟨rfl, rfl⟩
          go_wp2_with fail
          refine HEN.out.mono ?_; rintro e w2 ⟨v2, rfl, hi2, hk2, hb2⟩
          obtain ⟨p2, c2, hv2⟩ : ∃ p c, v2 = .slice p R.length c := by
            rcases hi2 with ⟨⟨ad, rfl⟩, e⟩ | ⟨g, off, c, rfl, _⟩
            · exact ⟨_, 0, by rw [show R = [] from e]; rfl⟩
            · exact ⟨_, c, rfl⟩
          subst hv2
          have HK2 := Lib.hid hk2
          generalize R.length = RL at *
          clear hi2 hk2 hb2 HL HEN
          dsimp only
          go_wp2_with fail
          refine (lives11_calls _).mono ?_; rintro e w3 ⟨rfl, hk3⟩
          have HK3 : Hid (Kp [] w w3) := HK2.out.trans hk3
          clear hk3 HK2
          go_wp2_with fail
          refine (lives11_calls _).mono ?_; rintro e w4 ⟨rfl, hk4⟩
          have HK4 : Hid (Kp [] w w4) := HK3.out.trans hk4
          clear hk4 HK3
          go_wp2_with fail
          go_ret
          exact ⟨by simp, HK4.out⟩
    rcases sencM_cases o with ⟨ee, hee, hE⟩ | ⟨ho, hE⟩ | ⟨t, hE, hck, hne, hen⟩
    · exact key [] ee hE (by simp) (fun c hc => by cases hc) (fun h => absurd h hee)
    · exact key [] 0 hE (by simp) (fun c hc => by cases hc) (fun _ m h1 h2 => by simp at h2)
    · obtain ⟨hR0, hRl, hRB⟩ := encB_facts o (hullO o) t hck hen
      exact key _ 0 hE hRl hRB (fun _ m h1 h2 => enc_cut o (hullO o) t hck hne hen m h1 h2)
end Go.Proofs.Ytodjohoonbkklaa

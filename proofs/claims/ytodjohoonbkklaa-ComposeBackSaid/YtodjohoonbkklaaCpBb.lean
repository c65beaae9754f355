/- The walk of the statement ComposeBack. -/
import Derived.Test.YtodjohoonbkklaaCpW
import Derived.Test.YtodjohoonbkklaaCpBa
namespace Go.Proofs.Ytodjohoonbkklaa
open Go.RowKit
set_option linter.unusedVariables false
set_option linter.unusedSimpArgs false
theorem encM_cases (l : List Pt) : (∃ e : Int, (e = 1 ∨ e = 120) ∧ encM l = ([], e)) ∨ (encM l = (encH ++ encPre l l.length, 0) ∧ 0 < l.length ∧ l.length ≤ 64 ∧ ∀ p ∈ l, mayPt p = true) := by
  unfold encM
  by_cases h1 : l.length = 0 ∨ l.all mayPt = false
  · rw [if_pos h1]; exact .inl ⟨1, .inl rfl, rfl⟩
  · rw [if_neg h1]
    by_cases h2 : 64 < l.length
    · rw [if_pos h2]; exact .inl ⟨120, .inr rfl, rfl⟩
    · rw [if_neg h2]
      refine .inr ⟨rfl, by omega, by omega, ?_⟩
      have : l.all mayPt = true := by
        cases h : l.all mayPt
        · exact absurd (.inr h) h1
        · rfl
      exact List.all_eq_true.1 this
set_option maxRecDepth 100000 in
set_option maxHeartbeats 4000000 in
theorem law_ComposeBack (v vb : Value) (l : List Pt) (zs : List Int) (w : World) (hz : IsPts w v l) (hi : IsInts .u8 w vb zs) (hb : ∀ c ∈ zs, 0 ≤ c ∧ c ≤ 255) (hvb : ∀ b, blockOf vb = some b → b < w.heap.size) (hzl : zs.length ≤ 140737488351232) :
    Calls Try.prog 5 #[v, vb] w fun e w' => e = .returned (.bool true) ∧ Kp [] w w' := by
  have hle := hz.le
  unfold maxLen at hle
  obtain ⟨pa, ca, rfl⟩ := hz.form
  obtain ⟨pz, cz, hvz⟩ : ∃ p c, vb = .slice p zs.length c := by
    rcases hi with ⟨⟨ad, rfl⟩, rfl⟩ | ⟨g, off, c, rfl, _⟩
    · exact ⟨_, 0, rfl⟩
    · exact ⟨_, c, rfl⟩
  subst hvz
  have HZ := Lib.hid hz
  have HB := Lib.hid hb
  have HY := Lib.hid hi
  clear hz hb hi hvb
  obtain ⟨N, hN⟩ : ∃ N, l.length = N := ⟨_, rfl⟩
  have HN := Lib.hid hN
  rw [hN] at HZ hle ⊢
  clear hN
  by_cases h3 : 300 < N
  · go_enter Try.func5, Try.ntmps5
    go_wp2_with fail
    refine (lives12_calls _).mono ?_; rintro e w1 ⟨rfl, hk⟩
    go_wp2_with fail
    go_ret
    exact ⟨rfl, hk⟩
  go_enter Try.func5, Try.ntmps5
  go_wp2_with (at_builtin; refine wpList_app rfl _ _ 23 rfl w.heap.size 36 (.agg #[.int .i64 0, .int .i64 0, .int .i64 0, .int .i64 0, .int .i64 0, .bool false, .int .i64 0, .int .i64 0, .bool false, .int .i64 0, .int .i64 0]) 11 88 Try.underlying23 infoPt rfl (by decide) (by decide) (.slice (some ⟨w.heap.size, 0, none⟩) 0 0) 0 [] rfl ?hown (.slice pa N ca) N (ptsCells l) rfl ?hsrc (oneCell_pts _) ?hb1 ?hb2 ?hk)
  case hown => exact own_empty _ _ _ _ _ rfl (by omega)
  case hsrc => have h := HZ.out.kp (S := []) ((Kp.refl _ _).alloc (.cells #[] 36)) (by simp); unfold IsPts at h; rw [HN.out] at h; exact h
  case hb1 => omega
  case hb2 => simp
  case hk =>
  intro v1 w1 hown hgr
  try simp only [Nat.zero_add, List.nil_append] at hown
  have HK1 : Hid (Kp [] w w1) := Kp.grown ((Kp.refl _ _).alloc _) hgr (by intro k hk; right; simp [Value.ownBlock] at hk; omega)
  have HI1 : Hid (IsPts w1 v1 l) := IsPts.owned HN.out.symm hown
  obtain ⟨p1, c1, hv1⟩ := slice_own hown
  subst hv1
  clear hown hgr
  go_wp2_with fail
  refine (encode_calls _ l _ HI1.out).mono ?_; rintro e w2 ⟨v2, rfl, hi2, hk2, hb2⟩
  have HK2 : Hid (Kp [] w w2) := HK1.out.trans hk2
  rcases encM_cases l with ⟨ee, hee, hE⟩ | ⟨hE, h0, h64, hmay⟩
  · rw [hE] at hi2 ⊢
    dsimp only at hi2 ⊢
    obtain ⟨p2, c2, hv2⟩ : ∃ p c, v2 = .slice p 0 c := by
      rcases hi2 with ⟨⟨ad, rfl⟩, e⟩ | ⟨g, off, c, rfl, _⟩
      · exact ⟨_, 0, rfl⟩
      · exact ⟨_, c, rfl⟩
    subst hv2
    clear hi2 hk2 hb2 HK1 HI1 hE
    have he0 : (ee != 0) = true := by rcases hee with rfl | rfl <;> rfl
    clear hee
    go_wp2_with fail
    refine (lives12_calls _).mono ?_; rintro e w3 ⟨rfl, hk3⟩
    have HK3 : Hid (Kp [] w w3) := HK2.out.trans hk3
    clear hk3 HK2
    go_wp2_with fail
    refine (lives12_calls _).mono ?_; rintro e w4 ⟨rfl, hk4⟩
    have HK4 : Hid (Kp [] w w4) := HK3.out.trans hk4
    clear hk4 HK3
    go_wp2_with fail
    go_ret
    exact ⟨by simp, HK4.out⟩
  · have HD := Lib.hid (dec_back l zs hmay h0 h64)
    have HRB := Lib.hid (enc_bytes l l.length)
    have hRl : (encH ++ encPre l l.length).length ≤ 1034 := by
      have := encPre_len l l.length; rw [List.length_append]; simp only [encH, List.length_cons, List.length_nil]; omega
    rw [hE] at hi2 ⊢
    dsimp only at hi2 ⊢
    generalize encH ++ encPre l l.length = R at *
    obtain ⟨p2, c2, hv2⟩ : ∃ p c, v2 = .slice p R.length c := by
      rcases hi2 with ⟨⟨ad, rfl⟩, e⟩ | ⟨g, off, c, rfl, _⟩
      · exact ⟨_, 0, by rw [e]; rfl⟩
      · exact ⟨_, c, rfl⟩
    subst hv2
    have HI2 := Lib.hid hi2
    clear hi2 hk2 hb2 HK1 HI1 hE h0 h64 hmay
    go_wp2_with fail
    refine (lives12_calls _).mono ?_; rintro e w3 ⟨rfl, hk3⟩
    have HK3 : Hid (Kp [] w w3) := HK2.out.trans hk3
    have HI3 : Hid (IsInts .u8 w3 (.slice p2 R.length c2) R) := HI2.out.kp hk3 (by simp)
    clear hk3 HK2 HI2
    go_wp2_with (at_builtin; refine wpList_app rfl _ _ 22 rfl w3.heap.size 5 (.int .u8 0) 1 1 Try.underlying22 infoByte rfl (by decide) (by decide) (.slice (some ⟨w3.heap.size, 0, none⟩) 0 0) 0 [] rfl ?hown (.slice p2 R.length c2) R.length (R.map (Value.int .u8)) rfl ?hsrc (oneCell_ints _ _) ?hb1 ?hb2 ?hk)
    case hown => exact own_empty _ _ _ _ _ rfl (by omega)
    case hsrc => exact (HI3.out.kp (S := []) ((Kp.refl _ _).alloc _) (by simp)).reads
    case hb1 => omega
    case hb2 => simp
    case hk =>
    intro v4 w4 hown hgr
    try simp only [Nat.zero_add, List.nil_append] at hown
    have HK4 : Hid (Kp [] w3 w4) := Kp.grown ((Kp.refl _ _).alloc _) hgr (by intro k hk; right; simp [Value.ownBlock] at hk; omega)
    have HO4 := Lib.hid hown
    obtain ⟨p4, c4, rfl⟩ := slice_own hown
    have hs4 : w3.heap.size ≤ w4.heap.size := HK4.out.size
    clear hown hgr
    go_wp2_with (at_builtin; refine wpList_app rfl _ _ 22 rfl w3.heap.size 5 (.int .u8 0) 1 1 Try.underlying22 infoByte rfl (by decide) (by decide) (.slice p4 R.length c4) R.length (R.map (Value.int .u8)) rfl ?hown (.slice pz zs.length cz) zs.length (zs.map (Value.int .u8)) rfl ?hsrc (oneCell_ints _ _) ?hb1 ?hb2 ?hk)
    case hown => exact HO4.out
    case hsrc => exact (HY.out.kp (HK3.out.trans HK4.out) (by simp)).reads
    case hb1 => omega
    case hb2 => omega
    case hk =>
    intro v5 w5 hown hgr
    rw [← List.map_append, ← List.length_append] at hown
    have HK5 : Hid (Kp [] w w5) := Kp.grown (HK3.out.trans HK4.out) hgr (by intro k hk; right; have := own_ge HO4.out k hk; have := HK3.out.size; omega)
    have HI5 : Hid (IsInts .u8 w5 v5 (R ++ zs)) := IsInts.owned hown
    have HL5 := Lib.hid (fun b (hb : blockOf v5 = some b) => (hown.lt b (blockOf_own hb)).2)
    clear hown hgr HO4 HK4 hs4
    go_wp2_with fail
    refine (decode_calls HI5.out (fun c hc => by rcases List.mem_append.1 hc with h | h; exact HRB.out c h; exact HB.out c h) HL5.out).mono ?_; rintro e w6 ⟨v6, rfl, hi6, hk6⟩
    rw [HD.out] at hi6 ⊢
    dsimp only at hi6 ⊢
    have HK6 : Hid (Kp [] w w6) := HK5.out.trans hk6
    obtain ⟨p6, c6, hv6⟩ := hi6.form
    rw [HN.out] at hv6
    subst hv6
    have HS6 := Lib.hid (same_calls _ _ l w6 hi6 (HZ.out.kp HK6.out (by simp)))
    clear hi6 hk6 HK5 HI5 HL5
    go_wp2_with fail
    refine HS6.out.mono ?_; rintro e w7 ⟨rfl, hk7⟩
    have HK7 : Hid (Kp [] w w7) := HK6.out.trans hk7
    clear hk7 HK6 HS6
    go_wp2_with fail
    go_ret
    exact ⟨by simp, HK7.out⟩
end Go.Proofs.Ytodjohoonbkklaa

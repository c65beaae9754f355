/- outline: the law OutlineJoins. (Written by wip/outline/genovj.py.) -/
import Derived.Test.YtodjohoonbkklaaOvI
import Derived.Test.YtodjohoonbkklaaOvG
namespace Go.Proofs.Ytodjohoonbkklaa
open Go.RowKit
set_option linter.unusedVariables false
set_option linter.unusedSimpArgs false
section
variable {P : Program} {w : World} {ops : Array Oper} {rest : List Oper} {o : Oper} {a : Act} {Q : Exit → Act → World → Prop}
/-- An append behind a guard that is met. -/
theorem wpList_appG (hw : Region.wanted o (yielded ops a.tmps) = true) (s x : Operand) (t : TypeId)
    (ho : o.op = .call { callee := .builtin .append, args := #[s, x], argTypes := #[t, t] })
    (base : Nat) (e : TypeId) (z : Value) (size bytes : Nat) (ht : P.underlying t = some (.slice e)) (hinfo : (P.info? e).map (fun i => (i.zero, i.size, i.bytes)) = some (some z, size, bytes))
    (hzs : z.cells.size = size) (hsz : 0 < size) (hb1 : 1 ≤ bytes)
    (v : Value) (n : Nat) (xs : List Value) (hs : a.eval s = v) (hown : w.ownsRow base e size v n xs)
    (xv : Value) (m : Nat) (news : List Value) (hx : a.eval x = xv) (hsrc : Reads size w xv m news) (h1 : ∀ u ∈ news, u.oneCell' = true)
    (hbytes : (n + m) * bytes ≤ 140737488355328) (hbase : base ≤ w.heap.size)
    (h : ∀ v' w', w'.ownsRow base e size v' (n + m) (xs ++ news) → w.grownBy w' v.ownBlock → wpList P ops Q rest (a.put o.dst v') w') : wpList P ops Q (o :: rest) a w := by
  obtain ⟨i, hi, hz, hsize, hby⟩ := info_parts hinfo
  have h63 : n + m ≤ maxLen := by
    have := Nat.le_mul_of_pos_right (n + m) hb1
    simp only [maxLen]; omega
  refine wpList_step fun K hK => ?_
  rw [if_pos hw]
  rcases hsrc.2 with ⟨⟨ad, rfl⟩, rfl⟩ | ⟨g, off, cap, rfl, h2, h3, h4⟩
  · have hn : news = [] := List.eq_nil_of_length_eq_zero (by simpa using hsrc.1)
    subst hn
    rcases ad with _ | ad
    case some =>
      exact wp_append_own w s x t ho base e i z size bytes ht hi hz hsize hby hzs hsz v n xs hs hown ad 0 0 [] hx hsrc.1 (fun j u hu => by simp at hu) h1 h63 hbytes hbase
        (fun v' w' h5 h6 _ => hK _ _ (h v' w' h5 h6))
    have hrun := run_append_owned_none (P := P) (w := w) base t o.type e i size ht hi v n xs hown
    unfold Oper.wp
    simp [execOp, ho, resolve, invoke, builtin, hs, hx, hrun, Result.andThen]
    exact hK _ _ (h v w (by simpa using hown) ⟨rfl, rfl, rfl, Nat.le_refl _, fun _ _ _ => rfl⟩)
  · exact wp_append_own w s x t ho base e i z size bytes ht hi hz hsize hby hzs hsz v n xs hs hown ⟨g, off, none⟩ m cap news hx hsrc.1 (fun j u hu => by rw [add_lit]; exact h4 j u hu) h1 h63 hbytes hbase
      (fun v' w' h5 h6 _ => hK _ _ (h v' w' h5 h6))
end
theorem IsPs.far {w w' : World} {v : Value} {l : List Pn} (h : IsPs w v l) (hk : ∀ g off x, w.cell? ⟨g, off, none⟩ = some x → w'.cell? ⟨g, off, none⟩ = some x) : IsPs w' v l := by
  refine ⟨h.1, h.2.imp_right fun ⟨g, off, cap, a, b, c, d⟩ => ⟨g, off, cap, a, b, c, fun j u hu => hk _ _ _ (d j u hu)⟩⟩
theorem join_in {w0 w w4 : World} {base n : Nat} {va vb v : Value} {a b : List (List Pn)} {vsa vsb : List Value} (ha : WVs w base va vsa a) (hb : Reads 1 w0 vb b.length vsb) (hb2 : ∀ i, i < b.length → IsPs w0 (vsb.getD i (.slice none 0 0)) (b.getD i []))
    (hk : Kp [] w0 w) (hbase : w0.heap.size ≤ base) (hn : n = a.length + b.length) (hown : w4.ownsRow base 96 1 v n (vsa ++ vsb)) (hgr : w.grownBy w4 va.ownBlock) : IsOut w4 v (a ++ b) := by
  have hla : vsa.length = a.length := by have := ha.1.1; omega
  have hlb : vsb.length = b.length := by have := hb.1; omega
  have hk4 : Kp va.ownBlock.toList w w4 := Kp.grown (Kp.refl _ _) hgr (fun k hk => .inl (by rw [hk]; simp))
  subst hn
  refine ⟨vsa ++ vsb, by have := Reads.owned hown; rwa [← List.length_append] at this, fun i hi => ?_⟩
  rw [List.length_append] at hi
  by_cases e : i < a.length
  · rw [List.getD_eq_getElem?_getD, List.getElem?_append_left (by omega), ← List.getD_eq_getElem?_getD, List.getD_eq_getElem?_getD (l := a ++ b), List.getElem?_append_left e, ← List.getD_eq_getElem?_getD]
    exact (ha.2 i e).1.kp hk4 (fun s hs e2 => ((ha.2 i e).2 s e2).1 (by simpa using hs))
  · rw [List.getD_eq_getElem?_getD, List.getElem?_append_right (by omega), ← List.getD_eq_getElem?_getD, List.getD_eq_getElem?_getD (l := a ++ b), List.getElem?_append_right (by omega), ← List.getD_eq_getElem?_getD, hla]
    refine (hb2 (i - a.length) (by omega)).far fun g off x hx => ?_
    have hg : g < w0.heap.size := World.block_lt_of_cell? w0 _ hx
    exact hk4.cell (hk.cell hx (by simp)) (fun hs => by
      have := own_ge ha.1 g (by simpa using hs); omega)
theorem out_one {w : World} {vs : List Value} {b : List (List Pn)} (hl : vs.length = b.length) (h : ∀ i, i < b.length → IsPs w (vs.getD i (.slice none 0 0)) (b.getD i [])) : ∀ u ∈ vs, u.oneCell' = true := by
  intro u hu
  obtain ⟨i, hi, rfl⟩ := List.mem_iff_getElem.1 hu
  obtain ⟨p, c, e⟩ := (h i (by omega)).form
  rw [List.getD_eq_getElem?_getD, List.getElem?_eq_getElem hi] at e
  have e2 : vs[i] = .slice p (b.getD i []).length c := e
  rw [e2]; rfl
theorem rev_few {o : List (List Pn)} (h : fewO o) : fewO (o.map revP) := by
  refine ⟨by rw [List.length_map]; exact h.1, fun j hj => ?_⟩
  rw [List.length_map] at hj
  rw [List.getD_eq_getElem?_getD, List.getElem?_map, List.getElem?_eq_getElem hj]
  have := h.2 j hj
  rw [List.getD_eq_getElem?_getD, List.getElem?_eq_getElem hj] at this
  simpa [revP_len] using this
theorem rev_rev (o : List (List Pn)) : (o.map revP).map revP = o := by
  rw [List.map_map]; conv => rhs; rw [← List.map_id o]
  exact List.map_congr_left fun c _ => revP_revP c
set_option maxRecDepth 100000 in
set_option maxHeartbeats 8000000 in
theorem law_OutlineJoins (va : Value) (a : List (List Pn)) (vb : Value) (b : List (List Pn)) (w : World) (hva : IsOut w va a) (hba : boundO a) (hvb : IsOut w vb b) (hbb : boundO b) :
    Calls Try.prog 10 #[va, vb] w fun e w' => e = .returned (.bool true) ∧ Kp [] w w' := by
  have HLA := Lib.hid (large_calls va a w hva hba)
  have HLB := Lib.hid (large_calls vb b w hvb hbb)
  obtain ⟨pa, qa, rfl⟩ := hva.form
  obtain ⟨pb, qb, rfl⟩ := hvb.form
  have HA : Hid (∀ W, Kp [] w W → IsOut W (.slice pa a.length qa) a) := fun W hW => hva.kp0 hW
  have HB : Hid (∀ W, Kp [] w W → IsOut W (.slice pb b.length qb) b) := fun W hW => hvb.kp0 hW
  cases hlga : largeB a
  · cases hlgb : largeB b
    · obtain ⟨hfa, hsa, hta, hca⟩ := small_facts hlga
      obtain ⟨hfb, hsb, htb, hcb⟩ := small_facts hlgb
      rw [hlga] at HLA
      rw [hlgb] at HLB
      have HCA := Lib.hid (fun W hW => copied_calls _ a W (HA.out W hW) hfa)
      have HCB := Lib.hid (fun W hW => copied_calls _ b W (HB.out W hW) hfb)
      have HJN := Lib.hid (fun v1 v2 W (h1 : IsOut W v1 a) (h2 : IsOut W v2 b) => join_calls v1 v2 a b W h1 h2 hfa hfb (by omega) (by omega))
      have HRV := Lib.hid (fun v1 W (h1 : IsOut W v1 a) => oreverse_calls v1 a W h1 hfa)
      have HRR := Lib.hid (fun W hW => roreverse_calls _ a W (HA.out W hW) hfa)
      have HRO := Lib.hid (rev_rev a)
      have hfr := rev_few hfa
      obtain ⟨R, hR⟩ : ∃ R, a.map revP = R := ⟨_, rfl⟩
      rw [hR] at HRV HRR HRO hfr
      have HCR := Lib.hid (fun v1 W (h1 : IsOut W v1 R) => copied_calls v1 R W h1 hfr)
      have HR2 := Lib.hid (fun v1 W (h1 : IsOut W v1 R) => oreverse_calls v1 R W h1 hfr)
      rw [HRO.out] at HR2
      have HSR := Lib.hid (fun v1 v2 W (h1 : IsOut W v1 R) (h2 : IsOut W v2 R) => rsame_calls v1 v2 R R W h1 h2)
      rw [decide_eq_true (rfl : R = R)] at HSR
      have HSA := Lib.hid (fun v1 v2 W (h1 : IsOut W v1 a) (h2 : IsOut W v2 a) => rsame_calls v1 v2 a a W h1 h2)
      have HOA := Lib.hid (fun v1 v2 W (h1 : IsOut W v1 a) (h2 : IsOut W v2 a) => osame_calls v1 v2 a a W h1 h2)
      rw [decide_eq_true (rfl : a = a)] at HSA HOA
      have HSB := Lib.hid (fun v1 v2 W (h1 : IsOut W v1 a) (h2 : IsOut W v2 b) => rsame_calls v1 v2 a b W h1 h2)
      have HOB := Lib.hid (fun v1 v2 W (h1 : IsOut W v1 a) (h2 : IsOut W v2 b) => osame_calls v1 v2 a b W h1 h2)
      obtain ⟨D, hD⟩ : ∃ D, decide (a = b) = D := ⟨_, rfl⟩
      rw [hD] at HSB HOB
      have HKA := Lib.hid (fun W hW => rcheck_calls _ a W (HA.out W hW) hta (by omega))
      have HKB := Lib.hid (fun W hW => rcheck_calls _ b W (HB.out W hW) htb (by omega))
      have HNA := Lib.hid (fun W hW => rcount_calls _ a W (HA.out W hW) (by omega))
      have HNB := Lib.hid (fun W hW => rcount_calls _ b W (HB.out W hW) (by omega))
      have HJM : Hid (joinM a b = if checkO a ≠ 0 then ([], checkO a) else if checkO b ≠ 0 then ([], checkO b) else if 256 < a.length + b.length ∨ 4096 < cnt a + cnt b then ([], 100) else (a ++ b, 0)) := rfl
      have hla : a.length ≤ 300 := (not_large hlga).1
      have hlb : b.length ≤ 300 := (not_large hlgb).1
      clear hva hba hvb hbb hlga hlgb hfa hsa hta hfb hsb htb hR hD hfr
      by_cases hEA : checkO a = 0
      · rw [hEA] at HKA
        by_cases hEB : checkO b = 0
        · rw [hEB] at HKB
          by_cases hov : 256 < a.length + b.length ∨ 4096 < cnt a + cnt b
          · have HJ1 : joinM a b = ([], 100) := by rw [HJM.out, if_neg (by simp [hEA]), if_neg (by simp [hEB]), if_pos hov]
            rw [HJ1] at HJN
            dsimp only at HJN
            obtain ⟨NA, hNA⟩ : ∃ NA : Nat, a.length = NA := ⟨_, rfl⟩
            obtain ⟨NB, hNB⟩ : ∃ NB : Nat, b.length = NB := ⟨_, rfl⟩
            obtain ⟨CA, hCA⟩ : ∃ CA : Nat, cnt a = CA := ⟨_, rfl⟩
            obtain ⟨CB, hCB⟩ : ∃ CB : Nat, cnt b = CB := ⟨_, rfl⟩
            rw [hNA, hNB, hCA, hCB] at hov
            rw [hNA] at hla
            rw [hNB] at hlb
            rw [hCA] at hca
            rw [hCB] at hcb
            have hov2 : decide ((256 : Int) < (NA : Int) + (NB : Int)) = true ∨ (decide ((256 : Int) < (NA : Int) + (NB : Int)) = false ∧ decide ((4096 : Int) < ((CA : Nat) : Int) + ((CB : Nat) : Int)) = true) := by
              by_cases h : (256 : Int) < (NA : Int) + (NB : Int)
              · exact .inl (decide_eq_true h)
              · exact .inr ⟨decide_eq_false h, decide_eq_true (by omega)⟩
            rw [hNA] at HLA HA HCA HRR HKA HNA
            rw [hNB] at HLB HB HCB HKB HNB
            rw [hCA] at HNA
            rw [hCB] at HNB
            rw [hNA, hNB]
            clear hNA hNB hCA hCB HJM HJ1 hEA hEB hov
            rcases hov2 with hv1 | ⟨hv1, hv2⟩
            · go_enter Try.func10, Try.ntmps10
              go_wp2_with fail
              refine (HLA.out).mono ?_; rintro e w1 ⟨rfl, rfl⟩
              go_wp2_with fail
              refine (HLB.out).mono ?_; rintro e w2 ⟨rfl, rfl⟩
              go_wp2_with fail
              refine (HCA.out _ (Kp.refl _ _)).mono ?_; rintro e w3 ⟨v3, rfl, ho3, hk3⟩
              replace ho3 := ho3.out
              obtain ⟨pv3, cv3, rfl⟩ := ho3.form
              have HP1 : Hid (∀ W, Kp [] w3 W → IsOut W _ _) := fun W hW => ho3.kp0 hW
              clear ho3
              have HK3 := Lib.hid hk3
              have HS3 : Hid (Kp [] w w3) := hk3
              clear hk3
              go_wp2_with fail
              refine (HCB.out _ HK3.out).mono ?_; rintro e w4 ⟨v4, rfl, ho4, hk4⟩
              replace ho4 := ho4.out
              obtain ⟨pv4, cv4, rfl⟩ := ho4.form
              have HP2 : Hid (∀ W, Kp [] w4 W → IsOut W _ _) := fun W hW => ho4.kp0 hW
              clear ho4
              have HK4 : Hid (Kp [] w w4) := Kp.trans HK3.out hk4
              have HS4 : Hid (Kp [] w3 w4) := hk4
              clear hk4
              go_wp2_with fail
              refine (HJN.out _ _ _ (HP1.out _ (HS4.out)) (HP2.out _ (Kp.refl _ _))).mono ?_; rintro e w5 ⟨v5, rfl, ho5, hk5⟩
              obtain ⟨pv5, cv5, rfl⟩ := ho5.form
              have HJX : Hid (∀ W, Kp [] w5 W → IsOut W _ _) := fun W hW => ho5.kp0 hW
              clear ho5
              have HK5 : Hid (Kp [] w w5) := Kp.trans HK4.out hk5
              have HS5 : Hid (Kp [] w4 w5) := hk5
              clear hk5
              go_wp2_with fail
              refine (HCA.out _ HK5.out).mono ?_; rintro e w6 ⟨v6, rfl, ho6, hk6⟩
              replace ho6 := ho6.out
              obtain ⟨pv6, cv6, rfl⟩ := ho6.form
              have HP3 : Hid (∀ W, Kp [] w6 W → IsOut W _ _) := fun W hW => ho6.kp0 hW
              clear ho6
              have HK6 : Hid (Kp [] w w6) := Kp.trans HK5.out hk6
              have HS6 : Hid (Kp [] w5 w6) := hk6
              clear hk6
              go_wp2_with fail
              refine (HRV.out _ _ (HP3.out _ (Kp.refl _ _))).mono ?_; rintro e w7 ⟨v7, rfl, ho7, hk7⟩
              obtain ⟨pv7, cv7, rfl⟩ := ho7.form
              have HRX : Hid (∀ W, Kp [] w7 W → IsOut W _ _) := fun W hW => ho7.kp0 hW
              clear ho7
              have HK7 : Hid (Kp [] w w7) := Kp.trans HK6.out hk7
              have HS7 : Hid (Kp [] w6 w7) := hk7
              clear hk7
              go_wp2_with fail
              refine (lives10_calls _).mono ?_; rintro e w8 ⟨rfl, hk8⟩
              have HK8 : Hid (Kp [] w w8) := Kp.trans HK7.out hk8
              have HS8 : Hid (Kp [] w7 w8) := hk8
              clear hk8
              go_wp2_with fail
              refine (HRR.out _ HK8.out).mono ?_; rintro e w9 ⟨v9, rfl, ho9, hk9⟩
              obtain ⟨pv9, cv9, rfl⟩ := ho9.form
              have HRY : Hid (∀ W, Kp [] w9 W → IsOut W _ _) := fun W hW => ho9.kp0 hW
              clear ho9
              have HK9 : Hid (Kp [] w w9) := Kp.trans HK8.out hk9
              have HS9 : Hid (Kp [] w8 w9) := hk9
              clear hk9
              go_wp2_with fail
              refine (HSR.out _ _ _ (HRX.out _ (HS8.out.trans (HS9.out))) (HRY.out _ (Kp.refl _ _))).mono ?_; rintro e w10 ⟨rfl, hk10⟩
              have HK10 : Hid (Kp [] w w10) := Kp.trans HK9.out hk10
              have HS10 : Hid (Kp [] w9 w10) := hk10
              clear hk10
              go_wp2_with fail
              refine (HCR.out _ _ (HRX.out _ (HS8.out.trans (HS9.out.trans (HS10.out))))).mono ?_; rintro e w11 ⟨v11, rfl, ho11, hk11⟩
              replace ho11 := ho11.out
              obtain ⟨pv11, cv11, rfl⟩ := ho11.form
              have HP4 : Hid (∀ W, Kp [] w11 W → IsOut W _ _) := fun W hW => ho11.kp0 hW
              clear ho11
              have HK11 : Hid (Kp [] w w11) := Kp.trans HK10.out hk11
              have HS11 : Hid (Kp [] w10 w11) := hk11
              clear hk11
              go_wp2_with fail
              refine (HR2.out _ _ (HP4.out _ (Kp.refl _ _))).mono ?_; rintro e w12 ⟨v12, rfl, ho12, hk12⟩
              obtain ⟨pv12, cv12, rfl⟩ := ho12.form
              have HRZ : Hid (∀ W, Kp [] w12 W → IsOut W _ _) := fun W hW => ho12.kp0 hW
              clear ho12
              have HK12 : Hid (Kp [] w w12) := Kp.trans HK11.out hk12
              have HS12 : Hid (Kp [] w11 w12) := hk12
              clear hk12
              go_wp2_with fail
              refine (HSA.out _ _ _ (HRZ.out _ (Kp.refl _ _)) (HA.out _ HK12.out)).mono ?_; rintro e w13 ⟨rfl, hk13⟩
              have HK13 : Hid (Kp [] w w13) := Kp.trans HK12.out hk13
              have HS13 : Hid (Kp [] w12 w13) := hk13
              clear hk13
              go_wp2_with fail
              refine (HOB.out _ _ _ (HA.out _ HK13.out) (HB.out _ HK13.out)).mono ?_; rintro e w14 ⟨rfl, hk14⟩
              have HK14 : Hid (Kp [] w w14) := Kp.trans HK13.out hk14
              have HS14 : Hid (Kp [] w13 w14) := hk14
              clear hk14
              go_wp2_with fail
              refine (HSB.out _ _ _ (HA.out _ HK14.out) (HB.out _ HK14.out)).mono ?_; rintro e w15 ⟨rfl, hk15⟩
              have HK15 : Hid (Kp [] w w15) := Kp.trans HK14.out hk15
              have HS15 : Hid (Kp [] w14 w15) := hk15
              clear hk15
              go_wp2_with fail
              refine (HOA.out _ _ _ (HA.out _ HK15.out) (HA.out _ HK15.out)).mono ?_; rintro e w16 ⟨rfl, hk16⟩
              have HK16 : Hid (Kp [] w w16) := Kp.trans HK15.out hk16
              have HS16 : Hid (Kp [] w15 w16) := hk16
              clear hk16
              go_wp2_with fail
              refine (HKA.out _ HK16.out).mono ?_; rintro e w17 ⟨rfl, hk17⟩
              have HK17 : Hid (Kp [] w w17) := Kp.trans HK16.out hk17
              have HS17 : Hid (Kp [] w16 w17) := hk17
              clear hk17
              go_wp2_with fail
              refine (HKB.out _ HK17.out).mono ?_; rintro e w18 ⟨rfl, hk18⟩
              have HK18 : Hid (Kp [] w w18) := Kp.trans HK17.out hk18
              have HS18 : Hid (Kp [] w17 w18) := hk18
              clear hk18
              go_wp2_with fail
              go_ret
              exact ⟨rfl, HK18.out⟩
            · go_enter Try.func10, Try.ntmps10
              go_wp2_with fail
              refine (HLA.out).mono ?_; rintro e w1 ⟨rfl, rfl⟩
              go_wp2_with fail
              refine (HLB.out).mono ?_; rintro e w2 ⟨rfl, rfl⟩
              go_wp2_with fail
              refine (HCA.out _ (Kp.refl _ _)).mono ?_; rintro e w3 ⟨v3, rfl, ho3, hk3⟩
              replace ho3 := ho3.out
              obtain ⟨pv3, cv3, rfl⟩ := ho3.form
              have HP1 : Hid (∀ W, Kp [] w3 W → IsOut W _ _) := fun W hW => ho3.kp0 hW
              clear ho3
              have HK3 := Lib.hid hk3
              have HS3 : Hid (Kp [] w w3) := hk3
              clear hk3
              go_wp2_with fail
              refine (HCB.out _ HK3.out).mono ?_; rintro e w4 ⟨v4, rfl, ho4, hk4⟩
              replace ho4 := ho4.out
              obtain ⟨pv4, cv4, rfl⟩ := ho4.form
              have HP2 : Hid (∀ W, Kp [] w4 W → IsOut W _ _) := fun W hW => ho4.kp0 hW
              clear ho4
              have HK4 : Hid (Kp [] w w4) := Kp.trans HK3.out hk4
              have HS4 : Hid (Kp [] w3 w4) := hk4
              clear hk4
              go_wp2_with fail
              refine (HJN.out _ _ _ (HP1.out _ (HS4.out)) (HP2.out _ (Kp.refl _ _))).mono ?_; rintro e w5 ⟨v5, rfl, ho5, hk5⟩
              obtain ⟨pv5, cv5, rfl⟩ := ho5.form
              have HJX : Hid (∀ W, Kp [] w5 W → IsOut W _ _) := fun W hW => ho5.kp0 hW
              clear ho5
              have HK5 : Hid (Kp [] w w5) := Kp.trans HK4.out hk5
              have HS5 : Hid (Kp [] w4 w5) := hk5
              clear hk5
              go_wp2_with fail
              refine (HCA.out _ HK5.out).mono ?_; rintro e w6 ⟨v6, rfl, ho6, hk6⟩
              replace ho6 := ho6.out
              obtain ⟨pv6, cv6, rfl⟩ := ho6.form
              have HP3 : Hid (∀ W, Kp [] w6 W → IsOut W _ _) := fun W hW => ho6.kp0 hW
              clear ho6
              have HK6 : Hid (Kp [] w w6) := Kp.trans HK5.out hk6
              have HS6 : Hid (Kp [] w5 w6) := hk6
              clear hk6
              go_wp2_with fail
              refine (HRV.out _ _ (HP3.out _ (Kp.refl _ _))).mono ?_; rintro e w7 ⟨v7, rfl, ho7, hk7⟩
              obtain ⟨pv7, cv7, rfl⟩ := ho7.form
              have HRX : Hid (∀ W, Kp [] w7 W → IsOut W _ _) := fun W hW => ho7.kp0 hW
              clear ho7
              have HK7 : Hid (Kp [] w w7) := Kp.trans HK6.out hk7
              have HS7 : Hid (Kp [] w6 w7) := hk7
              clear hk7
              go_wp2_with fail
              refine (lives10_calls _).mono ?_; rintro e w8 ⟨rfl, hk8⟩
              have HK8 : Hid (Kp [] w w8) := Kp.trans HK7.out hk8
              have HS8 : Hid (Kp [] w7 w8) := hk8
              clear hk8
              go_wp2_with fail
              refine (HRR.out _ HK8.out).mono ?_; rintro e w9 ⟨v9, rfl, ho9, hk9⟩
              obtain ⟨pv9, cv9, rfl⟩ := ho9.form
              have HRY : Hid (∀ W, Kp [] w9 W → IsOut W _ _) := fun W hW => ho9.kp0 hW
              clear ho9
              have HK9 : Hid (Kp [] w w9) := Kp.trans HK8.out hk9
              have HS9 : Hid (Kp [] w8 w9) := hk9
              clear hk9
              go_wp2_with fail
              refine (HSR.out _ _ _ (HRX.out _ (HS8.out.trans (HS9.out))) (HRY.out _ (Kp.refl _ _))).mono ?_; rintro e w10 ⟨rfl, hk10⟩
              have HK10 : Hid (Kp [] w w10) := Kp.trans HK9.out hk10
              have HS10 : Hid (Kp [] w9 w10) := hk10
              clear hk10
              go_wp2_with fail
              refine (HCR.out _ _ (HRX.out _ (HS8.out.trans (HS9.out.trans (HS10.out))))).mono ?_; rintro e w11 ⟨v11, rfl, ho11, hk11⟩
              replace ho11 := ho11.out
              obtain ⟨pv11, cv11, rfl⟩ := ho11.form
              have HP4 : Hid (∀ W, Kp [] w11 W → IsOut W _ _) := fun W hW => ho11.kp0 hW
              clear ho11
              have HK11 : Hid (Kp [] w w11) := Kp.trans HK10.out hk11
              have HS11 : Hid (Kp [] w10 w11) := hk11
              clear hk11
              go_wp2_with fail
              refine (HR2.out _ _ (HP4.out _ (Kp.refl _ _))).mono ?_; rintro e w12 ⟨v12, rfl, ho12, hk12⟩
              obtain ⟨pv12, cv12, rfl⟩ := ho12.form
              have HRZ : Hid (∀ W, Kp [] w12 W → IsOut W _ _) := fun W hW => ho12.kp0 hW
              clear ho12
              have HK12 : Hid (Kp [] w w12) := Kp.trans HK11.out hk12
              have HS12 : Hid (Kp [] w11 w12) := hk12
              clear hk12
              go_wp2_with fail
              refine (HSA.out _ _ _ (HRZ.out _ (Kp.refl _ _)) (HA.out _ HK12.out)).mono ?_; rintro e w13 ⟨rfl, hk13⟩
              have HK13 : Hid (Kp [] w w13) := Kp.trans HK12.out hk13
              have HS13 : Hid (Kp [] w12 w13) := hk13
              clear hk13
              go_wp2_with fail
              refine (HOB.out _ _ _ (HA.out _ HK13.out) (HB.out _ HK13.out)).mono ?_; rintro e w14 ⟨rfl, hk14⟩
              have HK14 : Hid (Kp [] w w14) := Kp.trans HK13.out hk14
              have HS14 : Hid (Kp [] w13 w14) := hk14
              clear hk14
              go_wp2_with fail
              refine (HSB.out _ _ _ (HA.out _ HK14.out) (HB.out _ HK14.out)).mono ?_; rintro e w15 ⟨rfl, hk15⟩
              have HK15 : Hid (Kp [] w w15) := Kp.trans HK14.out hk15
              have HS15 : Hid (Kp [] w14 w15) := hk15
              clear hk15
              go_wp2_with fail
              refine (HOA.out _ _ _ (HA.out _ HK15.out) (HA.out _ HK15.out)).mono ?_; rintro e w16 ⟨rfl, hk16⟩
              have HK16 : Hid (Kp [] w w16) := Kp.trans HK15.out hk16
              have HS16 : Hid (Kp [] w15 w16) := hk16
              clear hk16
              go_wp2_with fail
              refine (HKA.out _ HK16.out).mono ?_; rintro e w17 ⟨rfl, hk17⟩
              have HK17 : Hid (Kp [] w w17) := Kp.trans HK16.out hk17
              have HS17 : Hid (Kp [] w16 w17) := hk17
              clear hk17
              go_wp2_with fail
              refine (HKB.out _ HK17.out).mono ?_; rintro e w18 ⟨rfl, hk18⟩
              have HK18 : Hid (Kp [] w w18) := Kp.trans HK17.out hk18
              have HS18 : Hid (Kp [] w17 w18) := hk18
              clear hk18
              go_wp2_with fail
              refine (HNA.out _ HK18.out).mono ?_; rintro e w19 ⟨rfl, rfl⟩
              go_wp2_with fail
              refine (HNB.out _ HK18.out).mono ?_; rintro e w20 ⟨rfl, rfl⟩
              go_wp2_with fail
              go_ret
              exact ⟨rfl, HK18.out⟩
          · obtain ⟨X, hX⟩ : ∃ X, a ++ b = X := ⟨_, rfl⟩
            have HXX := Lib.hid hX
            have HJ1 : joinM a b = (X, 0) := by rw [HJM.out, if_neg (by simp [hEA]), if_neg (by simp [hEB]), if_neg hov, hX]
            clear hX
            rw [HJ1] at HJN
            dsimp only at HJN
            have HSX := Lib.hid (fun v1 v2 W (h1 : IsOut W v1 X) (h2 : IsOut W v2 X) => rsame_calls v1 v2 X X W h1 h2)
            rw [decide_eq_true (rfl : X = X)] at HSX
            obtain ⟨vsb, hrb, hpb⟩ := HB.out w (Kp.refl _ _)
            have HRB := Lib.hid hrb
            have HPB := Lib.hid hpb
            have hlvb : vsb.length = b.length := by have := hrb.1; omega
            have HONE := Lib.hid (out_one hlvb hpb)
            clear hrb hpb hlvb
            obtain ⟨NA, hNA⟩ : ∃ NA : Nat, a.length = NA := ⟨_, rfl⟩
            obtain ⟨NB, hNB⟩ : ∃ NB : Nat, b.length = NB := ⟨_, rfl⟩
            obtain ⟨CA, hCA⟩ : ∃ CA : Nat, cnt a = CA := ⟨_, rfl⟩
            obtain ⟨CB, hCB⟩ : ∃ CB : Nat, cnt b = CB := ⟨_, rfl⟩
            have HNA0 := Lib.hid hNA
            have HNB0 := Lib.hid hNB
            rw [hNA, hNB, hCA, hCB] at hov
            rw [hNA] at hla
            rw [hNB] at hlb
            rw [hCA] at hca
            rw [hCB] at hcb
            have hv1 : decide ((256 : Int) < (NA : Int) + (NB : Int)) = false := decide_eq_false (by omega)
            have hv2 : decide ((4096 : Int) < ((CA : Nat) : Int) + ((CB : Nat) : Int)) = false := decide_eq_false (by omega)
            rw [hNA] at HLA HA HCA HRR HKA HNA
            rw [hNB] at HLB HB HCB HKB HNB HRB
            rw [hCA] at HNA
            rw [hCB] at HNB
            rw [hNA, hNB]
            clear hNA hNB hCA hCB HJM HJ1 hEA hEB hov
            go_enter Try.func10, Try.ntmps10
            go_wp2_with fail
            refine (HLA.out).mono ?_; rintro e w1 ⟨rfl, rfl⟩
            go_wp2_with fail
            refine (HLB.out).mono ?_; rintro e w2 ⟨rfl, rfl⟩
            go_wp2_with fail
            refine (HCA.out _ (Kp.refl _ _)).mono ?_; rintro e w3 ⟨v3, rfl, ho3, hk3⟩
            replace ho3 := ho3.out
            obtain ⟨pv3, cv3, rfl⟩ := ho3.form
            have HP1 : Hid (∀ W, Kp [] w3 W → IsOut W _ _) := fun W hW => ho3.kp0 hW
            clear ho3
            have HK3 := Lib.hid hk3
            have HS3 : Hid (Kp [] w w3) := hk3
            clear hk3
            go_wp2_with fail
            refine (HCB.out _ HK3.out).mono ?_; rintro e w4 ⟨v4, rfl, ho4, hk4⟩
            replace ho4 := ho4.out
            obtain ⟨pv4, cv4, rfl⟩ := ho4.form
            have HP2 : Hid (∀ W, Kp [] w4 W → IsOut W _ _) := fun W hW => ho4.kp0 hW
            clear ho4
            have HK4 : Hid (Kp [] w w4) := Kp.trans HK3.out hk4
            have HS4 : Hid (Kp [] w3 w4) := hk4
            clear hk4
            go_wp2_with fail
            refine (HJN.out _ _ _ (HP1.out _ (HS4.out)) (HP2.out _ (Kp.refl _ _))).mono ?_; rintro e w5 ⟨v5, rfl, ho5, hk5⟩
            obtain ⟨pv5, cv5, rfl⟩ := ho5.form
            have HJX : Hid (∀ W, Kp [] w5 W → IsOut W _ _) := fun W hW => ho5.kp0 hW
            clear ho5
            have HK5 : Hid (Kp [] w w5) := Kp.trans HK4.out hk5
            have HS5 : Hid (Kp [] w4 w5) := hk5
            clear hk5
            go_wp2_with fail
            refine (HCA.out _ HK5.out).mono ?_; rintro e w6 ⟨v6, rfl, ho6, hk6⟩
            replace ho6 := ho6.out
            obtain ⟨pv6, cv6, rfl⟩ := ho6.form
            have HP3 : Hid (∀ W, Kp [] w6 W → IsOut W _ _) := fun W hW => ho6.kp0 hW
            clear ho6
            have HK6 : Hid (Kp [] w w6) := Kp.trans HK5.out hk6
            have HS6 : Hid (Kp [] w5 w6) := hk6
            clear hk6
            go_wp2_with fail
            refine (HRV.out _ _ (HP3.out _ (Kp.refl _ _))).mono ?_; rintro e w7 ⟨v7, rfl, ho7, hk7⟩
            obtain ⟨pv7, cv7, rfl⟩ := ho7.form
            have HRX : Hid (∀ W, Kp [] w7 W → IsOut W _ _) := fun W hW => ho7.kp0 hW
            clear ho7
            have HK7 : Hid (Kp [] w w7) := Kp.trans HK6.out hk7
            have HS7 : Hid (Kp [] w6 w7) := hk7
            clear hk7
            go_wp2_with fail
            refine (lives10_calls _).mono ?_; rintro e w8 ⟨rfl, hk8⟩
            have HK8 : Hid (Kp [] w w8) := Kp.trans HK7.out hk8
            have HS8 : Hid (Kp [] w7 w8) := hk8
            clear hk8
            go_wp2_with fail
            refine (HRR.out _ HK8.out).mono ?_; rintro e w9 ⟨v9, rfl, ho9, hk9⟩
            obtain ⟨pv9, cv9, rfl⟩ := ho9.form
            have HRY : Hid (∀ W, Kp [] w9 W → IsOut W _ _) := fun W hW => ho9.kp0 hW
            clear ho9
            have HK9 : Hid (Kp [] w w9) := Kp.trans HK8.out hk9
            have HS9 : Hid (Kp [] w8 w9) := hk9
            clear hk9
            go_wp2_with fail
            refine (HSR.out _ _ _ (HRX.out _ (HS8.out.trans (HS9.out))) (HRY.out _ (Kp.refl _ _))).mono ?_; rintro e w10 ⟨rfl, hk10⟩
            have HK10 : Hid (Kp [] w w10) := Kp.trans HK9.out hk10
            have HS10 : Hid (Kp [] w9 w10) := hk10
            clear hk10
            go_wp2_with fail
            refine (HCR.out _ _ (HRX.out _ (HS8.out.trans (HS9.out.trans (HS10.out))))).mono ?_; rintro e w11 ⟨v11, rfl, ho11, hk11⟩
            replace ho11 := ho11.out
            obtain ⟨pv11, cv11, rfl⟩ := ho11.form
            have HP4 : Hid (∀ W, Kp [] w11 W → IsOut W _ _) := fun W hW => ho11.kp0 hW
            clear ho11
            have HK11 : Hid (Kp [] w w11) := Kp.trans HK10.out hk11
            have HS11 : Hid (Kp [] w10 w11) := hk11
            clear hk11
            go_wp2_with fail
            refine (HR2.out _ _ (HP4.out _ (Kp.refl _ _))).mono ?_; rintro e w12 ⟨v12, rfl, ho12, hk12⟩
            obtain ⟨pv12, cv12, rfl⟩ := ho12.form
            have HRZ : Hid (∀ W, Kp [] w12 W → IsOut W _ _) := fun W hW => ho12.kp0 hW
            clear ho12
            have HK12 : Hid (Kp [] w w12) := Kp.trans HK11.out hk12
            have HS12 : Hid (Kp [] w11 w12) := hk12
            clear hk12
            go_wp2_with fail
            refine (HSA.out _ _ _ (HRZ.out _ (Kp.refl _ _)) (HA.out _ HK12.out)).mono ?_; rintro e w13 ⟨rfl, hk13⟩
            have HK13 : Hid (Kp [] w w13) := Kp.trans HK12.out hk13
            have HS13 : Hid (Kp [] w12 w13) := hk13
            clear hk13
            go_wp2_with fail
            refine (HOB.out _ _ _ (HA.out _ HK13.out) (HB.out _ HK13.out)).mono ?_; rintro e w14 ⟨rfl, hk14⟩
            have HK14 : Hid (Kp [] w w14) := Kp.trans HK13.out hk14
            have HS14 : Hid (Kp [] w13 w14) := hk14
            clear hk14
            go_wp2_with fail
            refine (HSB.out _ _ _ (HA.out _ HK14.out) (HB.out _ HK14.out)).mono ?_; rintro e w15 ⟨rfl, hk15⟩
            have HK15 : Hid (Kp [] w w15) := Kp.trans HK14.out hk15
            have HS15 : Hid (Kp [] w14 w15) := hk15
            clear hk15
            go_wp2_with fail
            refine (HOA.out _ _ _ (HA.out _ HK15.out) (HA.out _ HK15.out)).mono ?_; rintro e w16 ⟨rfl, hk16⟩
            have HK16 : Hid (Kp [] w w16) := Kp.trans HK15.out hk16
            have HS16 : Hid (Kp [] w15 w16) := hk16
            clear hk16
            go_wp2_with fail
            refine (HKA.out _ HK16.out).mono ?_; rintro e w17 ⟨rfl, hk17⟩
            have HK17 : Hid (Kp [] w w17) := Kp.trans HK16.out hk17
            have HS17 : Hid (Kp [] w16 w17) := hk17
            clear hk17
            go_wp2_with fail
            refine (HKB.out _ HK17.out).mono ?_; rintro e w18 ⟨rfl, hk18⟩
            have HK18 : Hid (Kp [] w w18) := Kp.trans HK17.out hk18
            have HS18 : Hid (Kp [] w17 w18) := hk18
            clear hk18
            go_wp2_with fail
            refine (HNA.out _ HK18.out).mono ?_; rintro e w19 ⟨rfl, rfl⟩
            go_wp2_with fail
            refine (HNB.out _ HK18.out).mono ?_; rintro e w20 ⟨rfl, rfl⟩
            go_wp2_with fail
            refine (HCA.out _ HK18.out).mono ?_; rintro e w21 ⟨v21, rfl, ho21, hk21⟩
            obtain ⟨vsc, hwc⟩ := ho21
            have HSW := Lib.hid (HK18.out : Kp [] w w18).size
            have HKC : Hid (Kp [] w w21) := Kp.trans HK18.out hk21
            have HS21 : Hid (Kp [] w18 w21) := hk21
            have HWC := Lib.hid hwc
            have hrc := hwc.1
            rw [HNA0.out] at hrc
            obtain ⟨pc, qc, e9⟩ := slice_own hrc
            subst e9
            have HRC := Lib.hid hrc
            have hszc : w.heap.size ≤ w18.heap.size := HSW.out
            have hszd : w18.heap.size ≤ w21.heap.size := hk21.size
            clear hwc hrc hk21
            go_wp2_with (at_builtin; refine wpList_appG (by kernel_rfl) _ _ 42 rfl w18.heap.size 96 (.slice none 0 0) 1 24 Try.underlying42 infoPs rfl (by decide) (by decide) (.slice pc NA qc) NA vsc rfl ?hown (.slice pb NB qb) NB vsb rfl ?hsrc ?hone ?hb1 ?hb2 ?hk)
            case hown => exact HRC.out
            case hsrc => exact Reads.kp (S := []) HRB.out HKC.out (by simp)
            case hone => exact HONE.out
            case hb1 => omega
            case hb2 => omega
            case hk =>
            intro v40 w40 hown40 hgr40
            have HO40 : Hid (IsOut w40 v40 X) := by show IsOut _ _ _; rw [← HXX.out]; exact join_in HWC.out (by rw [HNB0.out]; exact HRB.out) HPB.out HKC.out hszc (by rw [HNA0.out, HNB0.out]) hown40 hgr40
            have HK40 : Hid (Kp [] w w40) := Kp.grown HKC.out hgr40 (fun k hk => .inr (by have := own_ge HRC.out k hk; omega))
            have HS40 : Hid (Kp [] w18 w40) := Kp.grown HS21.out hgr40 (fun k hk => .inr (own_ge HRC.out k hk))
            clear hown40 hgr40
            go_wp2_with fail
            refine (HSX.out _ _ _ (HJX.out _ (HS6.out.trans (HS7.out.trans (HS8.out.trans (HS9.out.trans (HS10.out.trans (HS11.out.trans (HS12.out.trans (HS13.out.trans (HS14.out.trans (HS15.out.trans (HS16.out.trans (HS17.out.trans (HS18.out.trans (HS40.out))))))))))))))) HO40.out).mono ?_; rintro e w41 ⟨rfl, hk41⟩
            have hkf : Kp [] w w41 := HK40.out.trans hk41
            go_wp2_with fail
            go_ret
            exact ⟨rfl, hkf⟩
        · have HJ1 : joinM a b = ([], checkO b) := by rw [HJM.out, if_neg (by simp [hEA]), if_pos hEB]
          rw [HJ1] at HJN
          dsimp only at HJN
          generalize checkO b = E at *
          have hE1 : (E == 0) = false := by simpa using hEB
          generalize a.length = NA at *
          generalize b.length = NB at *
          clear HJM HJ1 hEA
          go_enter Try.func10, Try.ntmps10
          go_wp2_with fail
          refine (HLA.out).mono ?_; rintro e w1 ⟨rfl, rfl⟩
          go_wp2_with fail
          refine (HLB.out).mono ?_; rintro e w2 ⟨rfl, rfl⟩
          go_wp2_with fail
          refine (HCA.out _ (Kp.refl _ _)).mono ?_; rintro e w3 ⟨v3, rfl, ho3, hk3⟩
          replace ho3 := ho3.out
          obtain ⟨pv3, cv3, rfl⟩ := ho3.form
          have HP1 : Hid (∀ W, Kp [] w3 W → IsOut W _ _) := fun W hW => ho3.kp0 hW
          clear ho3
          have HK3 := Lib.hid hk3
          have HS3 : Hid (Kp [] w w3) := hk3
          clear hk3
          go_wp2_with fail
          refine (HCB.out _ HK3.out).mono ?_; rintro e w4 ⟨v4, rfl, ho4, hk4⟩
          replace ho4 := ho4.out
          obtain ⟨pv4, cv4, rfl⟩ := ho4.form
          have HP2 : Hid (∀ W, Kp [] w4 W → IsOut W _ _) := fun W hW => ho4.kp0 hW
          clear ho4
          have HK4 : Hid (Kp [] w w4) := Kp.trans HK3.out hk4
          have HS4 : Hid (Kp [] w3 w4) := hk4
          clear hk4
          go_wp2_with fail
          refine (HJN.out _ _ _ (HP1.out _ (HS4.out)) (HP2.out _ (Kp.refl _ _))).mono ?_; rintro e w5 ⟨v5, rfl, ho5, hk5⟩
          obtain ⟨pv5, cv5, rfl⟩ := ho5.form
          have HJX : Hid (∀ W, Kp [] w5 W → IsOut W _ _) := fun W hW => ho5.kp0 hW
          clear ho5
          have HK5 : Hid (Kp [] w w5) := Kp.trans HK4.out hk5
          have HS5 : Hid (Kp [] w4 w5) := hk5
          clear hk5
          go_wp2_with fail
          refine (HCA.out _ HK5.out).mono ?_; rintro e w6 ⟨v6, rfl, ho6, hk6⟩
          replace ho6 := ho6.out
          obtain ⟨pv6, cv6, rfl⟩ := ho6.form
          have HP3 : Hid (∀ W, Kp [] w6 W → IsOut W _ _) := fun W hW => ho6.kp0 hW
          clear ho6
          have HK6 : Hid (Kp [] w w6) := Kp.trans HK5.out hk6
          have HS6 : Hid (Kp [] w5 w6) := hk6
          clear hk6
          go_wp2_with fail
          refine (HRV.out _ _ (HP3.out _ (Kp.refl _ _))).mono ?_; rintro e w7 ⟨v7, rfl, ho7, hk7⟩
          obtain ⟨pv7, cv7, rfl⟩ := ho7.form
          have HRX : Hid (∀ W, Kp [] w7 W → IsOut W _ _) := fun W hW => ho7.kp0 hW
          clear ho7
          have HK7 : Hid (Kp [] w w7) := Kp.trans HK6.out hk7
          have HS7 : Hid (Kp [] w6 w7) := hk7
          clear hk7
          go_wp2_with fail
          refine (lives10_calls _).mono ?_; rintro e w8 ⟨rfl, hk8⟩
          have HK8 : Hid (Kp [] w w8) := Kp.trans HK7.out hk8
          have HS8 : Hid (Kp [] w7 w8) := hk8
          clear hk8
          go_wp2_with fail
          refine (HRR.out _ HK8.out).mono ?_; rintro e w9 ⟨v9, rfl, ho9, hk9⟩
          obtain ⟨pv9, cv9, rfl⟩ := ho9.form
          have HRY : Hid (∀ W, Kp [] w9 W → IsOut W _ _) := fun W hW => ho9.kp0 hW
          clear ho9
          have HK9 : Hid (Kp [] w w9) := Kp.trans HK8.out hk9
          have HS9 : Hid (Kp [] w8 w9) := hk9
          clear hk9
          go_wp2_with fail
          refine (HSR.out _ _ _ (HRX.out _ (HS8.out.trans (HS9.out))) (HRY.out _ (Kp.refl _ _))).mono ?_; rintro e w10 ⟨rfl, hk10⟩
          have HK10 : Hid (Kp [] w w10) := Kp.trans HK9.out hk10
          have HS10 : Hid (Kp [] w9 w10) := hk10
          clear hk10
          go_wp2_with fail
          refine (HCR.out _ _ (HRX.out _ (HS8.out.trans (HS9.out.trans (HS10.out))))).mono ?_; rintro e w11 ⟨v11, rfl, ho11, hk11⟩
          replace ho11 := ho11.out
          obtain ⟨pv11, cv11, rfl⟩ := ho11.form
          have HP4 : Hid (∀ W, Kp [] w11 W → IsOut W _ _) := fun W hW => ho11.kp0 hW
          clear ho11
          have HK11 : Hid (Kp [] w w11) := Kp.trans HK10.out hk11
          have HS11 : Hid (Kp [] w10 w11) := hk11
          clear hk11
          go_wp2_with fail
          refine (HR2.out _ _ (HP4.out _ (Kp.refl _ _))).mono ?_; rintro e w12 ⟨v12, rfl, ho12, hk12⟩
          obtain ⟨pv12, cv12, rfl⟩ := ho12.form
          have HRZ : Hid (∀ W, Kp [] w12 W → IsOut W _ _) := fun W hW => ho12.kp0 hW
          clear ho12
          have HK12 : Hid (Kp [] w w12) := Kp.trans HK11.out hk12
          have HS12 : Hid (Kp [] w11 w12) := hk12
          clear hk12
          go_wp2_with fail
          refine (HSA.out _ _ _ (HRZ.out _ (Kp.refl _ _)) (HA.out _ HK12.out)).mono ?_; rintro e w13 ⟨rfl, hk13⟩
          have HK13 : Hid (Kp [] w w13) := Kp.trans HK12.out hk13
          have HS13 : Hid (Kp [] w12 w13) := hk13
          clear hk13
          go_wp2_with fail
          refine (HOB.out _ _ _ (HA.out _ HK13.out) (HB.out _ HK13.out)).mono ?_; rintro e w14 ⟨rfl, hk14⟩
          have HK14 : Hid (Kp [] w w14) := Kp.trans HK13.out hk14
          have HS14 : Hid (Kp [] w13 w14) := hk14
          clear hk14
          go_wp2_with fail
          refine (HSB.out _ _ _ (HA.out _ HK14.out) (HB.out _ HK14.out)).mono ?_; rintro e w15 ⟨rfl, hk15⟩
          have HK15 : Hid (Kp [] w w15) := Kp.trans HK14.out hk15
          have HS15 : Hid (Kp [] w14 w15) := hk15
          clear hk15
          go_wp2_with fail
          refine (HOA.out _ _ _ (HA.out _ HK15.out) (HA.out _ HK15.out)).mono ?_; rintro e w16 ⟨rfl, hk16⟩
          have HK16 : Hid (Kp [] w w16) := Kp.trans HK15.out hk16
          have HS16 : Hid (Kp [] w15 w16) := hk16
          clear hk16
          go_wp2_with fail
          refine (HKA.out _ HK16.out).mono ?_; rintro e w17 ⟨rfl, hk17⟩
          have HK17 : Hid (Kp [] w w17) := Kp.trans HK16.out hk17
          have HS17 : Hid (Kp [] w16 w17) := hk17
          clear hk17
          go_wp2_with fail
          refine (HKB.out _ HK17.out).mono ?_; rintro e w18 ⟨rfl, hk18⟩
          have HK18 : Hid (Kp [] w w18) := Kp.trans HK17.out hk18
          have HS18 : Hid (Kp [] w17 w18) := hk18
          clear hk18
          go_wp2_with fail
          go_ret
          exact ⟨rfl, HK18.out⟩
      · have HJ1 : joinM a b = ([], checkO a) := by rw [HJM.out, if_pos hEA]
        rw [HJ1] at HJN
        dsimp only at HJN
        generalize checkO a = E at *
        have hE1 : (E == 0) = false := by simpa using hEA
        generalize a.length = NA at *
        generalize b.length = NB at *
        clear HJM HJ1
        go_enter Try.func10, Try.ntmps10
        go_wp2_with fail
        refine (HLA.out).mono ?_; rintro e w1 ⟨rfl, rfl⟩
        go_wp2_with fail
        refine (HLB.out).mono ?_; rintro e w2 ⟨rfl, rfl⟩
        go_wp2_with fail
        refine (HCA.out _ (Kp.refl _ _)).mono ?_; rintro e w3 ⟨v3, rfl, ho3, hk3⟩
        replace ho3 := ho3.out
        obtain ⟨pv3, cv3, rfl⟩ := ho3.form
        have HP1 : Hid (∀ W, Kp [] w3 W → IsOut W _ _) := fun W hW => ho3.kp0 hW
        clear ho3
        have HK3 := Lib.hid hk3
        have HS3 : Hid (Kp [] w w3) := hk3
        clear hk3
        go_wp2_with fail
        refine (HCB.out _ HK3.out).mono ?_; rintro e w4 ⟨v4, rfl, ho4, hk4⟩
        replace ho4 := ho4.out
        obtain ⟨pv4, cv4, rfl⟩ := ho4.form
        have HP2 : Hid (∀ W, Kp [] w4 W → IsOut W _ _) := fun W hW => ho4.kp0 hW
        clear ho4
        have HK4 : Hid (Kp [] w w4) := Kp.trans HK3.out hk4
        have HS4 : Hid (Kp [] w3 w4) := hk4
        clear hk4
        go_wp2_with fail
        refine (HJN.out _ _ _ (HP1.out _ (HS4.out)) (HP2.out _ (Kp.refl _ _))).mono ?_; rintro e w5 ⟨v5, rfl, ho5, hk5⟩
        obtain ⟨pv5, cv5, rfl⟩ := ho5.form
        have HJX : Hid (∀ W, Kp [] w5 W → IsOut W _ _) := fun W hW => ho5.kp0 hW
        clear ho5
        have HK5 : Hid (Kp [] w w5) := Kp.trans HK4.out hk5
        have HS5 : Hid (Kp [] w4 w5) := hk5
        clear hk5
        go_wp2_with fail
        refine (HCA.out _ HK5.out).mono ?_; rintro e w6 ⟨v6, rfl, ho6, hk6⟩
        replace ho6 := ho6.out
        obtain ⟨pv6, cv6, rfl⟩ := ho6.form
        have HP3 : Hid (∀ W, Kp [] w6 W → IsOut W _ _) := fun W hW => ho6.kp0 hW
        clear ho6
        have HK6 : Hid (Kp [] w w6) := Kp.trans HK5.out hk6
        have HS6 : Hid (Kp [] w5 w6) := hk6
        clear hk6
        go_wp2_with fail
        refine (HRV.out _ _ (HP3.out _ (Kp.refl _ _))).mono ?_; rintro e w7 ⟨v7, rfl, ho7, hk7⟩
        obtain ⟨pv7, cv7, rfl⟩ := ho7.form
        have HRX : Hid (∀ W, Kp [] w7 W → IsOut W _ _) := fun W hW => ho7.kp0 hW
        clear ho7
        have HK7 : Hid (Kp [] w w7) := Kp.trans HK6.out hk7
        have HS7 : Hid (Kp [] w6 w7) := hk7
        clear hk7
        go_wp2_with fail
        refine (lives10_calls _).mono ?_; rintro e w8 ⟨rfl, hk8⟩
        have HK8 : Hid (Kp [] w w8) := Kp.trans HK7.out hk8
        have HS8 : Hid (Kp [] w7 w8) := hk8
        clear hk8
        go_wp2_with fail
        refine (HRR.out _ HK8.out).mono ?_; rintro e w9 ⟨v9, rfl, ho9, hk9⟩
        obtain ⟨pv9, cv9, rfl⟩ := ho9.form
        have HRY : Hid (∀ W, Kp [] w9 W → IsOut W _ _) := fun W hW => ho9.kp0 hW
        clear ho9
        have HK9 : Hid (Kp [] w w9) := Kp.trans HK8.out hk9
        have HS9 : Hid (Kp [] w8 w9) := hk9
        clear hk9
        go_wp2_with fail
        refine (HSR.out _ _ _ (HRX.out _ (HS8.out.trans (HS9.out))) (HRY.out _ (Kp.refl _ _))).mono ?_; rintro e w10 ⟨rfl, hk10⟩
        have HK10 : Hid (Kp [] w w10) := Kp.trans HK9.out hk10
        have HS10 : Hid (Kp [] w9 w10) := hk10
        clear hk10
        go_wp2_with fail
        refine (HCR.out _ _ (HRX.out _ (HS8.out.trans (HS9.out.trans (HS10.out))))).mono ?_; rintro e w11 ⟨v11, rfl, ho11, hk11⟩
        replace ho11 := ho11.out
        obtain ⟨pv11, cv11, rfl⟩ := ho11.form
        have HP4 : Hid (∀ W, Kp [] w11 W → IsOut W _ _) := fun W hW => ho11.kp0 hW
        clear ho11
        have HK11 : Hid (Kp [] w w11) := Kp.trans HK10.out hk11
        have HS11 : Hid (Kp [] w10 w11) := hk11
        clear hk11
        go_wp2_with fail
        refine (HR2.out _ _ (HP4.out _ (Kp.refl _ _))).mono ?_; rintro e w12 ⟨v12, rfl, ho12, hk12⟩
        obtain ⟨pv12, cv12, rfl⟩ := ho12.form
        have HRZ : Hid (∀ W, Kp [] w12 W → IsOut W _ _) := fun W hW => ho12.kp0 hW
        clear ho12
        have HK12 : Hid (Kp [] w w12) := Kp.trans HK11.out hk12
        have HS12 : Hid (Kp [] w11 w12) := hk12
        clear hk12
        go_wp2_with fail
        refine (HSA.out _ _ _ (HRZ.out _ (Kp.refl _ _)) (HA.out _ HK12.out)).mono ?_; rintro e w13 ⟨rfl, hk13⟩
        have HK13 : Hid (Kp [] w w13) := Kp.trans HK12.out hk13
        have HS13 : Hid (Kp [] w12 w13) := hk13
        clear hk13
        go_wp2_with fail
        refine (HOB.out _ _ _ (HA.out _ HK13.out) (HB.out _ HK13.out)).mono ?_; rintro e w14 ⟨rfl, hk14⟩
        have HK14 : Hid (Kp [] w w14) := Kp.trans HK13.out hk14
        have HS14 : Hid (Kp [] w13 w14) := hk14
        clear hk14
        go_wp2_with fail
        refine (HSB.out _ _ _ (HA.out _ HK14.out) (HB.out _ HK14.out)).mono ?_; rintro e w15 ⟨rfl, hk15⟩
        have HK15 : Hid (Kp [] w w15) := Kp.trans HK14.out hk15
        have HS15 : Hid (Kp [] w14 w15) := hk15
        clear hk15
        go_wp2_with fail
        refine (HOA.out _ _ _ (HA.out _ HK15.out) (HA.out _ HK15.out)).mono ?_; rintro e w16 ⟨rfl, hk16⟩
        have HK16 : Hid (Kp [] w w16) := Kp.trans HK15.out hk16
        have HS16 : Hid (Kp [] w15 w16) := hk16
        clear hk16
        go_wp2_with fail
        refine (HKA.out _ HK16.out).mono ?_; rintro e w17 ⟨rfl, hk17⟩
        have HK17 : Hid (Kp [] w w17) := Kp.trans HK16.out hk17
        have HS17 : Hid (Kp [] w16 w17) := hk17
        clear hk17
        go_wp2_with fail
        go_ret
        exact ⟨rfl, HK17.out⟩
    · rw [hlga] at HLA
      rw [hlgb] at HLB
      generalize a.length = NA at *
      generalize b.length = NB at *
      clear hva hba hvb hbb hlga hlgb
      go_enter Try.func10, Try.ntmps10
      go_wp2_with fail
      refine HLA.out.mono ?_; rintro e w1 ⟨rfl, rfl⟩
      go_wp2_with fail
      refine HLB.out.mono ?_; rintro e w1 ⟨rfl, rfl⟩
      go_wp2_with fail
      refine (lives10_calls _).mono ?_; rintro e w2 ⟨rfl, hk2⟩
      go_wp2_with fail
      go_ret
      exact ⟨rfl, hk2⟩
  · rw [hlga] at HLA
    generalize a.length = NA at *
    generalize b.length = NB at *
    clear hva hba hvb hbb hlga
    go_enter Try.func10, Try.ntmps10
    go_wp2_with fail
    refine HLA.out.mono ?_; rintro e w1 ⟨rfl, rfl⟩
    go_wp2_with fail
    refine (lives10_calls _).mono ?_; rintro e w2 ⟨rfl, hk2⟩
    go_wp2_with fail
    go_ret
    exact ⟨rfl, hk2⟩
end Go.Proofs.Ytodjohoonbkklaa

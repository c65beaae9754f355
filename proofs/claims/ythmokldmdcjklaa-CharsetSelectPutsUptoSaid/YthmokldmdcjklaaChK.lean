/- charset.Select: what bytes are as a selection. (Written by a program of mine.) -/
import Derived.Test.YthmokldmdcjklaaChJ
namespace Go.Proofs.Ythmokldmdcjklaa
open Go.RowKit
set_option linter.unusedVariables false
set_option linter.unusedSimpArgs false
theorem PartsOk.at_least {l : List (Int × Int)} {n : Nat} {q : Int} (h : PartsOk l n q) : ∀ i, i < l.length → (i : Int) ≤ fiP l i := by
  intro i
  induction i with
  | zero => intro hi; have := (h.ge 0 hi).1; omega
  | succ i ih => intro hi; have := ih (by omega); have := h.lt i hi; omega
theorem PartsOk.len {l : List (Int × Int)} {n : Nat} {q : Int} (h : PartsOk l n q) : l.length ≤ n := by
  by_cases hl : l.length = 0
  · omega
  · have h1 := h.at_least (l.length - 1) (by omega)
    have h2 := (h.ge (l.length - 1) (by omega)).2.1
    omega
/-- What bytes are, as a selection of n glyphs among q. -/
def csSel (zs : List Int) (n : Nat) (q : Int) : Option (List Int) :=
  if rdB zs 0 false 1 = true then none
  else if rdV zs 0 false 1 = 0 then oneGo zs q n [] (rdK zs 0 false 1)
  else if rdV zs 0 false 1 = 3 then (partsOf zs n q (rdK zs 0 false 1)).map fun l => spreadL l n
  else none
theorem select_arg (v : Value) (n q : Int) (h1 : ¬ (1 ≤ n ∧ n ≤ 65535 ∧ 1 ≤ q ∧ q ≤ 256)) (w : World) : Calls Try.prog 21 #[v, .int .i64 n, .int .i64 q] w fun e w' => e = .returned (.tuple #[.slice none 0 0, .int .i64 1]) ∧ w = w' := by
  by_cases hn : 1 ≤ n ∧ n ≤ 65535
  · by_cases hq : q < 1
    · go_enter Try.func21, Try.ntmps21
      go_wp2_with fail
      refine (count_yes _ hn.1 hn.2 _).mono ?_; rintro e w' ⟨rfl, rfl⟩
      go_wp2_with fail
      go_ret2
      exact ⟨rfl, rfl⟩
    · have hq' : decide (q < 1) = false := by simpa using hq
      have hq2 : 256 < q := by omega
      clear h1
      go_enter Try.func21, Try.ntmps21
      go_wp2_with fail
      refine (count_yes _ hn.1 hn.2 _).mono ?_; rintro e w' ⟨rfl, rfl⟩
      go_wp2_with fail
      go_ret2
      exact ⟨rfl, rfl⟩
  · go_enter Try.func21, Try.ntmps21
    go_wp2_with fail
    refine (count_no _ (by omega) _).mono ?_; rintro e w' ⟨rfl, rfl⟩
    go_wp2_with fail
    go_ret2
    exact ⟨rfl, rfl⟩
set_option maxRecDepth 100000 in
set_option maxHeartbeats 1000000 in
theorem select_bad (v : Value) (zs : List Int) (n : Nat) (q : Int) (h1 : 1 ≤ n) (h2 : n ≤ 65535) (g1 : 1 ≤ q) (g2 : q ≤ 256) (w : World) (hz : IsInts .u8 w v zs) (hb : ∀ c ∈ zs, 0 ≤ c ∧ c ≤ 255) (hv : ∀ b, blockOf v = some b → b < w.heap.size)
    (HB1 : Hid (rdB zs 0 false 1 = true)) : Calls Try.prog 21 #[v, .int .i64 n, .int .i64 q] w (Loaded .i64 none 160 w) := by
  obtain ⟨pa, ca, hva⟩ : ∃ p c, v = .slice p zs.length c := by
    rcases hz with ⟨⟨ad, rfl⟩, rfl⟩ | ⟨g, off, c, rfl, _⟩
    · exact ⟨_, 0, rfl⟩
    · exact ⟨_, c, rfl⟩
  have HB : Hid _ := hb
  have HV : Hid _ := hv
  have HVA : Hid _ := hva
  clear hb hv hva
  go_enter Try.func21, Try.ntmps21
  go_wp2_with fail
  refine (count_yes _ (by omega) (by omega) _).mono ?_; rintro e w' ⟨rfl, rfl⟩
  go_wp2_with fail
  refine (new_calls v pa zs.length ca HVA.out _).mono ?_; rintro e w1 ⟨rfl, hw1⟩
  have hr1 : Rdr w1 w.heap.size v (0 : Nat) false := by subst hw1; exact heap_alloc_new w _
  have hk1 : Kp [] w w1 := by subst hw1; (repeat (first | exact Kp.refl _ _ | assumption | refine Kp.drew ?_ | refine Kp.drewN ?_ _ | refine Kp.alloc ?_ _ | (refine Kp.setCell ?_ (by first | (left; simp; done) | (right; simp; try omega)) _) | (refine Kp.trans' ?_ (by assumption) (by simp; try omega))))
  have hne : blockOf v ≠ some w.heap.size := fun e => by have := HV.out _ e; omega
  have hsz : w.heap.size < w1.heap.size := by subst hw1; simp
  clear hw1
  have hz1 := hz.kp hk1 (by simp)
  clear hz
  generalize hr : w.heap.size = r at *
  go_wp2_with fail
  refine (u8_calls r v zs 0 false _ hr1 hz1 HB.out hne (by omega)).mono ?_; rintro e w2 ⟨rfl, hr2, hk2⟩
  rw [HB1.out] at hr2
  have hz2 := hz1.kp hk2 (by intro s hs; simp at hs; subst hs; exact hne)
  have hkl := rdK_le zs 0 false 1 (Nat.zero_le _)
  have hs2 := hk2.size
  have hv2 : ∀ b, blockOf v = some b → b < w2.heap.size ∧ b ≠ r := fun b hb => by have := HV.out b hb; omega
  have HV2 := Lib.hid hv2
  clear hv2
  generalize rdV zs 0 false 1 = fv at *
  go_wp2_with fail
  refine (done_calls r v _ _ _ hr2).mono ?_; rintro e w' ⟨rfl, rfl⟩
  go_wp2_with fail
  refine (done_calls r v _ _ _ hr2).mono ?_; rintro e w' ⟨rfl, rfl⟩
  go_wp2_with fail
  go_ret2
  exact .inl ⟨rfl, rfl, by subst hr; (repeat (first | exact Kp.refl _ _ | assumption | refine Kp.drew ?_ | refine Kp.drewN ?_ _ | refine Kp.alloc ?_ _ | (refine Kp.setCell ?_ (by first | (left; simp; done) | (right; simp; try omega)) _) | (refine Kp.trans' ?_ (by assumption) (by simp; try omega))))⟩
set_option maxRecDepth 100000 in
set_option maxHeartbeats 1000000 in
theorem select_other (v : Value) (zs : List Int) (n : Nat) (q : Int) (h1 : 1 ≤ n) (h2 : n ≤ 65535) (g1 : 1 ≤ q) (g2 : q ≤ 256) (w : World) (hz : IsInts .u8 w v zs) (hb : ∀ c ∈ zs, 0 ≤ c ∧ c ≤ 255) (hv : ∀ b, blockOf v = some b → b < w.heap.size)
    (HB1 : Hid (rdB zs 0 false 1 = false)) (hf0 : (rdV zs 0 false 1 == 0) = false) (hf3 : (rdV zs 0 false 1 == 3) = false) : Calls Try.prog 21 #[v, .int .i64 n, .int .i64 q] w (Loaded .i64 none 160 w) := by
  obtain ⟨pa, ca, hva⟩ : ∃ p c, v = .slice p zs.length c := by
    rcases hz with ⟨⟨ad, rfl⟩, rfl⟩ | ⟨g, off, c, rfl, _⟩
    · exact ⟨_, 0, rfl⟩
    · exact ⟨_, c, rfl⟩
  have HB : Hid _ := hb
  have HV : Hid _ := hv
  have HVA : Hid _ := hva
  clear hb hv hva
  go_enter Try.func21, Try.ntmps21
  go_wp2_with fail
  refine (count_yes _ (by omega) (by omega) _).mono ?_; rintro e w' ⟨rfl, rfl⟩
  go_wp2_with fail
  refine (new_calls v pa zs.length ca HVA.out _).mono ?_; rintro e w1 ⟨rfl, hw1⟩
  have hr1 : Rdr w1 w.heap.size v (0 : Nat) false := by subst hw1; exact heap_alloc_new w _
  have hk1 : Kp [] w w1 := by subst hw1; (repeat (first | exact Kp.refl _ _ | assumption | refine Kp.drew ?_ | refine Kp.drewN ?_ _ | refine Kp.alloc ?_ _ | (refine Kp.setCell ?_ (by first | (left; simp; done) | (right; simp; try omega)) _) | (refine Kp.trans' ?_ (by assumption) (by simp; try omega))))
  have hne : blockOf v ≠ some w.heap.size := fun e => by have := HV.out _ e; omega
  have hsz : w.heap.size < w1.heap.size := by subst hw1; simp
  clear hw1
  have hz1 := hz.kp hk1 (by simp)
  clear hz
  generalize hr : w.heap.size = r at *
  go_wp2_with fail
  refine (u8_calls r v zs 0 false _ hr1 hz1 HB.out hne (by omega)).mono ?_; rintro e w2 ⟨rfl, hr2, hk2⟩
  rw [HB1.out] at hr2
  have hz2 := hz1.kp hk2 (by intro s hs; simp at hs; subst hs; exact hne)
  have hkl := rdK_le zs 0 false 1 (Nat.zero_le _)
  have hs2 := hk2.size
  have hv2 : ∀ b, blockOf v = some b → b < w2.heap.size ∧ b ≠ r := fun b hb => by have := HV.out b hb; omega
  have HV2 := Lib.hid hv2
  clear hv2
  generalize rdV zs 0 false 1 = fv at *
  go_wp2_with fail
  refine (done_calls r v _ _ _ hr2).mono ?_; rintro e w' ⟨rfl, rfl⟩
  go_wp2_with fail
  refine (done_calls r v _ _ _ hr2).mono ?_; rintro e w' ⟨rfl, rfl⟩
  go_wp2_with fail
  go_ret2
  exact .inl ⟨rfl, rfl, by subst hr; (repeat (first | exact Kp.refl _ _ | assumption | refine Kp.drew ?_ | refine Kp.drewN ?_ _ | refine Kp.alloc ?_ _ | (refine Kp.setCell ?_ (by first | (left; simp; done) | (right; simp; try omega)) _) | (refine Kp.trans' ?_ (by assumption) (by simp; try omega))))⟩
set_option maxRecDepth 100000 in
set_option maxHeartbeats 1000000 in
theorem select_0 (v : Value) (zs : List Int) (n : Nat) (q : Int) (h1 : 1 ≤ n) (h2 : n ≤ 65535) (g1 : 1 ≤ q) (g2 : q ≤ 256) (w : World) (hz : IsInts .u8 w v zs) (hb : ∀ c ∈ zs, 0 ≤ c ∧ c ≤ 255) (hv : ∀ b, blockOf v = some b → b < w.heap.size)
    (HB1 : Hid (rdB zs 0 false 1 = false)) (HF : Hid (rdV zs 0 false 1 = 0)) : Calls Try.prog 21 #[v, .int .i64 n, .int .i64 q] w (Loaded .i64 (oneGo zs q n [] (rdK zs 0 false 1)) 160 w) := by
  obtain ⟨pa, ca, hva⟩ : ∃ p c, v = .slice p zs.length c := by
    rcases hz with ⟨⟨ad, rfl⟩, rfl⟩ | ⟨g, off, c, rfl, _⟩
    · exact ⟨_, 0, rfl⟩
    · exact ⟨_, c, rfl⟩
  have HB : Hid _ := hb
  have HV : Hid _ := hv
  have HVA : Hid _ := hva
  clear hb hv hva
  go_enter Try.func21, Try.ntmps21
  go_wp2_with fail
  refine (count_yes _ (by omega) (by omega) _).mono ?_; rintro e w' ⟨rfl, rfl⟩
  go_wp2_with fail
  refine (new_calls v pa zs.length ca HVA.out _).mono ?_; rintro e w1 ⟨rfl, hw1⟩
  have hr1 : Rdr w1 w.heap.size v (0 : Nat) false := by subst hw1; exact heap_alloc_new w _
  have hk1 : Kp [] w w1 := by subst hw1; (repeat (first | exact Kp.refl _ _ | assumption | refine Kp.drew ?_ | refine Kp.drewN ?_ _ | refine Kp.alloc ?_ _ | (refine Kp.setCell ?_ (by first | (left; simp; done) | (right; simp; try omega)) _) | (refine Kp.trans' ?_ (by assumption) (by simp; try omega))))
  have hne : blockOf v ≠ some w.heap.size := fun e => by have := HV.out _ e; omega
  have hsz : w.heap.size < w1.heap.size := by subst hw1; simp
  clear hw1
  have hz1 := hz.kp hk1 (by simp)
  clear hz
  generalize hr : w.heap.size = r at *
  go_wp2_with fail
  refine (u8_calls r v zs 0 false _ hr1 hz1 HB.out hne (by omega)).mono ?_; rintro e w2 ⟨rfl, hr2, hk2⟩
  rw [HB1.out] at hr2
  have hz2 := hz1.kp hk2 (by intro s hs; simp at hs; subst hs; exact hne)
  have hkl := rdK_le zs 0 false 1 (Nat.zero_le _)
  have hs2 := hk2.size
  have hv2 : ∀ b, blockOf v = some b → b < w2.heap.size ∧ b ≠ r := fun b hb => by have := HV.out b hb; omega
  have HV2 := Lib.hid hv2
  clear hv2
  rw [HF.out]
  generalize rdK zs 0 false 1 = k1 at *
  go_wp2_with fail
  refine (done_calls r v _ _ _ hr2).mono ?_; rintro e w' ⟨rfl, rfl⟩
  go_wp2_with fail
  refine (one_calls r v zs k1 n q h2 _ hr2 hz2 HB.out HV2.out hkl).mono ?_
  rintro e w3 (⟨hR, rfl, hk3⟩ | ⟨l, v9, hR, rfl, hi, hk3, hb9⟩)
  · have HR := Lib.hid hR
    clear hR
    go_wp2_with fail
    go_ret2
    exact .inl ⟨HR.out, rfl, by subst hr; (repeat (first | exact Kp.refl _ _ | assumption | refine Kp.drew ?_ | refine Kp.drewN ?_ _ | refine Kp.alloc ?_ _ | (refine Kp.setCell ?_ (by first | (left; simp; done) | (right; simp; try omega)) _) | (refine Kp.trans' ?_ (by assumption) (by simp; try omega))))⟩
  · have HR := Lib.hid hR
    have HB9 := Lib.hid hb9
    clear hR hb9
    go_wp2_with fail
    go_ret2
    exact .inr ⟨l, v9, HR.out, rfl, hi, by subst hr; (repeat (first | exact Kp.refl _ _ | assumption | refine Kp.drew ?_ | refine Kp.drewN ?_ _ | refine Kp.alloc ?_ _ | (refine Kp.setCell ?_ (by first | (left; simp; done) | (right; simp; try omega)) _) | (refine Kp.trans' ?_ (by assumption) (by simp; try omega)))), fun b hb => by have := HB9.out b hb; omega⟩
set_option maxRecDepth 100000 in
set_option maxHeartbeats 1000000 in
theorem select_3 (v : Value) (zs : List Int) (n : Nat) (q : Int) (h1 : 1 ≤ n) (h2 : n ≤ 65535) (g1 : 1 ≤ q) (g2 : q ≤ 256) (w : World) (hz : IsInts .u8 w v zs) (hb : ∀ c ∈ zs, 0 ≤ c ∧ c ≤ 255) (hv : ∀ b, blockOf v = some b → b < w.heap.size)
    (HB1 : Hid (rdB zs 0 false 1 = false)) (HF : Hid (rdV zs 0 false 1 = 3)) : Calls Try.prog 21 #[v, .int .i64 n, .int .i64 q] w (Loaded .i64 ((partsOf zs n q (rdK zs 0 false 1)).map fun l => spreadL l n) 160 w) := by
  obtain ⟨pa, ca, hva⟩ : ∃ p c, v = .slice p zs.length c := by
    rcases hz with ⟨⟨ad, rfl⟩, rfl⟩ | ⟨g, off, c, rfl, _⟩
    · exact ⟨_, 0, rfl⟩
    · exact ⟨_, c, rfl⟩
  have HB : Hid _ := hb
  have HV : Hid _ := hv
  have HVA : Hid _ := hva
  clear hb hv hva
  go_enter Try.func21, Try.ntmps21
  go_wp2_with fail
  refine (count_yes _ (by omega) (by omega) _).mono ?_; rintro e w' ⟨rfl, rfl⟩
  go_wp2_with fail
  refine (new_calls v pa zs.length ca HVA.out _).mono ?_; rintro e w1 ⟨rfl, hw1⟩
  have hr1 : Rdr w1 w.heap.size v (0 : Nat) false := by subst hw1; exact heap_alloc_new w _
  have hk1 : Kp [] w w1 := by subst hw1; (repeat (first | exact Kp.refl _ _ | assumption | refine Kp.drew ?_ | refine Kp.drewN ?_ _ | refine Kp.alloc ?_ _ | (refine Kp.setCell ?_ (by first | (left; simp; done) | (right; simp; try omega)) _) | (refine Kp.trans' ?_ (by assumption) (by simp; try omega))))
  have hne : blockOf v ≠ some w.heap.size := fun e => by have := HV.out _ e; omega
  have hsz : w.heap.size < w1.heap.size := by subst hw1; simp
  clear hw1
  have hz1 := hz.kp hk1 (by simp)
  clear hz
  generalize hr : w.heap.size = r at *
  go_wp2_with fail
  refine (u8_calls r v zs 0 false _ hr1 hz1 HB.out hne (by omega)).mono ?_; rintro e w2 ⟨rfl, hr2, hk2⟩
  rw [HB1.out] at hr2
  have hz2 := hz1.kp hk2 (by intro s hs; simp at hs; subst hs; exact hne)
  have hkl := rdK_le zs 0 false 1 (Nat.zero_le _)
  have hs2 := hk2.size
  have hv2 : ∀ b, blockOf v = some b → b < w2.heap.size ∧ b ≠ r := fun b hb => by have := HV.out b hb; omega
  have HV2 := Lib.hid hv2
  clear hv2
  rw [HF.out]
  have hcl : ∀ l, partsOf zs n q (rdK zs 0 false 1) = some l → l.length ≤ 65535 := fun l hl => by have := (partsOf_ok zs n q _ l HB.out hl).1.len; omega
  have HCL := Lib.hid hcl
  clear hcl
  generalize hke : rdK zs 0 false 1 = k1 at *
  have HKE := Lib.hid hke
  clear hke
  go_wp2_with fail
  refine (done_calls r v _ _ _ hr2).mono ?_; rintro e w' ⟨rfl, rfl⟩
  go_wp2_with fail
  refine (done_calls r v _ _ _ hr2).mono ?_; rintro e w' ⟨rfl, rfl⟩
  go_wp2_with fail
  have hpc : Calls Try.prog 56 #[.pointer (some ⟨r, 0, none⟩), .int .i64 n, .int .i64 q] w2 (PartsD (partsOf zs n q k1) w2 r) := by
    cases hb0 : rdB zs k1 false 2
    · exact parts_calls r v zs k1 n q h2 h1 _ hr2 hz2 HB.out HV2.out hkl hb0
    · exact parts_bad r v zs k1 n q _ hr2 hz2 HB.out hne hkl hb0
  refine Calls.mono hpc ?_
  clear hpc
  rintro e w3 (⟨hR, v9, rfl, hk3⟩ | ⟨l, v9, hR, rfl, hi, hk3, hb9⟩)
  · have HR := Lib.hid hR
    clear hR
    go_wp2_with fail
    go_ret2
    exact .inl ⟨by rw [HKE.out, HR.out]; rfl, rfl, by subst hr; (repeat (first | exact Kp.refl _ _ | assumption | refine Kp.drew ?_ | refine Kp.drewN ?_ _ | refine Kp.alloc ?_ _ | (refine Kp.setCell ?_ (by first | (left; simp; done) | (right; simp; try omega)) _) | (refine Kp.trans' ?_ (by assumption) (by simp; try omega))))⟩
  · have HR := Lib.hid hR
    have hok := Lib.hid (partsOf_ok zs n q k1 l HB.out hR)
    have HB9 := Lib.hid hb9
    have HLL := Lib.hid (HCL.out l hR)
    clear hR hb9
    go_wp2_with fail
    refine (spread_calls v9 l n q _ hi hok.out.1 hok.out.2 h2 HLL.out).mono ?_
    rintro e w4 ⟨v8, rfl, hi4, hk4, hb8⟩
    have HB8 := Lib.hid hb8
    clear hb8
    go_wp2_with fail
    go_ret2
    exact .inr ⟨_, v8, by rw [HKE.out, HR.out]; rfl, rfl, hi4, by subst hr; (repeat (first | exact Kp.refl _ _ | assumption | refine Kp.drew ?_ | refine Kp.drewN ?_ _ | refine Kp.alloc ?_ _ | (refine Kp.setCell ?_ (by first | (left; simp; done) | (right; simp; try omega)) _) | (refine Kp.trans' ?_ (by assumption) (by simp; try omega)))), fun b hb => by have := HB8.out b hb; have := hk3.size; omega⟩
theorem select_calls (v : Value) (zs : List Int) (n : Nat) (q : Int) (h1 : 1 ≤ n) (h2 : n ≤ 65535) (g1 : 1 ≤ q) (g2 : q ≤ 256) (w : World) (hz : IsInts .u8 w v zs) (hb : ∀ c ∈ zs, 0 ≤ c ∧ c ≤ 255) (hv : ∀ b, blockOf v = some b → b < w.heap.size) :
    Calls Try.prog 21 #[v, .int .i64 n, .int .i64 q] w (Loaded .i64 (csSel zs n q) 160 w) := by
  cases hb1 : rdB zs 0 false 1
  · by_cases h0 : rdV zs 0 false 1 = 0
    · rw [show csSel zs n q = oneGo zs q n [] (rdK zs 0 false 1) by unfold csSel; rw [if_neg (by simp [hb1]), if_pos h0]]
      exact select_0 v zs n q h1 h2 g1 g2 w hz hb hv hb1 h0
    · by_cases h3 : rdV zs 0 false 1 = 3
      · rw [show csSel zs n q = (partsOf zs n q (rdK zs 0 false 1)).map (fun l => spreadL l n) by unfold csSel; rw [if_neg (by simp [hb1]), if_neg h0, if_pos h3]]
        exact select_3 v zs n q h1 h2 g1 g2 w hz hb hv hb1 h3
      · rw [show csSel zs n q = none by unfold csSel; rw [if_neg (by simp [hb1]), if_neg h0, if_neg h3]]
        exact select_other v zs n q h1 h2 g1 g2 w hz hb hv hb1 (beq_eq_false_iff_ne.2 h0) (beq_eq_false_iff_ne.2 h3)
  · rw [show csSel zs n q = none by unfold csSel; rw [if_pos hb1]]
    exact select_bad v zs n q h1 h2 g1 g2 w hz hb hv hb1
end Go.Proofs.Ythmokldmdcjklaa

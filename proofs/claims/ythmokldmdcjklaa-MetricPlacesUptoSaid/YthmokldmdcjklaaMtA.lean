/- metric: fits; the library's IndexFunc, ContainsFunc at metrics. (Written by wip/metric/genmta.py.) -/
import Derived.Test.YthmokldmdcjklaaWireF
import Derived.Test.YthmokldmdcjklaaPair
namespace Go.Proofs.Ythmokldmdcjklaa
open Go.RowKit
set_option linter.unusedVariables false
set_option linter.unusedSimpArgs false
def fitsM (p : Int × Int) : Bool := decide (0 ≤ p.1) && decide (p.1 ≤ 65535) && decide (-32768 ≤ p.2) && decide (p.2 ≤ 32767)
def aggP (p : Int × Int) : Value := .agg #[.int .i64 p.1, .int .i64 p.2]
theorem mcount_yes (n : Int) (h1 : 1 ≤ n) (h2 : n ≤ 65535) (w : World) : Calls Try.prog 64 #[.int .i64 n] w fun e w' => e = .returned (.bool true) ∧ w = w' := by
  go_enter Try.func64, Try.ntmps64
  go_wp2
  go_ret
  exact ⟨by simp, rfl⟩
theorem mcount_no (n : Int) (h1 : n < 1 ∨ 65535 < n) (w : World) : Calls Try.prog 64 #[.int .i64 n] w fun e w' => e = .returned (.bool false) ∧ w = w' := by
  by_cases h : n < 1
  · have h2 : decide (1 ≤ n) = false := by simpa using h
    go_enter Try.func64, Try.ntmps64
    go_wp2
    go_ret
    exact ⟨by simp, rfl⟩
  · go_enter Try.func64, Try.ntmps64
    go_wp2
    go_ret
    exact ⟨by simp; omega, rfl⟩
theorem fits_calls (a b : Int) (w : World) : Calls Try.prog 80 #[.agg #[.int .i64 a, .int .i64 b]] w fun e w' => e = .returned (.bool (fitsM (a, b))) ∧ Kp [] w w' := by
  by_cases h1 : 0 ≤ a
  · by_cases h2 : a ≤ 65535
    · by_cases h3 : -32768 ≤ b
      · have hE : Hid (fitsM (a, b) = decide (b ≤ 32767)) := by unfold Hid fitsM; rw [decide_eq_true h1, decide_eq_true h2, decide_eq_true h3]; rfl
        go_enter Try.func80, Try.ntmps80
        go_wp2
        go_ret
        exact ⟨by rw [hE.out]; first | rfl | simp, by (repeat (first | exact Kp.refl _ _ | assumption | refine Kp.drew ?_ | refine Kp.drewN ?_ _ | refine Kp.alloc ?_ _ | (refine Kp.setCell ?_ (by first | (left; simp; done) | (right; simp; try omega)) _) | (refine Kp.trans' ?_ (by assumption) (by simp; try omega))))⟩
      · have hE : Hid (fitsM (a, b) = false) := by unfold Hid fitsM; rw [decide_eq_false h3]; simp
        have h3' : decide (-32768 ≤ b) = false := decide_eq_false h3
        go_enter Try.func80, Try.ntmps80
        go_wp2
        go_ret
        exact ⟨by rw [hE.out]; first | rfl | simp, by (repeat (first | exact Kp.refl _ _ | assumption | refine Kp.drew ?_ | refine Kp.drewN ?_ _ | refine Kp.alloc ?_ _ | (refine Kp.setCell ?_ (by first | (left; simp; done) | (right; simp; try omega)) _) | (refine Kp.trans' ?_ (by assumption) (by simp; try omega))))⟩
    · have hE : Hid (fitsM (a, b) = false) := by unfold Hid fitsM; rw [decide_eq_false h2]; simp
      have h2' : decide (a ≤ 65535) = false := decide_eq_false h2
      go_enter Try.func80, Try.ntmps80
      go_wp2
      go_ret
      exact ⟨by rw [hE.out]; first | rfl | simp, by (repeat (first | exact Kp.refl _ _ | assumption | refine Kp.drew ?_ | refine Kp.drewN ?_ _ | refine Kp.alloc ?_ _ | (refine Kp.setCell ?_ (by first | (left; simp; done) | (right; simp; try omega)) _) | (refine Kp.trans' ?_ (by assumption) (by simp; try omega))))⟩
  · have hE : Hid (fitsM (a, b) = false) := by unfold Hid fitsM; rw [decide_eq_false h1]; simp
    have h1' : decide (0 ≤ a) = false := decide_eq_false h1
    go_enter Try.func80, Try.ntmps80
    go_wp2
    go_ret
    exact ⟨by rw [hE.out]; first | rfl | simp, by (repeat (first | exact Kp.refl _ _ | assumption | refine Kp.drew ?_ | refine Kp.drewN ?_ _ | refine Kp.alloc ?_ _ | (refine Kp.setCell ?_ (by first | (left; simp; done) | (right; simp; try omega)) _) | (refine Kp.trans' ?_ (by assumption) (by simp; try omega))))⟩
theorem wrongm_calls (p : Int × Int) (w : World) : Calls Try.prog 79 #[aggP p] w fun e w' => e = .returned (.bool (!fitsM p)) ∧ Kp [] w w' := by
  obtain ⟨a, b⟩ := p
  show Calls Try.prog 79 #[.agg #[.int .i64 a, .int .i64 b]] w _
  go_enter Try.func79, Try.ntmps79
  go_wp2_with fail
  refine (fits_calls a b _).mono ?_; rintro e w1 ⟨rfl, hk⟩
  go_wp2_with fail
  go_ret
  exact ⟨rfl, by (repeat (first | exact Kp.refl _ _ | assumption | refine Kp.drew ?_ | refine Kp.drewN ?_ _ | refine Kp.alloc ?_ _ | (refine Kp.setCell ?_ (by first | (left; simp; done) | (right; simp; try omega)) _) | (refine Kp.trans' ?_ (by assumption) (by simp; try omega))))⟩
theorem otherm_calls (p : Int × Int) (b : Nat) (last : Int) (w : World) (h : w.cell? ⟨b, 0, none⟩ = some (.int .i64 last)) : Calls Try.prog 77 #[aggP p, .pointer (some ⟨b, 0, none⟩)] w fun e w' => e = .returned (.bool (p.1 != last)) ∧ Kp [] w w' := by
  obtain ⟨a, c⟩ := p
  show Calls Try.prog 77 #[.agg #[.int .i64 a, .int .i64 c], .pointer (some ⟨b, 0, none⟩)] w _
  have hb : b < w.heap.size := World.block_lt_of_cell? w _ h
  go_enter Try.func77, Try.ntmps77
  go_wp2
  go_ret
  exact ⟨rfl, by (repeat (first | exact Kp.refl _ _ | assumption | refine Kp.drew ?_ | refine Kp.drewN ?_ _ | refine Kp.alloc ?_ _ | (refine Kp.setCell ?_ (by first | (left; simp; done) | (right; simp; try omega)) _) | (refine Kp.trans' ?_ (by assumption) (by simp; try omega))))⟩
/-- The first place whose pair is so, counted from i; -1: there is none. -/
def posFromM (p : Int × Int → Bool) : List (Int × Int) → Nat → Int
  | [], _ => -1
  | a :: l, i => if p a then i else posFromM p l (i + 1)
theorem posFromM_hit (p : Int × Int → Bool) (xs : List (Int × Int)) (j : Nat) (h : j < xs.length) (he : p (xs.getD j (0, 0)) = true) : posFromM p (xs.drop j) j = j := by
  rw [List.drop_eq_getElem_cons h]
  rw [List.getD_eq_getElem?_getD, List.getElem?_eq_getElem h] at he
  exact if_pos he
theorem posFromM_miss (p : Int × Int → Bool) (xs : List (Int × Int)) (j : Nat) (h : j < xs.length) (he : p (xs.getD j (0, 0)) = false) : posFromM p (xs.drop j) j = posFromM p (xs.drop (j + 1)) (j + 1) := by
  rw [List.drop_eq_getElem_cons h]
  rw [List.getD_eq_getElem?_getD, List.getElem?_eq_getElem h] at he
  exact if_neg (by simpa using he)
theorem posFromM_any (p : Int × Int → Bool) : ∀ (l : List (Int × Int)) (i : Nat), decide (0 ≤ posFromM p l i) = l.any p := by
  intro l
  induction l with
  | nil => intro i; rfl
  | cons a l ih =>
    intro i
    unfold posFromM
    cases h : p a
    · simp [h, ih]
    · simp [h]
set_option maxRecDepth 100000 in
theorem indexFuncM0_calls (k : Nat) (hent : ∀ (args : Array Value) (w : World), (callFunc k args).run Try.prog w = .ok (.enter k args) w) (p : Int × Int → Bool) (v : Value) (xs : List (Int × Int)) (w : World) (hv : IsPairs w v xs)
    (hp : ∀ i, i < xs.length → ∀ wr, Kp [] w wr → Calls Try.prog k #[aggP (xs.getD i (0, 0))] wr fun e w' => e = .returned (.bool (p (xs.getD i (0, 0)))) ∧ Kp [] wr w') :
    Calls Try.prog 87 #[v, .func (.func k) #[] #[]] w fun e w' => e = .returned (.int .i64 (posFromM p xs 0)) ∧ Kp [] w w' := by
  have hle := hv.le
  unfold maxLen at hle
  obtain ⟨pa, ca, rfl, hca⟩ : ∃ p c, v = .slice p xs.length c ∧ (0 < xs.length → ∃ g off, p = some ⟨g, off, none⟩ ∧ ∀ i, i < xs.length → w.cell? ⟨g, off + i * 2, none⟩ = some (.int .i64 (xs.getD i (0, 0)).1) ∧ w.cell? ⟨g, off + i * 2 + 1, none⟩ = some (.int .i64 (xs.getD i (0, 0)).2)) := by
    rcases hv.cases with ⟨ad, rfl, rfl⟩ | ⟨g, off, c, rfl, _, _, h⟩
    · exact ⟨_, 0, rfl, fun h => absurd h (by simp)⟩
    · exact ⟨_, c, rfl, fun _ => ⟨g, off, rfl, h⟩⟩
  have Ha : Hid _ := hca
  have HP : Hid _ := hp
  clear hca hv hp
  go_enter Try.func87, Try.ntmps87
  go_wp2_with fail
  go_loopw [5, 8] (fun _ i wr => ∃ j : Nat, j ≤ xs.length ∧ i = .int .i64 j ∧ Hid (posFromM p (xs.drop j) j = posFromM p xs 0) ∧ Kp [] w wr) (fun _ i _ => xs.length - (intOf i).toNat)
  case atStart => exact ⟨0, by omega, rfl, by simp [Hid], Kp.refl _ _⟩
  case round =>
    obtain ⟨j, hj, rfl, hf, hk⟩ := hrel
    by_cases hlt : j < xs.length
    · obtain ⟨g1, o1, rfl, h1⟩ := Ha.out (by omega)
      have c1 := hk.cell (h1 j hlt).1 (by simp)
      have c2 := hk.cell (h1 j hlt).2 (by simp)
      clear h1
      have hcl := Lib.hid (HP.out j hlt wr hk)
      cases he : p (xs.getD j (0, 0))
      · have hr : Hid (posFromM p (xs.drop (j + 1)) (j + 1) = posFromM p xs 0) := by rw [← hf.out]; exact (posFromM_miss p xs j hlt he).symm
        rw [he] at hcl
        clear he
        generalize xs.getD j (0, 0) = z at *
        obtain ⟨z1, z2⟩ := z
        unfold aggP at hcl
        go_wp2_with fail
        refine Calls.mono hcl.out ?_; rintro e w2 ⟨rfl, hk2⟩
        go_wp2_with fail
        go_roundw
        case rel => exact ⟨j + 1, by omega, by go_num, hr, by (repeat (first | exact Kp.refl _ _ | assumption | refine Kp.drew ?_ | refine Kp.drewN ?_ _ | refine Kp.alloc ?_ _ | (refine Kp.setCell ?_ (by first | (left; simp; done) | (right; simp; try omega)) _) | (refine Kp.trans' ?_ (by assumption) (by simp; try omega))))⟩
        case measure => simp [intOf]; omega
      · have hr : Hid (posFromM p xs 0 = j) := by rw [← hf.out]; exact posFromM_hit p xs j hlt he
        rw [he] at hcl
        clear he
        generalize xs.getD j (0, 0) = z at *
        obtain ⟨z1, z2⟩ := z
        unfold aggP at hcl
        go_wp2_with fail
        refine Calls.mono hcl.out ?_; rintro e w2 ⟨rfl, hk2⟩
        go_wp2_with fail
        go_ret
        exact ⟨by rw [hr.out]; simp, by (repeat (first | exact Kp.refl _ _ | assumption | refine Kp.drew ?_ | refine Kp.drewN ?_ _ | refine Kp.alloc ?_ _ | (refine Kp.setCell ?_ (by first | (left; simp; done) | (right; simp; try omega)) _) | (refine Kp.trans' ?_ (by assumption) (by simp; try omega))))⟩
    · obtain rfl : j = xs.length := by omega
      have hr : Hid (posFromM p xs 0 = -1) := by rw [← hf.out, List.drop_length]; rfl
      go_wp2
      go_ret
      exact ⟨by rw [hr.out]; simp, hk⟩
theorem containsFuncM0_calls (k : Nat) (hent : ∀ (args : Array Value) (w : World), (callFunc k args).run Try.prog w = .ok (.enter k args) w) (p : Int × Int → Bool) (v : Value) (xs : List (Int × Int)) (w : World) (hv : IsPairs w v xs)
    (hp : ∀ i, i < xs.length → ∀ wr, Kp [] w wr → Calls Try.prog k #[aggP (xs.getD i (0, 0))] wr fun e w' => e = .returned (.bool (p (xs.getD i (0, 0)))) ∧ Kp [] wr w') :
    Calls Try.prog 78 #[v, .func (.func k) #[] #[]] w fun e w' => e = .returned (.bool (xs.any p)) ∧ Kp [] w w' := by
  have hf := Lib.hid (indexFuncM0_calls k hent p v xs w hv hp)
  have ha := Lib.hid (posFromM_any p xs 0)
  obtain ⟨pa, ca, rfl⟩ := hv.form
  clear hp hv
  go_enter Try.func78, Try.ntmps78
  go_wp2_with fail
  refine Calls.mono hf.out ?_; rintro e w1 ⟨rfl, hk⟩
  have hb := Lib.hid ha.out
  clear hf ha
  generalize posFromM p xs 0 = x at *
  go_wp2_with fail
  go_ret
  exact ⟨by rw [← hb.out]; simp, hk⟩
set_option maxRecDepth 100000 in
theorem indexFuncM1_calls (k : Nat) (hent : ∀ (args : Array Value) (w : World), (callFunc k args).run Try.prog w = .ok (.enter k args) w) (cap : Value) (p : Int × Int → Bool) (v : Value) (xs : List (Int × Int)) (w : World) (hv : IsPairs w v xs)
    (hp : ∀ i, i < xs.length → ∀ wr, Kp [] w wr → Calls Try.prog k #[aggP (xs.getD i (0, 0)), cap] wr fun e w' => e = .returned (.bool (p (xs.getD i (0, 0)))) ∧ Kp [] wr w') :
    Calls Try.prog 87 #[v, .func (.func k) #[] #[cap]] w fun e w' => e = .returned (.int .i64 (posFromM p xs 0)) ∧ Kp [] w w' := by
  have hle := hv.le
  unfold maxLen at hle
  obtain ⟨pa, ca, rfl, hca⟩ : ∃ p c, v = .slice p xs.length c ∧ (0 < xs.length → ∃ g off, p = some ⟨g, off, none⟩ ∧ ∀ i, i < xs.length → w.cell? ⟨g, off + i * 2, none⟩ = some (.int .i64 (xs.getD i (0, 0)).1) ∧ w.cell? ⟨g, off + i * 2 + 1, none⟩ = some (.int .i64 (xs.getD i (0, 0)).2)) := by
    rcases hv.cases with ⟨ad, rfl, rfl⟩ | ⟨g, off, c, rfl, _, _, h⟩
    · exact ⟨_, 0, rfl, fun h => absurd h (by simp)⟩
    · exact ⟨_, c, rfl, fun _ => ⟨g, off, rfl, h⟩⟩
  have Ha : Hid _ := hca
  have HP : Hid _ := hp
  clear hca hv hp
  go_enter Try.func87, Try.ntmps87
  go_wp2_with fail
  go_loopw [5, 8] (fun _ i wr => ∃ j : Nat, j ≤ xs.length ∧ i = .int .i64 j ∧ Hid (posFromM p (xs.drop j) j = posFromM p xs 0) ∧ Kp [] w wr) (fun _ i _ => xs.length - (intOf i).toNat)
  case atStart => exact ⟨0, by omega, rfl, by simp [Hid], Kp.refl _ _⟩
  case round =>
    obtain ⟨j, hj, rfl, hf, hk⟩ := hrel
    by_cases hlt : j < xs.length
    · obtain ⟨g1, o1, rfl, h1⟩ := Ha.out (by omega)
      have c1 := hk.cell (h1 j hlt).1 (by simp)
      have c2 := hk.cell (h1 j hlt).2 (by simp)
      clear h1
      have hcl := Lib.hid (HP.out j hlt wr hk)
      cases he : p (xs.getD j (0, 0))
      · have hr : Hid (posFromM p (xs.drop (j + 1)) (j + 1) = posFromM p xs 0) := by rw [← hf.out]; exact (posFromM_miss p xs j hlt he).symm
        rw [he] at hcl
        clear he
        generalize xs.getD j (0, 0) = z at *
        obtain ⟨z1, z2⟩ := z
        unfold aggP at hcl
        go_wp2_with fail
        refine Calls.mono hcl.out ?_; rintro e w2 ⟨rfl, hk2⟩
        go_wp2_with fail
        go_roundw
        case rel => exact ⟨j + 1, by omega, by go_num, hr, by (repeat (first | exact Kp.refl _ _ | assumption | refine Kp.drew ?_ | refine Kp.drewN ?_ _ | refine Kp.alloc ?_ _ | (refine Kp.setCell ?_ (by first | (left; simp; done) | (right; simp; try omega)) _) | (refine Kp.trans' ?_ (by assumption) (by simp; try omega))))⟩
        case measure => simp [intOf]; omega
      · have hr : Hid (posFromM p xs 0 = j) := by rw [← hf.out]; exact posFromM_hit p xs j hlt he
        rw [he] at hcl
        clear he
        generalize xs.getD j (0, 0) = z at *
        obtain ⟨z1, z2⟩ := z
        unfold aggP at hcl
        go_wp2_with fail
        refine Calls.mono hcl.out ?_; rintro e w2 ⟨rfl, hk2⟩
        go_wp2_with fail
        go_ret
        exact ⟨by rw [hr.out]; simp, by (repeat (first | exact Kp.refl _ _ | assumption | refine Kp.drew ?_ | refine Kp.drewN ?_ _ | refine Kp.alloc ?_ _ | (refine Kp.setCell ?_ (by first | (left; simp; done) | (right; simp; try omega)) _) | (refine Kp.trans' ?_ (by assumption) (by simp; try omega))))⟩
    · obtain rfl : j = xs.length := by omega
      have hr : Hid (posFromM p xs 0 = -1) := by rw [← hf.out, List.drop_length]; rfl
      go_wp2
      go_ret
      exact ⟨by rw [hr.out]; simp, hk⟩
theorem containsFuncM1_calls (k : Nat) (hent : ∀ (args : Array Value) (w : World), (callFunc k args).run Try.prog w = .ok (.enter k args) w) (cap : Value) (p : Int × Int → Bool) (v : Value) (xs : List (Int × Int)) (w : World) (hv : IsPairs w v xs)
    (hp : ∀ i, i < xs.length → ∀ wr, Kp [] w wr → Calls Try.prog k #[aggP (xs.getD i (0, 0)), cap] wr fun e w' => e = .returned (.bool (p (xs.getD i (0, 0)))) ∧ Kp [] wr w') :
    Calls Try.prog 78 #[v, .func (.func k) #[] #[cap]] w fun e w' => e = .returned (.bool (xs.any p)) ∧ Kp [] w w' := by
  have hf := Lib.hid (indexFuncM1_calls k hent cap p v xs w hv hp)
  have ha := Lib.hid (posFromM_any p xs 0)
  obtain ⟨pa, ca, rfl⟩ := hv.form
  clear hp hv
  go_enter Try.func78, Try.ntmps78
  go_wp2_with fail
  refine Calls.mono hf.out ?_; rintro e w1 ⟨rfl, hk⟩
  have hb := Lib.hid ha.out
  clear hf ha
  generalize posFromM p xs 0 = x at *
  go_wp2_with fail
  go_ret
  exact ⟨by rw [← hb.out]; simp, hk⟩
end Go.Proofs.Ythmokldmdcjklaa

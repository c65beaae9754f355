/- stack: flag, the operators of numbers as function values, find. (Written by wip/stack/genstd.py.) -/
import Derived.Test.YtfgpocpfapnkkaaGreatStC
import Derived.Test.YtfgpocpfapnkkaaGreatFixE
namespace Go.Proofs.YtfgpocpfapnkkaaGreat
open Go.RowKit
set_option linter.unusedVariables false
set_option linter.unusedSimpArgs false
def flagQ (b : Bool) : Int := if b then 65536 else 0
theorem flag_calls (b : Bool) (w : World) : Calls Tryz.prog 100 #[.bool b] w fun e w' => e = .returned (.tuple #[.int .i64 (flagQ b), .int .i64 0]) ∧ w = w' := by
  cases b
  all_goals
    go_enter Tryz.func100, Tryz.ntmps100
    go_wp2_with fail
    go_ret2
    exact ⟨rfl, rfl⟩

noncomputable def rtV (x : Int) : Int := if x < 0 then 0 else rootV (x * 65536)
def rtE (x : Int) : Int := if x < 0 then 1 else 0
set_option maxRecDepth 100000 in
theorem root_any (x : Int) (hm : mayB x = true) (w : World) : Calls Tryz.prog 101 #[.int .i64 x] w fun e w' => e = .returned (.tuple #[.int .i64 (rtV x), .int .i64 (rtE x)]) ∧ w = w' := by
  have hb := hm
  simp [mayB] at hb
  by_cases h : x < 0
  · have := root_neg x hm h w
    rw [rtV, rtE, if_pos h, if_pos h]; exact this
  · have := root_calls x (by omega) hb.2 w
    rw [rtV, rtE, if_neg h, if_neg h]; exact this
noncomputable def oneF (op a : Int) : Int × Int := if op = 9 then (max a (-a), 0) else if op = 14 then (-a, 0) else if op = 5 then (flagQ (a == 0), 0) else (rtV a, rtE a)
noncomputable def twoF (op a b : Int) : Int × Int :=
  if op = 10 then (opV (a + b) [a, b], opE (a + b) [a, b]) else if op = 11 then (opV (a - b) [a, b], opE (a - b) [a, b]) else if op = 24 then (opV (nearQ (a * b) 65536) [a, b], opE (nearQ (a * b) 65536) [a, b])
  else if op = 12 then (mdV a 65536 b, mdE a 65536 b) else if op = 3 then (flagQ (a != 0 && b != 0), 0) else if op = 4 then (flagQ (a != 0 || b != 0), 0) else (flagQ (a == b), 0)
/-- A function value that computes such a function of two numbers that may be: with nothing captured, or with a box that holds an operator's number. -/
def NumFn (w : World) (fv : Value) (f : Int → Int → Int × Int) : Prop :=
  ∃ k : Nat, (∀ (args : Array Value) (w : World), (callFunc k args).run Tryz.prog w = .ok (.enter k args) w) ∧
    ((fv = .func (.func k) #[] #[] ∧ ∀ (a b : Int) (w1 : World), mayB a = true → mayB b = true → Calls Tryz.prog k #[.int .i64 a, .int .i64 b] w1 fun e w2 => e = .returned (.tuple #[.int .i64 (f a b).1, .int .i64 (f a b).2]) ∧ Kp [] w1 w2) ∨
     ∃ (B : Nat) (op : Int), fv = .func (.func k) #[] #[.pointer (some ⟨B, 0, none⟩)] ∧ w.cell? ⟨B, 0, none⟩ = some (.int .i64 op) ∧
       ∀ (a b : Int) (w1 : World), mayB a = true → mayB b = true → w1.cell? ⟨B, 0, none⟩ = some (.int .i64 op) → Calls Tryz.prog k #[.int .i64 a, .int .i64 b, .pointer (some ⟨B, 0, none⟩)] w1 fun e w2 => e = .returned (.tuple #[.int .i64 (f a b).1, .int .i64 (f a b).2]) ∧ Kp [] w1 w2)
set_option maxRecDepth 100000 in
set_option maxHeartbeats 2000000 in
theorem single_calls (op a b : Int) (hop : op = 9 ∨ op = 14 ∨ op = 26 ∨ op = 5) (B : Nat) (w : World) (hm : mayB a = true) (hc : w.cell? ⟨B, 0, none⟩ = some (.int .i64 op)) :
    Calls Tryz.prog 99 #[.int .i64 a, .int .i64 b, .pointer (some ⟨B, 0, none⟩)] w fun e w' => e = .returned (.tuple #[.int .i64 (oneF op a).1, .int .i64 (oneF op a).2]) ∧ Kp [] w w' := by
  have hb := hm
  simp [mayB] at hb
  obtain ⟨b1, b2⟩ := hb
  have HM := Lib.hid hm
  clear hm
  rcases hop with rfl | rfl | rfl | rfl
  · have HE : Hid (oneF 9 a = (max a (-a), 0)) := rfl
    go_enter Tryz.func99, Tryz.ntmps99
    go_wp2_with fail
    all_goals go_ret2
    all_goals exact ⟨by rw [HE.out]; first | done | rfl | (congr 3; split <;> omega) | (rw [show max a (-a) = -a by omega]; done) | (rw [show max a (-a) = -a by omega]; rfl) | (rw [show max a (-a) = a by omega]; done) | (rw [show max a (-a) = a by omega]; rfl), by (repeat (first | exact Kp.refl _ _ | assumption | refine Kp.drew ?_ | refine Kp.drewN ?_ _ | refine Kp.alloc ?_ _ | (refine Kp.setCell ?_ (by first | (left; simp; done) | (right; simp; try omega)) _) | (refine Kp.trans' ?_ (by assumption) (by simp; try omega))))⟩
  · have HE : Hid (oneF 14 a = (-a, 0)) := rfl
    go_enter Tryz.func99, Tryz.ntmps99
    go_wp2_with fail
    go_ret2
    exact ⟨by rw [HE.out]; first | done | rfl | simp, by (repeat (first | exact Kp.refl _ _ | assumption | refine Kp.drew ?_ | refine Kp.drewN ?_ _ | refine Kp.alloc ?_ _ | (refine Kp.setCell ?_ (by first | (left; simp; done) | (right; simp; try omega)) _) | (refine Kp.trans' ?_ (by assumption) (by simp; try omega))))⟩
  · have HE : Hid (oneF 26 a = (rtV a, rtE a)) := rfl
    go_enter Tryz.func99, Tryz.ntmps99
    go_wp2_with fail
    refine (root_any a HM.out _).mono ?_; rintro e w1 ⟨rfl, rfl⟩
    go_wp2_with fail
    go_ret2
    exact ⟨by rw [HE.out]; first | done | rfl | simp, by (repeat (first | exact Kp.refl _ _ | assumption | refine Kp.drew ?_ | refine Kp.drewN ?_ _ | refine Kp.alloc ?_ _ | (refine Kp.setCell ?_ (by first | (left; simp; done) | (right; simp; try omega)) _) | (refine Kp.trans' ?_ (by assumption) (by simp; try omega))))⟩
  · have HE : Hid (oneF 5 a = (flagQ (a == 0), 0)) := rfl
    go_enter Tryz.func99, Tryz.ntmps99
    go_wp2_with fail
    refine (flag_calls _ _).mono ?_; rintro e w1 ⟨rfl, rfl⟩
    go_wp2_with fail
    go_ret2
    exact ⟨by rw [HE.out]; first | done | rfl | simp, by (repeat (first | exact Kp.refl _ _ | assumption | refine Kp.drew ?_ | refine Kp.drewN ?_ _ | refine Kp.alloc ?_ _ | (refine Kp.setCell ?_ (by first | (left; simp; done) | (right; simp; try omega)) _) | (refine Kp.trans' ?_ (by assumption) (by simp; try omega))))⟩
set_option maxRecDepth 100000 in
set_option maxHeartbeats 2000000 in
theorem double_calls (op a b : Int) (hop : op = 3 ∨ op = 4 ∨ op = 15) (B : Nat) (w : World) (hc : w.cell? ⟨B, 0, none⟩ = some (.int .i64 op)) :
    Calls Tryz.prog 105 #[.int .i64 a, .int .i64 b, .pointer (some ⟨B, 0, none⟩)] w fun e w' => e = .returned (.tuple #[.int .i64 (twoF op a b).1, .int .i64 (twoF op a b).2]) ∧ Kp [] w w' := by
  rcases hop with rfl | rfl | rfl
  · have HE : Hid (twoF 3 a b = (flagQ (a != 0 && b != 0), 0)) := rfl
    cases ha : (a != 0)
    all_goals
      rw [ha] at HE
      go_enter Tryz.func105, Tryz.ntmps105
      go_wp2_with fail
      refine (flag_calls _ _).mono ?_; rintro e w1 ⟨rfl, rfl⟩
      go_wp2_with fail
      go_ret2
      exact ⟨by rw [HE.out]; first | done | rfl | simp, by (repeat (first | exact Kp.refl _ _ | assumption | refine Kp.drew ?_ | refine Kp.drewN ?_ _ | refine Kp.alloc ?_ _ | (refine Kp.setCell ?_ (by first | (left; simp; done) | (right; simp; try omega)) _) | (refine Kp.trans' ?_ (by assumption) (by simp; try omega))))⟩
  · have HE : Hid (twoF 4 a b = (flagQ (a != 0 || b != 0), 0)) := rfl
    cases ha : (a != 0)
    all_goals
      rw [ha] at HE
      go_enter Tryz.func105, Tryz.ntmps105
      go_wp2_with fail
      refine (flag_calls _ _).mono ?_; rintro e w1 ⟨rfl, rfl⟩
      go_wp2_with fail
      go_ret2
      exact ⟨by rw [HE.out]; first | done | rfl | simp, by (repeat (first | exact Kp.refl _ _ | assumption | refine Kp.drew ?_ | refine Kp.drewN ?_ _ | refine Kp.alloc ?_ _ | (refine Kp.setCell ?_ (by first | (left; simp; done) | (right; simp; try omega)) _) | (refine Kp.trans' ?_ (by assumption) (by simp; try omega))))⟩
  · have HE : Hid (twoF 15 a b = (flagQ (a == b), 0)) := rfl
    go_enter Tryz.func105, Tryz.ntmps105
    go_wp2_with fail
    refine (flag_calls _ _).mono ?_; rintro e w1 ⟨rfl, rfl⟩
    go_wp2_with fail
    go_ret2
    exact ⟨by rw [HE.out]; first | done | rfl | simp, by (repeat (first | exact Kp.refl _ _ | assumption | refine Kp.drew ?_ | refine Kp.drewN ?_ _ | refine Kp.alloc ?_ _ | (refine Kp.setCell ?_ (by first | (left; simp; done) | (right; simp; try omega)) _) | (refine Kp.trans' ?_ (by assumption) (by simp; try omega))))⟩
set_option maxRecDepth 100000 in
theorem single_fn (op : Int) (w : World) : Calls Tryz.prog 90 #[.int .i64 op] w fun e w' => ∃ B, e = .returned (.func (.func 99) #[] #[.pointer (some ⟨B, 0, none⟩)]) ∧ w.heap.size ≤ B ∧ w'.cell? ⟨B, 0, none⟩ = some (.int .i64 op) ∧ Kp [] w w' := by
  go_enter Tryz.func90, Tryz.ntmps90
  go_wp2_with fail
  go_ret
  exact ⟨_, rfl, Nat.le_refl _, box1 (Kp.refl [] _), by (repeat (first | exact Kp.refl _ _ | assumption | refine Kp.drew ?_ | refine Kp.drewN ?_ _ | refine Kp.alloc ?_ _ | (refine Kp.setCell ?_ (by first | (left; simp; done) | (right; simp; try omega)) _) | (refine Kp.trans' ?_ (by assumption) (by simp; try omega))))⟩
set_option maxRecDepth 100000 in
theorem double_fn (op : Int) (hop : op = 3 ∨ op = 4 ∨ op = 15) (w : World) : Calls Tryz.prog 91 #[.int .i64 op] w fun e w' => ∃ B, e = .returned (.func (.func 105) #[] #[.pointer (some ⟨B, 0, none⟩)]) ∧ w.heap.size ≤ B ∧ w'.cell? ⟨B, 0, none⟩ = some (.int .i64 op) ∧ Kp [] w w' := by
  rcases hop with rfl | rfl | rfl
  all_goals
    go_enter Tryz.func91, Tryz.ntmps91
    go_wp2_with fail
    go_ret
    exact ⟨_, rfl, Nat.le_refl _, box1 (Kp.refl [] _), by (repeat (first | exact Kp.refl _ _ | assumption | refine Kp.drew ?_ | refine Kp.drewN ?_ _ | refine Kp.alloc ?_ _ | (refine Kp.setCell ?_ (by first | (left; simp; done) | (right; simp; try omega)) _) | (refine Kp.trans' ?_ (by assumption) (by simp; try omega))))⟩
set_option maxRecDepth 100000 in
theorem double_10 (w : World) : Calls Tryz.prog 91 #[.int .i64 10] w fun e w' => e = .returned (.func (.func 67) #[] #[]) ∧ Kp [] w w' := by
  go_enter Tryz.func91, Tryz.ntmps91
  go_wp2_with fail
  go_ret
  exact ⟨rfl, by (repeat (first | exact Kp.refl _ _ | assumption | refine Kp.drew ?_ | refine Kp.drewN ?_ _ | refine Kp.alloc ?_ _ | (refine Kp.setCell ?_ (by first | (left; simp; done) | (right; simp; try omega)) _) | (refine Kp.trans' ?_ (by assumption) (by simp; try omega))))⟩
theorem numfn_10 (w : World) : NumFn w (.func (.func 67) #[] #[]) (twoF 10) := ⟨_, Tryz.call67, .inl ⟨rfl, fun a b w1 _ _ => (add_calls a b w1).mono fun e w2 ⟨h, k⟩ => ⟨h, Kp.of_below k⟩⟩⟩
set_option maxRecDepth 100000 in
theorem double_11 (w : World) : Calls Tryz.prog 91 #[.int .i64 11] w fun e w' => e = .returned (.func (.func 102) #[] #[]) ∧ Kp [] w w' := by
  go_enter Tryz.func91, Tryz.ntmps91
  go_wp2_with fail
  go_ret
  exact ⟨rfl, by (repeat (first | exact Kp.refl _ _ | assumption | refine Kp.drew ?_ | refine Kp.drewN ?_ _ | refine Kp.alloc ?_ _ | (refine Kp.setCell ?_ (by first | (left; simp; done) | (right; simp; try omega)) _) | (refine Kp.trans' ?_ (by assumption) (by simp; try omega))))⟩
theorem numfn_11 (w : World) : NumFn w (.func (.func 102) #[] #[]) (twoF 11) := ⟨_, Tryz.call102, .inl ⟨rfl, fun a b w1 _ _ => (sub_calls a b w1).mono fun e w2 ⟨h, k⟩ => ⟨h, Kp.of_below k⟩⟩⟩
set_option maxRecDepth 100000 in
theorem double_24 (w : World) : Calls Tryz.prog 91 #[.int .i64 24] w fun e w' => e = .returned (.func (.func 103) #[] #[]) ∧ Kp [] w w' := by
  go_enter Tryz.func91, Tryz.ntmps91
  go_wp2_with fail
  go_ret
  exact ⟨rfl, by (repeat (first | exact Kp.refl _ _ | assumption | refine Kp.drew ?_ | refine Kp.drewN ?_ _ | refine Kp.alloc ?_ _ | (refine Kp.setCell ?_ (by first | (left; simp; done) | (right; simp; try omega)) _) | (refine Kp.trans' ?_ (by assumption) (by simp; try omega))))⟩
theorem numfn_24 (w : World) : NumFn w (.func (.func 103) #[] #[]) (twoF 24) := ⟨_, Tryz.call103, .inl ⟨rfl, fun a b w1 _ _ => (mul_calls a b w1).mono fun e w2 ⟨h, k⟩ => ⟨h, Kp.of_below k⟩⟩⟩
set_option maxRecDepth 100000 in
theorem double_12 (w : World) : Calls Tryz.prog 91 #[.int .i64 12] w fun e w' => e = .returned (.func (.func 104) #[] #[]) ∧ Kp [] w w' := by
  go_enter Tryz.func91, Tryz.ntmps91
  go_wp2_with fail
  go_ret
  exact ⟨rfl, by (repeat (first | exact Kp.refl _ _ | assumption | refine Kp.drew ?_ | refine Kp.drewN ?_ _ | refine Kp.alloc ?_ _ | (refine Kp.setCell ?_ (by first | (left; simp; done) | (right; simp; try omega)) _) | (refine Kp.trans' ?_ (by assumption) (by simp; try omega))))⟩
theorem numfn_12 (w : World) : NumFn w (.func (.func 104) #[] #[]) (twoF 12) := ⟨_, Tryz.call104, .inl ⟨rfl, fun a b w1 _ _ => (div_calls a b w1).mono fun e w2 ⟨h, k⟩ => ⟨h, Kp.of_below k⟩⟩⟩
theorem numfn_s (op : Int) (hop : op = 9 ∨ op = 14 ∨ op = 26 ∨ op = 5) (B : Nat) (w : World) (hc : w.cell? ⟨B, 0, none⟩ = some (.int .i64 op)) : NumFn w (.func (.func 99) #[] #[.pointer (some ⟨B, 0, none⟩)]) (fun a _ => oneF op a) :=
  ⟨_, Tryz.call99, .inr ⟨B, op, rfl, hc, fun a b w1 ha _ h1 => single_calls op a b hop B w1 ha h1⟩⟩
theorem numfn_d (op : Int) (hop : op = 3 ∨ op = 4 ∨ op = 15) (B : Nat) (w : World) (hc : w.cell? ⟨B, 0, none⟩ = some (.int .i64 op)) : NumFn w (.func (.func 105) #[] #[.pointer (some ⟨B, 0, none⟩)]) (twoF op) :=
  ⟨_, Tryz.call105, .inr ⟨B, op, rfl, hc, fun a b w1 _ _ h1 => double_calls op a b hop B w1 h1⟩⟩
theorem NumFn.kp {S : List Nat} {w w' : World} {fv : Value} {f : Int → Int → Int × Int} (h : NumFn w fv f) (hk : Kp S w w') (hS : ∀ B g, fv = .func g #[] #[.pointer (some ⟨B, 0, none⟩)] → B ∉ S) : NumFn w' fv f := by
  obtain ⟨k, he, h⟩ := h
  refine ⟨k, he, ?_⟩
  rcases h with h | ⟨B, op, rfl, hc, h⟩
  · exact .inl h
  · exact .inr ⟨B, op, rfl, hk.cell hc (hS B _ rfl), h⟩
end Go.Proofs.YtfgpocpfapnkkaaGreat

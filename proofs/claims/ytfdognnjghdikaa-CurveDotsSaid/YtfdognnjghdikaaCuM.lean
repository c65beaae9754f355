/- curve: the places of a bow, one after the other (the iterator of Dots). -/
import Derived.Test.YtfdognnjghdikaaCuL
import Derived.RangeFuncNested
import Derived.RangeFuncBound
import Derived.RangeFuncCalls
import Derived.RangeFuncLeaves
import Derived.RangeFuncBox
import Derived.RangeFuncFrom
import Derived.Shelf.Abstract
import Derived.WalkKit
import Derived.OwnWalkIn
import Derived.TacticsInMore
import Derived.LoopNIn
import Derived.LoopIn
import Derived.Test.YtfdognnjghdikaaRnd
namespace Go.Proofs.Ytfdognnjghdikaa
open Go.RowKit Go.Shelf
set_option linter.unusedVariables false
set_option linter.unusedSimpArgs false
attribute [local go_sem] Oper.semAt_some
/-- What has come when k rounds are over. -/
def uptoF {α : Type} (f : Nat → α) (k : Nat) : List α := (List.range k).map f
theorem uptoF_succ {α : Type} (f : Nat → α) (k : Nat) : uptoF f (k + 1) = uptoF f k ++ [f k] := by simp [uptoF, List.range_succ]
theorem uptoF_length {α : Type} (f : Nat → α) (k : Nat) : (uptoF f k).length = k := by simp [uptoF]
theorem Kp.grow0 {w w' : World} (h : Kp [] w w') : w.grownBy w' none := ⟨h.os, h.tape, h.output, h.size, fun k hk _ => h.block k hk (by simp)⟩
theorem abides0 {β : Type} {B : Nat} {J : β → World → Prop} (hJ : AbidesFrom B J) {s : β} {w w' : World} (h : J s w) (hk : Kp [] w w') : J s w' := hJ s w w' none h hk.grow0 (by simp)
/-- A bow's block. -/
def BowAt (W : World) (B : Nat) (q : Bw) : Prop := W.heap[B]? = some (.cells #[.int .i64 q.k, .int .i64 q.a.1, .int .i64 q.a.2, .int .i64 q.b.1, .int .i64 q.b.2, .int .i64 q.c.1, .int .i64 q.c.2, .int .i64 q.d.1, .int .i64 q.d.2] 25 (0, 0))
theorem BowAt.below {W W' : World} {n₀ B : Nat} {q : Bw} (h : BowAt W B q) (hb : B < n₀) (hk : Below n₀ W W') : BowAt W' B q := (hk.block B hb).trans h
set_option maxRecDepth 100000 in
set_option maxHeartbeats 4000000 in
/-- The closure of Dots: for every loop body that keeps what lay below n₀. -/
theorem dots1_in (m : Nat) (hm : 1 ≤ m) (l Bc n₀ : Nat) (q : Bw) (M : Nat) (hM : M ≤ 512) (f : Nat → Int × Int)
    (hP : ∀ W, Calls Try.prog 9 #[bowV q] W fun e w' => e = .returned (.int .i64 M) ∧ Kp [] W w')
    (hA : ∀ k, k < M → ∀ W, Calls Try.prog 28 #[bowV q, .int .i64 ((k : Int) + 1), .int .i64 M] W fun e w' => e = .returned (dotV (f k)) ∧ Kp [] W w')
    (hb : Bc < n₀) (J Jx : List (Int × Int) → World → Prop) (W : World) (hn₀ : n₀ ≤ W.heap.size) (hJ : AbidesFrom W.heap.size J)
    (hY : ∀ pre x W, J pre W → pre.length < M → YieldAt Fence.wide (m - 1) Try.prog l #[dotV x] W fun e W' =>
      (e = .returned (.bool true) ∧ J (pre ++ [x]) W' ∧ Below n₀ W W') ∨ (e = .returned (.bool false) ∧ Jx (pre ++ [x]) W'))
    (hB : BowAt W Bc q) (h0 : J [] W) :
    CallsIn Fence.wide m Try.prog 30 #[.func (.yield l) #[] #[], .pointer (some ⟨Bc, 0, none⟩)] W fun e W' => (∃ v, e = .returned v) ∧
      ((∃ ys, ys = uptoF f M ∧ J ys W') ∨ (∃ pre, (∃ k, k ≤ M ∧ pre = uptoF f k) ∧ Jx pre W')) := by
  have HP : Hid (∀ W, Calls Try.prog 9 #[.agg #[.int .i64 q.k, .int .i64 q.a.1, .int .i64 q.a.2, .int .i64 q.b.1, .int .i64 q.b.2, .int .i64 q.c.1, .int .i64 q.c.2, .int .i64 q.d.1, .int .i64 q.d.2]] W fun e w' => e = .returned (.int .i64 M) ∧ Kp [] W w') := hP
  have HA : Hid (∀ k, k < M → ∀ W, Calls Try.prog 28 #[.agg #[.int .i64 q.k, .int .i64 q.a.1, .int .i64 q.a.2, .int .i64 q.b.1, .int .i64 q.b.2, .int .i64 q.c.1, .int .i64 q.c.2, .int .i64 q.d.1, .int .i64 q.d.2], .int .i64 ((k : Int) + 1), .int .i64 M] W fun e w' => e = .returned (.agg #[.int .i64 (f k).1, .int .i64 (f k).2]) ∧ Kp [] W w') := hA
  have HB := Lib.hid hB
  have HJ := Lib.hid hJ
  have HY := Lib.hid hY
  have H0 := Lib.hid h0
  clear hP hA hB hJ hY h0
  obtain ⟨b0, b1, b2, b3, b4, b5, b6, b7, b8⟩ : W.cell? ⟨Bc, 0, none⟩ = some (.int .i64 q.k) ∧ W.cell? ⟨Bc, 1, none⟩ = some (.int .i64 q.a.1) ∧ W.cell? ⟨Bc, 2, none⟩ = some (.int .i64 q.a.2) ∧ W.cell? ⟨Bc, 3, none⟩ = some (.int .i64 q.b.1) ∧ W.cell? ⟨Bc, 4, none⟩ = some (.int .i64 q.b.2) ∧ W.cell? ⟨Bc, 5, none⟩ = some (.int .i64 q.c.1) ∧ W.cell? ⟨Bc, 6, none⟩ = some (.int .i64 q.c.2) ∧ W.cell? ⟨Bc, 7, none⟩ = some (.int .i64 q.d.1) ∧ W.cell? ⟨Bc, 8, none⟩ = some (.int .i64 q.d.2) := by
    refine ⟨?_, ?_, ?_, ?_, ?_, ?_, ?_, ?_, ?_⟩ <;> (rw [cell_of_row W Bc _ _ _ _ HB.out]; rfl)
  refine callsIn_of_wp Try.func30 rfl trivial ?_ rfl
  simp only [Try.ntmps30, List.size_toArray, List.length_cons, List.length_nil, Nat.reduceAdd, Nat.reduceSub, Array.replicate_succ, Array.replicate_zero, List.push_toArray, List.append_toArray, List.nil_append, List.cons_append]
  gi_wp2_with (refine ⟨trivial, ?_⟩; gi_at_call 9; refine (callsIn_wide.2 (HP.out _)).mono ?_; rintro e w1 ⟨rfl, hk1⟩)
  have hJ1 := Lib.hid (abides0 HJ.out H0.out hk1)
  have hW1 : Hid (Below n₀ W w1) := hk1.bel0.mono hn₀
  clear hk1 b0 b1 b2 b3 b4 b5 b6 b7 b8 HP H0
  gi_wp2
  gi_loopw [4, 8] (fun _ i wr => ∃ k : Nat, k ≤ M ∧ i = .int .i64 k ∧ Hid (J (uptoF f k) wr ∧ Below n₀ W wr)) (fun _ i _ => M - (intOf i).toNat)
  case atStart => exact ⟨0, Nat.zero_le _, rfl, hJ1.out, hW1.out⟩
  case round =>
    obtain ⟨k, hk, rfl, HR⟩ := hrel
    clear hJ1 hW1
    by_cases hlt : k < M
    · obtain ⟨b0, b1, b2, b3, b4, b5, b6, b7, b8⟩ : wr.cell? ⟨Bc, 0, none⟩ = some (.int .i64 q.k) ∧ wr.cell? ⟨Bc, 1, none⟩ = some (.int .i64 q.a.1) ∧ wr.cell? ⟨Bc, 2, none⟩ = some (.int .i64 q.a.2) ∧ wr.cell? ⟨Bc, 3, none⟩ = some (.int .i64 q.b.1) ∧ wr.cell? ⟨Bc, 4, none⟩ = some (.int .i64 q.b.2) ∧ wr.cell? ⟨Bc, 5, none⟩ = some (.int .i64 q.c.1) ∧ wr.cell? ⟨Bc, 6, none⟩ = some (.int .i64 q.c.2) ∧ wr.cell? ⟨Bc, 7, none⟩ = some (.int .i64 q.d.1) ∧ wr.cell? ⟨Bc, 8, none⟩ = some (.int .i64 q.d.2) := by
        refine ⟨?_, ?_, ?_, ?_, ?_, ?_, ?_, ?_, ?_⟩ <;> (rw [cell_of_row wr Bc _ _ _ _ (HB.out.below hb HR.out.2)]; rfl)
      have HK := Lib.hid (HA.out k hlt)
      gi_wp2_with (refine ⟨trivial, ?_⟩; gi_at_call 28; refine (callsIn_wide.2 (HK.out _)).mono ?_; rintro e w2 ⟨rfl, hk2⟩)
      have HJ2 := Lib.hid (abides0 HJ.out HR.out.1 hk2)
      have HW2 : Hid (Below n₀ W w2) := HR.out.2.trans (hk2.bel0.mono (Nat.le_trans hn₀ HR.out.2.size))
      obtain ⟨fn, tmps, assign, body, hy, hR⟩ := HY.out _ (f k) w2 HJ2.out (by rw [uptoF_length]; exact hlt)
      rw [show dotV (f k) = .agg #[.int .i64 (f k).1, .int .i64 (f k).2] from rfl] at hy
      clear hk2 b0 b1 b2 b3 b4 b5 b6 b7 b8
      gi_wp2
      rw [hy]
      gi_wp2
      refine hR.mono ?_
      rintro e W3 (⟨rfl, hJ3, hk3⟩ | ⟨rfl, hJx3⟩)
      · have H3 : Hid (J (uptoF f (k + 1)) W3 ∧ Below n₀ W W3) := ⟨by rw [uptoF_succ]; exact hJ3, HW2.out.trans hk3⟩
        clear hJ3 hk3
        gi_wp2
        go_roundw
        case rel => first | exact ⟨k + 1, by omega, by simp, H3⟩ | ((repeat apply Exists.intro); exact ⟨⟨k + 1, by omega, by simp, H3⟩, rfl⟩)
        case measure => simp [intOf]; omega
      · have H3 : Hid (Jx (uptoF f (k + 1)) W3) := by show Jx _ _; rw [uptoF_succ]; exact hJx3
        clear hJx3
        gi_wp2
        refine bodyPost_ret (results_none rfl _ _ _) rfl ?_
        exact ⟨⟨_, rfl⟩, .inr ⟨_, ⟨k + 1, by omega, rfl⟩, H3.out⟩⟩
    · obtain rfl : k = M := by omega
      gi_wp2
      go_end0
      exact ⟨⟨_, rfl⟩, .inl ⟨_, rfl, HR.out.1⟩⟩
theorem uptoF_take {α : Type} (f : Nat → α) {k M : Nat} (hk : k ≤ M) : uptoF f k <+: uptoF f M := by
  obtain ⟨d, rfl⟩ : ∃ d, M = k + d := ⟨M - k, by omega⟩
  unfold uptoF
  rw [List.range_add, List.map_append]
  exact List.prefix_append _ _
/-- Dots hands back a value that goes over these places, or over a beginning of them. -/
theorem dots_stops (m : Nat) (hm : 1 ≤ m) (Bc n₀ : Nat) (q : Bw) (M : Nat) (hM : M ≤ 512) (f : Nat → Int × Int)
    (hP : ∀ W, Calls Try.prog 9 #[bowV q] W fun e w' => e = .returned (.int .i64 M) ∧ Kp [] W w')
    (hA : ∀ k, k < M → ∀ W, Calls Try.prog 28 #[bowV q, .int .i64 ((k : Int) + 1), .int .i64 M] W fun e w' => e = .returned (dotV (f k)) ∧ Kp [] W w')
    (w : World) (hb : Bc < n₀) (hn₀ : n₀ ≤ w.heap.size) (hB : BowAt w Bc q) :
    SeqStopsK Fence.wide m Try.prog 30 #[.pointer (some ⟨Bc, 0, none⟩)] (fun x : Int × Int => #[dotV x]) (Below n₀) (fun ys => ys = uptoF f M) (fun pre => pre <+: uptoF f M) M w := fun l J Jx W hW hJ _ hY h0 => by
  refine (dots1_in m hm l Bc n₀ q M hM f hP hA hb J Jx W (Nat.le_trans hn₀ hW.size) hJ hY (hB.below (by omega) hW) h0).mono ?_
  rintro e W' ⟨he, ⟨ys, rfl, hj⟩ | ⟨pre, ⟨k, hk, rfl⟩, hj⟩⟩
  · exact ⟨he, .inl ⟨_, rfl, hj⟩⟩
  · exact ⟨he, .inr ⟨_, uptoF_take f hk, hj⟩⟩
end Go.Proofs.Ytfdognnjghdikaa

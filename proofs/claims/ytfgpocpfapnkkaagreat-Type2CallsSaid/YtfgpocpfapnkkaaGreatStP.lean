/- stack: Do's contract, whole; IsOp. (Written by wip/stack/genstp.py.) -/
import Derived.Test.YtfgpocpfapnkkaaGreatStO
namespace Go.Proofs.YtfgpocpfapnkkaaGreat
open Go.RowKit
set_option linter.unusedVariables false
set_option linter.unusedSimpArgs false
set_option maxHeartbeats 1000000 in
theorem do_calls (op : Int) (s base : Nat) (vl vd : Value) (l st dr : List Int) (w : World) (h : StS w s base vl l st vd dr) (hl : l.length ≤ 48) (hm : ∀ x ∈ l, mayB x = true) :
    Calls Tryz.prog 54 #[.pointer (some ⟨s, 0, none⟩), .int .i64 op] w (DoPost w s base vl vd (doM op l st dr)) := by
  by_cases hop : isNum op ∨ isMov op
  · by_cases hs : l.length < needM op
    · rw [show doM op l st dr = (170, l, st, dr) by unfold doM; rw [if_neg (fun hh => hop.elim hh.1 hh.2), if_pos hs]]
      rcases hop with hop | hop
      · rcases hop with rfl | rfl | rfl | rfl | rfl | rfl | rfl | rfl | rfl | rfl | rfl
        · exact (do_short 9 1 s base vl vd l st dr w h hs (by decide) ((find_9 w).mono fun e w' ⟨fv, he, ⟨k, _, hc⟩, hk⟩ => ⟨fv, .nilFunc, he, (by rcases hc with ⟨rfl, _⟩ | ⟨B, opx, rfl, _, _⟩; exact ⟨_, _, .inl ⟨rfl, rfl⟩⟩; exact ⟨_, _, .inl ⟨rfl, rfl⟩⟩), hk⟩)).mono fun e w' ⟨he, hk⟩ => by subst he; exact DoPost.same h hk 170
        · exact (do_short 14 1 s base vl vd l st dr w h hs (by decide) ((find_14 w).mono fun e w' ⟨fv, he, ⟨k, _, hc⟩, hk⟩ => ⟨fv, .nilFunc, he, (by rcases hc with ⟨rfl, _⟩ | ⟨B, opx, rfl, _, _⟩; exact ⟨_, _, .inl ⟨rfl, rfl⟩⟩; exact ⟨_, _, .inl ⟨rfl, rfl⟩⟩), hk⟩)).mono fun e w' ⟨he, hk⟩ => by subst he; exact DoPost.same h hk 170
        · exact (do_short 26 1 s base vl vd l st dr w h hs (by decide) ((find_26 w).mono fun e w' ⟨fv, he, ⟨k, _, hc⟩, hk⟩ => ⟨fv, .nilFunc, he, (by rcases hc with ⟨rfl, _⟩ | ⟨B, opx, rfl, _, _⟩; exact ⟨_, _, .inl ⟨rfl, rfl⟩⟩; exact ⟨_, _, .inl ⟨rfl, rfl⟩⟩), hk⟩)).mono fun e w' ⟨he, hk⟩ => by subst he; exact DoPost.same h hk 170
        · exact (do_short 5 1 s base vl vd l st dr w h hs (by decide) ((find_5 w).mono fun e w' ⟨fv, he, ⟨k, _, hc⟩, hk⟩ => ⟨fv, .nilFunc, he, (by rcases hc with ⟨rfl, _⟩ | ⟨B, opx, rfl, _, _⟩; exact ⟨_, _, .inl ⟨rfl, rfl⟩⟩; exact ⟨_, _, .inl ⟨rfl, rfl⟩⟩), hk⟩)).mono fun e w' ⟨he, hk⟩ => by subst he; exact DoPost.same h hk 170
        · exact (do_short 10 2 s base vl vd l st dr w h hs (by decide) ((find_10 w).mono fun e w' ⟨fv, he, ⟨k, _, hc⟩, hk⟩ => ⟨fv, .nilFunc, he, (by rcases hc with ⟨rfl, _⟩ | ⟨B, opx, rfl, _, _⟩; exact ⟨_, _, .inl ⟨rfl, rfl⟩⟩; exact ⟨_, _, .inl ⟨rfl, rfl⟩⟩), hk⟩)).mono fun e w' ⟨he, hk⟩ => by subst he; exact DoPost.same h hk 170
        · exact (do_short 11 2 s base vl vd l st dr w h hs (by decide) ((find_11 w).mono fun e w' ⟨fv, he, ⟨k, _, hc⟩, hk⟩ => ⟨fv, .nilFunc, he, (by rcases hc with ⟨rfl, _⟩ | ⟨B, opx, rfl, _, _⟩; exact ⟨_, _, .inl ⟨rfl, rfl⟩⟩; exact ⟨_, _, .inl ⟨rfl, rfl⟩⟩), hk⟩)).mono fun e w' ⟨he, hk⟩ => by subst he; exact DoPost.same h hk 170
        · exact (do_short 24 2 s base vl vd l st dr w h hs (by decide) ((find_24 w).mono fun e w' ⟨fv, he, ⟨k, _, hc⟩, hk⟩ => ⟨fv, .nilFunc, he, (by rcases hc with ⟨rfl, _⟩ | ⟨B, opx, rfl, _, _⟩; exact ⟨_, _, .inl ⟨rfl, rfl⟩⟩; exact ⟨_, _, .inl ⟨rfl, rfl⟩⟩), hk⟩)).mono fun e w' ⟨he, hk⟩ => by subst he; exact DoPost.same h hk 170
        · exact (do_short 12 2 s base vl vd l st dr w h hs (by decide) ((find_12 w).mono fun e w' ⟨fv, he, ⟨k, _, hc⟩, hk⟩ => ⟨fv, .nilFunc, he, (by rcases hc with ⟨rfl, _⟩ | ⟨B, opx, rfl, _, _⟩; exact ⟨_, _, .inl ⟨rfl, rfl⟩⟩; exact ⟨_, _, .inl ⟨rfl, rfl⟩⟩), hk⟩)).mono fun e w' ⟨he, hk⟩ => by subst he; exact DoPost.same h hk 170
        · exact (do_short 3 2 s base vl vd l st dr w h hs (by decide) ((find_3 w).mono fun e w' ⟨fv, he, ⟨k, _, hc⟩, hk⟩ => ⟨fv, .nilFunc, he, (by rcases hc with ⟨rfl, _⟩ | ⟨B, opx, rfl, _, _⟩; exact ⟨_, _, .inl ⟨rfl, rfl⟩⟩; exact ⟨_, _, .inl ⟨rfl, rfl⟩⟩), hk⟩)).mono fun e w' ⟨he, hk⟩ => by subst he; exact DoPost.same h hk 170
        · exact (do_short 4 2 s base vl vd l st dr w h hs (by decide) ((find_4 w).mono fun e w' ⟨fv, he, ⟨k, _, hc⟩, hk⟩ => ⟨fv, .nilFunc, he, (by rcases hc with ⟨rfl, _⟩ | ⟨B, opx, rfl, _, _⟩; exact ⟨_, _, .inl ⟨rfl, rfl⟩⟩; exact ⟨_, _, .inl ⟨rfl, rfl⟩⟩), hk⟩)).mono fun e w' ⟨he, hk⟩ => by subst he; exact DoPost.same h hk 170
        · exact (do_short 15 2 s base vl vd l st dr w h hs (by decide) ((find_15 w).mono fun e w' ⟨fv, he, ⟨k, _, hc⟩, hk⟩ => ⟨fv, .nilFunc, he, (by rcases hc with ⟨rfl, _⟩ | ⟨B, opx, rfl, _, _⟩; exact ⟨_, _, .inl ⟨rfl, rfl⟩⟩; exact ⟨_, _, .inl ⟨rfl, rfl⟩⟩), hk⟩)).mono fun e w' ⟨he, hk⟩ => by subst he; exact DoPost.same h hk 170
      · rcases hop with rfl | rfl | rfl | rfl | rfl | rfl | rfl | rfl | rfl
        · exact (do_short 18 1 s base vl vd l st dr w h hs (by decide) ((find_18 w).mono fun e w' ⟨he, hk⟩ => ⟨_, _, he, ⟨_, _, .inr ⟨rfl, rfl⟩⟩, hk⟩)).mono fun e w' ⟨he, hk⟩ => by subst he; exact DoPost.same h hk 170
        · exact (do_short 27 1 s base vl vd l st dr w h hs (by decide) ((find_27 w).mono fun e w' ⟨he, hk⟩ => ⟨_, _, he, ⟨_, _, .inr ⟨rfl, rfl⟩⟩, hk⟩)).mono fun e w' ⟨he, hk⟩ => by subst he; exact DoPost.same h hk 170
        · exact (do_short 29 1 s base vl vd l st dr w h hs (by decide) ((find_29 w).mono fun e w' ⟨he, hk⟩ => ⟨_, _, he, ⟨_, _, .inr ⟨rfl, rfl⟩⟩, hk⟩)).mono fun e w' ⟨he, hk⟩ => by subst he; exact DoPost.same h hk 170
        · exact (do_short 21 1 s base vl vd l st dr w h hs (by decide) ((find_21 w).mono fun e w' ⟨he, hk⟩ => ⟨_, _, he, ⟨_, _, .inr ⟨rfl, rfl⟩⟩, hk⟩)).mono fun e w' ⟨he, hk⟩ => by subst he; exact DoPost.same h hk 170
        · exact (do_short 28 2 s base vl vd l st dr w h hs (by decide) ((find_28 w).mono fun e w' ⟨he, hk⟩ => ⟨_, _, he, ⟨_, _, .inr ⟨rfl, rfl⟩⟩, hk⟩)).mono fun e w' ⟨he, hk⟩ => by subst he; exact DoPost.same h hk 170
        · exact (do_short 30 2 s base vl vd l st dr w h hs (by decide) ((find_30 w).mono fun e w' ⟨he, hk⟩ => ⟨_, _, he, ⟨_, _, .inr ⟨rfl, rfl⟩⟩, hk⟩)).mono fun e w' ⟨he, hk⟩ => by subst he; exact DoPost.same h hk 170
        · exact (do_short 20 2 s base vl vd l st dr w h hs (by decide) ((find_20 w).mono fun e w' ⟨he, hk⟩ => ⟨_, _, he, ⟨_, _, .inr ⟨rfl, rfl⟩⟩, hk⟩)).mono fun e w' ⟨he, hk⟩ => by subst he; exact DoPost.same h hk 170
        · exact (do_short 22 4 s base vl vd l st dr w h hs (by decide) ((find_22 w).mono fun e w' ⟨he, hk⟩ => ⟨_, _, he, ⟨_, _, .inr ⟨rfl, rfl⟩⟩, hk⟩)).mono fun e w' ⟨he, hk⟩ => by subst he; exact DoPost.same h hk 170
        · exact (do_short 23 0 s base vl vd l st dr w h hs (by decide) ((find_23 w).mono fun e w' ⟨he, hk⟩ => ⟨_, _, he, ⟨_, _, .inr ⟨rfl, rfl⟩⟩, hk⟩)).mono fun e w' ⟨he, hk⟩ => by subst he; exact DoPost.same h hk 170
    · have hn : needM op ≤ l.length := by omega
      rcases hop with hop | hop
      · rcases hop with rfl | rfl | rfl | rfl | rfl | rfl | rfl | rfl | rfl | rfl | rfl
        · exact dop_9 s base vl vd l st dr w h hl hm hn
        · exact dop_14 s base vl vd l st dr w h hl hm hn
        · exact dop_26 s base vl vd l st dr w h hl hm hn
        · exact dop_5 s base vl vd l st dr w h hl hm hn
        · exact dop_10 s base vl vd l st dr w h hl hm hn
        · exact dop_11 s base vl vd l st dr w h hl hm hn
        · exact dop_24 s base vl vd l st dr w h hl hm hn
        · exact dop_12 s base vl vd l st dr w h hl hm hn
        · exact dop_3 s base vl vd l st dr w h hl hm hn
        · exact dop_4 s base vl vd l st dr w h hl hm hn
        · exact dop_15 s base vl vd l st dr w h hl hm hn
      · rcases hop with rfl | rfl | rfl | rfl | rfl | rfl | rfl | rfl | rfl
        · exact dop_18 s base vl vd l st dr w h hl hm hn
        · exact dop_27 s base vl vd l st dr w h hl hm hn
        · exact dop_29 s base vl vd l st dr w h hl hm hn
        · exact dop_21 s base vl vd l st dr w h hl hm hn
        · exact dop_28 s base vl vd l st dr w h hl hm hn
        · exact dop_30 s base vl vd l st dr w h hl hm hn
        · exact dop_20 s base vl vd l st dr w h hl hm hn
        · exact dop_22 s base vl vd l st dr w h hl hm hn
        · exact dop_23 s base vl vd l st dr w h hl
  · have h1 : ¬ isNum op := fun x => hop (.inl x)
    have h2 : ¬ isMov op := fun x => hop (.inr x)
    rw [show doM op l st dr = (1, l, st, dr) by unfold doM; rw [if_pos ⟨h1, h2⟩]]
    exact (do_none op ⟨s, 0, none⟩ w (find_no op h1 h2 w)).mono fun e w' ⟨he, hk⟩ => by subst he; exact DoPost.same h hk 1
set_option maxRecDepth 100000 in
theorem isop_of (op k : Int) (b : Bool) (w : World)
    (hf : Calls Tryz.prog 64 #[.int .i64 op] w fun e w' => ∃ f d, e = .returned (.tuple #[.agg #[.int .i64 op, .int .i64 k, f, d], .bool b]) ∧ (∃ a cs, (f = .func a #[] cs ∧ d = .nilFunc) ∨ (f = .nilFunc ∧ d = .func a #[] cs) ∨ (f = .nilFunc ∧ d = .nilFunc)) ∧ Kp [] w w') :
    Calls Tryz.prog 53 #[.int .i64 op] w fun e w' => e = .returned (.bool b) ∧ Kp [] w w' := by
  have HF := Lib.hid hf
  clear hf
  go_enter Tryz.func53, Tryz.ntmps53
  go_wp2_with fail
  refine HF.out.mono ?_; rintro e w1 ⟨f, d, rfl, ⟨a, cs, hfd⟩, hk1⟩
  rcases hfd with ⟨rfl, rfl⟩ | ⟨rfl, rfl⟩ | ⟨rfl, rfl⟩
  · go_wp2_with fail
    go_ret
    exact ⟨rfl, by (repeat (first | exact Kp.refl _ _ | assumption | refine Kp.drew ?_ | refine Kp.drewN ?_ _ | refine Kp.alloc ?_ _ | (refine Kp.setCell ?_ (by first | (left; simp; done) | (right; simp; try omega)) _) | (refine Kp.trans' ?_ (by assumption) (by simp; try omega))))⟩
  · go_wp2_with fail
    go_ret
    exact ⟨rfl, by (repeat (first | exact Kp.refl _ _ | assumption | refine Kp.drew ?_ | refine Kp.drewN ?_ _ | refine Kp.alloc ?_ _ | (refine Kp.setCell ?_ (by first | (left; simp; done) | (right; simp; try omega)) _) | (refine Kp.trans' ?_ (by assumption) (by simp; try omega))))⟩
  · go_wp2_with fail
    go_ret
    exact ⟨rfl, by (repeat (first | exact Kp.refl _ _ | assumption | refine Kp.drew ?_ | refine Kp.drewN ?_ _ | refine Kp.alloc ?_ _ | (refine Kp.setCell ?_ (by first | (left; simp; done) | (right; simp; try omega)) _) | (refine Kp.trans' ?_ (by assumption) (by simp; try omega))))⟩
end Go.Proofs.YtfgpocpfapnkkaaGreat

/- stack: Do, at the operator that needs no number. (Written by wip/stack/genstj.py.) -/
import Derived.Test.YtfgpocpfapnkkaaGreatStJ
namespace Go.Proofs.YtfgpocpfapnkkaaGreat
open Go.RowKit
set_option linter.unusedVariables false
set_option linter.unusedSimpArgs false
set_option maxRecDepth 100000 in
set_option maxHeartbeats 4000000 in
theorem do_mov0_ok (op : Int) (k : Nat) (hent : ∀ (args : Array Value) (w : World), (callFunc k args).run Tryz.prog w = .ok (.enter k args) w)
    (s base : Nat) (g c : Nat) (vd : Value) (lo st dr : List Int) (l' st' dr' : List Int) (hl' : l'.length ≤ 48) (hlc : lo.length < c) (hcm : c ≤ maxLen) (w : World) (h : StS w s base (.slice (some ⟨g, 0, none⟩) lo.length c) lo st vd dr) (hl : lo.length ≤ 48)
    (hf : Calls Tryz.prog 64 #[.int .i64 op] w fun e w' => e = .returned (.tuple #[.agg #[.int .i64 op, .int .i64 0, .nilFunc, .func (.func k) #[] #[]], .bool true]) ∧ Kp [] w w')
    (hc : ∀ w1 : World, Kp [] w w1 → Calls Tryz.prog k #[.pointer (some ⟨s, 0, none⟩), .slice (some ⟨g, 0, none⟩) lo.length lo.length, .slice (some ⟨g, lo.length, none⟩) 0 (c - lo.length)] w1 fun e w2 => ∃ v' vd', e = .returned (.tuple #[v', .int .i64 0]) ∧ OwnC w2 base 3 v' l' ∧ v'.ownBlock ≠ some s ∧ (∀ b, blockOf vd' = some b → v'.ownBlock ≠ some b) ∧ (∀ b, v'.ownBlock = some b → (.slice (some ⟨g, 0, none⟩) lo.length c : Value).ownBlock = some b ∨ w.heap.size ≤ b) ∧ StS w2 s base (.slice (some ⟨g, 0, none⟩) lo.length c) lo st' vd' dr' ∧ Kp [s] w1 w2 ∧ KV vd vd') :
    Calls Tryz.prog 54 #[.pointer (some ⟨s, 0, none⟩), .int .i64 op] w fun e w' => e = .returned (.int .i64 0) ∧ ∃ vl' vd', StS w' s base vl' l' st' vd' dr' ∧ StK w w' s (.slice (some ⟨g, 0, none⟩) lo.length c) vl' ∧ KV vd vd' := by
  have HF := Lib.hid hf
  have HC := Lib.hid hc
  have c0 := h.cell0
  have hw9 : IntKind.i64.wrap ((lo.length : Int) + 0 - 0) = lo.length := by rw [IntKind.wrap_i64]; omega
  have hw8 : IntKind.i64.wrap ((lo.length : Int) - 0) = lo.length := by rw [IntKind.wrap_i64]; omega
  have hd9 : decide ((lo.length : Int) + 0 < 0) = false := decide_eq_false (by omega)
  have hd8 : decide ((lo.length : Int) < 0) = false := decide_eq_false (by omega)
  have hli : (lo.length : Int) ≤ c := by omega
  have hn0 : (lo.length : Int) + 0 ≤ c := by omega
  unfold maxLen at hcm
  clear h hf hc
  go_enter Tryz.func54, Tryz.ntmps54
  go_wp2_with fail
  refine HF.out.mono ?_; rintro e w1 ⟨rfl, hk1⟩
  have hka : Kp [] w (w1.alloc (.cells #[.int .i64 op, .int .i64 0, .nilFunc, .func (.func k) #[] #[]] 93)) := hk1.alloc _
  obtain ⟨b0, b1, b2, b3⟩ := box4s (Kp.refl [] (w1.alloc (.cells #[.int .i64 op, .int .i64 0, .nilFunc, .func (.func k) #[] #[]] 93)))
  have d0 := hka.cell c0 (by simp)
  go_wp2_with fail
  generalize w1.alloc (.cells #[.int .i64 op, .int .i64 0, .nilFunc, .func (.func k) #[] #[]] 93) = WB at *
  generalize w1.heap.size = BX at *
  have qb0 := KW.cell b0
  have qb1 := KW.cell b1
  have qb2 := KW.cell b2
  have qb3 := KW.cell b3
  have qd0 := KW.cell d0
  refine wp_region_kq (by kernel_rfl) (by kernel_rfl) ?_
  repeat (go_big_quiet_step (fail))
  refine wpQuiet_nil ?_
  intro v1 hw'
  obtain ⟨⟨_, hkv1⟩, rfl⟩ := hw'
  clear qb0 qb1 qb2 qb3 qd0
  have b0 := hkv1.cell b0 (by simp)
  have b1 := hkv1.cell b1 (by simp)
  have b2 := hkv1.cell b2 (by simp)
  have b3 := hkv1.cell b3 (by simp)
  have d0 := hkv1.cell d0 (by simp)
  have hka := hka.trans hkv1
  clear hkv1
  go_wp2_with fail
  have qb0 := KW.cell b0
  have qb1 := KW.cell b1
  have qb2 := KW.cell b2
  have qb3 := KW.cell b3
  have qd0 := KW.cell d0
  refine wp_region_kq (by kernel_rfl) (by kernel_rfl) ?_
  repeat (go_big_quiet_step (fail))
  refine wpQuiet_nil ?_
  intro v2 hw'
  obtain ⟨⟨_, hkv2⟩, rfl⟩ := hw'
  clear qb0 qb1 qb2 qb3 qd0
  have b0 := hkv2.cell b0 (by simp)
  have b1 := hkv2.cell b1 (by simp)
  have b2 := hkv2.cell b2 (by simp)
  have b3 := hkv2.cell b3 (by simp)
  have d0 := hkv2.cell d0 (by simp)
  have hka := hka.trans hkv2
  clear hkv2
  go_wp2_with fail
  have qb0 := KW.cell b0
  have qb1 := KW.cell b1
  have qb2 := KW.cell b2
  have qb3 := KW.cell b3
  have qd0 := KW.cell d0
  refine wp_region_kq (by kernel_rfl) (by kernel_rfl) ?_
  repeat (go_big_quiet_step ((go_at_call 65; exact Calls.kq0 (clip_calls (some ⟨g, 0, none⟩) lo.length c (fun h => by cases h) (by omega) (by unfold maxLen; omega) _))))
  refine wpQuiet_nil ?_
  intro v3 hw'
  obtain ⟨⟨_, hkv3⟩, rfl⟩ := hw'
  clear qb0 qb1 qb2 qb3 qd0
  have b0 := hkv3.cell b0 (by simp)
  have b1 := hkv3.cell b1 (by simp)
  have b2 := hkv3.cell b2 (by simp)
  have b3 := hkv3.cell b3 (by simp)
  have d0 := hkv3.cell d0 (by simp)
  have hka := hka.trans hkv3
  clear hkv3
  go_wp2_with fail
  rw [neq_nil]
  go_wp2_with fail
  refine (HC.out _ hka).mono ?_; rintro e w2 ⟨v', vd', rfl, ho, hn1, hn2, hn3, hs2, hk2, hkv⟩
  obtain ⟨p', c', rfl⟩ := ho.form
  have hs3 := StS.put hs2.1 hs2.2.1 hs2.2.2.1 ho hn1 hs2.2.2.2.2.2.1 (fun b hb => by obtain ⟨x1, x2, x3, x4⟩ := hs2.2.2.2.2.2.2 b hb; exact ⟨x1, hn2 b hb, x3, x4⟩)
  have hk3 : StK w (w2.setCell ⟨s, 0, none⟩ (.slice p' l'.length c')) s (.slice (some ⟨g, 0, none⟩) lo.length c) (.slice p' l'.length c') := ⟨((hka.more (T := s :: (.slice (some ⟨g, 0, none⟩) lo.length c : Value).ownBlock.toList) (fun t ht => nomatch ht)).trans (hk2.more (fun t ht => by simp at ht; subst ht; exact .inl (by simp)))).setCell (.inl (by simp)) _, hn3⟩
  have hfin := Lib.hid (And.intro hs3 (And.intro hk3 hkv))
  have c9 := hs2.cell0
  have f9 := hs2.frozen 0
  have hd7 : decide ((48 : Int) < (l'.length : Int)) = false := decide_eq_false (by omega)
  clear ho hn1 hn2 hn3 hs2 hk2 hs3 hk3 hkv
  go_wp2_with fail
  go_ret
  exact ⟨rfl, _, _, hfin.out⟩

set_option maxRecDepth 100000 in
set_option maxHeartbeats 4000000 in
theorem do_mov0_err (op : Int) (k : Nat) (hent : ∀ (args : Array Value) (w : World), (callFunc k args).run Tryz.prog w = .ok (.enter k args) w)
    (s base : Nat) (g c : Nat) (vd : Value) (lo st dr : List Int) (hlc : lo.length < c) (hcm : c ≤ maxLen) (w : World) (h : StS w s base (.slice (some ⟨g, 0, none⟩) lo.length c) lo st vd dr) (hl : lo.length ≤ 48)
    (hf : Calls Tryz.prog 64 #[.int .i64 op] w fun e w' => e = .returned (.tuple #[.agg #[.int .i64 op, .int .i64 0, .nilFunc, .func (.func k) #[] #[]], .bool true]) ∧ Kp [] w w')
    (hc : ∀ w1 : World, Kp [] w w1 → Calls Tryz.prog k #[.pointer (some ⟨s, 0, none⟩), .slice (some ⟨g, 0, none⟩) lo.length lo.length, .slice (some ⟨g, lo.length, none⟩) 0 (c - lo.length)] w1 fun e w2 => ∃ er, er ≠ 0 ∧ e = .returned (.tuple #[.slice none 0 0, .int .i64 er]) ∧ er = 170 ∧ Kp [] w1 w2) :
    Calls Tryz.prog 54 #[.pointer (some ⟨s, 0, none⟩), .int .i64 op] w fun e w' => e = .returned (.int .i64 170) ∧ Kp [] w w' := by
  have HF := Lib.hid hf
  have HC := Lib.hid hc
  have c0 := h.cell0
  have hw9 : IntKind.i64.wrap ((lo.length : Int) + 0 - 0) = lo.length := by rw [IntKind.wrap_i64]; omega
  have hw8 : IntKind.i64.wrap ((lo.length : Int) - 0) = lo.length := by rw [IntKind.wrap_i64]; omega
  have hd9 : decide ((lo.length : Int) + 0 < 0) = false := decide_eq_false (by omega)
  have hd8 : decide ((lo.length : Int) < 0) = false := decide_eq_false (by omega)
  have hli : (lo.length : Int) ≤ c := by omega
  have hn0 : (lo.length : Int) + 0 ≤ c := by omega
  unfold maxLen at hcm
  clear h hf hc
  go_enter Tryz.func54, Tryz.ntmps54
  go_wp2_with fail
  refine HF.out.mono ?_; rintro e w1 ⟨rfl, hk1⟩
  have hka : Kp [] w (w1.alloc (.cells #[.int .i64 op, .int .i64 0, .nilFunc, .func (.func k) #[] #[]] 93)) := hk1.alloc _
  obtain ⟨b0, b1, b2, b3⟩ := box4s (Kp.refl [] (w1.alloc (.cells #[.int .i64 op, .int .i64 0, .nilFunc, .func (.func k) #[] #[]] 93)))
  have d0 := hka.cell c0 (by simp)
  go_wp2_with fail
  generalize w1.alloc (.cells #[.int .i64 op, .int .i64 0, .nilFunc, .func (.func k) #[] #[]] 93) = WB at *
  generalize w1.heap.size = BX at *
  have qb0 := KW.cell b0
  have qb1 := KW.cell b1
  have qb2 := KW.cell b2
  have qb3 := KW.cell b3
  have qd0 := KW.cell d0
  refine wp_region_kq (by kernel_rfl) (by kernel_rfl) ?_
  repeat (go_big_quiet_step (fail))
  refine wpQuiet_nil ?_
  intro v1 hw'
  obtain ⟨⟨_, hkv1⟩, rfl⟩ := hw'
  clear qb0 qb1 qb2 qb3 qd0
  have b0 := hkv1.cell b0 (by simp)
  have b1 := hkv1.cell b1 (by simp)
  have b2 := hkv1.cell b2 (by simp)
  have b3 := hkv1.cell b3 (by simp)
  have d0 := hkv1.cell d0 (by simp)
  have hka := hka.trans hkv1
  clear hkv1
  go_wp2_with fail
  have qb0 := KW.cell b0
  have qb1 := KW.cell b1
  have qb2 := KW.cell b2
  have qb3 := KW.cell b3
  have qd0 := KW.cell d0
  refine wp_region_kq (by kernel_rfl) (by kernel_rfl) ?_
  repeat (go_big_quiet_step (fail))
  refine wpQuiet_nil ?_
  intro v2 hw'
  obtain ⟨⟨_, hkv2⟩, rfl⟩ := hw'
  clear qb0 qb1 qb2 qb3 qd0
  have b0 := hkv2.cell b0 (by simp)
  have b1 := hkv2.cell b1 (by simp)
  have b2 := hkv2.cell b2 (by simp)
  have b3 := hkv2.cell b3 (by simp)
  have d0 := hkv2.cell d0 (by simp)
  have hka := hka.trans hkv2
  clear hkv2
  go_wp2_with fail
  have qb0 := KW.cell b0
  have qb1 := KW.cell b1
  have qb2 := KW.cell b2
  have qb3 := KW.cell b3
  have qd0 := KW.cell d0
  refine wp_region_kq (by kernel_rfl) (by kernel_rfl) ?_
  repeat (go_big_quiet_step ((go_at_call 65; exact Calls.kq0 (clip_calls (some ⟨g, 0, none⟩) lo.length c (fun h => by cases h) (by omega) (by unfold maxLen; omega) _))))
  refine wpQuiet_nil ?_
  intro v3 hw'
  obtain ⟨⟨_, hkv3⟩, rfl⟩ := hw'
  clear qb0 qb1 qb2 qb3 qd0
  have b0 := hkv3.cell b0 (by simp)
  have b1 := hkv3.cell b1 (by simp)
  have b2 := hkv3.cell b2 (by simp)
  have b3 := hkv3.cell b3 (by simp)
  have d0 := hkv3.cell d0 (by simp)
  have hka := hka.trans hkv3
  clear hkv3
  go_wp2_with fail
  rw [neq_nil]
  go_wp2_with fail
  refine (HC.out _ hka).mono ?_; rintro e w2 ⟨er, he, rfl, rfl, hk2⟩
  go_wp2_with fail
  go_ret
  exact ⟨rfl, hka.trans hk2⟩

set_option maxRecDepth 100000 in
set_option maxHeartbeats 4000000 in
theorem do_mov0full_ok (op : Int) (k : Nat) (hent : ∀ (args : Array Value) (w : World), (callFunc k args).run Tryz.prog w = .ok (.enter k args) w)
    (s base : Nat) (g : Nat) (vd : Value) (lo st dr : List Int) (l' st' dr' : List Int) (hl' : l'.length ≤ 48) (hcm : lo.length ≤ maxLen) (w : World) (h : StS w s base (.slice (some ⟨g, 0, none⟩) lo.length lo.length) lo st vd dr) (hl : lo.length ≤ 48)
    (hf : Calls Tryz.prog 64 #[.int .i64 op] w fun e w' => e = .returned (.tuple #[.agg #[.int .i64 op, .int .i64 0, .nilFunc, .func (.func k) #[] #[]], .bool true]) ∧ Kp [] w w')
    (hc : ∀ w1 : World, Kp [] w w1 → Calls Tryz.prog k #[.pointer (some ⟨s, 0, none⟩), .slice (some ⟨g, 0, none⟩) lo.length lo.length, .slice (some ⟨g, 0, none⟩) 0 0] w1 fun e w2 => ∃ v' vd', e = .returned (.tuple #[v', .int .i64 0]) ∧ OwnC w2 base 3 v' l' ∧ v'.ownBlock ≠ some s ∧ (∀ b, blockOf vd' = some b → v'.ownBlock ≠ some b) ∧ (∀ b, v'.ownBlock = some b → (.slice (some ⟨g, 0, none⟩) lo.length lo.length : Value).ownBlock = some b ∨ w.heap.size ≤ b) ∧ StS w2 s base (.slice (some ⟨g, 0, none⟩) lo.length lo.length) lo st' vd' dr' ∧ Kp [s] w1 w2 ∧ KV vd vd') :
    Calls Tryz.prog 54 #[.pointer (some ⟨s, 0, none⟩), .int .i64 op] w fun e w' => e = .returned (.int .i64 0) ∧ ∃ vl' vd', StS w' s base vl' l' st' vd' dr' ∧ StK w w' s (.slice (some ⟨g, 0, none⟩) lo.length lo.length) vl' ∧ KV vd vd' := by
  have HF := Lib.hid hf
  have HC := Lib.hid hc
  have c0 := h.cell0
  have hw9 : IntKind.i64.wrap ((lo.length : Int) + 0 - 0) = lo.length := by rw [IntKind.wrap_i64]; omega
  have hw8 : IntKind.i64.wrap ((lo.length : Int) - 0) = lo.length := by rw [IntKind.wrap_i64]; omega
  have hd9 : decide ((lo.length : Int) + 0 < 0) = false := decide_eq_false (by omega)
  have hd8 : decide ((lo.length : Int) < 0) = false := decide_eq_false (by omega)
  unfold maxLen at hcm
  clear h hf hc
  go_enter Tryz.func54, Tryz.ntmps54
  go_wp2_with fail
  refine HF.out.mono ?_; rintro e w1 ⟨rfl, hk1⟩
  have hka : Kp [] w (w1.alloc (.cells #[.int .i64 op, .int .i64 0, .nilFunc, .func (.func k) #[] #[]] 93)) := hk1.alloc _
  obtain ⟨b0, b1, b2, b3⟩ := box4s (Kp.refl [] (w1.alloc (.cells #[.int .i64 op, .int .i64 0, .nilFunc, .func (.func k) #[] #[]] 93)))
  have d0 := hka.cell c0 (by simp)
  go_wp2_with fail
  generalize w1.alloc (.cells #[.int .i64 op, .int .i64 0, .nilFunc, .func (.func k) #[] #[]] 93) = WB at *
  generalize w1.heap.size = BX at *
  have qb0 := KW.cell b0
  have qb1 := KW.cell b1
  have qb2 := KW.cell b2
  have qb3 := KW.cell b3
  have qd0 := KW.cell d0
  refine wp_region_kq (by kernel_rfl) (by kernel_rfl) ?_
  repeat (go_big_quiet_step (fail))
  refine wpQuiet_nil ?_
  intro v1 hw'
  obtain ⟨⟨_, hkv1⟩, rfl⟩ := hw'
  clear qb0 qb1 qb2 qb3 qd0
  have b0 := hkv1.cell b0 (by simp)
  have b1 := hkv1.cell b1 (by simp)
  have b2 := hkv1.cell b2 (by simp)
  have b3 := hkv1.cell b3 (by simp)
  have d0 := hkv1.cell d0 (by simp)
  have hka := hka.trans hkv1
  clear hkv1
  go_wp2_with fail
  have qb0 := KW.cell b0
  have qb1 := KW.cell b1
  have qb2 := KW.cell b2
  have qb3 := KW.cell b3
  have qd0 := KW.cell d0
  refine wp_region_kq (by kernel_rfl) (by kernel_rfl) ?_
  repeat (go_big_quiet_step (fail))
  refine wpQuiet_nil ?_
  intro v2 hw'
  obtain ⟨⟨_, hkv2⟩, rfl⟩ := hw'
  clear qb0 qb1 qb2 qb3 qd0
  have b0 := hkv2.cell b0 (by simp)
  have b1 := hkv2.cell b1 (by simp)
  have b2 := hkv2.cell b2 (by simp)
  have b3 := hkv2.cell b3 (by simp)
  have d0 := hkv2.cell d0 (by simp)
  have hka := hka.trans hkv2
  clear hkv2
  go_wp2_with fail
  have qb0 := KW.cell b0
  have qb1 := KW.cell b1
  have qb2 := KW.cell b2
  have qb3 := KW.cell b3
  have qd0 := KW.cell d0
  refine wp_region_kq (by kernel_rfl) (by kernel_rfl) ?_
  repeat (go_big_quiet_step ((go_at_call 65; exact Calls.kq0 (clip_calls (some ⟨g, 0, none⟩) lo.length lo.length (fun h => by cases h) (by omega) (by unfold maxLen; omega) _))))
  refine wpQuiet_nil ?_
  intro v3 hw'
  obtain ⟨⟨_, hkv3⟩, rfl⟩ := hw'
  clear qb0 qb1 qb2 qb3 qd0
  have b0 := hkv3.cell b0 (by simp)
  have b1 := hkv3.cell b1 (by simp)
  have b2 := hkv3.cell b2 (by simp)
  have b3 := hkv3.cell b3 (by simp)
  have d0 := hkv3.cell d0 (by simp)
  have hka := hka.trans hkv3
  clear hkv3
  go_wp2_with fail
  rw [neq_nil]
  go_wp2_with fail
  refine (HC.out _ hka).mono ?_; rintro e w2 ⟨v', vd', rfl, ho, hn1, hn2, hn3, hs2, hk2, hkv⟩
  obtain ⟨p', c', rfl⟩ := ho.form
  have hs3 := StS.put hs2.1 hs2.2.1 hs2.2.2.1 ho hn1 hs2.2.2.2.2.2.1 (fun b hb => by obtain ⟨x1, x2, x3, x4⟩ := hs2.2.2.2.2.2.2 b hb; exact ⟨x1, hn2 b hb, x3, x4⟩)
  have hk3 : StK w (w2.setCell ⟨s, 0, none⟩ (.slice p' l'.length c')) s (.slice (some ⟨g, 0, none⟩) lo.length lo.length) (.slice p' l'.length c') := ⟨((hka.more (T := s :: (.slice (some ⟨g, 0, none⟩) lo.length lo.length : Value).ownBlock.toList) (fun t ht => nomatch ht)).trans (hk2.more (fun t ht => by simp at ht; subst ht; exact .inl (by simp)))).setCell (.inl (by simp)) _, hn3⟩
  have hfin := Lib.hid (And.intro hs3 (And.intro hk3 hkv))
  have c9 := hs2.cell0
  have f9 := hs2.frozen 0
  have hd7 : decide ((48 : Int) < (l'.length : Int)) = false := decide_eq_false (by omega)
  clear ho hn1 hn2 hn3 hs2 hk2 hs3 hk3 hkv
  go_wp2_with fail
  go_ret
  exact ⟨rfl, _, _, hfin.out⟩

set_option maxRecDepth 100000 in
set_option maxHeartbeats 4000000 in
theorem do_mov0full_err (op : Int) (k : Nat) (hent : ∀ (args : Array Value) (w : World), (callFunc k args).run Tryz.prog w = .ok (.enter k args) w)
    (s base : Nat) (g : Nat) (vd : Value) (lo st dr : List Int) (hcm : lo.length ≤ maxLen) (w : World) (h : StS w s base (.slice (some ⟨g, 0, none⟩) lo.length lo.length) lo st vd dr) (hl : lo.length ≤ 48)
    (hf : Calls Tryz.prog 64 #[.int .i64 op] w fun e w' => e = .returned (.tuple #[.agg #[.int .i64 op, .int .i64 0, .nilFunc, .func (.func k) #[] #[]], .bool true]) ∧ Kp [] w w')
    (hc : ∀ w1 : World, Kp [] w w1 → Calls Tryz.prog k #[.pointer (some ⟨s, 0, none⟩), .slice (some ⟨g, 0, none⟩) lo.length lo.length, .slice (some ⟨g, 0, none⟩) 0 0] w1 fun e w2 => ∃ er, er ≠ 0 ∧ e = .returned (.tuple #[.slice none 0 0, .int .i64 er]) ∧ er = 170 ∧ Kp [] w1 w2) :
    Calls Tryz.prog 54 #[.pointer (some ⟨s, 0, none⟩), .int .i64 op] w fun e w' => e = .returned (.int .i64 170) ∧ Kp [] w w' := by
  have HF := Lib.hid hf
  have HC := Lib.hid hc
  have c0 := h.cell0
  have hw9 : IntKind.i64.wrap ((lo.length : Int) + 0 - 0) = lo.length := by rw [IntKind.wrap_i64]; omega
  have hw8 : IntKind.i64.wrap ((lo.length : Int) - 0) = lo.length := by rw [IntKind.wrap_i64]; omega
  have hd9 : decide ((lo.length : Int) + 0 < 0) = false := decide_eq_false (by omega)
  have hd8 : decide ((lo.length : Int) < 0) = false := decide_eq_false (by omega)
  unfold maxLen at hcm
  clear h hf hc
  go_enter Tryz.func54, Tryz.ntmps54
  go_wp2_with fail
  refine HF.out.mono ?_; rintro e w1 ⟨rfl, hk1⟩
  have hka : Kp [] w (w1.alloc (.cells #[.int .i64 op, .int .i64 0, .nilFunc, .func (.func k) #[] #[]] 93)) := hk1.alloc _
  obtain ⟨b0, b1, b2, b3⟩ := box4s (Kp.refl [] (w1.alloc (.cells #[.int .i64 op, .int .i64 0, .nilFunc, .func (.func k) #[] #[]] 93)))
  have d0 := hka.cell c0 (by simp)
  go_wp2_with fail
  generalize w1.alloc (.cells #[.int .i64 op, .int .i64 0, .nilFunc, .func (.func k) #[] #[]] 93) = WB at *
  generalize w1.heap.size = BX at *
  have qb0 := KW.cell b0
  have qb1 := KW.cell b1
  have qb2 := KW.cell b2
  have qb3 := KW.cell b3
  have qd0 := KW.cell d0
  refine wp_region_kq (by kernel_rfl) (by kernel_rfl) ?_
  repeat (go_big_quiet_step (fail))
  refine wpQuiet_nil ?_
  intro v1 hw'
  obtain ⟨⟨_, hkv1⟩, rfl⟩ := hw'
  clear qb0 qb1 qb2 qb3 qd0
  have b0 := hkv1.cell b0 (by simp)
  have b1 := hkv1.cell b1 (by simp)
  have b2 := hkv1.cell b2 (by simp)
  have b3 := hkv1.cell b3 (by simp)
  have d0 := hkv1.cell d0 (by simp)
  have hka := hka.trans hkv1
  clear hkv1
  go_wp2_with fail
  have qb0 := KW.cell b0
  have qb1 := KW.cell b1
  have qb2 := KW.cell b2
  have qb3 := KW.cell b3
  have qd0 := KW.cell d0
  refine wp_region_kq (by kernel_rfl) (by kernel_rfl) ?_
  repeat (go_big_quiet_step (fail))
  refine wpQuiet_nil ?_
  intro v2 hw'
  obtain ⟨⟨_, hkv2⟩, rfl⟩ := hw'
  clear qb0 qb1 qb2 qb3 qd0
  have b0 := hkv2.cell b0 (by simp)
  have b1 := hkv2.cell b1 (by simp)
  have b2 := hkv2.cell b2 (by simp)
  have b3 := hkv2.cell b3 (by simp)
  have d0 := hkv2.cell d0 (by simp)
  have hka := hka.trans hkv2
  clear hkv2
  go_wp2_with fail
  have qb0 := KW.cell b0
  have qb1 := KW.cell b1
  have qb2 := KW.cell b2
  have qb3 := KW.cell b3
  have qd0 := KW.cell d0
  refine wp_region_kq (by kernel_rfl) (by kernel_rfl) ?_
  repeat (go_big_quiet_step ((go_at_call 65; exact Calls.kq0 (clip_calls (some ⟨g, 0, none⟩) lo.length lo.length (fun h => by cases h) (by omega) (by unfold maxLen; omega) _))))
  refine wpQuiet_nil ?_
  intro v3 hw'
  obtain ⟨⟨_, hkv3⟩, rfl⟩ := hw'
  clear qb0 qb1 qb2 qb3 qd0
  have b0 := hkv3.cell b0 (by simp)
  have b1 := hkv3.cell b1 (by simp)
  have b2 := hkv3.cell b2 (by simp)
  have b3 := hkv3.cell b3 (by simp)
  have d0 := hkv3.cell d0 (by simp)
  have hka := hka.trans hkv3
  clear hkv3
  go_wp2_with fail
  rw [neq_nil]
  go_wp2_with fail
  refine (HC.out _ hka).mono ?_; rintro e w2 ⟨er, he, rfl, rfl, hk2⟩
  go_wp2_with fail
  go_ret
  exact ⟨rfl, hka.trans hk2⟩

set_option maxRecDepth 100000 in
set_option maxHeartbeats 4000000 in
theorem do_mov0nil_ok (op : Int) (k : Nat) (hent : ∀ (args : Array Value) (w : World), (callFunc k args).run Tryz.prog w = .ok (.enter k args) w)
    (s base : Nat) (vd : Value) (st dr : List Int) (l' st' dr' : List Int) (hl' : l'.length ≤ 48) (w : World) (h : StS w s base (.slice none 0 0) ([] : List Int) st vd dr)
    (hf : Calls Tryz.prog 64 #[.int .i64 op] w fun e w' => e = .returned (.tuple #[.agg #[.int .i64 op, .int .i64 0, .nilFunc, .func (.func k) #[] #[]], .bool true]) ∧ Kp [] w w')
    (hc : ∀ w1 : World, Kp [] w w1 → Calls Tryz.prog k #[.pointer (some ⟨s, 0, none⟩), .slice none 0 0, .slice none 0 0] w1 fun e w2 => ∃ v' vd', e = .returned (.tuple #[v', .int .i64 0]) ∧ OwnC w2 base 3 v' l' ∧ v'.ownBlock ≠ some s ∧ (∀ b, blockOf vd' = some b → v'.ownBlock ≠ some b) ∧ (∀ b, v'.ownBlock = some b → (.slice none 0 0 : Value).ownBlock = some b ∨ w.heap.size ≤ b) ∧ StS w2 s base (.slice none 0 0) ([] : List Int) st' vd' dr' ∧ Kp [s] w1 w2 ∧ KV vd vd') :
    Calls Tryz.prog 54 #[.pointer (some ⟨s, 0, none⟩), .int .i64 op] w fun e w' => e = .returned (.int .i64 0) ∧ ∃ vl' vd', StS w' s base vl' l' st' vd' dr' ∧ StK w w' s (.slice none 0 0) vl' ∧ KV vd vd' := by
  have HF := Lib.hid hf
  have HC := Lib.hid hc
  have c0 := h.cell0
  clear h hf hc
  go_enter Tryz.func54, Tryz.ntmps54
  go_wp2_with fail
  refine HF.out.mono ?_; rintro e w1 ⟨rfl, hk1⟩
  have hka : Kp [] w (w1.alloc (.cells #[.int .i64 op, .int .i64 0, .nilFunc, .func (.func k) #[] #[]] 93)) := hk1.alloc _
  obtain ⟨b0, b1, b2, b3⟩ := box4s (Kp.refl [] (w1.alloc (.cells #[.int .i64 op, .int .i64 0, .nilFunc, .func (.func k) #[] #[]] 93)))
  have d0 := hka.cell c0 (by simp)
  go_wp2_with fail
  generalize w1.alloc (.cells #[.int .i64 op, .int .i64 0, .nilFunc, .func (.func k) #[] #[]] 93) = WB at *
  generalize w1.heap.size = BX at *
  have qb0 := KW.cell b0
  have qb1 := KW.cell b1
  have qb2 := KW.cell b2
  have qb3 := KW.cell b3
  have qd0 := KW.cell d0
  refine wp_region_kq (by kernel_rfl) (by kernel_rfl) ?_
  repeat (go_big_quiet_step (fail))
  refine wpQuiet_nil ?_
  intro v1 hw'
  obtain ⟨⟨_, hkv1⟩, rfl⟩ := hw'
  clear qb0 qb1 qb2 qb3 qd0
  have b0 := hkv1.cell b0 (by simp)
  have b1 := hkv1.cell b1 (by simp)
  have b2 := hkv1.cell b2 (by simp)
  have b3 := hkv1.cell b3 (by simp)
  have d0 := hkv1.cell d0 (by simp)
  have hka := hka.trans hkv1
  clear hkv1
  go_wp2_with fail
  have qb0 := KW.cell b0
  have qb1 := KW.cell b1
  have qb2 := KW.cell b2
  have qb3 := KW.cell b3
  have qd0 := KW.cell d0
  refine wp_region_kq (by kernel_rfl) (by kernel_rfl) ?_
  repeat (go_big_quiet_step (fail))
  refine wpQuiet_nil ?_
  intro v2 hw'
  obtain ⟨⟨_, hkv2⟩, rfl⟩ := hw'
  clear qb0 qb1 qb2 qb3 qd0
  have b0 := hkv2.cell b0 (by simp)
  have b1 := hkv2.cell b1 (by simp)
  have b2 := hkv2.cell b2 (by simp)
  have b3 := hkv2.cell b3 (by simp)
  have d0 := hkv2.cell d0 (by simp)
  have hka := hka.trans hkv2
  clear hkv2
  go_wp2_with fail
  have qb0 := KW.cell b0
  have qb1 := KW.cell b1
  have qb2 := KW.cell b2
  have qb3 := KW.cell b3
  have qd0 := KW.cell d0
  refine wp_region_kq (by kernel_rfl) (by kernel_rfl) ?_
  repeat (go_big_quiet_step ((go_at_call 65; exact Calls.kq0 (clip_calls none 0 0 (fun h => ⟨rfl, rfl⟩) (by omega) (by unfold maxLen; omega) _))))
  refine wpQuiet_nil ?_
  intro v3 hw'
  obtain ⟨⟨_, hkv3⟩, rfl⟩ := hw'
  clear qb0 qb1 qb2 qb3 qd0
  have b0 := hkv3.cell b0 (by simp)
  have b1 := hkv3.cell b1 (by simp)
  have b2 := hkv3.cell b2 (by simp)
  have b3 := hkv3.cell b3 (by simp)
  have d0 := hkv3.cell d0 (by simp)
  have hka := hka.trans hkv3
  clear hkv3
  go_wp2_with fail
  rw [neq_nil]
  go_wp2_with fail
  refine (HC.out _ hka).mono ?_; rintro e w2 ⟨v', vd', rfl, ho, hn1, hn2, hn3, hs2, hk2, hkv⟩
  obtain ⟨p', c', rfl⟩ := ho.form
  have hs3 := StS.put hs2.1 hs2.2.1 hs2.2.2.1 ho hn1 hs2.2.2.2.2.2.1 (fun b hb => by obtain ⟨x1, x2, x3, x4⟩ := hs2.2.2.2.2.2.2 b hb; exact ⟨x1, hn2 b hb, x3, x4⟩)
  have hk3 : StK w (w2.setCell ⟨s, 0, none⟩ (.slice p' l'.length c')) s (.slice none 0 0) (.slice p' l'.length c') := ⟨((hka.more (T := s :: (.slice none 0 0 : Value).ownBlock.toList) (fun t ht => nomatch ht)).trans (hk2.more (fun t ht => by simp at ht; subst ht; exact .inl (by simp)))).setCell (.inl (by simp)) _, hn3⟩
  have hfin := Lib.hid (And.intro hs3 (And.intro hk3 hkv))
  have c9 := hs2.cell0
  have f9 := hs2.frozen 0
  have hd7 : decide ((48 : Int) < (l'.length : Int)) = false := decide_eq_false (by omega)
  clear ho hn1 hn2 hn3 hs2 hk2 hs3 hk3 hkv
  go_wp2_with fail
  go_ret
  exact ⟨rfl, _, _, hfin.out⟩

end Go.Proofs.YtfgpocpfapnkkaaGreat

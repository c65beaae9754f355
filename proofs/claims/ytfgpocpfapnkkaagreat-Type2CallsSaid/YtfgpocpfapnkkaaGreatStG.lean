/- stack: what moves numbers: drop, dup, exch, choose, index, get, put, random (without roll). -/
import Derived.Test.YtfgpocpfapnkkaaGreatStE
import Derived.Deep.RegionHeld3
import Derived.Lib.MinMax
namespace Go.Proofs.YtfgpocpfapnkkaaGreat
open Go.RowKit
set_option linter.unusedVariables false
set_option linter.unusedSimpArgs false
/-- A row without room: nil, or a slice whose capacity is its length, from its block's beginning on. -/
def FullR (w : World) (v : Value) (l : List Int) : Prop :=
  (v = .slice none 0 0 ∧ l = []) ∨ ∃ g, v = .slice (some ⟨g, 0, none⟩) l.length l.length ∧ l.length ≤ maxLen ∧ ∀ i, i < l.length → w.cell? ⟨g, i, none⟩ = some (.int .i64 (l.getD i 0))
theorem FullR.kp0 {w w' : World} {v : Value} {l : List Int} (h : FullR w v l) (hk : Kp [] w w') : FullR w' v l := by
  rcases h with h | ⟨g, rfl, h1, h2⟩
  · exact .inl h
  · exact .inr ⟨g, rfl, h1, fun i hi => hk.cell (h2 i hi) (by simp)⟩
theorem OwnC_mono {w : World} {base b' : Nat} {e : TypeId} {v : Value} {l : List Int} (h : OwnC w base e v l) (hb : b' ≤ base) : OwnC w b' e v l := by
  rcases h with h | ⟨g, cap, cur, rfl, h1, h2⟩
  · exact .inl h
  · exact .inr ⟨g, cap, cur, rfl, by omega, h2⟩
theorem FullR.form {w : World} {v : Value} {l : List Int} (h : FullR w v l) : ∃ p, v = .slice p l.length l.length := by
  rcases h with ⟨rfl, rfl⟩ | ⟨g, rfl, _⟩
  · exact ⟨_, rfl⟩
  · exact ⟨_, rfl⟩
section
variable {P : Program} {w : World} {ops : Array Oper} {rest : List Oper} {o : Oper} {a : Act} {Q : Exit → Act → World → Prop}
/-- append onto a row without room: it is laid anew. -/
theorem wpList_growC (hgd : o.guard = none) (s x : Operand) (t : TypeId) (ho : o.op = .call { callee := .builtin .append, args := #[s, x], argTypes := #[t, t] })
    (e : TypeId) (ht : P.underlying t = some (.slice e)) (hinfo : (P.info? e).map (fun i => (i.zero, i.size, i.bytes)) = some (some (.int .i64 0), 1, 8))
    (v : Value) (l : List Int) (hs : a.eval s = v) (hfull : FullR w v l) (ad : Addr) (c m : Nat) (news : List Int) (hx : a.eval x = .slice (some ad) m c) (hm : news.length = m) (hm0 : 0 < m)
    (hc : ∀ j u, (news.map (Value.int .i64))[j]? = some u → w.cell? (ad.add j) = some u) (hl : l.length + m < 1000000)
    (h : ∀ v' w', OwnC w' w.heap.size e v' (l ++ news) → Kp [] w w' → wpList P ops Q rest (a.put o.dst v') w') : wpList P ops Q (o :: rest) a w := by
  obtain ⟨i, hi, hz, hsize, hby⟩ := info_parts hinfo
  have fin : ∀ v' w', w'.ownsRow w.heap.size e 1 v' (l.length + m) (l.map (Value.int .i64) ++ news.map (Value.int .i64)) → w.grownBy w' none → wpList P ops Q rest (a.put o.dst v') w' := fun v' w' h1 h2 =>
    h v' w' (OwnC.owned (n := l.length + m) (Nat.le_refl _) (by simp [hm]) (by simpa using h1)) (Kp.grown (Kp.refl _ _) h2 (fun k hk => by cases hk))
  rcases hfull with ⟨rfl, rfl⟩ | ⟨g, rfl, h1, h2⟩
  · exact wpList_append_grows w hgd s x t ho e i (.int .i64 0) 1 8 ht hi hz hsize hby rfl (by decide) none 0 0 [] hs (fun _ => ⟨rfl, rfl⟩) rfl (fun b hb => by cases hb) ad m c (news.map (Value.int .i64)) hx (by simp [hm]) hc (by intro u hu; simp at hu; obtain ⟨y, _, rfl⟩ := hu; rfl) (by omega) (by unfold maxLen; simp at hl; omega) (by simp at hl; omega) (by simpa using fin)
  · refine wpList_append_grows w hgd s x t ho e i (.int .i64 0) 1 8 ht hi hz hsize hby rfl (by decide) (some ⟨g, 0, none⟩) l.length l.length (l.map (Value.int .i64)) hs (fun hn => by cases hn) (by simp) (fun b hb j u hj => ?_) ad m c (news.map (Value.int .i64)) hx (by simp [hm]) hc (by intro u hu; simp at hu; obtain ⟨y, _, rfl⟩ := hu; rfl) (by omega) (by unfold maxLen; omega) (by omega) fin
    cases hb
    have hjl : j < l.length := by have := (List.getElem?_eq_some_iff.1 hj).1; simpa using this
    rw [add_lit, Nat.zero_add, h2 j hjl]
    rw [List.getElem?_map, List.getElem?_eq_getElem hjl] at hj
    rw [List.getD_eq_getElem?_getD, List.getElem?_eq_getElem hjl]; exact hj
/-- The same inside a region that draws its order. -/
theorem step_growC {K : Act → World → Prop} {E : Prop} (hgd : o.guard = none) (s x : Operand) (t : TypeId) (ho : o.op = .call { callee := .builtin .append, args := #[s, x], argTypes := #[t, t] })
    (e : TypeId) (ht : P.underlying t = some (.slice e)) (hinfo : (P.info? e).map (fun i => (i.zero, i.size, i.bytes)) = some (some (.int .i64 0), 1, 8))
    (v : Value) (l : List Int) (hs : a.eval s = v) (hfull : FullR w v l) (ad : Addr) (c m : Nat) (news : List Int) (hx : a.eval x = .slice (some ad) m c) (hm : news.length = m) (hm0 : 0 < m)
    (hc : ∀ j u, (news.map (Value.int .i64))[j]? = some u → w.cell? (ad.add j) = some u) (hl : l.length + m < 1000000)
    (h : ∀ v' w', OwnC w' w.heap.size e v' (l ++ news) → Kp [] w w' → K (a.put o.dst v') w') : if Region.wanted o (yielded ops a.tmps) = true then Oper.wp P o a w K Q else E := by
  have hw : Region.wanted o (yielded ops a.tmps) = true := by simp [Region.wanted, hgd]
  rw [if_pos hw]
  obtain ⟨i, hi, hz, hsize, hby⟩ := info_parts hinfo
  have fin : ∀ v' w', w'.ownsRow w.heap.size e 1 v' (l.length + m) (l.map (Value.int .i64) ++ news.map (Value.int .i64)) → w.grownBy w' none → K (a.put o.dst v') w' := fun v' w' h1 h2 =>
    h v' w' (OwnC.owned (n := l.length + m) (Nat.le_refl _) (by simp [hm]) (by simpa using h1)) (Kp.grown (Kp.refl _ _) h2 (fun k hk => by cases hk))
  rcases hfull with ⟨rfl, rfl⟩ | ⟨g, rfl, h1, h2⟩
  · obtain ⟨v', w', hrun, r1, r2, _⟩ := run_append_own (P := P) w w.heap.size t o.type e i (.int .i64 0) 1 8 ht hi hz hsize hby rfl (by decide) (.slice none 0 0) 0 [] (World.ownsRow_nil w _ e 1) ad m c (news.map (Value.int .i64)) (by simp [hm]) hc (by intro u hu; simp at hu; obtain ⟨y, _, rfl⟩ := hu; rfl) (by unfold maxLen; simp at hl; omega) (by simp at hl; omega) (Nat.le_refl _)
    unfold Oper.wp
    simp [execOp, ho, resolve, invoke, builtin, hs, hx, hrun, Result.andThen]
    exact fin v' w' (by simpa using r1) r2
  · obtain ⟨v', w', hrun, r1, r2⟩ := run_append_arg_grows (P := P) w t o.type e i (.int .i64 0) 1 8 ht hi hz hsize hby rfl (by decide) ⟨g, 0, none⟩ l.length l.length (l.map (Value.int .i64)) (by simp) (fun j u hj => by
      have hjl : j < l.length := by have := (List.getElem?_eq_some_iff.1 hj).1; simpa using this
      rw [add_lit, Nat.zero_add, h2 j hjl]
      rw [List.getElem?_map, List.getElem?_eq_getElem hjl] at hj
      rw [List.getD_eq_getElem?_getD, List.getElem?_eq_getElem hjl]; exact hj) ad m c (news.map (Value.int .i64)) (by simp [hm]) hc (by omega) (by unfold maxLen; omega) (by omega)
    unfold Oper.wp
    simp [execOp, ho, resolve, invoke, builtin, hs, hx, hrun, Result.andThen]
    exact fin v' w' r1 r2
end
theorem lit_cells1 {W : World} {b : Nat} {x : Int} (h : W.cell? ⟨b, 0, none⟩ = some (.int .i64 x)) : ∀ j u, (([x] : List Int).map (Value.int .i64))[j]? = some u → W.cell? ((⟨b, 0, none⟩ : Addr).add j) = some u := fun j u hj => by
  have : j = 0 := by have := (List.getElem?_eq_some_iff.1 hj).1; simp at this; exact this
  subst this
  rw [add_lit, Nat.zero_add, h]; simpa using hj
theorem lit_cells2 {W : World} {b : Nat} {x y : Int} (h : W.cell? ⟨b, 0, none⟩ = some (.int .i64 x)) (h1 : W.cell? ⟨b, 1, none⟩ = some (.int .i64 y)) : ∀ j u, (([x, y] : List Int).map (Value.int .i64))[j]? = some u → W.cell? ((⟨b, 0, none⟩ : Addr).add j) = some u := fun j u hj => by
  have : j = 0 ∨ j = 1 := by have := (List.getElem?_eq_some_iff.1 hj).1; simp at this; omega
  rw [add_lit, Nat.zero_add]
  rcases this with rfl | rfl
  · rw [h]; simpa using hj
  · rw [h1]; simpa using hj
theorem box2s {w W : World} {t : TypeId} {v0 v1 : Value} (hk : Kp [] (w.alloc (.cells #[v0, v1] t)) W) : W.cell? ⟨w.heap.size, 0, none⟩ = some v0 ∧ W.cell? ⟨w.heap.size, 1, none⟩ = some v1 :=
  ⟨hk.cell (cell_of_row _ w.heap.size 0 _ t (0, 0) (heap_alloc_new w _)) (by simp), hk.cell (cell_of_row _ w.heap.size 1 _ t (0, 0) (heap_alloc_new w _)) (by simp)⟩
set_option maxRecDepth 100000 in
theorem clip_calls (p : Option Addr) (n c : Nat) (hp : p = none → n = 0 ∧ c = 0) (hn : n ≤ c) (hc : c ≤ maxLen) (w : World) : Calls Tryz.prog 65 #[.slice p n c] w fun e w' => e = .returned (.slice p n n) ∧ w' = w := by
  unfold maxLen at hc
  cases p with
  | none =>
    obtain ⟨rfl, rfl⟩ := hp rfl
    go_enter Tryz.func65, Tryz.ntmps65
    go_wp2_with fail
    go_ret
    exact ⟨rfl, rfl⟩
  | some ad =>
    obtain ⟨b, off, sp⟩ := ad
    clear hp
    go_enter Tryz.func65, Tryz.ntmps65
    go_wp2_with fail
    go_ret
    exact ⟨by simp, rfl⟩
set_option maxRecDepth 100000 in
theorem drop_calls (sv lowv hiv : Value) (p : Option Addr) (n c : Nat) (hl : lowv = .slice p n c) (p2 : Option Addr) (n2 c2 : Nat) (hl2 : hiv = .slice p2 n2 c2) (s : Addr) (hs : sv = .pointer (some s)) (w : World) : Calls Tryz.prog 106 #[sv, lowv, hiv] w fun e w' => e = .returned (.tuple #[lowv, .int .i64 0]) ∧ Kp [] w w' := by
  subst hl; subst hl2; subst hs
  go_enter Tryz.func106, Tryz.ntmps106
  go_wp2_with fail
  go_ret2
  exact ⟨rfl, Kp.refl _ _⟩
set_option maxRecDepth 100000 in
set_option maxHeartbeats 2000000 in
theorem dup_calls (s : Addr) (lowv : Value) (lo : List Int) (g off c : Nat) (x : Int) (w : World) (hlo : FullR w lowv lo) (hll : lo.length ≤ 100) (hx : w.cell? ⟨g, off, none⟩ = some (.int .i64 x)) :
    Calls Tryz.prog 107 #[.pointer (some s), lowv, .slice (some ⟨g, off, none⟩) 1 c] w fun e w' => ∃ v', e = .returned (.tuple #[v', .int .i64 0]) ∧ OwnC w' w.heap.size 3 v' (lo ++ [x, x]) ∧ Kp [] w w' := by
  have HLO := Lib.hid hlo
  obtain ⟨pl, rfl⟩ := hlo.form
  clear hlo
  go_enter Tryz.func107, Tryz.ntmps107
  go_wp2_with fail
  go_region_held3 (fun w' => w'.cell? ⟨g, off, none⟩ = some (.int .i64 x))
    (first | go_keep | exact hk.cell (Kp.cell (S := []) (by (repeat (first | exact Kp.refl _ _ | assumption | refine Kp.drew ?_ | refine Kp.drewN ?_ _ | refine Kp.alloc ?_ _ | (refine Kp.setCell ?_ (by first | (left; simp; done) | (right; simp; try omega)) _) | (refine Kp.trans' ?_ (by assumption) (by simp; try omega))))) hx (by simp)) (by simp))
    ((refine step_growC (by rfl) _ _ 24 (by rfl) 3 Tryz.underlying24 infoIntS (.slice pl lo.length lo.length) lo (by rfl) (HLO.out.kp0 (by (repeat (first | exact Kp.refl _ _ | assumption | refine Kp.drew ?_ | refine Kp.drewN ?_ _ | refine Kp.alloc ?_ _ | (refine Kp.setCell ?_ (by first | (left; simp; done) | (right; simp; try omega)) _) | (refine Kp.trans' ?_ (by assumption) (by simp; try omega)))))) ⟨w.heap.size, 0, none⟩ 2 2 [x, x] (by rfl) rfl (by decide) (lit_cells2 (by first | exact (box2s (Kp.refl [] _)).1 | exact (box2s (Kp.refl [] w.drew)).1 | simp) (by first | exact (box2s (Kp.refl [] _)).2 | exact (box2s (Kp.refl [] w.drew)).2 | simp)) (by omega) ?_; intro v' w2 ho hk))
  have ho2 := Lib.hid (OwnC_mono ho (b' := w.heap.size) (by simp))
  have hk2 : Kp [] w w2 := by (repeat (first | exact Kp.refl _ _ | assumption | refine Kp.drew ?_ | refine Kp.drewN ?_ _ | refine Kp.alloc ?_ _ | (refine Kp.setCell ?_ (by first | (left; simp; done) | (right; simp; try omega)) _) | (refine Kp.trans' ?_ (by assumption) (by simp; try omega))))
  obtain ⟨p', c', rfl⟩ := ho.form
  clear ho hk
  go_wp2_with fail
  go_ret2
  exact ⟨_, rfl, ho2.out, hk2⟩
set_option maxRecDepth 100000 in
set_option maxHeartbeats 2000000 in
theorem exch_calls (s : Addr) (lowv : Value) (lo : List Int) (g off c : Nat) (x y : Int) (w : World) (hlo : FullR w lowv lo) (hll : lo.length ≤ 100) (hx : w.cell? ⟨g, off, none⟩ = some (.int .i64 x)) (hy : w.cell? ⟨g, off + 1, none⟩ = some (.int .i64 y)) :
    Calls Tryz.prog 110 #[.pointer (some s), lowv, .slice (some ⟨g, off, none⟩) 2 c] w fun e w' => ∃ v', e = .returned (.tuple #[v', .int .i64 0]) ∧ OwnC w' w.heap.size 3 v' (lo ++ [y, x]) ∧ Kp [] w w' := by
  have HLO := Lib.hid hlo
  obtain ⟨pl, rfl⟩ := hlo.form
  clear hlo
  go_enter Tryz.func110, Tryz.ntmps110
  go_wp2_with fail
  go_region_held3 (fun w' => w'.cell? ⟨g, off, none⟩ = some (.int .i64 x) ∧ w'.cell? ⟨g, off + 1, none⟩ = some (.int .i64 y))
    (first | go_keep | exact ⟨hk.cell (Kp.cell (S := []) (by (repeat (first | exact Kp.refl _ _ | assumption | refine Kp.drew ?_ | refine Kp.drewN ?_ _ | refine Kp.alloc ?_ _ | (refine Kp.setCell ?_ (by first | (left; simp; done) | (right; simp; try omega)) _) | (refine Kp.trans' ?_ (by assumption) (by simp; try omega))))) hx (by simp)) (by simp), hk.cell (Kp.cell (S := []) (by (repeat (first | exact Kp.refl _ _ | assumption | refine Kp.drew ?_ | refine Kp.drewN ?_ _ | refine Kp.alloc ?_ _ | (refine Kp.setCell ?_ (by first | (left; simp; done) | (right; simp; try omega)) _) | (refine Kp.trans' ?_ (by assumption) (by simp; try omega))))) hy (by simp)) (by simp)⟩)
    ((refine step_growC (by rfl) _ _ 24 (by rfl) 3 Tryz.underlying24 infoIntS (.slice pl lo.length lo.length) lo (by rfl) (HLO.out.kp0 (by (repeat (first | exact Kp.refl _ _ | assumption | refine Kp.drew ?_ | refine Kp.drewN ?_ _ | refine Kp.alloc ?_ _ | (refine Kp.setCell ?_ (by first | (left; simp; done) | (right; simp; try omega)) _) | (refine Kp.trans' ?_ (by assumption) (by simp; try omega)))))) ⟨w.heap.size, 0, none⟩ 2 2 [y, x] (by rfl) rfl (by decide) (lit_cells2 (by first | exact (box2s (Kp.refl [] _)).1 | exact (box2s (Kp.refl [] w.drew)).1 | simp) (by first | exact (box2s (Kp.refl [] _)).2 | exact (box2s (Kp.refl [] w.drew)).2 | simp)) (by omega) ?_; intro v' w2 ho hk))
  have ho2 := Lib.hid (OwnC_mono ho (b' := w.heap.size) (by simp))
  have hk2 : Kp [] w w2 := by (repeat (first | exact Kp.refl _ _ | assumption | refine Kp.drew ?_ | refine Kp.drewN ?_ _ | refine Kp.alloc ?_ _ | (refine Kp.setCell ?_ (by first | (left; simp; done) | (right; simp; try omega)) _) | (refine Kp.trans' ?_ (by assumption) (by simp; try omega))))
  obtain ⟨p', c', rfl⟩ := ho.form
  clear ho hk
  go_wp2_with fail
  go_ret2
  exact ⟨_, rfl, ho2.out, hk2⟩
set_option maxRecDepth 100000 in
theorem place_calls (x : Int) (h1 : -2147483648 ≤ x) (h2 : x ≤ 2147483648) (w : World) : Calls Tryz.prog 123 #[.int .i64 x] w fun e w' => e = .returned (.tuple #[.int .i64 (x / 65536), .bool (decide (0 ≤ x / 65536) && decide (x / 65536 < 32))]) ∧ w = w' := by
  by_cases h : 0 ≤ x / 65536
  · go_enter Tryz.func123, Tryz.ntmps123
    go_wp2_with fail
    go_ret2
    exact ⟨by simp [h], rfl⟩
  · have h' : decide (0 ≤ x / 65536) = false := decide_eq_false h
    go_enter Tryz.func123, Tryz.ntmps123
    go_wp2_with fail
    go_ret2
    exact ⟨by simp [h], rfl⟩
set_option maxRecDepth 100000 in
set_option maxHeartbeats 2000000 in
theorem choose_calls (s : Addr) (lowv : Value) (lo : List Int) (g off c : Nat) (a b x y : Int) (w : World) (hlo : FullR w lowv lo) (hll : lo.length ≤ 100) (ha : w.cell? ⟨g, off, none⟩ = some (.int .i64 a)) (hb : w.cell? ⟨g, off + 1, none⟩ = some (.int .i64 b)) (hx : w.cell? ⟨g, off + 2, none⟩ = some (.int .i64 x)) (hy : w.cell? ⟨g, off + 3, none⟩ = some (.int .i64 y)) :
    Calls Tryz.prog 113 #[.pointer (some s), lowv, .slice (some ⟨g, off, none⟩) 4 c] w fun e w' => ∃ v', e = .returned (.tuple #[v', .int .i64 0]) ∧ OwnC w' w.heap.size 3 v' (lo ++ [if x ≤ y then a else b]) ∧ Kp [] w w' := by
  have HLO := Lib.hid hlo
  obtain ⟨pl, rfl⟩ := hlo.form
  clear hlo
  obtain ⟨z, hz⟩ : ∃ z, z = if x ≤ y then a else b := ⟨_, rfl⟩
  rw [← hz]
  by_cases hxy : x ≤ y
  · rw [if_pos hxy] at hz
    subst hz
    have q2 := KW.cell hx
    have q3 := KW.cell hy
    go_enter Tryz.func113, Tryz.ntmps113
    go_wp2_with fail
    refine wp_region_kq (by kernel_rfl) (by kernel_rfl) ?_
    repeat (go_big_quiet_step (fail))
    refine wpQuiet_nil ?_
    intro w1 hw'
    obtain ⟨⟨_, hkw1⟩, rfl⟩ := hw'
    have c0 := hkw1.cell ha (by simp)
    clear q2 q3 ha hb hx hy
    go_wp2_with (at_builtin; refine wpList_growC rfl _ _ 24 rfl 3 Tryz.underlying24 infoIntS _ lo rfl (HLO.out.kp0 (hkw1.alloc _)) ⟨w1.heap.size, 0, none⟩ 1 1 [z] rfl rfl (by decide) (lit_cells1 (box1 (Kp.refl [] _))) (by omega) ?hk)
    case hk =>
    intro v' w2 ho hk
    have ho2 := Lib.hid (OwnC_mono ho (b' := w.heap.size) (by have := hkw1.size; simp; omega))
    have hk2 := (hkw1.alloc (.cells #[.int .i64 z] 3)).trans hk
    obtain ⟨p', c', rfl⟩ := ho.form
    clear ho hk
    go_wp2_with fail
    go_ret2
    exact ⟨_, rfl, ho2.out, hk2⟩
  · rw [if_neg hxy] at hz
    subst hz
    have hxy' : decide (x ≤ y) = false := decide_eq_false hxy
    have q2 := KW.cell hx
    have q3 := KW.cell hy
    go_enter Tryz.func113, Tryz.ntmps113
    go_wp2_with fail
    refine wp_region_kq (by kernel_rfl) (by kernel_rfl) ?_
    repeat (go_big_quiet_step (fail))
    refine wpQuiet_nil ?_
    intro w1 hw'
    obtain ⟨⟨_, hkw1⟩, rfl⟩ := hw'
    have c0 := hkw1.cell hb (by simp)
    clear q2 q3 ha hb hx hy
    go_wp2_with (at_builtin; refine wpList_growC rfl _ _ 24 rfl 3 Tryz.underlying24 infoIntS _ lo rfl (HLO.out.kp0 (hkw1.alloc _)) ⟨w1.heap.size, 0, none⟩ 1 1 [z] rfl rfl (by decide) (lit_cells1 (box1 (Kp.refl [] _))) (by omega) ?hk)
    case hk =>
    intro v' w2 ho hk
    have ho2 := Lib.hid (OwnC_mono ho (b' := w.heap.size) (by have := hkw1.size; simp; omega))
    have hk2 := (hkw1.alloc (.cells #[.int .i64 z] 3)).trans hk
    obtain ⟨p', c', rfl⟩ := ho.form
    clear ho hk
    go_wp2_with fail
    go_ret2
    exact ⟨_, rfl, ho2.out, hk2⟩
set_option maxRecDepth 100000 in
set_option maxHeartbeats 2000000 in
theorem index_calls (s : Addr) (lowv : Value) (lo : List Int) (g off c : Nat) (x : Int) (h1 : -2147483648 ≤ x) (h2 : x ≤ 2147483648) (w : World) (hlo : FullR w lowv lo) (hll : lo.length ≤ 100) (hx : w.cell? ⟨g, off, none⟩ = some (.int .i64 x)) (hok : max (x / 65536) 0 < lo.length) :
    Calls Tryz.prog 108 #[.pointer (some s), lowv, .slice (some ⟨g, off, none⟩) 1 c] w fun e w' => ∃ v', e = .returned (.tuple #[v', .int .i64 0]) ∧ OwnC w' w.heap.size 3 v' (lo ++ [lo.getD (lo.length - 1 - (max (x / 65536) 0).toNat) 0]) ∧ Kp [] w w' := by
  have HLO := Lib.hid hlo
  rcases hlo with ⟨rfl, rfl⟩ | ⟨gl, rfl, hm, hc⟩
  · simp at hok; omega
  obtain ⟨i, hi⟩ : ∃ i : Nat, (i : Int) = max (x / 65536) 0 := ⟨(max (x / 65536) 0).toNat, by omega⟩
  have hi2 : (max (x / 65536) 0).toNat = i := by omega
  rw [hi2]
  have hil : i < lo.length := by omega
  have hcy := hc (lo.length - 1 - i) (by omega)
  have hdec : decide ((lo.length : Int) ≤ (i : Int)) = false := decide_eq_false (by omega)
  have hw1 : IntKind.i64.wrap ((lo.length : Int) - 1) = (lo.length : Int) - 1 := by rw [IntKind.wrap_i64]; omega
  have hw2 : IntKind.i64.wrap ((lo.length : Int) - 1 - (i : Int)) = (lo.length : Int) - 1 - (i : Int) := by rw [IntKind.wrap_i64]; omega
  have ht : ((lo.length : Int) - 1 - (i : Int)).toNat = lo.length - 1 - i := by omega
  have hn0 : (0 : Int) ≤ (lo.length : Int) - 1 - (i : Int) := by omega
  have hn1 : (lo.length : Int) - 1 - (i : Int) < (lo.length : Int) := by omega
  have hmx : max (x / 65536) 0 = (i : Int) := hi.symm
  generalize lo.getD (lo.length - 1 - i) 0 = z at *
  clear hok hi hi2 hc
  go_enter Tryz.func108, Tryz.ntmps108
  go_wp2_with (at_builtin; refine wpList_growC rfl _ _ 24 rfl 3 Tryz.underlying24 infoIntS _ lo rfl (HLO.out.kp0 ((Kp.refl [] w).alloc _)) ⟨w.heap.size, 0, none⟩ 1 1 [z] rfl rfl (by decide) (lit_cells1 (box1 (Kp.refl [] _))) (by omega) ?hk)
  case hk =>
  intro v' w9 ho hk
  have ho2 := Lib.hid (OwnC_mono ho (b' := w.heap.size) (by simp; try omega))
  have hk2 : Kp [] w w9 := by (repeat (first | exact Kp.refl _ _ | assumption | refine Kp.drew ?_ | refine Kp.drewN ?_ _ | refine Kp.alloc ?_ _ | (refine Kp.setCell ?_ (by first | (left; simp; done) | (right; simp; try omega)) _) | (refine Kp.trans' ?_ (by assumption) (by simp; try omega))))
  obtain ⟨p', c', rfl⟩ := ho.form
  clear ho hk
  go_wp2_with fail
  go_ret2
  exact ⟨_, rfl, ho2.out, hk2⟩
set_option maxRecDepth 100000 in
set_option maxHeartbeats 2000000 in
theorem index_no (s : Addr) (p : Option Addr) (n : Nat) (g off c : Nat) (x : Int) (h1 : -2147483648 ≤ x) (h2 : x ≤ 2147483648) (w : World) (hx : w.cell? ⟨g, off, none⟩ = some (.int .i64 x)) (hno : (n : Int) ≤ max (x / 65536) 0) :
    Calls Tryz.prog 108 #[.pointer (some s), .slice p n n, .slice (some ⟨g, off, none⟩) 1 c] w fun e w' => e = .returned (.tuple #[.slice none 0 0, .int .i64 170]) ∧ Kp [] w w' := by
  obtain ⟨i, hi⟩ : ∃ i : Nat, (i : Int) = max (x / 65536) 0 := ⟨(max (x / 65536) 0).toNat, by omega⟩
  have hmx : max (x / 65536) 0 = (i : Int) := hi.symm
  have hle : (n : Int) ≤ (i : Int) := by omega
  have hle2 : n ≤ i := by omega
  clear hno hi
  go_enter Tryz.func108, Tryz.ntmps108
  go_wp2_with fail
  go_ret2
  exact ⟨by first | rfl | simp, Kp.refl _ _⟩
set_option maxRecDepth 100000 in
set_option maxHeartbeats 2000000 in
theorem get_calls (s base : Nat) (vl vd : Value) (l st dr : List Int) (lowv : Value) (lo : List Int) (g off c : Nat) (x : Int) (h1 : -2147483648 ≤ x) (h2 : x ≤ 2147483648) (w : World) (hs : StS w s base vl l st vd dr) (hlo : FullR w lowv lo) (hll : lo.length ≤ 100) (hx : w.cell? ⟨g, off, none⟩ = some (.int .i64 x)) (hok : 0 ≤ x / 65536 ∧ x / 65536 < 32) :
    Calls Tryz.prog 109 #[.pointer (some ⟨s, 0, none⟩), lowv, .slice (some ⟨g, off, none⟩) 1 c] w fun e w' => ∃ v', e = .returned (.tuple #[v', .int .i64 0]) ∧ OwnC w' w.heap.size 3 v' (lo ++ [st.getD (x / 65536).toNat 0]) ∧ Kp [] w w' := by
  have HLO := Lib.hid hlo
  obtain ⟨pl, rfl⟩ := hlo.form
  obtain ⟨hok1, hok2⟩ := hok
  obtain ⟨i, hi⟩ : ∃ i : Nat, (i : Int) = x / 65536 := ⟨(x / 65536).toNat, by omega⟩
  have hi2 : (x / 65536).toNat = i := by omega
  rw [hi2]
  have hc := hs.store i (by omega)
  rw [Nat.add_comm] at hc
  have HP := Lib.hid (place_calls x h1 h2)
  rw [decide_eq_true hok1, decide_eq_true hok2, ← hi] at HP
  have hiI : (i : Int) < 32 := by omega
  generalize st.getD i 0 = z at *
  clear hlo hs hok1 hok2 hi2 hi
  go_enter Tryz.func109, Tryz.ntmps109
  go_wp2_with fail
  refine (HP.out w).mono ?_; rintro e w1 ⟨rfl, rfl⟩
  go_wp2_with (at_builtin; refine wpList_growC rfl _ _ 24 rfl 3 Tryz.underlying24 infoIntS _ lo rfl (HLO.out.kp0 ((Kp.refl [] w).alloc _)) ⟨w.heap.size, 0, none⟩ 1 1 [z] rfl rfl (by decide) (lit_cells1 (box1 (Kp.refl [] _))) (by omega) ?hk)
  case hk =>
  intro v' w9 ho hk
  have ho2 := Lib.hid (OwnC_mono ho (b' := w.heap.size) (by simp; try omega))
  have hk2 : Kp [] w w9 := by (repeat (first | exact Kp.refl _ _ | assumption | refine Kp.drew ?_ | refine Kp.drewN ?_ _ | refine Kp.alloc ?_ _ | (refine Kp.setCell ?_ (by first | (left; simp; done) | (right; simp; try omega)) _) | (refine Kp.trans' ?_ (by assumption) (by simp; try omega))))
  obtain ⟨p', c', rfl⟩ := ho.form
  clear ho hk
  go_wp2_with fail
  go_ret2
  exact ⟨_, rfl, ho2.out, hk2⟩
set_option maxRecDepth 100000 in
set_option maxHeartbeats 2000000 in
theorem get_no (s : Addr) (p : Option Addr) (n : Nat) (g off c : Nat) (x : Int) (h1 : -2147483648 ≤ x) (h2 : x ≤ 2147483648) (w : World) (hx : w.cell? ⟨g, off, none⟩ = some (.int .i64 x)) (hno : ¬ (0 ≤ x / 65536 ∧ x / 65536 < 32)) :
    Calls Tryz.prog 109 #[.pointer (some s), .slice p n n, .slice (some ⟨g, off, none⟩) 1 c] w fun e w' => e = .returned (.tuple #[.slice none 0 0, .int .i64 170]) ∧ Kp [] w w' := by
  have HP := Lib.hid (place_calls x h1 h2)
  rw [show (decide (0 ≤ x / 65536) && decide (x / 65536 < 32)) = false by rw [← Bool.not_eq_true]; simpa using hno] at HP
  generalize x / 65536 = i at *
  clear hno
  go_enter Tryz.func109, Tryz.ntmps109
  go_wp2_with fail
  refine (HP.out w).mono ?_; rintro e w1 ⟨rfl, rfl⟩
  go_wp2_with fail
  go_ret2
  exact ⟨by first | rfl | simp, Kp.refl _ _⟩
set_option maxRecDepth 100000 in
set_option maxHeartbeats 2000000 in
theorem put_no (s : Addr) (p : Option Addr) (n : Nat) (g off c : Nat) (x : Int) (h1 : -2147483648 ≤ x) (h2 : x ≤ 2147483648) (w : World) (hx : w.cell? ⟨g, off + 1, none⟩ = some (.int .i64 x)) (hno : ¬ (0 ≤ x / 65536 ∧ x / 65536 < 32)) :
    Calls Tryz.prog 112 #[.pointer (some s), .slice p n n, .slice (some ⟨g, off, none⟩) 2 c] w fun e w' => e = .returned (.tuple #[.slice none 0 0, .int .i64 170]) ∧ Kp [] w w' := by
  have HP := Lib.hid (place_calls x h1 h2)
  rw [show (decide (0 ≤ x / 65536) && decide (x / 65536 < 32)) = false by rw [← Bool.not_eq_true]; simpa using hno] at HP
  generalize x / 65536 = i at *
  clear hno
  go_enter Tryz.func112, Tryz.ntmps112
  go_wp2_with fail
  refine (HP.out w).mono ?_; rintro e w1 ⟨rfl, rfl⟩
  go_wp2_with fail
  go_ret2
  exact ⟨by first | rfl | simp, Kp.refl _ _⟩
theorem StS.putStore {w : World} {s base : Nat} {vl vd : Value} {l st dr : List Int} (h : StS w s base vl l st vd dr) (i : Nat) (hi : i < 32) (y : Int) : StS (w.setCell ⟨s, i + 1, none⟩ (.int .i64 y)) s base vl l (st.set i y) vd dr := by
  obtain ⟨c1, c2, c3, c4, c5, c6, c7⟩ := h
  have hk : Kp [s] w (w.setCell ⟨s, i + 1, none⟩ (.int .i64 y)) := (Kp.refl _ _).setCell (.inl (by simp)) _
  refine ⟨?_, by simpa using c2, c3, c4.kp hk (fun t ht => by simp at ht; subst ht; exact c5), c5, c6.kp hk (fun t ht => by simp at ht; subst ht; exact fun e => (c7 _ e).1 rfl), fun b hb => by obtain ⟨x1, x2, x3, x4⟩ := c7 b hb; exact ⟨x1, x2, x3, Nat.lt_of_lt_of_le x4 hk.size⟩⟩
  rw [heap_setCell_same w s (i + 1) _ _ (.int .i64 y) c1]
  congr 2
  simp only [List.setIfInBounds_toArray, List.set_cons_succ]
  rw [List.set_append_left _ _ (by simp; omega), List.map_set]
set_option maxRecDepth 100000 in
set_option maxHeartbeats 2000000 in
theorem put_calls (s base : Nat) (vl vd : Value) (l st dr : List Int) (p : Option Addr) (n : Nat) (g off c : Nat) (x y : Int) (h1 : -2147483648 ≤ x) (h2 : x ≤ 2147483648) (w : World) (hs : StS w s base vl l st vd dr) (hy : w.cell? ⟨g, off, none⟩ = some (.int .i64 y)) (hx : w.cell? ⟨g, off + 1, none⟩ = some (.int .i64 x)) (hok : 0 ≤ x / 65536 ∧ x / 65536 < 32) :
    Calls Tryz.prog 112 #[.pointer (some ⟨s, 0, none⟩), .slice p n n, .slice (some ⟨g, off, none⟩) 2 c] w fun e w' => e = .returned (.tuple #[.slice p n n, .int .i64 0]) ∧ ∃ w1, Kp [] w w1 ∧ w' = w1.setCell ⟨s, (x / 65536).toNat + 1, none⟩ (.int .i64 y) := by
  obtain ⟨hok1, hok2⟩ := hok
  obtain ⟨i, hi⟩ : ∃ i : Nat, (i : Int) = x / 65536 := ⟨(x / 65536).toNat, by omega⟩
  have hi2 : (x / 65536).toNat = i := by omega
  rw [hi2]
  have HP := Lib.hid (place_calls x h1 h2)
  rw [decide_eq_true hok1, decide_eq_true hok2, ← hi] at HP
  have hiI : (i : Int) < 32 := by omega
  have hiN : i < 32 := by omega
  have HS := Lib.hid hs
  have q0 := KW.cell hy
  clear hs hok1 hok2 hi2 hi
  go_enter Tryz.func112, Tryz.ntmps112
  go_wp2_with fail
  refine (HP.out w).mono ?_; rintro e w1 ⟨rfl, rfl⟩
  go_wp2_with fail
  refine wp_region_kqt 8 (by kernel_rfl) (by kernel_rfl) ?_
  simp only [List.take_succ_cons, List.take_zero, List.drop_succ_cons, List.drop_zero]
  repeat (go_big_quiet_step (fail))
  refine wpQuiet_nil ?_
  intro w2 hw'
  obtain ⟨⟨_, hkw2⟩, rfl⟩ := hw'
  try dsimp only
  have hs2 := HS.out.kp0 hkw2
  have c1 := hs2.store i hiN
  have f1 := hs2.frozen (1 + i)
  rw [Nat.add_comm] at c1
  clear q0 hs2
  go_wp2_with fail
  go_ret2
  exact ⟨rfl, _, hkw2, by first | rfl | simp [Nat.add_comm]⟩
end Go.Proofs.YtfgpocpfapnkkaaGreat

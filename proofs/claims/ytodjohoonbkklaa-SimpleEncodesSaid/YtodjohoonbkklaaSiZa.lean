/- simple: the reference's unit and step; three rows of bytes side by side. -/
import Derived.Test.YtodjohoonbkklaaSiN
import Derived.Test.YtodjohoonbkklaaSiS
import Derived.Test.YtodjohoonbkklaaWireD
import Derived.Deep.DeepCutAuto
namespace Go.Proofs.Ytodjohoonbkklaa
open Go.RowKit
set_option linter.unusedVariables false
set_option linter.unusedSimpArgs false
set_option maxRecDepth 100000 in
theorem runit_calls (x : Int) (h0 : -9223372036854775808 ≤ x) (h1 : x ≤ 9223372036854775807) (w : World) : Calls Try.prog 106 #[.int .i64 x] w fun e w' => e = .returned (.bool (unitsB x)) ∧ w = w' := by
  have HB := Lib.hid (tdiv_small x h0 h1)
  by_cases hm : x.tmod 65536 = 0
  · have hm2 : (x.tmod 65536 == 0) = true := by simp [hm]
    by_cases hg : -32768 ≤ x.tdiv 65536
    · have hg2 : decide (-32768 ≤ x.tdiv 65536) = true := decide_eq_true hg
      by_cases hl : x.tdiv 65536 < 32768
      · have hl2 : decide (x.tdiv 65536 < 32768) = true := decide_eq_true hl
        have HE : Hid (unitsB x = true) := by show _ = _; unfold unitsB unitB; rw [decide_eq_true hm, hg2, decide_eq_true (by omega : x.tdiv 65536 ≤ 32767)]; rfl
        rw [HE.out]
        clear hm hg hl HE
        go_enter Try.func106, Try.ntmps106
        go_wp2_with fail
        go_ret
        exact ⟨rfl, rfl⟩
      · have hl2 : decide (x.tdiv 65536 < 32768) = false := decide_eq_false hl
        have HE : Hid (unitsB x = false) := by show _ = _; unfold unitsB unitB; rw [decide_eq_true hm, hg2, decide_eq_false (by omega : ¬ x.tdiv 65536 ≤ 32767)]; rfl
        rw [HE.out]
        clear hm hg hl HE
        go_enter Try.func106, Try.ntmps106
        go_wp2_with fail
        go_ret
        exact ⟨rfl, rfl⟩
    · have hg2 : decide (-32768 ≤ x.tdiv 65536) = false := decide_eq_false hg
      have HE : Hid (unitsB x = false) := by show _ = _; unfold unitsB unitB; rw [decide_eq_true hm, hg2]; rfl
      rw [HE.out]
      clear hm hg HE
      go_enter Try.func106, Try.ntmps106
      go_wp2_with fail
      go_ret
      exact ⟨rfl, rfl⟩
  · have hm2 : (x.tmod 65536 == 0) = false := by simp [hm]
    have HE : Hid (unitsB x = false) := by show _ = _; unfold unitsB; rw [decide_eq_false hm]; rfl
    rw [HE.out]
    clear hm HE
    go_enter Try.func106, Try.ntmps106
    go_wp2_with fail
    go_ret
    exact ⟨rfl, rfl⟩
/-- What step leaves. -/
def StpP (w : World) (sh sa d : Int) (e : Ending) (w' : World) : Prop :=
  ∃ v', e = .returned (.tuple #[.int .i64 (putF sh sa d), v', .bool (putK d)]) ∧ IsInts .u8 w' v' (putB d) ∧ Kp [] w w' ∧ ∀ k, blockOf v' = some k → w.heap.size ≤ k
set_option maxRecDepth 100000 in
set_option maxHeartbeats 2000000 in
theorem rstep_calls (sh sa d : Int) (h0 : -9223372036854775808 < d) (h1 : d ≤ 9223372036854775807) (w : World) : Calls Try.prog 107 #[.int .i64 d, .int .i64 sh, .int .i64 sa] w (StpP w sh sa d) := by
  by_cases c0 : d = 0
  · subst c0
    go_enter Try.func107, Try.ntmps107
    go_wp2_with fail
    go_ret3
    exact ⟨_, rfl, IsInts.nil _ _, Kp.refl _ _, by simp⟩
  · have hz : (d == 0) = false := by simp [c0]
    by_cases c1 : 0 < d ∧ d ≤ 255
    · have HE : Hid (putF sh sa d = bits .or .i64 sh sa ∧ putK d = true ∧ putB d = [d]) := by
        show _ ∧ _ ∧ _; unfold putF putK putB; rw [if_neg c0, if_neg c0, if_neg c0, if_pos c1, if_pos c1, if_pos c1]; exact ⟨rfl, rfl, rfl⟩
      obtain ⟨c2, c3⟩ := c1
      have hd1 : decide (0 < d) = true := decide_eq_true c2
      have hd2 : decide (d < 256) = true := decide_eq_true (by omega)
      have hw : IntKind.u8.wrap d = d := by rw [byte_wrap]; omega
      go_enter Try.func107, Try.ntmps107
      go_wp2_with fail
      go_ret3
      unfold StpP
      obtain ⟨e1, e2, e3⟩ := HE.out
      rw [e1, e2, e3]
      exact ⟨_, rfl, IsInts.litT .u8 5 [d] (w := w) (Kp.refl _ _) _ _ rfl rfl (by decide), (Kp.refl _ _).alloc _, by intro b hb; simp at hb; omega⟩
    · by_cases c2 : d < 0 ∧ -255 ≤ d
      · have HE : Hid (putF sh sa d = sh ∧ putK d = true ∧ putB d = [-d]) := by
          show _ ∧ _ ∧ _; unfold putF putK putB; rw [if_neg c0, if_neg c0, if_neg c0, if_neg c1, if_neg c1, if_neg c1, if_pos c2, if_pos c2, if_pos c2]; exact ⟨rfl, rfl, rfl⟩
        obtain ⟨c3, c4⟩ := c2
        have hd0 : decide (0 < d) = false := decide_eq_false (by omega)
        have hd1 : decide (d < 0) = true := decide_eq_true c3
        have hd2 : decide (-256 < d) = true := decide_eq_true (by omega)
        have hw : IntKind.u8.wrap (-d) = -d := by rw [byte_wrap]; omega
        clear c1
        go_enter Try.func107, Try.ntmps107
        go_wp2_with fail
        go_ret3
        unfold StpP
        obtain ⟨e1, e2, e3⟩ := HE.out
        rw [e1, e2, e3]
        exact ⟨_, rfl, IsInts.litT .u8 5 [-d] (w := w) (Kp.refl _ _) _ _ rfl rfl (by decide), (Kp.refl _ _).alloc _, by intro b hb; simp at hb; omega⟩
      · have HE : Hid (putF sh sa d = 0 ∧ putK d = unitB d ∧ putB d = bytesN 2 d) := by
          show _ ∧ _ ∧ _; unfold putF putK putB; rw [if_neg c0, if_neg c0, if_neg c0, if_neg c1, if_neg c1, if_neg c1, if_neg c2, if_neg c2, if_neg c2]; exact ⟨rfl, rfl, by simp [bytesN]⟩
        have HU : Hid (unitB d = (decide (-32768 ≤ d) && decide (d < 32768))) := by
          show _ = _; unfold unitB; congr 1; rw [decide_eq_decide]; omega
        have HR := Lib.hid (fun W => rbytes_calls 2 d (by decide) (by decide) (by omega) h1 W)
        have hcs : (decide (0 < d) = true ∧ decide (d < 256) = false ∧ decide (d < 0) = false ∧ decide (-32768 ≤ d) = true) ∨ (decide (0 < d) = false ∧ decide (d < 0) = true ∧ decide (-256 < d) = false ∧ decide (d < 32768) = true) := by
          by_cases h : 0 < d
          · exact .inl ⟨decide_eq_true h, decide_eq_false (by omega), decide_eq_false (by omega), decide_eq_true (by omega)⟩
          · exact .inr ⟨decide_eq_false h, decide_eq_true (by omega), decide_eq_false (by omega), decide_eq_true (by omega)⟩
        clear c1 c2
        rcases hcs with ⟨k1, k2, k3, k4⟩ | ⟨k1, k2, k3, k4⟩
        · obtain ⟨B, hB⟩ : ∃ B, decide (d < 32768) = B := ⟨_, rfl⟩
          rw [hB, k4] at HU
          go_enter Try.func107, Try.ntmps107
          go_wp2_with fail
          refine (HR.out _).mono ?_; rintro e w2 ⟨v, rfl, hown, hk⟩
          have HK := Lib.hid hk
          have HI := Lib.hid (IsInts.owned hown)
          have HG : Hid (∀ k, blockOf v = some k → w.heap.size ≤ k) := fun k hk => by have := own_ge hown k (blockOf_own hk); simpa using this
          clear hown hk HR
          go_wp2_with fail
          go_ret3
          unfold StpP
          obtain ⟨e1, e2, e3⟩ := HE.out
          rw [e1, e2, e3, HU.out]
          exact ⟨_, by first | rfl | simp, HI.out, Kp.trans (by (repeat (first | exact Kp.refl _ _ | assumption | refine Kp.drew ?_ | refine Kp.drewN ?_ _ | refine Kp.alloc ?_ _ | (refine Kp.setCell ?_ (by first | (left; simp; done) | (right; simp; try omega)) _) | (refine Kp.trans' ?_ (by assumption) (by simp; try omega))))) HK.out, HG.out⟩
        · obtain ⟨B, hB⟩ : ∃ B, decide (-32768 ≤ d) = B := ⟨_, rfl⟩
          rw [hB, k4] at HU
          cases B
          all_goals
            go_enter Try.func107, Try.ntmps107
            go_wp2_with fail
            refine (HR.out _).mono ?_; rintro e w2 ⟨v, rfl, hown, hk⟩
            have HK := Lib.hid hk
            have HI := Lib.hid (IsInts.owned hown)
            have HG : Hid (∀ k, blockOf v = some k → w.heap.size ≤ k) := fun k hk => by have := own_ge hown k (blockOf_own hk); simpa using this
            clear hown hk HR
            go_wp2_with fail
            go_ret3
            unfold StpP
            obtain ⟨e1, e2, e3⟩ := HE.out
            rw [e1, e2, e3, HU.out]
            exact ⟨_, by first | rfl | simp, HI.out, Kp.trans (by (repeat (first | exact Kp.refl _ _ | assumption | refine Kp.drew ?_ | refine Kp.drewN ?_ _ | refine Kp.alloc ?_ _ | (refine Kp.setCell ?_ (by first | (left; simp; done) | (right; simp; try omega)) _) | (refine Kp.trans' ?_ (by assumption) (by simp; try omega))))) HK.out, HG.out⟩
section
variable {P : Program} {w : World} {ops : Array Oper} {rest : List Oper} {o : Oper} {a : Act} {Q : Exit → Act → World → Prop}
/-- Appending whatever integers; where the new row lies. -/
theorem wpList_appM (hgd : o.guard = none) (s x : Operand) (T E : TypeId) (k : IntKind) (bytes : Nat) (ht : P.underlying T = some (.slice E)) (hinfo : (P.info? E).map (fun i => (i.zero, i.size, i.bytes)) = some (some (.int k 0), 1, bytes)) (hb1 : 1 ≤ bytes)
    (ho : o.op = .call { callee := .builtin .append, args := #[s, x], argTypes := #[T, T] }) (base : Nat) (v : Value) (l : List Int) (n : Nat) (hn : l.length = n) (hs : a.eval s = v) (hown : w.ownsRow base E 1 v n (l.map (Value.int k)))
    (xv : Value) (zs : List Int) (hx : a.eval x = xv) (hsrc : IsInts k w xv zs) (hl : (n + zs.length) * bytes ≤ 140737488355328) (hbase : base ≤ w.heap.size)
    (h : ∀ v' w', w'.ownsRow base E 1 v' (n + zs.length) ((l ++ zs).map (Value.int k)) → Kp v.ownBlock.toList w w' → (∀ k, v'.ownBlock = some k → v.ownBlock = some k ∨ w.heap.size ≤ k) → wpList P ops Q rest (a.put o.dst v') w') : wpList P ops Q (o :: rest) a w := by
  obtain ⟨i, hi, hz, hsize, hby⟩ := info_parts hinfo
  by_cases h0 : zs.length = 0
  · obtain rfl : zs = [] := List.length_eq_zero_iff.1 h0
    obtain ⟨p, c, rfl⟩ := hsrc.form
    refine wpList_append_nothing hgd s x T ho base E i 1 ht hi v n _ hs hown p c hx ?_
    exact h v w (by simpa using hown) (Kp.refl _ _) (fun k hk => .inl hk)
  · have h63 : n + zs.length ≤ maxLen := by
      have := Nat.le_mul_of_pos_right (n + zs.length) hb1
      simp only [maxLen]; omega
    rcases hsrc with ⟨⟨ad, rfl⟩, rfl⟩ | ⟨g, off, c, rfl, h2, h3, h4⟩
    · exact absurd rfl h0
    · refine wpList_append_lies w hgd s x T ho base E i (.int k 0) 1 bytes ht hi hz hsize hby rfl (by decide) v n (l.map (Value.int k)) hs hown ⟨g, off, none⟩ zs.length c (zs.map (Value.int k)) hx (by simp) (fun j u hu => ?_) (oneCell_ints _ _) (by omega) h63 hl hbase w.heap.size rfl ?_
      · rw [add_lit]
        rw [List.getElem?_map] at hu
        by_cases hj : j < zs.length
        · rw [List.getElem?_eq_getElem hj] at hu
          rw [h4 j hj, List.getD_eq_getElem?_getD, List.getElem?_eq_getElem hj]
          simpa using hu
        · rw [List.getElem?_eq_none (by omega)] at hu; simp at hu
      · intro g c w' r1 r2 r3 _
        refine h _ w' (by rw [List.map_append]; exact r1) (Kp.grown (Kp.refl _ _) r2 (fun k hk => .inl (by rw [hk]; simp))) (fun k hk => ?_)
        have : g = k := by simpa [Value.ownBlock] using hk
        subst this
        rcases r3 with r3 | r3
        · exact .inl r3
        · exact .inr (by rw [r3]; exact Nat.le_refl _)
end
/-- Three rows of bytes, no two in one block. -/
def ThR (W : World) (H : Nat) (f vx vy : Value) (F X Y : List Int) : Prop :=
  W.ownsRow H 5 1 f F.length (F.map (Value.int .u8)) ∧ W.ownsRow H 5 1 vx X.length (X.map (Value.int .u8)) ∧ W.ownsRow H 5 1 vy Y.length (Y.map (Value.int .u8)) ∧
    (∀ k, f.ownBlock = some k → vx.ownBlock ≠ some k ∧ vy.ownBlock ≠ some k) ∧ ∀ k, vx.ownBlock = some k → vy.ownBlock ≠ some k
theorem ThR.nil (W : World) (H : Nat) : ThR W H (.slice none 0 0) (.slice none 0 0) (.slice none 0 0) [] [] [] :=
  ⟨World.ownsRow_nil _ _ _ _, World.ownsRow_nil _ _ _ _, World.ownsRow_nil _ _ _ _, by simp [Value.ownBlock], by simp [Value.ownBlock]⟩
theorem ThR.kp0 {W W' : World} {H : Nat} {f vx vy : Value} {F X Y : List Int} (h : ThR W H f vx vy F X Y) (hk : Kp [] W W') : ThR W' H f vx vy F X Y :=
  ⟨hk.row h.1 (by simp), hk.row h.2.1 (by simp), hk.row h.2.2.1 (by simp), h.2.2.2⟩
theorem ThR.rot {W : World} {H : Nat} {f vx vy : Value} {F X Y : List Int} (h : ThR W H f vx vy F X Y) : ThR W H vx vy f X Y F :=
  ⟨h.2.1, h.2.2.1, h.1, fun k hk => ⟨h.2.2.2.2 k hk, fun e => (h.2.2.2.1 k e).1 hk⟩, fun k hk e => (h.2.2.2.1 k e).2 hk⟩
theorem ThR.push {W W' : World} {H n : Nat} {f f' vx vy : Value} {F X Y N : List Int} (h : ThR W H f vx vy F X Y) (hn : (F ++ N).length = n) (hown : W'.ownsRow H 5 1 f' n ((F ++ N).map (Value.int .u8)))
    (hk : Kp f.ownBlock.toList W W') (hb : ∀ k, f'.ownBlock = some k → f.ownBlock = some k ∨ W.heap.size ≤ k) : ThR W' H f' vx vy (F ++ N) X Y := by
  obtain ⟨h1, h2, h3, h4, h5⟩ := h
  have hT : ∀ t ∈ f.ownBlock.toList, f.ownBlock = some t := fun t ht => by simpa using ht
  refine ⟨by rw [hn]; exact hown, hk.row h2 (fun t ht e => (h4 t (hT t ht)).1 e), hk.row h3 (fun t ht e => (h4 t (hT t ht)).2 e), fun k hk' => ⟨fun e => ?_, fun e => ?_⟩, h5⟩
  · have hlt := (h2.lt k e).2
    rcases hb k hk' with h | h
    · exact (h4 k h).1 e
    · omega
  · have hlt := (h3.lt k e).2
    rcases hb k hk' with h | h
    · exact (h4 k h).2 e
    · omega
end Go.Proofs.Ytodjohoonbkklaa

/- charset.Put: the bytes of a charset. (Written by wip/charset/genput.py.) -/
import Derived.Test.YthmokldmdcjklaaChPlainP
import Derived.Test.YthmokldmdcjklaaChB
import Derived.Deep.RegionHeld3
import Derived.Deep.AppendLies
import Derived.Lib.Hide
namespace Go.Proofs.Ythmokldmdcjklaa
open Go.RowKit
set_option linter.unusedVariables false
set_option linter.unusedSimpArgs false
/-- Where a put stands in memory: the numbers still to come, behind the captured variable; the bytes so far, in a row of its own. -/
def PutSt (w wr : World) (bx : Nat) (v' : Value) (rest acc : List Int) (v6 : Value) : Prop :=
  wr.heap[bx]? = some (.cells #[v'] 24 (0, 0)) ∧ IsInts .i64 wr v' rest ∧ (∀ b, blockOf v' = some b → b < bx) ∧
  wr.ownsRow (bx + 1) 5 1 v6 acc.length (acc.map (Value.int .u8)) ∧ Kp [] w wr ∧ bx + 1 ≤ wr.heap.size ∧ w.heap.size = bx
theorem PutSt.app {w wr wq w2 : World} {bx : Nat} {v' : Value} {rest acc news : List Int} {v6 v7 : Value} (h : PutSt w wr bx v' rest acc v6) (hq : Kp [] wr wq)
    (hown : w2.ownsRow (bx + 1) 5 1 v7 (acc.length + news.length) (acc.map (Value.int .u8) ++ news.map (Value.int .u8))) (hg : wq.grownBy w2 v6.ownBlock) : PutSt w w2 bx v' rest (acc ++ news) v7 := by
  obtain ⟨h1, h2, h3, h4, h5, h6, h7⟩ := h
  have hge := own_ge h4
  have hk : Kp [] w w2 := Kp.grown (h5.trans hq) hg (fun k hk => .inr (by have := hge k hk; omega))
  have hk2 : Kp (v6.ownBlock.toList) wr w2 := Kp.grown (hq.more (fun s hs => nomatch hs)) hg (fun k hk => .inl (by rw [hk]; simp))
  have hnot : bx ∉ v6.ownBlock.toList := by
    intro hm; cases hv : v6.ownBlock with
    | none => simp [hv] at hm
    | some b => simp [hv] at hm; have := hge _ hv; omega
  have hnot2 : ∀ s ∈ v6.ownBlock.toList, blockOf v' ≠ some s := by
    intro s hs; cases hv : v6.ownBlock with
    | none => simp [hv] at hs
    | some b => simp [hv] at hs; subst hs; intro e; have := h3 _ e; have := hge _ hv; omega
  exact ⟨hk2.heap h1 hnot, h2.kp hk2 hnot2, h3, by simpa using hown, hk, Nat.le_trans h6 hk2.size, h7⟩
theorem PutSt.kp {w wr w2 : World} {bx : Nat} {v' : Value} {rest acc : List Int} {v6 : Value} (h : PutSt w wr bx v' rest acc v6) (hq : Kp [] wr w2) : PutSt w w2 bx v' rest acc v6 := by
  obtain ⟨h1, h2, h3, h4, h5, h6, h7⟩ := h
  exact ⟨hq.heap h1 (by simp), h2.kp hq (by simp), h3, hq.row h4 (by simp), h5.trans hq, Nat.le_trans h6 hq.size, h7⟩
/-- Where the rest of a slice begins. -/
def cutOff (off n c : Nat) : Nat := if n = c then off else off + n
/-- The rest of a slice. -/
def cutV (v : Value) (n : Nat) : Value := match v with
  | .slice (some a) len c => .slice (some ⟨a.block, cutOff a.off n c, none⟩) (len - n) (c - n)
  | v => v
theorem blockOf_cut (v : Value) (n b : Nat) (h : blockOf (cutV v n) = some b) : blockOf v = some b := by
  unfold cutV at h
  split at h
  · rename_i a _ c
    obtain ⟨x, y, z⟩ := a
    simp at h ⊢
    exact ⟨by omega, h.2⟩
  · exact h
theorem run_cut (g off N c n : Nat) (i : Int) (hi : i = n) (h1 : n ≤ N) (h2 : N ≤ c) (hc : c ≤ maxLen) (w : World) :
    (Instr.slice 24 (.slice (some ⟨g, off, none⟩) N c) (some (.int .i64 i)) none none).run Try.prog w = .ok (.slice (some ⟨g, cutOff off n c, none⟩) (N - n) (c - n)) w := by
  subst hi
  unfold maxLen at hc
  go_simp
  unfold cutOff
  by_cases h : c = n <;> simp [h, eq_comm]
theorem IsInts.drop {k : IntKind} {w : World} {v : Value} {zs : List Int} (h : IsInts k w v zs) (n : Nat) (hn : n ≤ zs.length) : IsInts k w (cutV v n) (zs.drop n) := by
  rcases h with ⟨⟨ad, rfl⟩, rfl⟩ | ⟨g, off, c, rfl, h1, h2, h3⟩
  · refine .inl ⟨?_, by simp⟩
    cases ad <;> simp [cutV]
  · by_cases hc : n = c
    · have hl : n = zs.length := by omega
      refine .inr ⟨g, off, c - n, ?_, by simp; omega, by omega, fun i hi => ?_⟩
      · simp [cutV, cutOff, hc]
      · simp at hi; omega
    · refine .inr ⟨g, off + n, c - n, ?_, by simp; omega, by omega, fun i hi => ?_⟩
      · simp [cutV, cutOff, hc]
      · simp at hi
        have := h3 (n + i) (by omega)
        rw [← Nat.add_assoc] at this
        rw [this]; simp [List.getD_eq_getElem?_getD]
theorem PutSt.box {w wr : World} {bx : Nat} {v' : Value} {rest acc : List Int} {v6 : Value} (h : PutSt w wr bx v' rest acc v6) (n : Nat) (hn : n ≤ rest.length) :
    PutSt w (wr.setCell ⟨bx, 0, none⟩ (cutV v' n)) bx (cutV v' n) (rest.drop n) acc v6 := by
  obtain ⟨h1, h2, h3, h4, h5, h6, h7⟩ := h
  have hk : Kp [bx] wr (wr.setCell ⟨bx, 0, none⟩ (cutV v' n)) := (Kp.refl _ _).setCell (.inl (by simp)) _
  have hb : ∀ b, blockOf (cutV v' n) = some b → blockOf v' = some b := blockOf_cut v' n
  refine ⟨one_setCell h1, (h2.kp hk (by intro s hs e; simp at hs; subst hs; have := h3 _ e; omega)).drop n hn, fun b e => h3 b (hb b e), hk.row h4 (by intro s hs e; simp at hs; subst hs; have := own_ge h4 _ e; omega), h5.setCell (.inr (by simp; omega)) _, by simp [World.setCell]; exact h6, h7⟩
theorem news_of_heap {w : World} {n : Nat} {cs : List Value} {e : TypeId} (h : w.heap[n]? = some (.cells cs.toArray e (0, 0))) : ∀ j u, cs[j]? = some u → w.cell? ⟨n, 0 + j, none⟩ = some u := by
  intro j u hu
  rw [cell_of_row w n _ cs.toArray e (0, 0) h, Nat.zero_add]
  simpa using hu
set_option maxRecDepth 100000 in
set_option maxHeartbeats 4000000 in
theorem put_f0 (g off c : Nat) (l : List Int) (w : World) (h3 : l.length ≤ c) (h4 : c ≤ maxLen) (hz2 : Hid (IsInts .i64 w (.slice (some ⟨g, off, none⟩) l.length c) l)) (h1 : 1 ≤ l.length) (h2 : l.length ≤ 65535)
    (hc0 : w.cell? ⟨g, off, none⟩ = some (.int .i64 0)) (HB : Hid (l.all (inB 65535) = true)) (hg : g < w.heap.size) :
    Calls Try.prog 18 #[.slice (some ⟨g, off, none⟩) l.length c, .int .i64 0] w (Loaded .u8 (some (csPut l 0)) 0 w) := by
  go_enter Try.func18, Try.ntmps18
  go_wp2_with fail
  refine (count_yes _ (by omega) (by omega) _).mono ?_; rintro e w' ⟨rfl, rfl⟩
  go_wp2_with fail
  refine (within_calls _ l 65535 _ (hz2.out.kp (S := []) ((Kp.refl _ _).alloc _) (by simp))).mono ?_; rintro e w1 ⟨rfl, hk1⟩
  rw [HB.out]
  have hst : PutSt w w1 w.heap.size (.slice (some ⟨g, off, none⟩) l.length c) l [] (.slice none 0 0) := by
    refine PutSt.kp (wr := w.alloc (.cells #[.slice (some ⟨g, off, none⟩) l.length c] 24)) ⟨heap_alloc_new w _, hz2.out.kp (S := []) ((Kp.refl _ _).alloc _) (by simp), fun b hb => by simp [Value.ownBlock] at hb; omega, World.ownsRow_nil _ _ _ _, by (repeat (first | exact Kp.refl _ _ | assumption | refine Kp.drew ?_ | refine Kp.drewN ?_ _ | refine Kp.alloc ?_ _ | (refine Kp.setCell ?_ (by first | (left; simp; done) | (right; simp; try omega)) _) | (refine Kp.trans' ?_ (by assumption) (by simp; try omega)))), by simp, rfl⟩ hk1
  have hbx : w.heap.size < w1.heap.size := by have := hst.2.2.2.2.2.1; omega
  generalize hbe : w.heap.size = bx at *
  have hcx := cell_of_one hst.1
  have hfx := free_of_one hst.1
  have i0 : ∀ w, (Instr.index 83 (.agg #[.int .i64 0, .int .i64 255, .int .i64 65535]) (.int .i64 0)).run Try.prog w = .ok (.int .i64 0) w := fun _ => by kernel_rfl
  have hs1 := run_cut g off l.length c 1 1 rfl h1 h3 h4
  have HR : Hid (PutAt 0 (csPut l 0) [((0 : Nat) : Int)] (l.drop 1)) := putAt_start l 0
  have HBB : Hid (∀ x ∈ l, 0 ≤ x ∧ x ≤ 65535) := by
    intro x hx; have := List.all_eq_true.1 HB.out x hx; simpa [inB] using this
  go_wp2_with fail
  have hst2 : PutSt w ((w1.setCell ⟨bx, 0, none⟩ (.slice (some ⟨g, cutOff off 1 c, none⟩) (l.length - 1) (c - 1))).alloc (.cells #[.int .u8 0] 5)) bx (.slice (some ⟨g, cutOff off 1 c, none⟩) (l.length - 1) (c - 1)) (l.drop 1) [((0 : Nat) : Int)] (.slice (some ⟨w1.heap.size, 0, none⟩) 1 1) := by
    obtain ⟨p1, p2, p3, p4, p5, p6, p7⟩ := hst.box 1 h1
    exact ⟨(Kp.refl [] _).alloc _ |>.heap p1 (by simp), p2.kp (S := []) ((Kp.refl _ _).alloc _) (by simp), p3, own_lit _ _ _ _ 1 1 #[.int .u8 0] (by simp) (by omega) (by decide) rfl, p5.alloc _, by simp at p6 ⊢; omega, p7⟩
  clear hst hk1 hz2 HB hcx hfx hc0 hs1
  generalize Value.slice (some ⟨g, cutOff off 1 c, none⟩) (l.length - 1) (c - 1) = vs at *
  go_loopw [6, 8] (fun v6 _ wr => ∃ (v' : Value) (rest acc : List Int), PutSt w wr bx v' rest acc v6 ∧ PutAt 0 (csPut l 0) acc rest ∧ (∀ x ∈ rest, 0 ≤ x ∧ x ≤ 65535) ∧ rest.length ≤ 65535 ∧ acc.length + 4 * rest.length ≤ 262145) (fun _ _ wr => vlen ((wr.cell? ⟨bx, 0, none⟩).getD undef))
  case atStart => exact ⟨vs, l.drop 1, [((0 : Nat) : Int)], hst2, HR.out, fun x hx => HBB.out x (List.mem_of_mem_drop hx), by simp; omega, by simp; omega⟩
  case round =>
    obtain ⟨v', rest, acc, hs, ha, hb, hl1, hl2⟩ := hrel
    have hcx := cell_of_one hs.1
    have hfx := free_of_one hs.1
    have HCX := Lib.hid hcx
    by_cases hr : rest = []
    · subst hr
      have hend := Lib.hid (putAt_end _ _ _ ha)
      have HS := Lib.hid hs
      have hi := hs.2.1
      clear hs ha hb
      rcases hi with ⟨⟨ad, rfl⟩, _⟩ | ⟨g1, o1, c1, rfl, q1, q2, q3⟩
      all_goals
        go_wp2_with fail
        go_ret2
        exact .inr ⟨acc, _, by rw [hend.out], rfl, IsInts.owned HS.out.2.2.2.1, HS.out.2.2.2.2.1, fun b hb => by have := own_geb HS.out.2.2.2.1 b hb; omega⟩
    · have hr1 : 1 ≤ rest.length := by cases rest with | nil => exact absurd rfl hr | cons a t => simp
      have HS := Lib.hid hs
      have HA := Lib.hid ha
      have HB2 := Lib.hid hb
      have hi := hs.2.1
      clear hs ha hb
      rcases hi with ⟨⟨ad, rfl⟩, rfl⟩ | ⟨g1, o1, c1, rfl, q1, q2, q3⟩
      · simp at hr
      · have q0 := q3 0 (by omega)
        rw [Nat.add_zero] at q0
        have hrun := Lib.hid (run_calls 53 Try.call53 (.pointer (some ⟨bx, 0, none⟩)) (fun i => rest.getD i 0 == rest.getD 0 0 + i) 0 (some ⟨g1, o1, none⟩) rest.length c1 hl1 hr1 wr (fun i _ hi wr' hk => put1_calls bx _ rest i hi wr' (hk.cell hcx (by simp)) (HS.out.2.1.kp hk (by simp)) HB2.out hl1))
        clear q3
        go_wp2_with fail
        refine Calls.mono hrun.out ?_; rintro e w2 ⟨rfl, hk2⟩
        clear hrun
        have hn : Hid (runGo (fun i => rest.getD i 0 == rest.getD 0 0 + i) 0 (rest.length - 1) 1 = runL 0 rest) := rfl
        rw [hn.out]
        clear hn
        have hn1 := runL_ge 0 rest
        have hn2 := runL_le 0 rest hr1
        have hcx2 := hk2.cell hcx (by simp)
        have hs2 := HS.out.kp hk2
        have hfx2 := free_of_one hs2.1
        have q02 := hk2.cell q0 (by simp)
        clear hcx hfx q0
        have hx0 : 0 ≤ rest.getD 0 0 ∧ rest.getD 0 0 ≤ 65535 := HB2.out _ (by rw [List.getD_eq_getElem?_getD, List.getElem?_eq_getElem (by omega)]; exact List.getElem_mem _)
        have HS2 := Lib.hid hs2
        clear hs2
        have hstep := Lib.hid (putAt_step 0 _ _ _ HA.out hr)
        generalize hne : runL 0 rest = n at *
        generalize hxe : rest.getD 0 0 = x0 at *
        have hns := run_cut g1 o1 rest.length c1 n n rfl hn2 q1 q2
        have hm1 : ((n : Int) - 1) ≤ 65534 := by omega
        clear hne hxe HS HA
        go_wp2_with fail
        have hbx2 : bx < w2.heap.size := HS2.out.2.2.2.2.2.1
        have hg1 : g1 < bx := HS2.out.2.2.1 g1 ((blockOf_some _ _ _ _ _ _).2 ⟨by omega, rfl⟩)
        have hnb : u6.ownBlock ≠ some bx := fun e => by have := own_ge HS2.out.2.2.2.1 _ e; omega
        have hng : u6.ownBlock ≠ some g1 := fun e => by have := own_ge HS2.out.2.2.2.1 _ e; omega
        go_region_held3 (fun w' => w'.cell? ⟨bx, 0, none⟩ = some (.slice (some ⟨g1, o1, none⟩) rest.length c1) ∧ w'.cell? ⟨g1, o1, none⟩ = some (.int .i64 x0))
          (first
            | go_keep
            | (go_split_ands
               refine ⟨?_, ?_⟩
               · (rw [hgrow.cell_far _ (by simp; omega) (Ne.symm hnb)]; assumption)
               · (rw [hgrow.cell_far _ (by simp; omega) (Ne.symm hng)]; assumption)))
          ((refine step_app (by rfl) _ _ 22 (by rfl) (bx + 1) 5 (.int .u8 0) 1 1 Try.underlying22 infoByte rfl (by decide) (by decide) u6 acc.length (acc.map (Value.int .u8)) (by rfl) ((HS2.out.kp (by (repeat (first | exact Kp.refl _ _ | assumption | refine Kp.drew ?_ | refine Kp.drewN ?_ _ | refine Kp.alloc ?_ _ | (refine Kp.setCell ?_ (by first | (left; simp; done) | (right; simp; try omega)) _) | (refine Kp.trans' ?_ (by assumption) (by simp; try omega)))))).2.2.2.1) w2.heap.size 0 2 2 [.int .u8 (x0 / 256 % 256), .int .u8 (x0 % 256)] (by rfl) (by rfl) (news_of_heap (heap_alloc_new w2 _)) (by intro u hu; simp at hu; rcases hu with rfl | rfl <;> rfl) (by omega) (by simp; omega) ?_; intro v7 w3 hown hgrow))
        have hs3 : PutSt w w3 bx (.slice (some ⟨g1, o1, none⟩) rest.length c1) rest (acc ++ by2 x0) v7 := HS2.out.app (by (repeat (first | exact Kp.refl _ _ | assumption | refine Kp.drew ?_ | refine Kp.drewN ?_ _ | refine Kp.alloc ?_ _ | (refine Kp.setCell ?_ (by first | (left; simp; done) | (right; simp; try omega)) _) | (refine Kp.trans' ?_ (by assumption) (by simp; try omega))))) (news := by2 x0) hown hgrow
        have hl3 : (acc ++ by2 x0).length = acc.length + 2 := by simp [by2]
        have hl3b : (acc ++ by2 x0).length ≤ acc.length + 2 := by omega
        have HL3 := Lib.hid hl3
        clear hl3 hown hgrow hcx2 hfx2 q02 hk2 HS2 hnb hng
        have hcx3 := cell_of_one hs3.1
        have hfx3 := free_of_one hs3.1
        have HS3 := Lib.hid hs3
        clear hs3
        generalize hac : acc ++ by2 x0 = ac3 at *
        obtain ⟨p7, m7, rfl⟩ := slice_own HS3.out.2.2.2.1
        have HAC : Hid (ac3 = ac3 ++ moreB 0 n) := by unfold Hid; simp [moreB]
        have hlf : ac3.length + 4 * (rest.length - n) ≤ 262145 := by omega
        have hfin := Lib.hid (HS3.out.box n hn2)
        go_wp2_with fail
        go_roundw
        case rel =>
          have hrel2 : PutAt 0 (csPut l 0) ac3 (rest.drop n) := by rw [HAC.out]; exact hstep.out
          first
            | exact ⟨_, rest.drop n, ac3, hfin.out, hrel2, fun x hx => HB2.out x (List.mem_of_mem_drop hx), by simp; omega, by simp; omega⟩
            | (repeat apply Exists.intro; exact ⟨⟨_, rest.drop n, ac3, hfin.out, hrel2, fun x hx => HB2.out x (List.mem_of_mem_drop hx), by simp; omega, by simp; omega⟩, rfl⟩)
        case measure =>
          have e1 : (w3.setCell ⟨bx, 0, none⟩ (.slice (some ⟨g1, cutOff o1 n c1, none⟩) (rest.length - n) (c1 - n))).cell? ⟨bx, 0, none⟩ = some (.slice (some ⟨g1, cutOff o1 n c1, none⟩) (rest.length - n) (c1 - n)) := cell_of_one hfin.out.1
          have e2 : wr.cell? ⟨bx, 0, none⟩ = some (.slice (some ⟨g1, o1, none⟩) rest.length c1) := HCX.out
          rw [e1, e2]
          show rest.length - n < rest.length
          omega
set_option maxRecDepth 100000 in
set_option maxHeartbeats 4000000 in
theorem put_f1 (g off c : Nat) (l : List Int) (w : World) (h3 : l.length ≤ c) (h4 : c ≤ maxLen) (hz2 : Hid (IsInts .i64 w (.slice (some ⟨g, off, none⟩) l.length c) l)) (h1 : 1 ≤ l.length) (h2 : l.length ≤ 65535)
    (hc0 : w.cell? ⟨g, off, none⟩ = some (.int .i64 0)) (HB : Hid (l.all (inB 65535) = true)) (hg : g < w.heap.size) :
    Calls Try.prog 18 #[.slice (some ⟨g, off, none⟩) l.length c, .int .i64 1] w (Loaded .u8 (some (csPut l 1)) 0 w) := by
  go_enter Try.func18, Try.ntmps18
  go_wp2_with fail
  refine (count_yes _ (by omega) (by omega) _).mono ?_; rintro e w' ⟨rfl, rfl⟩
  go_wp2_with fail
  refine (within_calls _ l 65535 _ (hz2.out.kp (S := []) ((Kp.refl _ _).alloc _) (by simp))).mono ?_; rintro e w1 ⟨rfl, hk1⟩
  rw [HB.out]
  have hst : PutSt w w1 w.heap.size (.slice (some ⟨g, off, none⟩) l.length c) l [] (.slice none 0 0) := by
    refine PutSt.kp (wr := w.alloc (.cells #[.slice (some ⟨g, off, none⟩) l.length c] 24)) ⟨heap_alloc_new w _, hz2.out.kp (S := []) ((Kp.refl _ _).alloc _) (by simp), fun b hb => by simp [Value.ownBlock] at hb; omega, World.ownsRow_nil _ _ _ _, by (repeat (first | exact Kp.refl _ _ | assumption | refine Kp.drew ?_ | refine Kp.drewN ?_ _ | refine Kp.alloc ?_ _ | (refine Kp.setCell ?_ (by first | (left; simp; done) | (right; simp; try omega)) _) | (refine Kp.trans' ?_ (by assumption) (by simp; try omega)))), by simp, rfl⟩ hk1
  have hbx : w.heap.size < w1.heap.size := by have := hst.2.2.2.2.2.1; omega
  generalize hbe : w.heap.size = bx at *
  have hcx := cell_of_one hst.1
  have hfx := free_of_one hst.1
  have i0 : ∀ w, (Instr.index 83 (.agg #[.int .i64 0, .int .i64 255, .int .i64 65535]) (.int .i64 1)).run Try.prog w = .ok (.int .i64 255) w := fun _ => by kernel_rfl
  have hs1 := run_cut g off l.length c 1 1 rfl h1 h3 h4
  have HR : Hid (PutAt 1 (csPut l 1) [((1 : Nat) : Int)] (l.drop 1)) := putAt_start l 1
  have HBB : Hid (∀ x ∈ l, 0 ≤ x ∧ x ≤ 65535) := by
    intro x hx; have := List.all_eq_true.1 HB.out x hx; simpa [inB] using this
  go_wp2_with fail
  have hst2 : PutSt w ((w1.setCell ⟨bx, 0, none⟩ (.slice (some ⟨g, cutOff off 1 c, none⟩) (l.length - 1) (c - 1))).alloc (.cells #[.int .u8 1] 5)) bx (.slice (some ⟨g, cutOff off 1 c, none⟩) (l.length - 1) (c - 1)) (l.drop 1) [((1 : Nat) : Int)] (.slice (some ⟨w1.heap.size, 0, none⟩) 1 1) := by
    obtain ⟨p1, p2, p3, p4, p5, p6, p7⟩ := hst.box 1 h1
    exact ⟨(Kp.refl [] _).alloc _ |>.heap p1 (by simp), p2.kp (S := []) ((Kp.refl _ _).alloc _) (by simp), p3, own_lit _ _ _ _ 1 1 #[.int .u8 1] (by simp) (by omega) (by decide) rfl, p5.alloc _, by simp at p6 ⊢; omega, p7⟩
  clear hst hk1 hz2 HB hcx hfx hc0 hs1
  generalize Value.slice (some ⟨g, cutOff off 1 c, none⟩) (l.length - 1) (c - 1) = vs at *
  go_loopw [6, 8] (fun v6 _ wr => ∃ (v' : Value) (rest acc : List Int), PutSt w wr bx v' rest acc v6 ∧ PutAt 1 (csPut l 1) acc rest ∧ (∀ x ∈ rest, 0 ≤ x ∧ x ≤ 65535) ∧ rest.length ≤ 65535 ∧ acc.length + 4 * rest.length ≤ 262145) (fun _ _ wr => vlen ((wr.cell? ⟨bx, 0, none⟩).getD undef))
  case atStart => exact ⟨vs, l.drop 1, [((1 : Nat) : Int)], hst2, HR.out, fun x hx => HBB.out x (List.mem_of_mem_drop hx), by simp; omega, by simp; omega⟩
  case round =>
    obtain ⟨v', rest, acc, hs, ha, hb, hl1, hl2⟩ := hrel
    have hcx := cell_of_one hs.1
    have hfx := free_of_one hs.1
    have HCX := Lib.hid hcx
    by_cases hr : rest = []
    · subst hr
      have hend := Lib.hid (putAt_end _ _ _ ha)
      have HS := Lib.hid hs
      have hi := hs.2.1
      clear hs ha hb
      rcases hi with ⟨⟨ad, rfl⟩, _⟩ | ⟨g1, o1, c1, rfl, q1, q2, q3⟩
      all_goals
        go_wp2_with fail
        go_ret2
        exact .inr ⟨acc, _, by rw [hend.out], rfl, IsInts.owned HS.out.2.2.2.1, HS.out.2.2.2.2.1, fun b hb => by have := own_geb HS.out.2.2.2.1 b hb; omega⟩
    · have hr1 : 1 ≤ rest.length := by cases rest with | nil => exact absurd rfl hr | cons a t => simp
      have HS := Lib.hid hs
      have HA := Lib.hid ha
      have HB2 := Lib.hid hb
      have hi := hs.2.1
      clear hs ha hb
      rcases hi with ⟨⟨ad, rfl⟩, rfl⟩ | ⟨g1, o1, c1, rfl, q1, q2, q3⟩
      · simp at hr
      · have q0 := q3 0 (by omega)
        rw [Nat.add_zero] at q0
        have hrun := Lib.hid (run_calls 53 Try.call53 (.pointer (some ⟨bx, 0, none⟩)) (fun i => rest.getD i 0 == rest.getD 0 0 + i) 255 (some ⟨g1, o1, none⟩) rest.length c1 hl1 hr1 wr (fun i _ hi wr' hk => put1_calls bx _ rest i hi wr' (hk.cell hcx (by simp)) (HS.out.2.1.kp hk (by simp)) HB2.out hl1))
        clear q3
        go_wp2_with fail
        refine Calls.mono hrun.out ?_; rintro e w2 ⟨rfl, hk2⟩
        clear hrun
        have hn : Hid (runGo (fun i => rest.getD i 0 == rest.getD 0 0 + i) 255 (rest.length - 1) 1 = runL 1 rest) := rfl
        rw [hn.out]
        clear hn
        have hn1 := runL_ge 1 rest
        have hn2 := runL_le 1 rest hr1
        have hcx2 := hk2.cell hcx (by simp)
        have hs2 := HS.out.kp hk2
        have hfx2 := free_of_one hs2.1
        have q02 := hk2.cell q0 (by simp)
        clear hcx hfx q0
        have hx0 : 0 ≤ rest.getD 0 0 ∧ rest.getD 0 0 ≤ 65535 := HB2.out _ (by rw [List.getD_eq_getElem?_getD, List.getElem?_eq_getElem (by omega)]; exact List.getElem_mem _)
        have HS2 := Lib.hid hs2
        clear hs2
        have hstep := Lib.hid (putAt_step 1 _ _ _ HA.out hr)
        generalize hne : runL 1 rest = n at *
        generalize hxe : rest.getD 0 0 = x0 at *
        have hns := run_cut g1 o1 rest.length c1 n n rfl hn2 q1 q2
        have hm1 : ((n : Int) - 1) ≤ 65534 := by omega
        clear hne hxe HS HA
        go_wp2_with fail
        have hbx2 : bx < w2.heap.size := HS2.out.2.2.2.2.2.1
        have hg1 : g1 < bx := HS2.out.2.2.1 g1 ((blockOf_some _ _ _ _ _ _).2 ⟨by omega, rfl⟩)
        have hnb : u6.ownBlock ≠ some bx := fun e => by have := own_ge HS2.out.2.2.2.1 _ e; omega
        have hng : u6.ownBlock ≠ some g1 := fun e => by have := own_ge HS2.out.2.2.2.1 _ e; omega
        go_region_held3 (fun w' => w'.cell? ⟨bx, 0, none⟩ = some (.slice (some ⟨g1, o1, none⟩) rest.length c1) ∧ w'.cell? ⟨g1, o1, none⟩ = some (.int .i64 x0))
          (first
            | go_keep
            | (go_split_ands
               refine ⟨?_, ?_⟩
               · (rw [hgrow.cell_far _ (by simp; omega) (Ne.symm hnb)]; assumption)
               · (rw [hgrow.cell_far _ (by simp; omega) (Ne.symm hng)]; assumption)))
          ((refine step_app (by rfl) _ _ 22 (by rfl) (bx + 1) 5 (.int .u8 0) 1 1 Try.underlying22 infoByte rfl (by decide) (by decide) u6 acc.length (acc.map (Value.int .u8)) (by rfl) ((HS2.out.kp (by (repeat (first | exact Kp.refl _ _ | assumption | refine Kp.drew ?_ | refine Kp.drewN ?_ _ | refine Kp.alloc ?_ _ | (refine Kp.setCell ?_ (by first | (left; simp; done) | (right; simp; try omega)) _) | (refine Kp.trans' ?_ (by assumption) (by simp; try omega)))))).2.2.2.1) w2.heap.size 0 2 2 [.int .u8 (x0 / 256 % 256), .int .u8 (x0 % 256)] (by rfl) (by rfl) (news_of_heap (heap_alloc_new w2 _)) (by intro u hu; simp at hu; rcases hu with rfl | rfl <;> rfl) (by omega) (by simp; omega) ?_; intro v7 w3 hown hgrow))
        have hs3 : PutSt w w3 bx (.slice (some ⟨g1, o1, none⟩) rest.length c1) rest (acc ++ by2 x0) v7 := HS2.out.app (by (repeat (first | exact Kp.refl _ _ | assumption | refine Kp.drew ?_ | refine Kp.drewN ?_ _ | refine Kp.alloc ?_ _ | (refine Kp.setCell ?_ (by first | (left; simp; done) | (right; simp; try omega)) _) | (refine Kp.trans' ?_ (by assumption) (by simp; try omega))))) (news := by2 x0) hown hgrow
        have hl3 : (acc ++ by2 x0).length = acc.length + 2 := by simp [by2]
        have hl3b : (acc ++ by2 x0).length ≤ acc.length + 2 := by omega
        have HL3 := Lib.hid hl3
        clear hl3 hown hgrow hcx2 hfx2 q02 hk2 HS2 hnb hng
        have hcx3 := cell_of_one hs3.1
        have hfx3 := free_of_one hs3.1
        have HS3 := Lib.hid hs3
        clear hs3
        generalize hac : acc ++ by2 x0 = ac3 at *
        obtain ⟨p7, m7, rfl⟩ := slice_own HS3.out.2.2.2.1
        go_wp2_with (at_builtin; refine wpList_app rfl _ _ 22 rfl (bx + 1) 5 (.int .u8 0) 1 1 Try.underlying22 infoByte rfl (by decide) (by decide) (.slice p7 ac3.length m7) ac3.length (ac3.map (Value.int .u8)) rfl ?hown (.slice (some ⟨w3.heap.size, 0, none⟩) 1 1) 1 [.int .u8 (((n : Int) - 1) % 256)] rfl ?hsrc ?hone ?hb1 ?hb2 ?hk)
        case hown => exact (HS3.out.kp ((Kp.refl _ _).alloc _)).2.2.2.1
        case hsrc => exact Reads.made _ _ 1 1 [.int .u8 (((n : Int) - 1) % 256)] _ rfl rfl (by decide)
        case hone => intro u hu; simp at hu; subst hu; rfl
        case hb1 => omega
        case hb2 => have := HS3.out.2.2.2.2.2.1; simp; omega
        case hk =>
        intro v8 w4 hown hgrow
        have hs4 : PutSt w w4 bx (.slice (some ⟨g1, o1, none⟩) rest.length c1) rest (ac3 ++ [((n : Int) - 1) % 256]) v8 := HS3.out.app ((Kp.refl _ _).alloc _) (news := [((n : Int) - 1) % 256]) hown hgrow
        have HL4 : Hid ((ac3 ++ [((n : Int) - 1) % 256]).length = ac3.length + 1) := by simp [Hid]
        have hl4b : (ac3 ++ [((n : Int) - 1) % 256]).length ≤ ac3.length + 1 := by simp
        clear hown hgrow hcx3 hfx3
        have hcx4 := cell_of_one hs4.1
        have hfx4 := free_of_one hs4.1
        have HS4 := Lib.hid hs4
        clear hs4 HS3
        generalize hac4 : ac3 ++ [((n : Int) - 1) % 256] = ac4 at *
        obtain ⟨p8, m8, rfl⟩ := slice_own HS4.out.2.2.2.1
        have HAC : Hid (ac4 = ac3 ++ moreB 1 n) := by unfold Hid; rw [← hac4]; simp [moreB]
        have hlf : ac4.length + 4 * (rest.length - n) ≤ 262145 := by omega
        have hfin := Lib.hid (HS4.out.box n hn2)
        go_wp2_with fail
        go_roundw
        case rel =>
          have hrel2 : PutAt 1 (csPut l 1) ac4 (rest.drop n) := by rw [HAC.out]; exact hstep.out
          first
            | exact ⟨_, rest.drop n, ac4, hfin.out, hrel2, fun x hx => HB2.out x (List.mem_of_mem_drop hx), by simp; omega, by simp; omega⟩
            | (repeat apply Exists.intro; exact ⟨⟨_, rest.drop n, ac4, hfin.out, hrel2, fun x hx => HB2.out x (List.mem_of_mem_drop hx), by simp; omega, by simp; omega⟩, rfl⟩)
        case measure =>
          have e1 : (w4.setCell ⟨bx, 0, none⟩ (.slice (some ⟨g1, cutOff o1 n c1, none⟩) (rest.length - n) (c1 - n))).cell? ⟨bx, 0, none⟩ = some (.slice (some ⟨g1, cutOff o1 n c1, none⟩) (rest.length - n) (c1 - n)) := cell_of_one hfin.out.1
          have e2 : wr.cell? ⟨bx, 0, none⟩ = some (.slice (some ⟨g1, o1, none⟩) rest.length c1) := HCX.out
          rw [e1, e2]
          show rest.length - n < rest.length
          omega
set_option maxRecDepth 100000 in
set_option maxHeartbeats 4000000 in
theorem put_f2 (g off c : Nat) (l : List Int) (w : World) (h3 : l.length ≤ c) (h4 : c ≤ maxLen) (hz2 : Hid (IsInts .i64 w (.slice (some ⟨g, off, none⟩) l.length c) l)) (h1 : 1 ≤ l.length) (h2 : l.length ≤ 65535)
    (hc0 : w.cell? ⟨g, off, none⟩ = some (.int .i64 0)) (HB : Hid (l.all (inB 65535) = true)) (hg : g < w.heap.size) :
    Calls Try.prog 18 #[.slice (some ⟨g, off, none⟩) l.length c, .int .i64 2] w (Loaded .u8 (some (csPut l 2)) 0 w) := by
  go_enter Try.func18, Try.ntmps18
  go_wp2_with fail
  refine (count_yes _ (by omega) (by omega) _).mono ?_; rintro e w' ⟨rfl, rfl⟩
  go_wp2_with fail
  refine (within_calls _ l 65535 _ (hz2.out.kp (S := []) ((Kp.refl _ _).alloc _) (by simp))).mono ?_; rintro e w1 ⟨rfl, hk1⟩
  rw [HB.out]
  have hst : PutSt w w1 w.heap.size (.slice (some ⟨g, off, none⟩) l.length c) l [] (.slice none 0 0) := by
    refine PutSt.kp (wr := w.alloc (.cells #[.slice (some ⟨g, off, none⟩) l.length c] 24)) ⟨heap_alloc_new w _, hz2.out.kp (S := []) ((Kp.refl _ _).alloc _) (by simp), fun b hb => by simp [Value.ownBlock] at hb; omega, World.ownsRow_nil _ _ _ _, by (repeat (first | exact Kp.refl _ _ | assumption | refine Kp.drew ?_ | refine Kp.drewN ?_ _ | refine Kp.alloc ?_ _ | (refine Kp.setCell ?_ (by first | (left; simp; done) | (right; simp; try omega)) _) | (refine Kp.trans' ?_ (by assumption) (by simp; try omega)))), by simp, rfl⟩ hk1
  have hbx : w.heap.size < w1.heap.size := by have := hst.2.2.2.2.2.1; omega
  generalize hbe : w.heap.size = bx at *
  have hcx := cell_of_one hst.1
  have hfx := free_of_one hst.1
  have i0 : ∀ w, (Instr.index 83 (.agg #[.int .i64 0, .int .i64 255, .int .i64 65535]) (.int .i64 2)).run Try.prog w = .ok (.int .i64 65535) w := fun _ => by kernel_rfl
  have hs1 := run_cut g off l.length c 1 1 rfl h1 h3 h4
  have HR : Hid (PutAt 2 (csPut l 2) [((2 : Nat) : Int)] (l.drop 1)) := putAt_start l 2
  have HBB : Hid (∀ x ∈ l, 0 ≤ x ∧ x ≤ 65535) := by
    intro x hx; have := List.all_eq_true.1 HB.out x hx; simpa [inB] using this
  go_wp2_with fail
  have hst2 : PutSt w ((w1.setCell ⟨bx, 0, none⟩ (.slice (some ⟨g, cutOff off 1 c, none⟩) (l.length - 1) (c - 1))).alloc (.cells #[.int .u8 2] 5)) bx (.slice (some ⟨g, cutOff off 1 c, none⟩) (l.length - 1) (c - 1)) (l.drop 1) [((2 : Nat) : Int)] (.slice (some ⟨w1.heap.size, 0, none⟩) 1 1) := by
    obtain ⟨p1, p2, p3, p4, p5, p6, p7⟩ := hst.box 1 h1
    exact ⟨(Kp.refl [] _).alloc _ |>.heap p1 (by simp), p2.kp (S := []) ((Kp.refl _ _).alloc _) (by simp), p3, own_lit _ _ _ _ 1 1 #[.int .u8 2] (by simp) (by omega) (by decide) rfl, p5.alloc _, by simp at p6 ⊢; omega, p7⟩
  clear hst hk1 hz2 HB hcx hfx hc0 hs1
  generalize Value.slice (some ⟨g, cutOff off 1 c, none⟩) (l.length - 1) (c - 1) = vs at *
  go_loopw [6, 8] (fun v6 _ wr => ∃ (v' : Value) (rest acc : List Int), PutSt w wr bx v' rest acc v6 ∧ PutAt 2 (csPut l 2) acc rest ∧ (∀ x ∈ rest, 0 ≤ x ∧ x ≤ 65535) ∧ rest.length ≤ 65535 ∧ acc.length + 4 * rest.length ≤ 262145) (fun _ _ wr => vlen ((wr.cell? ⟨bx, 0, none⟩).getD undef))
  case atStart => exact ⟨vs, l.drop 1, [((2 : Nat) : Int)], hst2, HR.out, fun x hx => HBB.out x (List.mem_of_mem_drop hx), by simp; omega, by simp; omega⟩
  case round =>
    obtain ⟨v', rest, acc, hs, ha, hb, hl1, hl2⟩ := hrel
    have hcx := cell_of_one hs.1
    have hfx := free_of_one hs.1
    have HCX := Lib.hid hcx
    by_cases hr : rest = []
    · subst hr
      have hend := Lib.hid (putAt_end _ _ _ ha)
      have HS := Lib.hid hs
      have hi := hs.2.1
      clear hs ha hb
      rcases hi with ⟨⟨ad, rfl⟩, _⟩ | ⟨g1, o1, c1, rfl, q1, q2, q3⟩
      all_goals
        go_wp2_with fail
        go_ret2
        exact .inr ⟨acc, _, by rw [hend.out], rfl, IsInts.owned HS.out.2.2.2.1, HS.out.2.2.2.2.1, fun b hb => by have := own_geb HS.out.2.2.2.1 b hb; omega⟩
    · have hr1 : 1 ≤ rest.length := by cases rest with | nil => exact absurd rfl hr | cons a t => simp
      have HS := Lib.hid hs
      have HA := Lib.hid ha
      have HB2 := Lib.hid hb
      have hi := hs.2.1
      clear hs ha hb
      rcases hi with ⟨⟨ad, rfl⟩, rfl⟩ | ⟨g1, o1, c1, rfl, q1, q2, q3⟩
      · simp at hr
      · have q0 := q3 0 (by omega)
        rw [Nat.add_zero] at q0
        have hrun := Lib.hid (run_calls 53 Try.call53 (.pointer (some ⟨bx, 0, none⟩)) (fun i => rest.getD i 0 == rest.getD 0 0 + i) 65535 (some ⟨g1, o1, none⟩) rest.length c1 hl1 hr1 wr (fun i _ hi wr' hk => put1_calls bx _ rest i hi wr' (hk.cell hcx (by simp)) (HS.out.2.1.kp hk (by simp)) HB2.out hl1))
        clear q3
        go_wp2_with fail
        refine Calls.mono hrun.out ?_; rintro e w2 ⟨rfl, hk2⟩
        clear hrun
        have hn : Hid (runGo (fun i => rest.getD i 0 == rest.getD 0 0 + i) 65535 (rest.length - 1) 1 = runL 2 rest) := rfl
        rw [hn.out]
        clear hn
        have hn1 := runL_ge 2 rest
        have hn2 := runL_le 2 rest hr1
        have hcx2 := hk2.cell hcx (by simp)
        have hs2 := HS.out.kp hk2
        have hfx2 := free_of_one hs2.1
        have q02 := hk2.cell q0 (by simp)
        clear hcx hfx q0
        have hx0 : 0 ≤ rest.getD 0 0 ∧ rest.getD 0 0 ≤ 65535 := HB2.out _ (by rw [List.getD_eq_getElem?_getD, List.getElem?_eq_getElem (by omega)]; exact List.getElem_mem _)
        have HS2 := Lib.hid hs2
        clear hs2
        have hstep := Lib.hid (putAt_step 2 _ _ _ HA.out hr)
        generalize hne : runL 2 rest = n at *
        generalize hxe : rest.getD 0 0 = x0 at *
        have hns := run_cut g1 o1 rest.length c1 n n rfl hn2 q1 q2
        have hm1 : ((n : Int) - 1) ≤ 65534 := by omega
        clear hne hxe HS HA
        go_wp2_with fail
        have hbx2 : bx < w2.heap.size := HS2.out.2.2.2.2.2.1
        have hg1 : g1 < bx := HS2.out.2.2.1 g1 ((blockOf_some _ _ _ _ _ _).2 ⟨by omega, rfl⟩)
        have hnb : u6.ownBlock ≠ some bx := fun e => by have := own_ge HS2.out.2.2.2.1 _ e; omega
        have hng : u6.ownBlock ≠ some g1 := fun e => by have := own_ge HS2.out.2.2.2.1 _ e; omega
        go_region_held3 (fun w' => w'.cell? ⟨bx, 0, none⟩ = some (.slice (some ⟨g1, o1, none⟩) rest.length c1) ∧ w'.cell? ⟨g1, o1, none⟩ = some (.int .i64 x0))
          (first
            | go_keep
            | (go_split_ands
               refine ⟨?_, ?_⟩
               · (rw [hgrow.cell_far _ (by simp; omega) (Ne.symm hnb)]; assumption)
               · (rw [hgrow.cell_far _ (by simp; omega) (Ne.symm hng)]; assumption)))
          ((refine step_app (by rfl) _ _ 22 (by rfl) (bx + 1) 5 (.int .u8 0) 1 1 Try.underlying22 infoByte rfl (by decide) (by decide) u6 acc.length (acc.map (Value.int .u8)) (by rfl) ((HS2.out.kp (by (repeat (first | exact Kp.refl _ _ | assumption | refine Kp.drew ?_ | refine Kp.drewN ?_ _ | refine Kp.alloc ?_ _ | (refine Kp.setCell ?_ (by first | (left; simp; done) | (right; simp; try omega)) _) | (refine Kp.trans' ?_ (by assumption) (by simp; try omega)))))).2.2.2.1) w2.heap.size 0 2 2 [.int .u8 (x0 / 256 % 256), .int .u8 (x0 % 256)] (by rfl) (by rfl) (news_of_heap (heap_alloc_new w2 _)) (by intro u hu; simp at hu; rcases hu with rfl | rfl <;> rfl) (by omega) (by simp; omega) ?_; intro v7 w3 hown hgrow))
        have hs3 : PutSt w w3 bx (.slice (some ⟨g1, o1, none⟩) rest.length c1) rest (acc ++ by2 x0) v7 := HS2.out.app (by (repeat (first | exact Kp.refl _ _ | assumption | refine Kp.drew ?_ | refine Kp.drewN ?_ _ | refine Kp.alloc ?_ _ | (refine Kp.setCell ?_ (by first | (left; simp; done) | (right; simp; try omega)) _) | (refine Kp.trans' ?_ (by assumption) (by simp; try omega))))) (news := by2 x0) hown hgrow
        have hl3 : (acc ++ by2 x0).length = acc.length + 2 := by simp [by2]
        have hl3b : (acc ++ by2 x0).length ≤ acc.length + 2 := by omega
        have HL3 := Lib.hid hl3
        clear hl3 hown hgrow hcx2 hfx2 q02 hk2 HS2 hnb hng
        have hcx3 := cell_of_one hs3.1
        have hfx3 := free_of_one hs3.1
        have HS3 := Lib.hid hs3
        clear hs3
        generalize hac : acc ++ by2 x0 = ac3 at *
        obtain ⟨p7, m7, rfl⟩ := slice_own HS3.out.2.2.2.1
        go_wp2_with (at_builtin; refine wpList_app rfl _ _ 22 rfl (bx + 1) 5 (.int .u8 0) 1 1 Try.underlying22 infoByte rfl (by decide) (by decide) (.slice p7 ac3.length m7) ac3.length (ac3.map (Value.int .u8)) rfl ?hown (.slice (some ⟨w3.heap.size, 0, none⟩) 1 1) 1 [.int .u8 (((n : Int) - 1) / 256)] rfl ?hsrc ?hone ?hb1 ?hb2 ?hk)
        case hown => exact (HS3.out.kp ((Kp.refl _ _).alloc _)).2.2.2.1
        case hsrc => exact Reads.made _ _ 1 1 [.int .u8 (((n : Int) - 1) / 256)] _ rfl rfl (by decide)
        case hone => intro u hu; simp at hu; subst hu; rfl
        case hb1 => omega
        case hb2 => have := HS3.out.2.2.2.2.2.1; simp; omega
        case hk =>
        intro v8 w4 hown hgrow
        have hs4 : PutSt w w4 bx (.slice (some ⟨g1, o1, none⟩) rest.length c1) rest (ac3 ++ [((n : Int) - 1) / 256]) v8 := HS3.out.app ((Kp.refl _ _).alloc _) (news := [((n : Int) - 1) / 256]) hown hgrow
        have HL4 : Hid ((ac3 ++ [((n : Int) - 1) / 256]).length = ac3.length + 1) := by simp [Hid]
        have hl4b : (ac3 ++ [((n : Int) - 1) / 256]).length ≤ ac3.length + 1 := by simp
        clear hown hgrow hcx3 hfx3
        have hcx4 := cell_of_one hs4.1
        have hfx4 := free_of_one hs4.1
        have HS4 := Lib.hid hs4
        clear hs4 HS3
        generalize hac4 : ac3 ++ [((n : Int) - 1) / 256] = ac4 at *
        obtain ⟨p8, m8, rfl⟩ := slice_own HS4.out.2.2.2.1
        go_wp2_with (at_builtin; refine wpList_app rfl _ _ 22 rfl (bx + 1) 5 (.int .u8 0) 1 1 Try.underlying22 infoByte rfl (by decide) (by decide) (.slice p8 ac4.length m8) ac4.length (ac4.map (Value.int .u8)) rfl ?hown (.slice (some ⟨w4.heap.size, 0, none⟩) 1 1) 1 [.int .u8 (((n : Int) - 1) % 256)] rfl ?hsrc ?hone ?hb1 ?hb2 ?hk)
        case hown => exact (HS4.out.kp ((Kp.refl _ _).alloc _)).2.2.2.1
        case hsrc => exact Reads.made _ _ 1 1 [.int .u8 (((n : Int) - 1) % 256)] _ rfl rfl (by decide)
        case hone => intro u hu; simp at hu; subst hu; rfl
        case hb1 => omega
        case hb2 => have := HS4.out.2.2.2.2.2.1; simp; omega
        case hk =>
        intro v9 w5 hown hgrow
        have hs5 : PutSt w w5 bx (.slice (some ⟨g1, o1, none⟩) rest.length c1) rest (ac4 ++ [((n : Int) - 1) % 256]) v9 := HS4.out.app ((Kp.refl _ _).alloc _) (news := [((n : Int) - 1) % 256]) hown hgrow
        have HL5 : Hid ((ac4 ++ [((n : Int) - 1) % 256]).length = ac4.length + 1) := by simp [Hid]
        have hl5b : (ac4 ++ [((n : Int) - 1) % 256]).length ≤ ac4.length + 1 := by simp
        clear hown hgrow hcx4 hfx4
        have hcx5 := cell_of_one hs5.1
        have hfx5 := free_of_one hs5.1
        have HS5 := Lib.hid hs5
        clear hs5 HS4
        generalize hac5 : ac4 ++ [((n : Int) - 1) % 256] = ac5 at *
        obtain ⟨p9, m9, rfl⟩ := slice_own HS5.out.2.2.2.1
        have HAC : Hid (ac5 = ac3 ++ moreB 2 n) := by unfold Hid; rw [← hac5, ← hac4]; have e9 : ((n : Int) - 1) / 256 % 256 = ((n : Int) - 1) / 256 := (by omega); simp [moreB, by2, e9]
        have hlf : ac5.length + 4 * (rest.length - n) ≤ 262145 := by omega
        have hfin := Lib.hid (HS5.out.box n hn2)
        go_wp2_with fail
        go_roundw
        case rel =>
          have hrel2 : PutAt 2 (csPut l 2) ac5 (rest.drop n) := by rw [HAC.out]; exact hstep.out
          first
            | exact ⟨_, rest.drop n, ac5, hfin.out, hrel2, fun x hx => HB2.out x (List.mem_of_mem_drop hx), by simp; omega, by simp; omega⟩
            | (repeat apply Exists.intro; exact ⟨⟨_, rest.drop n, ac5, hfin.out, hrel2, fun x hx => HB2.out x (List.mem_of_mem_drop hx), by simp; omega, by simp; omega⟩, rfl⟩)
        case measure =>
          have e1 : (w5.setCell ⟨bx, 0, none⟩ (.slice (some ⟨g1, cutOff o1 n c1, none⟩) (rest.length - n) (c1 - n))).cell? ⟨bx, 0, none⟩ = some (.slice (some ⟨g1, cutOff o1 n c1, none⟩) (rest.length - n) (c1 - n)) := cell_of_one hfin.out.1
          have e2 : wr.cell? ⟨bx, 0, none⟩ = some (.slice (some ⟨g1, o1, none⟩) rest.length c1) := HCX.out
          rw [e1, e2]
          show rest.length - n < rest.length
          omega
theorem mayPut_true {l : List Int} {f : Int} (h : mayPut l f = true) : 1 ≤ l.length ∧ l.length ≤ 65535 ∧ l.getD 0 0 = 0 ∧ l.all (inB 65535) = true ∧ 0 ≤ f ∧ f ≤ 2 := by
  unfold mayPut at h
  simp only [Bool.and_eq_true, decide_eq_true_eq, beq_iff_eq] at h
  exact ⟨h.1.1.1.1.1, h.1.1.1.1.2, h.1.1.1.2, h.1.1.2, h.1.2, h.2⟩
theorem put_calls (v : Value) (l : List Int) (f : Int) (w : World) (hm : mayPut l f = true) (hz : IsInts .i64 w v l) (hv : ∀ b, blockOf v = some b → b < w.heap.size) :
    Calls Try.prog 18 #[v, .int .i64 f] w (Loaded .u8 (some (csPut l f.toNat)) 0 w) := by
  obtain ⟨h1, h2, h0, hb, hf0, hf2⟩ := mayPut_true hm
  have hz2 := hz
  rcases hz with ⟨⟨ad, rfl⟩, rfl⟩ | ⟨g, off, c, rfl, h3, h4, h5⟩
  · simp at h1
  · have hc0 := h5 0 (by omega)
    rw [Nat.add_zero, h0] at hc0
    rcases (show f = 0 ∨ f = 1 ∨ f = 2 by omega) with rfl | rfl | rfl
    · exact put_f0 g off c l w h3 h4 hz2 h1 h2 hc0 hb (hv g ((blockOf_some _ _ _ _ _ _).2 ⟨by omega, rfl⟩))
    · exact put_f1 g off c l w h3 h4 hz2 h1 h2 hc0 hb (hv g ((blockOf_some _ _ _ _ _ _).2 ⟨by omega, rfl⟩))
    · exact put_f2 g off c l w h3 h4 hz2 h1 h2 hc0 hb (hv g ((blockOf_some _ _ _ _ _ _).2 ⟨by omega, rfl⟩))
set_option maxRecDepth 100000 in
set_option maxHeartbeats 1000000 in
theorem put_no (v : Value) (l : List Int) (f : Int) (w : World) (hm : mayPut l f = false) (hz : IsInts .i64 w v l) (hlen : l.length < 4611686018427387904) :
    Calls Try.prog 18 #[v, .int .i64 f] w fun e w' => e = .returned (.tuple #[.slice none 0 0, .int .i64 1]) ∧ Kp [] w w' := by
  have hz2 := Lib.hid hz
  by_cases hc : 1 ≤ l.length ∧ l.length ≤ 65535
  · rcases hz with ⟨⟨ad, rfl⟩, rfl⟩ | ⟨g, off, c, rfl, h3, h4, h5⟩
    · simp at hc
    · have hc0 := h5 0 (by omega)
      have hlen0 : 0 < l.length := by omega
      rw [Nat.add_zero] at hc0
      have hg : g < w.heap.size := World.block_lt_of_cell? w _ hc0
      clear h5
      by_cases h0 : l.getD 0 0 = 0
      · rw [h0] at hc0
        cases hb : l.all (inB 65535)
        · have HB := Lib.hid hb
          clear hb hm
          go_enter Try.func18, Try.ntmps18
          go_wp2_with fail
          refine (count_yes _ (by omega) (by omega) _).mono ?_; rintro e w' ⟨rfl, rfl⟩
          go_wp2_with fail
          refine (within_calls _ l 65535 _ (hz2.out.kp (S := []) ((Kp.refl _ _).alloc _) (by simp))).mono ?_; rintro e w1 ⟨rfl, hk1⟩
          rw [HB.out]
          go_wp2_with fail
          go_ret2
          exact ⟨rfl, ((Kp.refl _ _).alloc _).trans hk1⟩
        · have HB := Lib.hid hb
          have hf : f < 0 ∨ 2 < f := by
            apply Classical.byContradiction
            intro hn
            have : mayPut l f = true := by unfold mayPut; simp [hc, hb]; simp only [List.getD_eq_getElem?_getD] at h0; exact ⟨⟨h0, by omega⟩, by omega⟩
            rw [hm] at this; exact absurd this (by simp)
          clear hb hm
          by_cases hf1 : f < 0
          · go_enter Try.func18, Try.ntmps18
            go_wp2_with fail
            refine (count_yes _ (by omega) (by omega) _).mono ?_; rintro e w' ⟨rfl, rfl⟩
            go_wp2_with fail
            refine (within_calls _ l 65535 _ (hz2.out.kp (S := []) ((Kp.refl _ _).alloc _) (by simp))).mono ?_; rintro e w1 ⟨rfl, hk1⟩
            rw [HB.out]
            go_wp2_with fail
            go_ret2
            exact ⟨rfl, ((Kp.refl _ _).alloc _).trans hk1⟩
          · have hf2 : 2 < f := by omega
            have hf3 : decide (f < 0) = false := by simpa using hf1
            clear hf
            go_enter Try.func18, Try.ntmps18
            go_wp2_with fail
            refine (count_yes _ (by omega) (by omega) _).mono ?_; rintro e w' ⟨rfl, rfl⟩
            go_wp2_with fail
            refine (within_calls _ l 65535 _ (hz2.out.kp (S := []) ((Kp.refl _ _).alloc _) (by simp))).mono ?_; rintro e w1 ⟨rfl, hk1⟩
            rw [HB.out]
            go_wp2_with fail
            go_ret2
            exact ⟨rfl, ((Kp.refl _ _).alloc _).trans hk1⟩
      · have hb0 : (l.getD 0 0 != 0) = true := by rw [bne_iff_ne]; exact h0
        clear h0 hm
        generalize l.getD 0 0 = x0 at *
        go_enter Try.func18, Try.ntmps18
        go_wp2_with fail
        refine (count_yes _ (by omega) (by omega) _).mono ?_; rintro e w' ⟨rfl, rfl⟩
        go_wp2_with fail
        go_ret2
        exact ⟨rfl, (Kp.refl _ _).alloc _⟩
  · obtain ⟨p, c, rfl⟩ : ∃ p c, v = .slice p l.length c := by
      rcases hz with ⟨⟨ad, rfl⟩, rfl⟩ | ⟨g, off, c, rfl, _⟩
      · exact ⟨_, 0, rfl⟩
      · exact ⟨_, c, rfl⟩
    clear hz hm
    go_enter Try.func18, Try.ntmps18
    go_wp2_with fail
    refine (count_no _ (by omega) _).mono ?_; rintro e w' ⟨rfl, rfl⟩
    go_wp2_with fail
    go_ret2
    exact ⟨rfl, (Kp.refl _ _).alloc _⟩
end Go.Proofs.Ythmokldmdcjklaa

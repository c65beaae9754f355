/- stack: a Stack's contracts in one word (SB); seriflaw17.lives. -/
import Derived.Test.YtlnmpffpieofeaaStV
import Derived.Test.YtlnmpffpieofeaaStX
import Derived.Test.YtlnmpffpieofeaaStU
namespace Go.Proofs.Ytlnmpffpieofeaa
open Go.RowKit
set_option linter.unusedVariables false
set_option linter.unusedSimpArgs false
/-- At s lies a Stack, laid since W0; nothing of W0 has changed. -/
def SB (W0 : World) (s : Nat) (l st dr : List Int) (w : World) : Prop := ∃ B vl vd, W0.heap.size ≤ B ∧ StS w s B vl l st vd dr ∧ Kp [] W0 w
theorem SB.kp {W0 : World} {s : Nat} {l st dr : List Int} {w w' : World} (h : SB W0 s l st dr w) (hk : Kp [] w w') : SB W0 s l st dr w' := by
  obtain ⟨B, vl, vd, h0, h1, h2⟩ := h
  exact ⟨B, vl, vd, h0, h1.kp0 hk, h2.trans hk⟩
theorem SB.base {W0 : World} {s : Nat} {l st dr : List Int} {w : World} (h : SB W0 s l st dr w) : Kp [] W0 w := by
  obtain ⟨B, vl, vd, h0, h1, h2⟩ := h; exact h2
theorem SB.stk {W0 : World} {s B : Nat} {vl vl' vd vd' : Value} {l st dr l' st' dr' : List Int} {w w' : World} (h0 : W0.heap.size ≤ B) (h : StS w s B vl l st vd dr) (hk : Kp [] W0 w) (h' : StS w' s B vl' l' st' vd' dr') (hK : StK w w' s vl vl') : SB W0 s l' st' dr' w' :=
  ⟨B, vl', vd', h0, h', hK.kp0 h.2.2.1 (fun k e => (h.2.2.2.1.lt k e).1) h0 hk⟩
theorem ofB (W0 : World) (vd0 va : Value) (dr xs : List Int) (w : World) (hk0 : Kp [] W0 w) (hd : IsInts .i64 w vd0 dr) (hdl : dr.length ≤ 1000000000) (ha : IsInts .i64 w va xs) (hm : ∀ x ∈ xs, mayB x = true) (hl : xs.length ≤ 48) :
    Calls Try.prog 14 #[vd0, va] w fun e w' => ∃ s, e = .returned (.pointer (some ⟨s, 0, none⟩)) ∧ SB W0 s xs zeros32 dr w' :=
  (of_calls vd0 va dr xs w hd hdl ha hm hl).mono fun e w' ⟨s, vl, vd, he, hS, hk⟩ => ⟨s, he, w.heap.size, vl, vd, hk0.size, hS, hk0.trans hk⟩
theorem newB (W0 : World) (v : Value) (dr : List Int) (w : World) (hk0 : Kp [] W0 w) (h : IsInts .i64 w v dr) (hl : dr.length ≤ 1000000000) :
    Calls Try.prog 8 #[v] w fun e w' => ∃ s, e = .returned (.pointer (some ⟨s, 0, none⟩)) ∧ SB W0 s [] zeros32 dr w' :=
  (snew_calls v dr w h hl).mono fun e w' ⟨s, vd, he, hS, hk⟩ => ⟨s, he, w.heap.size, _, vd, hk0.size, hS, hk0.trans hk⟩
theorem pushB {W0 : World} {s : Nat} {l st dr : List Int} {w : World} (x : Int) (hx : mayB x = true) (h : SB W0 s l st dr w) (hl : l.length < 48) :
    Calls Try.prog 10 #[.pointer (some ⟨s, 0, none⟩), .int .i64 x] w fun e w' => e = .returned (.int .i64 0) ∧ SB W0 s (l ++ [x]) st dr w' := by
  obtain ⟨B, vl, vd, h0, h1, h2⟩ := h
  exact (push_calls s B vl vd l st dr x hx w h1 hl).mono fun e w' ⟨he, vl', hS, hK⟩ => ⟨he, SB.stk h0 h1 h2 hS hK⟩
theorem pushnoB {W0 : World} {s : Nat} {l st dr : List Int} {w : World} (x : Int) (h : SB W0 s l st dr w) (hl : l.length ≤ 48) (hno : mayB x = false ∨ l.length = 48) :
    Calls Try.prog 10 #[.pointer (some ⟨s, 0, none⟩), .int .i64 x] w fun e w' => e = .returned (.int .i64 (if mayB x = false then 10 else 170)) ∧ SB W0 s l st dr w' := by
  have H := h
  obtain ⟨B, vl, vd, h0, h1, h2⟩ := h
  exact (push_no s B vl vd l st dr x w h1 hl hno).mono fun e w' ⟨he, hw⟩ => ⟨he, hw ▸ H⟩
theorem popB {W0 : World} {s : Nat} {l st dr : List Int} {w : World} (x : Int) (h : SB W0 s (l ++ [x]) st dr w) (hl : l.length ≤ 1000) :
    Calls Try.prog 12 #[.pointer (some ⟨s, 0, none⟩)] w fun e w' => e = .returned (.tuple #[.int .i64 x, .int .i64 0]) ∧ SB W0 s l st dr w' := by
  obtain ⟨B, vl, vd, h0, h1, h2⟩ := h
  exact (pop_calls s B vl vd l st dr x w h1 hl).mono fun e w' hh => by
    obtain ⟨he, vl', hS, hK⟩ := hh
    exact ⟨he, SB.stk h0 h1 h2 hS hK⟩
theorem popemptyB {W0 : World} {s : Nat} {st dr : List Int} {w : World} (h : SB W0 s [] st dr w) :
    Calls Try.prog 12 #[.pointer (some ⟨s, 0, none⟩)] w fun e w' => e = .returned (.tuple #[.int .i64 0, .int .i64 170]) ∧ SB W0 s [] st dr w' := by
  have H := h
  obtain ⟨B, vl, vd, h0, h1, h2⟩ := h
  exact (pop_empty s B vl vd st dr w h1).mono fun e w' ⟨he, hw⟩ => ⟨he, hw ▸ H⟩
theorem lenB {W0 : World} {s : Nat} {l st dr : List Int} {w : World} (h : SB W0 s l st dr w) :
    Calls Try.prog 13 #[.pointer (some ⟨s, 0, none⟩)] w fun e w' => e = .returned (.int .i64 l.length) ∧ SB W0 s l st dr w' := by
  have H := h
  obtain ⟨B, vl, vd, h0, h1, h2⟩ := h
  exact (slen_calls s B vl vd l st dr w h1).mono fun e w' ⟨he, hw⟩ => ⟨he, hw ▸ H⟩
theorem allB {W0 : World} {s : Nat} {l st dr : List Int} {w : World} (h : SB W0 s l st dr w) (hl : l.length ≤ 1000) :
    Calls Try.prog 17 #[.pointer (some ⟨s, 0, none⟩)] w fun e w' => ∃ v, e = .returned v ∧ IsInts .i64 w' v l ∧ Kp [] w w' ∧ SB W0 s l st dr w' := by
  have H := h
  obtain ⟨B, vl, vd, h0, h1, h2⟩ := h
  exact (sall_calls s B vl vd l st dr w h1 hl).mono fun e w' ⟨v, he, hi, hk⟩ => ⟨v, he, hi, hk, H.kp hk⟩
theorem takeB {W0 : World} {s : Nat} {l st dr : List Int} {w : World} (h : SB W0 s l st dr w) :
    Calls Try.prog 23 #[.pointer (some ⟨s, 0, none⟩)] w fun e w' => ∃ v, e = .returned v ∧ IsInts .i64 w' v l ∧ SB W0 s [] st dr w' := by
  obtain ⟨B, vl, vd, h0, h1, h2⟩ := h
  exact (stake_calls s B vl vd l st dr w h1).mono fun e w' ⟨he, hS, hk, hi⟩ => ⟨vl, he, hi, B, _, vd, h0, hS, h2.trans' hk (fun t ht => by simp at ht; subst ht; exact .inr (Nat.le_trans h0 h1.2.2.1))⟩
theorem doB {W0 : World} {s : Nat} {l st dr : List Int} {w : World} (op : Int) (h : SB W0 s l st dr w) (hok : OkM l st) (er : Int) (l' st' dr' : List Int) (hd : doM op l st dr = (er, l', st', dr')) :
    Calls Try.prog 15 #[.pointer (some ⟨s, 0, none⟩), .int .i64 op] w fun e w' => e = .returned (.int .i64 er) ∧ SB W0 s l' st' dr' w' := by
  obtain ⟨B, vl, vd, h0, h1, h2⟩ := h
  refine (do_calls op s B vl vd l st dr w h1 hok.1 hok.2.1).mono fun e w' hh => ?_
  rw [hd] at hh
  obtain ⟨he, vl', vd', hS, hK, _⟩ := hh
  exact ⟨he, SB.stk h0 h1 h2 hS hK⟩
theorem okM_lit (l : List Int) (h : l.length ≤ 48) (hm : ∀ x ∈ l, mayB x = true) : OkM l zeros32 := ⟨h, hm, by simp [zeros32], fun x hx => by rw [List.eq_of_mem_replicate hx]; decide⟩
theorem lv_roll (st dr : List Int) : doM 30 [65536, 131072, 196608, 196608, 65536] st dr = (0, [196608, 65536, 131072], st, dr) := by
  rw [show ([65536, 131072, 196608, 196608, 65536] : List Int) = [65536, 131072, 196608] ++ [196608, 65536] from rfl, doM_at 30 _ _ st dr (.inr (by simp [isMov])) rfl]
  have h : rollL [65536, 131072, 196608] ((196608 : Int) / 65536).toNat ((((65536 : Int) / 65536).tmod (196608 / 65536) + 196608 / 65536).tmod (196608 / 65536)).toNat = [196608, 65536, 131072] := by decide
  simp only [stepM]
  rw [if_neg (by simp [isNum]), if_neg (by decide), if_neg (by decide), if_neg (by decide), if_neg (by decide), if_neg (by decide), if_pos trivial, if_neg (by decide), if_neg (by decide)]
  exact congrArg (fun z => ((0 : Int), z, st, dr)) h
theorem lv_99 (l st dr : List Int) : doM 99 l st dr = (1, l, st, dr) := by unfold doM; rw [if_pos (by simp [isNum, isMov])]
theorem lv_add (st dr : List Int) : doM 10 [196608, 65536, 131072] st dr = (0, [196608, 196608], st, dr) := by
  rw [show ([196608, 65536, 131072] : List Int) = [196608] ++ [65536, 131072] from rfl, doM_at 10 _ _ st dr (.inl (by simp [isNum])) rfl]
  have e : numF 10 65536 131072 = (196608, 0) := by simp only [numF]; rw [if_neg (by decide)]; unfold twoF; rw [if_pos rfl]; decide
  simp only [stepM]
  rw [if_pos (by simp [isNum])]
  show (if (numF 10 65536 131072).2 = 0 then _ else _) = _
  rw [e]; rfl
theorem lv_mul (st dr : List Int) : doM 24 [196608, 196608] st dr = (0, [589824], st, dr) := by
  rw [show ([196608, 196608] : List Int) = [] ++ [196608, 196608] from rfl, doM_at 24 _ _ st dr (.inl (by simp [isNum])) rfl]
  have e : numF 24 196608 196608 = (589824, 0) := by simp only [numF]; rw [if_neg (by decide)]; unfold twoF; rw [if_neg (by decide), if_neg (by decide), if_pos rfl]; decide
  simp only [stepM]
  rw [if_pos (by simp [isNum])]
  show (if (numF 24 196608 196608).2 = 0 then _ else _) = _
  rw [e]; rfl
theorem lv_short (st dr : List Int) : doM 10 [589824] st dr = (170, [589824], st, dr) := by
  unfold doM; rw [if_neg (by simp [isNum]), if_pos (by decide)]
theorem lit_ints (w W : World) (xs : List Int) (T : TypeId) (cs : Array Value) (hcs : cs = (xs.map (Value.int .i64)).toArray) (hl : xs.length ≤ maxLen) (hk : Kp [] (w.alloc (.cells cs T)) W) :
    IsInts .i64 W (.slice (some ⟨w.heap.size, 0, none⟩) xs.length xs.length) xs := by
  subst hcs
  refine .inr ⟨w.heap.size, 0, xs.length, rfl, Nat.le_refl _, hl, fun i hi => ?_⟩
  have h1 : (xs.map (Value.int .i64)).toArray[i]? = some (.int .i64 (xs.getD i 0)) := by simp [List.getD_eq_getElem?_getD, List.getElem?_eq_getElem hi]
  rw [Nat.zero_add]
  exact hk.cell (by rw [cell_of_row _ _ i _ _ _ (heap_alloc_new w _)]; exact h1) (by simp)
set_option maxRecDepth 100000 in
set_option maxHeartbeats 4000000 in
theorem lives_calls (w : World) : Calls Try.prog 9 #[] w fun e w' => e = .returned (.bool true) ∧ Kp [] w w' := by
  have HB0 := Lib.hid (Nat.le_refl w.heap.size)
  go_enter Try.func9, Try.ntmps9
  go_wp2_with fail
  refine (ofB w _ _ [] [65536, 131072, 196608, 196608, 65536] _ ((Kp.refl _ _).alloc _) (.inl ⟨⟨_, rfl⟩, rfl⟩) (by simp) (lit_ints _ _ [65536, 131072, 196608, 196608, 65536] _ _ rfl (by unfold maxLen; simp) (by first | exact Kp.refl _ _ | exact (Kp.refl _ _).drew)) (by decide) (by decide)).mono ?_
  rintro e w1 ⟨s, rfl, H1⟩
  go_wp2_with fail
  refine (doB 30 H1 (okM_lit _ (by decide) (by decide)) _ _ _ _ (lv_roll _ _)).mono ?_
  rintro e w2 ⟨rfl, H2⟩
  clear H1
  go_wp2_with fail
  refine (doB 99 H2 (okM_lit _ (by decide) (by decide)) _ _ _ _ (lv_99 _ _ _)).mono ?_
  rintro e w3 ⟨rfl, H3⟩
  clear H2
  go_wp2_with fail
  refine (allB H3 (by decide)).mono ?_
  rintro e w4 ⟨v, rfl, hv, hk4, H4⟩
  clear H3
  go_wp2_with fail
  refine (same_calls _ _ [196608, 65536, 131072] [196608, 65536, 131072] _ (hv.kp ((Kp.refl [] _).alloc _) (by simp)) (lit_ints _ _ [196608, 65536, 131072] _ _ rfl (by unfold maxLen; simp) (Kp.refl _ _))).mono ?_
  rintro e w5 ⟨rfl, hk5⟩
  have H5 := H4.kp (((Kp.refl [] _).alloc _).trans hk5)
  clear H4 hv hk4 hk5
  go_wp2_with fail
  refine (doB 10 H5 (okM_lit _ (by decide) (by decide)) _ _ _ _ (lv_add _ _)).mono ?_
  rintro e w6 ⟨rfl, H6⟩
  clear H5
  go_wp2_with fail
  refine (doB 24 H6 (okM_lit _ (by decide) (by decide)) _ _ _ _ (lv_mul _ _)).mono ?_
  rintro e w7 ⟨rfl, H7⟩
  clear H6
  go_wp2_with fail
  refine (doB 10 H7 (okM_lit _ (by decide) (by decide)) _ _ _ _ (lv_short _ _)).mono ?_
  rintro e w8 ⟨rfl, H8⟩
  clear H7
  go_wp2_with fail
  refine (popB (l := []) 589824 H8 (by decide)).mono ?_
  rintro e w9 ⟨rfl, H9⟩
  clear H8
  go_wp2_with fail
  refine (popemptyB H9).mono ?_
  rintro e w10 ⟨rfl, H10⟩
  clear H9
  go_wp2_with fail
  refine (lenB H10).mono ?_
  rintro e w11 ⟨rfl, H11⟩
  clear H10
  go_wp2_with fail
  refine (pushnoB 1099511627776 H11 (by decide) (.inl (by decide))).mono ?_
  rintro e w12 ⟨rfl, H12⟩
  rw [if_pos (by decide)]
  clear H11
  go_wp2_with fail
  refine (isop_calls 27 _).mono ?_
  rintro e w13 ⟨rfl, hk13⟩
  rw [decide_eq_true (show isNum 27 ∨ isMov 27 by simp [isMov])]
  have H13 := H12.kp hk13
  clear H12 hk13
  go_wp2_with fail
  refine (isop_calls 13 _).mono ?_
  rintro e w14 ⟨rfl, hk14⟩
  rw [decide_eq_false (show ¬ (isNum 13 ∨ isMov 13) by simp [isMov, isNum])]
  have H14 := H13.kp hk14
  clear H13 hk14
  go_wp2_with fail
  go_ret
  exact ⟨rfl, H14.base⟩
end Go.Proofs.Ytlnmpffpieofeaa

/- The reference's PutSelect. -/
import Derived.Test.YthmokldmdcjklaaChPs
import Derived.Test.YthmokldmdcjklaaChY
namespace Go.Proofs.Ythmokldmdcjklaa
open Go.RowKit
set_option linter.unusedVariables false
set_option linter.unusedSimpArgs false
set_option maxRecDepth 100000 in
set_option maxHeartbeats 2000000 in
theorem rputsel_0 (v : Value) (l : List Int) (q : Int) (w : World) (hm : maySel l q 0 = true) (hz : IsInts .i64 w v l) (hv : ∀ b, blockOf v = some b → b < w.heap.size) :
    Calls Try.prog 25 #[v, .int .i64 0] w (RPutD (csPutSel l 0) w) := by
  have hm2 := hm
  unfold maySel at hm2
  simp only [Bool.and_eq_true, decide_eq_true_eq] at hm2
  obtain ⟨⟨⟨⟨⟨k1, k2⟩, k3⟩, k4⟩, k5⟩, k6⟩ := hm2
  have HB : Hid _ := k5
  have HA : Hid (∀ c ∈ l, 0 ≤ c ∧ c ≤ 255) := fun c hc => by have := List.all_eq_true.1 k5 c hc; simp [inB] at this; omega
  have HV : Hid _ := hv
  rcases hz with ⟨⟨ad, rfl⟩, rfl⟩ | ⟨g, off, c, rfl, p1, p2, p3⟩
  · simp at k1
  have HZ : Hid (IsInts .i64 w (.slice (some ⟨g, off, none⟩) l.length c) l) := .inr ⟨g, off, c, rfl, p1, p2, p3⟩
  have HR : Hid (csPutSel l 0 = [0] ++ (l.take l.length).map (· % 256)) := by unfold Hid csPutSel; rw [if_pos rfl, List.take_length]
  clear hm k5 k6 hv p3
  go_enter Try.func25, Try.ntmps25
  go_wp2_with fail
  have hst : P0St w (w.alloc (.cells #[.int .u8 0] 5)) w.heap.size (.slice (some ⟨g, off, none⟩) l.length c) l 0 (.slice (some ⟨w.heap.size, 0, none⟩) 1 1) :=
    ⟨own_lit w _ _ _ 1 1 #[.int .u8 0] rfl (by omega) (by decide) rfl, HZ.out.kp (S := []) (by (repeat (first | exact Kp.refl _ _ | assumption | refine Kp.drew ?_ | refine Kp.drewN ?_ _ | refine Kp.alloc ?_ _ | (refine Kp.setCell ?_ (by first | (left; simp; done) | (right; simp; try omega)) _) | (refine Kp.trans' ?_ (by assumption) (by simp; try omega))))) (by simp), by (repeat (first | exact Kp.refl _ _ | assumption | refine Kp.drew ?_ | refine Kp.drewN ?_ _ | refine Kp.alloc ?_ _ | (refine Kp.setCell ?_ (by first | (left; simp; done) | (right; simp; try omega)) _) | (refine Kp.trans' ?_ (by assumption) (by simp; try omega)))), rfl, by simp, HV.out⟩
  generalize hB : w.heap.size = B at *
  go_loopw [5, 6] (fun v8 i wr => ∃ j : Nat, j ≤ l.length ∧ i = .int .i64 j ∧ P0St w wr B (.slice (some ⟨g, off, none⟩) l.length c) l j v8) (fun _ i _ => l.length - (intOf i).toNat)
  case atStart => exact ⟨0, by omega, rfl, hst⟩
  case round =>
    obtain ⟨j, hj, rfl, hs⟩ := hrel
    clear hst
    obtain ⟨p8, c8, rfl⟩ := slice_own hs.1
    have HS : Hid (P0St w wr B (.slice (some ⟨g, off, none⟩) l.length c) l j (.slice p8 (1 + j) c8)) := hs
    have hBs := hs.2.2.2.2.1
    clear hs
    by_cases hlt : j < l.length
    · have hcj : wr.cell? ⟨g, off + j, none⟩ = some (.int .i64 (l.getD j 0)) := by
        rcases HS.out.2.1 with ⟨⟨ad, h⟩, h'⟩ | ⟨g1, o1, c1, h, _, _, h3⟩
        · exfalso; rw [h'] at hlt; simp at hlt
        · cases h; exact h3 j hlt
      have hyb : 0 ≤ l.getD j 0 ∧ l.getD j 0 ≤ 255 := HA.out _ (by rw [List.getD_eq_getElem?_getD, List.getElem?_eq_getElem hlt]; exact List.getElem_mem _)
      obtain ⟨y1, y2⟩ := hyb
      have HY : Hid (l.getD j 0 = l.getD j 0) := rfl
      generalize hy : l.getD j 0 = y at hcj y1 y2
      have HX : Hid (y = l.getD j 0 % 256) := by unfold Hid; rw [hy]; omega
      clear HY hy
      go_wp2_with (at_builtin; refine wpList_app rfl _ _ 22 rfl B 5 (.int .u8 0) 1 1 Try.underlying22 infoByte rfl (by decide) (by decide) (.slice p8 (1 + j) c8) (1 + j) ((([0] : List Int) ++ (l.take j).map (· % 256)).map (Value.int .u8)) rfl ?hown (.slice (some ⟨wr.heap.size, 0, none⟩) 1 1) 1 [.int .u8 y] rfl ?hsrc ?hone ?hb1 ?hb2 ?hk)
      case hown => exact HS.out.1.alloc _
      case hsrc => exact Reads.made _ _ 1 1 [.int .u8 y] _ rfl rfl (by decide)
      case hone => first | (intro u hu; simp at hu; subst hu; rfl) | rfl
      case hb1 => omega
      case hb2 => simp; omega
      case hk =>
        intro v9 w3 hown hgr
        have hs3 : P0St w w3 B (.slice (some ⟨g, off, none⟩) l.length c) l (j + 1) v9 := HS.out.app (by (repeat (first | exact Kp.refl _ _ | assumption | refine Kp.drew ?_ | refine Kp.drewN ?_ _ | refine Kp.alloc ?_ _ | (refine Kp.setCell ?_ (by first | (left; simp; done) | (right; simp; try omega)) _) | (refine Kp.trans' ?_ (by assumption) (by simp; try omega))))) hlt HX.out (by simpa using hown) hgr
        clear hown hgr
        go_wp2_with fail
        go_roundw
        case rel => first | exact ⟨j + 1, by omega, int_eq (by omega), hs3⟩ | ((repeat apply Exists.intro); exact ⟨⟨j + 1, by omega, int_eq (by omega), hs3⟩, rfl⟩)
        case measure => simp [intOf]; omega
    · obtain rfl : j = l.length := by omega
      go_wp2_with fail
      go_ret
      exact ⟨_, rfl, by rw [HR.out]; exact IsInts.owned HS.out.1, HS.out.2.2.1, fun b hb => by have := own_geb HS.out.1 b hb; have := HS.out.2.2.2.1; omega⟩
section
variable {P : Program} {w : World} {ops : Array Oper} {o : Oper} {a : Act} {Q : Exit → Act → World → Prop}
/-- An append inside a region that draws its order; what is appended is read as a row. -/
theorem step_appR {K : Act → World → Prop} {E : Prop} (hgd : o.guard = none) (s x : Operand) (t : TypeId)
    (ho : o.op = .call { callee := .builtin .append, args := #[s, x], argTypes := #[t, t] })
    (base : Nat) (e : TypeId) (z : Value) (size bytes : Nat) (ht : P.underlying t = some (.slice e)) (hinfo : (P.info? e).map (fun i => (i.zero, i.size, i.bytes)) = some (some z, size, bytes))
    (hzs : z.cells.size = size) (hsz : 0 < size) (hb1 : 1 ≤ bytes)
    (v : Value) (n : Nat) (xs : List Value) (hs : a.eval s = v) (hown : w.ownsRow base e size v n xs)
    (xv : Value) (m : Nat) (hm : 0 < m) (news : List Value) (hx : a.eval x = xv) (hsrc : Reads size w xv m news) (h1 : ∀ u ∈ news, u.oneCell' = true)
    (hbytes : (n + m) * bytes ≤ 140737488355328) (hbase : base ≤ w.heap.size)
    (h : ∀ v' w', w'.ownsRow base e size v' (n + m) (xs ++ news) → w.grownBy w' v.ownBlock → K (a.put o.dst v') w') :
    if Region.wanted o (yielded ops a.tmps) = true then Oper.wp P o a w K Q else E := by
  rcases hsrc.2 with ⟨⟨ad, rfl⟩, rfl⟩ | ⟨g, off, cap, rfl, h2, h3, h4⟩
  · omega
  · exact step_app hgd s x t ho base e z size bytes ht hinfo hzs hsz hb1 v n xs hs hown g off cap m news hx hsrc.1 h4 h1 hbytes hbase h
end
theorem reads_one (w : World) (M : Nat) (x : Value) (h : w.cell? ⟨M, 0, none⟩ = some x) : Reads 1 w (.slice (some ⟨M, 0, none⟩) 1 1) 1 [x] := by
  refine ⟨rfl, .inr ⟨M, 0, 1, rfl, Nat.le_refl _, by decide, fun j u hu => ?_⟩⟩
  cases j with
  | zero => simp at hu; subst hu; exact h
  | succ j => simp at hu
/-- Where a put range by range stands in memory. -/
def P3St (w wr : World) (B : Nat) (v : Value) (l acc : List Int) (v7 : Value) : Prop :=
  wr.ownsRow B 5 1 (.slice (some ⟨B, 0, none⟩) 1 1) 1 [.int .u8 3] ∧ wr.ownsRow (B + 1) 5 1 v7 acc.length (acc.map (Value.int .u8)) ∧ IsInts .i64 wr v l ∧ Kp [] w wr ∧ w.heap.size = B ∧ B < wr.heap.size ∧ (∀ b, blockOf v = some b → b < B)
theorem P3St.kp {w wr w2 : World} {B : Nat} {v : Value} {l acc : List Int} {v7 : Value} (h : P3St w wr B v l acc v7) (hq : Kp [] wr w2) : P3St w w2 B v l acc v7 :=
  ⟨hq.row h.1 (by simp), hq.row h.2.1 (by simp), h.2.2.1.kp hq (by simp), h.2.2.2.1.trans hq, h.2.2.2.2.1, Nat.lt_of_lt_of_le h.2.2.2.2.2.1 hq.size, h.2.2.2.2.2.2⟩
theorem P3St.app {w wr wq w2 : World} {B : Nat} {v : Value} {l acc news : List Int} {v7 v9 : Value} (h : P3St w wr B v l acc v7) (hq : Kp [] wr wq)
    (hown : w2.ownsRow (B + 1) 5 1 v9 (acc.length + news.length) (acc.map (Value.int .u8) ++ news.map (Value.int .u8))) (hg : wq.grownBy w2 v7.ownBlock) : P3St w w2 B v l (acc ++ news) v9 := by
  obtain ⟨h0, h1, h2, h3, h4, h5, h6⟩ := h
  have hge := own_ge h1
  have hk : Kp [] w w2 := Kp.grown (h3.trans hq) hg (fun k hk => .inr (by have := hge k hk; omega))
  have hk2 : Kp (v7.ownBlock.toList) wr w2 := Kp.grown (hq.more (fun s hs => nomatch hs)) hg (fun k hk => .inl (by rw [hk]; simp))
  have hall : ∀ s ∈ v7.ownBlock.toList, B + 1 ≤ s := by
    intro s hs; cases hv : v7.ownBlock with
    | none => simp [hv] at hs
    | some b => simp [hv] at hs; subst hs; exact hge _ hv
  exact ⟨hk2.row h0 (fun s hs e => by have := hall s hs; simp [Value.ownBlock] at e; omega), by simpa using hown, h2.kp hk2 (fun s hs e => by have := hall s hs; have := h6 _ e; omega), hk, h4, Nat.lt_of_lt_of_le h5 hk2.size, h6⟩
set_option maxRecDepth 100000 in
set_option maxHeartbeats 4000000 in
theorem rputsel_3 (v : Value) (l : List Int) (q : Int) (w : World) (hm : maySel l q 3 = true) (hz : IsInts .i64 w v l) (hv : ∀ b, blockOf v = some b → b < w.heap.size) :
    Calls Try.prog 25 #[v, .int .i64 3] w (RPutD (csPutSel l 3) w) := by
  have hm2 := hm
  unfold maySel at hm2
  simp only [Bool.and_eq_true, decide_eq_true_eq] at hm2
  obtain ⟨⟨⟨⟨⟨k1, k2⟩, k3⟩, k4⟩, k5⟩, k6⟩ := hm2
  have HA : Hid (∀ c ∈ l, 0 ≤ c ∧ c ≤ 255) := fun c hc => by have := List.all_eq_true.1 k5 c hc; simp [inB] at this; omega
  have HV : Hid _ := hv
  rcases hz with ⟨⟨ad, rfl⟩, rfl⟩ | ⟨g, off, c, rfl, p1, p2, p3⟩
  · simp at k1
  have HZ : Hid (IsInts .i64 w (.slice (some ⟨g, off, none⟩) l.length c) l) := .inr ⟨g, off, c, rfl, p1, p2, p3⟩
  have HR : Hid (csPutSel l 3 = [3] ++ by2 (psE l l.length).length ++ psB (psE l l.length) ++ by2 l.length) := by unfold Hid csPutSel; rw [if_neg (by decide), psGo_eq]
  clear hm k5 k6 hv p3 k3 k4
  go_enter Try.func25, Try.ntmps25
  go_wp2_with fail
  have hst : P3St w (w.alloc (.cells #[.int .u8 3] 5)) w.heap.size (.slice (some ⟨g, off, none⟩) l.length c) l [] (.slice none 0 0) :=
    ⟨own_lit w _ _ _ 1 1 #[.int .u8 3] rfl (by omega) (by decide) rfl, World.ownsRow_nil _ _ _ _, HZ.out.kp (S := []) (by (repeat (first | exact Kp.refl _ _ | assumption | refine Kp.drew ?_ | refine Kp.drewN ?_ _ | refine Kp.alloc ?_ _ | (refine Kp.setCell ?_ (by first | (left; simp; done) | (right; simp; try omega)) _) | (refine Kp.trans' ?_ (by assumption) (by simp; try omega))))) (by simp), by (repeat (first | exact Kp.refl _ _ | assumption | refine Kp.drew ?_ | refine Kp.drewN ?_ _ | refine Kp.alloc ?_ _ | (refine Kp.setCell ?_ (by first | (left; simp; done) | (right; simp; try omega)) _) | (refine Kp.trans' ?_ (by assumption) (by simp; try omega)))), rfl, by simp, HV.out⟩
  generalize hB : w.heap.size = B at *
  go_loopw [7, 8, 9] (fun v7 cn i wr => ∃ (j : Nat) (rs : List (Nat × Int)) , j ≤ l.length ∧ i = .int .i64 j ∧ rs.length ≤ j ∧ cn = .int .i64 rs.length ∧ Hid (rs = psE l j) ∧ P3St w wr B (.slice (some ⟨g, off, none⟩) l.length c) l (psB rs) v7) (fun _ _ i _ => l.length - (intOf i).toNat)
  case atStart => exact ⟨0, [], by omega, rfl, by simp, rfl, rfl, hst⟩
  case round =>
    obtain ⟨j, rs, hj, rfl, hrs, rfl, HE, hs⟩ := hrel
    clear hst
    obtain ⟨p7, c7, rfl⟩ := slice_own hs.2.1
    have HS : Hid (P3St w wr B (.slice (some ⟨g, off, none⟩) l.length c) l (psB rs) (.slice p7 (psB rs).length c7)) := hs
    have hBs := hs.2.2.2.2.2.1
    have HL : Hid ((psB rs).length ≤ 3 * 65535) := by rw [Hid, psB_length]; omega
    clear hs
    by_cases hlt : j < l.length
    · have hat : ∀ i, i < l.length → wr.cell? ⟨g, off + i, none⟩ = some (.int .i64 (l.getD i 0)) := by
        rcases HS.out.2.2.1 with ⟨⟨ad, h⟩, h'⟩ | ⟨g1, o1, c1, h, _, _, h3⟩
        · exfalso; rw [h'] at hlt; simp at hlt
        · cases h; exact h3
      have hcj := hat j hlt
      have HAT : Hid _ := hat
      clear hat
      have hgw : g < wr.heap.size := World.block_lt_of_cell? wr _ hcj
      have hyb : 0 ≤ l.getD j 0 ∧ l.getD j 0 ≤ 255 := HA.out _ (by rw [List.getD_eq_getElem?_getD, List.getElem?_eq_getElem hlt]; exact List.getElem_mem _)
      obtain ⟨y1, y2⟩ := hyb
      generalize hy : l.getD j 0 = y at hcj y1 y2
      have HY : Hid _ := hy
      clear hy
      have HNEW : Hid (newR l j = true → psB (psE l (j + 1)) = psB rs ++ bytesN 2 j ++ [y]) := by
        intro h
        rw [psE, if_pos h, psB_snoc, HY.out, ← HE.out, bytesN_2, show y % 256 = y by omega, List.append_assoc]
      have HOLD : Hid (newR l j = false → rs = psE l (j + 1)) := by
        intro h
        rw [psE, if_neg (by rw [h]; simp)]; exact HE.out
      have HLEN : Hid (newR l j = true → psE l (j + 1) = rs ++ [(j, y)]) := by
        intro h
        rw [psE, if_pos h, HY.out, ← HE.out]
      by_cases h0 : j = 0
      · have hn : Hid (newR l j = true) := by subst h0; rfl
        have h0t : ((j : Int) == 0) = true := by simp; omega
        clear h0
        go_wp2_with fail
        go_quiet (fail)
        go_wp2_with fail
        have hng : some g ≠ (Value.slice p7 (psB rs).length c7).ownBlock := fun e => by
          have h1 := own_ge HS.out.2.1 g e.symm
          have h2 := HS.out.2.2.2.2.2.2 g ((blockOf_some _ _ _ _ _ _).2 ⟨by omega, rfl⟩)
          omega
        have hgB : g < B := HS.out.2.2.2.2.2.2 g ((blockOf_some _ _ _ _ _ _).2 ⟨by omega, rfl⟩)
        have H7 : ∀ M, wr.heap.size ≤ M → some M ≠ (Value.slice p7 (psB rs).length c7).ownBlock := fun M h e => by
          have h1 := (HS.out.2.1.lt M e.symm).2
          omega
        have hwy : IntKind.u8.wrap y = y := by rw [IntKind.wrap_u8]; omega
        go_region_held3 (fun w' => w'.cell? ⟨g, off + j, none⟩ = some (.int .i64 y))
          (first
            | go_keep
            | exact hk3.cell (by assumption) (by simp)
            | exact hk3.cell (by simpa using hcj) (by simp)
            | (rw [hgr4.cell_far _ (by have := hk3.size; simp at this ⊢; omega) hng]; assumption)
            | (rw [hgr6.cell_far _ (by have := hs4.2.2.2.2.2.1; simp at this ⊢; omega) hng6]; assumption))
          ((first
            | (go_at_call 54
               refine (rbytes_calls 2 j (by decide) (by decide) (by omega) (by omega) _).mono ?_
               rintro e w3 ⟨v3, rfl, hown3, hk3⟩
               obtain ⟨p3, c3, rfl⟩ := slice_own hown3
               have hr3 := Reads.owned hown3)
            | (refine step_appR (by rfl) _ _ 22 (by rfl) (B + 1) 5 (.int .u8 0) 1 1 Try.underlying22 infoByte rfl (by decide) (by decide) (.slice p7 (psB rs).length c7) (psB rs).length ((psB rs).map (Value.int .u8)) (by rfl) (HS.out.kp (by (repeat (first | exact Kp.refl _ _ | assumption | refine Kp.drew ?_ | refine Kp.drewN ?_ _ | refine Kp.alloc ?_ _ | (refine Kp.setCell ?_ (by first | (left; simp; done) | (right; simp; try omega)) _) | (refine Kp.trans' ?_ (by assumption) (by simp; try omega)))))).2.1 (.slice p3 2 c3) 2 (by decide) ((bytesN 2 j).map (Value.int .u8)) (by rfl) (hr3.kp (S := []) (by (repeat (first | exact Kp.refl _ _ | assumption | refine Kp.drew ?_ | refine Kp.drewN ?_ _ | refine Kp.alloc ?_ _ | (refine Kp.setCell ?_ (by first | (left; simp; done) | (right; simp; try omega)) _) | (refine Kp.trans' ?_ (by assumption) (by simp; try omega))))) (by simp)) (oneCell_ints _ _) (by have := HL.out; omega) (HS.out.kp (by (repeat (first | exact Kp.refl _ _ | assumption | refine Kp.drew ?_ | refine Kp.drewN ?_ _ | refine Kp.alloc ?_ _ | (refine Kp.setCell ?_ (by first | (left; simp; done) | (right; simp; try omega)) _) | (refine Kp.trans' ?_ (by assumption) (by simp; try omega)))))).2.2.2.2.2.1 ?_
               intro v5 w4 hown4 hgr4
               obtain ⟨p5, c5, rfl⟩ := slice_own hown4
               have hs4 := HS.out.app (news := bytesN 2 j) (by (repeat (first | exact Kp.refl _ _ | assumption | refine Kp.drew ?_ | refine Kp.drewN ?_ _ | refine Kp.alloc ?_ _ | (refine Kp.setCell ?_ (by first | (left; simp; done) | (right; simp; try omega)) _) | (refine Kp.trans' ?_ (by assumption) (by simp; try omega))))) hown4 hgr4
               have hng6 : some g ≠ (Value.slice p5 ((psB rs).length + 2) c5).ownBlock := fun e => by
                 have h1 := own_ge hown4 g e.symm
                 omega)
            | (refine step_appR (by rfl) _ _ 22 (by rfl) (B + 1) 5 (.int .u8 0) 1 1 Try.underlying22 infoByte rfl (by decide) (by decide) (.slice p5 ((psB rs).length + 2) c5) ((psB rs).length + 2) ((psB rs).map (Value.int .u8) ++ (bytesN 2 j).map (Value.int .u8)) (by rfl) (hown4.alloc _) (.slice (some ⟨w4.heap.size, 0, none⟩) 1 1) 1 (by decide) [.int .u8 (y)] (by rfl) (Reads.made _ _ 1 1 [.int .u8 (y)] _ rfl rfl (by decide)) (by intro u hu; simp at hu; subst hu; rfl) (by have := HL.out; omega) (by have := hs4.2.2.2.2.2.1; simp; omega) ?_
               intro v6 w5 hown6 hgr6)
            | (refine step_appR (by rfl) _ _ 22 (by rfl) (B + 1) 5 (.int .u8 0) 1 1 Try.underlying22 infoByte rfl (by decide) (by decide) (.slice p5 ((psB rs).length + 2) c5) ((psB rs).length + 2) ((psB rs).map (Value.int .u8) ++ (bytesN 2 j).map (Value.int .u8)) (by rfl) hown4 (.slice (some ⟨w3.heap.size, 0, none⟩) 1 1) 1 (by decide) [.int .u8 (y)] (by rfl) (reads_one _ _ _ ((hgr4.cell_far ⟨w3.heap.size, 0, none⟩ (by simp) (H7 w3.heap.size (by have := hk3.size; simp at this; omega))).trans (by exact news_of_heap (cs := [.int .u8 y]) (heap_alloc_new _ _) 0 _ rfl))) (by intro u hu; simp at hu; subst hu; rfl) (by have := HL.out; omega) (by have := hs4.2.2.2.2.2.1; simp; omega) ?_
               intro v6 w5 hown6 hgr6)
            | (refine step_appR (by rfl) _ _ 22 (by rfl) (B + 1) 5 (.int .u8 0) 1 1 Try.underlying22 infoByte rfl (by decide) (by decide) (.slice p5 ((psB rs).length + 2) c5) ((psB rs).length + 2) ((psB rs).map (Value.int .u8) ++ (bytesN 2 j).map (Value.int .u8)) (by rfl) hown4 (.slice (some ⟨wr.heap.size, 0, none⟩) 1 1) 1 (by decide) [.int .u8 (y)] (by rfl) (reads_one _ _ _ ((hgr4.cell_far ⟨wr.heap.size, 0, none⟩ (by have := hk3.size; simp at this ⊢; omega) (H7 wr.heap.size (Nat.le_refl _))).trans (hk3.cell (by exact news_of_heap (cs := [.int .u8 y]) (heap_alloc_new _ _) 0 _ rfl) (by simp)))) (by intro u hu; simp at hu; subst hu; rfl) (by have := HL.out; omega) (by have := hs4.2.2.2.2.2.1; simp; omega) ?_
               intro v6 w5 hown6 hgr6)))
        all_goals
          have hs5 : P3St w w5 B (.slice (some ⟨g, off, none⟩) l.length c) l (psB rs ++ bytesN 2 j ++ [y]) v6 := hs4.app (news := [y]) (by (repeat (first | exact Kp.refl _ _ | assumption | refine Kp.drew ?_ | refine Kp.drewN ?_ _ | refine Kp.alloc ?_ _ | (refine Kp.setCell ?_ (by first | (left; simp; done) | (right; simp; try omega)) _) | (refine Kp.trans' ?_ (by assumption) (by simp; try omega))))) (by simpa [bytesN_length] using hown6) hgr6
          rw [← HNEW.out hn.out] at hs5
          have hle : (psE l (j + 1)).length = rs.length + 1 := by rw [HLEN.out hn.out]; simp
          have HLE : Hid _ := hle
          clear hle hown6 hgr6 hs4 hown4 hgr4 hng6 hr3 hown3 hk3
          go_wp2_with fail
          go_roundw
          case rel => first | exact ⟨j + 1, psE l (j + 1), by omega, int_eq (by omega), by rw [HLE.out]; omega, int_eq (by rw [HLE.out]; simp), rfl, hs5⟩ | ((repeat apply Exists.intro); exact ⟨⟨j + 1, psE l (j + 1), by omega, int_eq (by omega), by rw [HLE.out]; omega, int_eq (by rw [HLE.out]; simp), rfl, hs5⟩, rfl⟩)
          case measure => simp [intOf]; omega
      · have h0' : ((j : Int) == 0) = false := by simp; omega
        have hcp := HAT.out (j - 1) (by omega)
        generalize hz : l.getD (j - 1) 0 = z at hcp
        have HZ2 : Hid _ := hz
        clear hz
        have hj1 : (1 : Int) ≤ j := by omega
        by_cases hyz : y = z
        · have hn : Hid (newR l j = false) := by
            unfold Hid newR; rw [HY.out, HZ2.out, hyz]; simp [h0]
          subst hyz
          go_wp2_with fail
          go_quiet (fail)
          have hs4 : P3St w (wr.drewN nq) B (.slice (some ⟨g, off, none⟩) l.length c) l (psB rs) (.slice p7 (psB rs).length c7) := HS.out.kp (by (repeat (first | exact Kp.refl _ _ | assumption | refine Kp.drew ?_ | refine Kp.drewN ?_ _ | refine Kp.alloc ?_ _ | (refine Kp.setCell ?_ (by first | (left; simp; done) | (right; simp; try omega)) _) | (refine Kp.trans' ?_ (by assumption) (by simp; try omega)))))
          have hr9 : Hid (rs = psE l (j + 1)) := HOLD.out hn.out
          go_wp2_with fail
          go_roundw
          case rel => first | exact ⟨j + 1, rs, by omega, int_eq (by omega), by omega, rfl, hr9.out, hs4⟩ | ((repeat apply Exists.intro); exact ⟨⟨j + 1, rs, by omega, int_eq (by omega), by omega, rfl, hr9.out, hs4⟩, rfl⟩)
          case measure => simp [intOf]; omega
        · have hn : Hid (newR l j = true) := by
            unfold Hid newR; rw [HY.out, HZ2.out]; simp [hyz]
          have hyz' : (y != z) = true := bne_iff_ne.2 hyz
          go_wp2_with fail
          go_quiet (fail)
          go_wp2_with fail
          have hng : some g ≠ (Value.slice p7 (psB rs).length c7).ownBlock := fun e => by
            have h1 := own_ge HS.out.2.1 g e.symm
            have h2 := HS.out.2.2.2.2.2.2 g ((blockOf_some _ _ _ _ _ _).2 ⟨by omega, rfl⟩)
            omega
          have hgB : g < B := HS.out.2.2.2.2.2.2 g ((blockOf_some _ _ _ _ _ _).2 ⟨by omega, rfl⟩)
          have H7 : ∀ M, wr.heap.size ≤ M → some M ≠ (Value.slice p7 (psB rs).length c7).ownBlock := fun M h e => by
            have h1 := (HS.out.2.1.lt M e.symm).2
            omega
          have hwy : IntKind.u8.wrap y = y := by rw [IntKind.wrap_u8]; omega
          go_region_held3 (fun w' => w'.cell? ⟨g, off + j, none⟩ = some (.int .i64 y))
            (first
              | go_keep
              | exact hk3.cell (by assumption) (by simp)
              | exact hk3.cell (by simpa using hcj) (by simp)
              | (rw [hgr4.cell_far _ (by have := hk3.size; simp at this ⊢; omega) hng]; assumption)
              | (rw [hgr6.cell_far _ (by have := hs4.2.2.2.2.2.1; simp at this ⊢; omega) hng6]; assumption))
            ((first
              | (go_at_call 54
                 refine (rbytes_calls 2 j (by decide) (by decide) (by omega) (by omega) _).mono ?_
                 rintro e w3 ⟨v3, rfl, hown3, hk3⟩
                 obtain ⟨p3, c3, rfl⟩ := slice_own hown3
                 have hr3 := Reads.owned hown3)
              | (refine step_appR (by rfl) _ _ 22 (by rfl) (B + 1) 5 (.int .u8 0) 1 1 Try.underlying22 infoByte rfl (by decide) (by decide) (.slice p7 (psB rs).length c7) (psB rs).length ((psB rs).map (Value.int .u8)) (by rfl) (HS.out.kp (by (repeat (first | exact Kp.refl _ _ | assumption | refine Kp.drew ?_ | refine Kp.drewN ?_ _ | refine Kp.alloc ?_ _ | (refine Kp.setCell ?_ (by first | (left; simp; done) | (right; simp; try omega)) _) | (refine Kp.trans' ?_ (by assumption) (by simp; try omega)))))).2.1 (.slice p3 2 c3) 2 (by decide) ((bytesN 2 j).map (Value.int .u8)) (by rfl) (hr3.kp (S := []) (by (repeat (first | exact Kp.refl _ _ | assumption | refine Kp.drew ?_ | refine Kp.drewN ?_ _ | refine Kp.alloc ?_ _ | (refine Kp.setCell ?_ (by first | (left; simp; done) | (right; simp; try omega)) _) | (refine Kp.trans' ?_ (by assumption) (by simp; try omega))))) (by simp)) (oneCell_ints _ _) (by have := HL.out; omega) (HS.out.kp (by (repeat (first | exact Kp.refl _ _ | assumption | refine Kp.drew ?_ | refine Kp.drewN ?_ _ | refine Kp.alloc ?_ _ | (refine Kp.setCell ?_ (by first | (left; simp; done) | (right; simp; try omega)) _) | (refine Kp.trans' ?_ (by assumption) (by simp; try omega)))))).2.2.2.2.2.1 ?_
                 intro v5 w4 hown4 hgr4
                 obtain ⟨p5, c5, rfl⟩ := slice_own hown4
                 have hs4 := HS.out.app (news := bytesN 2 j) (by (repeat (first | exact Kp.refl _ _ | assumption | refine Kp.drew ?_ | refine Kp.drewN ?_ _ | refine Kp.alloc ?_ _ | (refine Kp.setCell ?_ (by first | (left; simp; done) | (right; simp; try omega)) _) | (refine Kp.trans' ?_ (by assumption) (by simp; try omega))))) hown4 hgr4
                 have hng6 : some g ≠ (Value.slice p5 ((psB rs).length + 2) c5).ownBlock := fun e => by
                   have h1 := own_ge hown4 g e.symm
                   omega)
              | (refine step_appR (by rfl) _ _ 22 (by rfl) (B + 1) 5 (.int .u8 0) 1 1 Try.underlying22 infoByte rfl (by decide) (by decide) (.slice p5 ((psB rs).length + 2) c5) ((psB rs).length + 2) ((psB rs).map (Value.int .u8) ++ (bytesN 2 j).map (Value.int .u8)) (by rfl) (hown4.alloc _) (.slice (some ⟨w4.heap.size, 0, none⟩) 1 1) 1 (by decide) [.int .u8 (y)] (by rfl) (Reads.made _ _ 1 1 [.int .u8 (y)] _ rfl rfl (by decide)) (by intro u hu; simp at hu; subst hu; rfl) (by have := HL.out; omega) (by have := hs4.2.2.2.2.2.1; simp; omega) ?_
                 intro v6 w5 hown6 hgr6)
              | (refine step_appR (by rfl) _ _ 22 (by rfl) (B + 1) 5 (.int .u8 0) 1 1 Try.underlying22 infoByte rfl (by decide) (by decide) (.slice p5 ((psB rs).length + 2) c5) ((psB rs).length + 2) ((psB rs).map (Value.int .u8) ++ (bytesN 2 j).map (Value.int .u8)) (by rfl) hown4 (.slice (some ⟨w3.heap.size, 0, none⟩) 1 1) 1 (by decide) [.int .u8 (y)] (by rfl) (reads_one _ _ _ ((hgr4.cell_far ⟨w3.heap.size, 0, none⟩ (by simp) (H7 w3.heap.size (by have := hk3.size; simp at this; omega))).trans (by exact news_of_heap (cs := [.int .u8 y]) (heap_alloc_new _ _) 0 _ rfl))) (by intro u hu; simp at hu; subst hu; rfl) (by have := HL.out; omega) (by have := hs4.2.2.2.2.2.1; simp; omega) ?_
                 intro v6 w5 hown6 hgr6)
              | (refine step_appR (by rfl) _ _ 22 (by rfl) (B + 1) 5 (.int .u8 0) 1 1 Try.underlying22 infoByte rfl (by decide) (by decide) (.slice p5 ((psB rs).length + 2) c5) ((psB rs).length + 2) ((psB rs).map (Value.int .u8) ++ (bytesN 2 j).map (Value.int .u8)) (by rfl) hown4 (.slice (some ⟨wr.heap.size, 0, none⟩) 1 1) 1 (by decide) [.int .u8 (y)] (by rfl) (reads_one _ _ _ ((hgr4.cell_far ⟨wr.heap.size, 0, none⟩ (by have := hk3.size; simp at this ⊢; omega) (H7 wr.heap.size (Nat.le_refl _))).trans (hk3.cell (by exact news_of_heap (cs := [.int .u8 y]) (heap_alloc_new _ _) 0 _ rfl) (by simp)))) (by intro u hu; simp at hu; subst hu; rfl) (by have := HL.out; omega) (by have := hs4.2.2.2.2.2.1; simp; omega) ?_
                 intro v6 w5 hown6 hgr6)))
          all_goals
            have hs5 : P3St w w5 B (.slice (some ⟨g, off, none⟩) l.length c) l (psB rs ++ bytesN 2 j ++ [y]) v6 := hs4.app (news := [y]) (by (repeat (first | exact Kp.refl _ _ | assumption | refine Kp.drew ?_ | refine Kp.drewN ?_ _ | refine Kp.alloc ?_ _ | (refine Kp.setCell ?_ (by first | (left; simp; done) | (right; simp; try omega)) _) | (refine Kp.trans' ?_ (by assumption) (by simp; try omega))))) (by simpa [bytesN_length] using hown6) hgr6
            rw [← HNEW.out hn.out] at hs5
            have hle : (psE l (j + 1)).length = rs.length + 1 := by rw [HLEN.out hn.out]; simp
            have HLE : Hid _ := hle
            clear hle hown6 hgr6 hs4 hown4 hgr4 hng6 hr3 hown3 hk3
            go_wp2_with fail
            go_roundw
            case rel => first | exact ⟨j + 1, psE l (j + 1), by omega, int_eq (by omega), by rw [HLE.out]; omega, int_eq (by rw [HLE.out]; simp), rfl, hs5⟩ | ((repeat apply Exists.intro); exact ⟨⟨j + 1, psE l (j + 1), by omega, int_eq (by omega), by rw [HLE.out]; omega, int_eq (by rw [HLE.out]; simp), rfl, hs5⟩, rfl⟩)
            case measure => simp [intOf]; omega
    · obtain rfl : j = l.length := by omega
      have hE2 : Hid (psE l l.length = rs) := HE.out.symm
      have hrc : rs.length ≤ 65535 := by omega
      clear hlt
      go_wp2_with fail
      refine (rbytes_calls 2 rs.length (by decide) (by decide) (by omega) (by omega) _).mono ?_
      rintro e w3 ⟨v3, rfl, hown3, hk3⟩
      obtain ⟨p3, c3, rfl⟩ := slice_own hown3
      have HS3 : Hid (P3St w w3 B (.slice (some ⟨g, off, none⟩) l.length c) l (psB rs) (.slice p7 (psB rs).length c7)) := HS.out.kp hk3
      have hb3 := HS3.out.2.2.2.2.2.1
      have hr3 := Lib.hid (Reads.owned hown3)
      clear hown3 hk3
      go_wp2_with (at_builtin; refine wpList_app rfl _ _ 22 rfl B 5 (.int .u8 0) 1 1 Try.underlying22 infoByte rfl (by decide) (by decide) (.slice (some ⟨B, 0, none⟩) 1 1) 1 [.int .u8 3] rfl ?hown (.slice p3 2 c3) 2 ((bytesN 2 rs.length).map (Value.int .u8)) rfl ?hsrc (oneCell_ints _ _) ?hb1 ?hb2 ?hk)
      case hown => exact HS3.out.1
      case hsrc => exact hr3.out
      case hb1 => omega
      case hb2 => omega
      case hk =>
      intro v5 w5 hown5 hgr5
      have hk5 : Kp [B] w3 w5 := Kp.grown (Kp.refl _ _) hgr5 (fun k hk => .inl (by simp [Value.ownBlock] at hk; simp [hk]))
      have hrest := Lib.hid (Reads.owned (hk5.row HS3.out.2.1 (by intro s hs e; simp at hs; subst hs; have := own_ge HS3.out.2.1 _ e; omega)))
      have hkw5 : Kp [] w w5 := HS3.out.2.2.2.1.trans' hk5 (fun t ht => .inr (by simp at ht; omega))
      obtain ⟨p5, c5, rfl⟩ := slice_own hown5
      have hb5 : B ≤ w5.heap.size := by have := hkw5.size; omega
      have HO5 := Lib.hid hown5
      clear hown5 hgr5 hk5 HS3 hb3 hr3
      go_wp2_with (at_builtin; refine wpList_app rfl _ _ 22 rfl B 5 (.int .u8 0) 1 1 Try.underlying22 infoByte rfl (by decide) (by decide) (.slice p5 (1 + 2) c5) (1 + 2) ([.int .u8 3] ++ (bytesN 2 rs.length).map (Value.int .u8)) rfl ?hown (.slice p7 (psB rs).length c7) (psB rs).length ((psB rs).map (Value.int .u8)) rfl ?hsrc (oneCell_ints _ _) ?hb1 ?hb2 ?hk)
      case hown => exact HO5.out
      case hsrc => exact hrest.out
      case hb1 => have := HL.out; omega
      case hb2 => omega
      case hk =>
      intro v6 w6 hown6 hgr6
      have hkw6 : Kp [] w w6 := Kp.grown hkw5 hgr6 (fun k hk => .inr (by have := own_ge HO5.out k hk; omega))
      obtain ⟨p6, c6, rfl⟩ := slice_own hown6
      have hb6 : B ≤ w6.heap.size := by have := hkw6.size; omega
      have HO6 := Lib.hid hown6
      clear hown6 hgr6 HO5 hrest hkw5
      go_wp2_with fail
      refine (rbytes_calls 2 l.length (by decide) (by decide) (by omega) (by omega) _).mono ?_
      rintro e w7 ⟨v8, rfl, hown8, hk8⟩
      obtain ⟨p8, c8, rfl⟩ := slice_own hown8
      have hr8 := Lib.hid (Reads.owned hown8)
      have hkw7 : Kp [] w w7 := hkw6.trans hk8
      have HO7 := Lib.hid (hk8.row HO6.out (by simp))
      have hb7 : B ≤ w7.heap.size := by have := hkw7.size; omega
      clear hown8 hk8 HO6 hkw6
      go_wp2_with (at_builtin; refine wpList_app rfl _ _ 22 rfl B 5 (.int .u8 0) 1 1 Try.underlying22 infoByte rfl (by decide) (by decide) (.slice p6 (1 + 2 + (psB rs).length) c6) (1 + 2 + (psB rs).length) ([.int .u8 3] ++ (bytesN 2 rs.length).map (Value.int .u8) ++ (psB rs).map (Value.int .u8)) rfl ?hown (.slice p8 2 c8) 2 ((bytesN 2 l.length).map (Value.int .u8)) rfl ?hsrc (oneCell_ints _ _) ?hb1 ?hb2 ?hk)
      case hown => exact HO7.out
      case hsrc => exact hr8.out
      case hb1 => have := HL.out; omega
      case hb2 => omega
      case hk =>
      intro v9 w9 hown9 hgr9
      have hkw9 : Kp [] w w9 := Kp.grown hkw7 hgr9 (fun k hk => .inr (by have := own_ge HO7.out k hk; omega))
      have hge9 := Lib.hid (own_geb hown9)
      have HF : Hid (IsInts .u8 w9 v9 (csPutSel l 3)) := by
        rw [Hid, HR.out, hE2.out, ← bytesN_2, ← bytesN_2]
        refine IsInts.owned (base := B) (e := 5) (n := 1 + 2 + (psB rs).length + 2) ?_
        simpa using hown9
      clear hown9 hgr9 HO7 hr8
      go_wp2_with fail
      go_ret
      exact ⟨_, rfl, HF.out, hkw9, fun b hb => by have := hge9.out b hb; omega⟩
theorem rputsel_calls (v : Value) (l : List Int) (q f : Int) (w : World) (hm : maySel l q f = true) (hz : IsInts .i64 w v l) (hv : ∀ b, blockOf v = some b → b < w.heap.size) :
    Calls Try.prog 25 #[v, .int .i64 f] w (RPutD (csPutSel l f) w) := by
  have h : f = 0 ∨ f = 3 := by
    have h := hm
    unfold maySel at h
    simp only [Bool.and_eq_true, Bool.or_eq_true, beq_iff_eq] at h
    exact h.2
  rcases h with rfl | rfl
  · exact rputsel_0 v l q w hm hz hv
  · exact rputsel_3 v l q w hm hz hv
theorem putsel_calls (v : Value) (l : List Int) (q f : Int) (w : World) (hm : maySel l q f = true) (hz : IsInts .i64 w v l) (hv : ∀ b, blockOf v = some b → b < w.heap.size) :
    Calls Try.prog 23 #[v, .int .i64 q, .int .i64 f] w (Loaded .u8 (some (csPutSel l f)) 0 w) := by
  have h := hm
  unfold maySel at h
  simp only [Bool.and_eq_true, Bool.or_eq_true, beq_iff_eq, decide_eq_true_eq] at h
  obtain ⟨⟨⟨⟨⟨k1, k2⟩, k3⟩, k4⟩, k5⟩, k6⟩ := h
  rcases k6 with rfl | rfl
  · exact putsel_0 v l q w hm hz hv
  · have hz2 := hz
    rcases hz with ⟨⟨ad, rfl⟩, rfl⟩ | ⟨g, off, c, rfl, p1, p2, p3⟩
    · simp at k1
    · exact putsel_3 g off c l q w p1 p2 hz2 k1 k2 k3 k4 k5 (hv g ((blockOf_some _ _ _ _ _ _).2 ⟨by omega, rfl⟩))
end Go.Proofs.Ythmokldmdcjklaa

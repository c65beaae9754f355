/- simple: units, put, point. -/
import Derived.Test.YtodjohoonbkklaaSiD
import Derived.Test.YtodjohoonbkklaaOmD
import Derived.Deep.AppendLies
namespace Go.Proofs.Ytodjohoonbkklaa
open Go.RowKit
set_option linter.unusedVariables false
set_option linter.unusedSimpArgs false
section
variable {P : Program} {w : World} {ops : Array Oper} {rest : List Oper} {o : Oper} {a : Act} {Q : Exit → Act → World → Prop}
/-- As 'wpList_pushL'; and where the new row lies. -/
theorem wpList_pushM (hgd : o.guard = none) (s x : Operand) (T E : TypeId) (k : IntKind) (bytes : Nat) (ht : P.underlying T = some (.slice E)) (hinfo : (P.info? E).map (fun i => (i.zero, i.size, i.bytes)) = some (some (.int k 0), 1, bytes)) (hb1 : 1 ≤ bytes)
    (ho : o.op = .call { callee := .builtin .append, args := #[s, x], argTypes := #[T, T] }) (base : Nat) (v : Value) (l : List Int) (n : Nat) (hn : l.length = n) (hs : a.eval s = v) (hown : w.ownsRow base E 1 v n (l.map (Value.int k)))
    (G : Nat) (zs : List Int) (m : Nat) (hm : zs.length = m) (hm0 : 0 < m) (hx : a.eval x = .slice (some ⟨G, 0, none⟩) m m) (hc : ∀ j u, (zs.map (Value.int k))[j]? = some u → w.cell? ⟨G, 0 + j, none⟩ = some u) (hl : (n + m) * bytes ≤ 140737488355328) (hbase : base ≤ w.heap.size)
    (h : ∀ v' w', w'.ownsRow base E 1 v' (n + m) ((l ++ zs).map (Value.int k)) → Kp v.ownBlock.toList w w' → (∀ k, v'.ownBlock = some k → v.ownBlock = some k ∨ w.heap.size ≤ k) → wpList P ops Q rest (a.put o.dst v') w') : wpList P ops Q (o :: rest) a w := by
  obtain ⟨i, hi, hz, hsize, hby⟩ := info_parts hinfo
  subst hm
  have h63 : n + zs.length ≤ maxLen := by
    have := Nat.le_mul_of_pos_right (n + zs.length) hb1
    simp only [maxLen]; omega
  refine wpList_append_lies w hgd s x T ho base E i (.int k 0) 1 bytes ht hi hz hsize hby rfl (by decide) v n (l.map (Value.int k)) hs hown ⟨G, 0, none⟩ zs.length zs.length (zs.map (Value.int k)) hx (by simp) (fun j u hu => by rw [add_lit]; exact hc j u hu) (oneCell_ints _ _) hm0 h63 hl hbase w.heap.size rfl ?_
  intro g c w' r1 r2 r3 _
  refine h _ w' (by rw [List.map_append]; exact r1) (Kp.grown (Kp.refl _ _) r2 (fun k hk => .inl (by rw [hk]; simp))) (fun k hk => ?_)
  have : g = k := by simpa [Value.ownBlock] using hk
  subst this
  rcases r3 with r3 | r3
  · exact .inl r3
  · exact .inr (by rw [r3]; exact Nat.le_refl _)
end
/-- A number in units; is it whole, and does it fit? -/
def unitsB (x : Int) : Bool := decide (x.tmod 65536 = 0) && unitB (x.tdiv 65536)
theorem tdiv_small (x : Int) (h0 : -9223372036854775808 ≤ x) (h1 : x ≤ 9223372036854775807) : -140737488355328 ≤ x.tdiv 65536 ∧ x.tdiv 65536 ≤ 140737488355327 := by
  rcases Int.le_total 0 x with h | h
  · rw [Int.tdiv_eq_ediv_of_nonneg h]; omega
  · have e : x.tdiv 65536 = -((-x).tdiv 65536) := by rw [Int.neg_tdiv, Int.neg_neg]
    rw [e, Int.tdiv_eq_ediv_of_nonneg (by omega)]; omega
theorem units_calls (x : Int) (h0 : -9223372036854775808 ≤ x) (h1 : x ≤ 9223372036854775807) (w : World) : Calls Try.prog 143 #[.int .i64 x] w fun e w' => e = .returned (.tuple #[.int .i64 (x.tdiv 65536), .bool (unitsB x)]) ∧ w = w' := by
  have HB := Lib.hid (tdiv_small x h0 h1)
  unfold unitsB
  by_cases hm : x.tmod 65536 = 0
  · have hm2 : (x.tmod 65536 == 0) = true := by simp [hm]
    have HM : Hid (decide (x.tmod 65536 = 0) = true) := decide_eq_true hm
    go_enter Try.func143, Try.ntmps143
    go_wp2_with fail
    refine (isunit_calls _ _).mono ?_; rintro e w2 ⟨rfl, rfl⟩
    go_wp2_with fail
    go_ret2
    exact ⟨by rw [HM.out, Bool.true_and]; rfl, rfl⟩
  · have hm2 : (x.tmod 65536 == 0) = false := by simp [hm]
    have HM : Hid (decide (x.tmod 65536 = 0) = false) := decide_eq_false hm
    clear hm
    go_enter Try.func143, Try.ntmps143
    go_wp2_with fail
    go_ret2
    exact ⟨by rw [HM.out, Bool.false_and]; rfl, rfl⟩
/-- A stream of steps: its bytes, the last number, its bits; it lies in block S, its bytes at or above B. -/
def StrAt (w : World) (S B : Nat) (v : Value) (acc : List Int) (last sh sa : Int) : Prop :=
  w.heap[S]? = some (.cells #[v, .int .i64 last, .int .i64 sh, .int .i64 sa] 124 (0, 0)) ∧ w.ownsRow B 5 1 v acc.length (acc.map (Value.int .u8)) ∧ S < B ∧ B ≤ w.heap.size
theorem StrAt.facts {w : World} {S B : Nat} {v : Value} {acc : List Int} {last sh sa : Int} (h : StrAt w S B v acc last sh sa) :
    w.cell? ⟨S, 0, none⟩ = some v ∧ w.cell? ⟨S, 1, none⟩ = some (.int .i64 last) ∧ w.cell? ⟨S, 2, none⟩ = some (.int .i64 sh) ∧ w.cell? ⟨S, 3, none⟩ = some (.int .i64 sa) ∧ w.frozen? ⟨S, 0, none⟩ = false ∧ w.frozen? ⟨S, 1, none⟩ = false :=
  ⟨by rw [cell_of_row w S 0 _ _ _ h.1]; rfl, by rw [cell_of_row w S 1 _ _ _ h.1]; rfl, by rw [cell_of_row w S 2 _ _ _ h.1]; rfl, by rw [cell_of_row w S 3 _ _ _ h.1]; rfl, frozen_of_row w S 0 _ _ h.1, frozen_of_row w S 1 _ _ h.1⟩
theorem StrAt.kp {T : List Nat} {w w' : World} {S B : Nat} {v : Value} {acc : List Int} {last sh sa : Int} (h : StrAt w S B v acc last sh sa) (hk : Kp T w w') (hS : S ∉ T) (hv : ∀ s ∈ T, v.ownBlock ≠ some s) : StrAt w' S B v acc last sh sa :=
  ⟨hk.heap h.1 hS, hk.row h.2.1 hv, h.2.2.1, Nat.le_trans h.2.2.2 hk.size⟩
theorem StrAt.kp0 {w w' : World} {S B : Nat} {v : Value} {acc : List Int} {last sh sa : Int} (h : StrAt w S B v acc last sh sa) (hk : Kp [] w w') : StrAt w' S B v acc last sh sa := h.kp hk (by simp) (by simp)
/-- The bytes of a step, its bits, does it fit? -/
def putB (d : Int) : List Int := if d = 0 then [] else if 0 < d ∧ d ≤ 255 then [d] else if d < 0 ∧ -255 ≤ d then [-d] else [d / 256 % 256, d % 256]
def putF (sh sa d : Int) : Int := if d = 0 then sa else if 0 < d ∧ d ≤ 255 then bits .or .i64 sh sa else if d < 0 ∧ -255 ≤ d then sh else 0
def putK (d : Int) : Bool := if d = 0 then true else if 0 < d ∧ d ≤ 255 then true else if d < 0 ∧ -255 ≤ d then true else unitB d
/-- What put leaves. -/
def PuP (w : World) (S B : Nat) (v : Value) (acc : List Int) (x sh sa d : Int) (e : Ending) (w' : World) : Prop :=
  ∃ v', e = .returned (.tuple #[.int .i64 (putF sh sa d), .bool (putK d)]) ∧ StrAt w' S B v' (acc ++ putB d) x sh sa ∧ Kp (S :: v.ownBlock.toList) w w' ∧ ∀ k, v'.ownBlock = some k → v.ownBlock = some k ∨ w.heap.size ≤ k
theorem StrAt.last {w : World} {S B : Nat} {v : Value} {acc : List Int} {last sh sa : Int} (h : StrAt w S B v acc last sh sa) (x : Int) : StrAt (w.setCell ⟨S, 1, none⟩ (.int .i64 x)) S B v acc x sh sa := by
  have hk : Kp [S] w (w.setCell ⟨S, 1, none⟩ (.int .i64 x)) := (Kp.refl _ _).setCell (.inl (by simp)) _
  exact ⟨heap_setCell_same w S 1 _ _ _ h.1, hk.row h.2.1 (fun t ht e => by simp at ht; subst ht; have := own_ge h.2.1 _ e; have := h.2.2.1; omega), h.2.2.1, Nat.le_trans h.2.2.2 hk.size⟩
/-- Bytes have been appended, and the new row laid into the stream. -/
theorem StrAt.wrote {w w4 : World} {S B n m : Nat} {v v' : Value} {acc news : List Int} {x sh sa : Int} {O : Obj} (h : StrAt w S B v acc x sh sa) (hn : acc.length = n) (hm : news.length = m)
    (hown : w4.ownsRow B 5 1 v' (n + m) (acc.map (Value.int .u8) ++ news.map (Value.int .u8))) (hk : Kp v.ownBlock.toList (w.alloc O) w4) (hb : ∀ k, v'.ownBlock = some k → v.ownBlock = some k ∨ w.heap.size ≤ k) :
    StrAt (w4.setCell ⟨S, 0, none⟩ v') S B v' (acc ++ news) x sh sa ∧ Kp (S :: v.ownBlock.toList) w (w4.setCell ⟨S, 0, none⟩ v') ∧ (w4.cell? ⟨S, 0, none⟩ = some v ∧ w4.frozen? ⟨S, 0, none⟩ = false) := by
  have h3 : Kp v.ownBlock.toList w w4 := ((Kp.refl _ _).alloc O).trans hk
  have hS : S ∉ v.ownBlock.toList := fun e => by have := own_ge h.2.1 S (by simpa using e); have := h.2.2.1; omega
  have h4 := h3.heap h.1 hS
  have hsz : w.heap.size ≤ w4.heap.size := h3.size
  have hks : Kp [S] w4 (w4.setCell ⟨S, 0, none⟩ v') := (Kp.refl _ _).setCell (.inl (by simp)) _
  refine ⟨⟨heap_setCell_same w4 S 0 _ _ _ h4, hks.row (by rw [List.length_append, hn, hm, List.map_append]; exact hown) (fun t ht e => by simp at ht; subst ht; have := own_ge hown _ e; have := h.2.2.1; omega), h.2.2.1, Nat.le_trans h.2.2.2 (Nat.le_trans hsz hks.size)⟩, ?_, by rw [cell_of_row w4 S 0 _ _ _ h4]; rfl, frozen_of_row w4 S 0 _ _ h4⟩
  exact (h3.more (fun s hs => .inl (List.mem_cons_of_mem _ hs))).setCell (.inl (by simp)) _
theorem byte_wrap (d : Int) : IntKind.u8.wrap d = d % 256 := by simp [IntKind.wrap, IntKind.signed, IntKind.bits]
set_option maxRecDepth 100000 in
set_option maxHeartbeats 2000000 in
theorem put_zero {w : World} {S B : Nat} {v : Value} {acc : List Int} {last sh sa : Int} (h : StrAt w S B v acc last sh sa) (x : Int) (hd : x = last) : Calls Try.prog 144 #[.pointer (some ⟨S, 0, none⟩), .int .i64 x] w (PuP w S B v acc x sh sa (x - last)) := by
  subst hd
  obtain ⟨c0, c1, c2, c3, f0, f1⟩ := h.facts
  have HL := Lib.hid (h.last x)
  clear h
  have hz : x - x = 0 := by omega
  have e1 : putF sh sa (x - x) = sa := by rw [hz]; rfl
  have e2 : putK (x - x) = true := by rw [hz]; rfl
  have e3 : putB (x - x) = [] := by rw [hz]; rfl
  have HE : Hid (putF sh sa (x - x) = sa ∧ putK (x - x) = true ∧ putB (x - x) = []) := ⟨e1, e2, e3⟩
  clear e1 e2 e3 hz
  go_enter Try.func144, Try.ntmps144
  go_wp2_with fail
  go_ret2
  obtain ⟨e1, e2, e3⟩ := HE.out
  refine ⟨v, by rw [e1, e2]; rfl, by rw [e3, List.append_nil]; exact HL.out, (Kp.refl _ _).setCell (.inl (by simp)) _, fun k hk => .inl hk⟩
set_option maxRecDepth 100000 in
set_option maxHeartbeats 2000000 in
theorem put_one {w : World} {S B : Nat} {v : Value} {acc : List Int} {last sh sa : Int} (h : StrAt w S B v acc last sh sa) (x : Int) (hl0 : -281474976710656 ≤ last ∧ last ≤ 281474976710656) (hx0 : -281474976710656 ≤ x ∧ x ≤ 281474976710656) (hlen : acc.length ≤ 1048576) (h1 : 0 < x - last) (h2 : x - last ≤ 255) :
    Calls Try.prog 144 #[.pointer (some ⟨S, 0, none⟩), .int .i64 (x)] w (PuP w S B v acc x sh sa (x - last)) := by
  obtain ⟨c0, c1, c2, c3, f0, f1⟩ := h.facts
  have HE : Hid (putF sh sa (x - last) = bits .or .i64 sh sa ∧ putK (x - last) = true ∧ putB (x - last) = [x - last]) := by
    show _ ∧ _ ∧ _
    unfold putF putK putB
    have a1 : ¬ x - last = 0 := by omega
    have a2 : 0 < x - last ∧ x - last ≤ 255 := ⟨h1, h2⟩
    rw [if_neg a1, if_neg a1, if_neg a1, if_pos a2, if_pos a2, if_pos a2]; exact ⟨rfl, rfl, rfl⟩
  have HL := Lib.hid (h.last (x))
  have HKS : Hid (Kp [S] w (w.setCell ⟨S, 1, none⟩ (.int .i64 (x)))) := (Kp.refl _ _).setCell (.inl (by simp)) _
  have HSB : Hid (S < B ∧ B ≤ w.heap.size) := ⟨h.2.2.1, h.2.2.2⟩
  obtain ⟨pv, cv, hv⟩ := slice_own h.2.1
  subst hv
  obtain ⟨n, hn⟩ : ∃ n, acc.length = n := ⟨_, rfl⟩
  have HN := Lib.hid hn
  rw [hn] at hlen c0 HL ⊢
  obtain ⟨l0, l1⟩ := hl0
  obtain ⟨x0, x1⟩ := hx0
  have hz : (x - last == 0) = false := by simp; omega
  have hd1 : decide (0 < x - last) = true := decide_eq_true h1
  have hd2 : decide (x - last ≤ 255) = true := decide_eq_true h2
  have hw : IntKind.u8.wrap (x - last) = x - last := by rw [byte_wrap]; omega
  have HROW := Lib.hid HL.out.2.1
  rw [hn] at HROW
  have hbs : B ≤ (w.setCell ⟨S, 1, none⟩ (.int .i64 (x))).heap.size := Nat.le_trans h.2.2.2 HKS.out.size
  clear h hn
  go_enter Try.func144, Try.ntmps144
  go_wp2_with (at_builtin; go_loud (refine wpList_pushM rfl _ _ 22 5 .u8 1 Try.underlying22 infoByte (by decide) rfl B (.slice pv n cv) acc n HN.out rfl ?hown w.heap.size [x - last] 1 rfl (by decide) rfl ?hc ?hl ?hbase ?hk))
  case hown => exact Kp.row (S := []) ((Kp.refl _ _).alloc _) HROW.out (by simp)
  try case hc =>
    have := litI (k := .u8) (zs := [x - last]) (E := 5) (w := w.setCell ⟨S, 1, none⟩ (.int .i64 (x))) (Kp.refl _ _)
    simpa [World.setCell] using this
  case hl => omega
  case hbase => first | exact Nat.le_trans hbs ((Kp.refl [] _).alloc _).size | (have := HSB.out.2; omega)
  case hk =>
  intro v5 w5 hown5 hk6 hvb
  have hvb2 : ∀ k, v5.ownBlock = some k → (Value.slice pv n cv).ownBlock = some k ∨ (w.setCell ⟨S, 1, none⟩ (.int .i64 x)).heap.size ≤ k := fun k hk => (hvb k hk).imp_right (fun h => by simp [World.setCell] at h ⊢; omega)
  obtain ⟨r1, r2, r3, r4⟩ := HL.out.wrote (news := [x - last]) (m := 1) HN.out rfl hown5 hk6 hvb2
  have HR : Hid (StrAt (w5.setCell ⟨S, 0, none⟩ v5) S B v5 (acc ++ [x - last]) x sh sa ∧ Kp (S :: (Value.slice pv n cv).ownBlock.toList) w (w5.setCell ⟨S, 0, none⟩ v5) ∧ ∀ k, v5.ownBlock = some k → (Value.slice pv n cv).ownBlock = some k ∨ w.heap.size ≤ k) :=
    ⟨r1, (HKS.out.more (fun s hs => .inl (by simp at hs; subst hs; simp))).trans r2, fun k hk => (hvb2 k hk).imp_right (fun h => Nat.le_trans HKS.out.size h)⟩
  obtain ⟨_, c1', c2', c3', _, _⟩ := r1.facts
  obtain ⟨pv5, cv5, hv5⟩ := slice_own hown5
  subst hv5
  clear r1 r2 hown5 hk6 hvb hvb2 c0 c1 c2 c3
  go_wp2_with fail
  go_quiet (fail)
  go_wp2_with fail
  go_ret2
  obtain ⟨e1, e2, e3⟩ := HE.out
  first
  | exact ⟨_, by rw [e1, e2]; rfl, by rw [e3]; exact HR.out.1, HR.out.2.1, HR.out.2.2⟩
  | exact ⟨_, by rw [e1, e2]; rfl, by rw [e3]; exact HR.out.1.kp0 ((Kp.refl _ _).drewN _), HR.out.2.1.drewN _, HR.out.2.2⟩
set_option maxRecDepth 100000 in
set_option maxHeartbeats 2000000 in
theorem put_neg {w : World} {S B : Nat} {v : Value} {acc : List Int} {last sh sa : Int} (h : StrAt w S B v acc last sh sa) (x : Int) (hl0 : -281474976710656 ≤ last ∧ last ≤ 281474976710656) (hx0 : -281474976710656 ≤ x ∧ x ≤ 281474976710656) (hlen : acc.length ≤ 1048576) (h1 : x - last < 0) (h2 : -255 ≤ x - last) :
    Calls Try.prog 144 #[.pointer (some ⟨S, 0, none⟩), .int .i64 (x)] w (PuP w S B v acc x sh sa (x - last)) := by
  obtain ⟨c0, c1, c2, c3, f0, f1⟩ := h.facts
  have HE : Hid (putF sh sa (x - last) = sh ∧ putK (x - last) = true ∧ putB (x - last) = [-(x - last)]) := by
    show _ ∧ _ ∧ _
    unfold putF putK putB
    have a1 : ¬ x - last = 0 := by omega
    have a2 : ¬ (0 < x - last ∧ x - last ≤ 255) := by omega
    have a3 : x - last < 0 ∧ -255 ≤ x - last := ⟨h1, h2⟩
    rw [if_neg a1, if_neg a1, if_neg a1, if_neg a2, if_neg a2, if_neg a2, if_pos a3, if_pos a3, if_pos a3]; exact ⟨rfl, rfl, rfl⟩
  have HL := Lib.hid (h.last (x))
  have HKS : Hid (Kp [S] w (w.setCell ⟨S, 1, none⟩ (.int .i64 (x)))) := (Kp.refl _ _).setCell (.inl (by simp)) _
  have HSB : Hid (S < B ∧ B ≤ w.heap.size) := ⟨h.2.2.1, h.2.2.2⟩
  obtain ⟨pv, cv, hv⟩ := slice_own h.2.1
  subst hv
  obtain ⟨n, hn⟩ : ∃ n, acc.length = n := ⟨_, rfl⟩
  have HN := Lib.hid hn
  rw [hn] at hlen c0 HL ⊢
  obtain ⟨l0, l1⟩ := hl0
  obtain ⟨x0, x1⟩ := hx0
  have hz : (x - last == 0) = false := by simp; omega
  have hd1 : decide (0 < x - last) = false := decide_eq_false (by omega)
  have hd3 : decide (x - last < 0) = true := decide_eq_true h1
  have hd2 : decide (-255 ≤ x - last) = true := decide_eq_true h2
  have hw : IntKind.u8.wrap (-(x - last)) = -(x - last) := by rw [byte_wrap]; omega
  have HROW := Lib.hid HL.out.2.1
  rw [hn] at HROW
  have hbs : B ≤ (w.setCell ⟨S, 1, none⟩ (.int .i64 (x))).heap.size := Nat.le_trans h.2.2.2 HKS.out.size
  clear h hn
  go_enter Try.func144, Try.ntmps144
  go_wp2_with (at_builtin; go_loud (refine wpList_pushM rfl _ _ 22 5 .u8 1 Try.underlying22 infoByte (by decide) rfl B (.slice pv n cv) acc n HN.out rfl ?hown w.heap.size [-(x - last)] 1 rfl (by decide) rfl ?hc ?hl ?hbase ?hk))
  case hown => exact Kp.row (S := []) ((Kp.refl _ _).alloc _) HROW.out (by simp)
  try case hc =>
    have := litI (k := .u8) (zs := [-(x - last)]) (E := 5) (w := w.setCell ⟨S, 1, none⟩ (.int .i64 (x))) (Kp.refl _ _)
    simpa [World.setCell] using this
  case hl => omega
  case hbase => first | exact Nat.le_trans hbs ((Kp.refl [] _).alloc _).size | (have := HSB.out.2; omega)
  case hk =>
  intro v5 w5 hown5 hk6 hvb
  have hvb2 : ∀ k, v5.ownBlock = some k → (Value.slice pv n cv).ownBlock = some k ∨ (w.setCell ⟨S, 1, none⟩ (.int .i64 x)).heap.size ≤ k := fun k hk => (hvb k hk).imp_right (fun h => by simp [World.setCell] at h ⊢; omega)
  obtain ⟨r1, r2, r3, r4⟩ := HL.out.wrote (news := [-(x - last)]) (m := 1) HN.out rfl hown5 hk6 hvb2
  have HR : Hid (StrAt (w5.setCell ⟨S, 0, none⟩ v5) S B v5 (acc ++ [-(x - last)]) x sh sa ∧ Kp (S :: (Value.slice pv n cv).ownBlock.toList) w (w5.setCell ⟨S, 0, none⟩ v5) ∧ ∀ k, v5.ownBlock = some k → (Value.slice pv n cv).ownBlock = some k ∨ w.heap.size ≤ k) :=
    ⟨r1, (HKS.out.more (fun s hs => .inl (by simp at hs; subst hs; simp))).trans r2, fun k hk => (hvb2 k hk).imp_right (fun h => Nat.le_trans HKS.out.size h)⟩
  obtain ⟨_, c1', c2', c3', _, _⟩ := r1.facts
  obtain ⟨pv5, cv5, hv5⟩ := slice_own hown5
  subst hv5
  clear r1 r2 hown5 hk6 hvb hvb2 c0 c1 c2 c3
  go_wp2_with fail
  skip
  go_ret2
  obtain ⟨e1, e2, e3⟩ := HE.out
  first
  | exact ⟨_, by rw [e1, e2]; rfl, by rw [e3]; exact HR.out.1, HR.out.2.1, HR.out.2.2⟩
  | exact ⟨_, by rw [e1, e2]; rfl, by rw [e3]; exact HR.out.1.kp0 ((Kp.refl _ _).drewN _), HR.out.2.1.drewN _, HR.out.2.2⟩
set_option maxRecDepth 100000 in
set_option maxHeartbeats 2000000 in
theorem put_twop {w : World} {S B : Nat} {v : Value} {acc : List Int} {last sh sa : Int} (h : StrAt w S B v acc last sh sa) (x : Int) (hl0 : -281474976710656 ≤ last ∧ last ≤ 281474976710656) (hx0 : -281474976710656 ≤ x ∧ x ≤ 281474976710656) (hlen : acc.length ≤ 1048576) (h1 : 255 < x - last) :
    Calls Try.prog 144 #[.pointer (some ⟨S, 0, none⟩), .int .i64 (x)] w (PuP w S B v acc x sh sa (x - last)) := by
  obtain ⟨c0, c1, c2, c3, f0, f1⟩ := h.facts
  have HE : Hid (putF sh sa (x - last) = 0 ∧ putK (x - last) = unitB (x - last) ∧ putB (x - last) = [(x - last) / 256 % 256, (x - last) % 256]) := by
    show _ ∧ _ ∧ _
    unfold putF putK putB
    have a1 : ¬ x - last = 0 := by omega
    have a2 : ¬ (0 < x - last ∧ x - last ≤ 255) := by omega
    have a3 : ¬ (x - last < 0 ∧ -255 ≤ x - last) := by omega
    rw [if_neg a1, if_neg a1, if_neg a1, if_neg a2, if_neg a2, if_neg a2, if_neg a3, if_neg a3, if_neg a3]; exact ⟨rfl, rfl, rfl⟩
  have HL := Lib.hid (h.last (x))
  have HKS : Hid (Kp [S] w (w.setCell ⟨S, 1, none⟩ (.int .i64 (x)))) := (Kp.refl _ _).setCell (.inl (by simp)) _
  have HSB : Hid (S < B ∧ B ≤ w.heap.size) := ⟨h.2.2.1, h.2.2.2⟩
  obtain ⟨pv, cv, hv⟩ := slice_own h.2.1
  subst hv
  obtain ⟨n, hn⟩ : ∃ n, acc.length = n := ⟨_, rfl⟩
  have HN := Lib.hid hn
  rw [hn] at hlen c0 HL ⊢
  obtain ⟨l0, l1⟩ := hl0
  obtain ⟨x0, x1⟩ := hx0
  have hz : (x - last == 0) = false := by simp; omega
  have hw1 : IntKind.u8.wrap ((x - last) / 256) = (x - last) / 256 % 256 := byte_wrap _
  have hw2 : IntKind.u8.wrap (x - last) = (x - last) % 256 := byte_wrap _
  have hd1 : decide (0 < x - last) = true := decide_eq_true (by omega)
  have hd2 : decide (x - last ≤ 255) = false := decide_eq_false (by omega)
  have hd3 : decide (x - last < 0) = false := decide_eq_false (by omega)
  have HROW := Lib.hid HL.out.2.1
  rw [hn] at HROW
  have hbs : B ≤ (w.setCell ⟨S, 1, none⟩ (.int .i64 (x))).heap.size := Nat.le_trans h.2.2.2 HKS.out.size
  clear h hn
  go_enter Try.func144, Try.ntmps144
  go_wp2_with (at_builtin; go_loud (refine wpList_pushM rfl _ _ 22 5 .u8 1 Try.underlying22 infoByte (by decide) rfl B (.slice pv n cv) acc n HN.out rfl ?hown w.heap.size [(x - last) / 256 % 256, (x - last) % 256] 2 rfl (by decide) rfl ?hc ?hl ?hbase ?hk))
  case hown => exact Kp.row (S := []) ((Kp.refl _ _).alloc _) HROW.out (by simp)
  try case hc =>
    have := litI (k := .u8) (zs := [(x - last) / 256 % 256, (x - last) % 256]) (E := 5) (w := w.setCell ⟨S, 1, none⟩ (.int .i64 (x))) (Kp.refl _ _)
    simpa [World.setCell] using this
  case hl => omega
  case hbase => first | exact Nat.le_trans hbs ((Kp.refl [] _).alloc _).size | (have := HSB.out.2; omega)
  case hk =>
  intro v5 w5 hown5 hk6 hvb
  have hvb2 : ∀ k, v5.ownBlock = some k → (Value.slice pv n cv).ownBlock = some k ∨ (w.setCell ⟨S, 1, none⟩ (.int .i64 x)).heap.size ≤ k := fun k hk => (hvb k hk).imp_right (fun h => by simp [World.setCell] at h ⊢; omega)
  obtain ⟨r1, r2, r3, r4⟩ := HL.out.wrote (news := [(x - last) / 256 % 256, (x - last) % 256]) (m := 2) HN.out rfl hown5 hk6 hvb2
  have HR : Hid (StrAt (w5.setCell ⟨S, 0, none⟩ v5) S B v5 (acc ++ [(x - last) / 256 % 256, (x - last) % 256]) x sh sa ∧ Kp (S :: (Value.slice pv n cv).ownBlock.toList) w (w5.setCell ⟨S, 0, none⟩ v5) ∧ ∀ k, v5.ownBlock = some k → (Value.slice pv n cv).ownBlock = some k ∨ w.heap.size ≤ k) :=
    ⟨r1, (HKS.out.more (fun s hs => .inl (by simp at hs; subst hs; simp))).trans r2, fun k hk => (hvb2 k hk).imp_right (fun h => Nat.le_trans HKS.out.size h)⟩
  obtain ⟨_, c1', c2', c3', _, _⟩ := r1.facts
  obtain ⟨pv5, cv5, hv5⟩ := slice_own hown5
  subst hv5
  clear r1 r2 hown5 hk6 hvb hvb2 c0 c1 c2 c3
  go_wp2_with fail
  refine (isunit_calls _ _).mono ?_; rintro e w9 ⟨rfl, rfl⟩
  go_wp2_with fail
  go_ret2
  obtain ⟨e1, e2, e3⟩ := HE.out
  first
  | exact ⟨_, by rw [e1, e2]; rfl, by rw [e3]; exact HR.out.1, HR.out.2.1, HR.out.2.2⟩
  | exact ⟨_, by rw [e1, e2]; rfl, by rw [e3]; exact HR.out.1.kp0 ((Kp.refl _ _).drewN _), HR.out.2.1.drewN _, HR.out.2.2⟩
set_option maxRecDepth 100000 in
set_option maxHeartbeats 2000000 in
theorem put_twon {w : World} {S B : Nat} {v : Value} {acc : List Int} {last sh sa : Int} (h : StrAt w S B v acc last sh sa) (x : Int) (hl0 : -281474976710656 ≤ last ∧ last ≤ 281474976710656) (hx0 : -281474976710656 ≤ x ∧ x ≤ 281474976710656) (hlen : acc.length ≤ 1048576) (h1 : x - last < -255) :
    Calls Try.prog 144 #[.pointer (some ⟨S, 0, none⟩), .int .i64 (x)] w (PuP w S B v acc x sh sa (x - last)) := by
  obtain ⟨c0, c1, c2, c3, f0, f1⟩ := h.facts
  have HE : Hid (putF sh sa (x - last) = 0 ∧ putK (x - last) = unitB (x - last) ∧ putB (x - last) = [(x - last) / 256 % 256, (x - last) % 256]) := by
    show _ ∧ _ ∧ _
    unfold putF putK putB
    have a1 : ¬ x - last = 0 := by omega
    have a2 : ¬ (0 < x - last ∧ x - last ≤ 255) := by omega
    have a3 : ¬ (x - last < 0 ∧ -255 ≤ x - last) := by omega
    rw [if_neg a1, if_neg a1, if_neg a1, if_neg a2, if_neg a2, if_neg a2, if_neg a3, if_neg a3, if_neg a3]; exact ⟨rfl, rfl, rfl⟩
  have HL := Lib.hid (h.last (x))
  have HKS : Hid (Kp [S] w (w.setCell ⟨S, 1, none⟩ (.int .i64 (x)))) := (Kp.refl _ _).setCell (.inl (by simp)) _
  have HSB : Hid (S < B ∧ B ≤ w.heap.size) := ⟨h.2.2.1, h.2.2.2⟩
  obtain ⟨pv, cv, hv⟩ := slice_own h.2.1
  subst hv
  obtain ⟨n, hn⟩ : ∃ n, acc.length = n := ⟨_, rfl⟩
  have HN := Lib.hid hn
  rw [hn] at hlen c0 HL ⊢
  obtain ⟨l0, l1⟩ := hl0
  obtain ⟨x0, x1⟩ := hx0
  have hz : (x - last == 0) = false := by simp; omega
  have hw1 : IntKind.u8.wrap ((x - last) / 256) = (x - last) / 256 % 256 := byte_wrap _
  have hw2 : IntKind.u8.wrap (x - last) = (x - last) % 256 := byte_wrap _
  have hd1 : decide (0 < x - last) = false := decide_eq_false (by omega)
  have hd2 : decide (-255 ≤ x - last) = false := decide_eq_false (by omega)
  have hd3 : decide (x - last < 0) = true := decide_eq_true (by omega)
  have HROW := Lib.hid HL.out.2.1
  rw [hn] at HROW
  have hbs : B ≤ (w.setCell ⟨S, 1, none⟩ (.int .i64 (x))).heap.size := Nat.le_trans h.2.2.2 HKS.out.size
  clear h hn
  go_enter Try.func144, Try.ntmps144
  go_wp2_with (at_builtin; go_loud (refine wpList_pushM rfl _ _ 22 5 .u8 1 Try.underlying22 infoByte (by decide) rfl B (.slice pv n cv) acc n HN.out rfl ?hown w.heap.size [(x - last) / 256 % 256, (x - last) % 256] 2 rfl (by decide) rfl ?hc ?hl ?hbase ?hk))
  case hown => exact Kp.row (S := []) ((Kp.refl _ _).alloc _) HROW.out (by simp)
  try case hc =>
    have := litI (k := .u8) (zs := [(x - last) / 256 % 256, (x - last) % 256]) (E := 5) (w := w.setCell ⟨S, 1, none⟩ (.int .i64 (x))) (Kp.refl _ _)
    simpa [World.setCell] using this
  case hl => omega
  case hbase => first | exact Nat.le_trans hbs ((Kp.refl [] _).alloc _).size | (have := HSB.out.2; omega)
  case hk =>
  intro v5 w5 hown5 hk6 hvb
  have hvb2 : ∀ k, v5.ownBlock = some k → (Value.slice pv n cv).ownBlock = some k ∨ (w.setCell ⟨S, 1, none⟩ (.int .i64 x)).heap.size ≤ k := fun k hk => (hvb k hk).imp_right (fun h => by simp [World.setCell] at h ⊢; omega)
  obtain ⟨r1, r2, r3, r4⟩ := HL.out.wrote (news := [(x - last) / 256 % 256, (x - last) % 256]) (m := 2) HN.out rfl hown5 hk6 hvb2
  have HR : Hid (StrAt (w5.setCell ⟨S, 0, none⟩ v5) S B v5 (acc ++ [(x - last) / 256 % 256, (x - last) % 256]) x sh sa ∧ Kp (S :: (Value.slice pv n cv).ownBlock.toList) w (w5.setCell ⟨S, 0, none⟩ v5) ∧ ∀ k, v5.ownBlock = some k → (Value.slice pv n cv).ownBlock = some k ∨ w.heap.size ≤ k) :=
    ⟨r1, (HKS.out.more (fun s hs => .inl (by simp at hs; subst hs; simp))).trans r2, fun k hk => (hvb2 k hk).imp_right (fun h => Nat.le_trans HKS.out.size h)⟩
  obtain ⟨_, c1', c2', c3', _, _⟩ := r1.facts
  obtain ⟨pv5, cv5, hv5⟩ := slice_own hown5
  subst hv5
  clear r1 r2 hown5 hk6 hvb hvb2 c0 c1 c2 c3
  go_wp2_with fail
  refine (isunit_calls _ _).mono ?_; rintro e w9 ⟨rfl, rfl⟩
  go_wp2_with fail
  go_ret2
  obtain ⟨e1, e2, e3⟩ := HE.out
  first
  | exact ⟨_, by rw [e1, e2]; rfl, by rw [e3]; exact HR.out.1, HR.out.2.1, HR.out.2.2⟩
  | exact ⟨_, by rw [e1, e2]; rfl, by rw [e3]; exact HR.out.1.kp0 ((Kp.refl _ _).drewN _), HR.out.2.1.drewN _, HR.out.2.2⟩
theorem put_calls {w : World} {S B : Nat} {v : Value} {acc : List Int} {last sh sa : Int} (h : StrAt w S B v acc last sh sa) (x : Int) (hl0 : -281474976710656 ≤ last ∧ last ≤ 281474976710656) (hx0 : -281474976710656 ≤ x ∧ x ≤ 281474976710656) (hlen : acc.length ≤ 1048576) :
    Calls Try.prog 144 #[.pointer (some ⟨S, 0, none⟩), .int .i64 x] w (PuP w S B v acc x sh sa (x - last)) := by
  by_cases h0 : x = last
  · exact put_zero h x h0
  by_cases h1 : 255 < x - last
  · exact put_twop h x hl0 hx0 hlen h1
  by_cases h2 : x - last < -255
  · exact put_twon h x hl0 hx0 hlen h2
  by_cases h3 : 0 < x - last
  · exact put_one h x hl0 hx0 hlen h3 (by omega)
  · exact put_neg h x hl0 hx0 hlen (by omega) (by omega)
/-- A point's flag. -/
def flagP (k dx dy : Int) : Int := IntKind.u8.wrap (bits .or .i64 (if k = 1 then bits .or .i64 (putF 2 16 dx) 1 else putF 2 16 dx) (putF 4 32 dy))
/-- May a point be put? -/
def ptOk (p : Pn) : Bool := unitsB p.x && (unitsB p.y && !decide (p.k = 3))
/-- What point leaves. -/
def PtP (w : World) (SX SY B : Nat) (vx vy : Value) (ax ay : List Int) (lx ly : Int) (p : Pn) (e : Ending) (w' : World) : Prop :=
  ∃ vx' vy', e = .returned (.tuple #[.int .u8 (flagP p.k (p.x.tdiv 65536 - lx) (p.y.tdiv 65536 - ly)), .bool (putK (p.x.tdiv 65536 - lx) && putK (p.y.tdiv 65536 - ly))]) ∧
    StrAt w' SX B vx' (ax ++ putB (p.x.tdiv 65536 - lx)) (p.x.tdiv 65536) 2 16 ∧ StrAt w' SY B vy' (ay ++ putB (p.y.tdiv 65536 - ly)) (p.y.tdiv 65536) 4 32 ∧ (∀ k, vx'.ownBlock = some k → vy'.ownBlock ≠ some k) ∧
    Kp (SX :: SY :: (vx.ownBlock.toList ++ vy.ownBlock.toList)) w w' ∧ (∀ k, vx'.ownBlock = some k → vx.ownBlock = some k ∨ w.heap.size ≤ k) ∧ ∀ k, vy'.ownBlock = some k → vy.ownBlock = some k ∨ w.heap.size ≤ k
theorem putF_cases (sh sa d : Int) : putF sh sa d = sa ∨ putF sh sa d = bits .or .i64 sh sa ∨ putF sh sa d = sh ∨ putF sh sa d = 0 := by
  unfold putF
  split
  · exact .inl rfl
  · split
    · exact .inr (.inl rfl)
    · split
      · exact .inr (.inr (.inl rfl))
      · exact .inr (.inr (.inr rfl))
set_option maxRecDepth 100000 in
set_option maxHeartbeats 2000000 in
theorem point_no {w : World} (SX SY : Nat) (p : Pn) (hp : ptOk p = false) (hx : -9223372036854775808 ≤ p.x ∧ p.x ≤ 9223372036854775807) (hy : -9223372036854775808 ≤ p.y ∧ p.y ≤ 9223372036854775807) :
    Calls Try.prog 103 #[pnV p, .pointer (some ⟨SX, 0, none⟩), .pointer (some ⟨SY, 0, none⟩)] w fun e w' => e = .returned (.tuple #[.int .u8 0, .bool false]) ∧ Kp [] w w' := by
  obtain ⟨px, py, pk⟩ := p
  unfold ptOk at hp
  dsimp only at hp hx hy
  have HUX := Lib.hid (fun W => units_calls px hx.1 hx.2 W)
  have HUY := Lib.hid (fun W => units_calls py hy.1 hy.2 W)
  rw [show pnV ⟨px, py, pk⟩ = .agg #[.int .i64 px, .int .i64 py, .int .i64 pk] from rfl]
  generalize unitsB px = ux at *
  generalize unitsB py = uy at *
  clear hx hy
  cases ux
  · clear hp
    go_enter Try.func103, Try.ntmps103
    go_wp2_with fail
    refine (HUX.out _).mono ?_; rintro e w1 ⟨rfl, rfl⟩
    go_wp2_with fail
    refine (HUY.out _).mono ?_; rintro e w1 ⟨rfl, rfl⟩
    go_wp2_with fail
    go_ret2
    exact ⟨rfl, by (repeat (first | exact Kp.refl _ _ | assumption | refine Kp.drew ?_ | refine Kp.drewN ?_ _ | refine Kp.alloc ?_ _ | (refine Kp.setCell ?_ (by first | (left; simp; done) | (right; simp; try omega)) _) | (refine Kp.trans' ?_ (by assumption) (by simp; try omega))))⟩
  · cases uy
    · clear hp
      go_enter Try.func103, Try.ntmps103
      go_wp2_with fail
      refine (HUX.out _).mono ?_; rintro e w1 ⟨rfl, rfl⟩
      go_wp2_with fail
      refine (HUY.out _).mono ?_; rintro e w1 ⟨rfl, rfl⟩
      go_wp2_with fail
      go_ret2
      exact ⟨rfl, by (repeat (first | exact Kp.refl _ _ | assumption | refine Kp.drew ?_ | refine Kp.drewN ?_ _ | refine Kp.alloc ?_ _ | (refine Kp.setCell ?_ (by first | (left; simp; done) | (right; simp; try omega)) _) | (refine Kp.trans' ?_ (by assumption) (by simp; try omega))))⟩
    · have hk : pk = 3 := by simpa using hp
      subst hk
      clear hp
      go_enter Try.func103, Try.ntmps103
      go_wp2_with fail
      refine (HUX.out _).mono ?_; rintro e w1 ⟨rfl, rfl⟩
      go_wp2_with fail
      refine (HUY.out _).mono ?_; rintro e w1 ⟨rfl, rfl⟩
      go_wp2_with fail
      go_ret2
      exact ⟨rfl, by (repeat (first | exact Kp.refl _ _ | assumption | refine Kp.drew ?_ | refine Kp.drewN ?_ _ | refine Kp.alloc ?_ _ | (refine Kp.setCell ?_ (by first | (left; simp; done) | (right; simp; try omega)) _) | (refine Kp.trans' ?_ (by assumption) (by simp; try omega))))⟩
set_option maxRecDepth 100000 in
set_option maxHeartbeats 4000000 in
theorem point_ok {w : World} {SX SY B : Nat} {vx vy : Value} {ax ay : List Int} {lx ly : Int} (p : Pn) (hp : ptOk p = true) (hx : -9223372036854775808 ≤ p.x ∧ p.x ≤ 9223372036854775807) (hy : -9223372036854775808 ≤ p.y ∧ p.y ≤ 9223372036854775807)
    (h1 : StrAt w SX B vx ax lx 2 16) (h2 : StrAt w SY B vy ay ly 4 32) (hne : SX ≠ SY) (hdj : ∀ k, vx.ownBlock = some k → vy.ownBlock ≠ some k) (hlx : -281474976710656 ≤ lx ∧ lx ≤ 281474976710656) (hly : -281474976710656 ≤ ly ∧ ly ≤ 281474976710656) (hax : ax.length ≤ 1048576) (hay : ay.length ≤ 1048576) :
    Calls Try.prog 103 #[pnV p, .pointer (some ⟨SX, 0, none⟩), .pointer (some ⟨SY, 0, none⟩)] w (PtP w SX SY B vx vy ax ay lx ly p) := by
  have HB1 := tdiv_small p.x hx.1 hx.2
  have HB2 := tdiv_small p.y hy.1 hy.2
  have HUX := Lib.hid (fun W => units_calls p.x hx.1 hx.2 W)
  have HUY := Lib.hid (fun W => units_calls p.y hy.1 hy.2 W)
  have HFP : Hid (∀ e w', PtP w SX SY B vx vy ax ay lx ly p e w' ↔ PtP w SX SY B vx vy ax ay lx ly p e w') := fun _ _ => Iff.rfl
  have HQ : Hid (PtP w SX SY B vx vy ax ay lx ly p = PtP w SX SY B vx vy ax ay lx ly p) := rfl
  have HP1 := Lib.hid (fun W (h : StrAt W SX B vx ax lx 2 16) => put_calls h (p.x.tdiv 65536) hlx (by omega) hax)
  have HP2 := Lib.hid (fun W (h : StrAt W SY B vy ay ly 4 32) => put_calls h (p.y.tdiv 65536) hly (by omega) hay)
  have HS1 := Lib.hid h1
  have HS2 := Lib.hid h2
  have HDJ := Lib.hid hdj
  unfold ptOk at hp
  simp only [Bool.and_eq_true, Bool.not_eq_true', decide_eq_false_iff_not] at hp
  obtain ⟨hp1, hp2, hp3⟩ := hp
  obtain ⟨px, py, pk⟩ := p
  dsimp only at *
  rw [show pnV ⟨px, py, pk⟩ = .agg #[.int .i64 px, .int .i64 py, .int .i64 pk] from rfl]
  have hk3 : (pk == 3) = false := by simp [hp3]
  rw [hp1] at HUX
  rw [hp2] at HUY
  obtain ⟨f, hf⟩ : ∃ f, putF 2 16 (px.tdiv 65536 - lx) = f := ⟨_, rfl⟩
  obtain ⟨g, hg⟩ : ∃ g, putF 4 32 (py.tdiv 65536 - ly) = g := ⟨_, rfl⟩
  have HFF := Lib.hid hf
  have HGG := Lib.hid hg
  generalize hX : px.tdiv 65536 = X at *
  generalize hY : py.tdiv 65536 = Y at *
  clear hx hy h1 h2 hdj hlx hly hax hay hp1 hp2 hp3 HB1 HB2 hf hg HFP HQ
  go_enter Try.func103, Try.ntmps103
  go_wp2_with fail
  refine (HUX.out _).mono ?_; rintro e w1 ⟨rfl, rfl⟩
  go_wp2_with fail
  refine (HUY.out _).mono ?_; rintro e w1 ⟨rfl, rfl⟩
  have HKA : Hid (Kp [] w (w.alloc (.cells #[.int .i64 px, .int .i64 py, .int .i64 pk] 61))) := (Kp.refl _ _).alloc _
  have HBX : Hid ((w.alloc (.cells #[.int .i64 px, .int .i64 py, .int .i64 pk] 61)).heap[w.heap.size]? = some (.cells #[.int .i64 px, .int .i64 py, .int .i64 pk] 61)) := heap_alloc_new w _
  generalize w.alloc (.cells #[.int .i64 px, .int .i64 py, .int .i64 pk] 61) = w1 at *
  have hck1 : w1.cell? ⟨w.heap.size, 2, none⟩ = some (.int .i64 pk) := by rw [cell_of_row w1 w.heap.size 2 _ _ (0, 0) HBX.out]; rfl
  clear HUX HUY
  go_wp2_with fail
  refine (HP1.out w1 (HS1.out.kp0 HKA.out)).mono ?_; rintro e w2 ⟨vx2, rfl, hsx, hkx, hbx⟩
  have HSX := Lib.hid hsx
  have HKX := Lib.hid hkx
  have HBX2 := Lib.hid hbx
  have hyS : SY ∉ SX :: vx.ownBlock.toList := by
    intro h
    rcases List.mem_cons.1 h with h | h
    · exact hne h.symm
    · have := own_ge HS1.out.2.1 SY (by simpa using h); have := HS2.out.2.2.1; omega
  have hyO : ∀ t ∈ SX :: vx.ownBlock.toList, vy.ownBlock ≠ some t := by
    intro t ht e
    rcases List.mem_cons.1 ht with h | h
    · subst h; have := own_ge HS2.out.2.1 _ e; have := HS1.out.2.2.1; omega
    · exact HDJ.out t (by simpa using h) e
  have HSY : Hid (StrAt w2 SY B vy ay ly 4 32) := (HS2.out.kp0 HKA.out).kp hkx hyS hyO
  clear hsx hkx hbx HP1
  rw [HFF.out]
  go_wp2_with fail
  refine (HP2.out w2 HSY.out).mono ?_; rintro e w3 ⟨vy2, rfl, hsy, hky, hby⟩
  rw [HGG.out]
  have hxS : SX ∉ SY :: vy.ownBlock.toList := by
    intro h
    rcases List.mem_cons.1 h with h | h
    · exact hne h
    · have := own_ge HS2.out.2.1 SX (by simpa using h); have := HS1.out.2.2.1; omega
  have hx2 : ∀ k, vx2.ownBlock = some k → vx.ownBlock = some k ∨ w.heap.size ≤ k := fun k hk => (HBX2.out k hk).imp_right (fun h => Nat.le_trans HKA.out.size h)
  have hvy : ∀ k, vy.ownBlock = some k → B ≤ k ∧ k < w.heap.size := fun k hk => HS2.out.2.1.lt k hk
  have hvx2 : ∀ k, vx2.ownBlock = some k → B ≤ k ∧ k < w2.heap.size := fun k hk => HSX.out.2.1.lt k hk
  have hxO : ∀ t ∈ SY :: vy.ownBlock.toList, vx2.ownBlock ≠ some t := by
    intro t ht e
    rcases List.mem_cons.1 ht with h | h
    · subst h; have := (hvx2 _ e).1; have := HS2.out.2.2.1; omega
    · have h3 : vy.ownBlock = some t := by simpa using h
      rcases hx2 t e with h4 | h4
      · exact HDJ.out t h4 h3
      · have := (hvy t h3).2; omega
  have hsz2 : w.heap.size ≤ w2.heap.size := Nat.le_trans HKA.out.size HKX.out.size
  have hy2 : ∀ k, vy2.ownBlock = some k → vy.ownBlock = some k ∨ w.heap.size ≤ k := fun k hk => (hby k hk).imp_right (fun h => Nat.le_trans hsz2 h)
  have hdj2 : ∀ k, vx2.ownBlock = some k → vy2.ownBlock ≠ some k := by
    intro k hk e
    rcases hby k e with h4 | h4
    · exact hxO k (List.mem_cons_of_mem _ (by rw [h4]; simp)) hk
    · have := (hvx2 k hk).2; omega
  have HSX3 : Hid (StrAt w3 SX B vx2 (ax ++ putB (X - lx)) X 2 16) := HSX.out.kp hky hxS hxO
  have HSY3 := Lib.hid hsy
  have HT3 : Hid (Kp (SX :: SY :: (vx.ownBlock.toList ++ vy.ownBlock.toList)) w w3) := by
    refine (HKA.out.more (fun t ht => nomatch ht)).trans ((HKX.out.more (fun t ht => ?_)).trans (hky.more (fun t ht => ?_)))
    · rcases List.mem_cons.1 ht with h | h
      · exact .inl (by rw [h]; simp)
      · exact .inl (by simp at h ⊢; exact .inr (.inr (.inl h)))
    · rcases List.mem_cons.1 ht with h | h
      · exact .inl (by rw [h]; simp)
      · exact .inl (by simp at h ⊢; exact .inr (.inr (.inr h)))
  have HREST : Hid ((∀ k, vx2.ownBlock = some k → vy2.ownBlock ≠ some k) ∧ (∀ k, vx2.ownBlock = some k → vx.ownBlock = some k ∨ w.heap.size ≤ k) ∧ ∀ k, vy2.ownBlock = some k → vy.ownBlock = some k ∨ w.heap.size ≤ k) := ⟨hdj2, hx2, hy2⟩
  have hbx3 : w3.heap[w.heap.size]? = some (.cells #[.int .i64 px, .int .i64 py, .int .i64 pk] 61) := by
    refine hky.heap (HKX.out.heap HBX.out ?_) ?_
    · intro h
      rcases List.mem_cons.1 h with h | h
      · have := HS1.out.2.2; omega
      · have := (HS1.out.2.1.lt w.heap.size (by simpa using h)).2; omega
    · intro h
      rcases List.mem_cons.1 h with h | h
      · have := HS2.out.2.2; omega
      · have := (hvy w.heap.size (by simpa using h)).2; omega
  have hck : w3.cell? ⟨w.heap.size, 2, none⟩ = some (.int .i64 pk) := by rw [cell_of_row w3 w.heap.size 2 _ _ (0, 0) hbx3]; rfl
  have HPOST : Hid (∀ (e : Ending) (u : Int), e = .returned (.tuple #[.int .u8 u, .bool (putK (X - lx) && putK (Y - ly))]) → u = IntKind.u8.wrap (bits .or .i64 (if pk = 1 then bits .or .i64 f 1 else f) g) → PtP w SX SY B vx vy ax ay lx ly ⟨px, py, pk⟩ e w3) := by
    intro e u he hu
    subst hu
    refine ⟨vx2, vy2, ?_, ?_, ?_, HREST.out.1, HT3.out, HREST.out.2⟩
    · rw [he]; unfold flagP; dsimp only; rw [hX, hY, HFF.out, HGG.out]
    · dsimp only; rw [hX]; exact HSX3.out
    · dsimp only; rw [hY]; exact HSY3.out
  clear hyS hyO hxS hx2 hvy hvx2 hxO hsz2 hy2 hdj2 hsy hky hby hbx3 HSX HSY HKX HBX2 HBX HKA HP2 HDJ HSX3 HSY3 HT3 HREST HS1 HS2 hX hY HFF HGG
  generalize putK (X - lx) = kx at *
  generalize putK (Y - ly) = ky at *
  by_cases hk1 : pk = 1
  · subst hk1
    cases kx
    all_goals
      go_wp2_with fail
      go_ret2
      exact HPOST.out _ _ (by rfl) (by simp [byte_wrap])
  · have hkb : (pk == 1) = false := by simp [hk1]
    cases kx
    all_goals
      go_wp2_with fail
      go_ret2
      exact HPOST.out _ _ (by rfl) (by simp [byte_wrap, hk1])
end Go.Proofs.Ytodjohoonbkklaa

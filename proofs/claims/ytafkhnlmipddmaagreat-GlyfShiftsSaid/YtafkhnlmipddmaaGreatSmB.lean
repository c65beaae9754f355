/- simple: units, put, point · simple: packed · simple: Encode; the points · simple: Encode walked as far as its points · simple: the writer's Data of no bytes; the writer in Encode · simple: Encode where all points may be put · simple: Encode of any outline · simple: the law's triangle; what Encode and Decode answer at it (plain) · simple: lives. (Merged by wip/tools/mergetpl.py out of SiJ, SiK, SiL, SiM, SiN, SiO, SiP, SiR, SiS.) -/
import Derived.Test.YtafkhnlmipddmaaGreatSmA
import Derived.Test.YtafkhnlmipddmaaGreatOmD
import Derived.Deep.AppendLies
import Derived.Deep.DeepCutAuto
import Derived.Test.YtafkhnlmipddmaaGreatOmE
import Derived.Test.YtafkhnlmipddmaaGreatWmA
import Derived.Laws.AppendOwnNone
import Derived.BigQuiet
import Derived.Deep.CutBlock
import Derived.Test.YtafkhnlmipddmaaGreatOmA
namespace Go.Proofs.YtafkhnlmipddmaaGreat
open Go.RowKit
set_option linter.unusedVariables false
set_option linter.unusedSimpArgs false
section
variable {P : Program} {w : World} {ops : Array Oper} {rest : List Oper} {o : Oper} {a : Act} {Q : Exit → Act → World → Prop}
/-- As 'wpList_pushL'; and where the new row lies. -/
theorem wpList_pushM (hgd : o.guard = none) (s x : Operand) (T E : TypeId) (k : IntKind) (bytes : Nat) (ht : P.underlying T = some (.slice E)) (hinfo : (P.info? E).map (fun i => (i.zero, i.size, i.bytes)) = some (some (.int k 0), 1, bytes)) (hb1 : 1 ≤ bytes)
    (ho : o.op = .call { callee := .builtin .append, args := #[s, x], argTypes := #[T, T] }) (base : Nat) (v : Value) (l : List Int) (n : Nat) (hn : l.length = n) (hs : a.eval s = v) (hown : w.ownsRow base E 1 v n (l.map (Value.int k)))
    (G : Nat) (zs : List Int) (m : Nat) (hm : zs.length = m) (hm0 : 0 < m) (hx : a.eval x = .slice (some ⟨G, 0, none⟩) m m) (hc : ∀ j u, (zs.map (Value.int k))[j]? = some u → w.cell? ⟨G, 0 + j, none⟩ = some u) (hl : (n + m) * bytes ≤ 140737488355328) (hbase : base ≤ w.heap.size)
    (h : ∀ v' w', w'.ownsRow base E 1 v' (n + m) ((l ++ zs).map (Value.int k)) → Kp v.ownBlock.toList w w' → (∀ k, v'.ownBlock = some k → v.ownBlock = some k ∨ w.heap.size ≤ k) → wpList P ops Q rest (a.put o.dst v') w') : wpList P ops Q (o :: rest) a w := by
  obtain ⟨i, hi, hz, hsize, hby⟩ := info_parts hinfo
  subst hm
  have h63 : n + zs.length ≤ maxLen := by
    have := Nat.le_mul_of_pos_right (n + zs.length) hb1
    simp only [maxLen]; omega
  refine wpList_append_lies w hgd s x T ho base E i (.int k 0) 1 bytes ht hi hz hsize hby rfl (by decide) v n (l.map (Value.int k)) hs hown ⟨G, 0, none⟩ zs.length zs.length (zs.map (Value.int k)) hx (by simp) (fun j u hu => by rw [add_lit]; exact hc j u hu) (oneCell_ints _ _) hm0 h63 hl hbase w.heap.size rfl ?_
  intro g c w' r1 r2 r3 _
  refine h _ w' (by rw [List.map_append]; exact r1) (Kp.grown (Kp.refl _ _) r2 (fun k hk => .inl (by rw [hk]; simp))) (fun k hk => ?_)
  have : g = k := by simpa [Value.ownBlock] using hk
  subst this
  rcases r3 with r3 | r3
  · exact .inl r3
  · exact .inr (by rw [r3]; exact Nat.le_refl _)
end
/-- A number in units; is it whole, and does it fit? -/
def unitsB (x : Int) : Bool := decide (x.tmod 65536 = 0) && unitB (x.tdiv 65536)
theorem tdiv_small (x : Int) (h0 : -9223372036854775808 ≤ x) (h1 : x ≤ 9223372036854775807) : -140737488355328 ≤ x.tdiv 65536 ∧ x.tdiv 65536 ≤ 140737488355327 := by
  rcases Int.le_total 0 x with h | h
  · rw [Int.tdiv_eq_ediv_of_nonneg h]; omega
  · have e : x.tdiv 65536 = -((-x).tdiv 65536) := by rw [Int.neg_tdiv, Int.neg_neg]
    rw [e, Int.tdiv_eq_ediv_of_nonneg (by omega)]; omega
/-- The bytes of a step, its bits, does it fit? -/
def putB (d : Int) : List Int := if d = 0 then [] else if 0 < d ∧ d ≤ 255 then [d] else if d < 0 ∧ -255 ≤ d then [-d] else [d / 256 % 256, d % 256]
def putF (sh sa d : Int) : Int := if d = 0 then sa else if 0 < d ∧ d ≤ 255 then bits .or .i64 sh sa else if d < 0 ∧ -255 ≤ d then sh else 0
def putK (d : Int) : Bool := if d = 0 then true else if 0 < d ∧ d ≤ 255 then true else if d < 0 ∧ -255 ≤ d then true else unitB d
theorem byte_wrap (d : Int) : IntKind.u8.wrap d = d % 256 := by simp [IntKind.wrap, IntKind.signed, IntKind.bits]
/-- A point's flag. -/
def flagP (k dx dy : Int) : Int := IntKind.u8.wrap (bits .or .i64 (if k = 1 then bits .or .i64 (putF 2 16 dx) 1 else putF 2 16 dx) (putF 4 32 dy))
/-- May a point be put? -/
def ptOk (p : Pn) : Bool := unitsB p.x && (unitsB p.y && !decide (p.k = 3))
theorem putF_cases (sh sa d : Int) : putF sh sa d = sa ∨ putF sh sa d = bits .or .i64 sh sa ∨ putF sh sa d = sh ∨ putF sh sa d = 0 := by
  unfold putF
  split
  · exact .inl rfl
  · split
    · exact .inr (.inl rfl)
    · split
      · exact .inr (.inr (.inl rfl))
      · exact .inr (.inr (.inr rfl))
end Go.Proofs.YtafkhnlmipddmaaGreat
namespace Go.Proofs.YtafkhnlmipddmaaGreat
open Go.RowKit
set_option linter.unusedVariables false
set_option linter.unusedSimpArgs false
/-- How many bytes x a list begins with, at most k. -/
def cntEq (x : Int) : Nat → List Int → Nat
  | 0, _ => 0
  | _ + 1, [] => 0
  | k + 1, c :: cs => if c = x then cntEq x k cs + 1 else 0
theorem cntEq_le (x : Int) : ∀ (k : Nat) (l : List Int), cntEq x k l ≤ k ∧ cntEq x k l ≤ l.length := by
  intro k
  induction k with
  | zero => intro l; exact ⟨Nat.le_refl _, Nat.zero_le _⟩
  | succ k ih =>
    intro l
    cases l with
    | nil => exact ⟨Nat.zero_le _, Nat.le_refl _⟩
    | cons c cs =>
      unfold cntEq
      have := ih cs
      split
      · simp only [List.length_cons]; omega
      · exact ⟨Nat.zero_le _, Nat.zero_le _⟩
/-- How long the first run is. -/
def runLen : List Int → Nat
  | [] => 0
  | c :: cs => cntEq c 255 cs + 1
/-- Flags, with those that follow themselves counted. -/
def packM : Nat → List Int → List Int
  | 0, _ => []
  | _ + 1, [] => []
  | f + 1, c :: cs => (if 1 < runLen (c :: cs) then [bits .or .u8 c 8, ((runLen (c :: cs) : Nat) : Int) - 1] else [c]) ++ packM f ((c :: cs).drop (runLen (c :: cs)))
theorem runLen_le (l : List Int) : runLen l ≤ l.length ∧ runLen l ≤ 256 := by
  cases l with
  | nil => exact ⟨Nat.le_refl _, Nat.zero_le _⟩
  | cons c cs => have := cntEq_le c 255 cs; simp only [runLen, List.length_cons]; omega
theorem run_from (c : Int) (cs : List Int) (i : Nat) (h1 : 1 ≤ i) (hrun : i + cntEq c (256 - i) ((c :: cs).drop i) = runLen (c :: cs)) :
    (i < (c :: cs).length ∧ i ≤ 255 ∧ (c :: cs).getD i 0 = c → i + 1 + cntEq c (256 - (i + 1)) ((c :: cs).drop (i + 1)) = runLen (c :: cs)) ∧ (¬ (i < (c :: cs).length ∧ i ≤ 255 ∧ (c :: cs).getD i 0 = c) → i = runLen (c :: cs)) := by
  by_cases hl : i < (c :: cs).length
  · have hd : (c :: cs).drop i = (c :: cs).getD i 0 :: (c :: cs).drop (i + 1) := by
      rw [List.drop_eq_getElem_cons hl, List.getD_eq_getElem?_getD, List.getElem?_eq_getElem hl]; rfl
    rw [hd] at hrun
    by_cases h2 : i ≤ 255
    · obtain ⟨k, hk⟩ : ∃ k, 256 - i = k + 1 := ⟨255 - i, by omega⟩
      rw [hk, cntEq] at hrun
      have hk2 : 256 - (i + 1) = k := by omega
      rw [hk2]
      refine ⟨fun ⟨_, _, h3⟩ => ?_, fun hn => ?_⟩
      · rw [if_pos h3] at hrun; omega
      · have h3 : ¬ (c :: cs).getD i 0 = c := fun e => hn ⟨hl, h2, e⟩
        rw [if_neg h3] at hrun; exact hrun
    · rw [show 256 - i = 0 by omega, cntEq] at hrun
      exact ⟨fun h => absurd h.2.1 h2, fun _ => hrun⟩
  · rw [List.drop_eq_nil_of_le (by omega)] at hrun
    refine ⟨fun h => absurd h.1 hl, fun _ => ?_⟩
    have : cntEq c (256 - i) [] = 0 := by cases 256 - i <;> rfl
    rw [this] at hrun; exact hrun
theorem run_start (c : Int) (cs : List Int) : 1 + cntEq c (256 - 1) ((c :: cs).drop 1) = runLen (c :: cs) := by
  show 1 + cntEq c 255 cs = cntEq c 255 cs + 1
  omega
theorem IsInts.drop8 {w : World} {g off L c n : Nat} {ys : List Int} (h : IsInts .u8 w (.slice (some ⟨g, off, none⟩) L c) ys) (hn : n ≤ ys.length) (hnc : n < c) : IsInts .u8 w (.slice (some ⟨g, off + n, none⟩) (L - n) (c - n)) (ys.drop n) := by
  rcases h with ⟨⟨a, e⟩, rfl⟩ | ⟨g', off', c', e, h1, h2, h3⟩
  · cases e
    omega
  · cases e
    refine .inr ⟨g, off + n, c - n, by rw [List.length_drop], by rw [List.length_drop]; omega, by omega, fun i hi => ?_⟩
    rw [List.length_drop] at hi
    rw [Nat.add_assoc, h3 (n + i) (by omega), List.getD_eq_getElem?_getD, List.getD_eq_getElem?_getD (l := ys.drop n), List.getElem?_drop]
end Go.Proofs.YtafkhnlmipddmaaGreat
namespace Go.Proofs.YtafkhnlmipddmaaGreat
open Go.RowKit
set_option linter.unusedVariables false
set_option linter.unusedSimpArgs false
/-- What has been put: flags, steps of x and y, the last point. -/
structure EnS where
  fl : List Int
  ax : List Int
  ay : List Int
  lx : Int
  ly : Int
def encPt (s : EnS) (p : Pn) : EnS := ⟨s.fl ++ [flagP p.k (p.x.tdiv 65536 - s.lx) (p.y.tdiv 65536 - s.ly)], s.ax ++ putB (p.x.tdiv 65536 - s.lx), s.ay ++ putB (p.y.tdiv 65536 - s.ly), p.x.tdiv 65536, p.y.tdiv 65536⟩
def encOk (s : EnS) (p : Pn) : Bool := ptOk p && (putK (p.x.tdiv 65536 - s.lx) && putK (p.y.tdiv 65536 - s.ly))
def encS : List Pn → EnS → Option EnS
  | [], s => some s
  | p :: ps, s => if encOk s p then encS ps (encPt s p) else none
def en0 : EnS := ⟨[], [], [], 0, 0⟩
/-- The bounds of what has been put. -/
def EnB (s : EnS) (m : Nat) : Prop := s.fl.length = m ∧ s.ax.length ≤ 2 * m ∧ s.ay.length ≤ 2 * m ∧ (-281474976710656 ≤ s.lx ∧ s.lx ≤ 281474976710656) ∧ (-281474976710656 ≤ s.ly ∧ s.ly ≤ 281474976710656) ∧ ∀ c ∈ s.fl, 0 ≤ c ∧ c ≤ 255
theorem putB_len (d : Int) : (putB d).length ≤ 2 := by
  unfold putB
  by_cases h1 : d = 0
  · simp [h1]
  · by_cases h2 : 0 < d ∧ d ≤ 255
    · simp [h1, h2]
    · by_cases h3 : d < 0 ∧ -255 ≤ d
      · simp [h1, h2, h3]
      · simp [h1, h2, h3]
theorem EnB.next {s : EnS} {m : Nat} {p : Pn} (h : EnB s m) (hx : -9223372036854775808 ≤ p.x ∧ p.x ≤ 9223372036854775807) (hy : -9223372036854775808 ≤ p.y ∧ p.y ≤ 9223372036854775807) : EnB (encPt s p) (m + 1) := by
  obtain ⟨h1, h2, h3, h4, h5, h6⟩ := h
  have a1 := putB_len (p.x.tdiv 65536 - s.lx)
  have a2 := putB_len (p.y.tdiv 65536 - s.ly)
  have b1 := tdiv_small p.x hx.1 hx.2
  have b2 := tdiv_small p.y hy.1 hy.2
  refine ⟨by simp [encPt, h1], by simp only [encPt, List.length_append]; omega, by simp only [encPt, List.length_append]; omega, by simp only [encPt]; omega, by simp only [encPt]; omega, fun c hc => ?_⟩
  simp only [encPt, List.mem_append, List.mem_singleton] at hc
  rcases hc with hc | hc
  · exact h6 c hc
  · subst hc; simp only [flagP, byte_wrap]; omega
end Go.Proofs.YtafkhnlmipddmaaGreat
namespace Go.Proofs.YtafkhnlmipddmaaGreat
open Go.RowKit
set_option linter.unusedVariables false
set_option linter.unusedSimpArgs false
def restF (o : List (List Pn)) (j : Nat) : List Pn := (o.drop j).flatten
theorem restF_at (o : List (List Pn)) (j : Nat) (h : j < o.length) : restF o j = o.getD j [] ++ restF o (j + 1) := by
  unfold restF
  rw [List.drop_eq_getElem_cons h, List.flatten_cons, List.getD_eq_getElem?_getD, List.getElem?_eq_getElem h]; rfl
theorem restF_end (o : List (List Pn)) (j : Nat) (h : o.length ≤ j) : restF o j = [] := by
  unfold restF
  rw [List.drop_eq_nil_of_le h]; rfl
end Go.Proofs.YtafkhnlmipddmaaGreat
namespace Go.Proofs.YtafkhnlmipddmaaGreat
open Go.RowKit
set_option linter.unusedVariables false
set_option linter.unusedSimpArgs false
theorem wpList_append_nothing {P : Program} {w : World} {ops : Array Oper} {rest : List Oper} {o : Oper} {a : Act} {Q : Exit → Act → World → Prop} (hgd : o.guard = none) (s x : Operand) (t : TypeId)
    (ho : o.op = .call { callee := .builtin .append, args := #[s, x], argTypes := #[t, t] })
    (base : Nat) (e : TypeId) (i : TypeInfo) (size : Nat) (ht : P.underlying t = some (.slice e)) (hi : P.info? e = some i)
    (v : Value) (n : Nat) (xs : List Value) (hs : a.eval s = v) (hown : w.ownsRow base e size v n xs) (p : Option Addr) (c : Nat) (hx : a.eval x = .slice p 0 c)
    (h : wpList P ops Q rest (a.put o.dst v) w) : wpList P ops Q (o :: rest) a w := by
  refine wpList_plain hgd fun K hK => ?_
  have hrun : (Builtin.append_ #[t, t] o.type #[v, .slice p 0 c]).run P w = .ok v w := by
    rcases hown.2 with ⟨rfl, rfl⟩ | ⟨g, cap, cur, rfl, _, _, hnc, _⟩
    · cases p <;> simp [Builtin.append_, run_underlying ht, sizeOf, typeInfo, hi, Builtin.lenOf, Builtin.firstCells, loadCells, loadCellsFrom]
    · cases p <;> simp [Builtin.append_, run_underlying ht, sizeOf, typeInfo, hi, Builtin.lenOf, Builtin.firstCells, hnc, storeCells, loadCells, loadCellsFrom]
  unfold Oper.wp
  simp [execOp, ho, resolve, invoke, builtin, hs, hx, hrun, Result.andThen]
  exact hK _ _ h
set_option maxRecDepth 100000 in
set_option maxHeartbeats 4000000 in
theorem wdata0_calls (r : Nat) (room : Int) (v : Value) (acc : List Int) (p : Option Addr) (c : Nat) (w : World) (h : WSt w r room v acc) (hn : (acc.length : Int) ≤ room) (hr : room ≤ 1073741824) :
    Calls Tryz.prog 38 #[.pointer (some ⟨r, 0, none⟩), .slice p 0 c] w fun e w' => e = .returned (.pointer (some ⟨r, 0, none⟩)) ∧ WSt w' r room v acc ∧ Kp [r] w w' := by
  obtain ⟨i0, hi, hz0, hz1, hz2⟩ := info_parts infoByte
  go_enter Tryz.func38, Tryz.ntmps38
  go_wp2_with fail
  refine (wfits_calls r room v acc 0 w h (by omega) (by omega) hr).mono ?_; rintro e w1 ⟨rfl, hs1, hk1⟩
  have HS := Lib.hid hs1
  have HK := Lib.hid hk1
  obtain ⟨c0, c1, c2, f0, f2⟩ := hs1.facts
  obtain ⟨q, c5, rfl⟩ := slice_own hs1.2.1
  clear hs1 hk1 h
  go_wp2_with (at_builtin; go_loud (refine wpList_append_nothing rfl _ _ 25 rfl (r + 1) 5 i0 1 Tryz.underlying25 hi (.slice q acc.length c5) acc.length (acc.map (Value.int .u8)) rfl HS.out.2.1 p c rfl ?hk))
  go_ret
  have hk2 : Kp [r] w1 (w1.setCell ⟨r, 0, none⟩ (.slice q acc.length c5)) := (Kp.refl _ _).setCell (.inl (by simp)) _
  exact ⟨rfl, ⟨heap_setCell_same w1 r 0 _ _ _ HS.out.1, hk2.row HS.out.2.1 (fun t ht e => by simp at ht; subst ht; have := own_ge HS.out.2.1 _ e; omega), Nat.lt_of_lt_of_le HS.out.2.2 hk2.size⟩, HK.out.trans hk2⟩
/-- Data of whatever bytes. -/
theorem wdataA_calls (r : Nat) (room : Int) (v : Value) (acc : List Int) (b : Value) (zs : List Int) (w : World) (h : WSt w r room v acc) (hb : IsInts .u8 w b zs) (hbr : ∀ k, blockOf b = some k → k ≠ r) (hn : (acc.length : Int) + zs.length ≤ room) (hr : room ≤ 1073741824) :
    Calls Tryz.prog 38 #[.pointer (some ⟨r, 0, none⟩), b] w fun e w' => e = .returned (.pointer (some ⟨r, 0, none⟩)) ∧ ∃ v', WSt w' r room v' (acc ++ zs) ∧ WK w w' r v v' := by
  by_cases h0 : zs.length = 0
  · obtain rfl : zs = [] := List.length_eq_zero_iff.1 h0
    obtain ⟨p, c, rfl⟩ := hb.form
    refine (wdata0_calls r room v acc p c w h (by simpa using hn) hr).mono ?_
    rintro e w' ⟨rfl, h1, h2⟩
    exact ⟨rfl, v, by rw [List.append_nil]; exact h1, h2.more (fun s hs => .inl (by simp at hs; simp [hs])), fun k hk => .inl hk⟩
  · exact wdata_calls r room v acc b zs w h hb hbr (by omega) hn hr
end Go.Proofs.YtafkhnlmipddmaaGreat
namespace Go.Proofs.YtafkhnlmipddmaaGreat
open Go.RowKit
set_option linter.unusedVariables false
set_option linter.unusedSimpArgs false
/-- The bytes of the contours' last points. -/
def encEnds (o : List (List Pn)) : Nat → List Int
  | 0 => []
  | j + 1 => encEnds o j ++ bytesN 2 ((cntTo o (j + 1) : Nat) - 1 : Int)
theorem encEnds_len (o : List (List Pn)) : ∀ j, (encEnds o j).length = 2 * j := by
  intro j
  induction j with
  | zero => rfl
  | succ j ih => rw [encEnds, List.length_append, ih, bytesN_length]; omega
def encTop (n : Nat) (b : Bx) : List Int := ((((([] ++ bytesN 2 (n : Int)) ++ bytesN 2 (b.x0.tdiv 65536)) ++ bytesN 2 (b.y0.tdiv 65536)) ++ bytesN 2 (b.x1.tdiv 65536)) ++ bytesN 2 (b.y1.tdiv 65536))
theorem encTop_len (n : Nat) (b : Bx) : (encTop n b).length = 10 := by simp [encTop, bytesN_length]
def encB (o : List (List Pn)) (b : Bx) (t : EnS) : List Int := ((((encTop o.length b ++ encEnds o o.length) ++ bytesN 2 0) ++ packM t.fl.length t.fl) ++ t.ax) ++ t.ay
theorem packM_len : ∀ (f : Nat) (l : List Int), (packM f l).length ≤ 2 * l.length := by
  intro f
  induction f with
  | zero => intro l; simp [packM]
  | succ f ih =>
    intro l
    cases l with
    | nil => simp [packM]
    | cons c cs =>
      have h1 := ih ((c :: cs).drop (runLen (c :: cs)))
      obtain ⟨h2, _⟩ := runLen_le (c :: cs)
      have h3 : 1 ≤ runLen (c :: cs) := by simp [runLen]
      rw [packM, List.length_append]
      rw [List.length_drop] at h1
      split <;> simp only [List.length_cons, List.length_nil] at * <;> omega
/-- The writer r in Encode: its bytes; all that was there at w2 is kept. -/
def EnW (w2 W : World) (r : Nat) (room : Int) (u : Value) (acc : List Int) : Prop := WSt W r room u acc ∧ Kp [] w2 W ∧ w2.heap.size ≤ r
theorem wr64 (x : Int) (h0 : -9223372036854775808 ≤ x) (h1 : x ≤ 9223372036854775807) : IntKind.i64.wrap x = x := by
  simp [IntKind.wrap, IntKind.signed, IntKind.bits]; omega
theorem room_wrap (j M X Y : Nat) (h1 : j ≤ 256) (h2 : M ≤ 8192) (h3 : X ≤ 8192) (h4 : Y ≤ 8192) : IntKind.i64.wrap (IntKind.i64.wrap (IntKind.i64.wrap (IntKind.i64.wrap (14 + IntKind.i64.wrap (2 * (j : Int))) + M) + X) + Y) = 14 + 2 * (j : Int) + M + X + Y := by
  rw [wr64 (2 * (j : Int)) (by omega) (by omega), wr64 (14 + 2 * (j : Int)) (by omega) (by omega), wr64 (14 + 2 * (j : Int) + M) (by omega) (by omega), wr64 (14 + 2 * (j : Int) + M + X) (by omega) (by omega), wr64 _ (by omega) (by omega)]
def numB4 (b : Bx) : Prop := numF b.x0 = true ∧ numF b.y0 = true ∧ numF b.x1 = true ∧ numF b.y1 = true
theorem numF_min {a b : Int} (h1 : numF a = true) (h2 : numF b = true) : numF (min a b) = true := by rw [numF_iff] at *; omega
theorem numF_max {a b : Int} (h1 : numF a = true) (h2 : numF b = true) : numF (max a b) = true := by rw [numF_iff] at *; omega
theorem hullB_num (xs ys : List Int) (nx : numsI xs) (ny : numsI ys) (hl : xs.length = ys.length) : ∀ n, n ≤ xs.length → numB4 (hullB xs ys n) := by
  intro n
  induction n with
  | zero => intro _; exact ⟨rfl, rfl, rfl, rfl⟩
  | succ n ih =>
    intro h
    have hx := nx n (by omega)
    have hy := ny n (by omega)
    by_cases h0 : n = 0
    · subst h0
      rw [hullB_one]
      exact ⟨hx, hy, hx, hy⟩
    · obtain ⟨a, b, c, d⟩ := ih (by omega)
      rw [hullB_succ _ _ _ h0]
      exact ⟨numF_min a hx, numF_min b hy, numF_max c hx, numF_max d hy⟩
theorem hull_num {o : List (List Pn)} (h : ∀ j, j < o.length → mayCo (o.getD j []) = true) : numB4 (hullO o) := by
  obtain ⟨hx, hy⟩ := numsI_x (flat_nums h)
  refine hullB_num _ _ hx hy (by rw [xsP_len, ysP_len]) _ ?_
  rw [xsP_len, flatTo_len o o.length (Nat.le_refl _)]
  exact Nat.le_refl _
/-- The box's numbers in units. -/
theorem numB4.units {b : Bx} (h : numB4 b) : (-32768 ≤ b.x0.tdiv 65536 ∧ b.x0.tdiv 65536 ≤ 32768) ∧ (-32768 ≤ b.y0.tdiv 65536 ∧ b.y0.tdiv 65536 ≤ 32768) ∧ (-32768 ≤ b.x1.tdiv 65536 ∧ b.x1.tdiv 65536 ≤ 32768) ∧ (-32768 ≤ b.y1.tdiv 65536 ∧ b.y1.tdiv 65536 ≤ 32768) := by
  obtain ⟨h1, h2, h3, h4⟩ := h
  rw [numF_iff] at *
  have key : ∀ x : Int, -2147483648 ≤ x ∧ x ≤ 2147483648 → -32768 ≤ x.tdiv 65536 ∧ x.tdiv 65536 ≤ 32768 := by
    intro x hx
    rcases Int.le_total 0 x with h | h
    · rw [Int.tdiv_eq_ediv_of_nonneg h]; omega
    · have : x.tdiv 65536 = -((-x).tdiv 65536) := by rw [Int.neg_tdiv, Int.neg_neg]
      rw [this, Int.tdiv_eq_ediv_of_nonneg (by omega)]; omega
  exact ⟨key _ h1, key _ h2, key _ h3, key _ h4⟩
end Go.Proofs.YtafkhnlmipddmaaGreat
namespace Go.Proofs.YtafkhnlmipddmaaGreat
open Go.RowKit
set_option linter.unusedVariables false
set_option linter.unusedSimpArgs false
/-- What Encode answers. -/
def encM (o : List (List Pn)) : List Int × Int :=
  if checkO o ≠ 0 then ([], checkO o) else if o = [] then ([], 0) else match encS (restF o 0) en0 with
    | none => ([], 1)
    | some t => (encB o (hullO o) t, 0)
end Go.Proofs.YtafkhnlmipddmaaGreat
namespace Go.Proofs.YtafkhnlmipddmaaGreat
open Go.RowKit
set_option linter.unusedVariables false
set_option linter.unusedSimpArgs false
def triC : List Pn := [⟨0, 0, 1⟩, ⟨6553600, 0, 1⟩, ⟨0, 6553600, 2⟩]
def triO : List (List Pn) := [triC]
def triB : List Int := [0, 1, 0, 0, 0, 0, 0, 100, 0, 100, 0, 2, 0, 0, 49, 51, 38, 100, 100, 100]
theorem psLitT {w W : World} {l : List Pn} {n : Nat} (hn : l.length = n) (hm : n ≤ maxLen) (hk : Kp [] (w.alloc (.cells (psCells l).toArray 46)) W) : IsPs W (.slice (some ⟨w.heap.size, 0, none⟩) n n) l := by
  subst hn
  exact IsPs.kp0 (Reads.made w w.heap.size 3 l.length (psCells l) 46 rfl (psCells_length l) hm) hk
theorem outLitT {w W : World} {v : Value} {c : List Pn} (hk : Kp [] (w.alloc (.cells #[v] 23)) W) (hc : IsPs W v c) : IsOut W (.slice (some ⟨w.heap.size, 0, none⟩) 1 1) [c] :=
  ⟨[v], Reads.kp (Reads.made w w.heap.size 1 1 [v] 23 rfl rfl (by decide)) hk (by simp), fun i hi => by
    obtain rfl : i = 0 := by simpa using hi
    exact hc⟩
theorem tri_enc : encM triO = (triB, 0) := by decide
theorem tri_dec : decS triB = (triO, 0) := by decide
theorem cut_dec : (decS [0, 1, 0]).2 = 110 := by decide
theorem tri_byte : ∀ c ∈ triB, 0 ≤ c ∧ c ≤ 255 := by decide
theorem tri_kind : kindM triB = 1 := by decide
theorem ff_kind : kindM [255, 255] = 2 := by decide
theorem nil_kind : kindM [] = 0 := by decide
end Go.Proofs.YtafkhnlmipddmaaGreat
namespace Go.Proofs.YtafkhnlmipddmaaGreat
open Go.RowKit
set_option linter.unusedVariables false
set_option linter.unusedSimpArgs false
theorem IsInts.litT {w W : World} (k : IntKind) (e : TypeId) (zs : List Int) (hk : Kp [] (w.alloc (.cells (zs.map (Value.int k)).toArray e)) W) (g n : Nat) (hg : g = w.heap.size) (hn : n = zs.length) (hl : n ≤ maxLen) : IsInts k W (.slice (some ⟨g, 0, none⟩) n n) zs := by
  subst hg; subst hn
  refine .inr ⟨_, 0, _, rfl, Nat.le_refl _, hl, fun i hi => ?_⟩
  rw [cell_of_row _ w.heap.size _ _ _ _ (hk.heap (heap_alloc_new w _) (by simp))]
  simp [List.getD_eq_getElem?_getD, List.getElem?_eq_getElem hi]
theorem ints_lt {k : IntKind} {w : World} {v : Value} {zs : List Int} (h : IsInts k w v zs) (h0 : 0 < zs.length) : ∀ b, blockOf v = some b → b < w.heap.size := by
  rcases h with ⟨⟨a, e⟩, rfl⟩ | ⟨g, off, c, rfl, h2, h3, h4⟩
  · simp at h0
  · intro b hb
    have h := World.block_lt_of_cell? w _ (h4 0 h0)
    have hb2 := ((blockOf_some _ _ _ _ _ _).1 hb).2
    subst hb2
    exact h
theorem tri_small : smallO triO := by
  intro j hj
  obtain rfl : j = 0 := by simpa [triO] using hj
  decide
end Go.Proofs.YtafkhnlmipddmaaGreat

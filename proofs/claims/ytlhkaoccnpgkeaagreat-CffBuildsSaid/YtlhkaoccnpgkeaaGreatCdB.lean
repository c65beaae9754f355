/- cff: an entry of a DICT is said (the program's) · cff: slices.Concat of rows of bytes; the top DICT (the program's) · cff: parts that are put one behind the other: add, private (the program's) · cff: a family's private DICT and subroutines are put (the program's). (Merged by wip/tools/mergetpl.py out of CbG, CbH, CbI, CbJ.) -/
import Derived.Test.YtlhkaoccnpgkeaaGreatCdA
import Derived.Lib.AppendZeros
import Derived.Deep.RegionHeld3
namespace Go.Proofs.YtlhkaoccnpgkeaaGreat
open Go.RowKit
set_option linter.unusedVariables false
set_option linter.unusedSimpArgs false
theorem IsInts.form {w : World} {k : IntKind} {v : Value} {zs : List Int} (h : IsInts k w v zs) : ∃ p c, v = .slice p zs.length c := by
  rcases h with ⟨⟨ad, rfl⟩, rfl⟩ | ⟨g, off, c, rfl, _⟩
  · exact ⟨_, 0, rfl⟩
  · exact ⟨_, c, rfl⟩
section
variable {P : Program} {w : World} {ops : Array Oper} {rest : List Oper} {o : Oper} {a : Act} {Q : Exit → Act → World → Prop}
/-- Appending whatever integers; where the new row lies. -/
theorem wpList_appM (hgd : o.guard = none) (s x : Operand) (T E : TypeId) (k : IntKind) (bytes : Nat) (ht : P.underlying T = some (.slice E)) (hinfo : (P.info? E).map (fun i => (i.zero, i.size, i.bytes)) = some (some (.int k 0), 1, bytes)) (hb1 : 1 ≤ bytes)
    (ho : o.op = .call { callee := .builtin .append, args := #[s, x], argTypes := #[T, T] }) (base : Nat) (v : Value) (l : List Int) (n : Nat) (hn : l.length = n) (hs : a.eval s = v) (hown : w.ownsRow base E 1 v n (l.map (Value.int k)))
    (xv : Value) (zs : List Int) (hx : a.eval x = xv) (hsrc : IsInts k w xv zs) (hl : (n + zs.length) * bytes ≤ 140737488355328) (hbase : base ≤ w.heap.size)
    (h : ∀ v' w', w'.ownsRow base E 1 v' (n + zs.length) ((l ++ zs).map (Value.int k)) → Kp v.ownBlock.toList w w' → (∀ k, v'.ownBlock = some k → v.ownBlock = some k ∨ w.heap.size ≤ k) → wpList P ops Q rest (a.put o.dst v') w') : wpList P ops Q (o :: rest) a w := by
  obtain ⟨i, hi, hz, hsize, hby⟩ := info_parts hinfo
  by_cases h0 : zs.length = 0
  · obtain rfl : zs = [] := List.length_eq_zero_iff.1 h0
    obtain ⟨p, c, rfl⟩ := hsrc.form
    refine wpList_append_nothing hgd s x T ho base E i 1 ht hi v n _ hs hown p c hx ?_
    exact h v w (by simpa using hown) (Kp.refl _ _) (fun k hk => .inl hk)
  · have h63 : n + zs.length ≤ maxLen := by
      have := Nat.le_mul_of_pos_right (n + zs.length) hb1
      simp only [maxLen]; omega
    rcases hsrc with ⟨⟨ad, rfl⟩, rfl⟩ | ⟨g, off, c, rfl, h2, h3, h4⟩
    · exact absurd rfl h0
    · refine wpList_append_lies w hgd s x T ho base E i (.int k 0) 1 bytes ht hi hz hsize hby rfl (by decide) v n (l.map (Value.int k)) hs hown ⟨g, off, none⟩ zs.length c (zs.map (Value.int k)) hx (by simp) (fun j u hu => ?_) (oneCell_ints _ _) (by omega) h63 hl hbase w.heap.size rfl ?_
      · rw [add_lit]
        rw [List.getElem?_map] at hu
        by_cases hj : j < zs.length
        · rw [List.getElem?_eq_getElem hj] at hu
          rw [h4 j hj, List.getD_eq_getElem?_getD, List.getElem?_eq_getElem hj]
          simpa using hu
        · rw [List.getElem?_eq_none (by omega)] at hu; simp at hu
      · intro g c w' r1 r2 r3 _
        refine h _ w' (by rw [List.map_append]; exact r1) (Kp.grown (Kp.refl _ _) r2 (fun k hk => .inl (by rw [hk]; simp))) (fun k hk => ?_)
        have : g = k := by simpa [Value.ownBlock] using hk
        subst this
        rcases r3 with r3 | r3
        · exact .inl r3
        · exact .inr (by rw [r3]; exact Nat.le_refl _)
end
theorem ixB_len (o : List (List Int)) : (ixB o).length = 3 + (o.length + 1) * szO o + o.flatten.length := by
  rw [ixB_eq]
  simp only [List.length_append, offsP_len]
  unfold hdX
  simp [bytesN_length]
theorem wid_facts (x : Nat) : decide ((256 : Int) ≤ (x : Int)) = decide (1 < widN x) ∧ decide ((65536 : Int) ≤ (x : Int)) = decide (2 < widN x) ∧ decide ((16777216 : Int) ≤ (x : Int)) = decide (3 < widN x) := by
  unfold widN
  refine ⟨?_, ?_, ?_⟩ <;> (rw [decide_eq_decide]; (repeat' split) <;> omega)
/-- A row of bytes of one's own. -/
def OwnB (w : World) (B : Nat) (v : Value) (l : List Int) : Prop := w.ownsRow B 5 1 v l.length (l.map (Value.int .u8))
theorem OwnB.kp0 {w w' : World} {B : Nat} {v : Value} {l : List Int} (h : OwnB w B v l) (hk : Kp [] w w') : OwnB w' B v l := hk.row h (by simp)
theorem OwnB.ints {w : World} {B : Nat} {v : Value} {l : List Int} (h : OwnB w B v l) : IsInts .u8 w v l := IsInts.owned h
theorem OwnB.geb {w : World} {B : Nat} {v : Value} {l : List Int} (h : OwnB w B v l) : ∀ k, blockOf v = some k → B ≤ k := own_geb h
theorem OwnB.form {w : World} {B : Nat} {v : Value} {l : List Int} (h : OwnB w B v l) : ∃ p c, v = .slice p l.length c := slice_own h
theorem OwnB.base {w : World} {B B' : Nat} {v : Value} {l : List Int} (h : OwnB w B' v l) (hB : B ≤ B') : OwnB w B v l :=
  ⟨h.1, h.2.imp id (fun ⟨g, cap, cur, a1, a2, a3⟩ => ⟨g, cap, cur, a1, Nat.le_trans hB a2, a3⟩)⟩
section
variable {w : World} {ops : Array Oper} {rest : List Oper} {o : Oper} {a : Act} {Q : Exit → Act → World → Prop}
/-- Appending bytes to a row of one's own. -/
theorem wpList_ob (hgd : o.guard = none) (s y : Operand) (ho : o.op = .call { callee := .builtin .append, args := #[s, y], argTypes := #[29, 29] })
    {B : Nat} {v : Value} {l : List Int} (hs : a.eval s = v) (hown : OwnB w B v l) (xv : Value) (zs : List Int) (hx : a.eval y = xv) (hsrc : IsInts .u8 w xv zs) (hl : l.length + zs.length ≤ 1073741824) (hB : B ≤ w.heap.size)
    (h : ∀ v' w', OwnB w' B v' (l ++ zs) → Kp v.ownBlock.toList w w' → (∀ k, v'.ownBlock = some k → v.ownBlock = some k ∨ w.heap.size ≤ k) → wpList Tryz.prog ops Q rest (a.put o.dst v') w') : wpList Tryz.prog ops Q (o :: rest) a w :=
  wpList_appM hgd s y 29 5 .u8 1 Tryz.underlying29 infoByte (by decide) ho B v l l.length rfl hs hown xv zs hx hsrc (by omega) hB fun v' w' h1 h2 h3 =>
    h v' w' (by unfold OwnB; rw [List.length_append]; exact h1) h2 h3
end
/-- A row of one's own behind an append to it, as the caller sees it. -/
theorem OwnB.grow {u0 w w' : World} {B : Nat} {v : Value} {l : List Int} (h : OwnB w B v l) (hu : Kp [] u0 w) (hB : u0.heap.size ≤ B) (hk : Kp v.ownBlock.toList w w') : Kp [] u0 w' :=
  hu.trans' hk (fun t ht => .inr (Nat.le_trans hB (own_ge h t (by simpa using ht))))
theorem litb_at (w : World) (g : Nat) (hg : g = w.heap.size) (xs : List Int) (n : Nat) (hn : xs.length = n) (cs : Array Value) (hcs : cs = (xs.map (Value.int .u8)).toArray) (h100 : n ≤ 1000) (W : World) (hk : Kp [] (w.alloc (.cells cs 5)) W) : IsInts .u8 W (.slice (some ⟨g, 0, none⟩) n n) xs := by
  subst hg
  subst hcs
  subst hn
  refine IsInts.kp (S := []) (IsInts.owned (base := w.heap.size) (e := 5) (n := xs.length) ?_) hk (by simp)
  have := own_lit w w.heap.size w.heap.size 5 1 xs.length (xs.map (Value.int .u8)).toArray rfl (Nat.le_refl _) (by unfold maxLen; omega) (by simp)
  simpa using this
theorem clone_own (v : Value) (zs : List Int) (w : World) (h : IsInts .u8 w v zs) (hl : zs.length ≤ 140737488355328) :
    Calls Tryz.prog 76 #[v] w fun e w' => ∃ v', e = .returned v' ∧ OwnB w' w.heap.size v' zs ∧ Kp [] w w' := by
  have H : Hid (IsInts .u8 w v zs) := h
  have HL : Hid _ := hl
  clear hl
  obtain ⟨pa, ca, hva⟩ : ∃ p c, v = .slice p zs.length c := by
    rcases h with ⟨⟨ad, rfl⟩, rfl⟩ | ⟨g, off, c, rfl, _⟩
    · exact ⟨_, 0, rfl⟩
    · exact ⟨_, c, rfl⟩
  subst hva
  cases pa with
  | none =>
    have hz : zs = [] ∧ ca = 0 := by
      rcases h with ⟨⟨ad, e⟩, rfl⟩ | ⟨g, off, c, e, _⟩
      · cases e; exact ⟨rfl, rfl⟩
      · cases e
    obtain ⟨rfl, rfl⟩ := hz
    clear h H HL
    show Calls Tryz.prog 76 #[.slice none 0 0] w _
    have hq := Lib.run_eql_slice_nil (P := Tryz.prog) w 29 5 none 0 0 0 0 Tryz.underlying29
    simp only [Option.isNone] at hq
    go_enter Tryz.func76, Tryz.ntmps76
    go_wp2_with fail
    go_ret
    exact ⟨_, rfl, World.ownsRow_nil _ _ _ _, Kp.refl _ _⟩
  | some ad =>
    clear h
    have hq := Lib.run_eql_slice_nil (P := Tryz.prog) w 29 5 (some ad) zs.length ca 0 0 Tryz.underlying29
    simp only [Option.isNone] at hq
    go_enter Tryz.func76, Tryz.ntmps76
    go_wp2_with (at_builtin; refine wpList_app rfl _ _ 29 rfl w.heap.size 5 (.int .u8 0) 1 1 Tryz.underlying29 infoByte rfl (by decide) (by decide) (.slice (some ⟨w.heap.size, 0, none⟩) 0 0) 0 [] rfl ?hown (.slice (some ad) zs.length ca) zs.length (zs.map (Value.int .u8)) rfl ?hsrc (oneCell_ints _ _) ?hb1 ?hb2 ?hk)
    case hown => exact own_empty _ _ _ _ _ rfl (by omega)
    case hsrc => exact (H.out.kp (S := []) ((Kp.refl _ _).alloc _) (by simp)).reads
    case hb1 => have := HL.out; first | omega | (simp; omega) | simp
    case hb2 => first | omega | (simp; omega) | simp
    case hk =>
    intro v1 w1 hown hgr
    try simp only [Nat.zero_add, List.nil_append] at hown
    have hk1 : Kp [] w w1 := Kp.grown ((Kp.refl _ _).alloc _) hgr (by intro k hk; right; simp [Value.ownBlock] at hk; omega)
    have hi : Hid (OwnB w1 w.heap.size v1 zs) := hown
    clear hown hgr
    go_wp2_with fail
    go_ret
    exact ⟨_, rfl, hi.out, hk1⟩
set_option maxRecDepth 100000 in
theorem wdone_own (r : Nat) (room : Int) (v : Value) (acc : List Int) (w : World) (h : WSt w r room v acc) (hl : acc.length ≤ 140737488355328) :
    Calls Tryz.prog 65 #[.pointer (some ⟨r, 0, none⟩)] w fun e w' => ∃ v', e = .returned (.tuple #[v', .int .i64 0]) ∧ OwnB w' w.heap.size v' acc ∧ Kp [] w w' := by
  obtain ⟨c0, c1, c2, f0, f2⟩ := h.facts
  have HI : Hid (IsInts .u8 w v acc) := IsInts.owned h.2.1
  obtain ⟨p, c, rfl⟩ := slice_own h.2.1
  clear h
  go_enter Tryz.func65, Tryz.ntmps65
  go_wp2_with fail
  refine (clone_own _ acc _ HI.out hl).mono ?_; rintro e w1 ⟨v', rfl, h1, h2⟩
  have H1 : Hid _ := h1
  clear h1
  go_wp2_with fail
  go_ret2
  exact ⟨v', rfl, H1.out, h2⟩
/-- A number of five bytes. -/
def fiveB (x : Int) : List Int := 29 :: bytesN 4 x
theorem fiveB_length (x : Int) : (fiveB x).length = 5 := by simp [fiveB, bytesN_length]
/-- An entry of a DICT. -/
def sayB (op : Nat) (xs : List Int) : List Int := xs.flatMap fiveB ++ (if 3072 ≤ op then bytesN 2 (op : Nat) else bytesN 1 (op : Nat))
theorem fives_length (xs : List Int) : (xs.flatMap fiveB).length = 5 * xs.length := by
  induction xs with
  | nil => rfl
  | cons a l ih => rw [List.flatMap_cons, List.length_append, ih, fiveB_length, List.length_cons]; omega
theorem sayB_length (op : Nat) (xs : List Int) : (sayB op xs).length = 5 * xs.length + (if 3072 ≤ op then 2 else 1) := by
  unfold sayB; rw [List.length_append, fives_length]; split <;> rw [bytesN_length]
theorem number19_calls (r : Nat) (v : Value) (acc : List Int) (x : Int) (g1 : -9223372036854775808 ≤ x) (g2 : x ≤ 9223372036854775807) (w : World) (h : WSt w r 1048576 v acc) (hn : acc.length ≤ 1048000) :
    Calls Tryz.prog 62 #[.pointer (some ⟨r, 0, none⟩), .int .i64 x] w fun e w' => e = .returned (.pointer (some ⟨r, 0, none⟩)) ∧ ∃ v', WSt w' r 1048576 v' (acc ++ fiveB x) ∧ WK w w' r v v' := by
  have HU := Lib.hid (wu8_calls r 1048576 v acc 29 (by decide) (by decide) w h (by omega) (by decide))
  clear h
  go_enter Tryz.func62, Tryz.ntmps62
  go_wp2_with fail
  refine HU.out.mono ?_; rintro e w1 ⟨rfl, v1, h1, k1⟩
  have HK := Lib.hid k1
  have HU2 := Lib.hid (wu32_calls r 1048576 v1 _ x g1 g2 w1 h1 (by simp [bytesN_length]; omega) (by decide))
  clear HU h1 k1
  go_wp2_with fail
  refine HU2.out.mono ?_; rintro e w2 ⟨rfl, v2, h2, k2⟩
  have HS2 : Hid (WSt w2 r 1048576 v2 (acc ++ fiveB x)) := by
    show WSt _ _ _ _ _
    have e : acc ++ bytesN 1 29 ++ bytesN 4 x = acc ++ fiveB x := by simp [fiveB, bytesN]
    rw [← e]; exact h2
  have HK2 := Lib.hid (HK.out.trans k2)
  clear h2 k2 HU2 HK
  go_wp2_with fail
  go_ret
  exact ⟨rfl, v2, HS2.out, HK2.out⟩
/-- Where the saying of an entry stands. -/
def SaySt (w wr : World) (l : List Int) : Prop := ∃ v, WSt wr w.heap.size 1048576 v l ∧ Kp [] w wr
theorem SaySt.step {w wr w2 : World} {l l2 : List Int} {v v2 : Value} (h1 : WSt wr w.heap.size 1048576 v l) (h2 : Kp [] w wr) (g1 : WSt w2 w.heap.size 1048576 v2 l2) (g2 : WK wr w2 w.heap.size v v2) : SaySt w w2 l2 :=
  ⟨v2, g1, g2.kp0 h1 h2 (Nat.le_refl _)⟩
theorem SaySt.num {w wr : World} {l : List Int} (h : SaySt w wr l) (x : Int) (g1 : -9223372036854775808 ≤ x) (g2 : x ≤ 9223372036854775807) (hn : l.length ≤ 1048000) :
    Calls Tryz.prog 62 #[.pointer (some ⟨w.heap.size, 0, none⟩), .int .i64 x] wr fun e w' => e = .returned (.pointer (some ⟨w.heap.size, 0, none⟩)) ∧ SaySt w w' (l ++ fiveB x) := by
  obtain ⟨v, h1, h2⟩ := h
  exact (number19_calls w.heap.size v l x g1 g2 wr h1 hn).mono fun e w' ⟨e1, v2, k1, k2⟩ => ⟨e1, SaySt.step h1 h2 k1 k2⟩
theorem SaySt.u8 {w wr : World} {l : List Int} (h : SaySt w wr l) (x : Int) (g1 : -9223372036854775808 ≤ x) (g2 : x ≤ 9223372036854775807) (hn : l.length ≤ 1048000) :
    Calls Tryz.prog 64 #[.pointer (some ⟨w.heap.size, 0, none⟩), .int .i64 x] wr fun e w' => e = .returned (.pointer (some ⟨w.heap.size, 0, none⟩)) ∧ SaySt w w' (l ++ bytesN 1 x) := by
  obtain ⟨v, h1, h2⟩ := h
  exact (wu8_calls w.heap.size 1048576 v l x g1 g2 wr h1 (by omega) (by decide)).mono fun e w' ⟨e1, v2, k1, k2⟩ => ⟨e1, SaySt.step h1 h2 k1 k2⟩
theorem SaySt.u16 {w wr : World} {l : List Int} (h : SaySt w wr l) (x : Int) (g1 : -9223372036854775808 ≤ x) (g2 : x ≤ 9223372036854775807) (hn : l.length ≤ 1048000) :
    Calls Tryz.prog 63 #[.pointer (some ⟨w.heap.size, 0, none⟩), .int .i64 x] wr fun e w' => e = .returned (.pointer (some ⟨w.heap.size, 0, none⟩)) ∧ SaySt w w' (l ++ bytesN 2 x) := by
  obtain ⟨v, h1, h2⟩ := h
  exact (wu16_calls w.heap.size 1048576 v l x g1 g2 wr h1 (by omega) (by decide)).mono fun e w' ⟨e1, v2, k1, k2⟩ => ⟨e1, SaySt.step h1 h2 k1 k2⟩
theorem SaySt.done {w wr : World} {l : List Int} (h : SaySt w wr l) (hn : l.length ≤ 1048576) :
    Calls Tryz.prog 65 #[.pointer (some ⟨w.heap.size, 0, none⟩)] wr fun e w' => ∃ v', e = .returned (.tuple #[v', .int .i64 0]) ∧ OwnB w' w.heap.size v' l ∧ Kp [] w w' := by
  obtain ⟨v, h1, h2⟩ := h
  exact (wdone_own w.heap.size 1048576 v l wr h1 (by omega)).mono fun e w' ⟨v', e1, k1, k2⟩ => ⟨v', e1, k1.base h2.size, h2.trans k2⟩
set_option maxRecDepth 100000 in
theorem say_calls (op : Nat) (hop : op ≤ 65535) (v : Value) (xs : List Int) (w : World) (hv : IsInts .i64 w v xs) (hl : xs.length ≤ 100) (hb : ∀ x ∈ xs, -9223372036854775808 ≤ x ∧ x ≤ 9223372036854775807) :
    Calls Tryz.prog 21 #[.int .i64 (op : Nat), v] w fun e w' => ∃ v', e = .returned v' ∧ OwnB w' w.heap.size v' (sayB op xs) ∧ Kp [] w w' := by
  have HV := Lib.hid (fun W (hk : Kp [] w W) => hv.kp hk (by simp))
  have HB := Lib.hid hb
  have HSB : Hid (sayB op xs = (xs.take xs.length).flatMap fiveB ++ (if 3072 ≤ op then bytesN 2 (op : Nat) else bytesN 1 (op : Nat))) := by show _ = _; rw [List.take_length]; rfl
  have HT : Hid (∀ j, j < xs.length → (xs.take (j + 1)).flatMap fiveB = (xs.take j).flatMap fiveB ++ fiveB (xs.getD j 0)) := fun j hj => by
    rw [List.take_succ_eq_append_getElem hj, List.flatMap_append, List.getD_eq_getElem?_getD, List.getElem?_eq_getElem hj]; simp
  have HL : Hid (∀ j, ((xs.take j).flatMap fiveB).length ≤ 500) := fun j => by rw [fives_length, List.length_take]; omega
  obtain ⟨p, c, rfl⟩ := hv.form
  obtain ⟨n, hN⟩ : ∃ n, xs.length = n := ⟨_, rfl⟩
  have HN := Lib.hid hN
  rw [hN] at HV HSB HT hl ⊢
  clear hv hb hN
  generalize sayB op xs = R at *
  go_enter Tryz.func21, Tryz.ntmps21
  go_wp2_with fail
  refine (to_calls 1048576 (by decide) w).mono ?_; rintro e w1 ⟨rfl, h1, k1⟩
  have HS : Hid (SaySt w w1 ((xs.take 0).flatMap fiveB)) := ⟨_, by simpa using h1, k1⟩
  clear h1 k1
  go_wp2_with fail
  go_loopw [13] (fun i wr => ∃ j : Nat, j ≤ n ∧ i = .int .i64 j ∧ Hid (SaySt w wr ((xs.take j).flatMap fiveB))) (fun i _ => n - (intOf i).toNat)
  case atStart => exact ⟨0, by omega, rfl, HS⟩
  case round =>
    obtain ⟨j, hj, rfl, HJ⟩ := hrel
    by_cases hlt : j < n
    · have hc : wr.cell? ⟨0, 0, none⟩ = wr.cell? ⟨0, 0, none⟩ := rfl
      have hx := HV.out wr (by obtain ⟨_, _, h⟩ := HJ.out; exact h)
      have hxl : j < xs.length := by rw [HN.out]; exact hlt
      have hbx := HB.out (xs.getD j 0) (by rw [List.getD_eq_getElem?_getD, List.getElem?_eq_getElem hxl]; exact List.getElem_mem _)
      have HC : Hid (∃ g o, p = some ⟨g, o, none⟩ ∧ n ≤ c ∧ wr.cell? ⟨g, o + j, none⟩ = some (.int .i64 (xs.getD j 0))) := by
        rcases hx with ⟨⟨ad, e⟩, e2⟩ | ⟨g, o, c2, e, h2, h3, h4⟩
        · exfalso; rw [e2] at hxl; simp at hxl
        · cases e; exact ⟨g, o, rfl, by rw [HN.out] at h2; exact h2, h4 j hxl⟩
      have HNU := Lib.hid (HJ.out.num (xs.getD j 0) hbx.1 hbx.2 (by have := HL.out j; omega))
      have HF := Lib.hid (HT.out j hlt)
      clear hx hxl hbx hc
      generalize xs.getD j 0 = x at *
      obtain ⟨g, o, rfl, hnc, hcell⟩ := HC.out
      clear HC
      go_wp2_with fail
      refine HNU.out.mono ?_; rintro e w2 ⟨rfl, h2⟩
      have HS2 : Hid (SaySt w w2 ((xs.take (j + 1)).flatMap fiveB)) := by show SaySt _ _ _; rw [HF.out]; exact h2
      clear h2 HNU HJ hcell
      go_wp2_with fail
      go_roundw
      case rel => first | exact ⟨j + 1, hlt, int_eq' (by first | rfl | simp), HS2⟩ | ((repeat apply Exists.intro); exact ⟨⟨j + 1, hlt, int_eq' (by first | rfl | simp), HS2⟩, rfl⟩)
      case measure => simp [intOf] <;> omega
    · obtain rfl : n = j := by omega
      by_cases ho : 3072 ≤ op
      · have hd : decide ((3072 : Int) ≤ (op : Int)) = true := decide_eq_true (by omega)
        have HU := Lib.hid (HJ.out.u16 (op : Nat) (by omega) (by omega) (by have := HL.out n; omega))
        have HE : Hid (R = (xs.take n).flatMap fiveB ++ bytesN 2 (op : Nat)) := by show _ = _; rw [HSB.out, if_pos ho]
        have HRL := Lib.hid (HL.out n)
        clear ho
        go_wp2_with fail
        refine HU.out.mono ?_; rintro e w2 ⟨rfl, h2⟩
        have HD := Lib.hid (h2.done (by simp [bytesN_length]; have := HRL.out; simp at this; omega))
        clear h2 HU HJ
        go_wp2_with fail
        refine HD.out.mono ?_; rintro e w3 ⟨v3, rfl, h3, k3⟩
        have H3 : Hid (OwnB w3 w.heap.size v3 R) := by show OwnB _ _ _ _; rw [HE.out]; exact h3
        clear h3
        go_wp2_with fail
        go_ret
        exact ⟨v3, rfl, H3.out, k3⟩
      · have hd : decide ((3072 : Int) ≤ (op : Int)) = false := decide_eq_false (by omega)
        have HU := Lib.hid (HJ.out.u8 (op : Nat) (by omega) (by omega) (by have := HL.out n; omega))
        have HE : Hid (R = (xs.take n).flatMap fiveB ++ bytesN 1 (op : Nat)) := by show _ = _; rw [HSB.out, if_neg ho]
        have HRL := Lib.hid (HL.out n)
        clear ho
        go_wp2_with fail
        refine HU.out.mono ?_; rintro e w2 ⟨rfl, h2⟩
        have HD := Lib.hid (h2.done (by simp [bytesN_length]; have := HRL.out; simp at this; omega))
        clear h2 HU HJ
        go_wp2_with fail
        refine HD.out.mono ?_; rintro e w3 ⟨v3, rfl, h3, k3⟩
        have H3 : Hid (OwnB w3 w.heap.size v3 R) := by show OwnB _ _ _ _; rw [HE.out]; exact h3
        clear h3
        go_wp2_with fail
        go_ret
        exact ⟨v3, rfl, H3.out, k3⟩
theorem say_at (op : Nat) (z : Int) (hz : z = (op : Nat)) (hop : op ≤ 65535) (v : Value) (xs : List Int) (w : World) (hv : IsInts .i64 w v xs) (hl : xs.length ≤ 100) (hb : ∀ x ∈ xs, -9223372036854775808 ≤ x ∧ x ≤ 9223372036854775807) :
    Calls Tryz.prog 21 #[.int .i64 z, v] w fun e w' => ∃ v', e = .returned v' ∧ OwnB w' w.heap.size v' (sayB op xs) ∧ Kp [] w w' := by
  subst hz
  exact say_calls op hop v xs w hv hl hb
end Go.Proofs.YtlhkaoccnpgkeaaGreat
namespace Go.Proofs.YtlhkaoccnpgkeaaGreat
open Go.RowKit
set_option linter.unusedVariables false
set_option linter.unusedSimpArgs false
theorem lit_ints (w : World) (xs : List Int) (n : Nat) (hn : xs.length = n) (cs : Array Value) (hcs : cs = (xs.map (Value.int .i64)).toArray) (h100 : n ≤ 100) : IsInts .i64 (w.alloc (.cells cs 3)) (.slice (some ⟨w.heap.size, 0, none⟩) n n) xs := by
  subst hcs
  subst hn
  refine IsInts.owned (base := w.heap.size) (e := 3) (n := xs.length) ?_
  have := own_lit w w.heap.size w.heap.size 3 1 xs.length (xs.map (Value.int .i64)).toArray rfl (Nat.le_refl _) (by unfold maxLen; omega) (by simp)
  simpa using this
theorem lit_rows (w : World) (vs : List Value) (o : List (List Int)) (n : Nat) (hn : o.length = n) (hv : vs.length = n) (cs : Array Value) (hcs : cs = vs.toArray) (h100 : n ≤ 100) (h : ∀ i, i < n → IsInts .u8 w (vs.getD i (.slice none 0 0)) (o.getD i [])) : IsBs (w.alloc (.cells cs 29)) (.slice (some ⟨w.heap.size, 0, none⟩) n n) o := by
  subst hcs
  subst hn
  exact ⟨vs, Reads.made w w.heap.size 1 o.length vs 29 rfl (by omega) (by unfold maxLen; omega), fun i hi => (h i hi).kp (S := []) ((Kp.refl _ _).alloc _) (by simp)⟩
/-- The same, whatever the block's number is written like, and further on. -/
theorem lit_at (w : World) (g : Nat) (hg : g = w.heap.size) (xs : List Int) (n : Nat) (hn : xs.length = n) (cs : Array Value) (hcs : cs = (xs.map (Value.int .i64)).toArray) (h100 : n ≤ 100) (W : World) (hk : Kp [] (w.alloc (.cells cs 3)) W) : IsInts .i64 W (.slice (some ⟨g, 0, none⟩) n n) xs := by
  subst hg
  exact (lit_ints w xs n hn cs hcs h100).kp hk (by simp)
theorem rows_at (w : World) (g : Nat) (hg : g = w.heap.size) (vs : List Value) (o : List (List Int)) (n : Nat) (hn : o.length = n) (hv : vs.length = n) (cs : Array Value) (hcs : cs = vs.toArray) (h100 : n ≤ 100) (h : ∀ i, i < n → IsInts .u8 w (vs.getD i (.slice none 0 0)) (o.getD i [])) (W : World) (hk : Kp [] (w.alloc (.cells cs 29)) W) : IsBs W (.slice (some ⟨g, 0, none⟩) n n) o := by
  subst hg
  exact (lit_rows w vs o n hn hv cs hcs h100 h).kp0 hk
set_option maxRecDepth 100000 in
theorem growB_calls (n : Nat) (h1 : 1 ≤ n) (h2 : n ≤ 1048576) (w : World) :
    Calls Tryz.prog 66 #[.slice none 0 0, .int .i64 n] w fun e w' => ∃ c, e = .returned (.slice (some ⟨w.heap.size, 0, none⟩) 0 c) ∧ w'.ownsRow w.heap.size 5 1 (.slice (some ⟨w.heap.size, 0, none⟩) 0 c) 0 [] ∧ Kp [] w w' := by
  obtain ⟨i, hi, hz, hsize, hby⟩ := info_parts infoByte
  have happ := Lib.run_append_nil_zeros (P := Tryz.prog) w 29 3 29 5 i (.int .u8 0) .i64 .i64 Tryz.underlying29 Tryz.underlying3 hi hz n (by omega) (by omega) (by omega) (by rw [hby]; omega)
  clear hi hz hsize hby
  generalize hcap : grownCap w n 0 5 = cap at happ
  have hge : n ≤ cap := by rw [← hcap]; exact grownCap_ge w _ 0 _
  have hle : cap ≤ maxLen := by rw [← hcap]; exact grownCap_le_maxLen w _ 0 _ (by unfold maxLen; omega)
  generalize hZ : (Builtin.zeroCells (Value.int .u8 0).cells n ++ Builtin.zeroCells (Value.int .u8 0).cells (cap - n)) = Z at happ
  have hZs : Z.size = cap := by rw [← hZ]; simp [size_zeroCells, Value.cells]; omega
  clear hcap hZ
  have hfin := Lib.hid (show (w.drew.alloc (.cells Z 5)).ownsRow w.heap.size 5 1 (.slice (some ⟨w.heap.size, 0, none⟩) 0 cap) 0 [] ∧ Kp [] w (w.drew.alloc (.cells Z 5)) from ⟨⟨rfl, .inr ⟨w.heap.size, cap, Z, rfl, Nat.le_refl _, heap_alloc_new w.drew _, by simp, hle, by omega, by simp⟩⟩, (Kp.refl _ _).drew.alloc _⟩)
  clear hZs
  have hn0 : ¬ ((n : Int) < 0) := by omega
  have hn1 : (0 : Int) < n := by omega
  have hci : (0 : Int) ≤ cap := by omega
  go_enter Tryz.func66, Tryz.ntmps66
  go_wp2_with (at_builtin; refine Lib.wpList_append_run _ rfl _ _ _ _ rfl _ _ rfl rfl _ _ happ ?_)
  go_ret
  exact ⟨_, rfl, hfin.out⟩
set_option maxRecDepth 100000 in
set_option maxHeartbeats 4000000 in
theorem concatB_calls (v : Value) (o : List (List Int)) (w : World) (hv : IsBs w v o) (h1 : 1 ≤ o.flatten.length) (h2 : o.flatten.length ≤ 1048576) :
    Calls Tryz.prog 22 #[v] w fun e w' => ∃ v', e = .returned v' ∧ OwnB w' w.heap.size v' o.flatten ∧ Kp [] w w' := by
  have HV := Lib.hid (fun W (hk : Kp [] w W) => hv.kp0 hk)
  have hle : o.length ≤ 9223372036854775807 := by
    obtain ⟨vs, h1, _⟩ := hv
    rcases h1.2 with ⟨_, h0⟩ | ⟨g, off, c, _, h3, h4, _⟩
    · omega
    · unfold maxLen at h4; omega
  have HS : Hid (∀ j, j < o.length → sumL o (j + 1) = sumL o j + (o.getD j []).length) := fun j hj => sumL_succ o hj
  have HLE : Hid (∀ j, j ≤ o.length → sumL o j ≤ 1048576) := fun j hj => by
    have h5 := sumL_le o (o.length - j) j
    rw [Nat.add_sub_cancel' hj, sumL_all] at h5
    omega
  have HA : Hid (sumL o o.length = o.flatten.length) := sumL_all o
  have HFS : Hid (∀ j, j < o.length → (o.take (j + 1)).flatten = (o.take j).flatten ++ o.getD j []) := fun j hj => flat_step o hj
  have HTF : Hid (o.take o.length = o) := List.take_length
  have HFL : Hid (∀ j, (o.take j).flatten.length = sumL o j) := fun j => rfl
  have H1 := Lib.hid h1
  have H2 := Lib.hid h2
  obtain ⟨pa, ca, rfl⟩ := hv.form
  obtain ⟨N, hN⟩ : ∃ N, o.length = N := ⟨_, rfl⟩
  have HN := Lib.hid hN
  rw [hN] at HV HS HLE HA HFS HTF hle ⊢
  have H0 : Hid (sumL o 0 = 0) := rfl
  clear hv hN h1 h2
  generalize sumL o = SM at *
  go_enter Tryz.func22, Tryz.ntmps22
  go_wp2_with fail
  go_loopw [3, 11] (fun sz i wr => ∃ j : Nat, j ≤ N ∧ i = .int .i64 j ∧ sz = .int .i64 (SM j : Nat) ∧ w = wr) (fun _ i _ => N - (intOf i).toNat)
  case atStart => exact ⟨0, by omega, rfl, by rw [H0.out]; rfl, rfl⟩
  case round =>
    obtain ⟨j, hj, rfl, rfl, rfl⟩ := hrel
    by_cases hlt : j < N
    · have hjo : j < o.length := by rw [HN.out]; exact hlt
      obtain ⟨g1, o1, c1, p1, cv, e1, _, _, hc1, hi1⟩ := (HV.out _ (Kp.refl _ _)).row hjo
      rw [HN.out] at e1
      cases e1
      have HST := Lib.hid (HS.out j hlt)
      have HX := Lib.hid (HLE.out (j + 1) (by omega))
      generalize o.getD j [] = G at *
      generalize hGl : G.length = GL at *
      have hw9 : wrap64 ((SM j : Int) + (GL : Int)) = (SM j : Int) + (GL : Int) := ix_w _ _ _ HST.out HX.out
      have hn0 : decide ((SM j : Int) + (GL : Int) < 0) = false := decide_eq_false (by omega)
      clear hi1 hjo hGl
      go_wp2_with fail
      go_roundw
      case rel => exact ⟨j + 1, hlt, by go_num, int_eq' (by have := HST.out; omega), by first | rfl | trivial⟩
      case measure => simp [intOf] <;> omega
    · obtain rfl : N = j := by omega
      have HG := Lib.hid (growB_calls (SM N) (by rw [HA.out]; exact H1.out) (by rw [HA.out]; exact H2.out) w)
      clear hlt hj
      go_wp2_with fail
      refine HG.out.mono ?_; rintro e w1 ⟨c1, rfl, ho1, hk1⟩
      have HS0 : Hid (∃ c, (.slice (some ⟨w.heap.size, 0, none⟩) 0 c1 : Value) = .slice (some ⟨w.heap.size, 0, none⟩) 0 c ∧ w1.ownsRow w.heap.size 5 1 (.slice (some ⟨w.heap.size, 0, none⟩) 0 c) 0 []) := ⟨c1, rfl, ho1⟩
      have hat : OwnB w1 w.heap.size (.slice (some ⟨w.heap.size, 0, none⟩) 0 c1) (o.take 0).flatten := by simpa [OwnB] using ho1
      have HAT := Lib.hid hat
      clear ho1 hat HG HS0
      go_wp2_with fail
      go_loopw [6, 27] (fun v i wi => ∃ (j : Nat) (pv : Option Addr) (cv : Nat), j ≤ N ∧ i = .int .i64 j ∧ v = .slice pv (SM j) cv ∧ Hid (OwnB wi w.heap.size (.slice pv (SM j) cv) (o.take j).flatten) ∧ Hid (Kp [] w wi)) (fun _ i _ => N - (intOf i).toNat)
      case atStart => exact ⟨0, some ⟨w.heap.size, 0, none⟩, c1, by omega, rfl, by rw [H0.out], by rw [H0.out]; exact HAT, hk1⟩
      case round =>
        obtain ⟨j, pv, cv, hj, rfl, rfl, HO, HK⟩ := hrel
        by_cases hlt : j < N
        · have hjo : j < o.length := by rw [HN.out]; exact hlt
          obtain ⟨g1, o1, c1, p1, cv1, e1, _, _, hc1, hi1⟩ := (HV.out _ HK.out).row hjo
          rw [HN.out] at e1
          cases e1
          have HST := Lib.hid (HS.out j hlt)
          have HX := Lib.hid (HLE.out (j + 1) (by omega))
          have hfj := HFS.out j hlt
          have hlj := HFL.out j
          generalize (o.take j).flatten = T at *
          have HFJ := Lib.hid hfj
          have HLJ := Lib.hid hlj
          clear hfj hlj
          have HI := Lib.hid hi1
          have hsz := HK.out.size
          generalize o.getD j [] = G at *
          generalize hGl : G.length = GL at *
          have HGL := Lib.hid hGl
          clear hi1 hjo hGl
          go_wp2_with (at_builtin; refine wpList_appM rfl _ _ 29 5 .u8 1 Tryz.underlying29 infoByte (by decide) rfl w.heap.size (.slice pv (SM j) cv) T (SM j) HLJ.out rfl ?hown (.slice p1 GL cv1) G rfl HI.out ?hb1 hsz ?hk)
          case hown => have := HO.out; unfold OwnB at this; rw [HLJ.out] at this; exact this
          case hb1 => have := HST.out; have := HX.out; have := HGL.out; omega
          case hk =>
          intro v1 w2 hown hk2 _
          have HO2 : Hid (OwnB w2 w.heap.size v1 (o.take (j + 1)).flatten) := by
            show OwnB _ _ _ _
            unfold OwnB
            rw [HFJ.out, List.length_append, HLJ.out, List.map_append]
            exact hown
          have HK2 : Hid (Kp [] w w2) := HK.out.trans' hk2 (fun t ht => .inr (by have := own_ge HO.out t (by simpa using ht); exact this))
          obtain ⟨pv1, cv1, rfl⟩ := slice_own hown
          have hl1 : SM j + G.length = SM (j + 1) := by rw [HGL.out, HST.out]
          rw [hl1] at HO2 ⊢
          clear hown hk2 hl1 HO HK hsz
          go_wp2_with fail
          go_roundw
          case rel => first | exact ⟨j + 1, pv1, cv1, hlt, int_eq' (by first | rfl | simp), rfl, HO2, HK2⟩ | ((repeat apply Exists.intro); exact ⟨⟨j + 1, pv1, cv1, hlt, int_eq' (by first | rfl | simp), rfl, HO2, HK2⟩, rfl⟩)
          case measure => simp [intOf] <;> omega
        · obtain rfl : N = j := by omega
          rw [HTF.out] at HO
          go_wp2_with fail
          go_ret
          exact ⟨_, rfl, HO.out, HK.out⟩
/-- The top DICT. -/
def topB (cid : Bool) (names codes : Nat) (fam : List Int) : List Int := (if cid then sayB 3102 [0, 0, 0] else []) ++ (sayB 15 [(names : Int)] ++ (sayB 17 [(codes : Int)] ++ fam))
set_option maxRecDepth 100000 in
set_option maxHeartbeats 4000000 in
theorem top_calls (cid : Bool) (names codes : Nat) (hn : names ≤ 4294967296) (hc : codes ≤ 4294967296) (v : Value) (fam : List Int) (w : World) (hv : IsInts .u8 w v fam) (hl : fam.length ≤ 1000) :
    Calls Tryz.prog 23 #[.bool cid, .int .i64 (names : Nat), .int .i64 (codes : Nat), v] w fun e w' => ∃ v', e = .returned v' ∧ OwnB w' w.heap.size v' (topB cid names codes fam) ∧ Kp [] w w' := by
  have HV := Lib.hid (fun W (hk : Kp [] w W) => hv.kp hk (by simp))
  have HL := Lib.hid hl
  obtain ⟨p, c, rfl⟩ := hv.form
  have HS1 := Lib.hid (fun (W : World) (V : Value) (h : IsInts .i64 W V [(names : Int)]) => say_calls 15 (by decide) V [(names : Int)] W h (by simp) (by intro x hx; simp at hx; omega))
  have HS2 := Lib.hid (fun (W : World) (V : Value) (h : IsInts .i64 W V [(codes : Int)]) => say_calls 17 (by decide) V [(codes : Int)] W h (by simp) (by intro x hx; simp at hx; omega))
  have HS3 := Lib.hid (fun (W : World) (V : Value) (h : IsInts .i64 W V [0, 0, 0]) => say_calls 3102 (by decide) V [0, 0, 0] W h (by simp) (by intro x hx; simp at hx; omega))
  have HT : Hid (topB cid names codes fam = (if cid then sayB 3102 [0, 0, 0] else []) ++ [sayB 15 [(names : Int)], sayB 17 [(codes : Int)], fam].flatten) := by show _ = _; simp [topB]
  have HL1 : Hid ((sayB 15 [(names : Int)]).length = 6) := by show _ = _; rw [sayB_length]; rfl
  have HL2 : Hid ((sayB 17 [(codes : Int)]).length = 6) := by show _ = _; rw [sayB_length]; rfl
  have HL3 : Hid ((sayB 3102 [0, 0, 0]).length = 17) := by show _ = _; rw [sayB_length]; rfl
  generalize topB cid names codes fam = R at *
  generalize sayB 15 [(names : Int)] = A1 at *
  generalize sayB 17 [(codes : Int)] = A2 at *
  generalize sayB 3102 [0, 0, 0] = A3 at *
  clear hv hl
  have HF : Hid (∀ W W' V, Kp [] W W' → OwnB W w.heap.size V R → OwnB W' w.heap.size V R) := fun _ _ _ hk h => h.kp0 hk
  go_enter Tryz.func23, Tryz.ntmps23
  go_wp2_with fail
  refine (HS1.out _ _ (lit_ints w [(names : Int)] 1 rfl _ rfl (by decide))).mono ?_; rintro e w1 ⟨v1, rfl, h1, k1⟩
  obtain ⟨p1, c1, rfl⟩ := h1.form
  have H1 := Lib.hid h1
  have K1 : Hid (Kp [] w w1) := ((Kp.refl _ _).alloc _).trans k1
  clear h1 k1
  go_wp2_with fail
  refine (HS2.out _ _ (lit_ints w1 [(codes : Int)] 1 rfl _ rfl (by decide))).mono ?_; rintro e w2 ⟨v2, rfl, h2, k2⟩
  have K2 : Hid (Kp [] w1 w2) := ((Kp.refl _ _).alloc _).trans k2
  obtain ⟨p2, c2, rfl⟩ := h2.form
  have H2 := Lib.hid h2
  clear h2 k2
  have HCO := Lib.hid (concatB_calls _ _ _ (lit_rows w2 [.slice p1 A1.length c1, .slice p2 A2.length c2, .slice p fam.length c] [A1, A2, fam] 3 rfl rfl _ rfl (by decide) (fun i hi => by
    rcases (show i = 0 ∨ i = 1 ∨ i = 2 by omega) with rfl | rfl | rfl
    · exact (H1.out.kp0 K2.out).ints
    · exact H2.out.ints
    · exact HV.out _ (K1.out.trans K2.out))) (by simp only [List.flatten_cons, List.length_append, HL1.out]; omega) (by simp only [List.flatten_cons, List.flatten_nil, List.append_nil, List.length_append, HL1.out, HL2.out]; have := HL.out; omega))
  go_wp2_with fail
  refine HCO.out.mono ?_; rintro e w3 ⟨v3, rfl, h3, k3⟩
  have K3 : Hid (Kp [] w w3) := (K1.out.trans K2.out).trans (((Kp.refl _ _).alloc _).trans k3)
  have H3 : Hid (OwnB w3 w.heap.size v3 [A1, A2, fam].flatten) := h3.base (by have := K1.out.size; have := K2.out.size; simp; omega)
  clear h3 k3 HCO
  cases cid with
  | false =>
    go_wp2_with fail
    go_ret
    exact ⟨v3, rfl, by rw [HT.out]; exact H3.out, K3.out⟩
  | true =>
    have HX : Hid (R = A3 ++ [A1, A2, fam].flatten) := HT.out
    clear HT
    go_wp2_with fail
    refine (HS3.out _ _ (lit_ints w3 [0, 0, 0] 3 rfl _ rfl (by decide))).mono ?_; rintro e w4 ⟨v4, rfl, h4, k4⟩
    have K4 : Hid (Kp [] w3 w4) := ((Kp.refl _ _).alloc _).trans k4
    have H4 : Hid (OwnB w4 w.heap.size v4 A3) := h4.base (by have := K3.out.size; simp; omega)
    have HI3 := Lib.hid (H3.out.kp0 K4.out).ints
    have hsz := (K3.out.trans K4.out).size
    clear h4 k4
    go_wp2_with (at_builtin; refine wpList_appM rfl _ _ 29 5 .u8 1 Tryz.underlying29 infoByte (by decide) rfl w.heap.size v4 A3 A3.length rfl rfl H4.out v3 _ rfl HI3.out ?hb1 hsz ?hk)
    case hb1 => simp only [List.flatten_cons, List.flatten_nil, List.append_nil, List.length_append, HL1.out, HL2.out, HL3.out]; have := HL.out; omega
    case hk =>
    intro v5 w5 hown hk5 _
    have HO5 : Hid (OwnB w5 w.heap.size v5 R) := by
      show OwnB _ _ _ _
      rw [HX.out]
      simpa [OwnB] using hown
    have HK5 : Hid (Kp [] w w5) := (K3.out.trans K4.out).trans' hk5 (fun t ht => .inr (by have := own_ge H4.out t (by simpa using ht); exact this))
    clear hown hk5
    go_wp2_with fail
    go_ret
    exact ⟨v5, rfl, HO5.out, HK5.out⟩
end Go.Proofs.YtlhkaoccnpgkeaaGreat
namespace Go.Proofs.YtlhkaoccnpgkeaaGreat
open Go.RowKit
set_option linter.unusedVariables false
set_option linter.unusedSimpArgs false
/-- The error's number of a flag. -/
def eN (f : Bool) : Int := if f then 3 else 0
/-- What is being built. -/
def Bld (w : World) (x : Nat) (v : Value) (acc : List Int) (f : Bool) : Prop :=
  w.heap[x]? = some (.cells #[v, .int .i64 (eN f)] 62 (0, 0)) ∧ OwnB w (x + 1) v acc ∧ x < w.heap.size
theorem Bld.facts {w : World} {x : Nat} {v : Value} {acc : List Int} {f : Bool} (h : Bld w x v acc f) :
    w.cell? ⟨x, 0, none⟩ = some v ∧ w.cell? ⟨x, 1, none⟩ = some (.int .i64 (eN f)) ∧ w.frozen? ⟨x, 0, none⟩ = false ∧ w.frozen? ⟨x, 1, none⟩ = false :=
  ⟨by rw [cell_of_row w x 0 _ _ _ h.1]; rfl, by rw [cell_of_row w x 1 _ _ _ h.1]; rfl, frozen_of_row w x 0 _ _ h.1, frozen_of_row w x 1 _ _ h.1⟩
theorem Bld.kp0 {w w' : World} {x : Nat} {v : Value} {acc : List Int} {f : Bool} (h : Bld w x v acc f) (hk : Kp [] w w') : Bld w' x v acc f :=
  ⟨hk.heap h.1 (by simp), h.2.1.kp0 hk, Nat.lt_of_lt_of_le h.2.2 hk.size⟩
/-- The flag behind an add. -/
def addF (f : Bool) (n : Nat) (e : Int) : Bool := f || (e != 0) || decide (1048576 < n)
theorem Bld.set1 {w : World} {x : Nat} {v : Value} {acc : List Int} {f : Bool} (h : Bld w x v acc f) (g : Bool) : Bld (w.setCell ⟨x, 1, none⟩ (.int .i64 (eN g))) x v acc g ∧ Kp [x] w (w.setCell ⟨x, 1, none⟩ (.int .i64 (eN g))) := by
  have hk : Kp [x] w (w.setCell ⟨x, 1, none⟩ (.int .i64 (eN g))) := (Kp.refl _ _).setCell (.inl (by simp)) _
  exact ⟨⟨heap_setCell_same w x 1 _ _ _ h.1, hk.row h.2.1 (by intro s hs e; simp at hs; subst hs; have := own_ge h.2.1 _ e; omega), Nat.lt_of_lt_of_le h.2.2 hk.size⟩, hk⟩
set_option maxRecDepth 100000 in
set_option maxHeartbeats 4000000 in
theorem add_calls (x : Nat) (v : Value) (acc : List Int) (f : Bool) (b : Value) (zs : List Int) (e0 : Bool) (w : World) (h : Bld w x v acc f) (hb : IsInts .u8 w b zs) (hl : acc.length + zs.length ≤ 1073741824) :
    Calls Tryz.prog 67 #[.pointer (some ⟨x, 0, none⟩), b, .int .i64 (eN e0)] w fun e w' => e = .returned (.int .i64 (acc.length : Nat)) ∧ ∃ v', Bld w' x v' (acc ++ zs) (addF f (acc ++ zs).length (eN e0)) ∧ WK w w' x v v' := by
  obtain ⟨c0, c1, f0, f1⟩ := h.facts
  have hxs := h.2.2
  have H := Lib.hid h
  have HB := Lib.hid hb
  have hle : (acc.length + zs.length) * 1 ≤ 140737488355328 := by omega
  have HL := Lib.hid hl
  obtain ⟨p, c, rfl⟩ := h.2.1.form
  obtain ⟨pb, cb, rfl⟩ := hb.form
  clear h hb hl
  go_enter Tryz.func67, Tryz.ntmps67
  go_wp2_with (at_builtin; go_loud (refine wpList_appM rfl _ _ 29 5 .u8 1 Tryz.underlying29 infoByte (by decide) rfl (x + 1) (.slice p acc.length c) acc acc.length rfl rfl H.out.2.1 (.slice pb zs.length cb) zs rfl HB.out hle (by omega) ?hk))
  intro v1 w1 hown hk1 hat
  have c0' : w1.cell? ⟨x, 0, none⟩ = some (.slice p acc.length c) := hk1.cell c0 (by intro hm; have := own_ge H.out.2.1 x (by simpa using hm); omega)
  have hb1 : w1.heap[x]? = some (.cells #[.slice p acc.length c, .int .i64 (eN f)] 62 (0, 0)) := hk1.heap H.out.1 (by intro hm; have := own_ge H.out.2.1 x (by simpa using hm); omega)
  have f0' : w1.frozen? ⟨x, 0, none⟩ = false := frozen_of_row w1 x 0 _ _ hb1
  have hsz := hk1.size
  have HW : Hid (Bld (w1.setCell ⟨x, 0, none⟩ v1) x v1 (acc ++ zs) f ∧ WK w (w1.setCell ⟨x, 0, none⟩ v1) x (.slice p acc.length c) v1) := by
    have hk2 : Kp [x] w1 (w1.setCell ⟨x, 0, none⟩ v1) := (Kp.refl _ _).setCell (.inl (by simp)) _
    refine ⟨⟨heap_setCell_same w1 x 0 _ _ _ hb1, ?_, Nat.lt_of_lt_of_le (by omega) hk2.size⟩, ?_, hat⟩
    · have := hk2.row hown (by intro s hs e; simp at hs; subst hs; have := own_ge hown _ e; omega)
      unfold OwnB
      rw [List.length_append]
      rw [List.map_append]
      exact this
    · exact (hk1.more (fun s hs => .inl (List.mem_cons_of_mem _ hs))).trans (hk2.more (fun s hs => .inl (by simp at hs; simp [hs])))
  obtain ⟨p1, c1', rfl⟩ := slice_own hown
  have d1 : w1.cell? ⟨x, 1, none⟩ = some (.int .i64 (eN f)) := by rw [cell_of_row w1 x 1 _ _ _ hb1]; rfl
  have f1' : w1.frozen? ⟨x, 1, none⟩ = false := frozen_of_row w1 x 1 _ _ hb1
  clear c0 c1 f0 f1 hown hk1 hat hb1
  obtain ⟨w2, hw2⟩ : ∃ w2, w1.setCell ⟨x, 0, none⟩ (.slice p1 (acc.length + zs.length) c1') = w2 := ⟨_, rfl⟩
  have HW2 := Lib.hid hw2
  rw [hw2] at HW
  clear hw2
  have hlen : (acc ++ zs).length = acc.length + zs.length := List.length_append
  cases f with
  | true =>
    have HF : Hid (addF true (acc ++ zs).length (eN e0) = true) := by show _ = _; simp [addF]
    have c1x : w1.cell? ⟨x, 1, none⟩ = some (.int .i64 3) := d1
    clear d1
    go_wp2_with fail
    go_ret
    rw [HF.out, HW2.out]
    exact ⟨rfl, _, HW.out.1, HW.out.2⟩
  | false =>
    have c1x : w1.cell? ⟨x, 1, none⟩ = some (.int .i64 0) := d1
    clear d1
    have HS := Lib.hid (HW.out.1.set1 e0)
    cases e0 with
    | true =>
      have HF : Hid (addF false (acc ++ zs).length (eN true) = true) := by show _ = _; simp [addF, eN]
      have HK : Hid (WK w (w2.setCell ⟨x, 1, none⟩ (.int .i64 3)) x (.slice p acc.length c) (.slice p1 (acc.length + zs.length) c1')) := ⟨HW.out.2.1.trans (HS.out.2.more (fun s hs => .inl (by simp at hs; simp [hs]))), HW.out.2.2⟩
      go_wp2_with fail
      go_ret
      rw [HF.out, HW2.out]
      exact ⟨rfl, _, HS.out.1, HK.out⟩
    | false =>
      have HK : Hid (WK w (w2.setCell ⟨x, 1, none⟩ (.int .i64 0)) x (.slice p acc.length c) (.slice p1 (acc.length + zs.length) c1')) := ⟨HW.out.2.1.trans (HS.out.2.more (fun s hs => .inl (by simp at hs; simp [hs]))), HW.out.2.2⟩
      by_cases hbig : 1048576 < acc.length + zs.length
      · have hd : decide ((1048576 : Int) < (acc.length : Int) + (zs.length : Int)) = true := decide_eq_true (by omega)
        have hd2 : decide ((1048576 : Int) < ((acc.length + zs.length : Nat) : Int)) = true := decide_eq_true (by omega)
        have HF : Hid (addF false (acc ++ zs).length (eN false) = true) := by show _ = _; rw [hlen]; simp [addF, hbig]
        have HS3 := Lib.hid (HS.out.1.set1 true)
        have HK3 : Hid (WK w ((w2.setCell ⟨x, 1, none⟩ (.int .i64 0)).setCell ⟨x, 1, none⟩ (.int .i64 3)) x (.slice p acc.length c) (.slice p1 (acc.length + zs.length) c1')) := ⟨HK.out.1.trans (HS3.out.2.more (fun s hs => .inl (by simp at hs; simp [hs]))), HK.out.2⟩
        clear hbig hlen
        go_wp2_with fail
        go_ret
        rw [HF.out, HW2.out]
        exact ⟨rfl, _, HS3.out.1, HK3.out⟩
      · have hd : decide ((1048576 : Int) < (acc.length : Int) + (zs.length : Int)) = false := decide_eq_false (by omega)
        have hd2 : decide ((1048576 : Int) < ((acc.length + zs.length : Nat) : Int)) = false := decide_eq_false (by omega)
        have HF : Hid (addF false (acc ++ zs).length (eN false) = false) := by show _ = _; rw [hlen]; simp [addF, eN]; omega
        clear hbig hlen
        go_wp2_with fail
        go_ret
        rw [HF.out, HW2.out]
        exact ⟨rfl, _, HS.out.1, HK.out⟩
end Go.Proofs.YtlhkaoccnpgkeaaGreat
namespace Go.Proofs.YtlhkaoccnpgkeaaGreat
open Go.RowKit
set_option linter.unusedVariables false
set_option linter.unusedSimpArgs false
theorem Bld.kpw {a w wr : World} {x : Nat} {v v' : Value} {acc : List Int} {f : Bool} (hs : Bld w x v acc f) (h : WK w wr x v v') (ha : Kp [] a w) (hr : a.heap.size ≤ x) : Kp [] a wr := by
  refine ha.trans' h.1 ?_
  intro t ht
  rcases List.mem_cons.1 ht with rfl | ht
  · exact .inr hr
  · cases hv : v.ownBlock with
    | none => simp [hv] at ht
    | some b => simp [hv] at ht; subst ht; exact .inr (by have := own_ge hs.2.1 _ hv; omega)
theorem WK.of0 {w w' : World} {x : Nat} {v : Value} (h : Kp [] w w') : WK w w' x v v := ⟨h.more (fun s hs => nomatch hs), fun k hk => .inl hk⟩
/-- A family: subroutines, two widths. -/
structure Fam where
  l : List (List Int)
  d : Int
  n : Int
def prvD (f : Fam) : List Int := sayB 20 [f.d] ++ sayB 21 [f.n] ++ (if f.l = [] then [] else sayB 19 [18])
def prvL (f : Fam) : List Int := if f.l = [] then [] else (putM f.l).1
/-- Is it too long? -/
def putF (o : List (List Int)) : Bool := (putM o).2 != 0
theorem putM_e (o : List (List Int)) : (putM o).2 = eN (putF o) := by
  unfold putF
  have h : (putM o).2 = 0 ∨ (putM o).2 = 3 := by unfold putM; (repeat' split) <;> simp
  rcases h with h | h <;> rw [h] <;> rfl
theorem putM_len (o : List (List Int)) : (putM o).1.length ≤ 1048576 := by
  unfold putM
  (repeat' split) <;> simp
  omega
/-- The flag behind a family. -/
def prvF (acc : List Int) (f : Fam) : Bool := if f.l = [] then addF false (acc ++ prvD f).length 0 else addF (addF false (acc ++ prvD f).length 0) (acc ++ prvD f ++ prvL f).length (eN (putF f.l))
def entB (acc : List Int) (f : Fam) : List Int := sayB 18 [((prvD f).length : Int), (acc.length : Int)]
theorem prvD_len (f : Fam) : (prvD f).length = if f.l = [] then 12 else 18 := by
  unfold prvD
  by_cases h : f.l = []
  · rw [if_pos h, if_pos h]; simp [sayB_length]
  · rw [if_neg h, if_neg h]; simp [sayB_length]
theorem w64i (x : Int) (h1 : -9223372036854775808 ≤ x) (h2 : x ≤ 9223372036854775807) : IntKind.i64.wrap x = x := by rw [IntKind.wrap_i64]; omega
set_option maxRecDepth 100000 in
set_option maxHeartbeats 8000000 in
theorem private_calls (x : Nat) (v : Value) (acc : List Int) (lv : Value) (f : Fam) (w u0 : World) (hu : Kp [] u0 w) (hux : u0.heap.size ≤ x) (h : Bld w x v acc false) (hlv : IsBs u0 lv f.l) (hd : -9223372036854775808 ≤ f.d ∧ f.d ≤ 9223372036854775807) (hn : -9223372036854775808 ≤ f.n ∧ f.n ≤ 9223372036854775807) (hl : acc.length ≤ 1048576) :
    Calls Tryz.prog 68 #[.pointer (some ⟨x, 0, none⟩), .agg #[lv, .int .i64 f.d, .int .i64 f.n]] w fun e w' => ∃ u v', e = .returned u ∧ OwnB w' w.heap.size u (entB acc f) ∧ Bld w' x v' (acc ++ prvD f ++ prvL f) (prvF acc f) ∧ WK w w' x v v' ∧ ∀ k, u.ownBlock = some k → v'.ownBlock ≠ some k := by
  obtain ⟨o, d, n⟩ := f
  simp only at hlv hd hn ⊢
  obtain ⟨hd1, hd2⟩ := hd
  obtain ⟨hn1, hn2⟩ := hn
  have H := Lib.hid h
  have HLV := Lib.hid (fun W (hk : Kp [] u0 W) => hlv.kp0 hk)
  have HUX := Lib.hid hux
  have HU0 := Lib.hid hu
  clear hu hux
  have hle : o.length ≤ 9223372036854775807 := by
    obtain ⟨vs, h1, _⟩ := hlv
    rcases h1.2 with ⟨_, h0⟩ | ⟨g, off, c, _, h3, h4, _⟩
    · omega
    · unfold maxLen at h4; omega
  obtain ⟨pl, cl, rfl⟩ := hlv.form
  have HS1 := Lib.hid (fun (W : World) (V : Value) (h : IsInts .i64 W V [d]) => say_at 20 20 rfl (by decide) V [d] W h (by simp) (by intro x hx; simp at hx; omega))
  have HS2 := Lib.hid (fun (W : World) (V : Value) (h : IsInts .i64 W V [n]) => say_at 21 21 rfl (by decide) V [n] W h (by simp) (by intro x hx; simp at hx; omega))
  have HS3 := Lib.hid (fun (W : World) (V : Value) (h : IsInts .i64 W V [18]) => say_at 19 19 rfl (by decide) V [18] W h (by simp) (by intro x hx; simp at hx; omega))
  have HL1 : Hid ((sayB 20 [d]).length = 6) := by show _ = _; rw [sayB_length]; rfl
  have HL2 : Hid ((sayB 21 [n]).length = 6) := by show _ = _; rw [sayB_length]; rfl
  have HL3 : Hid ((sayB 19 [18]).length = 6) := by show _ = _; rw [sayB_length]; rfl
  have HP0 : Hid (o = [] → prvD ⟨o, d, n⟩ = sayB 20 [d] ++ sayB 21 [n] ∧ prvL ⟨o, d, n⟩ = [] ∧ prvF acc ⟨o, d, n⟩ = addF false (acc ++ (sayB 20 [d] ++ sayB 21 [n])).length 0) := fun e => by
    have e1 : prvD ⟨o, d, n⟩ = sayB 20 [d] ++ sayB 21 [n] := by simp [prvD, e]
    exact ⟨e1, by simp [prvL, e], by unfold prvF; rw [if_pos e, e1]⟩
  have HP1 : Hid (o ≠ [] → prvD ⟨o, d, n⟩ = sayB 20 [d] ++ sayB 21 [n] ++ sayB 19 [18] ∧ prvL ⟨o, d, n⟩ = (putM o).1 ∧ prvF acc ⟨o, d, n⟩ = addF (addF false (acc ++ (sayB 20 [d] ++ sayB 21 [n] ++ sayB 19 [18])).length 0) (acc ++ (sayB 20 [d] ++ sayB 21 [n] ++ sayB 19 [18]) ++ (putM o).1).length (eN (putF o))) := fun e => by
    have e1 : prvD ⟨o, d, n⟩ = sayB 20 [d] ++ sayB 21 [n] ++ sayB 19 [18] := by simp [prvD, e]
    have e2 : prvL ⟨o, d, n⟩ = (putM o).1 := by simp [prvL, e]
    exact ⟨e1, e2, by unfold prvF; rw [if_neg e, e1, e2]⟩
  have HEN : Hid (entB acc ⟨o, d, n⟩ = sayB 18 [((prvD ⟨o, d, n⟩).length : Int), (acc.length : Int)]) := rfl
  generalize entB acc ⟨o, d, n⟩ = EN at *
  generalize prvF acc ⟨o, d, n⟩ = PF at *
  generalize prvL ⟨o, d, n⟩ = PL at *
  generalize prvD ⟨o, d, n⟩ = PD at *
  generalize sayB 20 [d] = A1 at *
  generalize sayB 21 [n] = A2 at *
  generalize sayB 19 [18] = A3 at *
  have HLA := Lib.hid hl
  have hxs := h.2.2
  clear h hlv hl
  go_enter Tryz.func68, Tryz.ntmps68
  go_upto_region 1 with fail
  go_cut [5] (fun s5 wx => ∃ p5 c5, s5 = .slice p5 12 c5 ∧ Hid (OwnB wx (w.heap.size + 1) (.slice p5 12 c5) (A1 ++ A2)) ∧ Hid (Kp [] w wx) ∧ wx.heap[w.heap.size]? = some (.cells #[.slice pl o.length cl, .int .i64 d, .int .i64 n] 54 (0, 0)))
  case first =>
    refine wp_gen ?_; intro W0 hW0
    have hk0 : Kp [] w W0 := by rw [hW0]; exact (Kp.refl _ _).alloc _
    have hsz : W0.heap.size = w.heap.size + 1 := by rw [hW0]; simp
    have hbx : W0.heap[w.heap.size]? = some (.cells #[.slice pl o.length cl, .int .i64 d, .int .i64 n] 54 (0, 0)) := by rw [hW0]; exact heap_alloc_new w _
    have HBX := Lib.hid (fun W (hk : Kp [] W0 W) => hk.heap hbx (by simp))
    have HKC : Hid (∀ w', Kp [] W0 w' → w'.cell? ⟨w.heap.size, 1, none⟩ = some (.int .i64 d) ∧ w'.cell? ⟨w.heap.size, 2, none⟩ = some (.int .i64 n)) := fun w' hk => ⟨by rw [cell_of_row w' _ 1 _ _ _ (HBX.out w' hk)]; rfl, by rw [cell_of_row w' _ 2 _ _ _ (HBX.out w' hk)]; rfl⟩
    have HK0 := Lib.hid hk0
    have c7 := HKC.out W0 (Kp.refl _ _)
    have HSZ := Lib.hid hsz
    clear hW0 hk0 hbx hsz
    go_region_held3 (fun w' => w'.cell? ⟨w.heap.size, 1, none⟩ = some (.int .i64 d) ∧ w'.cell? ⟨w.heap.size, 2, none⟩ = some (.int .i64 n)) (first | go_keep | (refine HKC.out _ ?_; ((repeat (first | exact Kp.refl _ _ | assumption | refine Kp.drew ?_ | refine Kp.drewN ?_ _ | refine Kp.alloc ?_ _)); (first | done | fail))))
      (first
        | (go_at_call 22
           with_reducible refine (concatB_calls _ [A1, A2] _ ?hlit ?ha ?hb).mono ?_
           case hlit => exact rows_at x2 _ (by first | rfl | (simp; first | done | fail)) [.slice p1 A1.length c1, .slice p2 A2.length c2] [A1, A2] 2 rfl rfl _ rfl (by decide) (fun i hi => by
             rcases (show i = 0 ∨ i = 1 by omega) with rfl | rfl
             · exact (HO1.out.kp0 hk2).ints
             · exact h2.ints) _ (by ((repeat (first | exact Kp.refl _ _ | assumption | refine Kp.drew ?_ | refine Kp.drewN ?_ _ | refine Kp.alloc ?_ _)); (first | done | fail)))
           case ha => simp only [List.flatten_cons, List.length_append, HL1.out]; omega
           case hb => simp only [List.flatten_cons, List.flatten_nil, List.append_nil, List.length_append, HL1.out, HL2.out]; omega
           rintro e x3 ⟨v3, rfl, h3, k3⟩
           have hA3 : Kp [] W0 x3 := hA2.trans (Kp.trans (by ((repeat (first | exact Kp.refl _ _ | assumption | refine Kp.drew ?_ | refine Kp.drewN ?_ _ | refine Kp.alloc ?_ _)); (first | done | fail))) k3))
        | (go_at_call 21
           with_reducible refine (HS2.out _ _ ?hlit).mono ?_
           case hlit => first
             | exact lit_at x1 _ (by first | rfl | (simp; first | done | fail)) [n] 1 rfl _ rfl (by decide) _ (by ((repeat (first | exact Kp.refl _ _ | assumption | refine Kp.drew ?_ | refine Kp.drewN ?_ _ | refine Kp.alloc ?_ _)); (first | done | fail)))
             | exact lit_at (W0.alloc (.cells #[.int .i64 d] 3)) _ (by first | rfl | (simp; first | done | fail)) [n] 1 rfl _ rfl (by decide) _ (Kp.trans (Kp.trans (by ((repeat (first | exact Kp.refl _ _ | assumption | refine Kp.drew ?_ | refine Kp.drewN ?_ _ | refine Kp.alloc ?_ _)); (first | done | fail))) hk1) (by ((repeat (first | exact Kp.refl _ _ | assumption | refine Kp.drew ?_ | refine Kp.drewN ?_ _ | refine Kp.alloc ?_ _)); (first | done | fail))))
             | exact lit_at W0 _ (by first | rfl | (simp; first | done | fail)) [n] 1 rfl _ rfl (by decide) _ (Kp.trans (Kp.trans (by ((repeat (first | exact Kp.refl _ _ | assumption | refine Kp.drew ?_ | refine Kp.drewN ?_ _ | refine Kp.alloc ?_ _)); (first | done | fail))) hk1) (by ((repeat (first | exact Kp.refl _ _ | assumption | refine Kp.drew ?_ | refine Kp.drewN ?_ _ | refine Kp.alloc ?_ _)); (first | done | fail))))
             | fail
           rintro e x2 ⟨v2, rfl, h2, k2⟩
           obtain ⟨p2, c2, rfl⟩ := h2.form
           have hk2 : Kp [] x1 x2 := Kp.trans (by ((repeat (first | exact Kp.refl _ _ | assumption | refine Kp.drew ?_ | refine Kp.drewN ?_ _ | refine Kp.alloc ?_ _)); (first | done | fail))) k2
           have hA2 : Kp [] W0 x2 := hA1.trans hk2)
        | (go_at_call 21
           with_reducible refine (HS1.out _ _ ?hlit).mono ?_
           case hlit => first
             | exact lit_at W0 _ (by first | rfl | (simp; first | done | fail)) [d] 1 rfl _ rfl (by decide) _ (by ((repeat (first | exact Kp.refl _ _ | assumption | refine Kp.drew ?_ | refine Kp.drewN ?_ _ | refine Kp.alloc ?_ _)); (first | done | fail)))
             | exact lit_at (W0.alloc (.cells #[.int .i64 n] 3)) _ (by first | rfl | (simp; first | done | fail)) [d] 1 rfl _ rfl (by decide) _ (by ((repeat (first | exact Kp.refl _ _ | assumption | refine Kp.drew ?_ | refine Kp.drewN ?_ _ | refine Kp.alloc ?_ _)); (first | done | fail)))
             | fail
           rintro e x1 ⟨v1, rfl, h1, hk1⟩
           obtain ⟨p1, c1, rfl⟩ := h1.form
           have HO1 := Lib.hid h1
           have hA1 : Kp [] W0 x1 := Kp.trans (by ((repeat (first | exact Kp.refl _ _ | assumption | refine Kp.drew ?_ | refine Kp.drewN ?_ _ | refine Kp.alloc ?_ _)); (first | done | fail))) hk1)
        | fail)
    all_goals
      go_wp2_with fail
      go_meet
      have g0 := hA2.size
      have g1 := HSZ.out
      have HO3 : OwnB x3 (w.heap.size + 1) v3 (A1 ++ A2) := by
        have q := h3.base (B := w.heap.size + 1) (by simp; omega)
        simpa using q
      obtain ⟨p3, c3, e3⟩ := HO3.form
      have e4 : (A1 ++ A2).length = 12 := by rw [List.length_append, HL1.out, HL2.out]
      rw [e4] at e3
      subst e3
      exact ⟨p3, c3, rfl, HO3, HK0.out.trans hA3, HBX.out _ hA3⟩
  case rest =>
    obtain ⟨p5, c5, rfl, HO5, HK5, hbx⟩ := hcut
    have HBX := Lib.hid hbx
    have c0 : wc.cell? ⟨w.heap.size, 0, none⟩ = some (.slice pl o.length cl) := by rw [cell_of_row wc _ 0 _ _ _ hbx]; rfl
    have HB5 := Lib.hid (H.out.kp0 HK5.out)
    have HLB : Hid ((A1 ++ A2).length = 12) := by show _ = _; rw [List.length_append, HL1.out, HL2.out]
    have hs5 := HK5.out.size
    clear hbx
    by_cases h0 : o.length = 0
    · have e0 : o = [] := List.length_eq_zero_iff.1 h0
      obtain ⟨q1, q2, q3⟩ := HP0.out e0
      have d0 : decide (0 < o.length) = false := decide_eq_false (by omega)
      have HQ : Hid (PD = A1 ++ A2 ∧ PL = [] ∧ PF = addF false (acc ++ (A1 ++ A2)).length 0) := ⟨q1, q2, q3⟩
      have HAD : Hid (Calls Tryz.prog 67 #[.pointer (some ⟨x, 0, none⟩), .slice p5 12 c5, .int .i64 0] wc fun e w' => e = .returned (.int .i64 (acc.length : Nat)) ∧ ∃ v', Bld w' x v' (acc ++ (A1 ++ A2)) (addF false (acc ++ (A1 ++ A2)).length 0) ∧ WK wc w' x v v') :=
        add_calls x v acc false (.slice p5 12 c5) (A1 ++ A2) false wc HB5.out HO5.out.ints (by rw [HLB.out]; have := HLA.out; omega)
      clear q1 q2 q3 e0 h0 HP0 HP1
      go_wp2_with fail
      refine HAD.out.mono ?_; rintro e w2 ⟨rfl, v2, g1, g2⟩
      have HB2 := Lib.hid g1
      have HW2 := Lib.hid g2
      have hnb : w.heap.size ∉ x :: v.ownBlock.toList := by
        intro hm
        rcases List.mem_cons.1 hm with e | e
        · omega
        · exact own_box HB5.out.2.1 HBX.out (by decide) (by simpa using e)
      have c2 : w2.cell? ⟨w.heap.size, 0, none⟩ = some (.slice pl o.length cl) := g2.1.cell c0 hnb
      have HS4 : Hid (∀ W V, IsInts .i64 W V [12, (acc.length : Int)] → Calls Tryz.prog 21 #[.int .i64 18, V] W fun e w' => ∃ v', e = .returned v' ∧ OwnB w' W.heap.size v' EN ∧ Kp [] W w') := by
        intro W V h
        have q := say_at 18 18 rfl (by decide) V [12, (acc.length : Int)] W h (by simp) (by intro x hx; have := HLA.out; simp at hx; omega)
        rw [HEN.out, HQ.out.1, HLB.out]
        exact q
      clear g1 g2 HAD hnb c0
      go_wp2_with fail
      refine (HS4.out _ _ (lit_at w2 _ rfl [12, (acc.length : Int)] 2 rfl _ rfl (by decide) _ (Kp.refl _ _))).mono ?_; rintro e w3 ⟨u, rfl, h3, k3⟩
      have k3' : Kp [] w2 w3 := Kp.trans (by ((repeat (first | exact Kp.refl _ _ | assumption | refine Kp.drew ?_ | refine Kp.drewN ?_ _ | refine Kp.alloc ?_ _)); (first | done | fail))) k3
      have HK3 := Lib.hid k3'
      have HU := Lib.hid h3
      clear h3 k3 k3' c2
      go_wp2_with fail
      go_ret
      have hsz2 := HW2.out.1.size
      refine ⟨u, v2, rfl, HU.out.base (by simp; omega), ?_, (WK.of0 HK5.out).trans (HW2.out.trans (WK.of0 HK3.out)), ?_⟩
      · rw [HQ.out.1, HQ.out.2.1, HQ.out.2.2, List.append_nil]
        exact HB2.out.kp0 HK3.out
      · intro k hk hk2
        have a1 := own_ge HU.out k hk
        have a2 := HB2.out.2.1.lt k hk2
        simp at a1
        omega
    · have e0 : o ≠ [] := by intro e; rw [e] at h0; simp at h0
      obtain ⟨q1, q2, q3⟩ := HP1.out e0
      have d0 : decide (0 < o.length) = true := decide_eq_true (by omega)
      have HQ : Hid (PD = A1 ++ A2 ++ A3 ∧ PL = (putM o).1 ∧ PF = addF (addF false (acc ++ (A1 ++ A2 ++ A3)).length 0) (acc ++ (A1 ++ A2 ++ A3) ++ (putM o).1).length (eN (putF o))) := ⟨q1, q2, q3⟩
      clear q1 q2 q3 e0 h0 HP0 HP1
      go_wp2_with fail
      refine (HS3.out _ _ (lit_at wc _ rfl [18] 1 rfl _ rfl (by decide) _ (Kp.refl _ _))).mono ?_; rintro e w6 ⟨u6, rfl, h6, k6⟩
      have k6' : Kp [] wc w6 := Kp.trans (by ((repeat (first | exact Kp.refl _ _ | assumption | refine Kp.drew ?_ | refine Kp.drewN ?_ _ | refine Kp.alloc ?_ _)); (first | done | fail))) k6
      have HI6 := Lib.hid h6.ints
      have HO6 := Lib.hid (HO5.out.kp0 k6')
      have HLB' := HLB.out
      have hs6 : wc.heap.size + 1 ≤ w6.heap.size := by have := k6.size; simpa using this
      have HK6 := Lib.hid k6'
      obtain ⟨p6, c6, rfl⟩ := h6.form
      clear h6 k6 k6' c0
      go_wp2_with (at_builtin; refine wpList_appM rfl _ _ 29 5 .u8 1 Tryz.underlying29 infoByte (by decide) rfl (w.heap.size + 1) (.slice p5 12 c5) (A1 ++ A2) 12 HLB' rfl ?hown (.slice p6 A3.length c6) A3 rfl HI6.out ?hb1 (by omega) ?hk)
      case hown => have := HO6.out; unfold OwnB at this; rw [HLB'] at this; exact this
      case hb1 => have := HL3.out; omega
      case hk =>
      intro v7 w7 hown hk7 _
      have HO7 : Hid (OwnB w7 (w.heap.size + 1) v7 (A1 ++ A2 ++ A3)) := by
        show OwnB _ _ _ _
        unfold OwnB
        rw [List.length_append, HLB']
        simp only [List.map_append, List.append_assoc]
        exact hown
      have h18 : (A1 ++ A2 ++ A3).length = 18 := by rw [List.length_append, HLB', HL3.out]
      have HL18 := Lib.hid h18
      have HK7 : Hid (Kp [] w w7) := (HK5.out.trans HK6.out).trans' hk7 (fun t ht => .inr (by have := own_ge HO6.out t (by simpa using ht); omega))
      have hbn : w.heap.size ∉ (Value.slice p5 12 c5).ownBlock.toList := fun hm => by have := own_ge HO6.out _ (by simpa using hm); omega
      have HBX7 := Lib.hid (hk7.heap (HK6.out.heap HBX.out (by simp)) hbn)
      obtain ⟨p7, c7, e7⟩ := HO7.out.form
      rw [h18] at e7
      subst e7
      clear hown hk7 hbn h18 hs6
      generalize A1 ++ A2 ++ A3 = B at *
      have HB7 := Lib.hid (H.out.kp0 HK7.out)
      have HAD : Hid (Calls Tryz.prog 67 #[.pointer (some ⟨x, 0, none⟩), .slice p7 18 c7, .int .i64 0] w7 fun e w' => e = .returned (.int .i64 (acc.length : Nat)) ∧ ∃ v', Bld w' x v' (acc ++ B) (addF false (acc ++ B).length 0) ∧ WK w7 w' x v v') :=
        add_calls x v acc false (.slice p7 18 c7) B false w7 HB7.out HO7.out.ints (by rw [HL18.out]; have := HLA.out; omega)
      go_wp2_with fail
      refine HAD.out.mono ?_; rintro e w8 ⟨rfl, v8, g1, g2⟩
      have HB8 := Lib.hid g1
      have HW8 := Lib.hid ((WK.of0 HK7.out).trans g2)
      have hnb : w.heap.size ∉ x :: v.ownBlock.toList := by
        intro hm
        rcases List.mem_cons.1 hm with e | e
        · omega
        · exact own_box HB7.out.2.1 HBX7.out (by decide) (by simpa using e)
      have hb8 := g2.1.heap HBX7.out hnb
      have HBX8 := Lib.hid hb8
      have c8 : w8.cell? ⟨w.heap.size, 0, none⟩ = some (.slice pl o.length cl) := by rw [cell_of_row w8 _ 0 _ _ _ hb8]; rfl
      have HPU := Lib.hid (put_calls (.slice pl o.length cl) o w8 (HLV.out _ (H.out.kpw HW8.out HU0.out HUX.out)))
      clear g1 g2 HAD hnb hb8
      go_wp2_with fail
      refine HPU.out.mono ?_; rintro e w9 ⟨v9, rfl, hi9, hk9, hf9⟩
      have HI9 := Lib.hid hi9
      have HE9 := putM_e o
      have HLM := Lib.hid (putM_len o)
      have HB9 := Lib.hid (HB8.out.kp0 hk9)
      have HW9 := Lib.hid (HW8.out.trans (WK.of0 hk9))
      obtain ⟨p9, c9, rfl⟩ := hi9.form
      have HAD : Hid (Calls Tryz.prog 67 #[.pointer (some ⟨x, 0, none⟩), .slice p9 (putM o).1.length c9, .int .i64 (putM o).2] w9 fun e w' => e = .returned (.int .i64 ((acc ++ B).length : Nat)) ∧ ∃ v', Bld w' x v' (acc ++ B ++ (putM o).1) (addF (addF false (acc ++ B).length 0) (acc ++ B ++ (putM o).1).length (eN (putF o))) ∧ WK w9 w' x v8 v') := by
        have q := add_calls x v8 (acc ++ B) (addF false (acc ++ B).length 0) (.slice p9 (putM o).1.length c9) (putM o).1 (putF o) w9 HB9.out HI9.out (by rw [List.length_append, HL18.out]; have := HLA.out; have := HLM.out; omega)
        rw [← HE9] at q
        rw [← HE9]
        exact q
      generalize (putM o).2 = PE at *
      generalize (putM o).1 = PU at *
      clear hi9 hk9 hf9 HPU HE9 c8
      go_wp2_with fail
      refine HAD.out.mono ?_; rintro e w10 ⟨rfl, v10, g1, g2⟩
      have HB10 := Lib.hid g1
      have HW10 := Lib.hid (HW9.out.trans g2)
      have HS4 : Hid (∀ W V, IsInts .i64 W V [18, (acc.length : Int)] → Calls Tryz.prog 21 #[.int .i64 18, V] W fun e w' => ∃ v', e = .returned v' ∧ OwnB w' W.heap.size v' EN ∧ Kp [] W w') := by
        intro W V h
        have q := say_at 18 18 rfl (by decide) V [18, (acc.length : Int)] W h (by simp) (by intro x hx; have := HLA.out; simp at hx; omega)
        rw [HEN.out, HQ.out.1, HL18.out]
        exact q
      clear g1 g2 HAD
      go_wp2_with fail
      refine (HS4.out _ _ (lit_at w10 _ rfl [18, (acc.length : Int)] 2 rfl _ rfl (by decide) _ (Kp.refl _ _))).mono ?_; rintro e w11 ⟨u, rfl, h11, k11⟩
      have k11' : Kp [] w10 w11 := Kp.trans (by ((repeat (first | exact Kp.refl _ _ | assumption | refine Kp.drew ?_ | refine Kp.drewN ?_ _ | refine Kp.alloc ?_ _)); (first | done | fail))) k11
      have HK11 := Lib.hid k11'
      have HU := Lib.hid h11
      clear h11 k11 k11'
      go_wp2_with fail
      go_ret
      have hsz10 := HW10.out.1.size
      refine ⟨u, v10, rfl, HU.out.base (by simp; omega), ?_, HW10.out.trans (WK.of0 HK11.out), ?_⟩
      · rw [HQ.out.1, HQ.out.2.1, HQ.out.2.2]
        exact HB10.out.kp0 HK11.out
      · intro k hk hk2
        have a1 := own_ge HU.out k hk
        have a2 := HB10.out.2.1.lt k hk2
        simp at a1
        omega
end Go.Proofs.YtlhkaoccnpgkeaaGreat

/- The reference's Load: what bytes are as a charset. (Written by wip/charset/genrload.py.) · charset.one: a selection, glyph by glyph · charset.parts: a selection, range by range · Ranges of a selection, glyph by glyph. Plain lists; no program in sight · charset.spread: ranges, glyph by glyph. (Written by wip/charset/genspread.py.) · charset.Select: what bytes are as a selection. (Written by a program of mine.) · A selection's glyphs as the reference lays them: range by range, each filled up when the next one comes. Plain lists; no program in sight · The reference's Select: what bytes are as a selection. (Merged by wip/tools/mergetpl.py out of ChD, ChH, ChI, ChPlainS, ChJ, ChK, ChPlainT, ChO.) -/
import Derived.Test.YtlhkaoccnpgkeaaGreatHcA
import Derived.Lib.Hide
import Derived.BigQuiet
import Derived.Deep.QuietTactic
namespace Go.Proofs.YtlhkaoccnpgkeaaGreat.Ch
open Go.RowKit
set_option linter.unusedVariables false
/-- Where a load stands in memory: the numbers so far, in a row of its own; its reader. -/
def ChStR (w wr : World) (r : Nat) (v : Value) (zs : List Int) (k : Nat) (l : List Int) (v9 : Value) : Prop :=
  wr.ownsRow (r + 1) 3 1 v9 l.length (l.map (Value.int .i64)) ∧ Rrd wr r v k false ∧ IsInts .u8 wr v zs ∧ Kp [] w wr ∧ r + 1 ≤ wr.heap.size ∧ w.heap.size = r ∧ (∀ b, blockOf v = some b → b < r)
theorem ChStR.app {w wr w2 : World} {r : Nat} {v : Value} {zs : List Int} {k : Nat} {l : List Int} {v9 v' : Value} {x : Int} {o : Obj} (h : ChStR w wr r v zs k l v9)
    (hown : w2.ownsRow (r + 1) 3 1 v' (l.length + 1) (l.map (Value.int .i64) ++ [.int .i64 x])) (hg : (wr.alloc o).grownBy w2 v9.ownBlock) : ChStR w w2 r v zs k (l ++ [x]) v' := by
  obtain ⟨h1, h2, h3, h4, h5, h6, h7⟩ := h
  have hge := own_ge h1
  have hk : Kp [] w w2 := Kp.grown (h4.alloc o) hg (fun k hk => .inr (by have := hge k hk; omega))
  have hk' : ∀ b, v9.ownBlock = some b → b ≠ r := fun b hb => by have := hge b hb; omega
  have hk2 : Kp (v9.ownBlock.toList) wr w2 := Kp.grown ((Kp.refl _ _).alloc o) hg (fun k hk => .inl (by rw [hk]; simp))
  refine ⟨by simpa using hown, h2.kp hk2 ?_, h3.kp hk2 ?_, hk, Nat.le_trans h5 hk2.size, h6, h7⟩
  · intro hm; cases hv : v9.ownBlock with
    | none => simp [hv] at hm
    | some b => simp [hv] at hm; exact hk' b hv hm.symm
  · intro s hs; cases hv : v9.ownBlock with
    | none => simp [hv] at hs
    | some b => simp [hv] at hs; subst hs; intro e; have := h7 _ e; have := hge _ hv; omega

/-- What the reference's load hands back. -/
def RLoaded (k : IntKind) (R : Option (List Int)) (w : World) (e : Ending) (w' : World) : Prop :=
  (R = none ∧ ∃ v, e = .returned (.tuple #[v, .bool false]) ∧ Kp [] w w') ∨
  (∃ l v, R = some l ∧ e = .returned (.tuple #[v, .bool true]) ∧ IsInts k w' v l ∧ Kp [] w w' ∧ ∀ b, blockOf v = some b → w.heap.size ≤ b)
end Go.Proofs.YtlhkaoccnpgkeaaGreat.Ch
namespace Go.Proofs.YtlhkaoccnpgkeaaGreat.Ch
open Go.RowKit
set_option linter.unusedVariables false
set_option linter.unusedSimpArgs false
/-- A selection, glyph by glyph: m numbers of one byte each, from place k on. -/
def oneGo (zs : List Int) (q : Int) : Nat → List Int → Nat → Option (List Int)
  | 0, l, _ => some l
  | m + 1, l, k => if rdB zs k false 1 = true ∨ q ≤ rdV zs k false 1 then none else oneGo zs q m (l ++ [rdV zs k false 1]) (rdK zs k false 1)
/-- What 'one' hands back. -/
def OneD (R : Option (List Int)) (w : World) (r : Nat) (e : Ending) (w' : World) : Prop :=
  (R = none ∧ e = .returned (.tuple #[.slice none 0 0, .bool false]) ∧ Kp [r] w w') ∨
  (∃ l v, R = some l ∧ e = .returned (.tuple #[v, .bool true]) ∧ IsInts .i64 w' v l ∧ Kp [r] w w' ∧ ∀ b, blockOf v = some b → w.heap.size ≤ b)
set_option maxRecDepth 100000 in
set_option maxHeartbeats 1000000 in
theorem one_calls (r : Nat) (v : Value) (zs : List Int) (k n : Nat) (q : Int) (hn : n ≤ 65535) (w : World) (h : Rdr w r v k false) (hz : IsInts .u8 w v zs) (hb : ∀ c ∈ zs, 0 ≤ c ∧ c ≤ 255) (hv : ∀ b, blockOf v = some b → b < w.heap.size ∧ b ≠ r) (hk : k ≤ zs.length) :
    Calls Tryz.prog 117 #[.pointer (some ⟨r, 0, none⟩), .int .i64 n, .int .i64 q] w (OneD (oneGo zs q n [] k) w r) := by
  have HB := Lib.hid hb
  have HV := Lib.hid hv
  have hrl : r < w.heap.size := lt_of_block h
  have hne : blockOf v ≠ some r := fun e => (hv r e).2 rfl
  clear hb hv
  go_enter Tryz.func117, Tryz.ntmps117
  go_wp2_with fail
  generalize hB : w.heap.size = B at *
  go_loopw [8, 9, 11] (fun v8 _ i wr => ∃ (j k2 : Nat) (l : List Int), j ≤ n ∧ i = .int .i64 j ∧ l.length = j ∧ wr.ownsRow B 3 1 v8 l.length (l.map (Value.int .i64)) ∧ Rdr wr r v k2 false ∧ IsInts .u8 wr v zs ∧ Kp [r] w wr ∧ k2 ≤ zs.length ∧ oneGo zs q (n - j) l k2 = oneGo zs q n [] k) (fun _ _ i _ => n - (intOf i).toNat)
  case atStart => exact ⟨0, k, [], by omega, rfl, rfl, World.ownsRow_nil _ _ _ _, h, hz, Kp.refl _ _, hk, rfl⟩
  case round =>
    obtain ⟨j, k2, l, hj, rfl, hlj, hown, hrd, hzz, hkp, hk2, hgo⟩ := hrel
    have HO := Lib.hid hown
    obtain ⟨p8, c8, rfl⟩ := slice_own hown
    have HJ := Lib.hid hlj
    clear hown hlj
    have hszr := hkp.size
    rw [hB] at hszr
    by_cases hlt : j < n
    · rw [show n - j = (n - (j + 1)) + 1 by omega] at hgo
      have HG := Lib.hid hgo
      clear hgo
      go_wp2_with fail
      refine (u8_calls r v zs k2 false _ hrd hzz HB.out hne hk2).mono ?_; rintro e wb ⟨rfl, hrb, hkb⟩
      have hzb := hzz.kp hkb (by intro s hs; simp at hs; subst hs; exact hne)
      have hob := hkb.row HO.out (by intro s hs e; simp at hs; subst hs; have := own_ge HO.out _ e; omega)
      have hk3 := rdK_le zs k2 false 1 hk2
      obtain ⟨q0, q1⟩ := rdV_bounds zs k2 false 1 HB.out
      have hstep := Lib.hid (show oneGo zs q ((n - (j + 1)) + 1) l k2 = if rdB zs k2 false 1 = true ∨ q ≤ rdV zs k2 false 1 then none else oneGo zs q (n - (j + 1)) (l ++ [rdV zs k2 false 1]) (rdK zs k2 false 1) from rfl)
      generalize rdV zs k2 false 1 = x at *
      generalize rdK zs k2 false 1 = k3 at *
      generalize rdB zs k2 false 1 = b3 at *
      go_wp2_with fail
      refine (done_calls r v _ _ _ hrb).mono ?_; rintro e w' ⟨rfl, rfl⟩
      cases b3
      · by_cases hq : q ≤ x
        · have hR := Lib.hid (HG.out.symm.trans (hstep.out.trans (if_pos (.inr hq))))
          go_wp2_with fail
          go_ret2
          exact .inl ⟨hR.out, rfl, hkp.trans hkb⟩
        · have hR := Lib.hid ((hstep.out.trans (if_neg (by simp; omega))).symm.trans HG.out)
          have hkb2 := hkp.trans hkb
          have hszb := hkb2.size
          rw [hB] at hszb
          clear hstep HG hzz hrd hkp hkb HO
          go_wp2_with (at_builtin; refine wpList_app rfl _ _ 24 rfl B 3 (.int .i64 0) 1 8 Tryz.underlying24 infoInt rfl (by decide) (by decide) (.slice p8 l.length c8) l.length (l.map (Value.int .i64)) rfl ?hown (.slice (some ⟨wb.heap.size, 0, none⟩) 1 1) 1 [.int .i64 x] rfl ?hsrc ?hone ?hb1 ?hb2 ?hk)
          case hown => exact hob.alloc _
          case hsrc => exact Reads.made _ _ 1 1 [.int .i64 x] _ rfl rfl (by decide)
          case hone => intro u hu; simp at hu; subst hu; rfl
          case hb1 => have := HJ.out; omega
          case hb2 => simp; omega
          case hk =>
          intro v7 w3 hown hgrow
          have hge := own_ge hob
          have hkg : Kp (Value.slice p8 l.length c8).ownBlock.toList wb w3 := Kp.grown ((Kp.refl _ _).alloc _) hgrow (fun k hk => .inl (by rw [hk]; simp))
          have hnr : ∀ s ∈ (Value.slice p8 l.length c8).ownBlock.toList, B ≤ s := by
            intro s hs; cases hv' : (Value.slice p8 l.length c8).ownBlock with
            | none => simp [hv'] at hs
            | some b => simp [hv'] at hs; subst hs; exact hge _ hv'
          have hr3 := hrb.kp hkg (fun hm => by have := hnr _ hm; omega)
          have hz3 := hzb.kp hkg (fun s hs e => by have := hnr _ hs; have := (HV.out _ e).1; omega)
          have hk4 : Kp [r] w w3 := hkb2.trans' hkg (fun t ht => .inr (by rw [hB]; exact hnr t ht))
          have HOW := Lib.hid hown
          clear hown hgrow hkg hnr hob hrb hzb hkb2 hge
          go_wp2_with fail
          go_roundw
          case rel => first | exact ⟨j + 1, k3, l ++ [x], by omega, by go_num, by simp [HJ.out], by simpa using HOW.out, hr3, hz3, hk4, hk3, hR.out⟩ | (repeat apply Exists.intro; exact ⟨⟨j + 1, k3, l ++ [x], by omega, by go_num, by simp [HJ.out], by simpa using HOW.out, hr3, hz3, hk4, hk3, hR.out⟩, rfl⟩)
          case measure => simp [intOf]; omega
      · have hR := Lib.hid (HG.out.symm.trans (hstep.out.trans (if_pos (.inl rfl))))
        go_wp2_with fail
        go_ret2
        exact .inl ⟨hR.out, rfl, hkp.trans hkb⟩
    · obtain rfl : j = n := by omega
      have hR := Lib.hid (show oneGo zs q j [] k = some l by rw [← hgo, Nat.sub_self]; rfl)
      clear hgo
      go_wp2_with fail
      go_ret2
      exact .inr ⟨l, _, hR.out, rfl, IsInts.owned HO.out, hkp, fun b hb => by have := own_geb HO.out b hb; omega⟩
end Go.Proofs.YtlhkaoccnpgkeaaGreat.Ch
namespace Go.Proofs.YtlhkaoccnpgkeaaGreat.Ch
open Go.RowKit
set_option linter.unusedVariables false
set_option linter.unusedSimpArgs false
theorem infoPart : (Tryz.prog.info? 201).map (fun i => (i.zero, i.size, i.bytes)) = some (some (.agg #[.int .i64 0, .int .i64 0]), 2, 16) := by kernel_rfl
/-- Ranges as cells. -/
def partCells (l : List (Int × Int)) : List Value := l.flatMap fun p => [.int .i64 p.1, .int .i64 p.2]
theorem partCells_length (l : List (Int × Int)) : (partCells l).length = l.length * 2 := by
  induction l with
  | nil => rfl
  | cons p l ih => simp [partCells] at ih ⊢; omega
theorem partCells_snoc (l : List (Int × Int)) (a b : Int) : partCells (l ++ [(a, b)]) = partCells l ++ [.int .i64 a, .int .i64 b] := by simp [partCells]
theorem partCells_at (l : List (Int × Int)) (i : Nat) (h : i < l.length) : (partCells l)[2 * i]? = some (.int .i64 (l.getD i (0, 0)).1) ∧ (partCells l)[2 * i + 1]? = some (.int .i64 (l.getD i (0, 0)).2) := by
  induction l generalizing i with
  | nil => simp at h
  | cons p l ih =>
    cases i with
    | zero => simp [partCells]
    | succ i =>
      have := ih i (by simpa using h)
      rw [show 2 * (i + 1) = 2 * i + 1 + 1 by omega]
      simpa [partCells] using this
def pF (zs : List Int) (k : Nat) : Int := rdV zs k false 2
def pX (zs : List Int) (k : Nat) : Int := rdV zs (rdK zs k false 2) (rdB zs k false 2) 1
def pK (zs : List Int) (k : Nat) : Nat := rdK zs (rdK zs k false 2) (rdB zs k false 2) 1
def pB (zs : List Int) (k : Nat) : Bool := rdB zs (rdK zs k false 2) (rdB zs k false 2) 1
/-- Is the next range none that may be, behind these? -/
def pBad (n q : Int) (l : List (Int × Int)) (f x : Int) (b : Bool) : Prop :=
  b = true ∨ q ≤ x ∨ n ≤ f ∨ ¬ (l = [] ↔ f = 0) ∨ (l ≠ [] ∧ f ≤ (l.getD (l.length - 1) (0, 0)).1)
instance (n q : Int) (l : List (Int × Int)) (f x : Int) (b : Bool) : Decidable (pBad n q l f x b) := by unfold pBad; infer_instance
/-- So many ranges. -/
def partGo (zs : List Int) (n q : Int) : Nat → List (Int × Int) → Nat → Option (List (Int × Int) × Nat)
  | 0, l, k => some (l, k)
  | m + 1, l, k => if pBad n q l (pF zs k) (pX zs k) (pB zs k) then none else partGo zs n q m (l ++ [(pF zs k, pX zs k)]) (pK zs k)
/-- Where 'parts' stands in memory. -/
def PaSt (w wr : World) (B r : Nat) (v : Value) (zs : List Int) (k : Nat) (l : List (Int × Int)) (v8 : Value) : Prop :=
  wr.ownsRow B 201 2 v8 l.length (partCells l) ∧ Rdr wr r v k false ∧ IsInts .u8 wr v zs ∧ Kp [r] w wr ∧ w.heap.size = B ∧ r < B ∧ (∀ b, blockOf v = some b → b < B ∧ b ≠ r) ∧ k ≤ zs.length
/-- The ranges, and behind them the number of glyphs. -/
def partFin (zs : List Int) (n : Int) (p : List (Int × Int) × Nat) : Option (List (Int × Int)) :=
  if p.1 ≠ [] ∧ rdV zs p.2 false 2 = n ∧ rdB zs p.2 false 2 = false then some p.1 else none
def partsOf (zs : List Int) (n q : Int) (k : Nat) : Option (List (Int × Int)) :=
  if rdB zs k false 2 = true then none else (partGo zs n q (rdV zs k false 2).toNat [] (rdK zs k false 2)).bind (partFin zs n)
/-- What 'parts' hands back. -/
def PartsD (R : Option (List (Int × Int))) (w : World) (r : Nat) (e : Ending) (w' : World) : Prop :=
  (R = none ∧ ∃ v, e = .returned (.tuple #[v, .bool false]) ∧ Kp [r] w w') ∨
  (∃ l v, R = some l ∧ e = .returned (.tuple #[v, .bool true]) ∧ Reads 2 w' v l.length (partCells l) ∧ Kp [r] w w' ∧ ∀ b, blockOf v = some b → w.heap.size ≤ b)
set_option maxRecDepth 100000 in
set_option maxHeartbeats 4000000 in
theorem parts_calls (r : Nat) (v : Value) (zs : List Int) (k n : Nat) (q : Int) (hn : n ≤ 65535) (hn1 : 1 ≤ n) (w : World) (h : Rdr w r v k false) (hz : IsInts .u8 w v zs) (hb : ∀ c ∈ zs, 0 ≤ c ∧ c ≤ 255) (hv : ∀ b, blockOf v = some b → b < w.heap.size ∧ b ≠ r) (hk : k ≤ zs.length)
    (hB0 : Hid (rdB zs k false 2 = false)) :
    Calls Tryz.prog 118 #[.pointer (some ⟨r, 0, none⟩), .int .i64 n, .int .i64 q] w (PartsD (partsOf zs n q k) w r) := by
  have hPO : Hid (partsOf zs n q k = (partGo zs n q (rdV zs k false 2).toNat [] (rdK zs k false 2)).bind (partFin zs n)) := if_neg (by rw [hB0.out]; simp)
  have HB := Lib.hid hb
  have HV := Lib.hid hv
  have hrl : r < w.heap.size := lt_of_block h
  have hne : blockOf v ≠ some r := fun e => (hv r e).2 rfl
  clear hb hv
  go_enter Tryz.func118, Tryz.ntmps118
  go_wp2_with fail
  refine (u16_calls r v zs k false _ h hz HB.out hne hk).mono ?_; rintro e w1 ⟨rfl, hr1, hk1⟩
  rw [hB0.out] at hr1
  have hst : PaSt w w1 w.heap.size r v zs (rdK zs k false 2) [] (.slice none 0 0) := ⟨World.ownsRow_nil _ _ _ _, hr1, hz.kp hk1 (by intro s hs; simp at hs; subst hs; exact hne), hk1, rfl, hrl, HV.out, rdK_le _ _ _ _ hk⟩
  obtain ⟨q0, q1'⟩ := rdV_bounds zs k false 2 HB.out
  have q1 : rdV zs k false 2 < 65536 := by omega
  clear q1' hr1 hk1 h hz hrl
  generalize hB : w.heap.size = B at *
  generalize rdK zs k false 2 = k0 at *
  obtain ⟨cnt, hcnt⟩ : ∃ cnt : Nat, rdV zs k false 2 = cnt := ⟨(rdV zs k false 2).toNat, by omega⟩
  rw [hcnt] at q0 q1 ⊢
  rw [hcnt, Int.toNat_natCast] at hPO
  have hcl : cnt ≤ 65535 := by omega
  clear hcnt q0 q1
  go_wp2_with fail
  go_loopw [8, 9, 10, 13] (fun v8 _ _ i wr => ∃ (j k2 : Nat) (l : List (Int × Int)), j ≤ cnt ∧ i = .int .i64 j ∧ l.length = j ∧ PaSt w wr B r v zs k2 l v8 ∧ partGo zs n q (cnt - j) l k2 = partGo zs n q cnt [] k0) (fun _ _ _ i _ => cnt - (intOf i).toNat)
  case atStart => exact ⟨0, k0, [], by omega, rfl, rfl, hst, rfl⟩
  case round =>
    obtain ⟨j, k2, l, hj, rfl, hlj, hs, hgo⟩ := hrel
    have HS := Lib.hid hs
    obtain ⟨p8, c8, rfl⟩ := slice_own hs.1
    obtain ⟨hown, hrd, hzz, hkp, hwB, hrB, hvB, hk2⟩ := hs
    have HO := Lib.hid hown
    have HJ := Lib.hid hlj
    have HVB := Lib.hid hvB
    clear hown hlj hvB
    have hszr := hkp.size
    rw [hwB] at hszr
    by_cases hlt : j < cnt
    · rw [show cnt - j = (cnt - (j + 1)) + 1 by omega] at hgo
      have HG := Lib.hid hgo
      clear hgo
      go_wp2_with fail
      refine (u16_calls r v zs k2 false _ hrd hzz HB.out hne hk2).mono ?_; rintro e wa ⟨rfl, hra, hka⟩
      have hza := hzz.kp hka (by intro s hs; simp at hs; subst hs; exact hne)
      have hoa := hka.row HO.out (by intro s hs e; simp at hs; subst hs; have := own_ge HO.out _ e; omega)
      go_wp2_with fail
      refine (u8_calls r v zs _ _ _ hra hza HB.out hne (rdK_le _ _ _ _ hk2)).mono ?_; rintro e wb ⟨rfl, hrb, hkb⟩
      have hzb := hza.kp hkb (by intro s hs; simp at hs; subst hs; exact hne)
      have hob := hkb.row hoa (by intro s hs e; simp at hs; subst hs; have := own_ge HO.out _ e; omega)
      have hkwb : Kp [r] w wb := (hkp.trans hka).trans hkb
      have hk3 := rdK_le zs _ (rdB zs k2 false 2) 1 (rdK_le zs k2 false 2 hk2)
      obtain ⟨f0, f1⟩ := rdV_bounds zs k2 false 2 HB.out
      obtain ⟨x0, x1⟩ := rdV_bounds zs (rdK zs k2 false 2) (rdB zs k2 false 2) 1 HB.out
      have f2 : rdV zs k2 false 2 < 65536 := by omega
      have x2 : rdV zs (rdK zs k2 false 2) (rdB zs k2 false 2) 1 < 256 := by omega
      have hstep := Lib.hid (show partGo zs n q ((cnt - (j + 1)) + 1) l k2 = if pBad n q l (pF zs k2) (pX zs k2) (pB zs k2) then none else partGo zs n q (cnt - (j + 1)) (l ++ [(pF zs k2, pX zs k2)]) (pK zs k2) from rfl)
      rw [show pF zs k2 = rdV zs k2 false 2 from rfl, show pX zs k2 = rdV zs (rdK zs k2 false 2) (rdB zs k2 false 2) 1 from rfl, show pB zs k2 = rdB zs (rdK zs k2 false 2) (rdB zs k2 false 2) 1 from rfl, show pK zs k2 = rdK zs (rdK zs k2 false 2) (rdB zs k2 false 2) 1 from rfl] at hstep
      clear f1 x1 hka hkb hra hza hoa hrd hzz hkp HO HS
      generalize rdV zs (rdK zs k2 false 2) (rdB zs k2 false 2) 1 = x at *
      generalize rdK zs (rdK zs k2 false 2) (rdB zs k2 false 2) 1 = k3 at *
      generalize rdB zs (rdK zs k2 false 2) (rdB zs k2 false 2) 1 = b3 at *
      generalize rdV zs k2 false 2 = f at *
      have hrb4 : Rdr (wb.alloc (.cells #[.int .i64 f, .int .i64 x] 201)) r v k3 b3 := hrb.kp (S := []) (by (repeat (first | exact Kp.refl _ _ | assumption | refine Kp.drew ?_ | refine Kp.drewN ?_ _ | refine Kp.alloc ?_ _ | (refine Kp.setCell ?_ (by first | (left; simp; done) | (right; simp; try omega)) _) | (refine Kp.trans' ?_ (by assumption) (by simp; try omega))))) (by simp)
      cases b3
      · by_cases hq : q ≤ x
        · skip
          go_wp2_with fail
          go_quiet ((go_at_call 108; exact Calls.quiet_of_same ((done_calls r v k3 false _ (by exact hrb4)).mono fun _ _ ⟨a, b⟩ => ⟨a, b.symm⟩)))
          go_wp2_with fail
          go_ret2
          exact .inl ⟨by rw [hPO.out, ← HG.out, hstep.out, if_pos (.inr (.inl hq))]; rfl, _, rfl, by subst hwB; (repeat (first | exact Kp.refl _ _ | assumption | refine Kp.drew ?_ | refine Kp.drewN ?_ _ | refine Kp.alloc ?_ _ | (refine Kp.setCell ?_ (by first | (left; simp; done) | (right; simp; try omega)) _) | (refine Kp.trans' ?_ (by assumption) (by simp; try omega))))⟩
        · have hq' : decide (q ≤ x) = false := by simpa using hq
          by_cases hnf : (n : Int) ≤ f
          · skip
            go_wp2_with fail
            go_quiet ((go_at_call 108; exact Calls.quiet_of_same ((done_calls r v k3 false _ (by exact hrb4)).mono fun _ _ ⟨a, b⟩ => ⟨a, b.symm⟩)))
            go_wp2_with fail
            go_ret2
            exact .inl ⟨by rw [hPO.out, ← HG.out, hstep.out, if_pos (.inr (.inr (.inl hnf)))]; rfl, _, rfl, by subst hwB; (repeat (first | exact Kp.refl _ _ | assumption | refine Kp.drew ?_ | refine Kp.drewN ?_ _ | refine Kp.alloc ?_ _ | (refine Kp.setCell ?_ (by first | (left; simp; done) | (right; simp; try omega)) _) | (refine Kp.trans' ?_ (by assumption) (by simp; try omega))))⟩
          · have hnf' : decide ((n : Int) ≤ f) = false := by simpa using hnf
            cases hj0 : ((j : Int) == 0) <;> cases hf0 : (f == 0)
            · have hjp : 0 < j := by have := beq_eq_false_iff_ne.1 hj0; omega
              have hlne : Hid (l ≠ []) := fun e => by have := HJ.out; rw [e] at this; simp at this; omega
              have hfne := Lib.hid (beq_eq_false_iff_ne.1 hf0)
              obtain ⟨g8, rfl⟩ : ∃ g, p8 = some ⟨g, 0, none⟩ := by
                rcases hob.2 with ⟨he, h0⟩ | ⟨g, cap, cur, he, _⟩
                · have := HJ.out; omega
                · exact ⟨g, by simp only [Value.slice.injEq] at he; exact he.1⟩
              have hlast := hob.cells (g := g8) rfl (2 * (j - 1)) (.int .i64 (l.getD (l.length - 1) (0, 0)).1) (by have := HJ.out; rw [← this]; exact (partCells_at l _ (by omega)).1)
              rw [add_lit, Nat.zero_add, Nat.mul_comm] at hlast
              have hg8 : g8 < wb.heap.size := World.block_lt_of_cell? _ _ hlast
              generalize hlf : (l.getD (l.length - 1) (0, 0)).1 = lf at *
              have HLF := Lib.hid hlf
              clear hlf
              have hb1 : (0 : Int) ≤ (j : Int) - 1 := by omega
              have hb2 : (j : Int) - 1 < (l.length : Int) := by have := HJ.out; omega
              by_cases hfl : f ≤ lf
              · skip
                go_wp2_with fail
                go_quiet ((go_at_call 108; exact Calls.quiet_of_same ((done_calls r v k3 false _ (by exact hrb4)).mono fun _ _ ⟨a, b⟩ => ⟨a, b.symm⟩)))
                go_wp2_with fail
                go_ret2
                exact .inl ⟨by rw [hPO.out, ← HG.out, hstep.out, if_pos (.inr (.inr (.inr (.inr ⟨hlne.out, by rw [HLF.out]; exact hfl⟩))))]; rfl, _, rfl, by subst hwB; (repeat (first | exact Kp.refl _ _ | assumption | refine Kp.drew ?_ | refine Kp.drewN ?_ _ | refine Kp.alloc ?_ _ | (refine Kp.setCell ?_ (by first | (left; simp; done) | (right; simp; try omega)) _) | (refine Kp.trans' ?_ (by assumption) (by simp; try omega))))⟩
              · have hfl' : decide (f ≤ lf) = false := by simpa using hfl
                go_wp2_with fail
                go_quiet ((go_at_call 108; exact Calls.quiet_of_same ((done_calls r v k3 false _ (by exact hrb4)).mono fun _ _ ⟨a, b⟩ => ⟨a, b.symm⟩)))
                go_wp2_with (at_builtin; refine wpList_app rfl _ _ 179 rfl B 201 (.agg #[.int .i64 0, .int .i64 0]) 2 16 Tryz.underlying179 infoPart rfl (by decide) (by decide) (.slice (some ⟨g8, 0, none⟩) l.length c8) l.length (partCells l) rfl ?hown (.slice (some ⟨wb.heap.size + 1, 0, none⟩) 1 1) 1 [.int .i64 f, .int .i64 x] rfl ?hsrc ?hone ?hb1 ?hb2 ?hk)
                case hown => exact (Kp.row (S := []) (by (repeat (first | exact Kp.refl _ _ | assumption | refine Kp.drew ?_ | refine Kp.drewN ?_ _ | refine Kp.alloc ?_ _ | (refine Kp.setCell ?_ (by first | (left; simp; done) | (right; simp; try omega)) _) | (refine Kp.trans' ?_ (by assumption) (by simp; try omega))))) hob (by simp))
                case hsrc => exact Reads.made _ _ 2 1 [.int .i64 f, .int .i64 x] _ (by simp) rfl (by decide)
                case hone => intro u hu; simp at hu; rcases hu with rfl | rfl <;> rfl
                case hb1 => have := HJ.out; omega
                case hb2 => have := hkwb.size; rw [hwB] at this; simp; omega
                case hk =>
                intro v7 w3 hown hgrow
                have hR := Lib.hid ((hstep.out.trans (if_neg (by unfold pBad; rintro (h | h | h | h | h); exact absurd h (by simp); omega; omega; exact h ⟨fun e => absurd e hlne.out, fun e => absurd e hfne.out⟩; have h9 := h.2; rw [HLF.out] at h9; omega))).symm.trans HG.out)
                have hge := own_ge hob
                have hkg : Kp (Value.slice (some ⟨g8, 0, none⟩) l.length c8).ownBlock.toList wb w3 := Kp.grown (by (repeat (first | exact Kp.refl _ _ | assumption | refine Kp.drew ?_ | refine Kp.drewN ?_ _ | refine Kp.alloc ?_ _ | (refine Kp.setCell ?_ (by first | (left; simp; done) | (right; simp; try omega)) _) | (refine Kp.trans' ?_ (by assumption) (by simp; try omega))))) hgrow (fun k hk => .inl (by rw [hk]; simp))
                have hnr : ∀ s ∈ (Value.slice (some ⟨g8, 0, none⟩) l.length c8).ownBlock.toList, B ≤ s := by
                  intro s hs; cases hv' : (Value.slice (some ⟨g8, 0, none⟩) l.length c8).ownBlock with
                  | none => simp [hv'] at hs
                  | some b => simp [hv'] at hs; subst hs; exact hge _ hv'
                have hr3 := hrb.kp hkg (fun hm => by have := hnr _ hm; omega)
                have hz3 := hzb.kp hkg (fun s hs e => by have := hnr _ hs; have := (HVB.out _ e).1; omega)
                have hk4 : Kp [r] w w3 := hkwb.trans' hkg (fun t ht => .inr (by rw [hwB]; exact hnr t ht))
                have HPS : Hid (PaSt w w3 B r v zs k3 (l ++ [(f, x)]) v7) := ⟨by rw [partCells_snoc, List.length_append]; exact hown, hr3, hz3, hk4, hwB, hrB, HVB.out, hk3⟩
                clear hown hgrow hkg hnr hob hrb hzb hkwb hge hrb4 hr3 hz3 hk4
                go_wp2_with fail
                go_roundw
                case rel => first | exact ⟨j + 1, k3, l ++ [(f, x)], by omega, by go_num, by simp [HJ.out], HPS.out, hR.out⟩ | (repeat apply Exists.intro; exact ⟨⟨j + 1, k3, l ++ [(f, x)], by omega, by go_num, by simp [HJ.out], HPS.out, hR.out⟩, rfl⟩)
                case measure => simp [intOf]; omega
            · skip
              go_wp2_with fail
              go_quiet ((go_at_call 108; exact Calls.quiet_of_same ((done_calls r v k3 false _ (by exact hrb4)).mono fun _ _ ⟨a, b⟩ => ⟨a, b.symm⟩)))
              go_wp2_with fail
              go_ret2
              exact .inl ⟨by rw [hPO.out, ← HG.out, hstep.out, if_pos (.inr (.inr (.inr (.inl (by have h1 := beq_eq_false_iff_ne.1 hj0; have h2 := beq_iff_eq.1 hf0; intro h3; have h4 := h3.2 h2; have h5 := HJ.out; rw [h4] at h5; simp at h5; omega)))))]; rfl, _, rfl, by subst hwB; (repeat (first | exact Kp.refl _ _ | assumption | refine Kp.drew ?_ | refine Kp.drewN ?_ _ | refine Kp.alloc ?_ _ | (refine Kp.setCell ?_ (by first | (left; simp; done) | (right; simp; try omega)) _) | (refine Kp.trans' ?_ (by assumption) (by simp; try omega))))⟩
            · skip
              go_wp2_with fail
              go_quiet ((go_at_call 108; exact Calls.quiet_of_same ((done_calls r v k3 false _ (by exact hrb4)).mono fun _ _ ⟨a, b⟩ => ⟨a, b.symm⟩)))
              go_wp2_with fail
              go_ret2
              exact .inl ⟨by rw [hPO.out, ← HG.out, hstep.out, if_pos (.inr (.inr (.inr (.inl (by have h1 := beq_iff_eq.1 hj0; have h2 := beq_eq_false_iff_ne.1 hf0; intro h3; exact h2 (h3.1 (List.eq_nil_of_length_eq_zero (by have := HJ.out; omega))))))))]; rfl, _, rfl, by subst hwB; (repeat (first | exact Kp.refl _ _ | assumption | refine Kp.drew ?_ | refine Kp.drewN ?_ _ | refine Kp.alloc ?_ _ | (refine Kp.setCell ?_ (by first | (left; simp; done) | (right; simp; try omega)) _) | (refine Kp.trans' ?_ (by assumption) (by simp; try omega))))⟩
            · have hjz := beq_iff_eq.1 hj0
              have hlz : Hid (l = []) := List.eq_nil_of_length_eq_zero (by have := HJ.out; omega)
              have hfz := Lib.hid (beq_iff_eq.1 hf0)
              have hd0 : decide (0 < j) = false := by simp; omega
              clear hjz
              go_wp2_with fail
              go_quiet ((go_at_call 108; exact Calls.quiet_of_same ((done_calls r v k3 false _ (by exact hrb4)).mono fun _ _ ⟨a, b⟩ => ⟨a, b.symm⟩)))
              go_wp2_with (at_builtin; refine wpList_app rfl _ _ 179 rfl B 201 (.agg #[.int .i64 0, .int .i64 0]) 2 16 Tryz.underlying179 infoPart rfl (by decide) (by decide) (.slice p8 l.length c8) l.length (partCells l) rfl ?hown (.slice (some ⟨wb.heap.size + 1, 0, none⟩) 1 1) 1 [.int .i64 f, .int .i64 x] rfl ?hsrc ?hone ?hb1 ?hb2 ?hk)
              case hown => exact (Kp.row (S := []) (by (repeat (first | exact Kp.refl _ _ | assumption | refine Kp.drew ?_ | refine Kp.drewN ?_ _ | refine Kp.alloc ?_ _ | (refine Kp.setCell ?_ (by first | (left; simp; done) | (right; simp; try omega)) _) | (refine Kp.trans' ?_ (by assumption) (by simp; try omega))))) hob (by simp))
              case hsrc => exact Reads.made _ _ 2 1 [.int .i64 f, .int .i64 x] _ (by simp) rfl (by decide)
              case hone => intro u hu; simp at hu; rcases hu with rfl | rfl <;> rfl
              case hb1 => have := HJ.out; omega
              case hb2 => have := hkwb.size; rw [hwB] at this; simp; omega
              case hk =>
              intro v7 w3 hown hgrow
              have hR := Lib.hid ((hstep.out.trans (if_neg (by unfold pBad; rintro (h | h | h | h | h); exact absurd h (by simp); omega; omega; exact h ⟨fun _ => hfz.out, fun _ => hlz.out⟩; exact h.1 hlz.out))).symm.trans HG.out)
              have hge := own_ge hob
              have hkg : Kp (Value.slice p8 l.length c8).ownBlock.toList wb w3 := Kp.grown (by (repeat (first | exact Kp.refl _ _ | assumption | refine Kp.drew ?_ | refine Kp.drewN ?_ _ | refine Kp.alloc ?_ _ | (refine Kp.setCell ?_ (by first | (left; simp; done) | (right; simp; try omega)) _) | (refine Kp.trans' ?_ (by assumption) (by simp; try omega))))) hgrow (fun k hk => .inl (by rw [hk]; simp))
              have hnr : ∀ s ∈ (Value.slice p8 l.length c8).ownBlock.toList, B ≤ s := by
                intro s hs; cases hv' : (Value.slice p8 l.length c8).ownBlock with
                | none => simp [hv'] at hs
                | some b => simp [hv'] at hs; subst hs; exact hge _ hv'
              have hr3 := hrb.kp hkg (fun hm => by have := hnr _ hm; omega)
              have hz3 := hzb.kp hkg (fun s hs e => by have := hnr _ hs; have := (HVB.out _ e).1; omega)
              have hk4 : Kp [r] w w3 := hkwb.trans' hkg (fun t ht => .inr (by rw [hwB]; exact hnr t ht))
              have HPS : Hid (PaSt w w3 B r v zs k3 (l ++ [(f, x)]) v7) := ⟨by rw [partCells_snoc, List.length_append]; exact hown, hr3, hz3, hk4, hwB, hrB, HVB.out, hk3⟩
              clear hown hgrow hkg hnr hob hrb hzb hkwb hge hrb4 hr3 hz3 hk4
              go_wp2_with fail
              go_roundw
              case rel => first | exact ⟨j + 1, k3, l ++ [(f, x)], by omega, by go_num, by simp [HJ.out], HPS.out, hR.out⟩ | (repeat apply Exists.intro; exact ⟨⟨j + 1, k3, l ++ [(f, x)], by omega, by go_num, by simp [HJ.out], HPS.out, hR.out⟩, rfl⟩)
              case measure => simp [intOf]; omega
      · skip
        go_wp2_with fail
        go_quiet ((go_at_call 108; exact Calls.quiet_of_same ((done_calls r v k3 true _ (by exact hrb4)).mono fun _ _ ⟨a, b⟩ => ⟨a, b.symm⟩)))
        go_wp2_with fail
        go_ret2
        exact .inl ⟨by rw [hPO.out, ← HG.out, hstep.out, if_pos (.inl rfl)]; rfl, _, rfl, by subst hwB; (repeat (first | exact Kp.refl _ _ | assumption | refine Kp.drew ?_ | refine Kp.drewN ?_ _ | refine Kp.alloc ?_ _ | (refine Kp.setCell ?_ (by first | (left; simp; done) | (right; simp; try omega)) _) | (refine Kp.trans' ?_ (by assumption) (by simp; try omega))))⟩
    · obtain rfl : j = cnt := by omega
      rw [Nat.sub_self] at hgo
      have HG := Lib.hid (show partGo zs n q j [] k0 = some (l, k2) from hgo.symm)
      clear hgo
      by_cases hl0 : l = []
      · have hj0 : j = 0 := by have := HJ.out; rw [hl0] at this; simpa using this.symm
        have hd0 : decide (0 < l.length) = false := by rw [hl0]; rfl
        have hR := Lib.hid (show partFin zs n (l, k2) = none from if_neg (fun h => h.1 hl0))
        clear hl0 hj0
        go_wp2_with fail
        go_ret2
        exact .inl ⟨by rw [hPO.out, HG.out]; exact hR.out, _, rfl, by subst hwB; exact hkp⟩
      · have hlp : 0 < l.length := List.length_pos_iff.2 hl0
        have HL0 := Lib.hid hl0
        clear hl0
        go_wp2_with fail
        refine (u16_calls r v zs k2 false _ hrd hzz HB.out hne hk2).mono ?_; rintro e wa ⟨rfl, hra, hka⟩
        have hkwa : Kp [r] w wa := hkp.trans hka
        have hoa := hka.row HO.out (by intro s hs e; simp at hs; subst hs; have := own_ge HO.out _ e; omega)
        by_cases hn2 : rdV zs k2 false 2 = n
        · have hb2 : rdB zs k2 false 2 = false := by
            cases hx : rdB zs k2 false 2
            · rfl
            · unfold rdV at hn2; rw [hx] at hn2; simp at hn2; omega
          have hR := Lib.hid (show partFin zs n (l, k2) = some l from if_pos ⟨HL0.out, hn2, hb2⟩)
          have hbq : (rdV zs k2 false 2 == (n : Int)) = true := by rw [beq_iff_eq]; exact hn2
          rw [hb2] at hra
          clear hn2 hb2
          go_wp2_with fail
          refine (done_calls r v _ _ _ hra).mono ?_; rintro e w' ⟨rfl, rfl⟩
          go_wp2_with fail
          go_ret2
          exact .inr ⟨l, _, by rw [hPO.out, HG.out]; exact hR.out, rfl, Reads.owned hoa, by subst hwB; exact hkwa, fun b hb => by have := own_geb hoa b hb; omega⟩
        · have hR := Lib.hid (show partFin zs n (l, k2) = none from if_neg (fun h => hn2 h.2.1))
          have hbq : (rdV zs k2 false 2 == (n : Int)) = false := by rw [beq_eq_false_iff_ne]; exact hn2
          clear hn2
          go_wp2_with fail
          go_ret2
          exact .inl ⟨by rw [hPO.out, HG.out]; exact hR.out, _, rfl, by subst hwB; exact hkwa⟩
theorem parts_bad (r : Nat) (v : Value) (zs : List Int) (k n : Nat) (q : Int) (w : World) (h : Rdr w r v k false) (hz : IsInts .u8 w v zs) (hb : ∀ c ∈ zs, 0 ≤ c ∧ c ≤ 255) (hne : blockOf v ≠ some r) (hk : k ≤ zs.length)
    (hB0 : rdB zs k false 2 = true) :
    Calls Tryz.prog 118 #[.pointer (some ⟨r, 0, none⟩), .int .i64 n, .int .i64 q] w (PartsD (partsOf zs n q k) w r) := by
  have hPO : Hid (partsOf zs n q k = none) := if_pos hB0
  have h0 : Hid (rdV zs k false 2 = 0) := by unfold Hid rdV; rw [hB0]; rfl
  clear hB0
  go_enter Tryz.func118, Tryz.ntmps118
  go_wp2_with fail
  refine (u16_calls r v zs k false _ h hz hb hne hk).mono ?_; rintro e w1 ⟨rfl, hr1, hk1⟩
  rw [h0.out]
  clear hr1
  go_wp2_with fail
  go_loopw [8, 9, 10, 13] (fun v8 _ _ i wr => v8 = .slice none 0 0 ∧ i = .int .i64 0 ∧ wr = w1) (fun _ _ _ _ _ => 0)
  case atStart => exact ⟨rfl, rfl, rfl⟩
  case round =>
    obtain ⟨rfl, rfl, rfl⟩ := hrel
    go_wp2_with fail
    go_ret2
    exact .inl ⟨hPO.out, _, rfl, hk1⟩
end Go.Proofs.YtlhkaoccnpgkeaaGreat.Ch
namespace Go.Proofs.YtlhkaoccnpgkeaaGreat.Ch
set_option linter.unusedVariables false
set_option linter.unusedSimpArgs false
def fiP (l : List (Int × Int)) (i : Nat) : Int := (l.getD i (0, 0)).1
def xP (l : List (Int × Int)) (i : Nat) : Int := (l.getD i (0, 0)).2
/-- Where range i ends. -/
def endP (l : List (Int × Int)) (n i : Nat) : Int := if i + 1 < l.length then fiP l (i + 1) else n
def runP (l : List (Int × Int)) (n i : Nat) : List Int := List.replicate (endP l n i - fiP l i).toNat (xP l i)
def runsP (l : List (Int × Int)) (n : Nat) : Nat → List Int
  | 0 => []
  | i + 1 => runsP l n i ++ runP l n i
/-- A selection's glyphs, out of its ranges. -/
def spreadL (l : List (Int × Int)) (n : Nat) : List Int := runsP l n l.length
/-- Ranges that may be: the first one begins at 0, each begins behind the one before it, all of them ahead of n. -/
structure PartsOk (l : List (Int × Int)) (n : Nat) (q : Int) : Prop where
  zero : l ≠ [] → fiP l 0 = 0
  ge : ∀ i, i < l.length → 0 ≤ fiP l i ∧ fiP l i < n ∧ 0 ≤ xP l i ∧ xP l i < q
  lt : ∀ i, i + 1 < l.length → fiP l i < fiP l (i + 1)
theorem fiP_app (l : List (Int × Int)) (p : Int × Int) (i : Nat) (h : i < l.length) : fiP (l ++ [p]) i = fiP l i ∧ xP (l ++ [p]) i = xP l i := by
  unfold fiP xP; simp [List.getD_eq_getElem?_getD, List.getElem?_append_left h]
theorem fiP_new (l : List (Int × Int)) (p : Int × Int) : fiP (l ++ [p]) l.length = p.1 ∧ xP (l ++ [p]) l.length = p.2 := by
  unfold fiP xP; simp [List.getD_eq_getElem?_getD]
theorem PartsOk.snoc {l : List (Int × Int)} {n : Nat} {q : Int} (h : PartsOk l n q) (f x : Int) (b : Bool) (hb : ¬ pBad n q l f x b) (hf : 0 ≤ f) (hx : 0 ≤ x) : PartsOk (l ++ [(f, x)]) n q := by
  unfold pBad at hb
  have e1 : ¬ q ≤ x := fun e => hb (.inr (.inl e))
  have e2 : ¬ (n : Int) ≤ f := fun e => hb (.inr (.inr (.inl e)))
  have e3 : l = [] ↔ f = 0 := Classical.byContradiction fun e => hb (.inr (.inr (.inr (.inl e))))
  have e4 : l ≠ [] → (l.getD (l.length - 1) (0, 0)).1 < f := fun hl => Int.not_le.1 fun e => hb (.inr (.inr (.inr (.inr ⟨hl, e⟩))))
  refine ⟨fun _ => ?_, fun i hi => ?_, fun i hi => ?_⟩
  · by_cases hl : l = []
    · subst hl; exact e3.1 rfl
    · rw [(fiP_app l _ 0 (List.length_pos_iff.2 hl)).1]; exact h.zero hl
  · rw [List.length_append, List.length_singleton] at hi
    by_cases hl : i < l.length
    · rw [(fiP_app l _ i hl).1, (fiP_app l _ i hl).2]; exact h.ge i hl
    · obtain rfl : i = l.length := by omega
      rw [(fiP_new l _).1, (fiP_new l _).2]; simp only; omega
  · rw [List.length_append, List.length_singleton] at hi
    by_cases hl : i + 1 < l.length
    · rw [(fiP_app l _ i (by omega)).1, (fiP_app l _ (i + 1) hl).1]; exact h.lt i hl
    · have hi2 : i + 1 = l.length := by omega
      rw [(fiP_app l _ i (by omega)).1, hi2, (fiP_new l _).1]
      have := e4 (fun e => by rw [e] at hi2; simp at hi2)
      rw [← hi2] at this; exact this
theorem partGo_ok (zs : List Int) (n : Nat) (q : Int) (hb : ∀ c ∈ zs, 0 ≤ c ∧ c ≤ 255) : ∀ (m : Nat) (l : List (Int × Int)) (k : Nat) (l' : List (Int × Int)) (k' : Nat), PartsOk l n q → partGo zs n q m l k = some (l', k') → PartsOk l' n q := by
  intro m
  induction m with
  | zero => intro l k l' k' h e; simp [partGo] at e; rw [← e.1]; exact h
  | succ m ih =>
    intro l k l' k' h e
    unfold partGo at e
    split at e
    · simp at e
    · rename_i hn
      exact ih _ _ _ _ (h.snoc _ _ _ hn (rdV_bounds _ _ _ _ hb).1 (rdV_bounds _ _ _ _ hb).1) e
theorem partsOf_ok (zs : List Int) (n : Nat) (q : Int) (k : Nat) (l : List (Int × Int)) (hb : ∀ c ∈ zs, 0 ≤ c ∧ c ≤ 255) (h : partsOf zs n q k = some l) : PartsOk l n q ∧ l ≠ [] := by
  unfold partsOf at h
  split at h
  · simp at h
  · cases hg : partGo zs n q (rdV zs k false 2).toNat [] (rdK zs k false 2) with
    | none => rw [hg] at h; simp at h
    | some p =>
      rw [hg] at h
      simp only [Option.bind_some, partFin] at h
      split at h
      · rename_i hc
        simp at h
        subst h
        exact ⟨partGo_ok zs n q hb _ _ _ _ p.2 ⟨fun e => absurd rfl e, fun i hi => by simp at hi, fun i hi => by simp at hi⟩ hg, hc.1⟩
      · simp at h
theorem PartsOk.step {l : List (Int × Int)} {n : Nat} {q : Int} (h : PartsOk l n q) (i : Nat) (hi : i < l.length) : fiP l i < endP l n i ∧ endP l n i ≤ n := by
  unfold endP
  split
  · rename_i h1; have := h.lt i h1; have := h.ge (i + 1) h1; omega
  · have := h.ge i hi; omega
theorem PartsOk.runs {l : List (Int × Int)} {n : Nat} {q : Int} (h : PartsOk l n q) (hl : l ≠ []) : ∀ i, i ≤ l.length → ((runsP l n i).length : Int) = if i < l.length then fiP l i else n := by
  intro i
  induction i with
  | zero => intro _; rw [if_pos (List.length_pos_iff.2 hl), h.zero hl]; rfl
  | succ i ih =>
    intro hi
    have h1 := ih (by omega)
    rw [if_pos (by omega)] at h1
    have h2 := h.step i (by omega)
    have h3 := h.ge i (by omega)
    simp only [runsP, List.length_append, runP, List.length_replicate]
    have e : endP l n i = if i + 1 < l.length then fiP l (i + 1) else n := rfl
    rw [← e]
    omega
theorem spreadL_length {l : List (Int × Int)} {n : Nat} {q : Int} (h : PartsOk l n q) (hl : l ≠ []) : (spreadL l n).length = n := by
  have := h.runs hl l.length (Nat.le_refl _)
  rw [if_neg (by omega)] at this
  unfold spreadL; omega
/-- A selection that is being spread: the runs so far, j numbers of the next one, zeros. -/
def partly (l : List (Int × Int)) (n i j : Nat) : List Int := runsP l n i ++ List.replicate j (xP l i) ++ List.replicate (n - (runsP l n i).length - j) 0
theorem partly_set (l : List (Int × Int)) (n i j : Nat) (h : (runsP l n i).length + j < n) : (partly l n i j).set ((runsP l n i).length + j) (xP l i) = partly l n i (j + 1) := by
  unfold partly
  rw [List.set_append, if_neg (by simp), List.length_append, List.length_replicate, Nat.sub_self]
  rw [show n - (runsP l n i).length - j = (n - (runsP l n i).length - (j + 1)) + 1 by omega, List.replicate_succ, List.set_cons_zero, List.replicate_succ', List.append_assoc, List.append_assoc, List.append_assoc]
  rfl
theorem partly_next {l : List (Int × Int)} {n : Nat} {q : Int} (h : PartsOk l n q) (hl : l ≠ []) (i : Nat) (hi : i < l.length) : partly l n i (endP l n i - fiP l i).toNat = partly l n (i + 1) 0 := by
  have h1 := h.runs hl i (by omega)
  rw [if_pos hi] at h1
  have h2 := h.step i hi
  have h3 := h.ge i hi
  unfold partly
  simp only [runsP, runP, List.length_append, List.length_replicate, List.replicate_zero, List.append_nil]
  congr 2
  omega
theorem partly_end {l : List (Int × Int)} {n : Nat} {q : Int} (h : PartsOk l n q) (hl : l ≠ []) : partly l n l.length 0 = spreadL l n := by
  have := spreadL_length h hl
  unfold spreadL at this
  unfold partly spreadL
  rw [this]; simp
theorem partly_length (l : List (Int × Int)) (n i j : Nat) (h : (runsP l n i).length + j ≤ n) : (partly l n i j).length = n := by
  unfold partly; simp; omega
theorem partly_start (l : List (Int × Int)) (n : Nat) : partly l n 0 0 = List.replicate n 0 := by simp [partly, runsP]
end Go.Proofs.YtlhkaoccnpgkeaaGreat.Ch
namespace Go.Proofs.YtlhkaoccnpgkeaaGreat.Ch
open Go.RowKit
set_option linter.unusedVariables false
set_option linter.unusedSimpArgs false
theorem madeInts (n : Nat) : (madeCells #[Value.int .i64 0] n).toList = (List.replicate n (0 : Int)).map (Value.int .i64) := by
  apply List.ext_getElem?
  intro i
  simp only [madeCells, Array.toList_map, Array.toList_range, List.getElem?_map, List.getElem?_range, List.map_replicate]
  by_cases h : i < n
  · simp [h, Nat.mod_one]
  · simp [h]
set_option maxRecDepth 100000 in
set_option maxHeartbeats 4000000 in
theorem spread_calls (v : Value) (l : List (Int × Int)) (n : Nat) (q : Int) (w : World) (hv : Reads 2 w v l.length (partCells l)) (hok : PartsOk l n q) (hl : l ≠ []) (hn : n ≤ 65535) (hll : l.length ≤ 65535) :
    Calls Tryz.prog 119 #[v, .int .i64 n] w fun e w' => ∃ v', e = .returned v' ∧ IsInts .i64 w' v' (spreadL l n) ∧ Kp [] w w' ∧ ∀ b, blockOf v' = some b → w.heap.size ≤ b := by
  obtain ⟨i0, hi, hz0, hz1, hz2⟩ := info_parts infoInt
  have hl1 : 0 < l.length := List.length_pos_iff.2 hl
  rcases hv.2 with ⟨⟨ad, rfl⟩, h0⟩ | ⟨g, off, c, rfl, h1, h2, h3⟩
  · omega
  · have HC : Hid (∀ i, i < l.length → w.cell? ⟨g, off + i * 2, none⟩ = some (.int .i64 (fiP l i)) ∧ w.cell? ⟨g, off + i * 2 + 1, none⟩ = some (.int .i64 (xP l i))) := by
      intro i hi
      have := partCells_at l i hi
      have a := h3 (2 * i) _ this.1
      have b := h3 (2 * i + 1) _ this.2
      rw [Nat.mul_comm] at a b
      exact ⟨a, by rw [← Nat.add_assoc] at b; exact b⟩
    have hgl : g < w.heap.size := by have := (HC.out 0 hl1).1; exact World.block_lt_of_cell? w _ this
    have HOK := Lib.hid hok
    have HL := Lib.hid hl
    clear hv h3 hok hl
    go_enter Tryz.func119, Tryz.ntmps119
    go_wp2_with (at_make; refine wpList_make_full _ rfl _ _ 24 rfl w.heap.size 3 i0 (.int .i64 0) 1 Tryz.underlying24 hi hz0 hz1 .i64 .i64 n n n rfl rfl rfl rfl ?b2 ?b3 ?b4 ?hK)
    case b2 => rw [hz2]; omega
    case b3 => unfold maxLen; omega
    case b4 => exact Nat.le_refl _
    case hK =>
    intro w1 hown hgr
    rw [madeInts] at hown
    have hk1 : Kp [] w w1 := Kp.grown (Kp.refl _ _) hgr (fun k hk => nomatch hk)
    generalize hB : w.heap.size = B at *
    have hst : ∃ wr : World, wr = w1 := ⟨_, rfl⟩
    have hBs : B < w1.heap.size := by have := hown.lt B rfl; exact this.2
    have HOW : Hid (w1.ownsRow B 3 1 (.slice (some ⟨B, 0, none⟩) n n) n ((partly l n 0 0).map (Value.int .i64))) := by rw [partly_start]; exact hown
    clear hown hgr hst
    go_wp2_with fail
    go_loopw [6, 7, 8, 9, 14] (fun _ _ _ _ i wr => ∃ j : Nat, j ≤ l.length ∧ i = .int .i64 j ∧ wr.ownsRow B 3 1 (.slice (some ⟨B, 0, none⟩) n n) n ((partly l n j 0).map (Value.int .i64)) ∧ Kp [] w wr ∧ B < wr.heap.size) (fun _ _ _ _ i _ => l.length - (intOf i).toNat)
    case atStart => exact ⟨0, by omega, rfl, HOW.out, hk1, hBs⟩
    case round =>
      obtain ⟨j, hj, rfl, hown, hkp, hbs⟩ := hrel
      clear hk1 hBs HOW
      by_cases hlt : j < l.length
      · have hcj := HC.out j hlt
        have c1 := hkp.cell hcj.1 (by simp)
        have c2 := hkp.cell hcj.2 (by simp)
        have hru := HOK.out.runs HL.out j hj
        rw [if_pos hlt] at hru
        have hst := HOK.out.step j hlt
        have hge := HOK.out.ge j hlt
        have hend : Hid (endP l n j = if j + 1 < l.length then fiP l (j + 1) else n) := rfl
        have hnx := Lib.hid (partly_next HOK.out HL.out j hlt)
        obtain ⟨a, ha⟩ : ∃ a : Nat, fiP l j = a := ⟨(fiP l j).toNat, by omega⟩
        obtain ⟨e, he⟩ : ∃ e : Nat, endP l n j = e := ⟨(endP l n j).toNat, by omega⟩
        rw [ha, he] at hst hnx
        rw [ha] at hge hru c1
        rw [he] at hend
        have hra : (runsP l n j).length = a := by omega
        have HRA := Lib.hid hra
        obtain ⟨hst1, hst2⟩ := hst
        clear hcj hru ha he hra
        have HO := Lib.hid hown
        clear hown
        have hgw : g < wr.heap.size := by have := hkp.size; omega
        have hx1 := hge.2.2.1
        clear hge
        generalize hxe : xP l j = x at *
        have HX := Lib.hid hxe
        clear hxe
        by_cases hj1 : j + 1 < l.length
        · have c3 := hkp.cell (HC.out (j + 1) hj1).1 (by simp)
          have hee : fiP l (j + 1) = (e : Int) := by rw [hend.out, if_pos hj1]
          rw [hee] at c3
          clear hee hend
          go_wp2_with fail
          have hP : Hid ((wr.alloc (.cells #[.int .i64 a, .int .i64 x] 201)).cell? ⟨wr.heap.size, 1, none⟩ = some (.int .i64 x)) := by unfold Hid; go_simp
          generalize hPb : wr.heap.size = P at *
          have ho2 := Lib.hid (HO.out.alloc (.cells #[.int .i64 a, .int .i64 x] 201))
          have hk2 : Kp [] w (wr.alloc (.cells #[.int .i64 a, .int .i64 x] 201)) := hkp.alloc _
          have hs2 : P < (wr.alloc (.cells #[.int .i64 a, .int .i64 x] 201)).heap.size := by simp; omega
          clear HO hkp c1 c2
          generalize wr.alloc (.cells #[.int .i64 a, .int .i64 x] 201) = wq at *
          go_loopw [9] (fun y wi => ∃ t : Nat, a + t ≤ e ∧ y = .int .i64 ((a + t : Nat) : Int) ∧ wi.ownsRow B 3 1 (.slice (some ⟨B, 0, none⟩) n n) n ((partly l n j t).map (Value.int .i64)) ∧ Kp [] w wi ∧ wi.cell? ⟨P, 1, none⟩ = some (.int .i64 x) ∧ P < wi.heap.size) (fun y _ => e - (intOf y).toNat)
          case atStart => exact ⟨0, by omega, by simp, ho2.out, hk2, hP.out, hs2⟩
          case round =>
            obtain ⟨t, ht, rfl, hown, hkp, hcp, hps⟩ := hrel
            clear ho2 hk2 hP hs2
            have hfz := hown.frozenAt (a + t)
            by_cases htl : a + t < e
            · have hlp : (partly l n j t).length = n := partly_length l n j t (by rw [HRA.out]; omega)
              have hold := hown.cells (g := B) rfl (a + t) (.int .i64 ((partly l n j t).getD (a + t) 0)) (by rw [List.getElem?_map, List.getD_eq_getElem?_getD, List.getElem?_eq_getElem (by omega)]; rfl)
              rw [add_lit, Nat.zero_add] at hold
              have hst := hown.stored (a + t) (.int .i64 x)
              have HST : Hid ((wr.setCell ⟨B, a + t, none⟩ (.int .i64 x)).ownsRow B 3 1 (.slice (some ⟨B, 0, none⟩) n n) n ((partly l n j (t + 1)).map (Value.int .i64))) := by
                have h9 := hst.1
                rw [← partly_set l n j t (by rw [HRA.out]; omega), HX.out, HRA.out, List.map_set]; exact h9
              have hk3 : Kp [] w (wr.setCell ⟨B, a + t, none⟩ (.int .i64 x)) := hkp.setCell (.inr (by simp; omega)) _
              have hcp3 : Hid ((wr.setCell ⟨B, a + t, none⟩ (.int .i64 x)).cell? ⟨P, 1, none⟩ = some (.int .i64 x)) := (World.cell?_of_block (heap_setCell_other wr ⟨B, a + t, none⟩ P _ (by simp; omega))).trans hcp
              have hps3 : Hid (P < (wr.setCell ⟨B, a + t, none⟩ (.int .i64 x)).heap.size) := by unfold Hid; simpa [World.setCell] using hps
              clear hst hown
              generalize (partly l n j t).getD (a + t) 0 = oldx at *
              go_wp2_with fail
              go_roundw
              case rel => first | exact ⟨t + 1, by omega, by go_num, HST.out, hk3, hcp3.out, hps3.out⟩ | (repeat apply Exists.intro; exact ⟨⟨t + 1, by omega, by go_num, HST.out, hk3, hcp3.out, hps3.out⟩, rfl⟩)
              case measure => simp [intOf]; omega
            · have hte : t = ((e : Int) - (a : Int)).toNat := by omega
              have HNX : Hid (wr.ownsRow B 3 1 (.slice (some ⟨B, 0, none⟩) n n) n ((partly l n (j + 1) 0).map (Value.int .i64))) := by rw [← hnx.out, ← hte]; exact hown
              clear hte hown
              go_wp2_with fail
              go_roundw
              case rel => first | exact ⟨j + 1, by omega, by go_num, HNX.out, hkp, by omega⟩ | (repeat apply Exists.intro; exact ⟨⟨j + 1, by omega, by go_num, HNX.out, hkp, by omega⟩, rfl⟩)
              case measure => simp [intOf]; omega
        · have hee : (n : Int) = (e : Int) := by rw [hend.out, if_neg hj1]
          obtain rfl : n = e := by omega
          clear hee hend
          go_wp2_with fail
          have hP : Hid ((wr.alloc (.cells #[.int .i64 a, .int .i64 x] 201)).cell? ⟨wr.heap.size, 1, none⟩ = some (.int .i64 x)) := by unfold Hid; go_simp
          generalize hPb : wr.heap.size = P at *
          have ho2 := Lib.hid (HO.out.alloc (.cells #[.int .i64 a, .int .i64 x] 201))
          have hk2 : Kp [] w (wr.alloc (.cells #[.int .i64 a, .int .i64 x] 201)) := hkp.alloc _
          have hs2 : P < (wr.alloc (.cells #[.int .i64 a, .int .i64 x] 201)).heap.size := by simp; omega
          clear HO hkp c1 c2
          generalize wr.alloc (.cells #[.int .i64 a, .int .i64 x] 201) = wq at *
          go_loopw [9] (fun y wi => ∃ t : Nat, a + t ≤ n ∧ y = .int .i64 ((a + t : Nat) : Int) ∧ wi.ownsRow B 3 1 (.slice (some ⟨B, 0, none⟩) n n) n ((partly l n j t).map (Value.int .i64)) ∧ Kp [] w wi ∧ wi.cell? ⟨P, 1, none⟩ = some (.int .i64 x) ∧ P < wi.heap.size) (fun y _ => n - (intOf y).toNat)
          case atStart => exact ⟨0, by omega, by simp, ho2.out, hk2, hP.out, hs2⟩
          case round =>
            obtain ⟨t, ht, rfl, hown, hkp, hcp, hps⟩ := hrel
            clear ho2 hk2 hP hs2
            have hfz := hown.frozenAt (a + t)
            by_cases htl : a + t < n
            · have hlp : (partly l n j t).length = n := partly_length l n j t (by rw [HRA.out]; omega)
              have hold := hown.cells (g := B) rfl (a + t) (.int .i64 ((partly l n j t).getD (a + t) 0)) (by rw [List.getElem?_map, List.getD_eq_getElem?_getD, List.getElem?_eq_getElem (by omega)]; rfl)
              rw [add_lit, Nat.zero_add] at hold
              have hst := hown.stored (a + t) (.int .i64 x)
              have HST : Hid ((wr.setCell ⟨B, a + t, none⟩ (.int .i64 x)).ownsRow B 3 1 (.slice (some ⟨B, 0, none⟩) n n) n ((partly l n j (t + 1)).map (Value.int .i64))) := by
                have h9 := hst.1
                rw [← partly_set l n j t (by rw [HRA.out]; omega), HX.out, HRA.out, List.map_set]; exact h9
              have hk3 : Kp [] w (wr.setCell ⟨B, a + t, none⟩ (.int .i64 x)) := hkp.setCell (.inr (by simp; omega)) _
              have hcp3 : Hid ((wr.setCell ⟨B, a + t, none⟩ (.int .i64 x)).cell? ⟨P, 1, none⟩ = some (.int .i64 x)) := (World.cell?_of_block (heap_setCell_other wr ⟨B, a + t, none⟩ P _ (by simp; omega))).trans hcp
              have hps3 : Hid (P < (wr.setCell ⟨B, a + t, none⟩ (.int .i64 x)).heap.size) := by unfold Hid; simpa [World.setCell] using hps
              clear hst hown
              generalize (partly l n j t).getD (a + t) 0 = oldx at *
              go_wp2_with fail
              go_roundw
              case rel => first | exact ⟨t + 1, by omega, by go_num, HST.out, hk3, hcp3.out, hps3.out⟩ | (repeat apply Exists.intro; exact ⟨⟨t + 1, by omega, by go_num, HST.out, hk3, hcp3.out, hps3.out⟩, rfl⟩)
              case measure => simp [intOf]; omega
            · have hte : t = ((n : Int) - (a : Int)).toNat := by omega
              have HNX : Hid (wr.ownsRow B 3 1 (.slice (some ⟨B, 0, none⟩) n n) n ((partly l n (j + 1) 0).map (Value.int .i64))) := by rw [← hnx.out, ← hte]; exact hown
              clear hte hown
              go_wp2_with fail
              go_roundw
              case rel => first | exact ⟨j + 1, by omega, by go_num, HNX.out, hkp, by omega⟩ | (repeat apply Exists.intro; exact ⟨⟨j + 1, by omega, by go_num, HNX.out, hkp, by omega⟩, rfl⟩)
              case measure => simp [intOf]; omega
      · obtain rfl : j = l.length := by omega
        have HE := Lib.hid (partly_end HOK.out HL.out)
        have HO : Hid (wr.ownsRow B 3 1 (.slice (some ⟨B, 0, none⟩) n n) n ((spreadL l n).map (Value.int .i64))) := by rw [← HE.out]; exact hown
        clear hown
        go_wp2_with fail
        go_ret
        exact ⟨_, rfl, IsInts.owned HO.out, hkp, fun b hb => by have := own_geb HO.out b hb; omega⟩
end Go.Proofs.YtlhkaoccnpgkeaaGreat.Ch
namespace Go.Proofs.YtlhkaoccnpgkeaaGreat.Ch
open Go.RowKit
set_option linter.unusedVariables false
set_option linter.unusedSimpArgs false
theorem PartsOk.at_least {l : List (Int × Int)} {n : Nat} {q : Int} (h : PartsOk l n q) : ∀ i, i < l.length → (i : Int) ≤ fiP l i := by
  intro i
  induction i with
  | zero => intro hi; have := (h.ge 0 hi).1; omega
  | succ i ih => intro hi; have := ih (by omega); have := h.lt i hi; omega
theorem PartsOk.len {l : List (Int × Int)} {n : Nat} {q : Int} (h : PartsOk l n q) : l.length ≤ n := by
  by_cases hl : l.length = 0
  · omega
  · have h1 := h.at_least (l.length - 1) (by omega)
    have h2 := (h.ge (l.length - 1) (by omega)).2.1
    omega
/-- What bytes are, as a selection of n glyphs among q. -/
def csSel (zs : List Int) (n : Nat) (q : Int) : Option (List Int) :=
  if rdB zs 0 false 1 = true then none
  else if rdV zs 0 false 1 = 0 then oneGo zs q n [] (rdK zs 0 false 1)
  else if rdV zs 0 false 1 = 3 then (partsOf zs n q (rdK zs 0 false 1)).map fun l => spreadL l n
  else none
theorem select_arg (v : Value) (n q : Int) (h1 : ¬ (1 ≤ n ∧ n ≤ 65535 ∧ 1 ≤ q ∧ q ≤ 256)) (w : World) : Calls Tryz.prog 86 #[v, .int .i64 n, .int .i64 q] w fun e w' => e = .returned (.tuple #[.slice none 0 0, .int .i64 1]) ∧ w = w' := by
  by_cases hn : 1 ≤ n ∧ n ≤ 65535
  · by_cases hq : q < 1
    · go_enter Tryz.func86, Tryz.ntmps86
      go_wp2_with fail
      refine (count_yes _ hn.1 hn.2 _).mono ?_; rintro e w' ⟨rfl, rfl⟩
      go_wp2_with fail
      go_ret2
      exact ⟨rfl, rfl⟩
    · have hq' : decide (q < 1) = false := by simpa using hq
      have hq2 : 256 < q := by omega
      clear h1
      go_enter Tryz.func86, Tryz.ntmps86
      go_wp2_with fail
      refine (count_yes _ hn.1 hn.2 _).mono ?_; rintro e w' ⟨rfl, rfl⟩
      go_wp2_with fail
      go_ret2
      exact ⟨rfl, rfl⟩
  · go_enter Tryz.func86, Tryz.ntmps86
    go_wp2_with fail
    refine (count_no _ (by omega) _).mono ?_; rintro e w' ⟨rfl, rfl⟩
    go_wp2_with fail
    go_ret2
    exact ⟨rfl, rfl⟩
set_option maxRecDepth 100000 in
set_option maxHeartbeats 1000000 in
theorem select_bad (v : Value) (zs : List Int) (n : Nat) (q : Int) (h1 : 1 ≤ n) (h2 : n ≤ 65535) (g1 : 1 ≤ q) (g2 : q ≤ 256) (w : World) (hz : IsInts .u8 w v zs) (hb : ∀ c ∈ zs, 0 ≤ c ∧ c ≤ 255) (hv : ∀ b, blockOf v = some b → b < w.heap.size)
    (HB1 : Hid (rdB zs 0 false 1 = true)) : Calls Tryz.prog 86 #[v, .int .i64 n, .int .i64 q] w (Loaded .i64 none 160 w) := by
  obtain ⟨pa, ca, hva⟩ : ∃ p c, v = .slice p zs.length c := by
    rcases hz with ⟨⟨ad, rfl⟩, rfl⟩ | ⟨g, off, c, rfl, _⟩
    · exact ⟨_, 0, rfl⟩
    · exact ⟨_, c, rfl⟩
  have HB : Hid _ := hb
  have HV : Hid _ := hv
  have HVA : Hid _ := hva
  clear hb hv hva
  go_enter Tryz.func86, Tryz.ntmps86
  go_wp2_with fail
  refine (count_yes _ (by omega) (by omega) _).mono ?_; rintro e w' ⟨rfl, rfl⟩
  go_wp2_with fail
  refine (new_calls v pa zs.length ca HVA.out _).mono ?_; rintro e w1 ⟨rfl, hw1⟩
  have hr1 : Rdr w1 w.heap.size v (0 : Nat) false := by subst hw1; exact heap_alloc_new w _
  have hk1 : Kp [] w w1 := by subst hw1; (repeat (first | exact Kp.refl _ _ | assumption | refine Kp.drew ?_ | refine Kp.drewN ?_ _ | refine Kp.alloc ?_ _ | (refine Kp.setCell ?_ (by first | (left; simp; done) | (right; simp; try omega)) _) | (refine Kp.trans' ?_ (by assumption) (by simp; try omega))))
  have hne : blockOf v ≠ some w.heap.size := fun e => by have := HV.out _ e; omega
  have hsz : w.heap.size < w1.heap.size := by subst hw1; simp
  clear hw1
  have hz1 := hz.kp hk1 (by simp)
  clear hz
  generalize hr : w.heap.size = r at *
  go_wp2_with fail
  refine (u8_calls r v zs 0 false _ hr1 hz1 HB.out hne (by omega)).mono ?_; rintro e w2 ⟨rfl, hr2, hk2⟩
  rw [HB1.out] at hr2
  have hz2 := hz1.kp hk2 (by intro s hs; simp at hs; subst hs; exact hne)
  have hkl := rdK_le zs 0 false 1 (Nat.zero_le _)
  have hs2 := hk2.size
  have hv2 : ∀ b, blockOf v = some b → b < w2.heap.size ∧ b ≠ r := fun b hb => by have := HV.out b hb; omega
  have HV2 := Lib.hid hv2
  clear hv2
  generalize rdV zs 0 false 1 = fv at *
  go_wp2_with fail
  refine (done_calls r v _ _ _ hr2).mono ?_; rintro e w' ⟨rfl, rfl⟩
  go_wp2_with fail
  refine (done_calls r v _ _ _ hr2).mono ?_; rintro e w' ⟨rfl, rfl⟩
  go_wp2_with fail
  go_ret2
  exact .inl ⟨rfl, rfl, by subst hr; (repeat (first | exact Kp.refl _ _ | assumption | refine Kp.drew ?_ | refine Kp.drewN ?_ _ | refine Kp.alloc ?_ _ | (refine Kp.setCell ?_ (by first | (left; simp; done) | (right; simp; try omega)) _) | (refine Kp.trans' ?_ (by assumption) (by simp; try omega))))⟩
set_option maxRecDepth 100000 in
set_option maxHeartbeats 1000000 in
theorem select_other (v : Value) (zs : List Int) (n : Nat) (q : Int) (h1 : 1 ≤ n) (h2 : n ≤ 65535) (g1 : 1 ≤ q) (g2 : q ≤ 256) (w : World) (hz : IsInts .u8 w v zs) (hb : ∀ c ∈ zs, 0 ≤ c ∧ c ≤ 255) (hv : ∀ b, blockOf v = some b → b < w.heap.size)
    (HB1 : Hid (rdB zs 0 false 1 = false)) (hf0 : (rdV zs 0 false 1 == 0) = false) (hf3 : (rdV zs 0 false 1 == 3) = false) : Calls Tryz.prog 86 #[v, .int .i64 n, .int .i64 q] w (Loaded .i64 none 160 w) := by
  obtain ⟨pa, ca, hva⟩ : ∃ p c, v = .slice p zs.length c := by
    rcases hz with ⟨⟨ad, rfl⟩, rfl⟩ | ⟨g, off, c, rfl, _⟩
    · exact ⟨_, 0, rfl⟩
    · exact ⟨_, c, rfl⟩
  have HB : Hid _ := hb
  have HV : Hid _ := hv
  have HVA : Hid _ := hva
  clear hb hv hva
  go_enter Tryz.func86, Tryz.ntmps86
  go_wp2_with fail
  refine (count_yes _ (by omega) (by omega) _).mono ?_; rintro e w' ⟨rfl, rfl⟩
  go_wp2_with fail
  refine (new_calls v pa zs.length ca HVA.out _).mono ?_; rintro e w1 ⟨rfl, hw1⟩
  have hr1 : Rdr w1 w.heap.size v (0 : Nat) false := by subst hw1; exact heap_alloc_new w _
  have hk1 : Kp [] w w1 := by subst hw1; (repeat (first | exact Kp.refl _ _ | assumption | refine Kp.drew ?_ | refine Kp.drewN ?_ _ | refine Kp.alloc ?_ _ | (refine Kp.setCell ?_ (by first | (left; simp; done) | (right; simp; try omega)) _) | (refine Kp.trans' ?_ (by assumption) (by simp; try omega))))
  have hne : blockOf v ≠ some w.heap.size := fun e => by have := HV.out _ e; omega
  have hsz : w.heap.size < w1.heap.size := by subst hw1; simp
  clear hw1
  have hz1 := hz.kp hk1 (by simp)
  clear hz
  generalize hr : w.heap.size = r at *
  go_wp2_with fail
  refine (u8_calls r v zs 0 false _ hr1 hz1 HB.out hne (by omega)).mono ?_; rintro e w2 ⟨rfl, hr2, hk2⟩
  rw [HB1.out] at hr2
  have hz2 := hz1.kp hk2 (by intro s hs; simp at hs; subst hs; exact hne)
  have hkl := rdK_le zs 0 false 1 (Nat.zero_le _)
  have hs2 := hk2.size
  have hv2 : ∀ b, blockOf v = some b → b < w2.heap.size ∧ b ≠ r := fun b hb => by have := HV.out b hb; omega
  have HV2 := Lib.hid hv2
  clear hv2
  generalize rdV zs 0 false 1 = fv at *
  go_wp2_with fail
  refine (done_calls r v _ _ _ hr2).mono ?_; rintro e w' ⟨rfl, rfl⟩
  go_wp2_with fail
  refine (done_calls r v _ _ _ hr2).mono ?_; rintro e w' ⟨rfl, rfl⟩
  go_wp2_with fail
  go_ret2
  exact .inl ⟨rfl, rfl, by subst hr; (repeat (first | exact Kp.refl _ _ | assumption | refine Kp.drew ?_ | refine Kp.drewN ?_ _ | refine Kp.alloc ?_ _ | (refine Kp.setCell ?_ (by first | (left; simp; done) | (right; simp; try omega)) _) | (refine Kp.trans' ?_ (by assumption) (by simp; try omega))))⟩
set_option maxRecDepth 100000 in
set_option maxHeartbeats 1000000 in
theorem select_0 (v : Value) (zs : List Int) (n : Nat) (q : Int) (h1 : 1 ≤ n) (h2 : n ≤ 65535) (g1 : 1 ≤ q) (g2 : q ≤ 256) (w : World) (hz : IsInts .u8 w v zs) (hb : ∀ c ∈ zs, 0 ≤ c ∧ c ≤ 255) (hv : ∀ b, blockOf v = some b → b < w.heap.size)
    (HB1 : Hid (rdB zs 0 false 1 = false)) (HF : Hid (rdV zs 0 false 1 = 0)) : Calls Tryz.prog 86 #[v, .int .i64 n, .int .i64 q] w (Loaded .i64 (oneGo zs q n [] (rdK zs 0 false 1)) 160 w) := by
  obtain ⟨pa, ca, hva⟩ : ∃ p c, v = .slice p zs.length c := by
    rcases hz with ⟨⟨ad, rfl⟩, rfl⟩ | ⟨g, off, c, rfl, _⟩
    · exact ⟨_, 0, rfl⟩
    · exact ⟨_, c, rfl⟩
  have HB : Hid _ := hb
  have HV : Hid _ := hv
  have HVA : Hid _ := hva
  clear hb hv hva
  go_enter Tryz.func86, Tryz.ntmps86
  go_wp2_with fail
  refine (count_yes _ (by omega) (by omega) _).mono ?_; rintro e w' ⟨rfl, rfl⟩
  go_wp2_with fail
  refine (new_calls v pa zs.length ca HVA.out _).mono ?_; rintro e w1 ⟨rfl, hw1⟩
  have hr1 : Rdr w1 w.heap.size v (0 : Nat) false := by subst hw1; exact heap_alloc_new w _
  have hk1 : Kp [] w w1 := by subst hw1; (repeat (first | exact Kp.refl _ _ | assumption | refine Kp.drew ?_ | refine Kp.drewN ?_ _ | refine Kp.alloc ?_ _ | (refine Kp.setCell ?_ (by first | (left; simp; done) | (right; simp; try omega)) _) | (refine Kp.trans' ?_ (by assumption) (by simp; try omega))))
  have hne : blockOf v ≠ some w.heap.size := fun e => by have := HV.out _ e; omega
  have hsz : w.heap.size < w1.heap.size := by subst hw1; simp
  clear hw1
  have hz1 := hz.kp hk1 (by simp)
  clear hz
  generalize hr : w.heap.size = r at *
  go_wp2_with fail
  refine (u8_calls r v zs 0 false _ hr1 hz1 HB.out hne (by omega)).mono ?_; rintro e w2 ⟨rfl, hr2, hk2⟩
  rw [HB1.out] at hr2
  have hz2 := hz1.kp hk2 (by intro s hs; simp at hs; subst hs; exact hne)
  have hkl := rdK_le zs 0 false 1 (Nat.zero_le _)
  have hs2 := hk2.size
  have hv2 : ∀ b, blockOf v = some b → b < w2.heap.size ∧ b ≠ r := fun b hb => by have := HV.out b hb; omega
  have HV2 := Lib.hid hv2
  clear hv2
  rw [HF.out]
  generalize rdK zs 0 false 1 = k1 at *
  go_wp2_with fail
  refine (done_calls r v _ _ _ hr2).mono ?_; rintro e w' ⟨rfl, rfl⟩
  go_wp2_with fail
  refine (one_calls r v zs k1 n q h2 _ hr2 hz2 HB.out HV2.out hkl).mono ?_
  rintro e w3 (⟨hR, rfl, hk3⟩ | ⟨l, v9, hR, rfl, hi, hk3, hb9⟩)
  · have HR := Lib.hid hR
    clear hR
    go_wp2_with fail
    go_ret2
    exact .inl ⟨HR.out, rfl, by subst hr; (repeat (first | exact Kp.refl _ _ | assumption | refine Kp.drew ?_ | refine Kp.drewN ?_ _ | refine Kp.alloc ?_ _ | (refine Kp.setCell ?_ (by first | (left; simp; done) | (right; simp; try omega)) _) | (refine Kp.trans' ?_ (by assumption) (by simp; try omega))))⟩
  · have HR := Lib.hid hR
    have HB9 := Lib.hid hb9
    clear hR hb9
    go_wp2_with fail
    go_ret2
    exact .inr ⟨l, v9, HR.out, rfl, hi, by subst hr; (repeat (first | exact Kp.refl _ _ | assumption | refine Kp.drew ?_ | refine Kp.drewN ?_ _ | refine Kp.alloc ?_ _ | (refine Kp.setCell ?_ (by first | (left; simp; done) | (right; simp; try omega)) _) | (refine Kp.trans' ?_ (by assumption) (by simp; try omega)))), fun b hb => by have := HB9.out b hb; omega⟩
set_option maxRecDepth 100000 in
set_option maxHeartbeats 1000000 in
theorem select_3 (v : Value) (zs : List Int) (n : Nat) (q : Int) (h1 : 1 ≤ n) (h2 : n ≤ 65535) (g1 : 1 ≤ q) (g2 : q ≤ 256) (w : World) (hz : IsInts .u8 w v zs) (hb : ∀ c ∈ zs, 0 ≤ c ∧ c ≤ 255) (hv : ∀ b, blockOf v = some b → b < w.heap.size)
    (HB1 : Hid (rdB zs 0 false 1 = false)) (HF : Hid (rdV zs 0 false 1 = 3)) : Calls Tryz.prog 86 #[v, .int .i64 n, .int .i64 q] w (Loaded .i64 ((partsOf zs n q (rdK zs 0 false 1)).map fun l => spreadL l n) 160 w) := by
  obtain ⟨pa, ca, hva⟩ : ∃ p c, v = .slice p zs.length c := by
    rcases hz with ⟨⟨ad, rfl⟩, rfl⟩ | ⟨g, off, c, rfl, _⟩
    · exact ⟨_, 0, rfl⟩
    · exact ⟨_, c, rfl⟩
  have HB : Hid _ := hb
  have HV : Hid _ := hv
  have HVA : Hid _ := hva
  clear hb hv hva
  go_enter Tryz.func86, Tryz.ntmps86
  go_wp2_with fail
  refine (count_yes _ (by omega) (by omega) _).mono ?_; rintro e w' ⟨rfl, rfl⟩
  go_wp2_with fail
  refine (new_calls v pa zs.length ca HVA.out _).mono ?_; rintro e w1 ⟨rfl, hw1⟩
  have hr1 : Rdr w1 w.heap.size v (0 : Nat) false := by subst hw1; exact heap_alloc_new w _
  have hk1 : Kp [] w w1 := by subst hw1; (repeat (first | exact Kp.refl _ _ | assumption | refine Kp.drew ?_ | refine Kp.drewN ?_ _ | refine Kp.alloc ?_ _ | (refine Kp.setCell ?_ (by first | (left; simp; done) | (right; simp; try omega)) _) | (refine Kp.trans' ?_ (by assumption) (by simp; try omega))))
  have hne : blockOf v ≠ some w.heap.size := fun e => by have := HV.out _ e; omega
  have hsz : w.heap.size < w1.heap.size := by subst hw1; simp
  clear hw1
  have hz1 := hz.kp hk1 (by simp)
  clear hz
  generalize hr : w.heap.size = r at *
  go_wp2_with fail
  refine (u8_calls r v zs 0 false _ hr1 hz1 HB.out hne (by omega)).mono ?_; rintro e w2 ⟨rfl, hr2, hk2⟩
  rw [HB1.out] at hr2
  have hz2 := hz1.kp hk2 (by intro s hs; simp at hs; subst hs; exact hne)
  have hkl := rdK_le zs 0 false 1 (Nat.zero_le _)
  have hs2 := hk2.size
  have hv2 : ∀ b, blockOf v = some b → b < w2.heap.size ∧ b ≠ r := fun b hb => by have := HV.out b hb; omega
  have HV2 := Lib.hid hv2
  clear hv2
  rw [HF.out]
  have hcl : ∀ l, partsOf zs n q (rdK zs 0 false 1) = some l → l.length ≤ 65535 := fun l hl => by have := (partsOf_ok zs n q _ l HB.out hl).1.len; omega
  have HCL := Lib.hid hcl
  clear hcl
  generalize hke : rdK zs 0 false 1 = k1 at *
  have HKE := Lib.hid hke
  clear hke
  go_wp2_with fail
  refine (done_calls r v _ _ _ hr2).mono ?_; rintro e w' ⟨rfl, rfl⟩
  go_wp2_with fail
  refine (done_calls r v _ _ _ hr2).mono ?_; rintro e w' ⟨rfl, rfl⟩
  go_wp2_with fail
  have hpc : Calls Tryz.prog 118 #[.pointer (some ⟨r, 0, none⟩), .int .i64 n, .int .i64 q] w2 (PartsD (partsOf zs n q k1) w2 r) := by
    cases hb0 : rdB zs k1 false 2
    · exact parts_calls r v zs k1 n q h2 h1 _ hr2 hz2 HB.out HV2.out hkl hb0
    · exact parts_bad r v zs k1 n q _ hr2 hz2 HB.out hne hkl hb0
  refine Calls.mono hpc ?_
  clear hpc
  rintro e w3 (⟨hR, v9, rfl, hk3⟩ | ⟨l, v9, hR, rfl, hi, hk3, hb9⟩)
  · have HR := Lib.hid hR
    clear hR
    go_wp2_with fail
    go_ret2
    exact .inl ⟨by rw [HKE.out, HR.out]; rfl, rfl, by subst hr; (repeat (first | exact Kp.refl _ _ | assumption | refine Kp.drew ?_ | refine Kp.drewN ?_ _ | refine Kp.alloc ?_ _ | (refine Kp.setCell ?_ (by first | (left; simp; done) | (right; simp; try omega)) _) | (refine Kp.trans' ?_ (by assumption) (by simp; try omega))))⟩
  · have HR := Lib.hid hR
    have hok := Lib.hid (partsOf_ok zs n q k1 l HB.out hR)
    have HB9 := Lib.hid hb9
    have HLL := Lib.hid (HCL.out l hR)
    clear hR hb9
    go_wp2_with fail
    refine (spread_calls v9 l n q _ hi hok.out.1 hok.out.2 h2 HLL.out).mono ?_
    rintro e w4 ⟨v8, rfl, hi4, hk4, hb8⟩
    have HB8 := Lib.hid hb8
    clear hb8
    go_wp2_with fail
    go_ret2
    exact .inr ⟨_, v8, by rw [HKE.out, HR.out]; rfl, rfl, hi4, by subst hr; (repeat (first | exact Kp.refl _ _ | assumption | refine Kp.drew ?_ | refine Kp.drewN ?_ _ | refine Kp.alloc ?_ _ | (refine Kp.setCell ?_ (by first | (left; simp; done) | (right; simp; try omega)) _) | (refine Kp.trans' ?_ (by assumption) (by simp; try omega)))), fun b hb => by have := HB8.out b hb; have := hk3.size; omega⟩
theorem select_calls (v : Value) (zs : List Int) (n : Nat) (q : Int) (h1 : 1 ≤ n) (h2 : n ≤ 65535) (g1 : 1 ≤ q) (g2 : q ≤ 256) (w : World) (hz : IsInts .u8 w v zs) (hb : ∀ c ∈ zs, 0 ≤ c ∧ c ≤ 255) (hv : ∀ b, blockOf v = some b → b < w.heap.size) :
    Calls Tryz.prog 86 #[v, .int .i64 n, .int .i64 q] w (Loaded .i64 (csSel zs n q) 160 w) := by
  cases hb1 : rdB zs 0 false 1
  · by_cases h0 : rdV zs 0 false 1 = 0
    · rw [show csSel zs n q = oneGo zs q n [] (rdK zs 0 false 1) by unfold csSel; rw [if_neg (by simp [hb1]), if_pos h0]]
      exact select_0 v zs n q h1 h2 g1 g2 w hz hb hv hb1 h0
    · by_cases h3 : rdV zs 0 false 1 = 3
      · rw [show csSel zs n q = (partsOf zs n q (rdK zs 0 false 1)).map (fun l => spreadL l n) by unfold csSel; rw [if_neg (by simp [hb1]), if_neg h0, if_pos h3]]
        exact select_3 v zs n q h1 h2 g1 g2 w hz hb hv hb1 h3
      · rw [show csSel zs n q = none by unfold csSel; rw [if_neg (by simp [hb1]), if_neg h0, if_neg h3]]
        exact select_other v zs n q h1 h2 g1 g2 w hz hb hv hb1 (beq_eq_false_iff_ne.2 h0) (beq_eq_false_iff_ne.2 h3)
  · rw [show csSel zs n q = none by unfold csSel; rw [if_pos hb1]]
    exact select_bad v zs n q h1 h2 g1 g2 w hz hb hv hb1
end Go.Proofs.YtlhkaoccnpgkeaaGreat.Ch
namespace Go.Proofs.YtlhkaoccnpgkeaaGreat.Ch
set_option linter.unusedVariables false
set_option linter.unusedSimpArgs false
theorem runP_mid (l : List (Int × Int)) (n m i : Nat) (h : i + 1 < l.length) : runP l n i = runP l m i := by
  unfold runP endP; rw [if_pos h, if_pos h]
theorem runsP_mid (l : List (Int × Int)) (n m : Nat) : ∀ i, i + 1 ≤ l.length → runsP l n i = runsP l m i := by
  intro i
  induction i with
  | zero => intro _; rfl
  | succ i ih => intro h; unfold runsP; rw [ih (by omega), runP_mid l n m i h]
theorem spreadL_last (l : List (Int × Int)) (m : Nat) (hl : l ≠ []) : spreadL l m = runsP l 0 (l.length - 1) ++ List.replicate ((m : Int) - fiP l (l.length - 1)).toNat (xP l (l.length - 1)) := by
  have hp : 0 < l.length := List.length_pos_iff.2 hl
  unfold spreadL
  obtain ⟨k, hk⟩ : ∃ k, l.length = k + 1 := ⟨l.length - 1, by omega⟩
  rw [hk, Nat.add_sub_cancel]
  rw [show runsP l m (k + 1) = runsP l m k ++ runP l m k from rfl, runsP_mid l m 0 k (by omega)]
  congr 1
  unfold runP endP; rw [if_neg (by omega)]
theorem spreadL_fill (l : List (Int × Int)) (m : Nat) (hl : l ≠ []) (h : fiP l (l.length - 1) ≤ m) : spreadL l (m + 1) = spreadL l m ++ [xP l (l.length - 1)] := by
  rw [spreadL_last l _ hl, spreadL_last l _ hl, List.append_assoc, ← List.replicate_succ']
  congr 2
  omega
theorem runP_app (l : List (Int × Int)) (p : Int × Int) (n i : Nat) (h : i < l.length) (hp : 0 ≤ p.1) : runP (l ++ [p]) n i = runP l p.1.toNat i := by
  have e1 := fiP_app l p i h
  unfold runP endP
  rw [e1.1, e1.2, List.length_append, List.length_singleton, if_pos (by omega)]
  by_cases hi : i + 1 < l.length
  · rw [if_pos hi, (fiP_app l p (i + 1) hi).1]
  · have : i + 1 = l.length := by omega
    rw [if_neg hi, this, (fiP_new l p).1, Int.toNat_of_nonneg hp]
theorem runsP_app (l : List (Int × Int)) (p : Int × Int) (n : Nat) (hp : 0 ≤ p.1) : ∀ i, i ≤ l.length → runsP (l ++ [p]) n i = runsP l p.1.toNat i := by
  intro i
  induction i with
  | zero => intro _; rfl
  | succ i ih => intro h; unfold runsP; rw [ih (by omega), runP_app l p n i h hp]
theorem spreadL_snoc (l : List (Int × Int)) (f x : Int) (hf : 0 ≤ f) : spreadL (l ++ [(f, x)]) (f.toNat + 1) = spreadL l f.toNat ++ [x] := by
  unfold spreadL
  rw [List.length_append, List.length_singleton]
  rw [show runsP (l ++ [(f, x)]) (f.toNat + 1) (l.length + 1) = runsP (l ++ [(f, x)]) (f.toNat + 1) l.length ++ runP (l ++ [(f, x)]) (f.toNat + 1) l.length from rfl, runsP_app l _ _ hf _ (Nat.le_refl _)]
  congr 1
  have e := fiP_new l (f, x)
  unfold runP endP
  rw [List.length_append, List.length_singleton, if_neg (by omega), e.1, e.2]
  simp only
  rw [show (((f.toNat + 1 : Nat) : Int) - f).toNat = 1 by omega]; rfl
/-- Where the reference stands among the ranges: what is laid so far, up to m; the last range's number. -/
structure OutAt (ps : List (Int × Int)) (n : Nat) (q : Int) (o : List Int) (m : Nat) (last : Int) : Prop where
  ok : PartsOk ps n q
  out : o = spreadL ps m
  len : o.length = m
  le : m ≤ n
  nil : ps = [] → m = 0 ∧ last = 0
  lst : ps ≠ [] → fiP ps (ps.length - 1) < m ∧ last = xP ps (ps.length - 1)
theorem OutAt.start (n : Nat) (q : Int) : OutAt [] n q [] 0 0 :=
  ⟨⟨fun h => absurd rfl h, fun i h => by simp at h, fun i h => by simp at h⟩, rfl, rfl, Nat.zero_le _, fun _ => ⟨rfl, rfl⟩, fun h => absurd rfl h⟩
theorem OutAt.fill {ps : List (Int × Int)} {n : Nat} {q : Int} {o : List Int} {m : Nat} {last : Int} (h : OutAt ps n q o m last) (hp : ps ≠ []) (hm : m < n) : OutAt ps n q (o ++ [last]) (m + 1) last := by
  obtain ⟨h1, h2, h3, h4, h5, h6⟩ := h
  obtain ⟨g1, g2⟩ := h6 hp
  refine ⟨h1, ?_, by simp [h3], by omega, fun e => absurd e hp, fun _ => ⟨by omega, g2⟩⟩
  rw [spreadL_fill ps m hp (by omega), h2, g2]
theorem OutAt.next {ps : List (Int × Int)} {n : Nat} {q : Int} {o : List Int} {m : Nat} {last : Int} (h : OutAt ps n q o m last) (f x : Int) (b : Bool) (hb : ¬ pBad n q ps f x b) (hf : 0 ≤ f) (hx : 0 ≤ x) (hm : (m : Int) = f) : OutAt (ps ++ [(f, x)]) n q (o ++ [x]) (m + 1) x := by
  obtain ⟨h1, h2, h3, h4, h5, h6⟩ := h
  have hfn : f < n := Int.not_le.1 fun e => hb (.inr (.inr (.inl e)))
  have hm' : f.toNat = m := by omega
  refine ⟨h1.snoc f x b hb hf hx, ?_, by simp [h3], by omega, fun e => absurd e (by simp), fun _ => ?_⟩
  · rw [← hm', spreadL_snoc _ _ _ hf, hm', ← h2]
  · rw [List.length_append, List.length_singleton, Nat.add_sub_cancel, (fiP_new ps _).1, (fiP_new ps _).2]; exact ⟨by show f < ((m + 1 : Nat) : Int); omega, rfl⟩
/-- What the reference asks of a range is what the program asks. -/
theorem OutAt.bad {ps : List (Int × Int)} {n : Nat} {q : Int} {o : List Int} {last : Int} {m : Nat} (h : OutAt ps n q o m last) (hm : ps ≠ [] → (m : Int) = fiP ps (ps.length - 1) + 1) (f x : Int) (b : Bool) (hf : 0 ≤ f) :
    pBad n q ps f x b ↔ b = true ∨ q ≤ x ∨ n ≤ f ∨ (ps.length = 0 ∧ f ≠ 0) ∨ (0 < ps.length ∧ f ≤ (m : Int) - 1) := by
  unfold pBad
  by_cases hp : ps = []
  · subst hp; simp
  · have h0 : 0 < ps.length := List.length_pos_iff.2 hp
    have h1 := hm hp
    have h2 := (h.ok.ge (ps.length - 1) (by omega)).1
    have e : (ps.getD (ps.length - 1) (0, 0)).1 = fiP ps (ps.length - 1) := rfl
    rw [e]
    have : (m : Int) - 1 = fiP ps (ps.length - 1) := by omega
    rw [this]
    simp only [hp, false_iff]
    constructor
    · rintro (h | h | h | h | h)
      · exact .inl h
      · exact .inr (.inl h)
      · exact .inr (.inr (.inl h))
      · exact .inr (.inr (.inr (.inr ⟨h0, by have := Classical.not_not.1 h; omega⟩)))
      · exact .inr (.inr (.inr (.inr ⟨h0, h.2⟩)))
    · rintro (h | h | h | h | h)
      · exact .inl h
      · exact .inr (.inl h)
      · exact .inr (.inr (.inl h))
      · omega
      · exact .inr (.inr (.inr (.inr ⟨hp, h.2⟩)))
end Go.Proofs.YtlhkaoccnpgkeaaGreat.Ch
namespace Go.Proofs.YtlhkaoccnpgkeaaGreat.Ch
open Go.RowKit
set_option linter.unusedVariables false
set_option linter.unusedSimpArgs false
theorem rdB_bad (zs : List Int) (k m : Nat) : rdB zs k true m = true := by simp [rdB]
end Go.Proofs.YtlhkaoccnpgkeaaGreat.Ch

/- charset.one: a selection, glyph by glyph. -/
import Derived.Test.YthmokldmdcjklaaChD
import Derived.Lib.Hide

namespace Go.Proofs.Ythmokldmdcjklaa
open Go.RowKit
set_option linter.unusedVariables false
set_option linter.unusedSimpArgs false
/-- A selection, glyph by glyph: m numbers of one byte each, from place k on. -/
def oneGo (zs : List Int) (q : Int) : Nat → List Int → Nat → Option (List Int)
  | 0, l, _ => some l
  | m + 1, l, k => if rdB zs k false 1 = true ∨ q ≤ rdV zs k false 1 then none else oneGo zs q m (l ++ [rdV zs k false 1]) (rdK zs k false 1)
/-- What 'one' hands back. -/
def OneD (R : Option (List Int)) (w : World) (r : Nat) (e : Ending) (w' : World) : Prop :=
  (R = none ∧ e = .returned (.tuple #[.slice none 0 0, .bool false]) ∧ Kp [r] w w') ∨
  (∃ l v, R = some l ∧ e = .returned (.tuple #[v, .bool true]) ∧ IsInts .i64 w' v l ∧ Kp [r] w w' ∧ ∀ b, blockOf v = some b → w.heap.size ≤ b)
set_option maxRecDepth 100000 in
set_option maxHeartbeats 1000000 in
theorem one_calls (r : Nat) (v : Value) (zs : List Int) (k n : Nat) (q : Int) (hn : n ≤ 65535) (w : World) (h : Rdr w r v k false) (hz : IsInts .u8 w v zs) (hb : ∀ c ∈ zs, 0 ≤ c ∧ c ≤ 255) (hv : ∀ b, blockOf v = some b → b < w.heap.size ∧ b ≠ r) (hk : k ≤ zs.length) :
    Calls Try.prog 55 #[.pointer (some ⟨r, 0, none⟩), .int .i64 n, .int .i64 q] w (OneD (oneGo zs q n [] k) w r) := by
  have HB := Lib.hid hb
  have HV := Lib.hid hv
  have hrl : r < w.heap.size := lt_of_block h
  have hne : blockOf v ≠ some r := fun e => (hv r e).2 rfl
  clear hb hv
  go_enter Try.func55, Try.ntmps55
  go_wp2_with fail
  generalize hB : w.heap.size = B at *
  go_loopw [8, 9, 11] (fun v8 _ i wr => ∃ (j k2 : Nat) (l : List Int), j ≤ n ∧ i = .int .i64 j ∧ l.length = j ∧ wr.ownsRow B 3 1 v8 l.length (l.map (Value.int .i64)) ∧ Rdr wr r v k2 false ∧ IsInts .u8 wr v zs ∧ Kp [r] w wr ∧ k2 ≤ zs.length ∧ oneGo zs q (n - j) l k2 = oneGo zs q n [] k) (fun _ _ i _ => n - (intOf i).toNat)
  case atStart => exact ⟨0, k, [], by omega, rfl, rfl, World.ownsRow_nil _ _ _ _, h, hz, Kp.refl _ _, hk, rfl⟩
  case round =>
    obtain ⟨j, k2, l, hj, rfl, hlj, hown, hrd, hzz, hkp, hk2, hgo⟩ := hrel
    have HO := Lib.hid hown
    obtain ⟨p8, c8, rfl⟩ := slice_own hown
    have HJ := Lib.hid hlj
    clear hown hlj
    have hszr := hkp.size
    rw [hB] at hszr
    by_cases hlt : j < n
    · rw [show n - j = (n - (j + 1)) + 1 by omega] at hgo
      have HG := Lib.hid hgo
      clear hgo
      go_wp2_with fail
      refine (u8_calls r v zs k2 false _ hrd hzz HB.out hne hk2).mono ?_; rintro e wb ⟨rfl, hrb, hkb⟩
      have hzb := hzz.kp hkb (by intro s hs; simp at hs; subst hs; exact hne)
      have hob := hkb.row HO.out (by intro s hs e; simp at hs; subst hs; have := own_ge HO.out _ e; omega)
      have hk3 := rdK_le zs k2 false 1 hk2
      obtain ⟨q0, q1⟩ := rdV_bounds zs k2 false 1 HB.out
      have hstep := Lib.hid (show oneGo zs q ((n - (j + 1)) + 1) l k2 = if rdB zs k2 false 1 = true ∨ q ≤ rdV zs k2 false 1 then none else oneGo zs q (n - (j + 1)) (l ++ [rdV zs k2 false 1]) (rdK zs k2 false 1) from rfl)
      generalize rdV zs k2 false 1 = x at *
      generalize rdK zs k2 false 1 = k3 at *
      generalize rdB zs k2 false 1 = b3 at *
      go_wp2_with fail
      refine (done_calls r v _ _ _ hrb).mono ?_; rintro e w' ⟨rfl, rfl⟩
      cases b3
      · by_cases hq : q ≤ x
        · have hR := Lib.hid (HG.out.symm.trans (hstep.out.trans (if_pos (.inr hq))))
          go_wp2_with fail
          go_ret2
          exact .inl ⟨hR.out, rfl, hkp.trans hkb⟩
        · have hR := Lib.hid ((hstep.out.trans (if_neg (by simp; omega))).symm.trans HG.out)
          have hkb2 := hkp.trans hkb
          have hszb := hkb2.size
          rw [hB] at hszb
          clear hstep HG hzz hrd hkp hkb HO
          go_wp2_with (at_builtin; refine wpList_app rfl _ _ 24 rfl B 3 (.int .i64 0) 1 8 Try.underlying24 infoInt rfl (by decide) (by decide) (.slice p8 l.length c8) l.length (l.map (Value.int .i64)) rfl ?hown (.slice (some ⟨wb.heap.size, 0, none⟩) 1 1) 1 [.int .i64 x] rfl ?hsrc ?hone ?hb1 ?hb2 ?hk)
          case hown => exact hob.alloc _
          case hsrc => exact Reads.made _ _ 1 1 [.int .i64 x] _ rfl rfl (by decide)
          case hone => intro u hu; simp at hu; subst hu; rfl
          case hb1 => have := HJ.out; omega
          case hb2 => simp; omega
          case hk =>
          intro v7 w3 hown hgrow
          have hge := own_ge hob
          have hkg : Kp (Value.slice p8 l.length c8).ownBlock.toList wb w3 := Kp.grown ((Kp.refl _ _).alloc _) hgrow (fun k hk => .inl (by rw [hk]; simp))
          have hnr : ∀ s ∈ (Value.slice p8 l.length c8).ownBlock.toList, B ≤ s := by
            intro s hs; cases hv' : (Value.slice p8 l.length c8).ownBlock with
            | none => simp [hv'] at hs
            | some b => simp [hv'] at hs; subst hs; exact hge _ hv'
          have hr3 := hrb.kp hkg (fun hm => by have := hnr _ hm; omega)
          have hz3 := hzb.kp hkg (fun s hs e => by have := hnr _ hs; have := (HV.out _ e).1; omega)
          have hk4 : Kp [r] w w3 := hkb2.trans' hkg (fun t ht => .inr (by rw [hB]; exact hnr t ht))
          have HOW := Lib.hid hown
          clear hown hgrow hkg hnr hob hrb hzb hkb2 hge
          go_wp2_with fail
          go_roundw
          case rel => first | exact ⟨j + 1, k3, l ++ [x], by omega, by go_num, by simp [HJ.out], by simpa using HOW.out, hr3, hz3, hk4, hk3, hR.out⟩ | (repeat apply Exists.intro; exact ⟨⟨j + 1, k3, l ++ [x], by omega, by go_num, by simp [HJ.out], by simpa using HOW.out, hr3, hz3, hk4, hk3, hR.out⟩, rfl⟩)
          case measure => simp [intOf]; omega
      · have hR := Lib.hid (HG.out.symm.trans (hstep.out.trans (if_pos (.inl rfl))))
        go_wp2_with fail
        go_ret2
        exact .inl ⟨hR.out, rfl, hkp.trans hkb⟩
    · obtain rfl : j = n := by omega
      have hR := Lib.hid (show oneGo zs q j [] k = some l by rw [← hgo, Nat.sub_self]; rfl)
      clear hgo
      go_wp2_with fail
      go_ret2
      exact .inr ⟨l, _, hR.out, rfl, IsInts.owned HO.out, hkp, fun b hb => by have := own_geb HO.out b hb; omega⟩
end Go.Proofs.Ythmokldmdcjklaa

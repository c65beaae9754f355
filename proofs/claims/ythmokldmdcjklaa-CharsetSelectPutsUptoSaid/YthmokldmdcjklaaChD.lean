/- The reference's Load: what bytes are as a charset. (Written by wip/charset/genrload.py.) -/
import Derived.Test.YthmokldmdcjklaaChB
namespace Go.Proofs.Ythmokldmdcjklaa
open Go.RowKit
set_option linter.unusedVariables false
/-- Where a load stands in memory: the numbers so far, in a row of its own; its reader. -/
def ChStR (w wr : World) (r : Nat) (v : Value) (zs : List Int) (k : Nat) (l : List Int) (v9 : Value) : Prop :=
  wr.ownsRow (r + 1) 3 1 v9 l.length (l.map (Value.int .i64)) ∧ Rrd wr r v k false ∧ IsInts .u8 wr v zs ∧ Kp [] w wr ∧ r + 1 ≤ wr.heap.size ∧ w.heap.size = r ∧ (∀ b, blockOf v = some b → b < r)
theorem ChStR.app {w wr w2 : World} {r : Nat} {v : Value} {zs : List Int} {k : Nat} {l : List Int} {v9 v' : Value} {x : Int} {o : Obj} (h : ChStR w wr r v zs k l v9)
    (hown : w2.ownsRow (r + 1) 3 1 v' (l.length + 1) (l.map (Value.int .i64) ++ [.int .i64 x])) (hg : (wr.alloc o).grownBy w2 v9.ownBlock) : ChStR w w2 r v zs k (l ++ [x]) v' := by
  obtain ⟨h1, h2, h3, h4, h5, h6, h7⟩ := h
  have hge := own_ge h1
  have hk : Kp [] w w2 := Kp.grown (h4.alloc o) hg (fun k hk => .inr (by have := hge k hk; omega))
  have hk' : ∀ b, v9.ownBlock = some b → b ≠ r := fun b hb => by have := hge b hb; omega
  have hk2 : Kp (v9.ownBlock.toList) wr w2 := Kp.grown ((Kp.refl _ _).alloc o) hg (fun k hk => .inl (by rw [hk]; simp))
  refine ⟨by simpa using hown, h2.kp hk2 ?_, h3.kp hk2 ?_, hk, Nat.le_trans h5 hk2.size, h6, h7⟩
  · intro hm; cases hv : v9.ownBlock with
    | none => simp [hv] at hm
    | some b => simp [hv] at hm; exact hk' b hv hm.symm
  · intro s hs; cases hv : v9.ownBlock with
    | none => simp [hv] at hs
    | some b => simp [hv] at hs; subst hs; intro e; have := h7 _ e; have := hge _ hv; omega

/-- What the reference's load hands back. -/
def RLoaded (k : IntKind) (R : Option (List Int)) (w : World) (e : Ending) (w' : World) : Prop :=
  (R = none ∧ ∃ v, e = .returned (.tuple #[v, .bool false]) ∧ Kp [] w w') ∨
  (∃ l v, R = some l ∧ e = .returned (.tuple #[v, .bool true]) ∧ IsInts k w' v l ∧ Kp [] w w' ∧ ∀ b, blockOf v = some b → w.heap.size ≤ b)
set_option maxRecDepth 100000 in
set_option maxHeartbeats 1000000 in
theorem rload_bad (v : Value) (zs : List Int) (n : Nat) (h1 : 1 ≤ n) (h2 : n ≤ 65535) (w : World) (hz : IsInts .u8 w v zs) (hb : ∀ c ∈ zs, 0 ≤ c ∧ c ≤ 255) (hv : ∀ b, blockOf v = some b → b < w.heap.size)
    (HB1 : Hid (rdB zs 0 false 1 = true)) :
    Calls Try.prog 14 #[v, .int .i64 n] w (RLoaded .i64 none w) := by
  have HB : Hid _ := hb
  have HV : Hid _ := hv
  have hne : blockOf v ≠ some w.heap.size := fun e => by have := HV.out _ e; omega
  have hr1 : Rrd (w.alloc (.cells #[v, .int .i64 0, .bool false] 81)) w.heap.size v (0 : Nat) false := heap_alloc_new w _
  have hk1 : Kp [] w (w.alloc (.cells #[v, .int .i64 0, .bool false] 81)) := by (repeat (first | exact Kp.refl _ _ | assumption | refine Kp.drew ?_ | refine Kp.drewN ?_ _ | refine Kp.alloc ?_ _ | (refine Kp.setCell ?_ (by first | (left; simp; done) | (right; simp; try omega)) _) | (refine Kp.trans' ?_ (by assumption) (by simp; try omega))))
  have hz1 := hz.kp hk1 (by simp)
  have hsz : w.heap.size < (w.alloc (.cells #[v, .int .i64 0, .bool false] 81)).heap.size := by simp
  obtain ⟨pa, ca, hva⟩ : ∃ p c, v = .slice p zs.length c := by
    rcases hz with ⟨⟨ad, rfl⟩, rfl⟩ | ⟨g, off, c, rfl, _⟩
    · exact ⟨_, 0, rfl⟩
    · exact ⟨_, c, rfl⟩
  clear hb hv hz
  subst hva
  go_enter Try.func14, Try.ntmps14
  go_wp2_with fail
  generalize hvv : Value.slice pa zs.length ca = v at *
  generalize w.alloc (.cells #[v, .int .i64 0, .bool false] 81) = w1 at *
  generalize hr : w.heap.size = r at *
  refine (ru_calls r v zs 0 1 false 1 rfl _ hr1 hz1 HB.out hne (by omega) (by omega) (by omega)).mono ?_; rintro e w2 ⟨rfl, hr2, hk2⟩
  rw [HB1.out] at hr2
  obtain ⟨c0, c1, c2, f1, f2⟩ := hr2.facts
  generalize rdV zs 0 false 1 = fv at *
  clear hvv
  go_wp2_with fail
  go_ret2
  exact .inl ⟨rfl, _, rfl, by subst hr; (repeat (first | exact Kp.refl _ _ | assumption | refine Kp.drew ?_ | refine Kp.drewN ?_ _ | refine Kp.alloc ?_ _ | (refine Kp.setCell ?_ (by first | (left; simp; done) | (right; simp; try omega)) _) | (refine Kp.trans' ?_ (by assumption) (by simp; try omega))))⟩
set_option maxRecDepth 100000 in
set_option maxHeartbeats 1000000 in
theorem rload_fmt (v : Value) (zs : List Int) (n : Nat) (h1 : 1 ≤ n) (h2 : n ≤ 65535) (w : World) (hz : IsInts .u8 w v zs) (hb : ∀ c ∈ zs, 0 ≤ c ∧ c ≤ 255) (hv : ∀ b, blockOf v = some b → b < w.heap.size)
    (HB1 : Hid (rdB zs 0 false 1 = false)) (hf : 2 < rdV zs 0 false 1) :
    Calls Try.prog 14 #[v, .int .i64 n] w (RLoaded .i64 none w) := by
  have HB : Hid _ := hb
  have HV : Hid _ := hv
  have hne : blockOf v ≠ some w.heap.size := fun e => by have := HV.out _ e; omega
  have hr1 : Rrd (w.alloc (.cells #[v, .int .i64 0, .bool false] 81)) w.heap.size v (0 : Nat) false := heap_alloc_new w _
  have hk1 : Kp [] w (w.alloc (.cells #[v, .int .i64 0, .bool false] 81)) := by (repeat (first | exact Kp.refl _ _ | assumption | refine Kp.drew ?_ | refine Kp.drewN ?_ _ | refine Kp.alloc ?_ _ | (refine Kp.setCell ?_ (by first | (left; simp; done) | (right; simp; try omega)) _) | (refine Kp.trans' ?_ (by assumption) (by simp; try omega))))
  have hz1 := hz.kp hk1 (by simp)
  have hsz : w.heap.size < (w.alloc (.cells #[v, .int .i64 0, .bool false] 81)).heap.size := by simp
  obtain ⟨pa, ca, hva⟩ : ∃ p c, v = .slice p zs.length c := by
    rcases hz with ⟨⟨ad, rfl⟩, rfl⟩ | ⟨g, off, c, rfl, _⟩
    · exact ⟨_, 0, rfl⟩
    · exact ⟨_, c, rfl⟩
  clear hb hv hz
  subst hva
  go_enter Try.func14, Try.ntmps14
  go_wp2_with fail
  generalize hvv : Value.slice pa zs.length ca = v at *
  generalize w.alloc (.cells #[v, .int .i64 0, .bool false] 81) = w1 at *
  generalize hr : w.heap.size = r at *
  refine (ru_calls r v zs 0 1 false 1 rfl _ hr1 hz1 HB.out hne (by omega) (by omega) (by omega)).mono ?_; rintro e w2 ⟨rfl, hr2, hk2⟩
  rw [HB1.out] at hr2
  obtain ⟨c0, c1, c2, f1, f2⟩ := hr2.facts
  generalize rdV zs 0 false 1 = fv at *
  clear hvv
  go_wp2_with fail
  go_ret2
  exact .inl ⟨rfl, _, rfl, by subst hr; (repeat (first | exact Kp.refl _ _ | assumption | refine Kp.drew ?_ | refine Kp.drewN ?_ _ | refine Kp.alloc ?_ _ | (refine Kp.setCell ?_ (by first | (left; simp; done) | (right; simp; try omega)) _) | (refine Kp.trans' ?_ (by assumption) (by simp; try omega))))⟩
set_option maxRecDepth 100000 in
set_option maxHeartbeats 4000000 in
theorem rload_f0 (v : Value) (zs : List Int) (n : Nat) (h1 : 1 ≤ n) (h2 : n ≤ 65535) (w : World) (hz : IsInts .u8 w v zs) (hb : ∀ c ∈ zs, 0 ≤ c ∧ c ≤ 255) (hv : ∀ b, blockOf v = some b → b < w.heap.size)
    (HB1 : Hid (rdB zs 0 false 1 = false)) (HF : Hid (rdV zs 0 false 1 = 0)) :
    Calls Try.prog 14 #[v, .int .i64 n] w (RLoaded .i64 (csLoad zs n) w) := by
  have HC : Hid (CsAt zs 0 n (csLoad zs n) [0] (rdK zs 0 false 1)) := by
    have := csAt_start zs n h1 HB1.out (by rw [HF.out]; omega)
    rw [HF.out] at this; exact this
  have HB : Hid _ := hb
  have HV : Hid _ := hv
  have hne : blockOf v ≠ some w.heap.size := fun e => by have := HV.out _ e; omega
  have hr1 : Rrd (w.alloc (.cells #[v, .int .i64 0, .bool false] 81)) w.heap.size v (0 : Nat) false := heap_alloc_new w _
  have hk1 : Kp [] w (w.alloc (.cells #[v, .int .i64 0, .bool false] 81)) := by (repeat (first | exact Kp.refl _ _ | assumption | refine Kp.drew ?_ | refine Kp.drewN ?_ _ | refine Kp.alloc ?_ _ | (refine Kp.setCell ?_ (by first | (left; simp; done) | (right; simp; try omega)) _) | (refine Kp.trans' ?_ (by assumption) (by simp; try omega))))
  have hz1 := hz.kp hk1 (by simp)
  have hsz : w.heap.size < (w.alloc (.cells #[v, .int .i64 0, .bool false] 81)).heap.size := by simp
  obtain ⟨pa, ca, hva⟩ : ∃ p c, v = .slice p zs.length c := by
    rcases hz with ⟨⟨ad, rfl⟩, rfl⟩ | ⟨g, off, c, rfl, _⟩
    · exact ⟨_, 0, rfl⟩
    · exact ⟨_, c, rfl⟩
  clear hb hv hz
  subst hva
  go_enter Try.func14, Try.ntmps14
  go_wp2_with fail
  generalize hvv : Value.slice pa zs.length ca = v at *
  generalize w.alloc (.cells #[v, .int .i64 0, .bool false] 81) = w1 at *
  generalize hr : w.heap.size = r at *
  refine (ru_calls r v zs 0 1 false 1 rfl _ hr1 hz1 HB.out hne (by omega) (by omega) (by omega)).mono ?_; rintro e w2 ⟨rfl, hr2, hk2⟩
  rw [HB1.out] at hr2
  obtain ⟨c0, c1, c2, f1, f2⟩ := hr2.facts
  rw [HF.out]
  generalize hk0 : rdK zs 0 false 1 = k0 at *
  clear hvv
  go_wp2_with fail
  have hst : ChStR w (w2.alloc (.cells #[.int .i64 0] 3)) r v zs k0 [0] (.slice (some ⟨w2.heap.size, 0, none⟩) 1 1) := by
    have hs2 := hk2.size
    refine ⟨own_lit w2 _ _ _ 1 1 #[.int .i64 0] rfl (by omega) (by decide) rfl, hr2.kp (S := []) (by (repeat (first | exact Kp.refl _ _ | assumption | refine Kp.drew ?_ | refine Kp.drewN ?_ _ | refine Kp.alloc ?_ _ | (refine Kp.setCell ?_ (by first | (left; simp; done) | (right; simp; try omega)) _) | (refine Kp.trans' ?_ (by assumption) (by simp; try omega))))) (by simp), hz1.kp (S := [r]) (by (repeat (first | exact Kp.refl _ _ | assumption | refine Kp.drew ?_ | refine Kp.drewN ?_ _ | refine Kp.alloc ?_ _ | (refine Kp.setCell ?_ (by first | (left; simp; done) | (right; simp; try omega)) _) | (refine Kp.trans' ?_ (by assumption) (by simp; try omega))))) (by intro s hs; simp at hs; subst hs; exact hne), by subst hr; (repeat (first | exact Kp.refl _ _ | assumption | refine Kp.drew ?_ | refine Kp.drewN ?_ _ | refine Kp.alloc ?_ _ | (refine Kp.setCell ?_ (by first | (left; simp; done) | (right; simp; try omega)) _) | (refine Kp.trans' ?_ (by assumption) (by simp; try omega)))), by simp; omega, hr, fun b hb => by have := HV.out b hb; exact this⟩
  clear hr2 hz1 hk1 hk2 hr1 hsz c0 c1 c2 f1 f2
  go_loopw [8, 9, 10, 11] (fun v9 _ _ _ wr => ∃ (k : Nat) (l : List Int), ChStR w wr r v zs k l v9 ∧ CsAt zs 0 n (csLoad zs n) l k) (fun v9 _ _ _ _ => n - vlen v9)
  case atStart => exact ⟨k0, [0], hst, HC.out⟩
  case round =>
    obtain ⟨k, l, hs, hc⟩ := hrel
    obtain ⟨hown, hrd, hzz, hkk, hbs, hwr, hvb⟩ := hs
    obtain ⟨p9, c9, rfl⟩ := slice_own hown
    have hkz := hc.1
    have hln := hc.2.2.1
    have HC2 : Hid _ := hc
    clear hc
    have HO : Hid _ := hown
    clear hown
    by_cases hlt : l.length < n
    · obtain ⟨q0, q1'⟩ := rdV_bounds zs k false 2 HB.out
      have q1 : rdV zs k false 2 < 65536 := by omega
      clear q1'
      go_wp2_with fail
      refine (ru_calls r v zs k 2 false 2 rfl _ hrd hzz HB.out hne (by omega) (by omega) hkz).mono ?_; rintro e wb ⟨rfl, hrb, hka⟩
      have hzb := hzz.kp hka (by intro s hs; simp at hs; subst hs; exact hne)
      have hob := hka.row HO.out (by intro s hs e; simp at hs; subst hs; have := own_ge HO.out _ e; omega)
      have hkwb : Kp [r] wr wb := hka
      have hfail := csAt_fail zs 0 n _ l k HC2.out hlt
      have hstep := csAt_step zs 0 n _ l k HC2.out hlt
      rw [show csB zs 0 k = rdB zs k false 2 from rfl, show csM zs 0 k = csM zs 0 k from rfl, show cs1 zs 0 k = rdV zs k false 2 from rfl] at hfail hstep
      rw [show csK zs 0 k = rdK zs k false 2 from rfl] at hstep
      have hmor : csM zs 0 k = 0 := rfl
      generalize csM zs 0 k = mor at *
      have q2 : 0 ≤ mor := by omega
      have q3 : mor < 1 := by omega
      have q4 : Hid (mor = 0) := hmor
      clear hmor
      generalize rdK zs k false 2 = k2 at *
      generalize rdB zs k false 2 = b2 at *
      generalize rdV zs k false 2 = fst at *
      have HFA : Hid _ := hfail
      have HST : Hid _ := hstep
      clear hfail hstep
      obtain ⟨e0, e1, e2, e3, e4⟩ := hrb.facts
      clear e0 e1 e3 e4
      cases b2
      · by_cases g1 : 65535 < fst + mor
        · have hn0 := HFA.out (.inr (.inl g1))
          exfalso; omega
        · by_cases g2 : (n : Int) - l.length ≤ mor
          · have hn0 := HFA.out (.inr (.inr g2))
            exfalso; omega
          · have hst2 : Hid _ := HST.out (by rintro (h | h | h); exact absurd h (by simp); exact g1 h; exact g2 h) q2
            have hs0 : Hid (ChStR w wb r v zs k2 l (.slice p9 l.length c9)) := ⟨hob, hrb, hzb, by subst hwr; (repeat (first | exact Kp.refl _ _ | assumption | refine Kp.drew ?_ | refine Kp.drewN ?_ _ | refine Kp.alloc ?_ _ | (refine Kp.setCell ?_ (by first | (left; simp; done) | (right; simp; try omega)) _) | (refine Kp.trans' ?_ (by assumption) (by simp; try omega)))), by have := hkwb.size; omega, hwr, hvb⟩
            have hvo : vlen (.slice p9 l.length c9) = l.length := rfl
            clear hob hrb hzb hkwb hzz hrd hkk hka hwr hvb HFA HST
            obtain rfl : mor = 0 := q4.out
            clear q3
            go_wp2_with fail
            go_loopw [8, 11] (fun v9 x wi => ∃ (j : Nat) (L : List Int), j ≤ 1 ∧ x = .int .i64 j ∧ Hid (L = l ++ ups fst j) ∧ ChStR w wi r v zs k2 L v9) (fun _ x _ => (1 - intOf x).toNat)
            case atStart => exact ⟨0, l, by omega, by simp, by simp [Hid, ups], hs0.out⟩
            case round =>
              obtain ⟨j, L, hj, rfl, hL, hs⟩ := hrel
              have HS : Hid _ := hs
              obtain ⟨p8, c8, rfl⟩ := slice_own hs.1
              have hl8 : L.length ≤ l.length + j := by rw [hL.out, List.length_append, ups_length]; omega
              clear hs
              by_cases hlj : j ≤ 0
              · have hsr := HS.out.2.2.2.2.1
                obtain rfl : j = 0 := by omega
                go_wp2_with (at_builtin; refine wpList_app rfl _ _ 24 rfl (r + 1) 3 (.int .i64 0) 1 8 Try.underlying24 infoInt rfl (by decide) (by decide) (.slice p8 L.length c8) L.length (L.map (Value.int .i64)) rfl ?hown (.slice (some ⟨wr.heap.size, 0, none⟩) 1 1) 1 [.int .i64 fst] rfl ?hsrc ?hone ?hb1 ?hb2 ?hk)
                case hown => exact HS.out.1.alloc _
                case hsrc => exact Reads.made _ _ 1 1 [.int .i64 fst] _ rfl rfl (by decide)
                case hone => intro u hu; simp at hu; subst hu; rfl
                case hb1 => omega
                case hb2 => simp; omega
                case hk =>
                  intro v' wj hown hgr
                  have hs' : ChStR w wj r v zs k2 (L ++ [fst]) v' := ChStR.app HS.out hown hgr
                  clear hown hgr HS
                  go_wp2_with fail
                  go_roundw
                  case rel => exact ⟨1, L ++ [fst], by omega, int_eq (by omega), by unfold Hid; rw [hL.out]; simp [ups], hs'⟩
                  case measure => simp [intOf]
              · obtain rfl : j = 1 := by omega
                have hl9 : L.length = l.length + 1 := by rw [hL.out, List.length_append, ups_length]
                have HL9 : Hid (n - L.length < n - l.length) := by unfold Hid; omega
                clear hl9
                go_wp2_with fail
                go_roundw
                case rel => first | exact ⟨k2, L, HS.out, (by rw [hL.out]; exact hst2.out)⟩ | (repeat apply Exists.intro; exact ⟨⟨k2, L, HS.out, (by rw [hL.out]; exact hst2.out)⟩, rfl⟩)
                case measure => exact HL9.out
      · have hn0 := HFA.out (.inl rfl)
        go_wp2_with fail
        go_ret2
        exact .inl ⟨hn0, _, rfl, by subst hwr; (repeat (first | exact Kp.refl _ _ | assumption | refine Kp.drew ?_ | refine Kp.drewN ?_ _ | refine Kp.alloc ?_ _ | (refine Kp.setCell ?_ (by first | (left; simp; done) | (right; simp; try omega)) _) | (refine Kp.trans' ?_ (by assumption) (by simp; try omega))))⟩
    · have hR := csAt_end zs 0 n _ l k HC2.out hlt
      have hln' : l.length = n := by omega
      have HR : Hid _ := hR
      have HL : Hid _ := hln'
      clear hR hln'
      go_wp2_with fail
      go_ret2
      exact .inr ⟨l, _, HR.out, rfl, IsInts.owned (by have := HO.out; exact this), by subst hwr; exact hkk, fun b hb => by have := own_geb HO.out b hb; omega⟩
set_option maxRecDepth 100000 in
set_option maxHeartbeats 4000000 in
theorem rload_f1 (v : Value) (zs : List Int) (n : Nat) (h1 : 1 ≤ n) (h2 : n ≤ 65535) (w : World) (hz : IsInts .u8 w v zs) (hb : ∀ c ∈ zs, 0 ≤ c ∧ c ≤ 255) (hv : ∀ b, blockOf v = some b → b < w.heap.size)
    (HB1 : Hid (rdB zs 0 false 1 = false)) (HF : Hid (rdV zs 0 false 1 = 1)) :
    Calls Try.prog 14 #[v, .int .i64 n] w (RLoaded .i64 (csLoad zs n) w) := by
  have HC : Hid (CsAt zs 1 n (csLoad zs n) [0] (rdK zs 0 false 1)) := by
    have := csAt_start zs n h1 HB1.out (by rw [HF.out]; omega)
    rw [HF.out] at this; exact this
  have HB : Hid _ := hb
  have HV : Hid _ := hv
  have hne : blockOf v ≠ some w.heap.size := fun e => by have := HV.out _ e; omega
  have hr1 : Rrd (w.alloc (.cells #[v, .int .i64 0, .bool false] 81)) w.heap.size v (0 : Nat) false := heap_alloc_new w _
  have hk1 : Kp [] w (w.alloc (.cells #[v, .int .i64 0, .bool false] 81)) := by (repeat (first | exact Kp.refl _ _ | assumption | refine Kp.drew ?_ | refine Kp.drewN ?_ _ | refine Kp.alloc ?_ _ | (refine Kp.setCell ?_ (by first | (left; simp; done) | (right; simp; try omega)) _) | (refine Kp.trans' ?_ (by assumption) (by simp; try omega))))
  have hz1 := hz.kp hk1 (by simp)
  have hsz : w.heap.size < (w.alloc (.cells #[v, .int .i64 0, .bool false] 81)).heap.size := by simp
  obtain ⟨pa, ca, hva⟩ : ∃ p c, v = .slice p zs.length c := by
    rcases hz with ⟨⟨ad, rfl⟩, rfl⟩ | ⟨g, off, c, rfl, _⟩
    · exact ⟨_, 0, rfl⟩
    · exact ⟨_, c, rfl⟩
  clear hb hv hz
  subst hva
  go_enter Try.func14, Try.ntmps14
  go_wp2_with fail
  generalize hvv : Value.slice pa zs.length ca = v at *
  generalize w.alloc (.cells #[v, .int .i64 0, .bool false] 81) = w1 at *
  generalize hr : w.heap.size = r at *
  refine (ru_calls r v zs 0 1 false 1 rfl _ hr1 hz1 HB.out hne (by omega) (by omega) (by omega)).mono ?_; rintro e w2 ⟨rfl, hr2, hk2⟩
  rw [HB1.out] at hr2
  obtain ⟨c0, c1, c2, f1, f2⟩ := hr2.facts
  rw [HF.out]
  generalize hk0 : rdK zs 0 false 1 = k0 at *
  clear hvv
  go_wp2_with fail
  have hst : ChStR w (w2.alloc (.cells #[.int .i64 0] 3)) r v zs k0 [0] (.slice (some ⟨w2.heap.size, 0, none⟩) 1 1) := by
    have hs2 := hk2.size
    refine ⟨own_lit w2 _ _ _ 1 1 #[.int .i64 0] rfl (by omega) (by decide) rfl, hr2.kp (S := []) (by (repeat (first | exact Kp.refl _ _ | assumption | refine Kp.drew ?_ | refine Kp.drewN ?_ _ | refine Kp.alloc ?_ _ | (refine Kp.setCell ?_ (by first | (left; simp; done) | (right; simp; try omega)) _) | (refine Kp.trans' ?_ (by assumption) (by simp; try omega))))) (by simp), hz1.kp (S := [r]) (by (repeat (first | exact Kp.refl _ _ | assumption | refine Kp.drew ?_ | refine Kp.drewN ?_ _ | refine Kp.alloc ?_ _ | (refine Kp.setCell ?_ (by first | (left; simp; done) | (right; simp; try omega)) _) | (refine Kp.trans' ?_ (by assumption) (by simp; try omega))))) (by intro s hs; simp at hs; subst hs; exact hne), by subst hr; (repeat (first | exact Kp.refl _ _ | assumption | refine Kp.drew ?_ | refine Kp.drewN ?_ _ | refine Kp.alloc ?_ _ | (refine Kp.setCell ?_ (by first | (left; simp; done) | (right; simp; try omega)) _) | (refine Kp.trans' ?_ (by assumption) (by simp; try omega)))), by simp; omega, hr, fun b hb => by have := HV.out b hb; exact this⟩
  clear hr2 hz1 hk1 hk2 hr1 hsz c0 c1 c2 f1 f2
  go_loopw [8, 9, 10, 11] (fun v9 _ _ _ wr => ∃ (k : Nat) (l : List Int), ChStR w wr r v zs k l v9 ∧ CsAt zs 1 n (csLoad zs n) l k) (fun v9 _ _ _ _ => n - vlen v9)
  case atStart => exact ⟨k0, [0], hst, HC.out⟩
  case round =>
    obtain ⟨k, l, hs, hc⟩ := hrel
    obtain ⟨hown, hrd, hzz, hkk, hbs, hwr, hvb⟩ := hs
    obtain ⟨p9, c9, rfl⟩ := slice_own hown
    have hkz := hc.1
    have hln := hc.2.2.1
    have HC2 : Hid _ := hc
    clear hc
    have HO : Hid _ := hown
    clear hown
    by_cases hlt : l.length < n
    · obtain ⟨q0, q1'⟩ := rdV_bounds zs k false 2 HB.out
      have q1 : rdV zs k false 2 < 65536 := by omega
      clear q1'
      go_wp2_with fail
      refine (ru_calls r v zs k 2 false 2 rfl _ hrd hzz HB.out hne (by omega) (by omega) hkz).mono ?_; rintro e wa ⟨rfl, hra, hka⟩
      have hza := hzz.kp hka (by intro s hs; simp at hs; subst hs; exact hne)
      have hoa := hka.row HO.out (by intro s hs e; simp at hs; subst hs; have := own_ge HO.out _ e; omega)
      go_wp2_with fail
      refine (ru_calls r v zs _ 1 _ 1 rfl _ hra hza HB.out hne (by omega) (by omega) (rdK_le _ _ _ _ hkz)).mono ?_; rintro e wb ⟨rfl, hrb, hkb⟩
      have hzb := hza.kp hkb (by intro s hs; simp at hs; subst hs; exact hne)
      have hob := hkb.row hoa (by intro s hs e; simp at hs; subst hs; have := own_ge HO.out _ e; omega)
      have hkwb : Kp [r] wr wb := hka.trans hkb
      have hfail := csAt_fail zs 1 n _ l k HC2.out hlt
      have hstep := csAt_step zs 1 n _ l k HC2.out hlt
      obtain ⟨q2, q3'⟩ := rdV_bounds zs (rdK zs k false 2) (rdB zs k false 2) 1 HB.out
      have q3 : rdV zs (rdK zs k false 2) (rdB zs k false 2) 1 < 65536 := by omega
      clear q3'
      rw [show csB zs 1 k = rdB zs (rdK zs k false 2) (rdB zs k false 2) 1 from rfl, show csM zs 1 k = rdV zs (rdK zs k false 2) (rdB zs k false 2) 1 from rfl, show cs1 zs 1 k = rdV zs k false 2 from rfl] at hfail hstep
      rw [show csK zs 1 k = rdK zs (rdK zs k false 2) (rdB zs k false 2) 1 from rfl] at hstep
      generalize rdV zs (rdK zs k false 2) (rdB zs k false 2) 1 = mor at *
      generalize rdK zs (rdK zs k false 2) (rdB zs k false 2) 1 = k2 at *
      generalize rdB zs (rdK zs k false 2) (rdB zs k false 2) 1 = b2 at *
      generalize rdV zs k false 2 = fst at *
      have HFA : Hid _ := hfail
      have HST : Hid _ := hstep
      clear hfail hstep
      obtain ⟨e0, e1, e2, e3, e4⟩ := hrb.facts
      clear e0 e1 e3 e4
      cases b2
      · by_cases g1 : 65535 < fst + mor
        · have hn0 := HFA.out (.inr (.inl g1))
          go_wp2_with fail
          go_ret2
          exact .inl ⟨hn0, _, rfl, by subst hwr; (repeat (first | exact Kp.refl _ _ | assumption | refine Kp.drew ?_ | refine Kp.drewN ?_ _ | refine Kp.alloc ?_ _ | (refine Kp.setCell ?_ (by first | (left; simp; done) | (right; simp; try omega)) _) | (refine Kp.trans' ?_ (by assumption) (by simp; try omega))))⟩
        · by_cases g2 : (n : Int) - l.length ≤ mor
          · have hn0 := HFA.out (.inr (.inr g2))
            go_wp2_with fail
            go_ret2
            exact .inl ⟨hn0, _, rfl, by subst hwr; (repeat (first | exact Kp.refl _ _ | assumption | refine Kp.drew ?_ | refine Kp.drewN ?_ _ | refine Kp.alloc ?_ _ | (refine Kp.setCell ?_ (by first | (left; simp; done) | (right; simp; try omega)) _) | (refine Kp.trans' ?_ (by assumption) (by simp; try omega))))⟩
          · have hst2 : Hid _ := HST.out (by rintro (h | h | h); exact absurd h (by simp); exact g1 h; exact g2 h) q2
            have hs0 : Hid (ChStR w wb r v zs k2 l (.slice p9 l.length c9)) := ⟨hob, hrb, hzb, by subst hwr; (repeat (first | exact Kp.refl _ _ | assumption | refine Kp.drew ?_ | refine Kp.drewN ?_ _ | refine Kp.alloc ?_ _ | (refine Kp.setCell ?_ (by first | (left; simp; done) | (right; simp; try omega)) _) | (refine Kp.trans' ?_ (by assumption) (by simp; try omega)))), by have := hkwb.size; omega, hwr, hvb⟩
            have hvo : vlen (.slice p9 l.length c9) = l.length := rfl
            clear hob hrb hzb hkwb hzz hrd hkk hka hwr hvb hza hoa hra hkb HFA HST
            obtain ⟨m, rfl⟩ : ∃ m : Nat, mor = m := ⟨mor.toNat, by omega⟩
            clear q3
            go_wp2_with fail
            go_loopw [8, 11] (fun v9 x wi => ∃ (j : Nat) (L : List Int), j ≤ m + 1 ∧ x = .int .i64 j ∧ Hid (L = l ++ ups fst j) ∧ ChStR w wi r v zs k2 L v9) (fun _ x _ => (m + 1 - intOf x).toNat)
            case atStart => exact ⟨0, l, by omega, by simp, by simp [Hid, ups], hs0.out⟩
            case round =>
              obtain ⟨j, L, hj, rfl, hL, hs⟩ := hrel
              have HS : Hid _ := hs
              obtain ⟨p8, c8, rfl⟩ := slice_own hs.1
              have hl8 : L.length ≤ l.length + j := by rw [hL.out, List.length_append, ups_length]; omega
              clear hs
              by_cases hlj : j ≤ m
              · have hsr := HS.out.2.2.2.2.1
                go_wp2_with (at_builtin; refine wpList_app rfl _ _ 24 rfl (r + 1) 3 (.int .i64 0) 1 8 Try.underlying24 infoInt rfl (by decide) (by decide) (.slice p8 L.length c8) L.length (L.map (Value.int .i64)) rfl ?hown (.slice (some ⟨wr.heap.size, 0, none⟩) 1 1) 1 [.int .i64 (fst + j)] rfl ?hsrc ?hone ?hb1 ?hb2 ?hk)
                case hown => exact HS.out.1.alloc _
                case hsrc => exact Reads.made _ _ 1 1 [.int .i64 (fst + j)] _ rfl rfl (by decide)
                case hone => intro u hu; simp at hu; subst hu; rfl
                case hb1 => omega
                case hb2 => simp; omega
                case hk =>
                  intro v' wj hown hgr
                  have hs' : ChStR w wj r v zs k2 (L ++ [fst + j]) v' := ChStR.app HS.out hown hgr
                  clear hown hgr HS
                  go_wp2_with fail
                  go_roundw
                  case rel => exact ⟨j + 1, L ++ [fst + j], by omega, int_eq (by omega), by unfold Hid; rw [hL.out, ups_succ, List.append_assoc], hs'⟩
                  case measure => simp [intOf]; omega
              · obtain rfl : j = m + 1 := by omega
                have hl9 : L.length = l.length + (m + 1) := by rw [hL.out, List.length_append, ups_length]
                have HL9 : Hid (n - L.length < n - l.length) := by unfold Hid; omega
                clear hl9
                go_wp2_with fail
                go_roundw
                case rel => first | exact ⟨k2, L, HS.out, (by have := hst2.out; rw [Int.toNat_natCast] at this; rw [hL.out]; exact this)⟩ | (repeat apply Exists.intro; exact ⟨⟨k2, L, HS.out, (by have := hst2.out; rw [Int.toNat_natCast] at this; rw [hL.out]; exact this)⟩, rfl⟩)
                case measure => exact HL9.out
      · have hn0 := HFA.out (.inl rfl)
        go_wp2_with fail
        go_ret2
        exact .inl ⟨hn0, _, rfl, by subst hwr; (repeat (first | exact Kp.refl _ _ | assumption | refine Kp.drew ?_ | refine Kp.drewN ?_ _ | refine Kp.alloc ?_ _ | (refine Kp.setCell ?_ (by first | (left; simp; done) | (right; simp; try omega)) _) | (refine Kp.trans' ?_ (by assumption) (by simp; try omega))))⟩
    · have hR := csAt_end zs 1 n _ l k HC2.out hlt
      have hln' : l.length = n := by omega
      have HR : Hid _ := hR
      have HL : Hid _ := hln'
      clear hR hln'
      go_wp2_with fail
      go_ret2
      exact .inr ⟨l, _, HR.out, rfl, IsInts.owned (by have := HO.out; exact this), by subst hwr; exact hkk, fun b hb => by have := own_geb HO.out b hb; omega⟩
set_option maxRecDepth 100000 in
set_option maxHeartbeats 4000000 in
theorem rload_f2 (v : Value) (zs : List Int) (n : Nat) (h1 : 1 ≤ n) (h2 : n ≤ 65535) (w : World) (hz : IsInts .u8 w v zs) (hb : ∀ c ∈ zs, 0 ≤ c ∧ c ≤ 255) (hv : ∀ b, blockOf v = some b → b < w.heap.size)
    (HB1 : Hid (rdB zs 0 false 1 = false)) (HF : Hid (rdV zs 0 false 1 = 2)) :
    Calls Try.prog 14 #[v, .int .i64 n] w (RLoaded .i64 (csLoad zs n) w) := by
  have HC : Hid (CsAt zs 2 n (csLoad zs n) [0] (rdK zs 0 false 1)) := by
    have := csAt_start zs n h1 HB1.out (by rw [HF.out]; omega)
    rw [HF.out] at this; exact this
  have HB : Hid _ := hb
  have HV : Hid _ := hv
  have hne : blockOf v ≠ some w.heap.size := fun e => by have := HV.out _ e; omega
  have hr1 : Rrd (w.alloc (.cells #[v, .int .i64 0, .bool false] 81)) w.heap.size v (0 : Nat) false := heap_alloc_new w _
  have hk1 : Kp [] w (w.alloc (.cells #[v, .int .i64 0, .bool false] 81)) := by (repeat (first | exact Kp.refl _ _ | assumption | refine Kp.drew ?_ | refine Kp.drewN ?_ _ | refine Kp.alloc ?_ _ | (refine Kp.setCell ?_ (by first | (left; simp; done) | (right; simp; try omega)) _) | (refine Kp.trans' ?_ (by assumption) (by simp; try omega))))
  have hz1 := hz.kp hk1 (by simp)
  have hsz : w.heap.size < (w.alloc (.cells #[v, .int .i64 0, .bool false] 81)).heap.size := by simp
  obtain ⟨pa, ca, hva⟩ : ∃ p c, v = .slice p zs.length c := by
    rcases hz with ⟨⟨ad, rfl⟩, rfl⟩ | ⟨g, off, c, rfl, _⟩
    · exact ⟨_, 0, rfl⟩
    · exact ⟨_, c, rfl⟩
  clear hb hv hz
  subst hva
  go_enter Try.func14, Try.ntmps14
  go_wp2_with fail
  generalize hvv : Value.slice pa zs.length ca = v at *
  generalize w.alloc (.cells #[v, .int .i64 0, .bool false] 81) = w1 at *
  generalize hr : w.heap.size = r at *
  refine (ru_calls r v zs 0 1 false 1 rfl _ hr1 hz1 HB.out hne (by omega) (by omega) (by omega)).mono ?_; rintro e w2 ⟨rfl, hr2, hk2⟩
  rw [HB1.out] at hr2
  obtain ⟨c0, c1, c2, f1, f2⟩ := hr2.facts
  rw [HF.out]
  generalize hk0 : rdK zs 0 false 1 = k0 at *
  clear hvv
  go_wp2_with fail
  have hst : ChStR w (w2.alloc (.cells #[.int .i64 0] 3)) r v zs k0 [0] (.slice (some ⟨w2.heap.size, 0, none⟩) 1 1) := by
    have hs2 := hk2.size
    refine ⟨own_lit w2 _ _ _ 1 1 #[.int .i64 0] rfl (by omega) (by decide) rfl, hr2.kp (S := []) (by (repeat (first | exact Kp.refl _ _ | assumption | refine Kp.drew ?_ | refine Kp.drewN ?_ _ | refine Kp.alloc ?_ _ | (refine Kp.setCell ?_ (by first | (left; simp; done) | (right; simp; try omega)) _) | (refine Kp.trans' ?_ (by assumption) (by simp; try omega))))) (by simp), hz1.kp (S := [r]) (by (repeat (first | exact Kp.refl _ _ | assumption | refine Kp.drew ?_ | refine Kp.drewN ?_ _ | refine Kp.alloc ?_ _ | (refine Kp.setCell ?_ (by first | (left; simp; done) | (right; simp; try omega)) _) | (refine Kp.trans' ?_ (by assumption) (by simp; try omega))))) (by intro s hs; simp at hs; subst hs; exact hne), by subst hr; (repeat (first | exact Kp.refl _ _ | assumption | refine Kp.drew ?_ | refine Kp.drewN ?_ _ | refine Kp.alloc ?_ _ | (refine Kp.setCell ?_ (by first | (left; simp; done) | (right; simp; try omega)) _) | (refine Kp.trans' ?_ (by assumption) (by simp; try omega)))), by simp; omega, hr, fun b hb => by have := HV.out b hb; exact this⟩
  clear hr2 hz1 hk1 hk2 hr1 hsz c0 c1 c2 f1 f2
  go_loopw [8, 9, 10, 11] (fun v9 _ _ _ wr => ∃ (k : Nat) (l : List Int), ChStR w wr r v zs k l v9 ∧ CsAt zs 2 n (csLoad zs n) l k) (fun v9 _ _ _ _ => n - vlen v9)
  case atStart => exact ⟨k0, [0], hst, HC.out⟩
  case round =>
    obtain ⟨k, l, hs, hc⟩ := hrel
    obtain ⟨hown, hrd, hzz, hkk, hbs, hwr, hvb⟩ := hs
    obtain ⟨p9, c9, rfl⟩ := slice_own hown
    have hkz := hc.1
    have hln := hc.2.2.1
    have HC2 : Hid _ := hc
    clear hc
    have HO : Hid _ := hown
    clear hown
    by_cases hlt : l.length < n
    · obtain ⟨q0, q1'⟩ := rdV_bounds zs k false 2 HB.out
      have q1 : rdV zs k false 2 < 65536 := by omega
      clear q1'
      go_wp2_with fail
      refine (ru_calls r v zs k 2 false 2 rfl _ hrd hzz HB.out hne (by omega) (by omega) hkz).mono ?_; rintro e wa ⟨rfl, hra, hka⟩
      have hza := hzz.kp hka (by intro s hs; simp at hs; subst hs; exact hne)
      have hoa := hka.row HO.out (by intro s hs e; simp at hs; subst hs; have := own_ge HO.out _ e; omega)
      go_wp2_with fail
      refine (ru_calls r v zs _ 2 _ 2 rfl _ hra hza HB.out hne (by omega) (by omega) (rdK_le _ _ _ _ hkz)).mono ?_; rintro e wb ⟨rfl, hrb, hkb⟩
      have hzb := hza.kp hkb (by intro s hs; simp at hs; subst hs; exact hne)
      have hob := hkb.row hoa (by intro s hs e; simp at hs; subst hs; have := own_ge HO.out _ e; omega)
      have hkwb : Kp [r] wr wb := hka.trans hkb
      have hfail := csAt_fail zs 2 n _ l k HC2.out hlt
      have hstep := csAt_step zs 2 n _ l k HC2.out hlt
      obtain ⟨q2, q3'⟩ := rdV_bounds zs (rdK zs k false 2) (rdB zs k false 2) 2 HB.out
      have q3 : rdV zs (rdK zs k false 2) (rdB zs k false 2) 2 < 65536 := by omega
      clear q3'
      rw [show csB zs 2 k = rdB zs (rdK zs k false 2) (rdB zs k false 2) 2 from rfl, show csM zs 2 k = rdV zs (rdK zs k false 2) (rdB zs k false 2) 2 from rfl, show cs1 zs 2 k = rdV zs k false 2 from rfl] at hfail hstep
      rw [show csK zs 2 k = rdK zs (rdK zs k false 2) (rdB zs k false 2) 2 from rfl] at hstep
      generalize rdV zs (rdK zs k false 2) (rdB zs k false 2) 2 = mor at *
      generalize rdK zs (rdK zs k false 2) (rdB zs k false 2) 2 = k2 at *
      generalize rdB zs (rdK zs k false 2) (rdB zs k false 2) 2 = b2 at *
      generalize rdV zs k false 2 = fst at *
      have HFA : Hid _ := hfail
      have HST : Hid _ := hstep
      clear hfail hstep
      obtain ⟨e0, e1, e2, e3, e4⟩ := hrb.facts
      clear e0 e1 e3 e4
      cases b2
      · by_cases g1 : 65535 < fst + mor
        · have hn0 := HFA.out (.inr (.inl g1))
          go_wp2_with fail
          go_ret2
          exact .inl ⟨hn0, _, rfl, by subst hwr; (repeat (first | exact Kp.refl _ _ | assumption | refine Kp.drew ?_ | refine Kp.drewN ?_ _ | refine Kp.alloc ?_ _ | (refine Kp.setCell ?_ (by first | (left; simp; done) | (right; simp; try omega)) _) | (refine Kp.trans' ?_ (by assumption) (by simp; try omega))))⟩
        · by_cases g2 : (n : Int) - l.length ≤ mor
          · have hn0 := HFA.out (.inr (.inr g2))
            go_wp2_with fail
            go_ret2
            exact .inl ⟨hn0, _, rfl, by subst hwr; (repeat (first | exact Kp.refl _ _ | assumption | refine Kp.drew ?_ | refine Kp.drewN ?_ _ | refine Kp.alloc ?_ _ | (refine Kp.setCell ?_ (by first | (left; simp; done) | (right; simp; try omega)) _) | (refine Kp.trans' ?_ (by assumption) (by simp; try omega))))⟩
          · have hst2 : Hid _ := HST.out (by rintro (h | h | h); exact absurd h (by simp); exact g1 h; exact g2 h) q2
            have hs0 : Hid (ChStR w wb r v zs k2 l (.slice p9 l.length c9)) := ⟨hob, hrb, hzb, by subst hwr; (repeat (first | exact Kp.refl _ _ | assumption | refine Kp.drew ?_ | refine Kp.drewN ?_ _ | refine Kp.alloc ?_ _ | (refine Kp.setCell ?_ (by first | (left; simp; done) | (right; simp; try omega)) _) | (refine Kp.trans' ?_ (by assumption) (by simp; try omega)))), by have := hkwb.size; omega, hwr, hvb⟩
            have hvo : vlen (.slice p9 l.length c9) = l.length := rfl
            clear hob hrb hzb hkwb hzz hrd hkk hka hwr hvb hza hoa hra hkb HFA HST
            obtain ⟨m, rfl⟩ : ∃ m : Nat, mor = m := ⟨mor.toNat, by omega⟩
            clear q3
            go_wp2_with fail
            go_loopw [8, 11] (fun v9 x wi => ∃ (j : Nat) (L : List Int), j ≤ m + 1 ∧ x = .int .i64 j ∧ Hid (L = l ++ ups fst j) ∧ ChStR w wi r v zs k2 L v9) (fun _ x _ => (m + 1 - intOf x).toNat)
            case atStart => exact ⟨0, l, by omega, by simp, by simp [Hid, ups], hs0.out⟩
            case round =>
              obtain ⟨j, L, hj, rfl, hL, hs⟩ := hrel
              have HS : Hid _ := hs
              obtain ⟨p8, c8, rfl⟩ := slice_own hs.1
              have hl8 : L.length ≤ l.length + j := by rw [hL.out, List.length_append, ups_length]; omega
              clear hs
              by_cases hlj : j ≤ m
              · have hsr := HS.out.2.2.2.2.1
                go_wp2_with (at_builtin; refine wpList_app rfl _ _ 24 rfl (r + 1) 3 (.int .i64 0) 1 8 Try.underlying24 infoInt rfl (by decide) (by decide) (.slice p8 L.length c8) L.length (L.map (Value.int .i64)) rfl ?hown (.slice (some ⟨wr.heap.size, 0, none⟩) 1 1) 1 [.int .i64 (fst + j)] rfl ?hsrc ?hone ?hb1 ?hb2 ?hk)
                case hown => exact HS.out.1.alloc _
                case hsrc => exact Reads.made _ _ 1 1 [.int .i64 (fst + j)] _ rfl rfl (by decide)
                case hone => intro u hu; simp at hu; subst hu; rfl
                case hb1 => omega
                case hb2 => simp; omega
                case hk =>
                  intro v' wj hown hgr
                  have hs' : ChStR w wj r v zs k2 (L ++ [fst + j]) v' := ChStR.app HS.out hown hgr
                  clear hown hgr HS
                  go_wp2_with fail
                  go_roundw
                  case rel => exact ⟨j + 1, L ++ [fst + j], by omega, int_eq (by omega), by unfold Hid; rw [hL.out, ups_succ, List.append_assoc], hs'⟩
                  case measure => simp [intOf]; omega
              · obtain rfl : j = m + 1 := by omega
                have hl9 : L.length = l.length + (m + 1) := by rw [hL.out, List.length_append, ups_length]
                have HL9 : Hid (n - L.length < n - l.length) := by unfold Hid; omega
                clear hl9
                go_wp2_with fail
                go_roundw
                case rel => first | exact ⟨k2, L, HS.out, (by have := hst2.out; rw [Int.toNat_natCast] at this; rw [hL.out]; exact this)⟩ | (repeat apply Exists.intro; exact ⟨⟨k2, L, HS.out, (by have := hst2.out; rw [Int.toNat_natCast] at this; rw [hL.out]; exact this)⟩, rfl⟩)
                case measure => exact HL9.out
      · have hn0 := HFA.out (.inl rfl)
        go_wp2_with fail
        go_ret2
        exact .inl ⟨hn0, _, rfl, by subst hwr; (repeat (first | exact Kp.refl _ _ | assumption | refine Kp.drew ?_ | refine Kp.drewN ?_ _ | refine Kp.alloc ?_ _ | (refine Kp.setCell ?_ (by first | (left; simp; done) | (right; simp; try omega)) _) | (refine Kp.trans' ?_ (by assumption) (by simp; try omega))))⟩
    · have hR := csAt_end zs 2 n _ l k HC2.out hlt
      have hln' : l.length = n := by omega
      have HR : Hid _ := hR
      have HL : Hid _ := hln'
      clear hR hln'
      go_wp2_with fail
      go_ret2
      exact .inr ⟨l, _, HR.out, rfl, IsInts.owned (by have := HO.out; exact this), by subst hwr; exact hkk, fun b hb => by have := own_geb HO.out b hb; omega⟩
theorem rload_calls (v : Value) (zs : List Int) (n : Nat) (h1 : 1 ≤ n) (h2 : n ≤ 65535) (w : World) (hz : IsInts .u8 w v zs) (hb : ∀ c ∈ zs, 0 ≤ c ∧ c ≤ 255) (hv : ∀ b, blockOf v = some b → b < w.heap.size) :
    Calls Try.prog 14 #[v, .int .i64 n] w (RLoaded .i64 (csLoad zs n) w) := by
  cases hb1 : rdB zs 0 false 1
  · by_cases hf : 2 < rdV zs 0 false 1
    · rw [show csLoad zs n = none by unfold csLoad; rw [if_pos (.inr hf)]]
      exact rload_fmt v zs n h1 h2 w hz hb hv hb1 hf
    · obtain ⟨q0, q1⟩ := rdV_bounds zs 0 false 1 hb
      rcases (show rdV zs 0 false 1 = 0 ∨ rdV zs 0 false 1 = 1 ∨ rdV zs 0 false 1 = 2 by omega) with h | h | h
      · exact rload_f0 v zs n h1 h2 w hz hb hv hb1 h
      · exact rload_f1 v zs n h1 h2 w hz hb hv hb1 h
      · exact rload_f2 v zs n h1 h2 w hz hb hv hb1 h
  · rw [show csLoad zs n = none by unfold csLoad; rw [if_pos (.inl hb1)]]
    exact rload_bad v zs n h1 h2 w hz hb hv hb1
end Go.Proofs.Ythmokldmdcjklaa

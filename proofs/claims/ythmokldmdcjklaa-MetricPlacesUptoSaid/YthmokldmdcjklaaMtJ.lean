/- metric.LoadPlaces: the walk; where a glyph's outline begins and ends. -/
import Derived.Test.YthmokldmdcjklaaMtI
import Derived.Deep.RegionHeld3
import Derived.BigQuiet
import Derived.Deep.QuietTactic
namespace Go.Proofs.Ythmokldmdcjklaa
open Go.RowKit
set_option linter.unusedVariables false
set_option linter.unusedSimpArgs false
/-- Block q holds places A. -/
def IsPl (w : World) (q : Nat) (A : List Int) : Prop := ∃ va, w.heap[q]? = some (.cells #[va] 98 (0, 0)) ∧ IsInts .i64 w va A
theorem IsPl.kp {w w' : World} {q : Nat} {A : List Int} (h : IsPl w q A) (hk : Kp [] w w') : IsPl w' q A := by
  obtain ⟨va, h1, h2⟩ := h
  exact ⟨va, hk.heap h1 (by simp), h2.kp hk (by simp)⟩
/-- What a load of places hands back. -/
def PlD (R : Option (List Int)) (w : World) (e : Ending) (w' : World) : Prop :=
  (R = none ∧ e = .returned (.tuple #[.pointer none, .int .i64 61]) ∧ Kp [] w w') ∨
  (∃ l q, R = some l ∧ e = .returned (.tuple #[.pointer (some ⟨q, 0, none⟩), .int .i64 0]) ∧ IsPl w' q l ∧ Kp [] w w')
set_option maxRecDepth 100000 in
set_option maxHeartbeats 4000000 in
theorem plload_calls (v : Value) (zs : List Int) (n : Nat) (long : Bool) (size : Int) (h1 : 1 ≤ n) (h3 : n ≤ 65535) (s0 : 0 ≤ size) (s1 : size ≤ 1048576) (w : World) (hz : IsInts .u8 w v zs) (hb : ∀ c ∈ zs, 0 ≤ c ∧ c ≤ 255) (hv : ∀ b, blockOf v = some b → b < w.heap.size) :
    Calls Try.prog 35 #[v, .int .i64 n, .bool long, .int .i64 size] w (PlD (plLoad zs n long size) w) := by
  obtain ⟨i0, hi, hz0, hz1, hz2⟩ := info_parts infoIntM
  obtain ⟨pa, ca, hva⟩ : ∃ p c, v = .slice p zs.length c := by
    rcases hz with ⟨⟨ad, rfl⟩, rfl⟩ | ⟨g, off, c, rfl, _⟩
    · exact ⟨_, 0, rfl⟩
    · exact ⟨_, c, rfl⟩
  have HB : Hid _ := hb
  have HV : Hid _ := hv
  have HVA : Hid _ := hva
  have hm1 : decide (size < 0) = false := decide_eq_false (by omega)
  have hm2 : decide (1048576 < size) = false := decide_eq_false (by omega)
  have hnI : (n : Int) ≤ 100000 := by omega
  clear hb hv hva
  go_enter Try.func35, Try.ntmps35
  go_wp2_with fail
  refine (mcount_yes _ (by omega) (by omega) _).mono ?_; rintro e w' ⟨rfl, rfl⟩
  go_wp2_with fail
  have hka : Kp [] w (w.alloc (.cells #[.bool long] 4)) := by (repeat (first | exact Kp.refl _ _ | assumption | refine Kp.drew ?_ | refine Kp.drewN ?_ _ | refine Kp.alloc ?_ _ | (refine Kp.setCell ?_ (by first | (left; simp; done) | (right; simp; try omega)) _) | (refine Kp.trans' ?_ (by assumption) (by simp; try omega))))
  have hc6a : (w.alloc (.cells #[.bool long] 4)).cell? ⟨w.heap.size, 0, none⟩ = some (.bool long) := by go_simp
  have hsza : w.heap.size < (w.alloc (.cells #[.bool long] 4)).heap.size := by simp
  generalize hwa : w.alloc (.cells #[.bool long] 4) = wa at *
  have HWA : Hid _ := hwa
  clear hwa
  refine (new_calls v pa zs.length ca HVA.out _).mono ?_; rintro e w1 ⟨rfl, hw1⟩
  have hr1 : Rdr w1 wa.heap.size v (0 : Nat) false := by subst hw1; exact heap_alloc_new wa _
  have hk1 : Kp [] wa w1 := by subst hw1; (repeat (first | exact Kp.refl _ _ | assumption | refine Kp.drew ?_ | refine Kp.drewN ?_ _ | refine Kp.alloc ?_ _ | (refine Kp.setCell ?_ (by first | (left; simp; done) | (right; simp; try omega)) _) | (refine Kp.trans' ?_ (by assumption) (by simp; try omega))))
  have hsz : wa.heap.size < w1.heap.size := by subst hw1; simp
  clear hw1
  have hz1 := hz.kp (hka.trans hk1) (by simp)
  have hk01 := hka.trans hk1
  have hc6 := hk1.cell hc6a (by simp)
  have hst : PSt w ((w1.alloc (.cells #[.pointer (some ⟨wa.heap.size, 0, none⟩)] 75)).alloc (.cells #[.slice none 0 0] 98)) w.heap.size wa.heap.size w1.heap.size (w1.heap.size + 1) v zs long 0 false [] (.slice none 0 0) := by
    have hk12 : Kp [] w1 ((w1.alloc (.cells #[.pointer (some ⟨wa.heap.size, 0, none⟩)] 75)).alloc (.cells #[.slice none 0 0] 98)) := ((Kp.refl _ _).alloc _).alloc _
    refine ⟨hr1.kp hk12 (by simp), ?_, World.ownsRow_nil _ _ _ _, hz1.kp hk12 (by simp), hk01.trans hk12, by simp, hk12.cell hc6 (by simp), by go_simp, ⟨Nat.le_refl _, hsza, hsz, by omega⟩, HV.out⟩
    have := heap_alloc_new (w1.alloc (.cells #[.pointer (some ⟨wa.heap.size, 0, none⟩)] 75)) (.cells #[.slice none 0 0] 98)
    rw [show (w1.alloc (.cells #[.pointer (some ⟨wa.heap.size, 0, none⟩)] 75)).heap.size = w1.heap.size + 1 by simp] at this
    exact this
  clear hz hr1 hk1 hz1 hka hc6a hc6 hk01
  go_wp2_with fail
  generalize (w1.alloc (.cells #[.pointer (some ⟨wa.heap.size, 0, none⟩)] 75)).alloc (.cells #[.slice none 0 0] 98) = w2 at *
  generalize hb6 : w.heap.size = b6 at *
  generalize hr : wa.heap.size = r at *
  generalize hb10 : w1.heap.size = b10 at *
  clear hsza hsz HWA
  have hAT : Hid (plGo zs long size (n + 1 - 0) 0 [] 0 = plLoad zs n long size) := rfl
  go_loopw [13, 14, 33] (fun last _ i wr => ∃ (j k : Nat) (A : List Int) (lst : Int) (va : Value), j ≤ n + 1 ∧ i = .int .i64 j ∧ last = .int .i64 lst ∧ 0 ≤ lst ∧ lst ≤ 1048576 ∧ k ≤ zs.length ∧ PSt w wr b6 r b10 (b10 + 1) v zs long k false A va ∧ A.length ≤ j ∧ Hid (plGo zs long size (n + 1 - j) lst A k = plLoad zs n long size)) (fun _ _ i _ => n + 1 - (intOf i).toNat)
  case atStart => exact ⟨0, 0, [], 0, _, by omega, rfl, rfl, by omega, by omega, by omega, hst, by simp, hAT.out⟩
  case round =>
    obtain ⟨j, k, A, lst, va, hj, rfl, rfl, l0, l1, hk, hs, hA, HG⟩ := hrel
    clear hst hAT
    by_cases hlt : j < n + 1
    · have hlt' : (j : Int) < (n : Int) + 1 := by omega
      have HG2 : Hid ((if plB zs long k = true ∨ plV zs long k < lst ∨ size < plV zs long k then none else plGo zs long size (n + 1 - (j + 1)) (plV zs long k) (A ++ [plV zs long k]) (plK zs long k)) = plLoad zs n long size) := by
        unfold Hid; rw [← HG.out, show n + 1 - j = (n + 1 - (j + 1)) + 1 by omega]; rfl
      clear HG
      have hcl := Lib.hid (nextp_calls hs HB.out hk)
      have hbd := plV_bounds zs long k HB.out
      have hk2 := plK_le zs long k hk
      clear hs
      go_wp2_with fail
      refine Calls.mono hcl.out ?_
      rintro e w3 ⟨rfl, hs3⟩
      clear hcl
      obtain ⟨x0, x1⟩ := hbd
      generalize plV zs long k = x at *
      generalize plB zs long k = bad at *
      generalize plK zs long k = k2 at *
      have hc10 := hs3.c10
      have HS3 : Hid (PSt w w3 b6 r b10 (b10 + 1) v zs long k2 bad A va) := hs3
      have hkp3 := hs3.kp
      clear hs3
      go_wp2_with fail
      refine (done_calls r v _ _ _ HS3.out.rd).mono ?_; rintro e w9 ⟨rfl, rfl⟩
      cases bad
      · by_cases hx1 : x < lst
        · have hR : Hid (plLoad zs n long size = none) := by rw [Hid, ← HG2.out, if_pos (.inr (.inl hx1))]
          go_wp2_with fail
          go_ret2
          exact .inl ⟨hR.out, rfl, hkp3⟩
        · have hx1' : decide (x < lst) = false := decide_eq_false hx1
          by_cases hx2 : size < x
          · have hR : Hid (plLoad zs n long size = none) := by rw [Hid, ← HG2.out, if_pos (.inr (.inr hx2))]
            go_wp2_with fail
            go_ret2
            exact .inl ⟨hR.out, rfl, hkp3⟩
          · have hx2' : decide (size < x) = false := decide_eq_false hx2
            have HG3 : Hid (plGo zs long size (n + 1 - (j + 1)) x (A ++ [x]) k2 = plLoad zs n long size) := by
              rw [Hid, ← HG2.out, if_neg (by rintro (h | h | h); cases h; exact hx1 h; exact hx2 h)]
            obtain ⟨pA, cA, rfl⟩ := slice_own HS3.out.own
            obtain ⟨c0, f0⟩ := HS3.out.facts
            have hqw := HS3.out.sz
            have hAl : A.length ≤ 70000 := by omega
            clear HG2
            go_wp2_with (at_builtin; refine wpList_app rfl _ _ 24 rfl (b10 + 1 + 1) 3 (.int .i64 0) 1 8 Try.underlying24 infoIntM rfl (by decide) (by decide) (.slice pA A.length cA) A.length (A.map (Value.int .i64)) rfl ?hown (.slice (some ⟨w3.heap.size, 0, none⟩) 1 1) 1 [.int .i64 x] rfl ?hsrc ?hone ?hb1 ?hb2 ?hk)
            case hown => exact HS3.out.own.alloc _
            case hsrc => exact Reads.made _ _ 1 1 [.int .i64 x] _ rfl rfl (by decide)
            case hone => first | (intro u hu; simp at hu; subst hu; rfl) | rfl
            case hb1 => omega
            case hb2 => simp; omega
            case hk =>
            intro u w4 hown hgr
            have hs5 := HS3.out.wrote hown hgr
            obtain ⟨hc4, hf4⟩ := HS3.out.at4 hgr
            obtain ⟨p9, c9, rfl⟩ := slice_own hown
            clear hown hgr hc10
            go_wp2_with fail
            go_roundw
            case rel => first | exact ⟨j + 1, k2, A ++ [x], x, _, by omega, int_eq' (by omega), rfl, x0, by omega, hk2, hs5, by simp; omega, HG3.out⟩ | ((repeat apply Exists.intro); exact ⟨⟨j + 1, k2, A ++ [x], x, _, by omega, int_eq' (by omega), rfl, x0, by omega, hk2, hs5, by simp; omega, HG3.out⟩, rfl⟩)
            case measure => simp [intOf]; omega
      · have hR : Hid (plLoad zs n long size = none) := by rw [Hid, ← HG2.out, if_pos (.inl rfl)]
        go_wp2_with fail
        go_ret2
        exact .inl ⟨hR.out, rfl, hkp3⟩
    · obtain rfl : j = n + 1 := by omega
      have hR : Hid (plLoad zs n long size = some A) := by rw [Hid, ← HG.out, Nat.sub_self]; rfl
      have hd : Hid (IsPl wr (b10 + 1) A) := ⟨va, hs.obj, IsInts.owned hs.own⟩
      have hkp := hs.kp
      have hlt' : ¬ ((n : Int) + 1 < (n : Int) + 1) := by omega
      clear hs
      go_wp2_with fail
      go_ret2
      exact .inr ⟨A, _, hR.out, rfl, hd.out, hkp⟩
end Go.Proofs.Ythmokldmdcjklaa

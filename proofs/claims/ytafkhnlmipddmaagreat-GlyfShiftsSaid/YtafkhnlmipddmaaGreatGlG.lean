/- glyf: New, and what a table is asked. -/
import Derived.Test.YtafkhnlmipddmaaGreatGlF
import Derived.BigQuiet
import Derived.Deep.DeepCutAuto
namespace Go.Proofs.YtafkhnlmipddmaaGreat
open Go.RowKit
set_option linter.unusedVariables false
set_option linter.unusedSimpArgs false
set_option maxRecDepth 100000 in
set_option maxHeartbeats 4000000 in
theorem gnew_calls (vb : Value) (q : Nat) (zs A : List Int) (w : World) (hb : IsInts .u8 w vb zs) (hq : IsPl w q A) (ok : okTb zs A) :
    Calls Tryz.prog 20 #[vb, .pointer (some ⟨q, 0, none⟩)] w fun e w' => ∃ T, e = .returned (.tuple #[.pointer (some ⟨T, 0, none⟩), .int .i64 0]) ∧ TbAt w' w'.heap.size T zs A ∧ Kp [] w w' := by
  have hl := ok.1
  have hzl := ok.2.2.2.1
  have HLEN := Lib.hid (pllen_calls q A w hq (by omega))
  obtain ⟨m, hm⟩ : ∃ m, A.length = m + 2 := ⟨A.length - 2, by omega⟩
  have HAT := Lib.hid (plat_in q A m w hq (by omega) (by omega))
  have hend := (ok.2.1 (m + 1) (by omega)).2
  have HCL := Lib.hid (fun W (hk : Kp [] w W) => clone_calls vb zs W (hb.kp hk (by simp)) (by omega))
  have HQ := Lib.hid hq
  have HZE : Hid (zs ≠ []) := ok.1.2.2
  have HNE : Hid (A ≠ []) := fun e => by rw [e] at hl; simp at hl
  have hf : ∃ p c, vb = .slice p zs.length c := by
    rcases hb with ⟨⟨ad, rfl⟩, e⟩ | ⟨g, off, c, rfl, _⟩
    · exact ⟨_, 0, by rw [e]; rfl⟩
    · exact ⟨_, c, rfl⟩
  obtain ⟨p, c, rfl⟩ := hf
  rw [hm] at HLEN
  have e1 : (((m + 2 : Nat)) : Int) - 1 = (m : Int) + 1 := by omega
  rw [e1] at HLEN
  have hmb : (m : Int) ≤ 65536 := by omega
  have hdec : decide ((zs.length : Int) < A.getD (m + 1) 0) = false := decide_eq_false (by omega)
  generalize A.getD (m + 1) 0 = E at *
  generalize A.getD m 0 = F at *
  generalize hz : zs.length = Z at *
  clear hl hzl ok hend hb hq e1 hm
  go_enter Tryz.func20, Tryz.ntmps20
  go_wp2_with fail
  refine HLEN.out.mono ?_; rintro e w1 ⟨rfl, hw1⟩
  have hw2 := hw1.symm
  subst hw2
  go_wp2_with fail
  refine HAT.out.mono ?_; rintro e w2 ⟨rfl, hk2⟩
  have HK2 := Lib.hid hk2
  clear hk2
  go_wp2_with fail
  refine (HCL.out _ HK2.out).mono ?_; rintro e w3 ⟨v3, rfl, hi3, hk3, hb3⟩
  have HI3 := Lib.hid hi3
  have HK3 : Hid (Kp [] w w3) := HK2.out.trans hk3
  have HQ3 := Lib.hid (HQ.out.kp HK3.out)
  clear hi3 hk3 HCL
  have hf3 : ∃ p3 c3, v3 = .slice p3 Z c3 := by
    rcases HI3.out with ⟨⟨ad, rfl⟩, e⟩ | ⟨g, off, c, rfl, _⟩
    · exact ⟨_, 0, by rw [← hz, e]; rfl⟩
    · exact ⟨_, c, by rw [hz]⟩
  obtain ⟨p3, c3, rfl⟩ := hf3
  have HB3 : Hid (∀ b, blockOf (.slice p3 Z c3) = some b → b < w3.heap.size) := intsG_lt HI3.out HZE.out
  go_wp2_with fail
  go_ret2
  refine ⟨w3.heap.size, rfl, ?_, HK3.out.alloc _⟩
  obtain ⟨va, h1, h2⟩ := HQ3.out
  have hka : Kp [] w3 (w3.alloc (.cells #[.slice p3 Z c3, .pointer (some ⟨q, 0, none⟩)] 94)) := (Kp.refl _ _).alloc _
  exact ⟨.slice p3 Z c3, q, va, by simp, by have := lt_of_block h1; simp; omega, heap_alloc_new w3 _, HI3.out.kp hka (by simp), fun b hb => by have := HB3.out b hb; simp; omega, hka.heap h1 (by simp), h2.kp hka (by simp), fun b hb => by have := intsG_lt h2 HNE.out b hb; simp; omega⟩
set_option maxRecDepth 100000 in
set_option maxHeartbeats 4000000 in
theorem goutline_calls (n0 T : Nat) (zs A : List Int) (ok : okTb zs A) (hG : okG zs A) (hgl : ∀ g, g + 1 < A.length → kindM (gB zs A g) = 2 → ∀ p ∈ (Cp.decM (gB zs A g)).1, -4294967296 ≤ p.g ∧ p.g ≤ 4294967296) (g : Int) (hg : -4294967296 ≤ g ∧ g ≤ 4294967296) (w : World) (ht : TbAt w n0 T zs A) (hn : n0 ≤ w.heap.size) :
    Calls Tryz.prog 13 #[.pointer (some ⟨T, 0, none⟩), .int .i64 g] w fun e w' => ∃ v', e = .returned (.tuple #[v', .int .i64 (evalG zs A 6 g 0).1.2]) ∧ IsOut w' v' (evalG zs A 6 g 0).1.1 ∧ Kp [] w w' := by
  have HE := Lib.hid (eval_calls n0 T w.heap.size zs A ok hG hn hgl 6 (Nat.le_refl _))
  have HT := Lib.hid ht
  generalize evalG zs A 6 = ev at *
  go_enter Tryz.func13, Tryz.ntmps13
  go_wp2_with fail
  have hka : Kp [] w (w.alloc (.cells #[.pointer (some ⟨T, 0, none⟩), .int .i64 0] 83)) := (Kp.refl _ _).alloc _
  refine (HE.out g 0 _ (HT.out.kp0 hka) (heap_alloc_new w _) (by omega) hg).mono ?_; rintro e w2 ⟨v2, rfl, ho2, hw2, hk2⟩
  have HO := Lib.hid ho2
  have HK : Hid (Kp [] w w2) := by
    exact Kp.trans' hka hk2 (fun s hs => by simp at hs; subst hs; exact .inr (Nat.le_refl _))
  obtain ⟨p2, c2, rfl⟩ := ho2.form
  generalize (ev g 0).1.1.length = N at *
  clear ho2 hw2 hk2 hka
  go_wp2_with fail
  go_ret2
  exact ⟨_, rfl, HO.out, HK.out⟩
end Go.Proofs.YtafkhnlmipddmaaGreat

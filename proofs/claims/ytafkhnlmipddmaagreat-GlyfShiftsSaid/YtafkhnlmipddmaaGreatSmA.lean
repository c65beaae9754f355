/- simple: readers in one word; Take of any number of bytes. (Written by wip/simple/gensia.py.) · simple: what is read of bytes (plain); appends in order; ends · simple: flags · simple: steps. (Written by wip/simple/gensid.py.) · simple: contours · simple: Decode (plain) · simple: Decode, walked · simple: Kind, of the program and of the reference. (Merged by wip/tools/mergetpl.py out of SiA, SiB, SiC, SiD, SiE, SiF, SiG, SiQ.) -/
import Derived.Test.YtafkhnlmipddmaaGreatWmA
import Derived.Test.YtafkhnlmipddmaaGreatBits
import Derived.Test.YtafkhnlmipddmaaGreatApp
import Derived.Test.YtafkhnlmipddmaaGreatPair
import Derived.Lib.MinMax
import Derived.WalkKit
import Derived.ProofKit
import Derived.Deep.DeepCutAuto
import Derived.Test.YtafkhnlmipddmaaGreatOmD
import Derived.BigQuiet
namespace Go.Proofs.YtafkhnlmipddmaaGreat
open Go.RowKit
set_option linter.unusedVariables false
set_option linter.unusedSimpArgs false
abbrev Rs := Nat × Bool
def stp (zs : List Int) (m : Nat) (s : Rs) : Rs := (rdK zs s.1 s.2 m, rdB zs s.1 s.2 m)
def val (zs : List Int) (m : Nat) (s : Rs) : Int := rdV zs s.1 s.2 m
/-- A reader of the program: its bytes zs, where it stands, whether it is bad. -/
def RdS (w : World) (r : Nat) (v : Value) (zs : List Int) (k : Nat) (bad : Bool) : Prop := Rdr w r v k bad ∧ IsInts .u8 w v zs ∧ (∀ c ∈ zs, 0 ≤ c ∧ c ≤ 255) ∧ blockOf v ≠ some r ∧ k ≤ zs.length
theorem RdS.kp {S : List Nat} {w w' : World} {r : Nat} {v : Value} {zs : List Int} {k : Nat} {bad : Bool} (h : RdS w r v zs k bad) (hk : Kp S w w') (hr : r ∉ S) (hv : ∀ s ∈ S, blockOf v ≠ some s) : RdS w' r v zs k bad :=
  ⟨h.1.kp hk hr, h.2.1.kp hk hv, h.2.2⟩
theorem RdS.kp0 {w w' : World} {r : Nat} {v : Value} {zs : List Int} {k : Nat} {bad : Bool} (h : RdS w r v zs k bad) (hk : Kp [] w w') : RdS w' r v zs k bad := h.kp hk (by simp) (by simp)
theorem RdS.lt {w : World} {r : Nat} {v : Value} {zs : List Int} {k : Nat} {bad : Bool} (h : RdS w r v zs k bad) : r < w.heap.size := lt_of_block h.1
theorem RdS.read {w w' : World} {r : Nat} {v : Value} {zs : List Int} {k m : Nat} {bad : Bool} (h : RdS w r v zs k bad) (h1 : Rdr w' r v (rdK zs k bad m : Nat) (rdB zs k bad m)) (hk : Kp [r] w w') : RdS w' r v zs (rdK zs k bad m) (rdB zs k bad m) :=
  ⟨h1, h.2.1.kp hk (fun t ht e => by simp at ht; subst ht; exact h.2.2.2.1 e), h.2.2.1, h.2.2.2.1, rdK_le zs k bad m h.2.2.2.2⟩
section
variable {w : World} {r : Nat} {v : Value} {zs : List Int} {k : Nat} {bad : Bool}
theorem u8S (h : RdS w r v zs k bad) : Calls Tryz.prog 83 #[.pointer (some ⟨r, 0, none⟩)] w fun e w' => e = .returned (.int .i64 (rdV zs k bad 1)) ∧ RdS w' r v zs (rdK zs k bad 1) (rdB zs k bad 1) ∧ Kp [r] w w' :=
  (u8_calls r v zs k bad w h.1 h.2.1 h.2.2.1 h.2.2.2.1 h.2.2.2.2).mono fun e w' ⟨he, h1, hk⟩ => ⟨he, h.read h1 hk, hk⟩
theorem u16S (h : RdS w r v zs k bad) : Calls Tryz.prog 57 #[.pointer (some ⟨r, 0, none⟩)] w fun e w' => e = .returned (.int .i64 (rdV zs k bad 2)) ∧ RdS w' r v zs (rdK zs k bad 2) (rdB zs k bad 2) ∧ Kp [r] w w' :=
  (u16_calls r v zs k bad w h.1 h.2.1 h.2.2.1 h.2.2.2.1 h.2.2.2.2).mono fun e w' ⟨he, h1, hk⟩ => ⟨he, h.read h1 hk, hk⟩
theorem i16S (h : RdS w r v zs k bad) : Calls Tryz.prog 71 #[.pointer (some ⟨r, 0, none⟩)] w fun e w' => e = .returned (.int .i64 (s16 (rdV zs k bad 2))) ∧ RdS w' r v zs (rdK zs k bad 2) (rdB zs k bad 2) ∧ Kp [r] w w' :=
  (i16_calls r v zs k bad w h.1 h.2.1 h.2.2.1 h.2.2.2.1 h.2.2.2.2).mono fun e w' ⟨he, h1, hk⟩ => ⟨he, h.read h1 hk, hk⟩
theorem doneS (h : RdS w r v zs k bad) : Calls Tryz.prog 58 #[.pointer (some ⟨r, 0, none⟩)] w fun e w' => e = .returned (.int .i64 (bif bad then 30 else 0)) ∧ w = w' := done_calls r v k bad w h.1
end
set_option maxRecDepth 100000 in
theorem next_zero (r g off N c k : Nat) (w : World) (h : Rdr w r (.slice (some ⟨g, off, none⟩) N c) k false) (h2 : k ≤ N) (hN : N ≤ c) (hc : c ≤ maxLen) :
    Calls Tryz.prog 82 #[.pointer (some ⟨r, 0, none⟩), .int .i64 0] w fun e w' => (∃ a, e = .returned (.slice (some a) 0 (c - k)) ∧ (k < c → a = ⟨g, off + k, none⟩)) ∧ Rdr w' r (.slice (some ⟨g, off, none⟩) N c) (k : Int) false ∧ Kp [r] w w' := by
  obtain ⟨c0, c1, c2, f1, f2⟩ := h.facts
  unfold maxLen at hc
  by_cases hkc : k < c
  · go_enter Tryz.func82, Tryz.ntmps82
    go_wp2
    go_quiet ((go_at_call 70; exact Calls.quiet_of_same ((wrong_calls r (.slice (some ⟨g, off, none⟩) N c) k false _ (by exact h)).mono fun _ _ ⟨a, b⟩ => ⟨a, b.symm⟩)))
    go_wp2_with fail
    go_quiet (fail)
    go_wp2
    go_ret
    exact ⟨⟨⟨g, off + k, none⟩, by simp, fun _ => rfl⟩, Rdr.setAt (k := (k : Int)) (by exact h) _, by (repeat (first | exact Kp.refl _ _ | assumption | refine Kp.drew ?_ | refine Kp.drewN ?_ _ | refine Kp.alloc ?_ _ | (refine Kp.setCell ?_ (by first | (left; simp; done) | (right; simp; try omega)) _) | (refine Kp.trans' ?_ (by assumption) (by simp; try omega))))⟩
  · obtain rfl : k = c := by omega
    obtain rfl : N = k := by omega
    go_enter Tryz.func82, Tryz.ntmps82
    go_wp2
    go_quiet ((go_at_call 70; exact Calls.quiet_of_same ((wrong_calls r (.slice (some ⟨g, off, none⟩) N N) N false _ (by exact h)).mono fun _ _ ⟨a, b⟩ => ⟨a, b.symm⟩)))
    go_wp2_with fail
    go_quiet (fail)
    go_wp2
    go_ret
    exact ⟨⟨⟨g, off, none⟩, by simp, fun h => absurd h (by omega)⟩, Rdr.setAt (k := (N : Int)) (by exact h) _, by (repeat (first | exact Kp.refl _ _ | assumption | refine Kp.drew ?_ | refine Kp.drewN ?_ _ | refine Kp.alloc ?_ _ | (refine Kp.setCell ?_ (by first | (left; simp; done) | (right; simp; try omega)) _) | (refine Kp.trans' ?_ (by assumption) (by simp; try omega))))⟩
set_option maxRecDepth 100000 in
theorem takeS {w : World} {r : Nat} {v : Value} {zs : List Int} {k : Nat} {bad : Bool} (m : Nat) (hm2 : m ≤ 65535) (h : RdS w r v zs k bad) (h0 : bad = false → 0 < zs.length) :
    Calls Tryz.prog 72 #[.pointer (some ⟨r, 0, none⟩), .int .i64 m] w fun e w' => (∃ v', e = .returned v') ∧ RdS w' r v zs (rdK zs k bad m) (rdB zs k bad m) ∧ Kp [r] w w' := by
  have H := Lib.hid h
  cases bad with
  | true =>
    have e1 : rdB zs k true m = true := rfl
    have e2 : rdK zs k true m = k := rfl
    rw [e1, e2]
    clear h h0
    go_enter Tryz.func72, Tryz.ntmps72
    go_wp2_with fail
    refine (next_bad r v k m w H.out.1).mono ?_; rintro e w1 ⟨rfl, h1, hk1⟩
    go_wp2_with fail
    refine (clone_calls (.slice none 0 0) [] w1 (.inl ⟨⟨_, rfl⟩, rfl⟩) (by simp)).mono ?_; rintro e w2 ⟨v2, rfl, _, hk2, _⟩
    have hR := Lib.hid ((H.out.read (m := m) (by rw [e1, e2]; exact h1) hk1).kp0 hk2)
    rw [e1, e2] at hR
    go_wp2_with fail
    go_ret
    exact ⟨⟨_, rfl⟩, hR.out, hk1.trans0 hk2⟩
  | false =>
    by_cases hs : zs.length < k + m
    · have e1 : rdB zs k false m = true := by unfold rdB; rw [decide_eq_true hs]; rfl
      have e2 : rdK zs k false m = k := by unfold rdK; rw [e1]; rfl
      rw [e1, e2]
      obtain ⟨p, c, rfl⟩ : ∃ p c, v = .slice p zs.length c := by
        rcases h.2.1 with ⟨⟨pb, rfl⟩, rfl⟩ | ⟨g, off, c, rfl, _⟩
        · exact ⟨_, _, rfl⟩
        · exact ⟨_, _, rfl⟩
      have hle := h.2.1.le
      have hkz := h.2.2.2.2
      have HN := Lib.hid (next_short r p zs.length c k m w h.1 (by omega) (by omega) hle hkz)
      clear h h0 hle hkz
      go_enter Tryz.func72, Tryz.ntmps72
      go_wp2_with fail
      refine HN.out.mono ?_; rintro e w1 ⟨rfl, h1, hk1⟩
      go_wp2_with fail
      refine (clone_calls (.slice none 0 0) [] w1 (.inl ⟨⟨_, rfl⟩, rfl⟩) (by simp)).mono ?_; rintro e w2 ⟨v2, rfl, _, hk2, _⟩
      have hR := Lib.hid ((H.out.read (m := m) (by rw [e1, e2]; exact h1) hk1).kp0 hk2)
      rw [e1, e2] at hR
      go_wp2_with fail
      go_ret
      exact ⟨⟨_, rfl⟩, hR.out, hk1.trans0 hk2⟩
    · have e1 : rdB zs k false m = false := by unfold rdB; rw [decide_eq_false hs]; rfl
      have e2 : rdK zs k false m = k + m := by unfold rdK; rw [e1]; rfl
      rw [e1, e2]
      rcases h.2.1 with ⟨⟨pb, rfl⟩, rfl⟩ | ⟨g, off, c, rfl, g1, g2, g3⟩
      · have := h0 rfl; simp at this
      have CMX := Lib.hid g2
      by_cases hm : m = 0
      · subst hm
        have HN := Lib.hid (next_zero r g off zs.length c k w h.1 (by omega) g1 g2)
        clear h h0 g1 g2 g3
        go_enter Tryz.func72, Tryz.ntmps72
        go_wp2_with fail
        refine HN.out.mono ?_; rintro e w1 ⟨⟨a, rfl, ha⟩, h1, hk1⟩
        have HA := Lib.hid ha
        have HH1 := Lib.hid h1
        have HK1 := Lib.hid hk1
        clear ha h1 hk1
        have HI : Hid (IsInts .u8 w1 (.slice (some a) 0 (c - k)) []) := by
          by_cases hkc : k < c
          · rw [HA.out hkc]; exact .inr ⟨g, off + k, c - k, rfl, by simp, by have := CMX.out; omega, fun i hi => by simp at hi⟩
          · rw [show c - k = 0 by omega]; exact .inl ⟨⟨_, rfl⟩, rfl⟩
        go_wp2_with fail
        refine (clone_calls _ [] w1 HI.out (by simp)).mono ?_; rintro e w2 ⟨v2, rfl, _, hk2, _⟩
        have hR := Lib.hid ((H.out.read (m := 0) (by rw [e1, e2]; exact HH1.out) HK1.out).kp0 hk2)
        rw [e1, e2] at hR
        go_wp2_with fail
        go_ret
        exact ⟨⟨_, rfl⟩, hR.out, HK1.out.trans0 hk2⟩
      have HN := Lib.hid (next_ok r g off zs.length c k m m rfl w h.1 (by omega) (by omega) g1 g2)
      have HI : Hid (∀ W, Kp [r] w W → IsInts .u8 W (.slice (some ⟨g, off + k, none⟩) m (c - k)) ((zs.drop k).take m)) := fun W hW => by
        have hw := h.2.1.kp hW (fun t ht e => by simp at ht; subst ht; exact h.2.2.2.1 e)
        rcases hw with ⟨⟨pb, e⟩, h0⟩ | ⟨g', off', c', e, _, _, g4⟩
        · rw [h0] at hs; simp at hs; omega
        · cases e
          refine .inr ⟨g, off + k, c - k, by rw [show ((zs.drop k).take m).length = m by simp; omega], by simp; omega, by omega, fun i hi => ?_⟩
          have hi2 : i < m := by simp at hi; omega
          rw [Nat.add_assoc, g4 (k + i) (by omega)]
          simp only [List.getD_eq_getElem?_getD]
          rw [List.getElem?_take_of_lt hi2, List.getElem?_drop]
      clear h h0 g1 g2 g3
      go_enter Tryz.func72, Tryz.ntmps72
      go_wp2_with fail
      refine HN.out.mono ?_; rintro e w1 ⟨rfl, h1, hk1⟩
      go_wp2_with fail
      refine (clone_calls _ _ w1 (HI.out _ hk1) (by simp; omega)).mono ?_; rintro e w2 ⟨v2, rfl, _, hk2, _⟩
      have hR := Lib.hid ((H.out.read (m := m) (by rw [e1, e2]; exact h1) hk1).kp0 hk2)
      rw [e1, e2] at hR
      go_wp2_with fail
      go_ret
      exact ⟨⟨_, rfl⟩, hR.out, hk1.trans0 hk2⟩
end Go.Proofs.YtafkhnlmipddmaaGreat
namespace Go.Proofs.YtafkhnlmipddmaaGreat
open Go.RowKit
set_option linter.unusedVariables false
set_option linter.unusedSimpArgs false
section
variable {P : Program} {w : World} {ops : Array Oper} {rest : List Oper} {o : Oper} {a : Act} {Q : Exit → Act → World → Prop}
/-- A literal slice of numbers, onto a row of the call's own. -/
theorem wpList_pushL (hgd : o.guard = none) (s x : Operand) (T E : TypeId) (k : IntKind) (bytes : Nat) (ht : P.underlying T = some (.slice E)) (hinfo : (P.info? E).map (fun i => (i.zero, i.size, i.bytes)) = some (some (.int k 0), 1, bytes)) (hb1 : 1 ≤ bytes)
    (ho : o.op = .call { callee := .builtin .append, args := #[s, x], argTypes := #[T, T] }) (base : Nat) (v : Value) (l : List Int) (n : Nat) (hn : l.length = n) (hs : a.eval s = v) (hown : w.ownsRow base E 1 v n (l.map (Value.int k)))
    (G : Nat) (zs : List Int) (m : Nat) (hm : zs.length = m) (hx : a.eval x = .slice (some ⟨G, 0, none⟩) m m) (hc : ∀ j u, (zs.map (Value.int k))[j]? = some u → w.cell? ⟨G, 0 + j, none⟩ = some u) (hl : (n + m) * bytes ≤ 140737488355328) (hbase : base ≤ w.heap.size)
    (h : ∀ v' w', w'.ownsRow base E 1 v' (n + m) ((l ++ zs).map (Value.int k)) → (∀ S w0, Kp S w0 w → w0.heap.size ≤ base → Kp S w0 w') → Kp v.ownBlock.toList w w' → wpList P ops Q rest (a.put o.dst v') w') : wpList P ops Q (o :: rest) a w := by
  subst hm
  have h63 : zs.length ≤ maxLen := by
    have := Nat.le_mul_of_pos_right (n + zs.length) hb1
    simp only [maxLen]; omega
  refine wpList_app hgd s x T ho base E (.int k 0) 1 bytes ht hinfo rfl (by decide) hb1 v n (l.map (Value.int k)) hs hown _ zs.length (zs.map (Value.int k)) hx ⟨by simp, .inr ⟨G, 0, zs.length, rfl, Nat.le_refl _, h63, hc⟩⟩ (oneCell_ints _ _) hl hbase ?_
  intro v' w' r1 r2
  exact h v' w' (by rw [List.map_append]; exact r1) (fun S w0 hk h0 => Kp.grown hk r2 (fun k hk => .inr (Nat.le_trans h0 (own_ge hown k hk)))) (Kp.grown (Kp.refl _ _) r2 (fun k hk => .inl (by rw [hk]; simp)))
end
/-- A row of numbers that has just been laid. -/
theorem litI {w W : World} {k : IntKind} {zs : List Int} {E : TypeId} (hk : Kp [] (w.alloc (.cells (zs.map (Value.int k)).toArray E)) W) : ∀ j u, (zs.map (Value.int k))[j]? = some u → W.cell? ⟨w.heap.size, 0 + j, none⟩ = some u := by
  intro j u hu
  have h := hk.heap (heap_alloc_new w _) (by simp)
  rw [Nat.zero_add, cell_of_row W _ j _ _ (0, 0) h]
  simpa using hu
theorem infoI : (Tryz.prog.info? 3).map (fun i => (i.zero, i.size, i.bytes)) = some (some (.int .i64 0), 1, 8) := by kernel_rfl
/-- The numbers of the contours' last points. -/
def endsR (zs : List Int) : Nat → Int → Rs → List Int → List Int × Int × Rs
  | 0, _, s, l => (l, 0, s)
  | n + 1, last, s, l =>
    if (stp zs 2 s).2 = true ∨ val zs 2 s ≤ last then ([], 110, stp zs 2 s)
    else if 4096 ≤ val zs 2 s then ([], 100, stp zs 2 s)
    else endsR zs n (val zs 2 s) (stp zs 2 s) (l ++ [val zs 2 s])
theorem stp_le (zs : List Int) (m : Nat) (s : Rs) (h : s.1 ≤ zs.length) : (stp zs m s).1 ≤ zs.length := rdK_le zs s.1 s.2 m h
theorem val_bounds (zs : List Int) (m : Nat) (s : Rs) (hb : ∀ c ∈ zs, 0 ≤ c ∧ c ≤ 255) : 0 ≤ val zs m s ∧ val zs m s < (256 ^ m : Nat) := rdV_bounds zs s.1 s.2 m hb
section
variable {w : World} {r : Nat} {v : Value} {zs : List Int} {s : Rs}
theorem u8T (h : RdS w r v zs s.1 s.2) : Calls Tryz.prog 83 #[.pointer (some ⟨r, 0, none⟩)] w fun e w' => e = .returned (.int .i64 (val zs 1 s)) ∧ RdS w' r v zs (stp zs 1 s).1 (stp zs 1 s).2 ∧ Kp [r] w w' := u8S h
theorem u16T (h : RdS w r v zs s.1 s.2) : Calls Tryz.prog 57 #[.pointer (some ⟨r, 0, none⟩)] w fun e w' => e = .returned (.int .i64 (val zs 2 s)) ∧ RdS w' r v zs (stp zs 2 s).1 (stp zs 2 s).2 ∧ Kp [r] w w' := u16S h
theorem i16T (h : RdS w r v zs s.1 s.2) : Calls Tryz.prog 71 #[.pointer (some ⟨r, 0, none⟩)] w fun e w' => e = .returned (.int .i64 (s16 (val zs 2 s))) ∧ RdS w' r v zs (stp zs 2 s).1 (stp zs 2 s).2 ∧ Kp [r] w w' := i16S h
theorem doneT (h : RdS w r v zs s.1 s.2) : Calls Tryz.prog 58 #[.pointer (some ⟨r, 0, none⟩)] w fun e w' => e = .returned (.int .i64 (bif s.2 then 30 else 0)) ∧ w = w' := doneS h
end
/-- The reader, and a row of numbers that is being read. -/
def EnSt (w wr : World) (r : Nat) (v : Value) (zs : List Int) (s : Rs) (l : Value) (acc : List Int) : Prop :=
  RdS wr r v zs s.1 s.2 ∧ wr.ownsRow w.heap.size 3 1 l acc.length (acc.map (Value.int .i64)) ∧ Kp [r] w wr ∧ r < w.heap.size ∧ ∀ b, blockOf v = some b → b < w.heap.size
theorem EnSt.read {w wr w' : World} {r : Nat} {v : Value} {zs : List Int} {s s' : Rs} {l : Value} {acc : List Int} (h : EnSt w wr r v zs s l acc) (hr : RdS w' r v zs s'.1 s'.2) (hk : Kp [r] wr w') : EnSt w w' r v zs s' l acc :=
  ⟨hr, hk.row h.2.1 (fun t ht e => by simp at ht; subst ht; have := own_ge h.2.1 _ e; have := h.2.2.2.1; omega), h.2.2.1.trans hk, h.2.2.2⟩
theorem EnSt.push {w wr w' : World} {r : Nat} {v : Value} {zs : List Int} {s : Rs} {l l' : Value} {acc : List Int} {zs' : List Int} {n m : Nat} {O : Obj} (h : EnSt w wr r v zs s l acc) (hn : acc.length = n) (hm : zs'.length = m)
    (hown : w'.ownsRow w.heap.size 3 1 l' (n + m) (acc.map (Value.int .i64) ++ zs'.map (Value.int .i64))) (hk : ∀ S w0, Kp S w0 (wr.alloc O) → w0.heap.size ≤ w.heap.size → Kp S w0 w') (hk2 : Kp l.ownBlock.toList (wr.alloc O) w') : EnSt w w' r v zs s l' (acc ++ zs') := by
  have h3 : Kp l.ownBlock.toList wr w' := ((Kp.refl _ _).alloc O).trans hk2
  refine ⟨h.1.kp h3 (fun e => by have := own_ge h.2.1 r (by simpa using e); have := h.2.2.2.1; omega) (fun t ht e => by have := own_ge h.2.1 t (by simpa using ht); have := h.2.2.2.2 t e; omega), ?_, hk [r] w (h.2.2.1.alloc O) (Nat.le_refl _), h.2.2.2⟩
  rw [List.length_append, hn, hm, List.map_append]; exact hown
set_option maxRecDepth 100000 in
set_option maxHeartbeats 2000000 in
theorem ends_calls {w : World} {r : Nat} {v : Value} {zs : List Int} {s : Rs} (K : Nat) (hK : K ≤ 256) (h : RdS w r v zs s.1 s.2) (hv : ∀ b, blockOf v = some b → b < w.heap.size) :
    Calls Tryz.prog 73 #[.pointer (some ⟨r, 0, none⟩), .int .i64 K] w fun e w' => ∃ v', e = .returned (.tuple #[v', .int .i64 (endsR zs K (-1) s []).2.1]) ∧ IsInts .i64 w' v' (endsR zs K (-1) s []).1 ∧ RdS w' r v zs (endsR zs K (-1) s []).2.2.1 (endsR zs K (-1) s []).2.2.2 ∧ Kp [r] w w' ∧ ∀ b, blockOf v' = some b → w.heap.size ≤ b := by
  have hS : Hid (EnSt w w r v zs s (.slice none 0 0) []) := ⟨h, World.ownsRow_nil _ _ _ _, Kp.refl _ _, h.lt, hv⟩
  have HBB := Lib.hid h.2.2.1
  obtain ⟨R, hR⟩ : ∃ R, endsR zs K (-1) s [] = R := ⟨_, rfl⟩
  have HR : Hid (endsR zs (K - 0) (-1) s [] = R) := hR
  rw [hR]
  clear h hv hR
  go_enter Tryz.func73, Tryz.ntmps73
  go_wp2_with fail
  go_loopw [6, 7, 8, 10] (fun l la _ i wr => ∃ (j : Nat) (s : Rs) (acc : List Int) (last : Int), j ≤ K ∧ i = .int .i64 j ∧ la = .int .i64 last ∧ Hid (-1 ≤ last ∧ last ≤ 4095) ∧ Hid (acc.length = j) ∧ Hid (EnSt w wr r v zs s l acc ∧ endsR zs (K - j) last s acc = R)) (fun _ _ _ i _ => K - (intOf i).toNat)
  case atStart => exact ⟨0, s, [], -1, by omega, rfl, rfl, ⟨by omega, by omega⟩, rfl, hS.out, HR.out⟩
  case round =>
    obtain ⟨j, s, acc, last, hj, rfl, rfl, HL, HA, HJ⟩ := hrel
    clear hS HR
    by_cases hlt : j < K
    · have HE := Lib.hid HJ.out.2
      have HS := Lib.hid HJ.out.1
      obtain ⟨q0, q1⟩ := val_bounds zs 2 s HBB.out
      have HU := Lib.hid (u16T HS.out.1)
      have HRR : Hid (endsR zs (K - j) last s acc = if (stp zs 2 s).2 = true ∨ val zs 2 s ≤ last then ([], 110, stp zs 2 s) else if 4096 ≤ val zs 2 s then ([], 100, stp zs 2 s) else endsR zs (K - (j + 1)) (val zs 2 s) (stp zs 2 s) (acc ++ [val zs 2 s])) := by
        show _ = _
        rw [show K - j = (K - (j + 1)) + 1 by omega]; rfl
      rw [HE.out] at HRR
      have hle1 : (256 ^ 2 : Nat) = 65536 := by decide
      rw [hle1] at q1
      clear HJ HE hle1
      generalize val zs 2 s = x at *
      generalize stp zs 2 s = s1 at *
      obtain ⟨k1, b1⟩ := s1
      go_wp2_with fail
      refine HU.out.mono ?_; rintro e w2 ⟨rfl, h2, hk2⟩
      have HS2 : Hid (EnSt w w2 r v zs (k1, b1) _ acc) := HS.out.read (s' := (k1, b1)) h2 hk2
      clear h2 hk2 HU HS
      go_wp2_with fail
      refine (doneT HS2.out.1).mono ?_; rintro e w3 ⟨rfl, rfl⟩
      cases b1
      · by_cases hxl : x ≤ last
        · have HF : Hid (R = ([], 110, (k1, false))) := by show _ = _; rw [HRR.out, if_pos (.inr hxl)]
          have hd : decide (x ≤ last) = true := decide_eq_true hxl
          clear hxl HRR
          go_wp2_with fail
          go_ret2
          rw [HF.out]
          exact ⟨_, rfl, IsInts.nil _ _, HS2.out.1, HS2.out.2.2.1, fun b hb => by simp at hb⟩
        · by_cases hx4 : 4096 ≤ x
          · have HF : Hid (R = ([], 100, (k1, false))) := by show _ = _; rw [HRR.out, if_neg (by simpa using hxl), if_pos hx4]
            have hd : decide (x ≤ last) = false := decide_eq_false hxl
            have hd4 : decide (4096 ≤ x) = true := decide_eq_true hx4
            clear hxl hx4 HRR
            go_wp2_with fail
            go_ret2
            rw [HF.out]
            exact ⟨_, rfl, IsInts.nil _ _, HS2.out.1, HS2.out.2.2.1, fun b hb => by simp at hb⟩
          · have HF : Hid (endsR zs (K - (j + 1)) x (k1, false) (acc ++ [x]) = R) := by show _ = _; rw [HRR.out, if_neg (by simpa using hxl), if_neg hx4]
            have hd : decide (x ≤ last) = false := decide_eq_false hxl
            have hd4 : decide (4096 ≤ x) = false := decide_eq_false hx4
            obtain ⟨pl, cl, hl⟩ := slice_own HS2.out.2.1
            subst hl
            have HXB : Hid (-1 ≤ x ∧ x ≤ 4095) := ⟨by omega, by omega⟩
            have HROW := Lib.hid HS2.out.2.1
            have hsz : w.heap.size ≤ w2.heap.size := HS2.out.2.2.1.size
            rw [HA.out] at HROW HS2 ⊢
            clear hxl hx4 HRR
            go_wp2_with (at_builtin; go_loud (refine wpList_pushL rfl _ _ 51 3 .i64 8 Tryz.underlying51 infoI (by decide) rfl w.heap.size (.slice pl j cl) acc j HA.out rfl ?hown w2.heap.size [x] 1 rfl rfl ?hc ?hl ?hbase ?hk))
            case hown => exact Kp.row (S := []) ((Kp.refl _ _).alloc _) HROW.out (by simp)
            case hc => exact litI (zs := [x]) (Kp.refl _ _)
            case hl => omega
            case hbase => simp; omega
            case hk =>
            intro v5 w5 hown5 hk5 hk6
            have HS5 : Hid (EnSt w w5 r v zs (k1, false) v5 (acc ++ [x])) := HS2.out.push (zs' := [x]) (m := 1) HA.out rfl hown5 hk5 hk6
            clear hown5 hk5 hk6
            have HA5 : Hid ((acc ++ [x]).length = j + 1) := by show _ = _; rw [List.length_append, HA.out]; rfl
            clear HS2 HROW HA HL hd hd4
            go_wp2_with fail
            go_roundw
            case rel => first | exact ⟨j + 1, (k1, false), acc ++ [x], x, by omega, int_eq' (by omega), rfl, HXB, HA5, HS5.out, HF.out⟩ | ((repeat apply Exists.intro); exact ⟨⟨j + 1, (k1, false), acc ++ [x], x, by omega, int_eq' (by omega), rfl, HXB, HA5, HS5.out, HF.out⟩, rfl⟩)
            case measure => simp [intOf]; omega
      · have HF : Hid (R = ([], 110, (k1, true))) := by show _ = _; rw [HRR.out, if_pos (.inl rfl)]
        clear HRR
        go_wp2_with fail
        go_ret2
        rw [HF.out]
        exact ⟨_, rfl, IsInts.nil _ _, HS2.out.1, HS2.out.2.2.1, fun b hb => by simp at hb⟩
    · obtain rfl : j = K := by omega
      have HF : Hid (R = (acc, 0, s)) := by show _ = _; rw [← HJ.out.2, Nat.sub_self]; rfl
      have HS := Lib.hid HJ.out.1
      clear HJ
      go_wp2_with fail
      go_ret2
      rw [HF.out]
      exact ⟨_, rfl, IsInts.owned HS.out.2.1, HS.out.1, HS.out.2.2.1, own_geb HS.out.2.1⟩
end Go.Proofs.YtafkhnlmipddmaaGreat
namespace Go.Proofs.YtafkhnlmipddmaaGreat
open Go.RowKit
set_option linter.unusedVariables false
set_option linter.unusedSimpArgs false
/-- How many more points have this flag; where the reader stands behind it. -/
def flM (zs : List Int) (s : Rs) : Int := if bits .and .i64 (val zs 1 s) 8 = 0 then 0 else val zs 1 (stp zs 1 s)
def flS (zs : List Int) (s : Rs) : Rs := if bits .and .i64 (val zs 1 s) 8 = 0 then stp zs 1 s else stp zs 1 (stp zs 1 s)
/-- The flags of n points. -/
def flagsR (zs : List Int) (n : Nat) : Nat → Rs → List Int → Option (List Int × Rs)
  | 0, _, _ => none
  | f + 1, s, l => if n ≤ l.length then some (l, s) else if (flS zs s).2 = true ∨ (n : Int) - (l.length : Int) ≤ flM zs s then none
    else flagsR zs n f (flS zs s) (l ++ List.replicate ((flM zs s).toNat + 1) (val zs 1 s))
theorem flM_bounds (zs : List Int) (s : Rs) (hb : ∀ c ∈ zs, 0 ≤ c ∧ c ≤ 255) : 0 ≤ flM zs s ∧ flM zs s < 256 := by
  unfold flM
  have := val_bounds zs 1 (stp zs 1 s) hb
  split
  · omega
  · simpa using this
theorem rep_snoc (l : List Int) (x : Int) (i : Nat) : l ++ List.replicate (i + 1) x = (l ++ List.replicate i x) ++ [x] := by
  rw [List.replicate_succ', List.append_assoc]
set_option maxRecDepth 100000 in
set_option maxHeartbeats 4000000 in
theorem flags_calls {w : World} {r : Nat} {v : Value} {zs : List Int} {s : Rs} (n : Nat) (hn : n ≤ 4096) (h : RdS w r v zs s.1 s.2) (hv : ∀ b, blockOf v = some b → b < w.heap.size) :
    Calls Tryz.prog 74 #[.pointer (some ⟨r, 0, none⟩), .int .i64 n] w fun e w' => ∃ v' s', e = .returned (.tuple #[v', .bool (flagsR zs n (n + 1) s []).isSome]) ∧ (∀ q, flagsR zs n (n + 1) s [] = some q → IsInts .i64 w' v' q.1 ∧ s' = q.2) ∧ RdS w' r v zs s'.1 s'.2 ∧ Kp [r] w w' ∧ ∀ b, blockOf v' = some b → w.heap.size ≤ b := by
  obtain ⟨i0, hi, hz0, hz1, hz2⟩ := info_parts infoI
  have HBB := Lib.hid h.2.2.1
  have HS0 : Hid (RdS w r v zs s.1 s.2) := h
  have HV : Hid (r < w.heap.size ∧ ∀ b, blockOf v = some b → b < w.heap.size) := ⟨h.lt, hv⟩
  obtain ⟨R, hR⟩ : ∃ R, flagsR zs n (n + 1) s [] = R := ⟨_, rfl⟩
  have HR := Lib.hid hR
  rw [hR]
  clear h hv hR
  go_enter Tryz.func74, Tryz.ntmps74
  go_wp2_with (at_make; refine wpList_make_own _ rfl _ _ 51 rfl w.heap.size 3 i0 (.int .i64 0) 1 Tryz.underlying51 hi hz0 hz1 .i64 .i64 n n rfl rfl rfl ?b2 ?b3 ?b4 ?hK)
  case b2 => rw [hz2]; omega
  case b3 => unfold maxLen; omega
  case b4 => exact Nat.le_refl _
  case hK =>
  intro w1 hown hgr
  have hk1 : Kp [] w w1 := Kp.grown (Kp.refl _ _) hgr (fun k hk => nomatch hk)
  have hS : Hid (EnSt w w1 r v zs s (.slice (some ⟨w.heap.size, 0, none⟩) 0 n) []) := ⟨HS0.out.kp0 hk1, hown, hk1.more (fun s hs => nomatch hs), HV.out⟩
  clear hown hgr hk1 hi hz0 hz1 hz2 HS0
  go_wp2_with fail
  go_loopw [6, 7, 8] (fun l _ _ wr => ∃ (s : Rs) (acc : List Int) (f L : Nat), Hid (L ≤ n ∧ n - L < f) ∧ Hid (acc.length = L) ∧ Hid (EnSt w wr r v zs s l acc ∧ flagsR zs n f s acc = R)) (fun l _ _ _ => n - vlen l)
  case atStart => exact ⟨s, [], n + 1, 0, ⟨by omega, by omega⟩, rfl, hS.out, HR.out⟩
  case round =>
    obtain ⟨s, acc, f, L, HF, HA, HJ⟩ := hrel
    clear hS HR
    obtain ⟨pl, cl, hl⟩ := slice_own HJ.out.1.2.1
    subst hl
    rw [HA.out] at HJ ⊢
    have HE := Lib.hid HJ.out.2
    have HS := Lib.hid HJ.out.1
    clear HJ
    have hLn := HF.out.1
    by_cases hlt : L < n
    · obtain ⟨f, rfl⟩ : ∃ g, f = g + 1 := ⟨f - 1, by have := HF.out.2; omega⟩
      have HRR : Hid (R = if (flS zs s).2 = true ∨ (n : Int) - (L : Int) ≤ flM zs s then none else flagsR zs n f (flS zs s) (acc ++ List.replicate ((flM zs s).toNat + 1) (val zs 1 s))) := by
        show _ = _
        rw [← HE.out, flagsR, HA.out, if_neg (by omega)]
      obtain ⟨q0, q1⟩ := val_bounds zs 1 s HBB.out
      obtain ⟨m0, m1⟩ := flM_bounds zs s HBB.out
      have HU := Lib.hid (u8T HS.out.1)
      have HFF : Hid (n - L < f + 1) := HF.out.2
      have hle1 : (256 ^ 1 : Nat) = 256 := by decide
      rw [hle1] at q1
      clear HE HF hle1
      -- the second byte
      have HM : Hid (bits .and .i64 (val zs 1 s) 8 = 0 → flM zs s = 0 ∧ flS zs s = stp zs 1 s) := fun h => ⟨if_pos h, if_pos h⟩
      have HM2 : Hid (bits .and .i64 (val zs 1 s) 8 ≠ 0 → flM zs s = val zs 1 (stp zs 1 s) ∧ flS zs s = stp zs 1 (stp zs 1 s)) := fun h => ⟨if_neg h, if_neg h⟩
      have HU2 : Hid (∀ w2, RdS w2 r v zs (stp zs 1 s).1 (stp zs 1 s).2 → _) := fun w2 (h2 : RdS w2 r v zs (stp zs 1 s).1 (stp zs 1 s).2) => u8T h2
      generalize flM zs s = mm at *
      generalize flS zs s = s2 at *
      generalize val zs 1 s = x at *
      obtain ⟨M, rfl⟩ : ∃ M : Nat, mm = M := ⟨mm.toNat, by omega⟩
      rw [Int.toNat_natCast] at HRR
      go_upto_if 19 with (refine HU.out.mono ?_; rintro e w2 ⟨rfl, h2, hk2⟩)
      have HS2 : Hid (EnSt w w2 r v zs (stp zs 1 s) (.slice pl L cl) acc) := HS.out.read h2 hk2
      clear h2 hk2 HU HS
      go_cut [8] from 11 to 41 (fun m wx => m = .int .i64 M ∧ Hid (EnSt w wx r v zs s2 (.slice pl L cl) acc))
      case first =>
        by_cases hb : bits .and .i64 x 8 = 0
        · obtain ⟨hM, hs2⟩ := HM.out hb
          have hb1 : (bits .and .i64 x 8 != 0) = false := by simp [hb]
          obtain rfl : M = 0 := by omega
          subst hs2
          clear HRR HM HM2 HU2 hM hb
          go_wp2_with fail
          go_meet
          exact ⟨rfl, HS2⟩
        · obtain ⟨hM, hs2⟩ := HM2.out hb
          have hb1 : (bits .and .i64 x 8 != 0) = true := by simp [hb]
          have HM3 := Lib.hid hM
          subst hs2
          clear HRR HM HM2 hM hb
          go_wp2_with fail
          refine (HU2.out _ HS2.out.1).mono ?_; rintro e w3 ⟨rfl, h3, hk3⟩
          have HS3 : Hid (EnSt w w3 r v zs (stp zs 1 (stp zs 1 s)) (.slice pl L cl) acc) := HS2.out.read h3 hk3
          rw [← HM3.out]
          clear h3 hk3 HU2 HM3 HS2
          go_wp2_with fail
          go_meet
          exact ⟨rfl, HS3⟩
      case rest =>
      obtain ⟨rfl, HC⟩ := hcut
      clear HS2 HM HM2 HU2
      obtain ⟨k2, b2⟩ := s2
      go_wp2_with fail
      refine (doneT HC.out.1).mono ?_; rintro e w3 ⟨rfl, rfl⟩
      cases b2
      · by_cases hm : (n : Int) - (L : Int) ≤ (M : Int)
        · have HFI : Hid (R = none) := by show _ = _; rw [HRR.out, if_pos (.inr hm)]
          have hd : decide ((n : Int) - (L : Int) ≤ (M : Int)) = true := decide_eq_true hm
          clear HRR hm
          go_wp2_with fail
          go_ret2
          rw [HFI.out]
          exact ⟨_, (k2, false), rfl, (fun q hq => by cases hq), HC.out.1, HC.out.2.2.1, fun b hb => by simp at hb⟩
        · have HFI : Hid (flagsR zs n f (k2, false) (acc ++ List.replicate (M + 1) x) = R) := by show _ = _; rw [HRR.out, if_neg (by simpa using hm)]
          have hd : decide ((n : Int) - (L : Int) ≤ (M : Int)) = false := decide_eq_false hm
          have HMM : Hid (L + M + 1 ≤ n) := by show _ ≤ _; omega
          clear HRR hm
          go_wp2_with fail
          go_loopw [6, 35] (fun l i wr => ∃ (j : Nat), j ≤ M + 1 ∧ i = .int .i64 j ∧ Hid (EnSt w wr r v zs (k2, false) l (acc ++ List.replicate j x))) (fun _ i _ => M + 1 - (intOf i).toNat)
          case atStart => exact ⟨0, by omega, rfl, by show EnSt _ _ _ _ _ _ _ _; rw [List.replicate_zero, List.append_nil]; exact HC.out⟩
          case round =>
            obtain ⟨j, hj, rfl, HJ⟩ := hrel
            clear HC
            obtain ⟨pl2, cl2, hl2⟩ := slice_own HJ.out.2.1
            subst hl2
            have HLN : Hid ((acc ++ List.replicate j x).length = L + j) := by show _ = _; rw [List.length_append, List.length_replicate, HA.out]
            have HSN := Lib.hid (rep_snoc acc x j)
            rw [HLN.out]
            by_cases hjm : j < M + 1
            · have HROW := Lib.hid HJ.out.2.1
              have hsz : w.heap.size ≤ wr.heap.size := HJ.out.2.2.1.size
              rw [HLN.out] at HROW HJ
              generalize acc ++ List.replicate j x = ac2 at *
              go_wp2_with (at_builtin; go_loud (refine wpList_pushL rfl _ _ 51 3 .i64 8 Tryz.underlying51 infoI (by decide) rfl w.heap.size (.slice pl2 (L + j) cl2) ac2 (L + j) HLN.out rfl ?hown wr.heap.size [x] 1 rfl rfl ?hc ?hl ?hbase ?hk))
              case hown => exact Kp.row (S := []) ((Kp.refl _ _).alloc _) HROW.out (by simp)
              case hc => exact litI (zs := [x]) (Kp.refl _ _)
              case hl => omega
              case hbase => simp; omega
              case hk =>
              intro v5 w5 hown5 hk5 hk6
              have HS5 : Hid (EnSt w w5 r v zs (k2, false) v5 (acc ++ List.replicate (j + 1) x)) := by
                show EnSt _ _ _ _ _ _ _ _
                rw [HSN.out]; exact HJ.out.push (zs' := [x]) (m := 1) HLN.out rfl hown5 hk5 hk6
              clear hown5 hk5 hk6 HJ HROW HLN HSN
              go_wp2_with fail
              go_roundw
              case rel => first | exact ⟨j + 1, by omega, int_eq' (by omega), HS5⟩ | ((repeat apply Exists.intro); exact ⟨⟨j + 1, by omega, int_eq' (by omega), HS5⟩, rfl⟩)
              case measure => simp [intOf]; omega
            · obtain rfl : j = M + 1 := by omega
              have HA6 : Hid ((acc ++ List.replicate (M + 1) x).length = L + M + 1) := HLN.out
              have HF6 : Hid (L + M + 1 ≤ n ∧ n - (L + M + 1) < f) := ⟨HMM.out, by have := HFF.out; have := HMM.out; omega⟩
              rw [HLN.out] at HJ
              have HJ6 := HJ
              have HL6 := Lib.hid hlt
              clear HJ HLN HSN HMM HFF hd
              go_wp2_with fail
              go_roundw
              case rel => exact ⟨(k2, false), _, f, L + M + 1, HF6, HA6, HJ6.out, HFI.out⟩
              case measure => simp [vlen]; omega
      · have HFI : Hid (R = none) := by show _ = _; rw [HRR.out, if_pos (.inl rfl)]
        clear HRR
        go_wp2_with fail
        go_ret2
        rw [HFI.out]
        exact ⟨_, (k2, true), rfl, (fun q hq => by cases hq), HC.out.1, HC.out.2.2.1, fun b hb => by simp at hb⟩
    · obtain rfl : L = n := by omega
      have HFI : Hid (R = some (acc, s)) := by
        show _ = _
        rw [← HE.out]
        obtain ⟨f, rfl⟩ : ∃ g, f = g + 1 := ⟨f - 1, by have := HF.out.2; omega⟩
        rw [flagsR, HA.out, if_pos (Nat.le_refl _)]
      have HROW : Hid (wr.ownsRow w.heap.size 3 1 (.slice pl L cl) acc.length (acc.map (Value.int .i64))) := HS.out.2.1
      go_wp2_with fail
      go_ret2
      rw [HFI.out]
      exact ⟨_, s, rfl, fun q hq => by cases hq; exact ⟨IsInts.owned HROW.out, rfl⟩, HS.out.1, HS.out.2.2.1, own_geb HROW.out⟩
end Go.Proofs.YtafkhnlmipddmaaGreat
namespace Go.Proofs.YtafkhnlmipddmaaGreat
open Go.RowKit
set_option linter.unusedVariables false
set_option linter.unusedSimpArgs false
/-- One step, by two bits of a flag; where the reader stands behind it. -/
def stV (zs : List Int) (sh sa f : Int) (s : Rs) : Int × Rs :=
  if bits .and .i64 f sh ≠ 0 then (if bits .and .i64 f sa ≠ 0 then (val zs 1 s, stp zs 1 s) else (- val zs 1 s, stp zs 1 s))
  else if bits .and .i64 f sa = 0 then (s16 (val zs 2 s), stp zs 2 s) else (0, s)
def unitB (x : Int) : Bool := decide (-32768 ≤ x) && decide (x ≤ 32767)
/-- The numbers of all points. -/
def stepsR (zs : List Int) (sh sa : Int) : List Int → Int → Rs → List Int → Option (List Int) × Rs
  | [], _, s, acc => (some acc, s)
  | f :: fs, x, s, acc => if unitB (x + (stV zs sh sa f s).1) = true then stepsR zs sh sa fs (x + (stV zs sh sa f s).1) (stV zs sh sa f s).2 (acc ++ [x + (stV zs sh sa f s).1]) else (none, (stV zs sh sa f s).2)
theorem stV_bounds (zs : List Int) (sh sa f : Int) (s : Rs) (hb : ∀ c ∈ zs, 0 ≤ c ∧ c ≤ 255) : -32768 ≤ (stV zs sh sa f s).1 ∧ (stV zs sh sa f s).1 ≤ 32767 := by
  have h1 := val_bounds zs 1 s hb
  have h2 := val_bounds zs 2 s hb
  have e1 : (256 ^ 1 : Nat) = 256 := by decide
  have e2 : (256 ^ 2 : Nat) = 65536 := by decide
  rw [e1] at h1
  rw [e2] at h2
  have h3 := s16_bounds (val zs 2 s) h2.1 (by omega)
  unfold stV
  split
  · split <;> simp only <;> omega
  · split <;> simp only <;> omega
theorem isunit_calls (x : Int) (w : World) : Calls Tryz.prog 85 #[.int .i64 x] w fun e w' => e = .returned (.bool (unitB x)) ∧ w = w' := by
  unfold unitB
  by_cases h : -32768 ≤ x
  · have h1 : decide (-32768 ≤ x) = true := decide_eq_true h
    go_enter Tryz.func85, Tryz.ntmps85
    go_wp2_with fail
    go_ret
    exact ⟨by simp [h1], rfl⟩
  · have h1 : decide (-32768 ≤ x) = false := decide_eq_false h
    go_enter Tryz.func85, Tryz.ntmps85
    go_wp2_with fail
    go_ret
    exact ⟨by simp [h1], rfl⟩
/-- The two bits of a flag, and each of them. -/
theorem bits_case2 (f : Int) (h0 : 0 ≤ f) (h1 : f < 256) :
    (bits .and .i64 f 18 = 18 ∧ bits .and .i64 f 2 ≠ 0 ∧ bits .and .i64 f 16 ≠ 0) ∨ (bits .and .i64 f 18 = 2 ∧ bits .and .i64 f 2 ≠ 0 ∧ bits .and .i64 f 16 = 0) ∨
    (bits .and .i64 f 18 = 16 ∧ bits .and .i64 f 2 = 0 ∧ bits .and .i64 f 16 ≠ 0) ∨ (bits .and .i64 f 18 = 0 ∧ bits .and .i64 f 2 = 0 ∧ bits .and .i64 f 16 = 0) := by
  have key : ∀ n : Fin 256, (bits .and .i64 (n.val : Int) 18 = 18 ∧ bits .and .i64 (n.val : Int) 2 ≠ 0 ∧ bits .and .i64 (n.val : Int) 16 ≠ 0) ∨ (bits .and .i64 (n.val : Int) 18 = 2 ∧ bits .and .i64 (n.val : Int) 2 ≠ 0 ∧ bits .and .i64 (n.val : Int) 16 = 0) ∨
    (bits .and .i64 (n.val : Int) 18 = 16 ∧ bits .and .i64 (n.val : Int) 2 = 0 ∧ bits .and .i64 (n.val : Int) 16 ≠ 0) ∨ (bits .and .i64 (n.val : Int) 18 = 0 ∧ bits .and .i64 (n.val : Int) 2 = 0 ∧ bits .and .i64 (n.val : Int) 16 = 0) := by decide +kernel
  have := key ⟨f.toNat, by omega⟩
  simpa [Int.toNat_of_nonneg h0] using this
set_option maxRecDepth 100000 in
theorem steps1_2 {w : World} {r : Nat} {v : Value} {zs : List Int} {s : Rs} (B1 B2 B3 : Nat) (f : Int) (h0 : 0 ≤ f) (h1 : f < 256) (h : RdS w r v zs s.1 s.2) (c1 : w.cell? ⟨B1, 0, none⟩ = some (.int .i64 2)) (c2 : w.cell? ⟨B2, 0, none⟩ = some (.int .i64 16)) (c3 : w.cell? ⟨B3, 0, none⟩ = some (.pointer (some ⟨r, 0, none⟩))) :
    Calls Tryz.prog 84 #[.int .i64 f, .pointer (some ⟨B1, 0, none⟩), .pointer (some ⟨B2, 0, none⟩), .pointer (some ⟨B3, 0, none⟩)] w fun e w' => e = .returned (.int .i64 (stV zs 2 16 f s).1) ∧ RdS w' r v zs (stV zs 2 16 f s).2.1 (stV zs 2 16 f s).2.2 ∧ Kp [r] w w' := by
  have HU := Lib.hid (u8T h)
  have HI := Lib.hid (i16T h)
  have HV1 := Lib.hid (val_bounds zs 1 s h.2.2.1)
  have HV2 := Lib.hid (val_bounds zs 2 s h.2.2.1)
  have hor : bits .or .i64 2 16 = 18 := by decide +kernel
  have HS := Lib.hid h
  rcases bits_case2 f h0 h1 with ⟨e1, e2, e3⟩ | ⟨e1, e2, e3⟩ | ⟨e1, e2, e3⟩ | ⟨e1, e2, e3⟩
  · have HE : Hid (stV zs 2 16 f s = (val zs 1 s, stp zs 1 s)) := by unfold stV; show _ = _; rw [if_pos e2, if_pos e3]
    clear e2 e3 h h0 h1
    go_enter Tryz.func84, Tryz.ntmps84
    go_wp2_with fail
    refine HU.out.mono ?_; rintro e w2 ⟨rfl, h2, hk2⟩
    have HR : Hid (RdS w2 r v zs (stp zs 1 s).1 (stp zs 1 s).2) := h2
    clear h2
    go_wp2_with fail
    go_ret
    rw [HE.out]
    exact ⟨rfl, HR.out, hk2⟩
  · have HE : Hid (stV zs 2 16 f s = (- val zs 1 s, stp zs 1 s)) := by unfold stV; show _ = _; rw [if_pos e2, if_neg (by simp [e3])]
    clear e2 e3 h h0 h1
    have hb := HV1.out
    have hp : (256 ^ 1 : Nat) = 256 := by decide
    rw [hp] at hb
    obtain ⟨y, hy⟩ : ∃ y, val zs 1 s = y := ⟨_, rfl⟩
    rw [hy] at HU hb HE
    clear hy hp
    obtain ⟨hb0, hb1⟩ := hb
    go_enter Tryz.func84, Tryz.ntmps84
    go_wp2_with fail
    refine HU.out.mono ?_; rintro e w2 ⟨rfl, h2, hk2⟩
    have HR : Hid (RdS w2 r v zs (stp zs 1 s).1 (stp zs 1 s).2) := h2
    clear h2
    go_wp2_with fail
    go_ret
    rw [HE.out]
    exact ⟨by first | rfl | simp, HR.out, hk2⟩
  · have HE : Hid (stV zs 2 16 f s = (0, s)) := by unfold stV; show _ = _; rw [if_neg (by simp [e2]), if_neg e3]
    clear e2 e3 h h0 h1
    go_enter Tryz.func84, Tryz.ntmps84
    go_wp2_with fail
    go_ret
    rw [HE.out]
    exact ⟨rfl, HS.out.kp0 (by (repeat (first | exact Kp.refl _ _ | assumption | refine Kp.drew ?_ | refine Kp.drewN ?_ _ | refine Kp.alloc ?_ _ | (refine Kp.setCell ?_ (by first | (left; simp; done) | (right; simp; try omega)) _) | (refine Kp.trans' ?_ (by assumption) (by simp; try omega))))), by (repeat (first | exact Kp.refl _ _ | assumption | refine Kp.drew ?_ | refine Kp.drewN ?_ _ | refine Kp.alloc ?_ _ | (refine Kp.setCell ?_ (by first | (left; simp; done) | (right; simp; try omega)) _) | (refine Kp.trans' ?_ (by assumption) (by simp; try omega))))⟩
  · have HE : Hid (stV zs 2 16 f s = (s16 (val zs 2 s), stp zs 2 s)) := by unfold stV; show _ = _; rw [if_neg (by simp [e2]), if_pos e3]
    clear e2 e3 h h0 h1
    go_enter Tryz.func84, Tryz.ntmps84
    go_wp2_with fail
    refine HI.out.mono ?_; rintro e w2 ⟨rfl, h2, hk2⟩
    have HR : Hid (RdS w2 r v zs (stp zs 2 s).1 (stp zs 2 s).2) := h2
    clear h2
    go_wp2_with fail
    go_ret
    rw [HE.out]
    exact ⟨rfl, HR.out, hk2⟩
set_option maxRecDepth 100000 in
set_option maxHeartbeats 2000000 in
theorem steps_2 {w : World} {r : Nat} {v : Value} {zs : List Int} {s : Rs} (lv : Value) (fl : List Int) (hfl : fl.length ≤ 4096) (hf : ∀ c ∈ fl, 0 ≤ c ∧ c < 256) (hl : IsInts .i64 w lv fl) (hlb : ∀ b, blockOf lv = some b → b ≠ r) (h : RdS w r v zs s.1 s.2) (hv : ∀ b, blockOf v = some b → b < w.heap.size) :
    Calls Tryz.prog 75 #[.pointer (some ⟨r, 0, none⟩), lv, .int .i64 2, .int .i64 16] w fun e w' => ∃ v', e = .returned (.tuple #[v', .bool ((stepsR zs 2 16 fl 0 s []).1.isSome && !(stepsR zs 2 16 fl 0 s []).2.2)]) ∧ (∀ q, (stepsR zs 2 16 fl 0 s []).1 = some q → IsInts .i64 w' v' q) ∧ RdS w' r v zs (stepsR zs 2 16 fl 0 s []).2.1 (stepsR zs 2 16 fl 0 s []).2.2 ∧ Kp [r] w w' ∧ ∀ b, blockOf v' = some b → w.heap.size ≤ b := by
  obtain ⟨i0, hi, hz0, hz1, hz2⟩ := info_parts infoI
  have HBB := Lib.hid h.2.2.1
  have HF := Lib.hid hf
  obtain ⟨pl, cl, rfl⟩ : ∃ p c, lv = .slice p fl.length c := by
    rcases hl with ⟨⟨ad, rfl⟩, rfl⟩ | ⟨g, off, c, rfl, _⟩
    · exact ⟨_, 0, rfl⟩
    · exact ⟨_, c, rfl⟩
  have HLW : Hid (∀ W, Kp [r] w W → IsInts .i64 W (.slice pl fl.length cl) fl) := fun W hW => hl.kp hW (fun t ht e => by simp at ht; subst ht; exact hlb _ e rfl)
  obtain ⟨R, hR⟩ : ∃ R, stepsR zs 2 16 fl 0 s [] = R := ⟨_, rfl⟩
  have HR : Hid (stepsR zs 2 16 (fl.drop 0) 0 s [] = R) := hR
  rw [hR]
  obtain ⟨N, hN⟩ : ∃ N, fl.length = N := ⟨_, rfl⟩
  have HN := Lib.hid hN
  rw [hN] at hfl HLW ⊢
  have hrw : r < w.heap.size := h.lt
  -- the world with the three boxes
  have hkb : Kp [] w (((w.alloc (.cells #[.pointer (some ⟨r, 0, none⟩)] 100)).alloc (.cells #[.int .i64 2] 3)).alloc (.cells #[.int .i64 16] 3)) := (((Kp.refl _ _).alloc _).alloc _).alloc _
  have HK1 := Lib.hid hkb
  have HB3 : Hid ((((w.alloc (.cells #[.pointer (some ⟨r, 0, none⟩)] 100)).alloc (.cells #[.int .i64 2] 3)).alloc (.cells #[.int .i64 16] 3)).heap[w.heap.size]? = some (.cells #[.pointer (some ⟨r, 0, none⟩)] 100)) := (((Kp.refl [] _).alloc _).alloc _).heap (heap_alloc_new w _) (by simp)
  have HB1 : Hid ((((w.alloc (.cells #[.pointer (some ⟨r, 0, none⟩)] 100)).alloc (.cells #[.int .i64 2] 3)).alloc (.cells #[.int .i64 16] 3)).heap[w.heap.size + 1]? = some (.cells #[.int .i64 2] 3)) := by
    have := heap_alloc_new (w.alloc (.cells #[.pointer (some ⟨r, 0, none⟩)] 100)) (.cells #[.int .i64 2] 3)
    rw [World.size_alloc] at this
    exact ((Kp.refl [] _).alloc _).heap this (by simp)
  have HB2 : Hid ((((w.alloc (.cells #[.pointer (some ⟨r, 0, none⟩)] 100)).alloc (.cells #[.int .i64 2] 3)).alloc (.cells #[.int .i64 16] 3)).heap[w.heap.size + 2]? = some (.cells #[.int .i64 16] 3)) := by
    have := heap_alloc_new ((w.alloc (.cells #[.pointer (some ⟨r, 0, none⟩)] 100)).alloc (.cells #[.int .i64 2] 3)) (.cells #[.int .i64 16] 3)
    rw [World.size_alloc, World.size_alloc] at this
    exact this
  have HS0 : Hid (RdS w r v zs s.1 s.2) := h
  have HV := Lib.hid hv
  have HZ1 : Hid ((((w.alloc (.cells #[.pointer (some ⟨r, 0, none⟩)] 100)).alloc (.cells #[.int .i64 2] 3)).alloc (.cells #[.int .i64 16] 3)).heap.size = w.heap.size + 3) := by show _ = _; simp
  clear h hv hf hl hlb hR hN hkb
  go_enter Tryz.func75, Tryz.ntmps75
  go_wp2_with (at_make; go_loud (refine wpList_make_own _ rfl _ _ 51 rfl (w.heap.size + 3) 3 i0 (.int .i64 0) 1 Tryz.underlying51 hi hz0 hz1 .i64 .i64 N N rfl rfl rfl ?b2 ?b3 ?b4 ?hK))
  case b2 => rw [hz2]; omega
  case b3 => unfold maxLen; omega
  case b4 => simp
  case hK =>
  intro w2 hown hgr
  generalize ((w.alloc (.cells #[.pointer (some ⟨r, 0, none⟩)] 100)).alloc (.cells #[.int .i64 2] 3)).alloc (.cells #[.int .i64 16] 3) = w1 at *
  have hk2 : Kp [] w1 w2 := Kp.grown (Kp.refl _ _) hgr (fun k hk => nomatch hk)
  have hS : Hid (EnSt w1 w2 r v zs s (.slice (some ⟨w.heap.size + 1 + 1 + 1, 0, none⟩) 0 N) []) := ⟨HS0.out.kp0 (HK1.out.trans hk2), by rw [HZ1.out]; exact hown, hk2.more (fun s hs => nomatch hs), by have := HZ1.out; omega, fun b hb => by have := HV.out b hb; have := HZ1.out; omega⟩
  clear hown hgr hk2 hi hz0 hz1 hz2 HS0
  go_wp2_with fail
  go_loopw [11, 12, 14, 21] (fun l x _ i wr => ∃ (j : Nat) (s : Rs) (acc : List Int) (xx : Int), j ≤ N ∧ i = .int .i64 j ∧ x = .int .i64 xx ∧ Hid (-32768 ≤ xx ∧ xx ≤ 32767) ∧ Hid (acc.length = j) ∧ Hid (EnSt w1 wr r v zs s l acc ∧ stepsR zs 2 16 (fl.drop j) xx s acc = R)) (fun _ _ _ i _ => N - (intOf i).toNat)
  case atStart => exact ⟨0, s, [], 0, by omega, rfl, rfl, ⟨by omega, by omega⟩, rfl, hS.out, HR.out⟩
  case round =>
    obtain ⟨j, s, acc, xx, hj, rfl, rfl, HX, HA, HJ⟩ := hrel
    clear hS HR
    obtain ⟨po, co, hl⟩ := slice_own HJ.out.1.2.1
    subst hl
    rw [HA.out] at HJ ⊢
    have HE := Lib.hid HJ.out.2
    have HS := Lib.hid HJ.out.1
    clear HJ
    by_cases hlt : j < N
    · have hjl : j < fl.length := by rw [HN.out]; exact hlt
      have hcell : ∃ g off, pl = some ⟨g, off, none⟩ ∧ N ≤ cl ∧ cl ≤ maxLen ∧ wr.cell? ⟨g, off + j, none⟩ = some (.int .i64 (fl.getD j 0)) := by
        rcases HLW.out wr (HK1.out.more (fun s hs => nomatch hs) |>.trans HS.out.2.2.1) with ⟨⟨ad, e⟩, h0⟩ | ⟨g, off, cap, e, h1, h2, h3⟩
        · rw [h0] at hjl; simp at hjl
        · rw [HN.out] at e
          cases e
          exact ⟨g, off, rfl, by have := HN.out; omega, h2, h3 j hjl⟩
      obtain ⟨g, off, rfl, hc1, hc2, hce⟩ := hcell
      have hfm : fl.getD j 0 ∈ fl := by rw [List.getD_eq_getElem?_getD, List.getElem?_eq_getElem hjl]; exact List.getElem_mem hjl
      obtain ⟨f0, f1⟩ := HF.out _ hfm
      have hdrop : fl.drop j = fl.getD j 0 :: fl.drop (j + 1) := by
        rw [List.drop_eq_getElem_cons hjl, List.getD_eq_getElem?_getD, List.getElem?_eq_getElem hjl]; rfl
      have HRR : Hid (R = stepsR zs 2 16 (fl.getD j 0 :: fl.drop (j + 1)) xx s acc) := by show _ = _; rw [← hdrop]; exact HE.out.symm
      have c1 : wr.cell? ⟨w.heap.size + 1, 0, none⟩ = some (.int .i64 2) := by rw [cell_of_row wr (w.heap.size + 1) 0 _ _ (0, 0) (HS.out.2.2.1.heap HB1.out (by simp; omega))]; rfl
      have c2 : wr.cell? ⟨w.heap.size + 2, 0, none⟩ = some (.int .i64 16) := by rw [cell_of_row wr (w.heap.size + 2) 0 _ _ (0, 0) (HS.out.2.2.1.heap HB2.out (by simp; omega))]; rfl
      have c3 : wr.cell? ⟨w.heap.size, 0, none⟩ = some (.pointer (some ⟨r, 0, none⟩)) := by rw [cell_of_row wr w.heap.size 0 _ _ (0, 0) (HS.out.2.2.1.heap HB3.out (by simp; omega))]; rfl
      have HC := Lib.hid (steps1_2 (w.heap.size + 1) (w.heap.size + 2) w.heap.size (fl.getD j 0) f0 f1 HS.out.1 c1 c2 c3)
      have HD := Lib.hid (stV_bounds zs 2 16 (fl.getD j 0) s HBB.out)
      have HRS : Hid (R = if unitB (xx + (stV zs 2 16 (fl.getD j 0) s).1) = true then stepsR zs 2 16 (fl.drop (j + 1)) (xx + (stV zs 2 16 (fl.getD j 0) s).1) (stV zs 2 16 (fl.getD j 0) s).2 (acc ++ [xx + (stV zs 2 16 (fl.getD j 0) s).1]) else (none, (stV zs 2 16 (fl.getD j 0) s).2)) := HRR.out
      clear HE HRR hdrop hfm c1 c2 c3
      generalize fl.getD j 0 = f at *
      obtain ⟨q, hq⟩ : ∃ q, stV zs 2 16 f s = q := ⟨_, rfl⟩
      rw [hq] at HC HD HRS
      clear hq
      obtain ⟨d, k2, b2⟩ := q
      dsimp only at HC HD HRS
      obtain ⟨x0, x1⟩ := HX.out
      obtain ⟨d0, d1⟩ := HD.out
      go_wp2_with fail
      refine HC.out.mono ?_; rintro e w3 ⟨rfl, h3, hk3⟩
      have HS3 : Hid (EnSt w1 w3 r v zs (k2, b2) (.slice po j co) acc) := HS.out.read h3 hk3
      clear h3 hk3 HS HC hce hjl
      have hy : -65536 ≤ xx + d ∧ xx + d ≤ 65534 := ⟨by omega, by omega⟩
      go_wp2_with fail
      refine (isunit_calls _ _).mono ?_; rintro e w4 ⟨rfl, rfl⟩
      generalize xx + d = y at *
      clear x0 x1 d0 d1 HX HD
      cases hu : unitB y
      · have HFI : Hid (R = (none, (k2, b2))) := by show _ = _; rw [HRS.out, hu]; rfl
        clear HRS hu
        go_wp2_with fail
        go_ret2
        rw [HFI.out]
        exact ⟨_, rfl, (fun q hq => by cases hq), HS3.out.1, (HK1.out.more (fun s hs => nomatch hs)).trans HS3.out.2.2.1, fun b hb => by simp at hb⟩
      · have HFI : Hid (stepsR zs 2 16 (fl.drop (j + 1)) y (k2, b2) (acc ++ [y]) = R) := by show _ = _; rw [HRS.out, if_pos hu]
        have HX5 : Hid (-32768 ≤ y ∧ y ≤ 32767) := by unfold unitB at hu; show _ ∧ _; simpa using hu
        have HROW := Lib.hid HS3.out.2.1
        have hsz : w1.heap.size ≤ w3.heap.size := HS3.out.2.2.1.size
        rw [HA.out] at HROW
        clear HRS hu hy
        go_wp2_with (at_builtin; go_loud (refine wpList_pushL rfl _ _ 51 3 .i64 8 Tryz.underlying51 infoI (by decide) rfl w1.heap.size (.slice po j co) acc j HA.out rfl ?hown w3.heap.size [y] 1 rfl rfl ?hc ?hl ?hbase ?hk))
        case hown => exact Kp.row (S := []) ((Kp.refl _ _).alloc _) HROW.out (by simp)
        case hc => exact litI (zs := [y]) (Kp.refl _ _)
        case hl => omega
        case hbase => simp; omega
        case hk =>
        intro v5 w5 hown5 hk5 hk6
        have HS5 : Hid (EnSt w1 w5 r v zs (k2, b2) v5 (acc ++ [y])) := HS3.out.push (zs' := [y]) (m := 1) HA.out rfl hown5 hk5 hk6
        have HA5 : Hid ((acc ++ [y]).length = j + 1) := by show _ = _; rw [List.length_append, HA.out]; rfl
        clear hown5 hk5 hk6 HS3 HROW HA
        go_wp2_with fail
        go_roundw
        case rel => first | exact ⟨j + 1, (k2, b2), acc ++ [y], y, by omega, int_eq' (by omega), rfl, HX5, HA5, HS5.out, HFI.out⟩ | ((repeat apply Exists.intro); exact ⟨⟨j + 1, (k2, b2), acc ++ [y], y, by omega, int_eq' (by omega), rfl, HX5, HA5, HS5.out, HFI.out⟩, rfl⟩)
        case measure => simp [intOf]; omega
    · obtain rfl : j = N := by omega
      obtain ⟨k2, b2⟩ := s
      have HFI : Hid (R = (some acc, (k2, b2))) := by show _ = _; rw [← HE.out, List.drop_eq_nil_of_le (by rw [HN.out]; exact Nat.le_refl _)]; rfl
      have HROW : Hid (wr.ownsRow w1.heap.size 3 1 (.slice po j co) acc.length (acc.map (Value.int .i64))) := HS.out.2.1
      have c3 : wr.cell? ⟨w.heap.size, 0, none⟩ = some (.pointer (some ⟨r, 0, none⟩)) := by rw [cell_of_row wr w.heap.size 0 _ _ (0, 0) (HS.out.2.2.1.heap HB3.out (by simp; omega))]; rfl
      clear HE
      have HDN := Lib.hid (doneT HS.out.1)
      cases b2
      · go_wp2_with fail
        refine HDN.out.mono ?_; rintro e w4 ⟨rfl, rfl⟩
        go_wp2_with fail
        go_ret2
        rw [HFI.out]
        exact ⟨_, rfl, (fun q hq => by cases hq; exact IsInts.owned HROW.out), HS.out.1, (HK1.out.more (fun s hs => nomatch hs)).trans HS.out.2.2.1, fun b hb => by have := own_geb HROW.out b hb; have := HZ1.out; omega⟩
      · go_wp2_with fail
        refine HDN.out.mono ?_; rintro e w4 ⟨rfl, rfl⟩
        go_wp2_with fail
        go_ret2
        rw [HFI.out]
        exact ⟨_, rfl, (fun q hq => by cases hq; exact IsInts.owned HROW.out), HS.out.1, (HK1.out.more (fun s hs => nomatch hs)).trans HS.out.2.2.1, fun b hb => by have := own_geb HROW.out b hb; have := HZ1.out; omega⟩
/-- The two bits of a flag, and each of them. -/
theorem bits_case4 (f : Int) (h0 : 0 ≤ f) (h1 : f < 256) :
    (bits .and .i64 f 36 = 36 ∧ bits .and .i64 f 4 ≠ 0 ∧ bits .and .i64 f 32 ≠ 0) ∨ (bits .and .i64 f 36 = 4 ∧ bits .and .i64 f 4 ≠ 0 ∧ bits .and .i64 f 32 = 0) ∨
    (bits .and .i64 f 36 = 32 ∧ bits .and .i64 f 4 = 0 ∧ bits .and .i64 f 32 ≠ 0) ∨ (bits .and .i64 f 36 = 0 ∧ bits .and .i64 f 4 = 0 ∧ bits .and .i64 f 32 = 0) := by
  have key : ∀ n : Fin 256, (bits .and .i64 (n.val : Int) 36 = 36 ∧ bits .and .i64 (n.val : Int) 4 ≠ 0 ∧ bits .and .i64 (n.val : Int) 32 ≠ 0) ∨ (bits .and .i64 (n.val : Int) 36 = 4 ∧ bits .and .i64 (n.val : Int) 4 ≠ 0 ∧ bits .and .i64 (n.val : Int) 32 = 0) ∨
    (bits .and .i64 (n.val : Int) 36 = 32 ∧ bits .and .i64 (n.val : Int) 4 = 0 ∧ bits .and .i64 (n.val : Int) 32 ≠ 0) ∨ (bits .and .i64 (n.val : Int) 36 = 0 ∧ bits .and .i64 (n.val : Int) 4 = 0 ∧ bits .and .i64 (n.val : Int) 32 = 0) := by decide +kernel
  have := key ⟨f.toNat, by omega⟩
  simpa [Int.toNat_of_nonneg h0] using this
set_option maxRecDepth 100000 in
theorem steps1_4 {w : World} {r : Nat} {v : Value} {zs : List Int} {s : Rs} (B1 B2 B3 : Nat) (f : Int) (h0 : 0 ≤ f) (h1 : f < 256) (h : RdS w r v zs s.1 s.2) (c1 : w.cell? ⟨B1, 0, none⟩ = some (.int .i64 4)) (c2 : w.cell? ⟨B2, 0, none⟩ = some (.int .i64 32)) (c3 : w.cell? ⟨B3, 0, none⟩ = some (.pointer (some ⟨r, 0, none⟩))) :
    Calls Tryz.prog 84 #[.int .i64 f, .pointer (some ⟨B1, 0, none⟩), .pointer (some ⟨B2, 0, none⟩), .pointer (some ⟨B3, 0, none⟩)] w fun e w' => e = .returned (.int .i64 (stV zs 4 32 f s).1) ∧ RdS w' r v zs (stV zs 4 32 f s).2.1 (stV zs 4 32 f s).2.2 ∧ Kp [r] w w' := by
  have HU := Lib.hid (u8T h)
  have HI := Lib.hid (i16T h)
  have HV1 := Lib.hid (val_bounds zs 1 s h.2.2.1)
  have HV2 := Lib.hid (val_bounds zs 2 s h.2.2.1)
  have hor : bits .or .i64 4 32 = 36 := by decide +kernel
  have HS := Lib.hid h
  rcases bits_case4 f h0 h1 with ⟨e1, e2, e3⟩ | ⟨e1, e2, e3⟩ | ⟨e1, e2, e3⟩ | ⟨e1, e2, e3⟩
  · have HE : Hid (stV zs 4 32 f s = (val zs 1 s, stp zs 1 s)) := by unfold stV; show _ = _; rw [if_pos e2, if_pos e3]
    clear e2 e3 h h0 h1
    go_enter Tryz.func84, Tryz.ntmps84
    go_wp2_with fail
    refine HU.out.mono ?_; rintro e w2 ⟨rfl, h2, hk2⟩
    have HR : Hid (RdS w2 r v zs (stp zs 1 s).1 (stp zs 1 s).2) := h2
    clear h2
    go_wp2_with fail
    go_ret
    rw [HE.out]
    exact ⟨rfl, HR.out, hk2⟩
  · have HE : Hid (stV zs 4 32 f s = (- val zs 1 s, stp zs 1 s)) := by unfold stV; show _ = _; rw [if_pos e2, if_neg (by simp [e3])]
    clear e2 e3 h h0 h1
    have hb := HV1.out
    have hp : (256 ^ 1 : Nat) = 256 := by decide
    rw [hp] at hb
    obtain ⟨y, hy⟩ : ∃ y, val zs 1 s = y := ⟨_, rfl⟩
    rw [hy] at HU hb HE
    clear hy hp
    obtain ⟨hb0, hb1⟩ := hb
    go_enter Tryz.func84, Tryz.ntmps84
    go_wp2_with fail
    refine HU.out.mono ?_; rintro e w2 ⟨rfl, h2, hk2⟩
    have HR : Hid (RdS w2 r v zs (stp zs 1 s).1 (stp zs 1 s).2) := h2
    clear h2
    go_wp2_with fail
    go_ret
    rw [HE.out]
    exact ⟨by first | rfl | simp, HR.out, hk2⟩
  · have HE : Hid (stV zs 4 32 f s = (0, s)) := by unfold stV; show _ = _; rw [if_neg (by simp [e2]), if_neg e3]
    clear e2 e3 h h0 h1
    go_enter Tryz.func84, Tryz.ntmps84
    go_wp2_with fail
    go_ret
    rw [HE.out]
    exact ⟨rfl, HS.out.kp0 (by (repeat (first | exact Kp.refl _ _ | assumption | refine Kp.drew ?_ | refine Kp.drewN ?_ _ | refine Kp.alloc ?_ _ | (refine Kp.setCell ?_ (by first | (left; simp; done) | (right; simp; try omega)) _) | (refine Kp.trans' ?_ (by assumption) (by simp; try omega))))), by (repeat (first | exact Kp.refl _ _ | assumption | refine Kp.drew ?_ | refine Kp.drewN ?_ _ | refine Kp.alloc ?_ _ | (refine Kp.setCell ?_ (by first | (left; simp; done) | (right; simp; try omega)) _) | (refine Kp.trans' ?_ (by assumption) (by simp; try omega))))⟩
  · have HE : Hid (stV zs 4 32 f s = (s16 (val zs 2 s), stp zs 2 s)) := by unfold stV; show _ = _; rw [if_neg (by simp [e2]), if_pos e3]
    clear e2 e3 h h0 h1
    go_enter Tryz.func84, Tryz.ntmps84
    go_wp2_with fail
    refine HI.out.mono ?_; rintro e w2 ⟨rfl, h2, hk2⟩
    have HR : Hid (RdS w2 r v zs (stp zs 2 s).1 (stp zs 2 s).2) := h2
    clear h2
    go_wp2_with fail
    go_ret
    rw [HE.out]
    exact ⟨rfl, HR.out, hk2⟩
set_option maxRecDepth 100000 in
set_option maxHeartbeats 2000000 in
theorem steps_4 {w : World} {r : Nat} {v : Value} {zs : List Int} {s : Rs} (lv : Value) (fl : List Int) (hfl : fl.length ≤ 4096) (hf : ∀ c ∈ fl, 0 ≤ c ∧ c < 256) (hl : IsInts .i64 w lv fl) (hlb : ∀ b, blockOf lv = some b → b ≠ r) (h : RdS w r v zs s.1 s.2) (hv : ∀ b, blockOf v = some b → b < w.heap.size) :
    Calls Tryz.prog 75 #[.pointer (some ⟨r, 0, none⟩), lv, .int .i64 4, .int .i64 32] w fun e w' => ∃ v', e = .returned (.tuple #[v', .bool ((stepsR zs 4 32 fl 0 s []).1.isSome && !(stepsR zs 4 32 fl 0 s []).2.2)]) ∧ (∀ q, (stepsR zs 4 32 fl 0 s []).1 = some q → IsInts .i64 w' v' q) ∧ RdS w' r v zs (stepsR zs 4 32 fl 0 s []).2.1 (stepsR zs 4 32 fl 0 s []).2.2 ∧ Kp [r] w w' ∧ ∀ b, blockOf v' = some b → w.heap.size ≤ b := by
  obtain ⟨i0, hi, hz0, hz1, hz2⟩ := info_parts infoI
  have HBB := Lib.hid h.2.2.1
  have HF := Lib.hid hf
  obtain ⟨pl, cl, rfl⟩ : ∃ p c, lv = .slice p fl.length c := by
    rcases hl with ⟨⟨ad, rfl⟩, rfl⟩ | ⟨g, off, c, rfl, _⟩
    · exact ⟨_, 0, rfl⟩
    · exact ⟨_, c, rfl⟩
  have HLW : Hid (∀ W, Kp [r] w W → IsInts .i64 W (.slice pl fl.length cl) fl) := fun W hW => hl.kp hW (fun t ht e => by simp at ht; subst ht; exact hlb _ e rfl)
  obtain ⟨R, hR⟩ : ∃ R, stepsR zs 4 32 fl 0 s [] = R := ⟨_, rfl⟩
  have HR : Hid (stepsR zs 4 32 (fl.drop 0) 0 s [] = R) := hR
  rw [hR]
  obtain ⟨N, hN⟩ : ∃ N, fl.length = N := ⟨_, rfl⟩
  have HN := Lib.hid hN
  rw [hN] at hfl HLW ⊢
  have hrw : r < w.heap.size := h.lt
  -- the world with the three boxes
  have hkb : Kp [] w (((w.alloc (.cells #[.pointer (some ⟨r, 0, none⟩)] 100)).alloc (.cells #[.int .i64 4] 3)).alloc (.cells #[.int .i64 32] 3)) := (((Kp.refl _ _).alloc _).alloc _).alloc _
  have HK1 := Lib.hid hkb
  have HB3 : Hid ((((w.alloc (.cells #[.pointer (some ⟨r, 0, none⟩)] 100)).alloc (.cells #[.int .i64 4] 3)).alloc (.cells #[.int .i64 32] 3)).heap[w.heap.size]? = some (.cells #[.pointer (some ⟨r, 0, none⟩)] 100)) := (((Kp.refl [] _).alloc _).alloc _).heap (heap_alloc_new w _) (by simp)
  have HB1 : Hid ((((w.alloc (.cells #[.pointer (some ⟨r, 0, none⟩)] 100)).alloc (.cells #[.int .i64 4] 3)).alloc (.cells #[.int .i64 32] 3)).heap[w.heap.size + 1]? = some (.cells #[.int .i64 4] 3)) := by
    have := heap_alloc_new (w.alloc (.cells #[.pointer (some ⟨r, 0, none⟩)] 100)) (.cells #[.int .i64 4] 3)
    rw [World.size_alloc] at this
    exact ((Kp.refl [] _).alloc _).heap this (by simp)
  have HB2 : Hid ((((w.alloc (.cells #[.pointer (some ⟨r, 0, none⟩)] 100)).alloc (.cells #[.int .i64 4] 3)).alloc (.cells #[.int .i64 32] 3)).heap[w.heap.size + 2]? = some (.cells #[.int .i64 32] 3)) := by
    have := heap_alloc_new ((w.alloc (.cells #[.pointer (some ⟨r, 0, none⟩)] 100)).alloc (.cells #[.int .i64 4] 3)) (.cells #[.int .i64 32] 3)
    rw [World.size_alloc, World.size_alloc] at this
    exact this
  have HS0 : Hid (RdS w r v zs s.1 s.2) := h
  have HV := Lib.hid hv
  have HZ1 : Hid ((((w.alloc (.cells #[.pointer (some ⟨r, 0, none⟩)] 100)).alloc (.cells #[.int .i64 4] 3)).alloc (.cells #[.int .i64 32] 3)).heap.size = w.heap.size + 3) := by show _ = _; simp
  clear h hv hf hl hlb hR hN hkb
  go_enter Tryz.func75, Tryz.ntmps75
  go_wp2_with (at_make; go_loud (refine wpList_make_own _ rfl _ _ 51 rfl (w.heap.size + 3) 3 i0 (.int .i64 0) 1 Tryz.underlying51 hi hz0 hz1 .i64 .i64 N N rfl rfl rfl ?b2 ?b3 ?b4 ?hK))
  case b2 => rw [hz2]; omega
  case b3 => unfold maxLen; omega
  case b4 => simp
  case hK =>
  intro w2 hown hgr
  generalize ((w.alloc (.cells #[.pointer (some ⟨r, 0, none⟩)] 100)).alloc (.cells #[.int .i64 4] 3)).alloc (.cells #[.int .i64 32] 3) = w1 at *
  have hk2 : Kp [] w1 w2 := Kp.grown (Kp.refl _ _) hgr (fun k hk => nomatch hk)
  have hS : Hid (EnSt w1 w2 r v zs s (.slice (some ⟨w.heap.size + 1 + 1 + 1, 0, none⟩) 0 N) []) := ⟨HS0.out.kp0 (HK1.out.trans hk2), by rw [HZ1.out]; exact hown, hk2.more (fun s hs => nomatch hs), by have := HZ1.out; omega, fun b hb => by have := HV.out b hb; have := HZ1.out; omega⟩
  clear hown hgr hk2 hi hz0 hz1 hz2 HS0
  go_wp2_with fail
  go_loopw [11, 12, 14, 21] (fun l x _ i wr => ∃ (j : Nat) (s : Rs) (acc : List Int) (xx : Int), j ≤ N ∧ i = .int .i64 j ∧ x = .int .i64 xx ∧ Hid (-32768 ≤ xx ∧ xx ≤ 32767) ∧ Hid (acc.length = j) ∧ Hid (EnSt w1 wr r v zs s l acc ∧ stepsR zs 4 32 (fl.drop j) xx s acc = R)) (fun _ _ _ i _ => N - (intOf i).toNat)
  case atStart => exact ⟨0, s, [], 0, by omega, rfl, rfl, ⟨by omega, by omega⟩, rfl, hS.out, HR.out⟩
  case round =>
    obtain ⟨j, s, acc, xx, hj, rfl, rfl, HX, HA, HJ⟩ := hrel
    clear hS HR
    obtain ⟨po, co, hl⟩ := slice_own HJ.out.1.2.1
    subst hl
    rw [HA.out] at HJ ⊢
    have HE := Lib.hid HJ.out.2
    have HS := Lib.hid HJ.out.1
    clear HJ
    by_cases hlt : j < N
    · have hjl : j < fl.length := by rw [HN.out]; exact hlt
      have hcell : ∃ g off, pl = some ⟨g, off, none⟩ ∧ N ≤ cl ∧ cl ≤ maxLen ∧ wr.cell? ⟨g, off + j, none⟩ = some (.int .i64 (fl.getD j 0)) := by
        rcases HLW.out wr (HK1.out.more (fun s hs => nomatch hs) |>.trans HS.out.2.2.1) with ⟨⟨ad, e⟩, h0⟩ | ⟨g, off, cap, e, h1, h2, h3⟩
        · rw [h0] at hjl; simp at hjl
        · rw [HN.out] at e
          cases e
          exact ⟨g, off, rfl, by have := HN.out; omega, h2, h3 j hjl⟩
      obtain ⟨g, off, rfl, hc1, hc2, hce⟩ := hcell
      have hfm : fl.getD j 0 ∈ fl := by rw [List.getD_eq_getElem?_getD, List.getElem?_eq_getElem hjl]; exact List.getElem_mem hjl
      obtain ⟨f0, f1⟩ := HF.out _ hfm
      have hdrop : fl.drop j = fl.getD j 0 :: fl.drop (j + 1) := by
        rw [List.drop_eq_getElem_cons hjl, List.getD_eq_getElem?_getD, List.getElem?_eq_getElem hjl]; rfl
      have HRR : Hid (R = stepsR zs 4 32 (fl.getD j 0 :: fl.drop (j + 1)) xx s acc) := by show _ = _; rw [← hdrop]; exact HE.out.symm
      have c1 : wr.cell? ⟨w.heap.size + 1, 0, none⟩ = some (.int .i64 4) := by rw [cell_of_row wr (w.heap.size + 1) 0 _ _ (0, 0) (HS.out.2.2.1.heap HB1.out (by simp; omega))]; rfl
      have c2 : wr.cell? ⟨w.heap.size + 2, 0, none⟩ = some (.int .i64 32) := by rw [cell_of_row wr (w.heap.size + 2) 0 _ _ (0, 0) (HS.out.2.2.1.heap HB2.out (by simp; omega))]; rfl
      have c3 : wr.cell? ⟨w.heap.size, 0, none⟩ = some (.pointer (some ⟨r, 0, none⟩)) := by rw [cell_of_row wr w.heap.size 0 _ _ (0, 0) (HS.out.2.2.1.heap HB3.out (by simp; omega))]; rfl
      have HC := Lib.hid (steps1_4 (w.heap.size + 1) (w.heap.size + 2) w.heap.size (fl.getD j 0) f0 f1 HS.out.1 c1 c2 c3)
      have HD := Lib.hid (stV_bounds zs 4 32 (fl.getD j 0) s HBB.out)
      have HRS : Hid (R = if unitB (xx + (stV zs 4 32 (fl.getD j 0) s).1) = true then stepsR zs 4 32 (fl.drop (j + 1)) (xx + (stV zs 4 32 (fl.getD j 0) s).1) (stV zs 4 32 (fl.getD j 0) s).2 (acc ++ [xx + (stV zs 4 32 (fl.getD j 0) s).1]) else (none, (stV zs 4 32 (fl.getD j 0) s).2)) := HRR.out
      clear HE HRR hdrop hfm c1 c2 c3
      generalize fl.getD j 0 = f at *
      obtain ⟨q, hq⟩ : ∃ q, stV zs 4 32 f s = q := ⟨_, rfl⟩
      rw [hq] at HC HD HRS
      clear hq
      obtain ⟨d, k2, b2⟩ := q
      dsimp only at HC HD HRS
      obtain ⟨x0, x1⟩ := HX.out
      obtain ⟨d0, d1⟩ := HD.out
      go_wp2_with fail
      refine HC.out.mono ?_; rintro e w3 ⟨rfl, h3, hk3⟩
      have HS3 : Hid (EnSt w1 w3 r v zs (k2, b2) (.slice po j co) acc) := HS.out.read h3 hk3
      clear h3 hk3 HS HC hce hjl
      have hy : -65536 ≤ xx + d ∧ xx + d ≤ 65534 := ⟨by omega, by omega⟩
      go_wp2_with fail
      refine (isunit_calls _ _).mono ?_; rintro e w4 ⟨rfl, rfl⟩
      generalize xx + d = y at *
      clear x0 x1 d0 d1 HX HD
      cases hu : unitB y
      · have HFI : Hid (R = (none, (k2, b2))) := by show _ = _; rw [HRS.out, hu]; rfl
        clear HRS hu
        go_wp2_with fail
        go_ret2
        rw [HFI.out]
        exact ⟨_, rfl, (fun q hq => by cases hq), HS3.out.1, (HK1.out.more (fun s hs => nomatch hs)).trans HS3.out.2.2.1, fun b hb => by simp at hb⟩
      · have HFI : Hid (stepsR zs 4 32 (fl.drop (j + 1)) y (k2, b2) (acc ++ [y]) = R) := by show _ = _; rw [HRS.out, if_pos hu]
        have HX5 : Hid (-32768 ≤ y ∧ y ≤ 32767) := by unfold unitB at hu; show _ ∧ _; simpa using hu
        have HROW := Lib.hid HS3.out.2.1
        have hsz : w1.heap.size ≤ w3.heap.size := HS3.out.2.2.1.size
        rw [HA.out] at HROW
        clear HRS hu hy
        go_wp2_with (at_builtin; go_loud (refine wpList_pushL rfl _ _ 51 3 .i64 8 Tryz.underlying51 infoI (by decide) rfl w1.heap.size (.slice po j co) acc j HA.out rfl ?hown w3.heap.size [y] 1 rfl rfl ?hc ?hl ?hbase ?hk))
        case hown => exact Kp.row (S := []) ((Kp.refl _ _).alloc _) HROW.out (by simp)
        case hc => exact litI (zs := [y]) (Kp.refl _ _)
        case hl => omega
        case hbase => simp; omega
        case hk =>
        intro v5 w5 hown5 hk5 hk6
        have HS5 : Hid (EnSt w1 w5 r v zs (k2, b2) v5 (acc ++ [y])) := HS3.out.push (zs' := [y]) (m := 1) HA.out rfl hown5 hk5 hk6
        have HA5 : Hid ((acc ++ [y]).length = j + 1) := by show _ = _; rw [List.length_append, HA.out]; rfl
        clear hown5 hk5 hk6 HS3 HROW HA
        go_wp2_with fail
        go_roundw
        case rel => first | exact ⟨j + 1, (k2, b2), acc ++ [y], y, by omega, int_eq' (by omega), rfl, HX5, HA5, HS5.out, HFI.out⟩ | ((repeat apply Exists.intro); exact ⟨⟨j + 1, (k2, b2), acc ++ [y], y, by omega, int_eq' (by omega), rfl, HX5, HA5, HS5.out, HFI.out⟩, rfl⟩)
        case measure => simp [intOf]; omega
    · obtain rfl : j = N := by omega
      obtain ⟨k2, b2⟩ := s
      have HFI : Hid (R = (some acc, (k2, b2))) := by show _ = _; rw [← HE.out, List.drop_eq_nil_of_le (by rw [HN.out]; exact Nat.le_refl _)]; rfl
      have HROW : Hid (wr.ownsRow w1.heap.size 3 1 (.slice po j co) acc.length (acc.map (Value.int .i64))) := HS.out.2.1
      have c3 : wr.cell? ⟨w.heap.size, 0, none⟩ = some (.pointer (some ⟨r, 0, none⟩)) := by rw [cell_of_row wr w.heap.size 0 _ _ (0, 0) (HS.out.2.2.1.heap HB3.out (by simp; omega))]; rfl
      clear HE
      have HDN := Lib.hid (doneT HS.out.1)
      cases b2
      · go_wp2_with fail
        refine HDN.out.mono ?_; rintro e w4 ⟨rfl, rfl⟩
        go_wp2_with fail
        go_ret2
        rw [HFI.out]
        exact ⟨_, rfl, (fun q hq => by cases hq; exact IsInts.owned HROW.out), HS.out.1, (HK1.out.more (fun s hs => nomatch hs)).trans HS.out.2.2.1, fun b hb => by have := own_geb HROW.out b hb; have := HZ1.out; omega⟩
      · go_wp2_with fail
        refine HDN.out.mono ?_; rintro e w4 ⟨rfl, rfl⟩
        go_wp2_with fail
        go_ret2
        rw [HFI.out]
        exact ⟨_, rfl, (fun q hq => by cases hq; exact IsInts.owned HROW.out), HS.out.1, (HK1.out.more (fun s hs => nomatch hs)).trans HS.out.2.2.1, fun b hb => by have := own_geb HROW.out b hb; have := HZ1.out; omega⟩
end Go.Proofs.YtafkhnlmipddmaaGreat
namespace Go.Proofs.YtafkhnlmipddmaaGreat
open Go.RowKit
set_option linter.unusedVariables false
set_option linter.unusedSimpArgs false
/-- A point, of its flag and its two numbers. -/
def pnF (f x y : Int) : Pn := ⟨x * 65536, y * 65536, if bits .and .i64 f 1 = 0 then 2 else 1⟩
def ptsOf (fl xs ys : List Int) : List Pn := (List.range fl.length).map fun i => pnF (fl.getD i 0) (xs.getD i 0) (ys.getD i 0)
/-- Where contour j begins. -/
def fromE (es : List Int) : Nat → Nat
  | 0 => 0
  | j + 1 => (es.getD j 0).toNat + 1
/-- The contours, by the numbers of their last points. -/
def contsE (pts : List Pn) (es : List Int) : List (List Pn) := (List.range es.length).map fun j => (pts.drop (fromE es j)).take (fromE es (j + 1) - fromE es j)
/-- The numbers rise, and there are so many points. -/
def RiseE (es : List Int) (n : Nat) : Prop := ∀ j, j < es.length → 0 ≤ es.getD j 0 ∧ fromE es j ≤ (es.getD j 0).toNat ∧ (es.getD j 0).toNat < n
theorem ptsOf_len (fl xs ys : List Int) : (ptsOf fl xs ys).length = fl.length := by simp [ptsOf]
theorem ptsOf_at (fl xs ys : List Int) (i : Nat) (h : i < fl.length) : (ptsOf fl xs ys).getD i pn0 = pnF (fl.getD i 0) (xs.getD i 0) (ys.getD i 0) := by
  unfold ptsOf
  rw [List.getD_eq_getElem?_getD, List.getElem?_map, List.getElem?_range h]; rfl
theorem contsE_len (pts : List Pn) (es : List Int) : (contsE pts es).length = es.length := by simp [contsE]
theorem contsE_take (pts : List Pn) (es : List Int) (j : Nat) (h : j < es.length) : (contsE pts es).take (j + 1) = (contsE pts es).take j ++ [(pts.drop (fromE es j)).take (fromE es (j + 1) - fromE es j)] := by
  rw [List.take_succ_eq_append_getElem (by rw [contsE_len]; exact h)]
  simp [contsE]
theorem take_more (pts : List Pn) (a m : Nat) (h : a + m < pts.length) : (pts.drop a).take (m + 1) = (pts.drop a).take m ++ [pts.getD (a + m) pn0] := by
  rw [List.take_succ_eq_append_getElem (by rw [List.length_drop]; omega), List.getElem_drop, List.getD_eq_getElem?_getD, List.getElem?_eq_getElem h]; rfl
/-- A number of a row that is read. -/
theorem IsInts.at_ {w : World} {v : Value} {zs : List Int} (h : IsInts .i64 w v zs) {i : Nat} (hi : i < zs.length) : ∃ g off c, v = .slice (some ⟨g, off, none⟩) zs.length c ∧ zs.length ≤ c ∧ c ≤ maxLen ∧ w.cell? ⟨g, off + i, none⟩ = some (.int .i64 (zs.getD i 0)) := by
  rcases h with ⟨⟨a, rfl⟩, rfl⟩ | ⟨g, off, c, rfl, h1, h2, h3⟩
  · simp at hi
  · exact ⟨g, off, c, rfl, h1, h2, h3 i hi⟩
theorem IsInts.kp0 {w w' : World} {k : IntKind} {v : Value} {zs : List Int} (h : IsInts k w v zs) (hk : Kp [] w w') : IsInts k w' v zs := h.kp hk (by simp)
theorem IsInts.form {w : World} {k : IntKind} {v : Value} {zs : List Int} (h : IsInts k w v zs) : ∃ p c, v = .slice p zs.length c := by
  rcases h with ⟨⟨a, rfl⟩, rfl⟩ | ⟨g, off, c, rfl, _⟩
  · exact ⟨_, 0, rfl⟩
  · exact ⟨_, c, rfl⟩
theorem box_cells {w W : World} {B : Nat} {x y z : Int} {t : TypeId} (hk : Kp [] w W) (h : w.heap[B]? = some (.cells #[.int .i64 x, .int .i64 y, .int .i64 z] t)) :
    (W.cell? ⟨B, 0, none⟩ = some (.int .i64 x) ∧ W.cell? ⟨B, 1, none⟩ = some (.int .i64 y) ∧ W.cell? ⟨B, 2, none⟩ = some (.int .i64 z)) ∧ W.frozen? ⟨B, 0, none⟩ = false ∧ W.frozen? ⟨B, 1, none⟩ = false ∧ W.frozen? ⟨B, 2, none⟩ = false := by
  have h2 := hk.heap h (by simp)
  exact ⟨⟨by rw [cell_of_row W B 0 _ _ (0, 0) h2]; rfl, by rw [cell_of_row W B 1 _ _ (0, 0) h2]; rfl, by rw [cell_of_row W B 2 _ _ (0, 0) h2]; rfl⟩, frozen_of_row W B 0 _ _ h2, frozen_of_row W B 1 _ _ h2, frozen_of_row W B 2 _ _ h2⟩
set_option maxRecDepth 100000 in
set_option maxHeartbeats 4000000 in
theorem contours_calls {w : World} (ve vf vx vy : Value) (es fl xs ys : List Int) (he : IsInts .i64 w ve es) (hf : IsInts .i64 w vf fl) (hx : IsInts .i64 w vx xs) (hy : IsInts .i64 w vy ys)
    (hlx : xs.length = fl.length) (hly : ys.length = fl.length) (hn : fl.length ≤ 4096) (hes : es.length ≤ 256) (hr : RiseE es fl.length) (hbx : ∀ c ∈ xs, -32768 ≤ c ∧ c ≤ 32767) (hby : ∀ c ∈ ys, -32768 ≤ c ∧ c ≤ 32767) :
    Calls Tryz.prog 76 #[ve, vf, vx, vy] w fun e w' => ∃ v', e = .returned v' ∧ WOut w' w.heap.size v' (contsE (ptsOf fl xs ys) es) ∧ Kp [] w w' := by
  obtain ⟨i0, hi, hzz0, hzz1, hzz2⟩ := info_parts infoPs
  have HE := Lib.hid (fun W (hW : Kp [] w W) => he.kp0 hW)
  have HF := Lib.hid (fun W (hW : Kp [] w W) => hf.kp0 hW)
  have HX := Lib.hid (fun W (hW : Kp [] w W) => hx.kp0 hW)
  have HY := Lib.hid (fun W (hW : Kp [] w W) => hy.kp0 hW)
  obtain ⟨pe, ce, rfl⟩ := he.form
  obtain ⟨pf, cf, rfl⟩ := hf.form
  obtain ⟨px, cx, rfl⟩ := hx.form
  obtain ⟨py, cy, rfl⟩ := hy.form
  have HR := Lib.hid hr
  have HBX := Lib.hid hbx
  have HBY := Lib.hid hby
  have HPT := Lib.hid (fun i h => ptsOf_at fl xs ys i h)
  have hpl := ptsOf_len fl xs ys
  generalize ptsOf fl xs ys = P at *
  obtain ⟨N, hN⟩ : ∃ N, fl.length = N := ⟨_, rfl⟩
  obtain ⟨K, hK⟩ : ∃ K, es.length = K := ⟨_, rfl⟩
  have HLX : Hid (xs.length = N) := by show _ = _; omega
  have HLY : Hid (ys.length = N) := by show _ = _; omega
  have HLF := Lib.hid hN
  have HLE := Lib.hid hK
  have HPL : Hid (P.length = N) := by show _ = _; omega
  rw [HLX.out] at HX ⊢
  rw [HLY.out] at HY ⊢
  rw [hN] at HF HR HPT hn ⊢
  rw [hK] at HE hes ⊢
  clear he hf hx hy hlx hly hr hbx hby hpl hN hK
  go_enter Tryz.func76, Tryz.ntmps76
  go_wp2_with fail
  go_loopw [9, 10, 12, 13, 14, 15, 18] (fun l a _ _ _ _ i wr => ∃ (j : Nat) (l2 : Value), j ≤ K ∧ i = .int .i64 j ∧ a = .int .i64 (fromE es j : Nat) ∧ l2 = l ∧ Hid (WOut wr w.heap.size l2 ((contsE P es).take j) ∧ Kp [] w wr)) (fun _ _ _ _ _ _ i _ => K - (intOf i).toNat)
  case atStart => exact ⟨0, _, by omega, rfl, rfl, rfl, WOut.nil _ _, Kp.refl _ _⟩
  case round =>
    obtain ⟨j, l, hj, rfl, rfl, rfl, HJ⟩ := hrel
    by_cases hlt : j < K
    · have hje : j < es.length := by rw [HLE.out]; exact hlt
      obtain ⟨g1, o1, c1, e1, _, _, hce⟩ := (HE.out wr HJ.out.2).at_ hje
      rw [HLE.out] at e1
      cases e1
      obtain ⟨r0, r1, r2⟩ := HR.out j hje
      have HTK := Lib.hid (contsE_take P es j hje)
      have HTL : Hid (((contsE P es).take j).length = j) := by show _ = _; rw [List.length_take, contsE_len]; omega
      have hnx : fromE es (j + 1) = (es.getD j 0).toNat + 1 := rfl
      obtain ⟨E, hE⟩ : ∃ E : Nat, es.getD j 0 = E := ⟨(es.getD j 0).toNat, by omega⟩
      rw [hE] at r1 r2 hnx hce
      rw [Int.toNat_natCast] at r1 r2 hnx
      have HNX := Lib.hid hnx
      rw [hnx] at HTK
      obtain ⟨a, ha⟩ : ∃ a, fromE es j = a := ⟨_, rfl⟩
      rw [ha] at r1 HTK ⊢
      obtain ⟨vs, HW⟩ : ∃ vs, Hid (WVs wr w.heap.size l vs ((contsE P es).take j)) := by obtain ⟨vs, h⟩ := HJ.out.1; exact ⟨vs, h⟩
      have hro := HW.out.1
      rw [HTL.out] at hro
      obtain ⟨pl, cl, hl⟩ := slice_own hro
      subst hl
      have HRO := Lib.hid hro
      have HOB := Lib.hid (fun b (hb : (Value.slice pl j cl).ownBlock = some b) => (hro.lt b hb).2)
      have HKW : Hid (Kp [] w wr) := HJ.out.2
      have HRI : Hid (E < N) := r2
      obtain ⟨B0, hB0⟩ : ∃ B0, wr.heap.size = B0 := ⟨_, rfl⟩
      obtain ⟨WA, hWA⟩ : ∃ WA, WA = wr := ⟨_, rfl⟩
      have HWA := Lib.hid hWA
      have HB0 : Hid (WA.heap.size = B0) := by rw [hWA]; exact hB0
      have HWK : Hid (∀ W, Kp [] WA W → WVs W w.heap.size (.slice pl j cl) vs ((contsE P es).take j) ∧ W.ownsRow w.heap.size 23 1 (.slice pl j cl) j vs ∧ Kp [] w W ∧ w.heap.size ≤ B0 ∧ B0 ≤ W.heap.size) := fun W hW => by
        rw [hWA] at hW
        exact ⟨HW.out.kp0 hW, hW.row HRO.out (by simp), HKW.out.trans hW, by rw [← hB0]; exact HKW.out.size, by rw [← hB0]; exact hW.size⟩
      clear hro hje HJ r0 hnx hE ha HW HRO HKW hB0 hWA
      go_wp2_with fail
      go_loopw [13, 14, 15] (fun cv i _ wr2 => ∃ (m : Nat) (c2 : Value), a + m ≤ E + 1 ∧ i = .int .i64 ((a + m : Nat) : Int) ∧ c2 = cv ∧ Hid (wr2.ownsRow B0 46 3 c2 m (psCells ((P.drop a).take m)) ∧ Kp [] WA wr2)) (fun _ i _ _ => E + 1 - (intOf i).toNat)
      case atStart => exact ⟨0, _, by omega, rfl, rfl, by show _ ∧ _; rw [List.take_zero]; rw [HWA.out]; exact ⟨World.ownsRow_nil _ _ _ _, Kp.refl _ _⟩⟩
      case round =>
        obtain ⟨m, cv, hm, rfl, rfl, HI⟩ := hrel
        obtain ⟨pc, cc, hcv⟩ := slice_own HI.out.1
        subst hcv
        have HKI := Lib.hid HI.out.2
        have HRI2 := Lib.hid HI.out.1
        have hsz2 : w.heap.size ≤ wr.heap.size := by have := HWK.out _ HKI.out; omega
        obtain ⟨_, _, hkw, hs1, hs2⟩ := HWK.out _ HKI.out
        clear HI
        by_cases hme : a + m < E + 1
        · have hmN : a + m < N := by omega
          obtain ⟨gf, of, qf, ef, _, _, hcf⟩ := (HF.out wr hkw).at_ (i := a + m) (by rw [HLF.out]; exact hmN)
          obtain ⟨gx, ox, qx, ex, _, _, hcx⟩ := (HX.out wr hkw).at_ (i := a + m) (by rw [HLX.out]; exact hmN)
          obtain ⟨gy, oy, qy, ey, _, _, hcy⟩ := (HY.out wr hkw).at_ (i := a + m) (by rw [HLY.out]; exact hmN)
          rw [HLF.out] at ef
          rw [HLX.out] at ex
          rw [HLY.out] at ey
          cases ef; cases ex; cases ey
          have hpt := HPT.out (a + m) hmN
          have hxm : xs.getD (a + m) 0 ∈ xs := by rw [List.getD_eq_getElem?_getD, List.getElem?_eq_getElem (by rw [HLX.out]; exact hmN)]; exact List.getElem_mem _
          have hym : ys.getD (a + m) 0 ∈ ys := by rw [List.getD_eq_getElem?_getD, List.getElem?_eq_getElem (by rw [HLY.out]; exact hmN)]; exact List.getElem_mem _
          obtain ⟨bx0, bx1⟩ := HBX.out _ hxm
          obtain ⟨by0, by1⟩ := HBY.out _ hym
          have HTM : Hid ((P.drop a).take (m + 1) = (P.drop a).take m ++ [pnF (fl.getD (a + m) 0) (xs.getD (a + m) 0) (ys.getD (a + m) 0)]) := by
            show _ = _
            rw [← hpt]; exact take_more P a m (by rw [HPL.out]; exact hmN)
          have HTLM : Hid (((P.drop a).take m).length = m) := by show _ = _; rw [List.length_take, List.length_drop, HPL.out]; omega
          clear hxm hym hpt
          generalize fl.getD (a + m) 0 = f at *
          generalize xs.getD (a + m) 0 = x at *
          generalize ys.getD (a + m) 0 = y at *
          generalize (P.drop a).take m = D at *
          have hkw2 := Lib.hid hkw
          obtain ⟨I, hI⟩ : ∃ I, a + m = I := ⟨_, rfl⟩
          rw [hI] at hcf hcx hcy hme hmN ⊢
          have HII := Lib.hid hI
          have HWX : Hid (IntKind.i64.wrap (x * 65536) = x * 65536) := by show _ = _; rw [IntKind.wrap_i64]; omega
          have HWY : Hid (IntKind.i64.wrap (y * 65536) = y * 65536) := by show _ = _; rw [IntKind.wrap_i64]; omega
          clear hI hkw
          go_wp2_with fail
          go_region_held3 (fun w' => w'.cell? ⟨gx, ox + I, none⟩ = some (.int .i64 x) ∧ w'.cell? ⟨gy, oy + I, none⟩ = some (.int .i64 y)) (first | go_keep | exact ⟨hcx, hcy⟩) (fail)
          rw [HWX.out, HWY.out]
          have HKP : Hid (Kp [] wr (wr.alloc (.cells #[.int .i64 (x * 65536), .int .i64 (y * 65536), .int .i64 2] 46)).drew) := ((Kp.refl _ _).alloc _).drew
          have hA : (wr.alloc (.cells #[.int .i64 (x * 65536), .int .i64 (y * 65536), .int .i64 2] 46)).drew.heap[wr.heap.size]? = some (.cells #[.int .i64 (x * 65536), .int .i64 (y * 65536), .int .i64 2] 46) := heap_alloc_new wr _
          have HA := Lib.hid hA
          have hcf2 := HKP.out.cell hcf (by simp)
          have hsW : wr.heap.size ≤ (wr.alloc (.cells #[.int .i64 (x * 65536), .int .i64 (y * 65536), .int .i64 2] 46)).drew.heap.size := HKP.out.size
          clear hcf hcx hcy hA HWX HWY
          generalize (wr.alloc (.cells #[.int .i64 (x * 65536), .int .i64 (y * 65536), .int .i64 2] 46)).drew = W2 at *
          by_cases hb : bits .and .i64 f 1 = 0
          · have hb1 : (bits .and .i64 f 1 != 0) = false := by simp [hb]
            have HPF : Hid ((P.drop a).take (m + 1) = D ++ [⟨x * 65536, y * 65536, 2⟩]) := by show _ = _; rw [HTM.out]; unfold pnF; rw [if_pos hb]
            obtain ⟨⟨b0, b1, b2⟩, f0, f1, f2⟩ := box_cells (Kp.refl [] W2) HA.out
            clear hb HA HTM
            have HKQ : Hid (Kp [] wr (W2.alloc (.cells #[.int .i64 (x * 65536), .int .i64 (y * 65536), .int .i64 2] 46))) := HKP.out.alloc _
            go_wp2_with (at_builtin; go_loud (refine wpList_pushP rfl _ _ rfl B0 (.slice pc m cc) D m HTLM.out (by rfl) ?hown W2.heap.size 1 ⟨x * 65536, y * 65536, 2⟩ rfl ?hc ?hl ?hbase ?hk))
            case hown => exact Kp.row (S := []) HKQ.out HRI2.out (by simp)
            case hc => exact lit3g (w := W2) (Kp.refl _ _) rfl
            case hl => omega
            case hbase => exact Nat.le_trans hs2 HKQ.out.size
            case hk =>
            intro v6 w6 hown6 hgr6 hkb6
            have HF6 : Hid (w6.ownsRow B0 46 3 v6 (m + 1) (psCells ((P.drop a).take (m + 1))) ∧ Kp [] WA w6) := by
              show _ ∧ _
              rw [HPF.out]; exact ⟨hown6, hgr6 _ (Nat.le_of_eq HB0.out) (HKI.out.trans HKQ.out)⟩
            have HI6 : Hid (a + (m + 1) = I + 1) := by show _ = _; have := HII.out; omega
            clear hown6 hgr6 hkb6 HKQ HRI2 b0 b1 b2 f0 f1 f2 hcf2
            go_wp2_with fail
            go_roundw
            case rel => first | exact ⟨m + 1, v6, by have := HII.out; omega, by rw [HI6.out]; exact int_eq' (by omega), rfl, HF6.out⟩ | ((repeat apply Exists.intro); exact ⟨⟨m + 1, v6, by have := HII.out; omega, by rw [HI6.out]; exact int_eq' (by omega), rfl, HF6.out⟩, rfl⟩)
            case measure => have := HII.out; simp [intOf]; omega
          · have hb1 : (bits .and .i64 f 1 != 0) = true := by simp [hb]
            have HPF : Hid ((P.drop a).take (m + 1) = D ++ [⟨x * 65536, y * 65536, 1⟩]) := by show _ = _; rw [HTM.out]; unfold pnF; rw [if_neg hb]
            obtain ⟨⟨b0, b1, b2⟩, f0, f1, f2⟩ := box_cells (Kp.refl [] W2) HA.out
            clear hb HA HTM
            have HKQ : Hid (Kp [] wr ((W2.setCell ⟨wr.heap.size, 2, none⟩ (.int .i64 1)).alloc (.cells #[.int .i64 (x * 65536), .int .i64 (y * 65536), .int .i64 1] 46))) := (HKP.out.setCell (.inr (Nat.le_refl _)) _).alloc _
            go_wp2_with (at_builtin; go_loud (refine wpList_pushP rfl _ _ rfl B0 (.slice pc m cc) D m HTLM.out (by rfl) ?hown W2.heap.size 1 ⟨x * 65536, y * 65536, 1⟩ rfl ?hc ?hl ?hbase ?hk))
            case hown => exact Kp.row (S := []) HKQ.out HRI2.out (by simp)
            case hc => exact lit3g (w := (W2.setCell ⟨wr.heap.size, 2, none⟩ (.int .i64 1))) (Kp.refl _ _) (by simp [World.setCell])
            case hl => omega
            case hbase => exact Nat.le_trans hs2 HKQ.out.size
            case hk =>
            intro v6 w6 hown6 hgr6 hkb6
            have HF6 : Hid (w6.ownsRow B0 46 3 v6 (m + 1) (psCells ((P.drop a).take (m + 1))) ∧ Kp [] WA w6) := by
              show _ ∧ _
              rw [HPF.out]; exact ⟨hown6, hgr6 _ (Nat.le_of_eq HB0.out) (HKI.out.trans HKQ.out)⟩
            have HI6 : Hid (a + (m + 1) = I + 1) := by show _ = _; have := HII.out; omega
            clear hown6 hgr6 hkb6 HKQ HRI2 b0 b1 b2 f0 f1 f2 hcf2
            go_wp2_with fail
            go_roundw
            case rel => first | exact ⟨m + 1, v6, by have := HII.out; omega, by rw [HI6.out]; exact int_eq' (by omega), rfl, HF6.out⟩ | ((repeat apply Exists.intro); exact ⟨⟨m + 1, v6, by have := HII.out; omega, by rw [HI6.out]; exact int_eq' (by omega), rfl, HF6.out⟩, rfl⟩)
            case measure => have := HII.out; simp [intOf]; omega
        · obtain ⟨M, hM⟩ : ∃ M, E + 1 - a = M := ⟨_, rfl⟩
          obtain rfl : m = M := by omega
          rw [hM] at HTK
          have HAM : Hid (a + m = E + 1) := by show _ = _; omega
          have HDL : Hid (((P.drop a).take m).length = m) := by show _ = _; rw [List.length_take, List.length_drop, HPL.out]; omega
          have HPS : Hid (IsPs wr (.slice pc m cc) ((P.drop a).take m)) := IsPs.owned HDL.out.symm HRI2.out
          have HPB : Hid (∀ b, blockOf (.slice pc m cc) = some b → B0 ≤ b ∧ b < wr.heap.size) := fun b hb => HRI2.out.lt b (blockOf_own hb)
          have HWW := Lib.hid (HWK.out _ HKI.out)
          have HOB2 : Hid (∀ b, (Value.slice pl j cl).ownBlock = some b → b < B0) := fun b hb => by rw [← HB0.out, HWA.out]; exact HOB.out b hb
          have hdec : decide (a + m ≤ E) = false := decide_eq_false (by omega)
          rw [HAM.out] at hdec ⊢
          clear hkw hm hme hM HRI2
          generalize (P.drop a).take m = D at *
          go_wp2_with (at_builtin; go_loud (refine wpList_append_lies _ rfl _ _ 22 rfl w.heap.size 23 i0 (.slice none 0 0) 1 24 Tryz.underlying22 hi hzz0 hzz1 hzz2 rfl (by decide) (.slice pl j cl) j vs rfl ?hown ⟨wr.heap.size, 0, none⟩ 1 1 [.slice pc m cc] rfl rfl ?hnews ?hone (by decide) ?hm ?hb1 ?hb2 (wr.heap.size + 1) ?hH ?hk))
          case hown => exact Kp.row (S := []) ((Kp.refl _ _).alloc _) HWW.out.2.1 (by simp)
          case hnews => exact World.news_of_block (heap_alloc_new wr _)
          case hone => intro u hu; simp at hu; subst hu; rfl
          case hm => unfold maxLen; omega
          case hb1 => omega
          case hb2 => simp; omega
          case hH => simp
          case hk =>
          intro g4 c4 w4 hown hgr hat hlt4
          have hka : Kp [] wr (wr.alloc (.cells #[.slice pc m cc] 23)) := (Kp.refl _ _).alloc _
          have HW2 := HWW.out.1.kp0 hka
          have hpush := WVs.push (H := wr.heap.size + 1) HW2 (HPS.out.kp0 hka) (fun b hb => by
            have h9 := HPB.out b hb
            exact ⟨fun e => by have := HOB2.out b e; omega, by simp; omega, by omega⟩) (by rw [HTL.out]; exact hown) hgr hat (by simp)
          rw [HTL.out, ← HTK.out] at hpush
          have HPU : Hid (WOut w4 w.heap.size (.slice (some ⟨g4, 0, none⟩) (j + 1) c4) ((contsE P es).take (j + 1)) ∧ Kp [] w w4) := ⟨⟨_, hpush⟩, Kp.grown (HWW.out.2.2.1.trans hka) hgr (fun k hk => .inr (own_ge HWW.out.2.1 k hk))⟩
          have HN6 := HNX
          clear hown hgr hat hka HW2 hpush hlt4 HNX
          go_wp2_with fail
          go_roundw
          case rel => first | exact ⟨j + 1, _, by omega, int_eq' (by omega), by rw [HN6.out]; exact int_eq' (by omega), rfl, HPU⟩ | ((repeat apply Exists.intro); exact ⟨⟨j + 1, _, by omega, int_eq' (by omega), by rw [HN6.out]; exact int_eq' (by omega), rfl, HPU⟩, rfl⟩)
          case measure => simp [intOf]; omega
    · obtain rfl : j = K := by omega
      have HW : Hid (WOut wr w.heap.size l (contsE P es)) := by
        have := HJ.out.1
        rw [List.take_of_length_le (by rw [contsE_len, HLE.out]; exact Nat.le_refl _)] at this
        exact this
      have HK : Hid (Kp [] w wr) := HJ.out.2
      clear HJ
      go_wp2_with fail
      go_ret
      exact ⟨_, rfl, HW.out, HK.out⟩
end Go.Proofs.YtafkhnlmipddmaaGreat
namespace Go.Proofs.YtafkhnlmipddmaaGreat
open Go.RowKit
set_option linter.unusedVariables false
set_option linter.unusedSimpArgs false
/-- Did the steps go? -/
def okT (q : Option (List Int) × Rs) : Bool := q.1.isSome && !q.2.2
/-- Behind the flags. -/
def decG (zs es fl : List Int) (s : Rs) : List (List Pn) × Int :=
  if okT (stepsR zs 2 16 fl 0 s []) = true ∧ okT (stepsR zs 4 32 fl 0 (stepsR zs 2 16 fl 0 s []).2 []) = true then
    (contsE (ptsOf fl ((stepsR zs 2 16 fl 0 s []).1.getD []) ((stepsR zs 4 32 fl 0 (stepsR zs 2 16 fl 0 s []).2 []).1.getD [])) es, 0) else ([], 110)
/-- Behind the instructions. -/
def decF (zs es : List Int) (n : Nat) (s : Rs) : List (List Pn) × Int :=
  if s.2 = true then ([], 110) else match flagsR zs n (n + 1) s [] with
  | none => ([], 110)
  | some q => decG zs es q.1 q.2
/-- Behind the last points' numbers. -/
def decE (zs : List Int) (q : List Int × Int × Rs) : List (List Pn) × Int :=
  if q.2.1 ≠ 0 then ([], q.2.1) else decF zs q.1 (fromE q.1 q.1.length) (stp zs (val zs 2 q.2.2).toNat (stp zs 2 q.2.2))
/-- What any bytes are as a glyph. -/
def decS (zs : List Int) : List (List Pn) × Int :=
  if zs.length = 0 then ([], 0)
  else if (stp zs 2 (0, false)).2 = true ∨ s16 (val zs 2 (0, false)) < 0 then ([], 110)
  else if 256 < s16 (val zs 2 (0, false)) then ([], 100)
  else decE zs (endsR zs (s16 (val zs 2 (0, false))).toNat (-1) (stp zs 8 (stp zs 2 (0, false))) [])
/-- The last points' numbers so far. -/
structure RiseP (l : List Int) (last : Int) : Prop where
  each : ∀ j, j < l.length → 0 ≤ l.getD j 0 ∧ fromE l j ≤ (l.getD j 0).toNat
  mono : ∀ j, j ≤ l.length → fromE l j ≤ fromE l l.length
  top : (fromE l l.length : Int) = last + 1
  le : last ≤ 4095
theorem fromE_app (l : List Int) (x : Int) (j : Nat) (h : j ≤ l.length) : fromE (l ++ [x]) j = fromE l j := by
  cases j with
  | zero => rfl
  | succ j =>
    show ((l ++ [x]).getD j 0).toNat + 1 = (l.getD j 0).toNat + 1
    rw [List.getD_eq_getElem?_getD, List.getElem?_append_left (by omega), ← List.getD_eq_getElem?_getD]
theorem getD_snoc (l : List Int) (x : Int) : (l ++ [x]).getD l.length 0 = x := by
  rw [List.getD_eq_getElem?_getD, List.getElem?_append_right (Nat.le_refl _), Nat.sub_self]; rfl
theorem RiseP.push {l : List Int} {last x : Int} (h : RiseP l last) (h1 : last < x) (h2 : x ≤ 4095) (h0 : 0 ≤ x) : RiseP (l ++ [x]) x := by
  have ht := h.top
  have e1 : fromE (l ++ [x]) (l ++ [x]).length = x.toNat + 1 := by
    rw [List.length_append, List.length_singleton]
    show ((l ++ [x]).getD l.length 0).toNat + 1 = _
    rw [getD_snoc]
  refine ⟨fun j hj => ?_, fun j hj => ?_, by rw [e1]; omega, h2⟩
  · rw [List.length_append, List.length_singleton] at hj
    by_cases e : j < l.length
    · rw [fromE_app l x j (by omega), List.getD_eq_getElem?_getD, List.getElem?_append_left e, ← List.getD_eq_getElem?_getD]
      exact h.each j e
    · obtain rfl : j = l.length := by omega
      rw [fromE_app l x _ (Nat.le_refl _), getD_snoc]
      exact ⟨h0, by omega⟩
  · rw [List.length_append, List.length_singleton] at hj
    rw [e1]
    by_cases e : j ≤ l.length
    · rw [fromE_app l x j e]
      have := h.mono j e
      omega
    · obtain rfl : j = (l ++ [x]).length := by rw [List.length_append, List.length_singleton]; omega
      rw [e1]; exact Nat.le_refl _
theorem RiseP.nil : RiseP [] (-1) := by
  refine ⟨fun j hj => by simp at hj, fun j hj => ?_, by decide, by decide⟩
  have : j = 0 := by simpa using hj
  subst this
  exact Nat.le_refl _
theorem endsR_facts (zs : List Int) (hb : ∀ c ∈ zs, 0 ≤ c ∧ c ≤ 255) : ∀ (n : Nat) (last : Int) (s : Rs) (l : List Int), RiseP l last → (endsR zs n last s l).2.1 = 0 → (endsR zs n last s l).1.length = l.length + n ∧ ∃ la, RiseP (endsR zs n last s l).1 la := by
  intro n
  induction n with
  | zero => intro last s l h _; exact ⟨rfl, last, h⟩
  | succ n ih =>
    intro last s l h h0
    unfold endsR at h0 ⊢
    split
    · rename_i hc; rw [if_pos hc] at h0; simp at h0
    · rename_i hc
      rw [if_neg hc] at h0
      split
      · rename_i hc2; rw [if_pos hc2] at h0; simp at h0
      · rename_i hc2
        rw [if_neg hc2] at h0
        have hv := val_bounds zs 2 s hb
        have := ih _ _ _ (h.push (x := val zs 2 s) (by have : ¬ val zs 2 s ≤ last := fun e => hc (.inr e); omega) (by omega) hv.1) h0
        rw [List.length_append, List.length_singleton] at this
        exact ⟨by omega, this.2⟩
theorem RiseP.rise {l : List Int} {la : Int} (h : RiseP l la) : RiseE l (fromE l l.length) ∧ fromE l l.length ≤ 4096 := by
  have ht := h.top
  have hl := h.le
  refine ⟨fun j hj => ⟨(h.each j hj).1, (h.each j hj).2, ?_⟩, by omega⟩
  have := h.mono (j + 1) hj
  exact this
theorem flagsR_facts (zs : List Int) (hb : ∀ c ∈ zs, 0 ≤ c ∧ c ≤ 255) (n : Nat) : ∀ (f : Nat) (s : Rs) (l : List Int) (q : List Int × Rs), flagsR zs n f s l = some q → l.length ≤ n → (∀ c ∈ l, 0 ≤ c ∧ c < 256) → q.1.length = n ∧ ∀ c ∈ q.1, 0 ≤ c ∧ c < 256 := by
  intro f
  induction f with
  | zero => intro s l q h; cases h
  | succ f ih =>
    intro s l q h hl hc
    unfold flagsR at h
    split at h
    · cases h
      refine ⟨?_, hc⟩
      show l.length = n
      omega
    · split at h
      · cases h
      · rename_i h1 h2
        have hM := flM_bounds zs s hb
        have hv := val_bounds zs 1 s hb
        have e1 : (256 ^ 1 : Nat) = 256 := by decide
        rw [e1] at hv
        refine ih _ _ q h ?_ ?_
        · rw [List.length_append, List.length_replicate]
          have : ¬ ((n : Int) - (l.length : Int) ≤ flM zs s) := fun e => h2 (.inr e)
          omega
        · intro c hcc
          rcases List.mem_append.1 hcc with h3 | h3
          · exact hc c h3
          · have := (List.mem_replicate.1 h3).2
            rw [this]; exact ⟨hv.1, by simpa using hv.2⟩
theorem stepsR_facts (zs : List Int) (sh sa : Int) : ∀ (fl : List Int) (x : Int) (s : Rs) (acc : List Int) (q : List Int), (stepsR zs sh sa fl x s acc).1 = some q → (∀ c ∈ acc, -32768 ≤ c ∧ c ≤ 32767) → q.length = acc.length + fl.length ∧ ∀ c ∈ q, -32768 ≤ c ∧ c ≤ 32767 := by
  intro fl
  induction fl with
  | nil => intro x s acc q h hc; cases h; exact ⟨rfl, hc⟩
  | cons f fl ih =>
    intro x s acc q h hc
    unfold stepsR at h
    split at h
    · rename_i hu
      have := ih _ _ _ q h (fun c hcc => by
        rcases List.mem_append.1 hcc with h3 | h3
        · exact hc c h3
        · obtain rfl : c = _ := by simpa using h3
          unfold unitB at hu; simpa using hu)
      rw [List.length_append, List.length_singleton] at this
      exact ⟨by rw [List.length_cons]; omega, this.2⟩
    · cases h
end Go.Proofs.YtafkhnlmipddmaaGreat
namespace Go.Proofs.YtafkhnlmipddmaaGreat
open Go.RowKit
set_option linter.unusedVariables false
set_option linter.unusedSimpArgs false
/-- The reader, somewhere behind w. -/
def AtR (w W : World) (r : Nat) (v : Value) (zs : List Int) (s : Rs) : Prop := RdS W r v zs s.1 s.2 ∧ Kp [] w W ∧ w.heap.size ≤ r ∧ ∀ b, blockOf v = some b → b < w.heap.size
theorem AtR.read {w W W' : World} {r : Nat} {v : Value} {zs : List Int} {s s' : Rs} (h : AtR w W r v zs s) (hr : RdS W' r v zs s'.1 s'.2) (hk : Kp [r] W W') : AtR w W' r v zs s' :=
  ⟨hr, h.2.1.trans' hk (fun t ht => by simp at ht; subst ht; exact .inr h.2.2.1), h.2.2⟩
theorem AtR.below {w W : World} {r : Nat} {v : Value} {zs : List Int} {s : Rs} (h : AtR w W r v zs s) : ∀ b, blockOf v = some b → b < W.heap.size := fun b hb => Nat.lt_of_lt_of_le (h.2.2.2 b hb) h.2.1.size
/-- A row of numbers that the reader does not touch. -/
theorem keepRow {W0 W : World} {r : Nat} {u : Value} {es : List Int} {n0 : Nat} (h : IsInts .i64 W0 u es) (hb : ∀ b, blockOf u = some b → n0 ≤ b) (hr : r < n0) (hk : Kp [r] W0 W) : IsInts .i64 W u es :=
  h.kp hk (fun t ht e => by simp at ht; subst ht; have := hb _ e; omega)
set_option maxRecDepth 100000 in
set_option maxHeartbeats 4000000 in
theorem decode_calls {w : World} {v : Value} {zs : List Int} (hz : IsInts .u8 w v zs) (hb : ∀ c ∈ zs, 0 ≤ c ∧ c ≤ 255) (hv : ∀ b, blockOf v = some b → b < w.heap.size) :
    Calls Tryz.prog 60 #[v] w fun e w' => ∃ v', e = .returned (.tuple #[v', .int .i64 (decS zs).2]) ∧ IsOut w' v' (decS zs).1 ∧ Kp [] w w' := by
  have hle := hz.le
  obtain ⟨pa, ca, rfl⟩ := hz.form
  by_cases h0 : zs.length = 0
  · have HE : Hid (decS zs = ([], 0)) := by unfold decS; show _ = _; rw [if_pos h0]
    rw [h0]
    clear hz hb hv h0 hle
    go_enter Tryz.func60, Tryz.ntmps60
    go_wp2_with fail
    go_ret2
    rw [HE.out]
    exact ⟨_, rfl, IsOut.nil _ _, Kp.refl _ _⟩
  · have HDS : Hid (decS zs = if (stp zs 2 (0, false)).2 = true ∨ s16 (val zs 2 (0, false)) < 0 then ([], 110) else if 256 < s16 (val zs 2 (0, false)) then ([], 100) else decE zs (endsR zs (s16 (val zs 2 (0, false))).toNat (-1) (stp zs 8 (stp zs 2 (0, false))) [])) := by
      unfold decS; show _ = _; rw [if_neg h0]
    have HN0 : Hid (0 < zs.length) := by show _ < _; omega
    have HZ := Lib.hid hz
    have HB := Lib.hid hb
    have HV := Lib.hid hv
    obtain ⟨N, hN⟩ : ∃ N, zs.length = N := ⟨_, rfl⟩
    have HN := Lib.hid hN
    rw [hN] at HZ HV h0 ⊢
    have hz1 : ((N : Int) == 0) = false := by simp; omega
    have HVB := Lib.hid (val_bounds zs 2 (0, false) hb)
    clear hz hb hv hN hle
    go_enter Tryz.func60, Tryz.ntmps60
    go_wp2_with fail
    refine (new_calls (.slice pa N ca) pa N ca rfl _).mono ?_; rintro e w1 ⟨rfl, hw1⟩
    have H1 : Hid (AtR w w1 w.heap.size (.slice pa N ca) zs (0, false)) := by
      have hk1 : Kp [] w w1 := by subst hw1; exact (Kp.refl _ _).alloc _
      exact ⟨⟨by subst hw1; exact heap_alloc_new w _, HZ.out.kp hk1 (by simp), HB.out, fun e => by have := HV.out _ e; omega, by omega⟩, hk1, Nat.le_refl _, HV.out⟩
    clear hw1 HZ HV
    generalize w.heap.size = r at *
    go_wp2_with fail
    refine (i16T H1.out.1).mono ?_; rintro e w2 ⟨rfl, h2, hk2⟩
    have H2 : Hid (AtR w w2 r (.slice pa N ca) zs (stp zs 2 (0, false))) := H1.out.read h2 hk2
    have HVB2 : Hid (-32768 ≤ s16 (val zs 2 (0, false)) ∧ s16 (val zs 2 (0, false)) ≤ 32767) := s16_bounds (val zs 2 (0, false)) HVB.out.1 HVB.out.2
    clear h2 hk2 H1 HVB
    go_wp2_with fail
    refine (doneT H2.out.1).mono ?_; rintro e w3 ⟨rfl, rfl⟩
    generalize s16 (val zs 2 (0, false)) = k at *
    generalize stp zs 2 (0, false) = s1 at *
    obtain ⟨k1, b1⟩ := s1
    cases b1
    case true =>
      have HE : Hid (decS zs = ([], 110)) := by show _ = _; rw [HDS.out, if_pos (.inl rfl)]
      clear HDS
      go_wp2_with fail
      go_ret2
      rw [HE.out]
      exact ⟨_, rfl, IsOut.nil _ _, H2.out.2.1⟩
    by_cases hk0 : k < 0
    · have HE : Hid (decS zs = ([], 110)) := by show _ = _; rw [HDS.out, if_pos (.inr hk0)]
      have hd : decide (k < 0) = true := decide_eq_true hk0
      clear HDS hk0
      go_wp2_with fail
      go_ret2
      rw [HE.out]
      exact ⟨_, rfl, IsOut.nil _ _, H2.out.2.1⟩
    have hd0 : decide (k < 0) = false := decide_eq_false hk0
    by_cases hk5 : 256 < k
    · have HE : Hid (decS zs = ([], 100)) := by show _ = _; rw [HDS.out, if_neg (by simpa using hk0), if_pos hk5]
      have hd : decide (256 < k) = true := decide_eq_true hk5
      clear HDS hk0 hk5
      go_wp2_with fail
      go_ret2
      rw [HE.out]
      exact ⟨_, rfl, IsOut.nil _ _, H2.out.2.1⟩
    obtain ⟨K, rfl⟩ : ∃ K : Nat, k = K := ⟨k.toNat, by omega⟩
    have HE0 : Hid (decS zs = decE zs (endsR zs K (-1) (stp zs 8 (k1, false)) [])) := by show _ = _; rw [HDS.out, if_neg (by simp), if_neg hk5]; rfl
    have hK : K ≤ 256 := by omega
    have hd5 : decide (256 < (K : Int)) = false := decide_eq_false hk5
    have hd6 : decide (256 < K) = false := decide_eq_false (by omega)
    clear HDS hk0 hk5 HVB2
    go_wp2_with fail
    refine (takeS 8 (by decide) H2.out.1 (fun _ => HN0.out)).mono ?_; rintro e w3 ⟨⟨v3, rfl⟩, h3, hk3⟩
    have H3 : Hid (AtR w w3 r (.slice pa N ca) zs (stp zs 8 (k1, false))) := H2.out.read h3 hk3
    clear h3 hk3 H2
    generalize stp zs 8 (k1, false) = s2 at *
    go_wp2_with fail
    refine (ends_calls K hK H3.out.1 H3.out.below).mono ?_; rintro e w4 ⟨ve, rfl, he4, h4, hk4, hb4⟩
    have H4 : Hid (AtR w w4 r (.slice pa N ca) zs (endsR zs K (-1) s2 []).2.2) := H3.out.read h4 hk4
    have HFA := Lib.hid (endsR_facts zs HB.out K (-1) s2 [] RiseP.nil)
    have HEI := Lib.hid he4
    have HEB : Hid (∀ b, blockOf ve = some b → w3.heap.size ≤ b) := hb4
    have hr3 : r < w3.heap.size := H3.out.1.lt
    clear h4 hk4 H3 he4 hb4
    generalize endsR zs K (-1) s2 [] = q at *
    obtain ⟨es, er, s3⟩ := q
    obtain ⟨pe, ce, rfl⟩ := HEI.out.form
    dsimp only at HFA H4 HEI
    by_cases her : er = 0
    case neg =>
      have HE : Hid (decS zs = ([], er)) := by show _ = _; rw [HE0.out]; unfold decE; rw [if_pos her]
      have hn : (er != 0) = true := by simpa using her
      clear HE0 her HFA
      go_wp2_with fail
      go_ret2
      rw [HE.out]
      exact ⟨_, rfl, IsOut.nil _ _, H4.out.2.1⟩
    subst her
    obtain ⟨hel, la, hri⟩ := HFA.out rfl
    obtain ⟨hri1, hri2⟩ := hri.rise
    have HR1 := Lib.hid hri1
    have HEL : Hid (es.length = K) := by show _ = _; simp at hel; exact hel
    have HE1 : Hid (decS zs = decF zs es (fromE es K) (stp zs (val zs 2 s3).toNat (stp zs 2 s3))) := by
      show _ = _; rw [HE0.out]; unfold decE; rw [if_neg (by simp), HEL.out]
    rw [HEL.out] at hri2 HEI HR1 ⊢
    obtain ⟨q0, q1⟩ := val_bounds zs 2 s3 HB.out
    have hp2 : (256 ^ 2 : Nat) = 65536 := by decide
    rw [hp2] at q1
    clear HE0 HFA hel hri hri1 hp2
    go_wp2_with fail
    refine (u16T H4.out.1).mono ?_; rintro e w5 ⟨rfl, h5, hk5⟩
    have H5 : Hid (AtR w w5 r (.slice pa N ca) zs (stp zs 2 s3)) := H4.out.read h5 hk5
    have HK5 := Lib.hid hk5
    clear h5 hk5 H4
    obtain ⟨M, hM⟩ : ∃ M : Nat, val zs 2 s3 = M := ⟨(val zs 2 s3).toNat, by omega⟩
    rw [hM] at HE1 q0 q1 ⊢
    rw [Int.toNat_natCast] at HE1
    generalize stp zs 2 s3 = s4 at *
    clear hM
    go_wp2_with fail
    refine (takeS M (by omega) H5.out.1 (fun _ => HN0.out)).mono ?_; rintro e w6 ⟨⟨v6, rfl⟩, h6, hk6⟩
    have H6 : Hid (AtR w w6 r (.slice pa N ca) zs (stp zs M s4)) := H5.out.read h6 hk6
    have HK6 : Hid (Kp [r] w4 w6) := HK5.out.trans hk6
    clear h6 hk6 H5 HK5 q0 q1
    have HE2 : Hid (decS zs = decF zs es (fromE es K) (stp zs M s4)) := HE1.out
    clear HE1
    generalize stp zs M s4 = s5 at *
    have HER : Hid (∀ W, Kp [r] w6 W → IsInts .i64 W (.slice pe K ce) es) := fun W hW => keepRow HEI.out HEB.out hr3 (HK6.out.trans hW)
    clear HEI HEB HK6
    have hr6 : r < w6.heap.size := H6.out.1.lt
    obtain ⟨n, hn⟩ : ∃ n, fromE es K = n := ⟨_, rfl⟩
    have HNE := Lib.hid hn
    rw [hn] at HE2 hri2 HR1
    clear hn
    go_upto_if 49 with fail
    go_cut [8] (fun x wx => x = .int .i64 n ∧ w6 = wx)
    case first =>
      by_cases hK0 : K = 0
      · subst hK0
        obtain rfl : n = 0 := by rw [← HNE.out]; rfl
        go_wp2_with fail
        go_meet
        exact ⟨rfl, rfl⟩
      · obtain ⟨J, rfl⟩ : ∃ J, K = J + 1 := ⟨K - 1, by omega⟩
        have hJ : J < es.length := by rw [HEL.out]; omega
        obtain ⟨g, off, c, e1, _, _, hc⟩ := (HER.out w6 (Kp.refl _ _)).at_ hJ
        rw [HEL.out] at e1
        cases e1
        obtain ⟨r0, _, r2⟩ := HR1.out J hJ
        have hnn : n = (es.getD J 0).toNat + 1 := by rw [← HNE.out]; rfl
        obtain ⟨E, hE⟩ : ∃ E : Nat, es.getD J 0 = E := ⟨(es.getD J 0).toNat, by omega⟩
        rw [hE] at hc hnn r2
        rw [Int.toNat_natCast] at hnn r2
        have HN2 := Lib.hid hnn
        clear hnn hE r0
        have hd0' : decide ((0 : Int) < ((J + 1 : Nat) : Int)) = true := decide_eq_true (by omega)
        have hd1' : decide (0 < J + 1) = true := decide_eq_true (by omega)
        go_wp2_with fail
        go_meet
        rw [HN2.out]
        exact ⟨int_eq' (by omega), rfl⟩
    case rest =>
    obtain ⟨rfl, rfl⟩ := hcut
    clear hd0 hd5 hd6 hz1
    obtain ⟨k5, b5⟩ := s5
    go_wp2_with fail
    refine (doneT H6.out.1).mono ?_; rintro e w7 ⟨rfl, rfl⟩
    cases b5
    case true =>
      have HE : Hid (decS zs = ([], 110)) := by show _ = _; rw [HE2.out]; unfold decF; rw [if_pos rfl]
      clear HE2
      go_wp2_with fail
      go_ret2
      rw [HE.out]
      exact ⟨_, rfl, IsOut.nil _ _, H6.out.2.1⟩
    go_wp2_with fail
    refine (flags_calls n hri2 H6.out.1 H6.out.below).mono ?_; rintro e w7 ⟨vf, s6, rfl, hq7, h7, hk7, hb7⟩
    have H7 : Hid (AtR w w7 r (.slice pa N ca) zs s6) := H6.out.read h7 hk7
    have HER7 : Hid (∀ W, Kp [r] w7 W → IsInts .i64 W (.slice pe K ce) es) := fun W hW => HER.out W (hk7.trans hW)
    have HFQ := Lib.hid hq7
    have HFB := Lib.hid hb7
    have HE3 : Hid (decS zs = match flagsR zs n (n + 1) (k5, false) [] with | none => ([], 110) | some q => decG zs es q.1 q.2) := by show _ = _; rw [HE2.out]; unfold decF; rw [if_neg (by simp)]; try (cases flagsR zs n (n + 1) (k5, false) [] <;> rfl)
    have HFF := Lib.hid (flagsR_facts zs HB.out n (n + 1) (k5, false) [])
    clear h7 hk7 hq7 hb7 HER HE2 H6
    generalize flagsR zs n (n + 1) (k5, false) [] = Q at *
    cases Q
    case none =>
      have HE : Hid (decS zs = ([], 110)) := HE3.out
      clear HE3 HFQ HFF
      go_wp2_with fail
      go_ret2
      rw [HE.out]
      exact ⟨_, rfl, IsOut.nil _ _, H7.out.2.1⟩
    case some Q =>
    obtain ⟨fl, s6'⟩ := Q
    obtain ⟨hvf, hs6⟩ := HFQ.out _ rfl
    dsimp only at hvf hs6
    subst hs6
    obtain ⟨hfl, hfb⟩ := HFF.out _ rfl (by simp) (fun c hc => by simp at hc)
    dsimp only at hfl hfb
    have HFL := Lib.hid hfl
    have HFB2 := Lib.hid hfb
    have HE4 : Hid (decS zs = decG zs es fl s6) := HE3.out
    obtain ⟨pf, cf, hvf2⟩ := hvf.form
    subst hvf2
    have HVF := Lib.hid hvf
    rw [hfl] at HVF HFB ⊢
    clear hvf hfl hfb HE3 HFQ HFF
    have hFr : ∀ b, blockOf (Value.slice pf n cf) = some b → b ≠ r := fun b hb => by have := HFB.out b hb; omega
    have HFR := Lib.hid hFr
    clear hFr
    go_wp2_with fail
    refine (steps_2 (.slice pf n cf) fl (by rw [HFL.out]; exact hri2) HFB2.out HVF.out HFR.out H7.out.1 H7.out.below).mono ?_; rintro e w8 ⟨vx, rfl, hx8, h8, hk8, hb8⟩
    have H8 : Hid (AtR w w8 r (.slice pa N ca) zs (stepsR zs 2 16 fl 0 s6 []).2) := H7.out.read h8 hk8
    have HVF8 : Hid (IsInts .i64 w8 (.slice pf n cf) fl) := HVF.out.kp hk8 (fun t ht e => by simp at ht; subst ht; exact HFR.out _ e rfl)
    have HER8 : Hid (∀ W, Kp [r] w8 W → IsInts .i64 W (.slice pe K ce) es) := fun W hW => HER7.out W (hk8.trans hW)
    have HX8 := Lib.hid hx8
    have HXB8 := Lib.hid hb8
    have hr7 : r < w7.heap.size := H7.out.1.lt
    have HXF := Lib.hid (fun q h => stepsR_facts zs 2 16 fl 0 s6 [] q h (fun c hc => by simp at hc))
    have HG : Hid (decG zs es fl s6 = if okT (stepsR zs 2 16 fl 0 s6 []) = true ∧ okT (stepsR zs 4 32 fl 0 (stepsR zs 2 16 fl 0 s6 []).2 []) = true then (contsE (ptsOf fl ((stepsR zs 2 16 fl 0 s6 []).1.getD []) ((stepsR zs 4 32 fl 0 (stepsR zs 2 16 fl 0 s6 []).2 []).1.getD [])) es, 0) else ([], 110)) := rfl
    clear h8 hk8 hx8 hb8 HVF HER7 H7
    generalize stepsR zs 2 16 fl 0 s6 [] = X at *
    obtain ⟨X1, X2⟩ := X
    dsimp only at H8 HX8 HXF HG
    go_wp2_with fail
    refine (steps_4 (.slice pf n cf) fl (by rw [HFL.out]; exact hri2) HFB2.out HVF8.out HFR.out H8.out.1 H8.out.below).mono ?_; rintro e w9 ⟨vy, rfl, hy9, h9, hk9, hb9⟩
    have H9 : Hid (AtR w w9 r (.slice pa N ca) zs (stepsR zs 4 32 fl 0 X2 []).2) := H8.out.read h9 hk9
    have HVF9 : Hid (IsInts .i64 w9 (.slice pf n cf) fl) := HVF8.out.kp hk9 (fun t ht e => by simp at ht; subst ht; exact HFR.out _ e rfl)
    have HER9 : Hid (IsInts .i64 w9 (.slice pe K ce) es) := HER8.out w9 hk9
    have HX9 : Hid (∀ q, X1 = some q → IsInts .i64 w9 vx q) := fun q hq => (HX8.out q hq).kp hk9 (fun t ht e => by simp at ht; subst ht; have := HXB8.out _ e; omega)
    have HY9 := Lib.hid hy9
    have HYF := Lib.hid (fun q h => stepsR_facts zs 4 32 fl 0 X2 [] q h (fun c hc => by simp at hc))
    clear h9 hk9 hy9 hb9 HVF8 HER8 HX8 H8
    generalize stepsR zs 4 32 fl 0 X2 [] = Y at *
    obtain ⟨Y1, Y2⟩ := Y
    dsimp only at H9 HY9 HYF HG
    have HOX : Hid (okT (X1, X2) = (X1.isSome && !X2.2)) := rfl
    have HOY : Hid (okT (Y1, Y2) = (Y1.isSome && !Y2.2)) := rfl
    rw [← HOX.out, ← HOY.out]
    cases hox : okT (X1, X2)
    case false =>
      have HE : Hid (decS zs = ([], 110)) := by show _ = _; rw [HE4.out, HG.out, if_neg (by rw [hox]; simp)]
      clear HE4 HG hox HOX HOY
      go_wp2_with fail
      go_ret2
      rw [HE.out]
      exact ⟨_, rfl, IsOut.nil _ _, H9.out.2.1⟩
    cases hoy : okT (Y1, Y2)
    case false =>
      have HE : Hid (decS zs = ([], 110)) := by show _ = _; rw [HE4.out, HG.out, if_neg (by rw [hoy]; simp)]
      clear HE4 HG hox HOX HOY hoy
      go_wp2_with fail
      go_ret2
      rw [HE.out]
      exact ⟨_, rfl, IsOut.nil _ _, H9.out.2.1⟩
    obtain ⟨xs, rfl⟩ : ∃ q, X1 = some q := by cases X1; (· rw [HOX.out] at hox; simp at hox); exact ⟨_, rfl⟩
    obtain ⟨ys, rfl⟩ : ∃ q, Y1 = some q := by cases Y1; (· rw [HOY.out] at hoy; simp at hoy); exact ⟨_, rfl⟩
    have HE : Hid (decS zs = (contsE (ptsOf fl xs ys) es, 0)) := by show _ = _; rw [HE4.out, HG.out, if_pos ⟨hox, hoy⟩]; rfl
    obtain ⟨hxl, hxb⟩ := HXF.out xs rfl
    obtain ⟨hyl, hyb⟩ := HYF.out ys rfl
    have HVX := Lib.hid (HX9.out xs rfl)
    have HVY := Lib.hid (HY9.out ys rfl)
    obtain ⟨px, cx, hvx⟩ := HVX.out.form
    obtain ⟨py, cy, hvy⟩ := HVY.out.form
    subst hvx
    subst hvy
    have HC := Lib.hid (contours_calls _ _ _ _ es fl xs ys HER9.out HVF9.out HVX.out HVY.out (by simpa using hxl) (by simpa using hyl) (by rw [HFL.out]; exact hri2) (by rw [HEL.out]; exact hK) (by rw [HFL.out]; exact HR1.out) hxb hyb)
    have hxl2 : xs.length = n := by rw [← HFL.out]; simpa using hxl
    have hyl2 : ys.length = n := by rw [← HFL.out]; simpa using hyl
    rw [hxl2, hyl2] at HC
    rw [hxl2, hyl2]
    clear HE4 HG hox hoy HOX HOY hxl hxb hyl hyb HXF HYF HX9 HY9 HVX HVY hxl2 hyl2
    go_wp2_with fail
    refine HC.out.mono ?_; rintro e w10 ⟨v10, rfl, ho10, hk10⟩
    have HF10 : Hid (IsOut w10 v10 (contsE (ptsOf fl xs ys) es) ∧ Kp [] w w10) := ⟨ho10.out, H9.out.2.1.trans hk10⟩
    obtain ⟨pv, cv, hv10⟩ := ho10.out.form
    subst hv10
    clear ho10 hk10
    go_wp2_with fail
    go_ret2
    rw [HE.out]
    exact ⟨_, rfl, HF10.out.1, HF10.out.2⟩
end Go.Proofs.YtafkhnlmipddmaaGreat
namespace Go.Proofs.YtafkhnlmipddmaaGreat
open Go.RowKit
set_option linter.unusedVariables false
set_option linter.unusedSimpArgs false
/-- What sort of glyph bytes are. -/
def kindM (zs : List Int) : Int := if zs.length = 0 then 0 else if 1 < zs.length ∧ 128 ≤ zs.getD 0 0 then 2 else 1
theorem ints_two {w : World} {v : Value} {zs : List Int} (h : IsInts .u8 w v zs) (h1 : 1 < zs.length) : ∃ g off c, v = .slice (some ⟨g, off, none⟩) zs.length c ∧ w.cell? ⟨g, off, none⟩ = some (.int .u8 (zs.getD 0 0)) := by
  rcases h with ⟨⟨a, e⟩, rfl⟩ | ⟨g, off, c, e, h2, h3, h4⟩
  · simp at h1
  · have := h4 0 (by omega)
    rw [Nat.add_zero] at this
    exact ⟨g, off, c, e, this⟩
set_option maxRecDepth 100000 in
set_option maxHeartbeats 4000000 in
theorem kind_calls (v : Value) (zs : List Int) (w : World) (hv : IsInts .u8 w v zs) : Calls Tryz.prog 59 #[v] w fun e w' => e = .returned (.int .i64 (kindM zs)) ∧ Kp [] w w' := by
  by_cases h1 : 1 < zs.length
  · obtain ⟨g, off, c, rfl, hc⟩ := ints_two hv h1
    obtain ⟨z, hz⟩ : ∃ z, zs.getD 0 0 = z := ⟨_, rfl⟩
    rw [hz] at hc
    obtain ⟨L, hL⟩ : ∃ L, zs.length = L := ⟨_, rfl⟩
    rw [hL] at h1 ⊢
    have hl0 : ((L : Int) == 0) = false := by rw [beq_eq_false_iff_ne]; omega
    have hl1 : decide ((1 : Int) < (L : Int)) = true := decide_eq_true (by omega)
    have hl2 : decide (1 < L) = true := decide_eq_true h1
    by_cases hz1 : 128 ≤ z
    · have hd : decide (128 ≤ z) = true := decide_eq_true hz1
      have HK : Hid (kindM zs = 2) := by show _ = _; unfold kindM; rw [hz, hL, if_neg (by omega), if_pos ⟨h1, hz1⟩]
      clear hv hz hL
      go_enter Tryz.func59, Tryz.ntmps59
      go_wp2_with fail
      go_ret
      rw [HK.out]
      exact ⟨rfl, by (repeat (first | exact Kp.refl _ _ | assumption | refine Kp.drew ?_ | refine Kp.drewN ?_ _ | refine Kp.alloc ?_ _ | (refine Kp.setCell ?_ (by first | (left; simp; done) | (right; simp; try omega)) _) | (refine Kp.trans' ?_ (by assumption) (by simp; try omega))))⟩
    · have hd : decide (128 ≤ z) = false := decide_eq_false hz1
      have HK : Hid (kindM zs = 1) := by show _ = _; unfold kindM; rw [hz, hL, if_neg (by omega), if_neg (by omega)]
      clear hv hz hL
      go_enter Tryz.func59, Tryz.ntmps59
      go_wp2_with fail
      go_ret
      rw [HK.out]
      exact ⟨rfl, by (repeat (first | exact Kp.refl _ _ | assumption | refine Kp.drew ?_ | refine Kp.drewN ?_ _ | refine Kp.alloc ?_ _ | (refine Kp.setCell ?_ (by first | (left; simp; done) | (right; simp; try omega)) _) | (refine Kp.trans' ?_ (by assumption) (by simp; try omega))))⟩
  · obtain ⟨p, c, rfl⟩ := hv.form
    obtain ⟨L, hL⟩ : ∃ L, zs.length = L := ⟨_, rfl⟩
    rw [hL] at h1 ⊢
    by_cases h0 : L = 0
    · subst h0
      have HK : Hid (kindM zs = 0) := by show _ = _; unfold kindM; rw [if_pos hL]
      clear hv hL
      go_enter Tryz.func59, Tryz.ntmps59
      go_wp2_with fail
      go_ret
      rw [HK.out]
      exact ⟨rfl, by (repeat (first | exact Kp.refl _ _ | assumption | refine Kp.drew ?_ | refine Kp.drewN ?_ _ | refine Kp.alloc ?_ _ | (refine Kp.setCell ?_ (by first | (left; simp; done) | (right; simp; try omega)) _) | (refine Kp.trans' ?_ (by assumption) (by simp; try omega))))⟩
    · obtain rfl : L = 1 := by omega
      have HK : Hid (kindM zs = 1) := by show _ = _; unfold kindM; rw [hL, if_neg (by omega), if_neg (by omega)]
      clear hv hL
      go_enter Tryz.func59, Tryz.ntmps59
      go_wp2_with fail
      go_ret
      rw [HK.out]
      exact ⟨rfl, by (repeat (first | exact Kp.refl _ _ | assumption | refine Kp.drew ?_ | refine Kp.drewN ?_ _ | refine Kp.alloc ?_ _ | (refine Kp.setCell ?_ (by first | (left; simp; done) | (right; simp; try omega)) _) | (refine Kp.trans' ?_ (by assumption) (by simp; try omega))))⟩
end Go.Proofs.YtafkhnlmipddmaaGreat

/- simple: the reference's flags and steps. (Written by wip/simple/gensih.py.) -/
import Derived.Test.YtodjohoonbkklaaSiF
import Derived.Deep.DeepCutAuto
import Derived.Deep.CutBlock
namespace Go.Proofs.Ytodjohoonbkklaa
open Go.RowKit
set_option linter.unusedVariables false
set_option linter.unusedSimpArgs false
/-- The reader, and a row of numbers that is being read. -/
def EnR (w wr : World) (r : Nat) (v : Value) (zs : List Int) (s : Rs) (l : Value) (acc : List Int) : Prop :=
  RrS wr r v zs s.1 s.2 ∧ wr.ownsRow w.heap.size 3 1 l acc.length (acc.map (Value.int .i64)) ∧ Kp [r] w wr ∧ r < w.heap.size ∧ ∀ b, blockOf v = some b → b < w.heap.size
theorem EnR.read {w wr w' : World} {r : Nat} {v : Value} {zs : List Int} {s s' : Rs} {l : Value} {acc : List Int} (h : EnR w wr r v zs s l acc) (hr : RrS w' r v zs s'.1 s'.2) (hk : Kp [r] wr w') : EnR w w' r v zs s' l acc :=
  ⟨hr, hk.row h.2.1 (fun t ht e => by simp at ht; subst ht; have := own_ge h.2.1 _ e; have := h.2.2.2.1; omega), h.2.2.1.trans hk, h.2.2.2⟩
theorem EnR.push {w wr w' : World} {r : Nat} {v : Value} {zs : List Int} {s : Rs} {l l' : Value} {acc : List Int} {zs' : List Int} {n m : Nat} {O : Obj} (h : EnR w wr r v zs s l acc) (hn : acc.length = n) (hm : zs'.length = m)
    (hown : w'.ownsRow w.heap.size 3 1 l' (n + m) (acc.map (Value.int .i64) ++ zs'.map (Value.int .i64))) (hk : ∀ S w0, Kp S w0 (wr.alloc O) → w0.heap.size ≤ w.heap.size → Kp S w0 w') (hk2 : Kp l.ownBlock.toList (wr.alloc O) w') : EnR w w' r v zs s l' (acc ++ zs') := by
  have h3 : Kp l.ownBlock.toList wr w' := ((Kp.refl _ _).alloc O).trans hk2
  refine ⟨h.1.kp h3 (fun e => by have := own_ge h.2.1 r (by simpa using e); have := h.2.2.2.1; omega) (fun t ht e => by have := own_ge h.2.1 t (by simpa using ht); have := h.2.2.2.2 t e; omega), ?_, hk [r] w (h.2.2.1.alloc O) (Nat.le_refl _), h.2.2.2⟩
  rw [List.length_append, hn, hm, List.map_append]; exact hown
theorem EnR.bad {w wr : World} {r : Nat} {v : Value} {zs : List Int} {s : Rs} {l : Value} {acc : List Int} (h : EnR w wr r v zs s l acc) : wr.cell? ⟨r, 2, none⟩ = some (.bool s.2) := h.1.1.facts.2.2.1
/-- Where the loop stands: on the way, or lost. -/
def FlSt (zs : List Int) (n : Nat) (R : Option (List Int × Rs)) (s : Rs) (acc : List Int) : Prop :=
  (s.2 = false ∧ acc.length ≤ n ∧ ∃ f, n - acc.length < f ∧ flagsR zs n f s acc = R) ∨ ((s.2 = true ∨ n < acc.length) ∧ R = none)
theorem FlSt.next {zs : List Int} {n : Nat} {R : Option (List Int × Rs)} {s : Rs} {acc : List Int} (h : FlSt zs n R s acc) (hl : acc.length < n) (hs : s.2 = false) :
    FlSt zs n R (flS zs s) (acc ++ List.replicate ((flM zs s).toNat + 1) (val zs 1 s)) := by
  rcases h with ⟨_, _, f, hf, hR⟩ | ⟨h1, _⟩
  · obtain ⟨g, rfl⟩ : ∃ g, f = g + 1 := ⟨f - 1, by omega⟩
    rw [flagsR, if_neg (by omega)] at hR
    by_cases hc : (flS zs s).2 = true ∨ (n : Int) - (acc.length : Int) ≤ flM zs s
    · rw [if_pos hc] at hR
      refine .inr ⟨?_, hR.symm⟩
      rcases hc with hc | hc
      · exact .inl hc
      · refine .inr ?_
        rw [List.length_append, List.length_replicate]; omega
    · rw [if_neg hc] at hR
      have h2 : ¬ (flS zs s).2 = true := fun e => hc (.inl e)
      have h3 : ¬ ((n : Int) - (acc.length : Int) ≤ flM zs s) := fun e => hc (.inr e)
      refine .inl ⟨by simpa using h2, ?_, g, ?_, hR⟩ <;> rw [List.length_append, List.length_replicate] <;> omega
  · rcases h1 with h1 | h1
    · rw [hs] at h1; cases h1
    · omega
theorem FlSt.done {zs : List Int} {n : Nat} {R : Option (List Int × Rs)} {s : Rs} {acc : List Int} (h : FlSt zs n R s acc) (hl : ¬ (acc.length < n ∧ s.2 = false)) : R.isSome = (!s.2 && decide (acc.length = n)) ∧ ∀ q, R = some q → q = (acc, s) := by
  rcases h with ⟨h1, h2, f, hf, hR⟩ | ⟨h1, h2⟩
  · have h3 : acc.length = n := by
      have : ¬ acc.length < n := fun e => hl ⟨e, h1⟩
      omega
    obtain ⟨g, rfl⟩ : ∃ g, f = g + 1 := ⟨f - 1, by omega⟩
    rw [flagsR, if_pos (by omega)] at hR
    subst hR
    exact ⟨by simp [h1, h3], fun q hq => by cases hq; rfl⟩
  · subst h2
    refine ⟨?_, fun q hq => by cases hq⟩
    rcases h1 with h1 | h1
    · simp [h1]
    · have : ¬ acc.length = n := by omega
      simp [this]
/-- What flags leaves. -/
def RfP (w : World) (r : Nat) (v : Value) (zs : List Int) (R : Option (List Int × Rs)) (e : Ending) (w' : World) : Prop :=
  ∃ v' s', e = .returned (.tuple #[v', .bool R.isSome]) ∧ (∀ q, R = some q → IsInts .i64 w' v' q.1 ∧ s' = q.2) ∧ RrS w' r v zs s'.1 s'.2 ∧ Kp [r] w w' ∧ ∀ b, blockOf v' = some b → w.heap.size ≤ b
set_option maxRecDepth 100000 in
set_option maxHeartbeats 4000000 in
theorem rflags_calls {w : World} {r : Nat} {v : Value} {zs : List Int} {s : Rs} (n : Nat) (hn : n ≤ 4096) (hs : s.2 = false) (h : RrS w r v zs s.1 s.2) (hv : ∀ b, blockOf v = some b → b < w.heap.size) :
    Calls Try.prog 100 #[.pointer (some ⟨r, 0, none⟩), .int .i64 n] w (RfP w r v zs (flagsR zs n (n + 1) s [])) := by
  have HBB := Lib.hid h.2.2.1
  obtain ⟨R, hR⟩ : ∃ R, flagsR zs n (n + 1) s [] = R := ⟨_, rfl⟩
  have hS : Hid (EnR w w r v zs s (.slice none 0 0) []) := ⟨h, World.ownsRow_nil _ _ _ _, Kp.refl _ _, h.lt, hv⟩
  have HFS : Hid (FlSt zs n R s []) := .inl ⟨hs, by simp, n + 1, by simp, hR⟩
  rw [hR]
  clear h hv hR
  go_enter Try.func100, Try.ntmps100
  go_wp2_with fail
  go_loopw [6, 7, 8, 9] (fun l _ _ _ wr => ∃ (s : Rs) (acc : List Int), Hid (acc.length ≤ 8192) ∧ Hid (EnR w wr r v zs s l acc ∧ FlSt zs n R s acc)) (fun l _ _ _ _ => n - vlen l)
  case atStart => exact ⟨s, [], by simp [Hid], hS.out, HFS.out⟩
  case round =>
    obtain ⟨s, acc, HAL, HJ⟩ := hrel
    clear hS HFS
    obtain ⟨pl, cl, hl⟩ := slice_own HJ.out.1.2.1
    subst hl
    obtain ⟨L, hL⟩ : ∃ L, acc.length = L := ⟨_, rfl⟩
    have HA := Lib.hid hL
    have HS := Lib.hid HJ.out.1
    have HF := Lib.hid HJ.out.2
    rw [hL] at HAL HS ⊢
    have hLL := HAL.out
    clear hL HJ
    have hbad := HS.out.bad
    obtain ⟨ks, bs⟩ := s
    by_cases hcond : L < n ∧ bs = false
    · obtain ⟨hlt, rfl⟩ := hcond
      have HN := Lib.hid (HF.out.next (by rw [HA.out]; exact hlt) rfl)
      have HU := Lib.hid (ruS 1 (by decide) (by decide) 1 rfl HS.out.1)
      obtain ⟨q0, q1⟩ := val_bounds zs 1 (ks, false) HBB.out
      obtain ⟨m0, m1⟩ := flM_bounds zs (ks, false) HBB.out
      have HM : Hid (bits .and .i64 (val zs 1 (ks, false)) 8 = 0 → flM zs (ks, false) = 0 ∧ flS zs (ks, false) = stp zs 1 (ks, false)) := fun h => ⟨if_pos h, if_pos h⟩
      have HM2 : Hid (bits .and .i64 (val zs 1 (ks, false)) 8 ≠ 0 → flM zs (ks, false) = val zs 1 (stp zs 1 (ks, false)) ∧ flS zs (ks, false) = stp zs 1 (stp zs 1 (ks, false))) := fun h => ⟨if_neg h, if_neg h⟩
      have HU2 : Hid (∀ w2, RrS w2 r v zs (stp zs 1 (ks, false)).1 (stp zs 1 (ks, false)).2 → _) := fun w2 (h2 : RrS w2 r v zs (stp zs 1 (ks, false)).1 (stp zs 1 (ks, false)).2) => ruS 1 (by decide) (by decide) 1 rfl h2
      have hle1 : (256 ^ 1 : Nat) = 256 := by decide
      rw [hle1] at q1
      clear hle1 HF
      generalize flM zs (ks, false) = mm at *
      generalize flS zs (ks, false) = s2 at *
      generalize val zs 1 (ks, false) = x at *
      obtain ⟨M, rfl⟩ : ∃ M : Nat, mm = M := ⟨mm.toNat, by omega⟩
      rw [Int.toNat_natCast] at HN
      go_wp2_with fail
      refine HU.out.mono ?_; rintro e w2 ⟨rfl, h2, hk2⟩
      have HS2 : Hid (EnR w w2 r v zs (stp zs 1 (ks, false)) (.slice pl L cl) acc) := HS.out.read h2 hk2
      have HROW := Lib.hid HS2.out.2.1
      have hsz : w.heap.size ≤ w2.heap.size := HS2.out.2.2.1.size
      rw [HA.out] at HROW
      clear h2 hk2 HU HS hbad
      go_wp2_with (at_builtin; go_loud (refine wpList_pushL rfl _ _ 100 3 .i64 8 Try.underlying100 infoI (by decide) rfl w.heap.size (.slice pl L cl) acc L HA.out rfl ?hown w2.heap.size [x] 1 rfl rfl ?hc ?hl ?hbase ?hk))
      case hown => exact Kp.row (S := []) ((Kp.refl _ _).alloc _) HROW.out (by simp)
      case hc => exact litI (zs := [x]) (Kp.refl _ _)
      case hl => omega
      case hbase => simp; omega
      case hk =>
      intro v5 w5 hown5 hk5 hk6
      have HS5 : Hid (EnR w w5 r v zs (stp zs 1 (ks, false)) v5 (acc ++ [x])) := HS2.out.push (zs' := [x]) (m := 1) HA.out rfl hown5 hk5 hk6
      have HA5 : Hid ((acc ++ [x]).length = L + 1) := by show _ = _; rw [List.length_append, HA.out]; rfl
      clear hown5 hk5 hk6 HS2 HROW
      by_cases hb : bits .and .i64 x 8 = 0
      · obtain ⟨hM, hs2⟩ := HM.out hb
        have hb1 : (bits .and .i64 x 8 != 0) = false := by simp [hb]
        obtain rfl : M = 0 := by omega
        subst hs2
        have HX : Hid (EnR w w5 r v zs (stp zs 1 (ks, false)) v5 (acc ++ List.replicate (0 + 1) x)) := HS5.out
        have HXL : Hid ((acc ++ List.replicate (0 + 1) x).length ≤ 8192) := by show _ ≤ _; rw [List.length_append, List.length_replicate, HA.out]; omega
        have HVL : Hid (vlen v5 = L + 1) := by show _ = _; rw [vlen_own HS5.out.2.1, HA5.out]
        clear HM HM2 HU2 hM hb HS5
        go_wp2_with fail
        go_roundw
        case rel => first | exact ⟨_, _, HXL, HX.out, HN.out⟩ | ((repeat apply Exists.intro); exact ⟨⟨_, _, HXL, HX.out, HN.out⟩, rfl⟩)
        case measure => rw [HVL.out]; simp [vlen]; omega
      · obtain ⟨hM, hs2⟩ := HM2.out hb
        have hb1 : (bits .and .i64 x 8 != 0) = true := by simp [hb]
        have HM3 := Lib.hid hM
        subst hs2
        clear HM HM2 hM hb
        go_wp2_with fail
        refine (HU2.out _ HS5.out.1).mono ?_; rintro e w6 ⟨rfl, h6, hk6⟩
        have HS6 : Hid (EnR w w6 r v zs (stp zs 1 (stp zs 1 (ks, false))) v5 (acc ++ List.replicate (0 + 1) x)) := HS5.out.read h6 hk6
        rw [← HM3.out]
        clear h6 hk6 HU2 HM3 HS5
        generalize stp zs 1 (stp zs 1 (ks, false)) = s2 at *
        go_wp2_with fail
        go_loopw [6, 9] (fun l i wr => ∃ (j : Nat), j ≤ M ∧ i = .int .i64 j ∧ Hid (EnR w wr r v zs s2 l (acc ++ List.replicate (j + 1) x))) (fun _ i _ => M - (intOf i).toNat)
        case atStart => exact ⟨0, by omega, rfl, HS6.out⟩
        case round =>
          obtain ⟨j, hj, rfl, HJ⟩ := hrel
          clear HS6
          obtain ⟨pl2, cl2, hl2⟩ := slice_own HJ.out.2.1
          subst hl2
          have HLN : Hid ((acc ++ List.replicate (j + 1) x).length = L + (j + 1)) := by show _ = _; rw [List.length_append, List.length_replicate, HA.out]
          have HSN := Lib.hid (rep_snoc acc x (j + 1))
          rw [HLN.out]
          by_cases hjm : j < M
          · have HROW := Lib.hid HJ.out.2.1
            have hsz : w.heap.size ≤ wr.heap.size := HJ.out.2.2.1.size
            rw [HLN.out] at HROW HJ
            generalize acc ++ List.replicate (j + 1) x = ac2 at *
            go_wp2_with (at_builtin; go_loud (refine wpList_pushL rfl _ _ 100 3 .i64 8 Try.underlying100 infoI (by decide) rfl w.heap.size (.slice pl2 (L + (j + 1)) cl2) ac2 (L + (j + 1)) HLN.out rfl ?hown wr.heap.size [x] 1 rfl rfl ?hc ?hl ?hbase ?hk))
            case hown => exact Kp.row (S := []) ((Kp.refl _ _).alloc _) HROW.out (by simp)
            case hc => exact litI (zs := [x]) (Kp.refl _ _)
            case hl => omega
            case hbase => simp; omega
            case hk =>
            intro v7 w7 hown7 hk7 hk8
            have HS7 : Hid (EnR w w7 r v zs s2 v7 (acc ++ List.replicate (j + 1 + 1) x)) := by
              show EnR _ _ _ _ _ _ _ _
              rw [HSN.out]; exact HJ.out.push (zs' := [x]) (m := 1) HLN.out rfl hown7 hk7 hk8
            clear hown7 hk7 hk8 HJ HROW HLN HSN
            go_wp2_with fail
            go_roundw
            case rel => first | exact ⟨j + 1, by omega, int_eq' (by omega), HS7⟩ | ((repeat apply Exists.intro); exact ⟨⟨j + 1, by omega, int_eq' (by omega), HS7⟩, rfl⟩)
            case measure => simp [intOf]; omega
          · obtain rfl : j = M := by omega
            rw [HLN.out] at HJ
            have HXL : Hid ((acc ++ List.replicate (j + 1) x).length ≤ 8192) := by show _ ≤ _; rw [HLN.out]; omega
            clear HLN HSN HA5
            go_wp2_with fail
            go_roundw
            case rel => first | exact ⟨_, _, HXL, HJ.out, HN.out⟩ | ((repeat apply Exists.intro); exact ⟨⟨_, _, HXL, HJ.out, HN.out⟩, rfl⟩)
            case measure => simp [vlen]; omega
    · have HD := Lib.hid (HF.out.done (by rw [HA.out]; exact hcond))
      have HROW : Hid (wr.ownsRow w.heap.size 3 1 (.slice pl L cl) acc.length (acc.map (Value.int .i64))) := HS.out.2.1
      obtain ⟨hd1, hd2⟩ := HD.out
      rw [HA.out] at hd1
      have HD2 : Hid (∀ q, R = some q → IsInts .i64 wr (.slice pl L cl) q.1 ∧ (ks, bs) = q.2) := fun q hq => by
        have := hd2 q hq
        subst this
        exact ⟨IsInts.owned HROW.out, rfl⟩
      have HD1 := Lib.hid hd1
      clear HF HD hd1 hd2
      cases bs
      · have hln : ¬ L < n := fun e => hcond ⟨e, rfl⟩
        have hd : decide ((L : Int) < (n : Int)) = false := decide_eq_false (by omega)
        have hdn : decide (L < n) = false := decide_eq_false hln
        clear hcond
        by_cases hle : L = n
        · have hde : ((L : Int) == (n : Int)) = true := by simp [hle]
          go_wp2_with fail
          go_ret2
          exact ⟨_, (ks, false), by rw [HD1.out]; simp [hle], HD2.out, HS.out.1, HS.out.2.2.1, own_geb HROW.out⟩
        · have hde : ((L : Int) == (n : Int)) = false := by simp; omega
          go_wp2_with fail
          go_ret2
          exact ⟨_, (ks, false), by rw [HD1.out]; simp [hle], HD2.out, HS.out.1, HS.out.2.2.1, own_geb HROW.out⟩
      · clear hcond
        by_cases hln : L < n
        · have hdn : decide (L < n) = true := decide_eq_true hln
          go_wp2_with fail
          go_ret2
          exact ⟨_, (ks, true), by rw [HD1.out]; simp, HD2.out, HS.out.1, HS.out.2.2.1, own_geb HROW.out⟩
        · have hdn : decide (L < n) = false := decide_eq_false hln
          go_wp2_with fail
          go_ret2
          exact ⟨_, (ks, true), by rw [HD1.out]; simp, HD2.out, HS.out.1, HS.out.2.2.1, own_geb HROW.out⟩
/-- What steps leaves. -/
def RsP (w : World) (r : Nat) (v : Value) (zs : List Int) (R : Option (List Int) × Rs) (e : Ending) (w' : World) : Prop :=
  ∃ v', e = .returned (.tuple #[v', .bool (okT R)]) ∧ (∀ q, R.1 = some q → IsInts .i64 w' v' q) ∧ RrS w' r v zs R.2.1 R.2.2 ∧ Kp [r] w w' ∧ ∀ b, blockOf v' = some b → w.heap.size ≤ b
set_option maxRecDepth 100000 in
set_option maxHeartbeats 8000000 in
theorem rsteps_2 {w : World} {r : Nat} {v : Value} {zs : List Int} {s : Rs} (lv : Value) (fl : List Int) (hfl : fl.length ≤ 4096) (hf : ∀ c ∈ fl, 0 ≤ c ∧ c < 256) (hl : IsInts .i64 w lv fl) (hlb : ∀ b, blockOf lv = some b → b ≠ r) (h : RrS w r v zs s.1 s.2) (hv : ∀ b, blockOf v = some b → b < w.heap.size) :
    Calls Try.prog 101 #[.pointer (some ⟨r, 0, none⟩), lv, .int .i64 2, .int .i64 16] w (RsP w r v zs (stepsR zs 2 16 fl 0 s [])) := by
  have HBB := Lib.hid h.2.2.1
  have HF := Lib.hid hf
  obtain ⟨pl, cl, rfl⟩ := hl.form
  have HLW : Hid (∀ W, Kp [r] w W → IsInts .i64 W (.slice pl fl.length cl) fl) := fun W hW => hl.kp hW (fun t ht e => by simp at ht; subst ht; exact hlb _ e rfl)
  obtain ⟨R, hR⟩ : ∃ R, stepsR zs 2 16 fl 0 s [] = R := ⟨_, rfl⟩
  have HR : Hid (stepsR zs 2 16 (fl.drop 0) 0 s [] = R) := hR
  rw [hR]
  obtain ⟨N, hN⟩ : ∃ N, fl.length = N := ⟨_, rfl⟩
  have HN := Lib.hid hN
  rw [hN] at hfl HLW ⊢
  have hS : Hid (EnR w w r v zs s (.slice none 0 0) []) := ⟨h, World.ownsRow_nil _ _ _ _, Kp.refl _ _, h.lt, hv⟩
  clear h hv hf hl hlb hR hN
  go_enter Try.func101, Try.ntmps101
  go_wp2_with fail
  go_loopw [10, 11, 12] (fun l x i wr => ∃ (j : Nat) (s : Rs) (acc : List Int) (xx : Int), j ≤ N ∧ i = .int .i64 j ∧ x = .int .i64 xx ∧ Hid (-32768 ≤ xx ∧ xx ≤ 32767) ∧ Hid (acc.length = j) ∧ Hid (EnR w wr r v zs s l acc ∧ stepsR zs 2 16 (fl.drop j) xx s acc = R)) (fun _ _ i _ => N - (intOf i).toNat)
  case atStart => exact ⟨0, s, [], 0, by omega, rfl, rfl, ⟨by omega, by omega⟩, rfl, hS.out, HR.out⟩
  case round =>
    obtain ⟨j, s, acc, xx, hj, rfl, rfl, HX, HA, HJ⟩ := hrel
    clear hS HR
    obtain ⟨po, co, hl⟩ := slice_own HJ.out.1.2.1
    subst hl
    rw [HA.out] at HJ ⊢
    have HE := Lib.hid HJ.out.2
    have HS := Lib.hid HJ.out.1
    clear HJ
    by_cases hlt : j < N
    · have hjl : j < fl.length := by rw [HN.out]; exact hlt
      obtain ⟨g, off, c, e1, hc1, hc2, hce⟩ := (HLW.out wr HS.out.2.2.1).at_ hjl
      rw [HN.out] at e1
      cases e1
      have hfm : fl.getD j 0 ∈ fl := by rw [List.getD_eq_getElem?_getD, List.getElem?_eq_getElem hjl]; exact List.getElem_mem hjl
      obtain ⟨f0, f1⟩ := HF.out _ hfm
      have hdrop : fl.drop j = fl.getD j 0 :: fl.drop (j + 1) := by
        rw [List.drop_eq_getElem_cons hjl, List.getD_eq_getElem?_getD, List.getElem?_eq_getElem hjl]; rfl
      have HRR : Hid (R = stepsR zs 2 16 (fl.getD j 0 :: fl.drop (j + 1)) xx s acc) := by show _ = _; rw [← hdrop]; exact HE.out.symm
      have HD := Lib.hid (stV_bounds zs 2 16 (fl.getD j 0) s HBB.out)
      have HRS : Hid (R = if unitB (xx + (stV zs 2 16 (fl.getD j 0) s).1) = true then stepsR zs 2 16 (fl.drop (j + 1)) (xx + (stV zs 2 16 (fl.getD j 0) s).1) (stV zs 2 16 (fl.getD j 0) s).2 (acc ++ [xx + (stV zs 2 16 (fl.getD j 0) s).1]) else (none, (stV zs 2 16 (fl.getD j 0) s).2)) := HRR.out
      have HU := Lib.hid (ruS 1 (by decide) (by decide) 1 rfl HS.out.1)
      have HI := Lib.hid (ri16S HS.out.1)
      have HVB := Lib.hid (val_bounds zs 1 s HBB.out)
      clear HE HRR hdrop hfm hc1 hc2 hjl
      generalize fl.getD j 0 = f at *
      have HST : Hid (stV zs 2 16 f s = if bits .and .i64 f 2 ≠ 0 then (if bits .and .i64 f 16 ≠ 0 then (val zs 1 s, stp zs 1 s) else (- val zs 1 s, stp zs 1 s)) else if bits .and .i64 f 16 = 0 then (s16 (val zs 2 s), stp zs 2 s) else (0, s)) := rfl
      obtain ⟨q, hq⟩ : ∃ q, stV zs 2 16 f s = q := ⟨_, rfl⟩
      rw [hq] at HD HRS HST
      clear hq
      obtain ⟨d, k2, b2⟩ := q
      dsimp only at HD HRS
      obtain ⟨x0, x1⟩ := HX.out
      obtain ⟨d0, d1⟩ := HD.out
      clear HX HD
      go_upto_block 2 with fail
      go_cut [11] from 13 to 73 (fun x wx => x = .int .i64 (xx + d) ∧ Hid (EnR w wx r v zs (k2, b2) (.slice po j co) acc))
      case first =>
        by_cases e2 : bits .and .i64 f 2 = 0
        · have h2 : (bits .and .i64 f 2 != 0) = false := by simp [e2]
          by_cases e3 : bits .and .i64 f 16 = 0
          · have h3 : (bits .and .i64 f 16 == 0) = true := by simp [e3]
            have hs : (d, k2, b2) = (s16 (val zs 2 s), stp zs 2 s) := by rw [HST.out, if_neg (by simp [e2]), if_pos e3]
            obtain ⟨hd, hss⟩ := Prod.mk.inj hs
            have HD2 := Lib.hid hd
            have HSS := Lib.hid hss
            clear HST hs hd hss HRS e2 e3 HU
            go_wp2_with fail
            refine HI.out.mono ?_; rintro e w3 ⟨rfl, h3, hk3⟩
            have HS3 : Hid (EnR w w3 r v zs (k2, b2) (.slice po j co) acc) := HS.out.read (by rw [HSS.out]; exact h3) hk3
            rw [← HD2.out]
            clear h3 hk3 HS HSS HD2 HI
            go_wp2_with fail
            go_meet
            exact ⟨rfl, HS3⟩
          · have h3 : (bits .and .i64 f 16 == 0) = false := by simp [e3]
            have hs : (d, k2, b2) = (0, s) := by rw [HST.out, if_neg (by simp [e2]), if_neg e3]
            obtain ⟨hd, hss⟩ := Prod.mk.inj hs
            have HS3 : Hid (∀ W, Kp [] wr W → EnR w W r v zs (k2, b2) (.slice po j co) acc) := fun W hW => HS.out.read (by rw [hss]; exact HS.out.1.kp0 hW) (hW.more (fun s hs => nomatch hs))
            subst hd
            clear HST hs hss HRS e2 e3 HU HI
            go_wp2_with fail
            go_meet
            exact ⟨by simp, HS3.out _ (by (repeat (first | exact Kp.refl _ _ | assumption | refine Kp.drew ?_ | refine Kp.drewN ?_ _ | refine Kp.alloc ?_ _ | (refine Kp.setCell ?_ (by first | (left; simp; done) | (right; simp; try omega)) _) | (refine Kp.trans' ?_ (by assumption) (by simp; try omega)))))⟩
        · have h2 : (bits .and .i64 f 2 != 0) = true := by simp [e2]
          have hvb := HVB.out
          have hp : (256 ^ 1 : Nat) = 256 := by decide
          rw [hp] at hvb
          obtain ⟨hv0, hv1⟩ := hvb
          by_cases e3 : bits .and .i64 f 16 = 0
          · have h3 : (bits .and .i64 f 16 != 0) = false := by simp [e3]
            have hs : (d, k2, b2) = (- val zs 1 s, stp zs 1 s) := by rw [HST.out, if_pos e2, if_neg (by simp [e3])]
            obtain ⟨hd, hss⟩ := Prod.mk.inj hs
            have HD2 := Lib.hid hd
            have HSS := Lib.hid hss
            clear HST hs hd hss HRS e2 e3 HI hp
            generalize val zs 1 s = y at *
            go_wp2_with fail
            refine HU.out.mono ?_; rintro e w3 ⟨rfl, h3, hk3⟩
            have HS3 : Hid (EnR w w3 r v zs (k2, b2) (.slice po j co) acc) := HS.out.read (by rw [HSS.out]; exact h3) hk3
            clear h3 hk3 HS HSS HU
            go_wp2_with fail
            go_meet
            exact ⟨int_eq' (by have := HD2.out; omega), HS3⟩
          · have h3 : (bits .and .i64 f 16 != 0) = true := by simp [e3]
            have hs : (d, k2, b2) = (val zs 1 s, stp zs 1 s) := by rw [HST.out, if_pos e2, if_pos e3]
            obtain ⟨hd, hss⟩ := Prod.mk.inj hs
            have HD2 := Lib.hid hd
            have HSS := Lib.hid hss
            clear HST hs hd hss HRS e2 e3 HI hp
            generalize val zs 1 s = y at *
            go_wp2_with fail
            refine HU.out.mono ?_; rintro e w3 ⟨rfl, h3, hk3⟩
            have HS3 : Hid (EnR w w3 r v zs (k2, b2) (.slice po j co) acc) := HS.out.read (by rw [HSS.out]; exact h3) hk3
            clear h3 hk3 HS HSS HU
            go_wp2_with fail
            go_meet
            exact ⟨int_eq' (by have := HD2.out; omega), HS3⟩
      case rest =>
      obtain ⟨rfl, HS3⟩ := hcut
      clear HS HST HU HI HVB hce
      have hy : -65536 ≤ xx + d ∧ xx + d ≤ 65534 := ⟨by omega, by omega⟩
      generalize xx + d = y at *
      clear x0 x1 d0 d1
      by_cases hu : unitB y = true
      · have HFI : Hid (stepsR zs 2 16 (fl.drop (j + 1)) y (k2, b2) (acc ++ [y]) = R) := by show _ = _; rw [HRS.out, if_pos hu]
        have HX5 : Hid (-32768 ≤ y ∧ y ≤ 32767) := by unfold unitB at hu; show _ ∧ _; simpa using hu
        obtain ⟨u0, u1⟩ := HX5.out
        have hdl : decide (y < -32768) = false := decide_eq_false (by omega)
        have hdg : decide (32768 ≤ y) = false := decide_eq_false (by omega)
        have HROW := Lib.hid HS3.out.2.1
        have hsz : w.heap.size ≤ wc.heap.size := HS3.out.2.2.1.size
        rw [HA.out] at HROW
        clear HRS hu hy
        go_wp2_with (at_builtin; go_loud (refine wpList_pushL rfl _ _ 100 3 .i64 8 Try.underlying100 infoI (by decide) rfl w.heap.size (.slice po j co) acc j HA.out rfl ?hown wc.heap.size [y] 1 rfl rfl ?hc ?hl ?hbase ?hk))
        case hown => exact Kp.row (S := []) ((Kp.refl _ _).alloc _) HROW.out (by simp)
        case hc => exact litI (zs := [y]) (Kp.refl _ _)
        case hl => omega
        case hbase => simp; omega
        case hk =>
        intro v5 w5 hown5 hk5 hk6
        have HS5 : Hid (EnR w w5 r v zs (k2, b2) v5 (acc ++ [y])) := HS3.out.push (zs' := [y]) (m := 1) HA.out rfl hown5 hk5 hk6
        have HA5 : Hid ((acc ++ [y]).length = j + 1) := by show _ = _; rw [List.length_append, HA.out]; rfl
        clear hown5 hk5 hk6 HS3 HROW HA
        go_wp2_with fail
        go_roundw
        case rel => first | exact ⟨j + 1, (k2, b2), acc ++ [y], y, by omega, int_eq' (by omega), rfl, HX5, HA5, HS5.out, HFI.out⟩ | ((repeat apply Exists.intro); exact ⟨⟨j + 1, (k2, b2), acc ++ [y], y, by omega, int_eq' (by omega), rfl, HX5, HA5, HS5.out, HFI.out⟩, rfl⟩)
        case measure => simp [intOf]; omega
      · have HFI : Hid (R = (none, (k2, b2))) := by show _ = _; rw [HRS.out, if_neg hu]
        clear HRS
        by_cases hlo : y < -32768
        · have hdl : decide (y < -32768) = true := decide_eq_true hlo
          clear hu hy
          go_wp2_with fail
          go_ret2
          exact ⟨_, by rw [HFI.out]; rfl, (fun q hq => by rw [HFI.out] at hq; cases hq), by rw [HFI.out]; exact HS3.out.1, HS3.out.2.2.1, fun b hb => by simp at hb⟩
        · have hdl : decide (y < -32768) = false := decide_eq_false hlo
          have hdg : decide (32768 ≤ y) = true := by
            unfold unitB at hu
            apply decide_eq_true
            simp at hu; omega
          clear hu hy
          go_wp2_with fail
          go_ret2
          exact ⟨_, by rw [HFI.out]; rfl, (fun q hq => by rw [HFI.out] at hq; cases hq), by rw [HFI.out]; exact HS3.out.1, HS3.out.2.2.1, fun b hb => by simp at hb⟩
    · obtain rfl : j = N := by omega
      obtain ⟨k2, b2⟩ := s
      have HFI : Hid (R = (some acc, (k2, b2))) := by show _ = _; rw [← HE.out, List.drop_eq_nil_of_le (by rw [HN.out]; exact Nat.le_refl _)]; rfl
      have HROW : Hid (wr.ownsRow w.heap.size 3 1 (.slice po j co) acc.length (acc.map (Value.int .i64))) := HS.out.2.1
      have hbad := HS.out.bad
      clear HE
      have hbad2 : wr.drew.cell? ⟨r, 2, none⟩ = some (.bool b2) := hbad
      cases b2
      all_goals
        go_wp2_with fail
        go_quiet (fail)
        go_wp2_with fail
        go_ret2
        have HK := Lib.hid HS.out.2.2.1
        exact ⟨_, by rw [HFI.out]; rfl, (fun q hq => by rw [HFI.out] at hq; cases hq; exact (IsInts.owned HROW.out).kp0 (by (repeat (first | exact Kp.refl _ _ | assumption | refine Kp.drew ?_ | refine Kp.drewN ?_ _ | refine Kp.alloc ?_ _ | (refine Kp.setCell ?_ (by first | (left; simp; done) | (right; simp; try omega)) _) | (refine Kp.trans' ?_ (by assumption) (by simp; try omega)))))), by rw [HFI.out]; exact HS.out.1.kp0 (by (repeat (first | exact Kp.refl _ _ | assumption | refine Kp.drew ?_ | refine Kp.drewN ?_ _ | refine Kp.alloc ?_ _ | (refine Kp.setCell ?_ (by first | (left; simp; done) | (right; simp; try omega)) _) | (refine Kp.trans' ?_ (by assumption) (by simp; try omega))))), HK.out.trans (by (repeat (first | exact Kp.refl _ _ | assumption | refine Kp.drew ?_ | refine Kp.drewN ?_ _ | refine Kp.alloc ?_ _ | (refine Kp.setCell ?_ (by first | (left; simp; done) | (right; simp; try omega)) _) | (refine Kp.trans' ?_ (by assumption) (by simp; try omega))))), own_geb HROW.out⟩
set_option maxRecDepth 100000 in
set_option maxHeartbeats 8000000 in
theorem rsteps_4 {w : World} {r : Nat} {v : Value} {zs : List Int} {s : Rs} (lv : Value) (fl : List Int) (hfl : fl.length ≤ 4096) (hf : ∀ c ∈ fl, 0 ≤ c ∧ c < 256) (hl : IsInts .i64 w lv fl) (hlb : ∀ b, blockOf lv = some b → b ≠ r) (h : RrS w r v zs s.1 s.2) (hv : ∀ b, blockOf v = some b → b < w.heap.size) :
    Calls Try.prog 101 #[.pointer (some ⟨r, 0, none⟩), lv, .int .i64 4, .int .i64 32] w (RsP w r v zs (stepsR zs 4 32 fl 0 s [])) := by
  have HBB := Lib.hid h.2.2.1
  have HF := Lib.hid hf
  obtain ⟨pl, cl, rfl⟩ := hl.form
  have HLW : Hid (∀ W, Kp [r] w W → IsInts .i64 W (.slice pl fl.length cl) fl) := fun W hW => hl.kp hW (fun t ht e => by simp at ht; subst ht; exact hlb _ e rfl)
  obtain ⟨R, hR⟩ : ∃ R, stepsR zs 4 32 fl 0 s [] = R := ⟨_, rfl⟩
  have HR : Hid (stepsR zs 4 32 (fl.drop 0) 0 s [] = R) := hR
  rw [hR]
  obtain ⟨N, hN⟩ : ∃ N, fl.length = N := ⟨_, rfl⟩
  have HN := Lib.hid hN
  rw [hN] at hfl HLW ⊢
  have hS : Hid (EnR w w r v zs s (.slice none 0 0) []) := ⟨h, World.ownsRow_nil _ _ _ _, Kp.refl _ _, h.lt, hv⟩
  clear h hv hf hl hlb hR hN
  go_enter Try.func101, Try.ntmps101
  go_wp2_with fail
  go_loopw [10, 11, 12] (fun l x i wr => ∃ (j : Nat) (s : Rs) (acc : List Int) (xx : Int), j ≤ N ∧ i = .int .i64 j ∧ x = .int .i64 xx ∧ Hid (-32768 ≤ xx ∧ xx ≤ 32767) ∧ Hid (acc.length = j) ∧ Hid (EnR w wr r v zs s l acc ∧ stepsR zs 4 32 (fl.drop j) xx s acc = R)) (fun _ _ i _ => N - (intOf i).toNat)
  case atStart => exact ⟨0, s, [], 0, by omega, rfl, rfl, ⟨by omega, by omega⟩, rfl, hS.out, HR.out⟩
  case round =>
    obtain ⟨j, s, acc, xx, hj, rfl, rfl, HX, HA, HJ⟩ := hrel
    clear hS HR
    obtain ⟨po, co, hl⟩ := slice_own HJ.out.1.2.1
    subst hl
    rw [HA.out] at HJ ⊢
    have HE := Lib.hid HJ.out.2
    have HS := Lib.hid HJ.out.1
    clear HJ
    by_cases hlt : j < N
    · have hjl : j < fl.length := by rw [HN.out]; exact hlt
      obtain ⟨g, off, c, e1, hc1, hc2, hce⟩ := (HLW.out wr HS.out.2.2.1).at_ hjl
      rw [HN.out] at e1
      cases e1
      have hfm : fl.getD j 0 ∈ fl := by rw [List.getD_eq_getElem?_getD, List.getElem?_eq_getElem hjl]; exact List.getElem_mem hjl
      obtain ⟨f0, f1⟩ := HF.out _ hfm
      have hdrop : fl.drop j = fl.getD j 0 :: fl.drop (j + 1) := by
        rw [List.drop_eq_getElem_cons hjl, List.getD_eq_getElem?_getD, List.getElem?_eq_getElem hjl]; rfl
      have HRR : Hid (R = stepsR zs 4 32 (fl.getD j 0 :: fl.drop (j + 1)) xx s acc) := by show _ = _; rw [← hdrop]; exact HE.out.symm
      have HD := Lib.hid (stV_bounds zs 4 32 (fl.getD j 0) s HBB.out)
      have HRS : Hid (R = if unitB (xx + (stV zs 4 32 (fl.getD j 0) s).1) = true then stepsR zs 4 32 (fl.drop (j + 1)) (xx + (stV zs 4 32 (fl.getD j 0) s).1) (stV zs 4 32 (fl.getD j 0) s).2 (acc ++ [xx + (stV zs 4 32 (fl.getD j 0) s).1]) else (none, (stV zs 4 32 (fl.getD j 0) s).2)) := HRR.out
      have HU := Lib.hid (ruS 1 (by decide) (by decide) 1 rfl HS.out.1)
      have HI := Lib.hid (ri16S HS.out.1)
      have HVB := Lib.hid (val_bounds zs 1 s HBB.out)
      clear HE HRR hdrop hfm hc1 hc2 hjl
      generalize fl.getD j 0 = f at *
      have HST : Hid (stV zs 4 32 f s = if bits .and .i64 f 4 ≠ 0 then (if bits .and .i64 f 32 ≠ 0 then (val zs 1 s, stp zs 1 s) else (- val zs 1 s, stp zs 1 s)) else if bits .and .i64 f 32 = 0 then (s16 (val zs 2 s), stp zs 2 s) else (0, s)) := rfl
      obtain ⟨q, hq⟩ : ∃ q, stV zs 4 32 f s = q := ⟨_, rfl⟩
      rw [hq] at HD HRS HST
      clear hq
      obtain ⟨d, k2, b2⟩ := q
      dsimp only at HD HRS
      obtain ⟨x0, x1⟩ := HX.out
      obtain ⟨d0, d1⟩ := HD.out
      clear HX HD
      go_upto_block 2 with fail
      go_cut [11] from 13 to 73 (fun x wx => x = .int .i64 (xx + d) ∧ Hid (EnR w wx r v zs (k2, b2) (.slice po j co) acc))
      case first =>
        by_cases e2 : bits .and .i64 f 4 = 0
        · have h2 : (bits .and .i64 f 4 != 0) = false := by simp [e2]
          by_cases e3 : bits .and .i64 f 32 = 0
          · have h3 : (bits .and .i64 f 32 == 0) = true := by simp [e3]
            have hs : (d, k2, b2) = (s16 (val zs 2 s), stp zs 2 s) := by rw [HST.out, if_neg (by simp [e2]), if_pos e3]
            obtain ⟨hd, hss⟩ := Prod.mk.inj hs
            have HD2 := Lib.hid hd
            have HSS := Lib.hid hss
            clear HST hs hd hss HRS e2 e3 HU
            go_wp2_with fail
            refine HI.out.mono ?_; rintro e w3 ⟨rfl, h3, hk3⟩
            have HS3 : Hid (EnR w w3 r v zs (k2, b2) (.slice po j co) acc) := HS.out.read (by rw [HSS.out]; exact h3) hk3
            rw [← HD2.out]
            clear h3 hk3 HS HSS HD2 HI
            go_wp2_with fail
            go_meet
            exact ⟨rfl, HS3⟩
          · have h3 : (bits .and .i64 f 32 == 0) = false := by simp [e3]
            have hs : (d, k2, b2) = (0, s) := by rw [HST.out, if_neg (by simp [e2]), if_neg e3]
            obtain ⟨hd, hss⟩ := Prod.mk.inj hs
            have HS3 : Hid (∀ W, Kp [] wr W → EnR w W r v zs (k2, b2) (.slice po j co) acc) := fun W hW => HS.out.read (by rw [hss]; exact HS.out.1.kp0 hW) (hW.more (fun s hs => nomatch hs))
            subst hd
            clear HST hs hss HRS e2 e3 HU HI
            go_wp2_with fail
            go_meet
            exact ⟨by simp, HS3.out _ (by (repeat (first | exact Kp.refl _ _ | assumption | refine Kp.drew ?_ | refine Kp.drewN ?_ _ | refine Kp.alloc ?_ _ | (refine Kp.setCell ?_ (by first | (left; simp; done) | (right; simp; try omega)) _) | (refine Kp.trans' ?_ (by assumption) (by simp; try omega)))))⟩
        · have h2 : (bits .and .i64 f 4 != 0) = true := by simp [e2]
          have hvb := HVB.out
          have hp : (256 ^ 1 : Nat) = 256 := by decide
          rw [hp] at hvb
          obtain ⟨hv0, hv1⟩ := hvb
          by_cases e3 : bits .and .i64 f 32 = 0
          · have h3 : (bits .and .i64 f 32 != 0) = false := by simp [e3]
            have hs : (d, k2, b2) = (- val zs 1 s, stp zs 1 s) := by rw [HST.out, if_pos e2, if_neg (by simp [e3])]
            obtain ⟨hd, hss⟩ := Prod.mk.inj hs
            have HD2 := Lib.hid hd
            have HSS := Lib.hid hss
            clear HST hs hd hss HRS e2 e3 HI hp
            generalize val zs 1 s = y at *
            go_wp2_with fail
            refine HU.out.mono ?_; rintro e w3 ⟨rfl, h3, hk3⟩
            have HS3 : Hid (EnR w w3 r v zs (k2, b2) (.slice po j co) acc) := HS.out.read (by rw [HSS.out]; exact h3) hk3
            clear h3 hk3 HS HSS HU
            go_wp2_with fail
            go_meet
            exact ⟨int_eq' (by have := HD2.out; omega), HS3⟩
          · have h3 : (bits .and .i64 f 32 != 0) = true := by simp [e3]
            have hs : (d, k2, b2) = (val zs 1 s, stp zs 1 s) := by rw [HST.out, if_pos e2, if_pos e3]
            obtain ⟨hd, hss⟩ := Prod.mk.inj hs
            have HD2 := Lib.hid hd
            have HSS := Lib.hid hss
            clear HST hs hd hss HRS e2 e3 HI hp
            generalize val zs 1 s = y at *
            go_wp2_with fail
            refine HU.out.mono ?_; rintro e w3 ⟨rfl, h3, hk3⟩
            have HS3 : Hid (EnR w w3 r v zs (k2, b2) (.slice po j co) acc) := HS.out.read (by rw [HSS.out]; exact h3) hk3
            clear h3 hk3 HS HSS HU
            go_wp2_with fail
            go_meet
            exact ⟨int_eq' (by have := HD2.out; omega), HS3⟩
      case rest =>
      obtain ⟨rfl, HS3⟩ := hcut
      clear HS HST HU HI HVB hce
      have hy : -65536 ≤ xx + d ∧ xx + d ≤ 65534 := ⟨by omega, by omega⟩
      generalize xx + d = y at *
      clear x0 x1 d0 d1
      by_cases hu : unitB y = true
      · have HFI : Hid (stepsR zs 4 32 (fl.drop (j + 1)) y (k2, b2) (acc ++ [y]) = R) := by show _ = _; rw [HRS.out, if_pos hu]
        have HX5 : Hid (-32768 ≤ y ∧ y ≤ 32767) := by unfold unitB at hu; show _ ∧ _; simpa using hu
        obtain ⟨u0, u1⟩ := HX5.out
        have hdl : decide (y < -32768) = false := decide_eq_false (by omega)
        have hdg : decide (32768 ≤ y) = false := decide_eq_false (by omega)
        have HROW := Lib.hid HS3.out.2.1
        have hsz : w.heap.size ≤ wc.heap.size := HS3.out.2.2.1.size
        rw [HA.out] at HROW
        clear HRS hu hy
        go_wp2_with (at_builtin; go_loud (refine wpList_pushL rfl _ _ 100 3 .i64 8 Try.underlying100 infoI (by decide) rfl w.heap.size (.slice po j co) acc j HA.out rfl ?hown wc.heap.size [y] 1 rfl rfl ?hc ?hl ?hbase ?hk))
        case hown => exact Kp.row (S := []) ((Kp.refl _ _).alloc _) HROW.out (by simp)
        case hc => exact litI (zs := [y]) (Kp.refl _ _)
        case hl => omega
        case hbase => simp; omega
        case hk =>
        intro v5 w5 hown5 hk5 hk6
        have HS5 : Hid (EnR w w5 r v zs (k2, b2) v5 (acc ++ [y])) := HS3.out.push (zs' := [y]) (m := 1) HA.out rfl hown5 hk5 hk6
        have HA5 : Hid ((acc ++ [y]).length = j + 1) := by show _ = _; rw [List.length_append, HA.out]; rfl
        clear hown5 hk5 hk6 HS3 HROW HA
        go_wp2_with fail
        go_roundw
        case rel => first | exact ⟨j + 1, (k2, b2), acc ++ [y], y, by omega, int_eq' (by omega), rfl, HX5, HA5, HS5.out, HFI.out⟩ | ((repeat apply Exists.intro); exact ⟨⟨j + 1, (k2, b2), acc ++ [y], y, by omega, int_eq' (by omega), rfl, HX5, HA5, HS5.out, HFI.out⟩, rfl⟩)
        case measure => simp [intOf]; omega
      · have HFI : Hid (R = (none, (k2, b2))) := by show _ = _; rw [HRS.out, if_neg hu]
        clear HRS
        by_cases hlo : y < -32768
        · have hdl : decide (y < -32768) = true := decide_eq_true hlo
          clear hu hy
          go_wp2_with fail
          go_ret2
          exact ⟨_, by rw [HFI.out]; rfl, (fun q hq => by rw [HFI.out] at hq; cases hq), by rw [HFI.out]; exact HS3.out.1, HS3.out.2.2.1, fun b hb => by simp at hb⟩
        · have hdl : decide (y < -32768) = false := decide_eq_false hlo
          have hdg : decide (32768 ≤ y) = true := by
            unfold unitB at hu
            apply decide_eq_true
            simp at hu; omega
          clear hu hy
          go_wp2_with fail
          go_ret2
          exact ⟨_, by rw [HFI.out]; rfl, (fun q hq => by rw [HFI.out] at hq; cases hq), by rw [HFI.out]; exact HS3.out.1, HS3.out.2.2.1, fun b hb => by simp at hb⟩
    · obtain rfl : j = N := by omega
      obtain ⟨k2, b2⟩ := s
      have HFI : Hid (R = (some acc, (k2, b2))) := by show _ = _; rw [← HE.out, List.drop_eq_nil_of_le (by rw [HN.out]; exact Nat.le_refl _)]; rfl
      have HROW : Hid (wr.ownsRow w.heap.size 3 1 (.slice po j co) acc.length (acc.map (Value.int .i64))) := HS.out.2.1
      have hbad := HS.out.bad
      clear HE
      have hbad2 : wr.drew.cell? ⟨r, 2, none⟩ = some (.bool b2) := hbad
      cases b2
      all_goals
        go_wp2_with fail
        go_quiet (fail)
        go_wp2_with fail
        go_ret2
        have HK := Lib.hid HS.out.2.2.1
        exact ⟨_, by rw [HFI.out]; rfl, (fun q hq => by rw [HFI.out] at hq; cases hq; exact (IsInts.owned HROW.out).kp0 (by (repeat (first | exact Kp.refl _ _ | assumption | refine Kp.drew ?_ | refine Kp.drewN ?_ _ | refine Kp.alloc ?_ _ | (refine Kp.setCell ?_ (by first | (left; simp; done) | (right; simp; try omega)) _) | (refine Kp.trans' ?_ (by assumption) (by simp; try omega)))))), by rw [HFI.out]; exact HS.out.1.kp0 (by (repeat (first | exact Kp.refl _ _ | assumption | refine Kp.drew ?_ | refine Kp.drewN ?_ _ | refine Kp.alloc ?_ _ | (refine Kp.setCell ?_ (by first | (left; simp; done) | (right; simp; try omega)) _) | (refine Kp.trans' ?_ (by assumption) (by simp; try omega))))), HK.out.trans (by (repeat (first | exact Kp.refl _ _ | assumption | refine Kp.drew ?_ | refine Kp.drewN ?_ _ | refine Kp.alloc ?_ _ | (refine Kp.setCell ?_ (by first | (left; simp; done) | (right; simp; try omega)) _) | (refine Kp.trans' ?_ (by assumption) (by simp; try omega))))), own_geb HROW.out⟩
end Go.Proofs.Ytodjohoonbkklaa

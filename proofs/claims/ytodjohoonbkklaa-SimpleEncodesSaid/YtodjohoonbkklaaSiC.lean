/- simple: flags. -/
import Derived.Test.YtodjohoonbkklaaSiB
import Derived.Deep.DeepCutAuto
namespace Go.Proofs.Ytodjohoonbkklaa
open Go.RowKit
set_option linter.unusedVariables false
set_option linter.unusedSimpArgs false
/-- How many more points have this flag; where the reader stands behind it. -/
def flM (zs : List Int) (s : Rs) : Int := if bits .and .i64 (val zs 1 s) 8 = 0 then 0 else val zs 1 (stp zs 1 s)
def flS (zs : List Int) (s : Rs) : Rs := if bits .and .i64 (val zs 1 s) 8 = 0 then stp zs 1 s else stp zs 1 (stp zs 1 s)
/-- The flags of n points. -/
def flagsR (zs : List Int) (n : Nat) : Nat → Rs → List Int → Option (List Int × Rs)
  | 0, _, _ => none
  | f + 1, s, l => if n ≤ l.length then some (l, s) else if (flS zs s).2 = true ∨ (n : Int) - (l.length : Int) ≤ flM zs s then none
    else flagsR zs n f (flS zs s) (l ++ List.replicate ((flM zs s).toNat + 1) (val zs 1 s))
theorem flM_bounds (zs : List Int) (s : Rs) (hb : ∀ c ∈ zs, 0 ≤ c ∧ c ≤ 255) : 0 ≤ flM zs s ∧ flM zs s < 256 := by
  unfold flM
  have := val_bounds zs 1 (stp zs 1 s) hb
  split
  · omega
  · simpa using this
theorem rep_snoc (l : List Int) (x : Int) (i : Nat) : l ++ List.replicate (i + 1) x = (l ++ List.replicate i x) ++ [x] := by
  rw [List.replicate_succ', List.append_assoc]
set_option maxRecDepth 100000 in
set_option maxHeartbeats 4000000 in
theorem flags_calls {w : World} {r : Nat} {v : Value} {zs : List Int} {s : Rs} (n : Nat) (hn : n ≤ 4096) (h : RdS w r v zs s.1 s.2) (hv : ∀ b, blockOf v = some b → b < w.heap.size) :
    Calls Try.prog 96 #[.pointer (some ⟨r, 0, none⟩), .int .i64 n] w fun e w' => ∃ v' s', e = .returned (.tuple #[v', .bool (flagsR zs n (n + 1) s []).isSome]) ∧ (∀ q, flagsR zs n (n + 1) s [] = some q → IsInts .i64 w' v' q.1 ∧ s' = q.2) ∧ RdS w' r v zs s'.1 s'.2 ∧ Kp [r] w w' ∧ ∀ b, blockOf v' = some b → w.heap.size ≤ b := by
  obtain ⟨i0, hi, hz0, hz1, hz2⟩ := info_parts infoI
  have HBB := Lib.hid h.2.2.1
  have HS0 : Hid (RdS w r v zs s.1 s.2) := h
  have HV : Hid (r < w.heap.size ∧ ∀ b, blockOf v = some b → b < w.heap.size) := ⟨h.lt, hv⟩
  obtain ⟨R, hR⟩ : ∃ R, flagsR zs n (n + 1) s [] = R := ⟨_, rfl⟩
  have HR := Lib.hid hR
  rw [hR]
  clear h hv hR
  go_enter Try.func96, Try.ntmps96
  go_wp2_with (at_make; refine wpList_make_own _ rfl _ _ 100 rfl w.heap.size 3 i0 (.int .i64 0) 1 Try.underlying100 hi hz0 hz1 .i64 .i64 n n rfl rfl rfl ?b2 ?b3 ?b4 ?hK)
  case b2 => rw [hz2]; omega
  case b3 => unfold maxLen; omega
  case b4 => exact Nat.le_refl _
  case hK =>
  intro w1 hown hgr
  have hk1 : Kp [] w w1 := Kp.grown (Kp.refl _ _) hgr (fun k hk => nomatch hk)
  have hS : Hid (EnSt w w1 r v zs s (.slice (some ⟨w.heap.size, 0, none⟩) 0 n) []) := ⟨HS0.out.kp0 hk1, hown, hk1.more (fun s hs => nomatch hs), HV.out⟩
  clear hown hgr hk1 hi hz0 hz1 hz2 HS0
  go_wp2_with fail
  go_loopw [6, 7, 8] (fun l _ _ wr => ∃ (s : Rs) (acc : List Int) (f L : Nat), Hid (L ≤ n ∧ n - L < f) ∧ Hid (acc.length = L) ∧ Hid (EnSt w wr r v zs s l acc ∧ flagsR zs n f s acc = R)) (fun l _ _ _ => n - vlen l)
  case atStart => exact ⟨s, [], n + 1, 0, ⟨by omega, by omega⟩, rfl, hS.out, HR.out⟩
  case round =>
    obtain ⟨s, acc, f, L, HF, HA, HJ⟩ := hrel
    clear hS HR
    obtain ⟨pl, cl, hl⟩ := slice_own HJ.out.1.2.1
    subst hl
    rw [HA.out] at HJ ⊢
    have HE := Lib.hid HJ.out.2
    have HS := Lib.hid HJ.out.1
    clear HJ
    have hLn := HF.out.1
    by_cases hlt : L < n
    · obtain ⟨f, rfl⟩ : ∃ g, f = g + 1 := ⟨f - 1, by have := HF.out.2; omega⟩
      have HRR : Hid (R = if (flS zs s).2 = true ∨ (n : Int) - (L : Int) ≤ flM zs s then none else flagsR zs n f (flS zs s) (acc ++ List.replicate ((flM zs s).toNat + 1) (val zs 1 s))) := by
        show _ = _
        rw [← HE.out, flagsR, HA.out, if_neg (by omega)]
      obtain ⟨q0, q1⟩ := val_bounds zs 1 s HBB.out
      obtain ⟨m0, m1⟩ := flM_bounds zs s HBB.out
      have HU := Lib.hid (u8T HS.out.1)
      have HFF : Hid (n - L < f + 1) := HF.out.2
      have hle1 : (256 ^ 1 : Nat) = 256 := by decide
      rw [hle1] at q1
      clear HE HF hle1
      -- the second byte
      have HM : Hid (bits .and .i64 (val zs 1 s) 8 = 0 → flM zs s = 0 ∧ flS zs s = stp zs 1 s) := fun h => ⟨if_pos h, if_pos h⟩
      have HM2 : Hid (bits .and .i64 (val zs 1 s) 8 ≠ 0 → flM zs s = val zs 1 (stp zs 1 s) ∧ flS zs s = stp zs 1 (stp zs 1 s)) := fun h => ⟨if_neg h, if_neg h⟩
      have HU2 : Hid (∀ w2, RdS w2 r v zs (stp zs 1 s).1 (stp zs 1 s).2 → _) := fun w2 (h2 : RdS w2 r v zs (stp zs 1 s).1 (stp zs 1 s).2) => u8T h2
      generalize flM zs s = mm at *
      generalize flS zs s = s2 at *
      generalize val zs 1 s = x at *
      obtain ⟨M, rfl⟩ : ∃ M : Nat, mm = M := ⟨mm.toNat, by omega⟩
      rw [Int.toNat_natCast] at HRR
      go_upto_if 19 with (refine HU.out.mono ?_; rintro e w2 ⟨rfl, h2, hk2⟩)
      have HS2 : Hid (EnSt w w2 r v zs (stp zs 1 s) (.slice pl L cl) acc) := HS.out.read h2 hk2
      clear h2 hk2 HU HS
      go_cut [8] from 11 to 41 (fun m wx => m = .int .i64 M ∧ Hid (EnSt w wx r v zs s2 (.slice pl L cl) acc))
      case first =>
        by_cases hb : bits .and .i64 x 8 = 0
        · obtain ⟨hM, hs2⟩ := HM.out hb
          have hb1 : (bits .and .i64 x 8 != 0) = false := by simp [hb]
          obtain rfl : M = 0 := by omega
          subst hs2
          clear HRR HM HM2 HU2 hM hb
          go_wp2_with fail
          go_meet
          exact ⟨rfl, HS2⟩
        · obtain ⟨hM, hs2⟩ := HM2.out hb
          have hb1 : (bits .and .i64 x 8 != 0) = true := by simp [hb]
          have HM3 := Lib.hid hM
          subst hs2
          clear HRR HM HM2 hM hb
          go_wp2_with fail
          refine (HU2.out _ HS2.out.1).mono ?_; rintro e w3 ⟨rfl, h3, hk3⟩
          have HS3 : Hid (EnSt w w3 r v zs (stp zs 1 (stp zs 1 s)) (.slice pl L cl) acc) := HS2.out.read h3 hk3
          rw [← HM3.out]
          clear h3 hk3 HU2 HM3 HS2
          go_wp2_with fail
          go_meet
          exact ⟨rfl, HS3⟩
      case rest =>
      obtain ⟨rfl, HC⟩ := hcut
      clear HS2 HM HM2 HU2
      obtain ⟨k2, b2⟩ := s2
      go_wp2_with fail
      refine (doneT HC.out.1).mono ?_; rintro e w3 ⟨rfl, rfl⟩
      cases b2
      · by_cases hm : (n : Int) - (L : Int) ≤ (M : Int)
        · have HFI : Hid (R = none) := by show _ = _; rw [HRR.out, if_pos (.inr hm)]
          have hd : decide ((n : Int) - (L : Int) ≤ (M : Int)) = true := decide_eq_true hm
          clear HRR hm
          go_wp2_with fail
          go_ret2
          rw [HFI.out]
          exact ⟨_, (k2, false), rfl, (fun q hq => by cases hq), HC.out.1, HC.out.2.2.1, fun b hb => by simp at hb⟩
        · have HFI : Hid (flagsR zs n f (k2, false) (acc ++ List.replicate (M + 1) x) = R) := by show _ = _; rw [HRR.out, if_neg (by simpa using hm)]
          have hd : decide ((n : Int) - (L : Int) ≤ (M : Int)) = false := decide_eq_false hm
          have HMM : Hid (L + M + 1 ≤ n) := by show _ ≤ _; omega
          clear HRR hm
          go_wp2_with fail
          go_loopw [6, 35] (fun l i wr => ∃ (j : Nat), j ≤ M + 1 ∧ i = .int .i64 j ∧ Hid (EnSt w wr r v zs (k2, false) l (acc ++ List.replicate j x))) (fun _ i _ => M + 1 - (intOf i).toNat)
          case atStart => exact ⟨0, by omega, rfl, by show EnSt _ _ _ _ _ _ _ _; rw [List.replicate_zero, List.append_nil]; exact HC.out⟩
          case round =>
            obtain ⟨j, hj, rfl, HJ⟩ := hrel
            clear HC
            obtain ⟨pl2, cl2, hl2⟩ := slice_own HJ.out.2.1
            subst hl2
            have HLN : Hid ((acc ++ List.replicate j x).length = L + j) := by show _ = _; rw [List.length_append, List.length_replicate, HA.out]
            have HSN := Lib.hid (rep_snoc acc x j)
            rw [HLN.out]
            by_cases hjm : j < M + 1
            · have HROW := Lib.hid HJ.out.2.1
              have hsz : w.heap.size ≤ wr.heap.size := HJ.out.2.2.1.size
              rw [HLN.out] at HROW HJ
              generalize acc ++ List.replicate j x = ac2 at *
              go_wp2_with (at_builtin; go_loud (refine wpList_pushL rfl _ _ 100 3 .i64 8 Try.underlying100 infoI (by decide) rfl w.heap.size (.slice pl2 (L + j) cl2) ac2 (L + j) HLN.out rfl ?hown wr.heap.size [x] 1 rfl rfl ?hc ?hl ?hbase ?hk))
              case hown => exact Kp.row (S := []) ((Kp.refl _ _).alloc _) HROW.out (by simp)
              case hc => exact litI (zs := [x]) (Kp.refl _ _)
              case hl => omega
              case hbase => simp; omega
              case hk =>
              intro v5 w5 hown5 hk5 hk6
              have HS5 : Hid (EnSt w w5 r v zs (k2, false) v5 (acc ++ List.replicate (j + 1) x)) := by
                show EnSt _ _ _ _ _ _ _ _
                rw [HSN.out]; exact HJ.out.push (zs' := [x]) (m := 1) HLN.out rfl hown5 hk5 hk6
              clear hown5 hk5 hk6 HJ HROW HLN HSN
              go_wp2_with fail
              go_roundw
              case rel => first | exact ⟨j + 1, by omega, int_eq' (by omega), HS5⟩ | ((repeat apply Exists.intro); exact ⟨⟨j + 1, by omega, int_eq' (by omega), HS5⟩, rfl⟩)
              case measure => simp [intOf]; omega
            · obtain rfl : j = M + 1 := by omega
              have HA6 : Hid ((acc ++ List.replicate (M + 1) x).length = L + M + 1) := HLN.out
              have HF6 : Hid (L + M + 1 ≤ n ∧ n - (L + M + 1) < f) := ⟨HMM.out, by have := HFF.out; have := HMM.out; omega⟩
              rw [HLN.out] at HJ
              have HJ6 := HJ
              have HL6 := Lib.hid hlt
              clear HJ HLN HSN HMM HFF hd
              go_wp2_with fail
              go_roundw
              case rel => exact ⟨(k2, false), _, f, L + M + 1, HF6, HA6, HJ6.out, HFI.out⟩
              case measure => simp [vlen]; omega
      · have HFI : Hid (R = none) := by show _ = _; rw [HRR.out, if_pos (.inl rfl)]
        clear HRR
        go_wp2_with fail
        go_ret2
        rw [HFI.out]
        exact ⟨_, (k2, true), rfl, (fun q hq => by cases hq), HC.out.1, HC.out.2.2.1, fun b hb => by simp at hb⟩
    · obtain rfl : L = n := by omega
      have HFI : Hid (R = some (acc, s)) := by
        show _ = _
        rw [← HE.out]
        obtain ⟨f, rfl⟩ : ∃ g, f = g + 1 := ⟨f - 1, by have := HF.out.2; omega⟩
        rw [flagsR, HA.out, if_pos (Nat.le_refl _)]
      have HROW : Hid (wr.ownsRow w.heap.size 3 1 (.slice pl L cl) acc.length (acc.map (Value.int .i64))) := HS.out.2.1
      go_wp2_with fail
      go_ret2
      rw [HFI.out]
      exact ⟨_, s, rfl, fun q hq => by cases hq; exact ⟨IsInts.owned HROW.out, rfl⟩, HS.out.1, HS.out.2.2.1, own_geb HROW.out⟩
end Go.Proofs.Ytodjohoonbkklaa

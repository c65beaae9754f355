/- simple: packed. -/
import Derived.Test.YtodjohoonbkklaaSiJ
import Derived.Test.YtodjohoonbkklaaSiE
import Derived.Deep.DeepCutAuto
namespace Go.Proofs.Ytodjohoonbkklaa
open Go.RowKit
set_option linter.unusedVariables false
set_option linter.unusedSimpArgs false
/-- How many bytes x a list begins with, at most k. -/
def cntEq (x : Int) : Nat → List Int → Nat
  | 0, _ => 0
  | _ + 1, [] => 0
  | k + 1, c :: cs => if c = x then cntEq x k cs + 1 else 0
theorem cntEq_le (x : Int) : ∀ (k : Nat) (l : List Int), cntEq x k l ≤ k ∧ cntEq x k l ≤ l.length := by
  intro k
  induction k with
  | zero => intro l; exact ⟨Nat.le_refl _, Nat.zero_le _⟩
  | succ k ih =>
    intro l
    cases l with
    | nil => exact ⟨Nat.zero_le _, Nat.le_refl _⟩
    | cons c cs =>
      unfold cntEq
      have := ih cs
      split
      · simp only [List.length_cons]; omega
      · exact ⟨Nat.zero_le _, Nat.zero_le _⟩
/-- How long the first run is. -/
def runLen : List Int → Nat
  | [] => 0
  | c :: cs => cntEq c 255 cs + 1
/-- Flags, with those that follow themselves counted. -/
def packM : Nat → List Int → List Int
  | 0, _ => []
  | _ + 1, [] => []
  | f + 1, c :: cs => (if 1 < runLen (c :: cs) then [bits .or .u8 c 8, ((runLen (c :: cs) : Nat) : Int) - 1] else [c]) ++ packM f ((c :: cs).drop (runLen (c :: cs)))
theorem runLen_le (l : List Int) : runLen l ≤ l.length ∧ runLen l ≤ 256 := by
  cases l with
  | nil => exact ⟨Nat.le_refl _, Nat.zero_le _⟩
  | cons c cs => have := cntEq_le c 255 cs; simp only [runLen, List.length_cons]; omega
theorem run_from (c : Int) (cs : List Int) (i : Nat) (h1 : 1 ≤ i) (hrun : i + cntEq c (256 - i) ((c :: cs).drop i) = runLen (c :: cs)) :
    (i < (c :: cs).length ∧ i ≤ 255 ∧ (c :: cs).getD i 0 = c → i + 1 + cntEq c (256 - (i + 1)) ((c :: cs).drop (i + 1)) = runLen (c :: cs)) ∧ (¬ (i < (c :: cs).length ∧ i ≤ 255 ∧ (c :: cs).getD i 0 = c) → i = runLen (c :: cs)) := by
  by_cases hl : i < (c :: cs).length
  · have hd : (c :: cs).drop i = (c :: cs).getD i 0 :: (c :: cs).drop (i + 1) := by
      rw [List.drop_eq_getElem_cons hl, List.getD_eq_getElem?_getD, List.getElem?_eq_getElem hl]; rfl
    rw [hd] at hrun
    by_cases h2 : i ≤ 255
    · obtain ⟨k, hk⟩ : ∃ k, 256 - i = k + 1 := ⟨255 - i, by omega⟩
      rw [hk, cntEq] at hrun
      have hk2 : 256 - (i + 1) = k := by omega
      rw [hk2]
      refine ⟨fun ⟨_, _, h3⟩ => ?_, fun hn => ?_⟩
      · rw [if_pos h3] at hrun; omega
      · have h3 : ¬ (c :: cs).getD i 0 = c := fun e => hn ⟨hl, h2, e⟩
        rw [if_neg h3] at hrun; exact hrun
    · rw [show 256 - i = 0 by omega, cntEq] at hrun
      exact ⟨fun h => absurd h.2.1 h2, fun _ => hrun⟩
  · rw [List.drop_eq_nil_of_le (by omega)] at hrun
    refine ⟨fun h => absurd h.1 hl, fun _ => ?_⟩
    have : cntEq c (256 - i) [] = 0 := by cases 256 - i <;> rfl
    rw [this] at hrun; exact hrun
theorem run_start (c : Int) (cs : List Int) : 1 + cntEq c (256 - 1) ((c :: cs).drop 1) = runLen (c :: cs) := by
  show 1 + cntEq c 255 cs = cntEq c 255 cs + 1
  omega
theorem IsInts.drop8 {w : World} {g off L c n : Nat} {ys : List Int} (h : IsInts .u8 w (.slice (some ⟨g, off, none⟩) L c) ys) (hn : n ≤ ys.length) (hnc : n < c) : IsInts .u8 w (.slice (some ⟨g, off + n, none⟩) (L - n) (c - n)) (ys.drop n) := by
  rcases h with ⟨⟨a, e⟩, rfl⟩ | ⟨g', off', c', e, h1, h2, h3⟩
  · cases e
    omega
  · cases e
    refine .inr ⟨g, off + n, c - n, by rw [List.length_drop], by rw [List.length_drop]; omega, by omega, fun i hi => ?_⟩
    rw [List.length_drop] at hi
    rw [Nat.add_assoc, h3 (n + i) (by omega), List.getD_eq_getElem?_getD, List.getD_eq_getElem?_getD (l := ys.drop n), List.getElem?_drop]
set_option maxRecDepth 100000 in
set_option maxHeartbeats 4000000 in
theorem packed_calls {w : World} (v : Value) (zs : List Int) (hz : IsInts .u8 w v zs) (hb : ∀ c ∈ zs, 0 ≤ c ∧ c ≤ 255) (hlen : zs.length ≤ 8192) :
    Calls Try.prog 104 #[v] w fun e w' => ∃ v', e = .returned v' ∧ w'.ownsRow w.heap.size 5 1 v' (packM zs.length zs).length ((packM zs.length zs).map (Value.int .u8)) ∧ Kp [] w w' := by
  obtain ⟨pa, ca, rfl⟩ := hz.form
  obtain ⟨R, hR⟩ : ∃ R, packM zs.length zs = R := ⟨_, rfl⟩
  rw [hR]
  have HS : Hid (IsInts .u8 w (.slice pa zs.length ca) zs ∧ (∀ c ∈ zs, 0 ≤ c ∧ c ≤ 255) ∧ [] ++ packM zs.length zs = R ∧ ([] : List Int).length + zs.length ≤ 8192) := ⟨hz, hb, hR, by simpa using hlen⟩
  clear hz hb hR hlen
  go_enter Try.func104, Try.ntmps104
  go_wp2_with fail
  go_loopw [0, 3, 4] (fun l o _ wr => ∃ (ys acc : List Int) (f : Nat), ys.length ≤ f ∧ Hid (IsInts .u8 w l ys ∧ (∀ c ∈ ys, 0 ≤ c ∧ c ≤ 255) ∧ acc ++ packM f ys = R ∧ acc.length + ys.length ≤ 8192) ∧ Hid (wr.ownsRow w.heap.size 5 1 o acc.length (acc.map (Value.int .u8)) ∧ Kp [] w wr)) (fun l _ _ _ => vlen l)
  case atStart => exact ⟨zs, [], zs.length, Nat.le_refl _, HS.out, World.ownsRow_nil _ _ _ _, Kp.refl _ _⟩
  case round =>
    obtain ⟨ys, acc, f, hf, HI, HO⟩ := hrel
    clear HS
    obtain ⟨po, co, ho⟩ := slice_own HO.out.1
    subst ho
    obtain ⟨pl, cl, hl⟩ := HI.out.1.form
    subst hl
    cases ys with
    | nil =>
      have HR : Hid (R = acc) := by
        show _ = _
        rw [← HI.out.2.2.1]
        cases f <;> simp [packM]
      have HO2 := HO
      rw [show ([] : List Int).length = 0 from rfl]
      clear HI HO hf
      go_wp2_with fail
      go_ret
      rw [HR.out]
      exact ⟨_, rfl, HO2.out.1, HO2.out.2⟩
    | cons c cs =>
      obtain ⟨f, rfl⟩ : ∃ g, f = g + 1 := ⟨f - 1, by simp at hf; omega⟩
      obtain ⟨g, off, hpl, hLc, hcm, hcells⟩ : ∃ g off, pl = some ⟨g, off, none⟩ ∧ (c :: cs).length ≤ cl ∧ cl ≤ maxLen ∧ ∀ i, i < (c :: cs).length → w.cell? ⟨g, off + i, none⟩ = some (.int .u8 ((c :: cs).getD i 0)) := by
        rcases HI.out.1 with ⟨⟨a, e⟩, h⟩ | ⟨g, off, cap, e, h1, h2, h3⟩
        · cases h
        · cases e; exact ⟨g, off, rfl, h1, h2, h3⟩
      subst hpl
      have HPK : Hid (packM (f + 1) (c :: cs) = (if 1 < runLen (c :: cs) then [bits .or .u8 c 8, ((runLen (c :: cs) : Nat) : Int) - 1] else [c]) ++ packM f ((c :: cs).drop (runLen (c :: cs)))) := rfl
      have HRF := Lib.hid (fun i => run_from c cs i)
      have HR0 := Lib.hid (run_start c cs)
      obtain ⟨hr1, hr2⟩ := runLen_le (c :: cs)
      have hr3 : 1 ≤ runLen (c :: cs) := by simp [runLen]
      have hc0 : (c :: cs).getD 0 0 = c := rfl
      have HC0 : Hid (w.cell? ⟨g, off, none⟩ = some (.int .u8 c)) := by have := hcells 0 (by simp); rwa [Nat.add_zero, hc0] at this
      have HCL := Lib.hid hcells
      have HIM : Hid (∀ x ∈ c :: cs, 0 ≤ x ∧ x ≤ 255) := HI.out.2.1
      have HIL : Hid (acc.length + (c :: cs).length ≤ 8192) := HI.out.2.2.2
      have HIS : Hid (IsInts .u8 w (.slice (some ⟨g, off, none⟩) (c :: cs).length cl) (c :: cs)) := HI.out.1
      have HIR : Hid (acc ++ packM (f + 1) (c :: cs) = R) := HI.out.2.2.1
      obtain ⟨hcb0, hcb1⟩ := HIM.out c (by simp)
      have hfl : (c :: cs).length ≤ f + 1 := hf
      obtain ⟨ys, hys⟩ : ∃ ys, c :: cs = ys := ⟨_, rfl⟩
      rw [hys] at HPK HRF HR0 hr1 hr2 hr3 HCL HIM HIL HIS HIR hLc hfl ⊢
      obtain ⟨N, hN⟩ : ∃ N, runLen ys = N := ⟨_, rfl⟩
      rw [hN] at HPK HRF HR0 hr1 hr2 hr3
      obtain ⟨L, hL⟩ : ∃ L, ys.length = L := ⟨_, rfl⟩
      have HLL := Lib.hid hL
      rw [hL] at HRF HCL HIL HIS hr1 hLc hfl ⊢
      obtain ⟨A, hA⟩ : ∃ A, acc.length = A := ⟨_, rfl⟩
      have HA := Lib.hid hA
      rw [hA] at HO HIL ⊢
      have hAL := HIL.out
      clear HI hf hys hN hL hcells hc0 hA
      go_wp2_with fail
      go_loopw [4] (fun n wr => ∃ i : Nat, n = .int .i64 i ∧ Hid (1 ≤ i ∧ i ≤ N ∧ i + cntEq c (256 - i) (ys.drop i) = N) ∧ Hid (wr.ownsRow w.heap.size 5 1 (.slice po A co) A (acc.map (Value.int .u8)) ∧ Kp [] w wr)) (fun n _ => N - (intOf n).toNat)
      case atStart => exact ⟨1, rfl, ⟨Nat.le_refl _, hr3, HR0.out⟩, HO.out⟩
      case round =>
        obtain ⟨i, rfl, HN, HO2⟩ := hrel
        clear HO
        obtain ⟨hi1, hi2, hi3⟩ := HN.out
        obtain ⟨hgo, hstop⟩ := HRF.out i hi1 hi3
        have h0 := HO2.out.2.cell HC0.out (by simp)
        by_cases hcond : i < L ∧ i ≤ 255 ∧ ys.getD i 0 = c
        · have hci := HO2.out.2.cell (HCL.out i hcond.1) (by simp)
          rw [hcond.2.2] at hci
          have HN2 : Hid (1 ≤ i + 1 ∧ i + 1 ≤ N ∧ i + 1 + cntEq c (256 - (i + 1)) (ys.drop (i + 1)) = N) := ⟨by omega, by have := hgo hcond; omega, hgo hcond⟩
          obtain ⟨hil, hi255, _⟩ := hcond
          have hd1 : decide (i < L) = true := decide_eq_true hil
          have hd2 : decide (i ≤ 255) = true := decide_eq_true hi255
          have hd3 : decide ((i : Int) ≤ 255) = true := decide_eq_true (by omega)
          have HO3 := HO2
          clear hgo hstop hi3 HN HO2
          go_wp2_with fail
          go_quiet (fail)
          go_wp2_with fail
          go_roundw
          case rel => first | exact ⟨i + 1, int_eq' (by omega), HN2, HO3.out.1, HO3.out.2.trans (by (repeat (first | exact Kp.refl _ _ | assumption | refine Kp.drew ?_ | refine Kp.drewN ?_ _ | refine Kp.alloc ?_ _ | (refine Kp.setCell ?_ (by first | (left; simp; done) | (right; simp; try omega)) _) | (refine Kp.trans' ?_ (by assumption) (by simp; try omega)))))⟩ | ((repeat apply Exists.intro); exact ⟨⟨i + 1, int_eq' (by omega), HN2, HO3.out.1, HO3.out.2.trans (by (repeat (first | exact Kp.refl _ _ | assumption | refine Kp.drew ?_ | refine Kp.drewN ?_ _ | refine Kp.alloc ?_ _ | (refine Kp.setCell ?_ (by first | (left; simp; done) | (right; simp; try omega)) _) | (refine Kp.trans' ?_ (by assumption) (by simp; try omega)))))⟩, rfl⟩)
          case measure => have := HN2.out.2.1; simp [intOf]; omega
        · obtain rfl : i = N := hstop hcond
          have hw : decide (i < L) = false ∨ (decide (i < L) = true ∧ i < L ∧ decide (i ≤ 255) = false ∧ decide ((i : Int) ≤ 255) = false) ∨ (decide (i < L) = true ∧ i < L ∧ decide (i ≤ 255) = true ∧ decide ((i : Int) ≤ 255) = true ∧ ∃ y : Int, wr.cell? ⟨g, off + i, none⟩ = some (.int .u8 y) ∧ (y == c) = false) := by
            by_cases h1 : i < L
            · by_cases h2 : i ≤ 255
              · refine .inr (.inr ⟨decide_eq_true h1, h1, decide_eq_true h2, decide_eq_true (by omega), ys.getD i 0, HO2.out.2.cell (HCL.out i h1) (by simp), ?_⟩)
                have : ¬ ys.getD i 0 = c := fun e => hcond ⟨h1, h2, e⟩
                rw [beq_eq_false_iff_ne]; exact this
              · exact .inr (.inl ⟨decide_eq_true h1, h1, decide_eq_false h2, decide_eq_false (by omega)⟩)
            · exact .inl (decide_eq_false h1)
          clear hgo hstop hi3 HN HRF HR0 hcond hi2
          by_cases hi1g : 1 < i
          · rcases hw with hd1 | ⟨hd1, hiL, hd2, hd3⟩ | ⟨hd1, hiL, hd2, hd3, y, hy, hyc⟩
            · have hN1 : decide (1 < i) = true := decide_eq_true hi1g
              have hN2 : decide ((1 : Int) < (i : Int)) = true := decide_eq_true (by omega)
              have hwi : IntKind.u8.wrap ((i : Int) - 1) = (i : Int) - 1 := by rw [byte_wrap]; omega
              have HPK2 : Hid (packM (f + 1) ys = [bits .or .u8 c 8, (i : Int) - 1] ++ packM f (ys.drop i)) := by show _ = _; rw [HPK.out, if_pos hi1g]
              clear HPK
              go_wp2_with fail
              go_quiet (fail)
              go_wp2_with (at_builtin; go_loud (refine wpList_pushL rfl _ _ 22 5 .u8 1 Try.underlying22 infoByte (by decide) rfl w.heap.size (.slice po A co) acc A HA.out rfl ?hown_1 wr.heap.size [bits .or .u8 c 8, (i : Int) - 1] 2 rfl rfl ?hc_1 ?hl_1 ?hbase_1 ?hk_1))
              case hown_1 => exact Kp.row (S := []) (by (repeat (first | exact Kp.refl _ _ | assumption | refine Kp.drew ?_ | refine Kp.drewN ?_ _ | refine Kp.alloc ?_ _ | (refine Kp.setCell ?_ (by first | (left; simp; done) | (right; simp; try omega)) _) | (refine Kp.trans' ?_ (by assumption) (by simp; try omega))))) HO2.out.1 (by simp)
              try case hc_1 => exact litI (w := wr.drewN _) (k := .u8) (zs := [bits .or .u8 c 8, (i : Int) - 1]) (Kp.refl _ _)
              case hl_1 => omega
              case hbase_1 => have := HO2.out.2.size; simp; omega
              case hk_1 =>
              intro v5 w5 hown5 hk5 hk6
              have HO5 : Hid (w5.ownsRow w.heap.size 5 1 v5 (acc ++ [bits .or .u8 c 8, (i : Int) - 1]).length ((acc ++ [bits .or .u8 c 8, (i : Int) - 1]).map (Value.int .u8)) ∧ Kp [] w w5) := by
                show _ ∧ _
                refine ⟨by rw [List.length_append, HA.out, List.map_append]; exact hown5, hk5 [] w ?_ (Nat.le_refl _)⟩
                exact HO2.out.2.trans (by (repeat (first | exact Kp.refl _ _ | assumption | refine Kp.drew ?_ | refine Kp.drewN ?_ _ | refine Kp.alloc ?_ _ | (refine Kp.setCell ?_ (by first | (left; simp; done) | (right; simp; try omega)) _) | (refine Kp.trans' ?_ (by assumption) (by simp; try omega)))))
              clear hown5 hk5 hk6
              have HFN : Hid ((ys.drop i).length ≤ f) := by show _ ≤ _; rw [List.length_drop, HLL.out]; omega
              have HIN : Hid ((∀ x ∈ ys.drop i, 0 ≤ x ∧ x ≤ 255) ∧ (acc ++ [bits .or .u8 c 8, (i : Int) - 1]) ++ packM f (ys.drop i) = R ∧ (acc ++ [bits .or .u8 c 8, (i : Int) - 1]).length + (ys.drop i).length ≤ 8192) := by
                refine ⟨fun x hx => HIM.out x (List.mem_of_mem_drop hx), by rw [List.append_assoc, ← HPK2.out]; exact HIR.out, ?_⟩
                rw [List.length_append, List.length_drop, HA.out, HLL.out]
                simp only [List.length_cons, List.length_nil]
                omega
              by_cases hce : cl = i
              · have HIV : Hid (IsInts .u8 w (.slice (some ⟨g, off, none⟩) 0 0) (ys.drop i)) := by
                  rw [List.drop_eq_nil_of_le (by rw [HLL.out]; omega)]
                  exact .inl ⟨⟨_, rfl⟩, rfl⟩
                have hLi : L = i := by omega
                have HVL : Hid (i ≤ L) := hr1
                subst hce
                subst hLi
                clear HIS HCL HPK2 HIL HIM HIR HO2
                go_wp2_with fail
                go_roundw
                case rel => first | exact ⟨ys.drop L, _, f, HFN.out, by show _ ∧ _; exact ⟨by simpa using HIV.out, HIN.out⟩, HO5.out⟩ | ((repeat apply Exists.intro); exact ⟨⟨ys.drop L, _, f, HFN.out, by show _ ∧ _; exact ⟨by simpa using HIV.out, HIN.out⟩, HO5.out⟩, rfl⟩)
                case measure => simp [vlen] <;> omega
              · have hlc : i < cl := by omega
                have HIV : Hid (IsInts .u8 w (.slice (some ⟨g, off + i, none⟩) (L - i) (cl - i)) (ys.drop i)) := HIS.out.drop8 (by rw [HLL.out]; omega) hlc
                clear HIS HCL HPK2 HIL HIM HIR HO2
                go_wp2_with fail
                go_roundw
                case rel => first | exact ⟨ys.drop i, _, f, HFN.out, ⟨HIV.out, HIN.out⟩, HO5.out⟩ | ((repeat apply Exists.intro); exact ⟨⟨ys.drop i, _, f, HFN.out, ⟨HIV.out, HIN.out⟩, HO5.out⟩, rfl⟩)
                case measure => simp [vlen] <;> omega
            · have hN1 : decide (1 < i) = true := decide_eq_true hi1g
              have hN2 : decide ((1 : Int) < (i : Int)) = true := decide_eq_true (by omega)
              have hwi : IntKind.u8.wrap ((i : Int) - 1) = (i : Int) - 1 := by rw [byte_wrap]; omega
              have HPK2 : Hid (packM (f + 1) ys = [bits .or .u8 c 8, (i : Int) - 1] ++ packM f (ys.drop i)) := by show _ = _; rw [HPK.out, if_pos hi1g]
              clear HPK
              go_wp2_with fail
              go_quiet (fail)
              go_wp2_with (at_builtin; go_loud (refine wpList_pushL rfl _ _ 22 5 .u8 1 Try.underlying22 infoByte (by decide) rfl w.heap.size (.slice po A co) acc A HA.out rfl ?hown_2 wr.heap.size [bits .or .u8 c 8, (i : Int) - 1] 2 rfl rfl ?hc_2 ?hl_2 ?hbase_2 ?hk_2))
              case hown_2 => exact Kp.row (S := []) (by (repeat (first | exact Kp.refl _ _ | assumption | refine Kp.drew ?_ | refine Kp.drewN ?_ _ | refine Kp.alloc ?_ _ | (refine Kp.setCell ?_ (by first | (left; simp; done) | (right; simp; try omega)) _) | (refine Kp.trans' ?_ (by assumption) (by simp; try omega))))) HO2.out.1 (by simp)
              try case hc_2 => exact litI (w := wr.drewN _) (k := .u8) (zs := [bits .or .u8 c 8, (i : Int) - 1]) (Kp.refl _ _)
              case hl_2 => omega
              case hbase_2 => have := HO2.out.2.size; simp; omega
              case hk_2 =>
              intro v5 w5 hown5 hk5 hk6
              have HO5 : Hid (w5.ownsRow w.heap.size 5 1 v5 (acc ++ [bits .or .u8 c 8, (i : Int) - 1]).length ((acc ++ [bits .or .u8 c 8, (i : Int) - 1]).map (Value.int .u8)) ∧ Kp [] w w5) := by
                show _ ∧ _
                refine ⟨by rw [List.length_append, HA.out, List.map_append]; exact hown5, hk5 [] w ?_ (Nat.le_refl _)⟩
                exact HO2.out.2.trans (by (repeat (first | exact Kp.refl _ _ | assumption | refine Kp.drew ?_ | refine Kp.drewN ?_ _ | refine Kp.alloc ?_ _ | (refine Kp.setCell ?_ (by first | (left; simp; done) | (right; simp; try omega)) _) | (refine Kp.trans' ?_ (by assumption) (by simp; try omega)))))
              clear hown5 hk5 hk6
              have HFN : Hid ((ys.drop i).length ≤ f) := by show _ ≤ _; rw [List.length_drop, HLL.out]; omega
              have HIN : Hid ((∀ x ∈ ys.drop i, 0 ≤ x ∧ x ≤ 255) ∧ (acc ++ [bits .or .u8 c 8, (i : Int) - 1]) ++ packM f (ys.drop i) = R ∧ (acc ++ [bits .or .u8 c 8, (i : Int) - 1]).length + (ys.drop i).length ≤ 8192) := by
                refine ⟨fun x hx => HIM.out x (List.mem_of_mem_drop hx), by rw [List.append_assoc, ← HPK2.out]; exact HIR.out, ?_⟩
                rw [List.length_append, List.length_drop, HA.out, HLL.out]
                simp only [List.length_cons, List.length_nil]
                omega
              by_cases hce : cl = i
              · have HIV : Hid (IsInts .u8 w (.slice (some ⟨g, off, none⟩) 0 0) (ys.drop i)) := by
                  rw [List.drop_eq_nil_of_le (by rw [HLL.out]; omega)]
                  exact .inl ⟨⟨_, rfl⟩, rfl⟩
                have hLi : L = i := by omega
                have HVL : Hid (i ≤ L) := hr1
                subst hce
                subst hLi
                clear HIS HCL HPK2 HIL HIM HIR HO2
                go_wp2_with fail
                go_roundw
                case rel => first | exact ⟨ys.drop L, _, f, HFN.out, by show _ ∧ _; exact ⟨by simpa using HIV.out, HIN.out⟩, HO5.out⟩ | ((repeat apply Exists.intro); exact ⟨⟨ys.drop L, _, f, HFN.out, by show _ ∧ _; exact ⟨by simpa using HIV.out, HIN.out⟩, HO5.out⟩, rfl⟩)
                case measure => simp [vlen] <;> omega
              · have hlc : i < cl := by omega
                have HIV : Hid (IsInts .u8 w (.slice (some ⟨g, off + i, none⟩) (L - i) (cl - i)) (ys.drop i)) := HIS.out.drop8 (by rw [HLL.out]; omega) hlc
                clear HIS HCL HPK2 HIL HIM HIR HO2
                go_wp2_with fail
                go_roundw
                case rel => first | exact ⟨ys.drop i, _, f, HFN.out, ⟨HIV.out, HIN.out⟩, HO5.out⟩ | ((repeat apply Exists.intro); exact ⟨⟨ys.drop i, _, f, HFN.out, ⟨HIV.out, HIN.out⟩, HO5.out⟩, rfl⟩)
                case measure => simp [vlen] <;> omega
            · have hN1 : decide (1 < i) = true := decide_eq_true hi1g
              have hN2 : decide ((1 : Int) < (i : Int)) = true := decide_eq_true (by omega)
              have hwi : IntKind.u8.wrap ((i : Int) - 1) = (i : Int) - 1 := by rw [byte_wrap]; omega
              have HPK2 : Hid (packM (f + 1) ys = [bits .or .u8 c 8, (i : Int) - 1] ++ packM f (ys.drop i)) := by show _ = _; rw [HPK.out, if_pos hi1g]
              clear HPK
              go_wp2_with fail
              go_quiet (fail)
              go_wp2_with (at_builtin; go_loud (refine wpList_pushL rfl _ _ 22 5 .u8 1 Try.underlying22 infoByte (by decide) rfl w.heap.size (.slice po A co) acc A HA.out rfl ?hown_3 wr.heap.size [bits .or .u8 c 8, (i : Int) - 1] 2 rfl rfl ?hc_3 ?hl_3 ?hbase_3 ?hk_3))
              case hown_3 => exact Kp.row (S := []) (by (repeat (first | exact Kp.refl _ _ | assumption | refine Kp.drew ?_ | refine Kp.drewN ?_ _ | refine Kp.alloc ?_ _ | (refine Kp.setCell ?_ (by first | (left; simp; done) | (right; simp; try omega)) _) | (refine Kp.trans' ?_ (by assumption) (by simp; try omega))))) HO2.out.1 (by simp)
              try case hc_3 => exact litI (w := wr.drewN _) (k := .u8) (zs := [bits .or .u8 c 8, (i : Int) - 1]) (Kp.refl _ _)
              case hl_3 => omega
              case hbase_3 => have := HO2.out.2.size; simp; omega
              case hk_3 =>
              intro v5 w5 hown5 hk5 hk6
              have HO5 : Hid (w5.ownsRow w.heap.size 5 1 v5 (acc ++ [bits .or .u8 c 8, (i : Int) - 1]).length ((acc ++ [bits .or .u8 c 8, (i : Int) - 1]).map (Value.int .u8)) ∧ Kp [] w w5) := by
                show _ ∧ _
                refine ⟨by rw [List.length_append, HA.out, List.map_append]; exact hown5, hk5 [] w ?_ (Nat.le_refl _)⟩
                exact HO2.out.2.trans (by (repeat (first | exact Kp.refl _ _ | assumption | refine Kp.drew ?_ | refine Kp.drewN ?_ _ | refine Kp.alloc ?_ _ | (refine Kp.setCell ?_ (by first | (left; simp; done) | (right; simp; try omega)) _) | (refine Kp.trans' ?_ (by assumption) (by simp; try omega)))))
              clear hown5 hk5 hk6
              have HFN : Hid ((ys.drop i).length ≤ f) := by show _ ≤ _; rw [List.length_drop, HLL.out]; omega
              have HIN : Hid ((∀ x ∈ ys.drop i, 0 ≤ x ∧ x ≤ 255) ∧ (acc ++ [bits .or .u8 c 8, (i : Int) - 1]) ++ packM f (ys.drop i) = R ∧ (acc ++ [bits .or .u8 c 8, (i : Int) - 1]).length + (ys.drop i).length ≤ 8192) := by
                refine ⟨fun x hx => HIM.out x (List.mem_of_mem_drop hx), by rw [List.append_assoc, ← HPK2.out]; exact HIR.out, ?_⟩
                rw [List.length_append, List.length_drop, HA.out, HLL.out]
                simp only [List.length_cons, List.length_nil]
                omega
              by_cases hce : cl = i
              · have HIV : Hid (IsInts .u8 w (.slice (some ⟨g, off, none⟩) 0 0) (ys.drop i)) := by
                  rw [List.drop_eq_nil_of_le (by rw [HLL.out]; omega)]
                  exact .inl ⟨⟨_, rfl⟩, rfl⟩
                have hLi : L = i := by omega
                have HVL : Hid (i ≤ L) := hr1
                subst hce
                subst hLi
                clear HIS HCL HPK2 HIL HIM HIR HO2
                go_wp2_with fail
                go_roundw
                case rel => first | exact ⟨ys.drop L, _, f, HFN.out, by show _ ∧ _; exact ⟨by simpa using HIV.out, HIN.out⟩, HO5.out⟩ | ((repeat apply Exists.intro); exact ⟨⟨ys.drop L, _, f, HFN.out, by show _ ∧ _; exact ⟨by simpa using HIV.out, HIN.out⟩, HO5.out⟩, rfl⟩)
                case measure => simp [vlen] <;> omega
              · have hlc : i < cl := by omega
                have HIV : Hid (IsInts .u8 w (.slice (some ⟨g, off + i, none⟩) (L - i) (cl - i)) (ys.drop i)) := HIS.out.drop8 (by rw [HLL.out]; omega) hlc
                clear HIS HCL HPK2 HIL HIM HIR HO2
                go_wp2_with fail
                go_roundw
                case rel => first | exact ⟨ys.drop i, _, f, HFN.out, ⟨HIV.out, HIN.out⟩, HO5.out⟩ | ((repeat apply Exists.intro); exact ⟨⟨ys.drop i, _, f, HFN.out, ⟨HIV.out, HIN.out⟩, HO5.out⟩, rfl⟩)
                case measure => simp [vlen] <;> omega
          · rcases hw with hd1 | ⟨hd1, hiL, hd2, hd3⟩ | ⟨hd1, hiL, hd2, hd3, y, hy, hyc⟩
            · have hN1 : decide (1 < i) = false := decide_eq_false hi1g
              have hN2 : decide ((1 : Int) < (i : Int)) = false := decide_eq_false (by omega)
              have HPK2 : Hid (packM (f + 1) ys = [c] ++ packM f (ys.drop i)) := by show _ = _; rw [HPK.out, if_neg hi1g]
              clear HPK
              go_wp2_with fail
              go_quiet (fail)
              go_wp2_with (at_builtin; go_loud (refine wpList_pushL rfl _ _ 22 5 .u8 1 Try.underlying22 infoByte (by decide) rfl w.heap.size (.slice po A co) acc A HA.out rfl ?hown_4 wr.heap.size [c] 1 rfl rfl ?hc_4 ?hl_4 ?hbase_4 ?hk_4))
              case hown_4 => exact Kp.row (S := []) (by (repeat (first | exact Kp.refl _ _ | assumption | refine Kp.drew ?_ | refine Kp.drewN ?_ _ | refine Kp.alloc ?_ _ | (refine Kp.setCell ?_ (by first | (left; simp; done) | (right; simp; try omega)) _) | (refine Kp.trans' ?_ (by assumption) (by simp; try omega))))) HO2.out.1 (by simp)
              try case hc_4 => exact litI (w := wr.drewN _) (k := .u8) (zs := [c]) (Kp.refl _ _)
              case hl_4 => omega
              case hbase_4 => have := HO2.out.2.size; simp; omega
              case hk_4 =>
              intro v5 w5 hown5 hk5 hk6
              have HO5 : Hid (w5.ownsRow w.heap.size 5 1 v5 (acc ++ [c]).length ((acc ++ [c]).map (Value.int .u8)) ∧ Kp [] w w5) := by
                show _ ∧ _
                refine ⟨by rw [List.length_append, HA.out, List.map_append]; exact hown5, hk5 [] w ?_ (Nat.le_refl _)⟩
                exact HO2.out.2.trans (by (repeat (first | exact Kp.refl _ _ | assumption | refine Kp.drew ?_ | refine Kp.drewN ?_ _ | refine Kp.alloc ?_ _ | (refine Kp.setCell ?_ (by first | (left; simp; done) | (right; simp; try omega)) _) | (refine Kp.trans' ?_ (by assumption) (by simp; try omega)))))
              clear hown5 hk5 hk6
              have HFN : Hid ((ys.drop i).length ≤ f) := by show _ ≤ _; rw [List.length_drop, HLL.out]; omega
              have HIN : Hid ((∀ x ∈ ys.drop i, 0 ≤ x ∧ x ≤ 255) ∧ (acc ++ [c]) ++ packM f (ys.drop i) = R ∧ (acc ++ [c]).length + (ys.drop i).length ≤ 8192) := by
                refine ⟨fun x hx => HIM.out x (List.mem_of_mem_drop hx), by rw [List.append_assoc, ← HPK2.out]; exact HIR.out, ?_⟩
                rw [List.length_append, List.length_drop, HA.out, HLL.out]
                simp only [List.length_cons, List.length_nil]
                omega
              by_cases hce : cl = i
              · have HIV : Hid (IsInts .u8 w (.slice (some ⟨g, off, none⟩) 0 0) (ys.drop i)) := by
                  rw [List.drop_eq_nil_of_le (by rw [HLL.out]; omega)]
                  exact .inl ⟨⟨_, rfl⟩, rfl⟩
                have hLi : L = i := by omega
                have HVL : Hid (i ≤ L) := hr1
                subst hce
                subst hLi
                clear HIS HCL HPK2 HIL HIM HIR HO2
                go_wp2_with fail
                go_roundw
                case rel => first | exact ⟨ys.drop L, _, f, HFN.out, by show _ ∧ _; exact ⟨by simpa using HIV.out, HIN.out⟩, HO5.out⟩ | ((repeat apply Exists.intro); exact ⟨⟨ys.drop L, _, f, HFN.out, by show _ ∧ _; exact ⟨by simpa using HIV.out, HIN.out⟩, HO5.out⟩, rfl⟩)
                case measure => simp [vlen] <;> omega
              · have hlc : i < cl := by omega
                have HIV : Hid (IsInts .u8 w (.slice (some ⟨g, off + i, none⟩) (L - i) (cl - i)) (ys.drop i)) := HIS.out.drop8 (by rw [HLL.out]; omega) hlc
                clear HIS HCL HPK2 HIL HIM HIR HO2
                go_wp2_with fail
                go_roundw
                case rel => first | exact ⟨ys.drop i, _, f, HFN.out, ⟨HIV.out, HIN.out⟩, HO5.out⟩ | ((repeat apply Exists.intro); exact ⟨⟨ys.drop i, _, f, HFN.out, ⟨HIV.out, HIN.out⟩, HO5.out⟩, rfl⟩)
                case measure => simp [vlen] <;> omega
            · have hN1 : decide (1 < i) = false := decide_eq_false hi1g
              have hN2 : decide ((1 : Int) < (i : Int)) = false := decide_eq_false (by omega)
              have HPK2 : Hid (packM (f + 1) ys = [c] ++ packM f (ys.drop i)) := by show _ = _; rw [HPK.out, if_neg hi1g]
              clear HPK
              go_wp2_with fail
              go_quiet (fail)
              go_wp2_with (at_builtin; go_loud (refine wpList_pushL rfl _ _ 22 5 .u8 1 Try.underlying22 infoByte (by decide) rfl w.heap.size (.slice po A co) acc A HA.out rfl ?hown_5 wr.heap.size [c] 1 rfl rfl ?hc_5 ?hl_5 ?hbase_5 ?hk_5))
              case hown_5 => exact Kp.row (S := []) (by (repeat (first | exact Kp.refl _ _ | assumption | refine Kp.drew ?_ | refine Kp.drewN ?_ _ | refine Kp.alloc ?_ _ | (refine Kp.setCell ?_ (by first | (left; simp; done) | (right; simp; try omega)) _) | (refine Kp.trans' ?_ (by assumption) (by simp; try omega))))) HO2.out.1 (by simp)
              try case hc_5 => exact litI (w := wr.drewN _) (k := .u8) (zs := [c]) (Kp.refl _ _)
              case hl_5 => omega
              case hbase_5 => have := HO2.out.2.size; simp; omega
              case hk_5 =>
              intro v5 w5 hown5 hk5 hk6
              have HO5 : Hid (w5.ownsRow w.heap.size 5 1 v5 (acc ++ [c]).length ((acc ++ [c]).map (Value.int .u8)) ∧ Kp [] w w5) := by
                show _ ∧ _
                refine ⟨by rw [List.length_append, HA.out, List.map_append]; exact hown5, hk5 [] w ?_ (Nat.le_refl _)⟩
                exact HO2.out.2.trans (by (repeat (first | exact Kp.refl _ _ | assumption | refine Kp.drew ?_ | refine Kp.drewN ?_ _ | refine Kp.alloc ?_ _ | (refine Kp.setCell ?_ (by first | (left; simp; done) | (right; simp; try omega)) _) | (refine Kp.trans' ?_ (by assumption) (by simp; try omega)))))
              clear hown5 hk5 hk6
              have HFN : Hid ((ys.drop i).length ≤ f) := by show _ ≤ _; rw [List.length_drop, HLL.out]; omega
              have HIN : Hid ((∀ x ∈ ys.drop i, 0 ≤ x ∧ x ≤ 255) ∧ (acc ++ [c]) ++ packM f (ys.drop i) = R ∧ (acc ++ [c]).length + (ys.drop i).length ≤ 8192) := by
                refine ⟨fun x hx => HIM.out x (List.mem_of_mem_drop hx), by rw [List.append_assoc, ← HPK2.out]; exact HIR.out, ?_⟩
                rw [List.length_append, List.length_drop, HA.out, HLL.out]
                simp only [List.length_cons, List.length_nil]
                omega
              by_cases hce : cl = i
              · have HIV : Hid (IsInts .u8 w (.slice (some ⟨g, off, none⟩) 0 0) (ys.drop i)) := by
                  rw [List.drop_eq_nil_of_le (by rw [HLL.out]; omega)]
                  exact .inl ⟨⟨_, rfl⟩, rfl⟩
                have hLi : L = i := by omega
                have HVL : Hid (i ≤ L) := hr1
                subst hce
                subst hLi
                clear HIS HCL HPK2 HIL HIM HIR HO2
                go_wp2_with fail
                go_roundw
                case rel => first | exact ⟨ys.drop L, _, f, HFN.out, by show _ ∧ _; exact ⟨by simpa using HIV.out, HIN.out⟩, HO5.out⟩ | ((repeat apply Exists.intro); exact ⟨⟨ys.drop L, _, f, HFN.out, by show _ ∧ _; exact ⟨by simpa using HIV.out, HIN.out⟩, HO5.out⟩, rfl⟩)
                case measure => simp [vlen] <;> omega
              · have hlc : i < cl := by omega
                have HIV : Hid (IsInts .u8 w (.slice (some ⟨g, off + i, none⟩) (L - i) (cl - i)) (ys.drop i)) := HIS.out.drop8 (by rw [HLL.out]; omega) hlc
                clear HIS HCL HPK2 HIL HIM HIR HO2
                go_wp2_with fail
                go_roundw
                case rel => first | exact ⟨ys.drop i, _, f, HFN.out, ⟨HIV.out, HIN.out⟩, HO5.out⟩ | ((repeat apply Exists.intro); exact ⟨⟨ys.drop i, _, f, HFN.out, ⟨HIV.out, HIN.out⟩, HO5.out⟩, rfl⟩)
                case measure => simp [vlen] <;> omega
            · have hN1 : decide (1 < i) = false := decide_eq_false hi1g
              have hN2 : decide ((1 : Int) < (i : Int)) = false := decide_eq_false (by omega)
              have HPK2 : Hid (packM (f + 1) ys = [c] ++ packM f (ys.drop i)) := by show _ = _; rw [HPK.out, if_neg hi1g]
              clear HPK
              go_wp2_with fail
              go_quiet (fail)
              go_wp2_with (at_builtin; go_loud (refine wpList_pushL rfl _ _ 22 5 .u8 1 Try.underlying22 infoByte (by decide) rfl w.heap.size (.slice po A co) acc A HA.out rfl ?hown_6 wr.heap.size [c] 1 rfl rfl ?hc_6 ?hl_6 ?hbase_6 ?hk_6))
              case hown_6 => exact Kp.row (S := []) (by (repeat (first | exact Kp.refl _ _ | assumption | refine Kp.drew ?_ | refine Kp.drewN ?_ _ | refine Kp.alloc ?_ _ | (refine Kp.setCell ?_ (by first | (left; simp; done) | (right; simp; try omega)) _) | (refine Kp.trans' ?_ (by assumption) (by simp; try omega))))) HO2.out.1 (by simp)
              try case hc_6 => exact litI (w := wr.drewN _) (k := .u8) (zs := [c]) (Kp.refl _ _)
              case hl_6 => omega
              case hbase_6 => have := HO2.out.2.size; simp; omega
              case hk_6 =>
              intro v5 w5 hown5 hk5 hk6
              have HO5 : Hid (w5.ownsRow w.heap.size 5 1 v5 (acc ++ [c]).length ((acc ++ [c]).map (Value.int .u8)) ∧ Kp [] w w5) := by
                show _ ∧ _
                refine ⟨by rw [List.length_append, HA.out, List.map_append]; exact hown5, hk5 [] w ?_ (Nat.le_refl _)⟩
                exact HO2.out.2.trans (by (repeat (first | exact Kp.refl _ _ | assumption | refine Kp.drew ?_ | refine Kp.drewN ?_ _ | refine Kp.alloc ?_ _ | (refine Kp.setCell ?_ (by first | (left; simp; done) | (right; simp; try omega)) _) | (refine Kp.trans' ?_ (by assumption) (by simp; try omega)))))
              clear hown5 hk5 hk6
              have HFN : Hid ((ys.drop i).length ≤ f) := by show _ ≤ _; rw [List.length_drop, HLL.out]; omega
              have HIN : Hid ((∀ x ∈ ys.drop i, 0 ≤ x ∧ x ≤ 255) ∧ (acc ++ [c]) ++ packM f (ys.drop i) = R ∧ (acc ++ [c]).length + (ys.drop i).length ≤ 8192) := by
                refine ⟨fun x hx => HIM.out x (List.mem_of_mem_drop hx), by rw [List.append_assoc, ← HPK2.out]; exact HIR.out, ?_⟩
                rw [List.length_append, List.length_drop, HA.out, HLL.out]
                simp only [List.length_cons, List.length_nil]
                omega
              by_cases hce : cl = i
              · have HIV : Hid (IsInts .u8 w (.slice (some ⟨g, off, none⟩) 0 0) (ys.drop i)) := by
                  rw [List.drop_eq_nil_of_le (by rw [HLL.out]; omega)]
                  exact .inl ⟨⟨_, rfl⟩, rfl⟩
                have hLi : L = i := by omega
                have HVL : Hid (i ≤ L) := hr1
                subst hce
                subst hLi
                clear HIS HCL HPK2 HIL HIM HIR HO2
                go_wp2_with fail
                go_roundw
                case rel => first | exact ⟨ys.drop L, _, f, HFN.out, by show _ ∧ _; exact ⟨by simpa using HIV.out, HIN.out⟩, HO5.out⟩ | ((repeat apply Exists.intro); exact ⟨⟨ys.drop L, _, f, HFN.out, by show _ ∧ _; exact ⟨by simpa using HIV.out, HIN.out⟩, HO5.out⟩, rfl⟩)
                case measure => simp [vlen] <;> omega
              · have hlc : i < cl := by omega
                have HIV : Hid (IsInts .u8 w (.slice (some ⟨g, off + i, none⟩) (L - i) (cl - i)) (ys.drop i)) := HIS.out.drop8 (by rw [HLL.out]; omega) hlc
                clear HIS HCL HPK2 HIL HIM HIR HO2
                go_wp2_with fail
                go_roundw
                case rel => first | exact ⟨ys.drop i, _, f, HFN.out, ⟨HIV.out, HIN.out⟩, HO5.out⟩ | ((repeat apply Exists.intro); exact ⟨⟨ys.drop i, _, f, HFN.out, ⟨HIV.out, HIN.out⟩, HO5.out⟩, rfl⟩)
                case measure => simp [vlen] <;> omega
end Go.Proofs.Ytodjohoonbkklaa

/- glyf: the law's Table: glyphs' bytes, one behind the other. -/
import Derived.Test.YtafkhnlmipddmaaGreatGlH
import Derived.Test.YtafkhnlmipddmaaGreatSmC
import Derived.BigQuiet
import Derived.Deep.DeepCutAuto
namespace Go.Proofs.YtafkhnlmipddmaaGreat
open Go.RowKit
set_option linter.unusedVariables false
set_option linter.unusedSimpArgs false
/-- Glyphs' bytes, as they are read. -/
def IsBs (w : World) (v : Value) (o : List (List Int)) : Prop :=
  ∃ vs : List Value, Reads 1 w v o.length vs ∧ ∀ i, i < o.length → IsInts .u8 w (vs.getD i (.slice none 0 0)) (o.getD i [])
theorem IsBs.kp0 {w w' : World} {v : Value} {o : List (List Int)} (h : IsBs w v o) (hk : Kp [] w w') : IsBs w' v o := by
  obtain ⟨vs, h1, h2⟩ := h
  exact ⟨vs, Reads.kp h1 hk (by simp), fun i hi => (h2 i hi).kp hk (by simp)⟩
theorem IsBs.nil (w : World) (a : Option Addr) : IsBs w (.slice a 0 0) [] := ⟨[], ⟨rfl, .inl ⟨⟨a, rfl⟩, rfl⟩⟩, fun i hi => by simp at hi⟩
theorem IsBs.form {w : World} {v : Value} {o : List (List Int)} (h : IsBs w v o) : ∃ p c, v = .slice p o.length c := by
  obtain ⟨vs, h1, _⟩ := h
  rcases h1.2 with ⟨⟨ad, rfl⟩, h0⟩ | ⟨g, off, c, rfl, _⟩
  · exact ⟨_, _, by rw [h0]⟩
  · exact ⟨_, _, rfl⟩
theorem IsBs.row {w : World} {v : Value} {o : List (List Int)} (h : IsBs w v o) {i : Nat} (hi : i < o.length) : ∃ g off c p cv, v = .slice (some ⟨g, off, none⟩) o.length c ∧ o.length ≤ c ∧ c ≤ maxLen ∧ w.cell? ⟨g, off + i, none⟩ = some (.slice p (o.getD i []).length cv) ∧ IsInts .u8 w (.slice p (o.getD i []).length cv) (o.getD i []) := by
  obtain ⟨vs, h1, h2⟩ := h
  have hp := h2 i hi
  obtain ⟨p, cv, hv⟩ := ints_formB hp
  rcases h1.2 with ⟨⟨ad, rfl⟩, h0⟩ | ⟨g, off, c, rfl, h3, h4, h5⟩
  · omega
  · refine ⟨g, off, c, p, cv, rfl, h3, h4, ?_, by rw [← hv]; exact hp⟩
    have hl : i < vs.length := by have := h1.1; omega
    have := h5 i _ (List.getElem?_eq_getElem hl)
    rw [this, ← hv, List.getD_eq_getElem?_getD, List.getElem?_eq_getElem hl]; rfl
def sumL (o : List (List Int)) (j : Nat) : Nat := ((o.take j).flatten).length
def offsL (o : List (List Int)) (n : Nat) : List Int := (List.range (n + 1)).map fun j => (sumL o j : Int)
theorem offsL_len (o : List (List Int)) (n : Nat) : (offsL o n).length = n + 1 := by simp [offsL]
theorem offsL_at (o : List (List Int)) (n i : Nat) (h : i ≤ n) : (offsL o n).getD i 0 = sumL o i := by
  unfold offsL
  rw [List.getD_eq_getElem?_getD, List.getElem?_map, List.getElem?_range (by omega)]; rfl
theorem offsL_succ (o : List (List Int)) (n : Nat) : offsL o (n + 1) = offsL o n ++ [(sumL o (n + 1) : Int)] := by
  unfold offsL; rw [List.range_succ, List.map_append]; rfl
theorem flat_step (o : List (List Int)) {j : Nat} (h : j < o.length) : (o.take (j + 1)).flatten = (o.take j).flatten ++ o.getD j [] := by
  rw [List.take_succ_eq_append_getElem h, List.flatten_append, List.getD_eq_getElem?_getD, List.getElem?_eq_getElem h]; simp
theorem sumL_succ (o : List (List Int)) {j : Nat} (h : j < o.length) : sumL o (j + 1) = sumL o j + (o.getD j []).length := by
  unfold sumL; rw [flat_step o h, List.length_append]
theorem sumL_le (o : List (List Int)) : ∀ d j, sumL o j ≤ sumL o (j + d) := by
  intro d
  induction d with
  | zero => intro j; exact Nat.le_refl _
  | succ d ih =>
    intro j
    by_cases h : j + d < o.length
    · have := ih j
      rw [← Nat.add_assoc, sumL_succ o h]; omega
    · have e : sumL o (j + (d + 1)) = sumL o (j + d) := by
        unfold sumL; rw [List.take_of_length_le (by omega), List.take_of_length_le (by omega)]
      rw [e]; exact ih j
theorem sumL_all (o : List (List Int)) : sumL o o.length = o.flatten.length := by unfold sumL; rw [List.take_length]
theorem gB_is (o : List (List Int)) (g : Nat) (hg : g < o.length) : gB o.flatten (offsL o o.length) g = o.getD g [] := by
  unfold gB
  rw [offsL_at o _ g (by omega), offsL_at o _ (g + 1) (by omega), Int.toNat_natCast, Int.toNat_natCast, sumL_succ o hg, Nat.add_sub_cancel_left]
  have e : o.flatten = (o.take g).flatten ++ (o.getD g [] ++ (o.drop (g + 1)).flatten) := by
    rw [← List.append_assoc, ← flat_step o hg, ← List.flatten_append, List.take_append_drop]
  have hs : sumL o g = (o.take g).flatten.length := rfl
  rw [e, hs, List.drop_left, List.take_left]
def okO (o : List (List Int)) : Prop := (1 ≤ o.length ∧ o.length ≤ 65535) ∧ o.flatten.length ≤ 1048576 ∧ o.flatten ≠ [] ∧ ∀ i, i < o.length → ∀ c ∈ o.getD i [], 0 ≤ c ∧ c ≤ 255
theorem okO_T {o : List (List Int)} (h : okO o) : okTb o.flatten (offsL o o.length) := by
  obtain ⟨h1, h2, h3, h4⟩ := h
  refine ⟨⟨by rw [offsL_len]; omega, by rw [offsL_len]; omega, h3⟩, fun i hi => ?_, fun i hi => ?_, h2, fun c hc => ?_⟩
  · rw [offsL_len] at hi
    rw [offsL_at o _ i (by omega)]
    obtain ⟨d, hd⟩ : ∃ d, o.length = i + d := ⟨o.length - i, by omega⟩
    have h5 := sumL_le o d i
    rw [← hd, sumL_all] at h5
    omega
  · rw [offsL_len] at hi
    rw [offsL_at o _ i (by omega), offsL_at o _ (i + 1) (by omega)]
    have := sumL_le o 1 i
    omega
  · obtain ⟨l, hl, hcl⟩ := List.mem_flatten.1 hc
    obtain ⟨i, hi, rfl⟩ := List.mem_iff_getElem.1 hl
    have := h4 i hi c
    rw [List.getD_eq_getElem?_getD, List.getElem?_eq_getElem hi] at this
    exact this hcl
theorem okO_may {o : List (List Int)} (h : okO o) : mayPl (offsL o o.length) true = true := by
  have hT := okO_T h
  obtain ⟨⟨h1, h2, _⟩, h3, h4, h5, _⟩ := hT
  unfold mayPl
  rw [decide_eq_true h1, decide_eq_true h2, srt_true _ h4]
  simp only [Bool.true_and, List.all_eq_true]
  intro x hx
  obtain ⟨i, hi, rfl⟩ := List.mem_iff_getElem.1 hx
  have := h3 i hi
  rw [List.getD_eq_getElem?_getD, List.getElem?_eq_getElem hi] at this
  have h6 : (0 : Int) ≤ (offsL o o.length)[i] ∧ (offsL o o.length)[i] ≤ o.flatten.length := this
  unfold okPl
  simp only [Bool.and_eq_true, decide_eq_true_eq, Bool.true_or, and_true]
  omega
theorem own_ne {W : World} {base1 base2 : Nat} {e1 e2 : TypeId} {s1 s2 n1 n2 : Nat} {v1 v2 : Value} {x1 x2 : List Value} (h1 : W.ownsRow base1 e1 s1 v1 n1 x1) (h2 : W.ownsRow base2 e2 s2 v2 n2 x2) (hne : e1 ≠ e2) : ∀ k, v1.ownBlock = some k → v2.ownBlock ≠ some k := by
  intro k hk hk2
  rcases h1.2 with ⟨rfl, _⟩ | ⟨g, cap, cur, rfl, _, hg, _⟩
  · simp [Value.ownBlock] at hk
  · rcases h2.2 with ⟨rfl, _⟩ | ⟨g', cap', cur', rfl, _, hg', _⟩
    · simp [Value.ownBlock] at hk2
    · simp [Value.ownBlock] at hk hk2
      subst hk
      subst hk2
      rw [hg] at hg'
      simp at hg'
      exact hne hg'.2
set_option maxRecDepth 100000 in
set_option maxHeartbeats 8000000 in
theorem gtable_calls (v : Value) (o : List (List Int)) (w : World) (hv : IsBs w v o) (ok : okO o) :
    Calls Tryz.prog 12 #[v] w fun e w' => ∃ T, e = .returned (.pointer (some ⟨T, 0, none⟩)) ∧ TbAt w' w'.heap.size T o.flatten (offsL o o.length) ∧ Kp [] w w' := by
  have hT := okO_T ok
  have hM := okO_may ok
  have HOK := Lib.hid hT
  have HMY := Lib.hid (fun v2 W (h : IsInts .i64 W v2 (offsL o o.length)) => rmaypl_calls v2 (offsL o o.length) true W h)
  rw [hM] at HMY
  have HPU := Lib.hid (fun v2 W (h : IsInts .i64 W v2 (offsL o o.length)) (h2 : ∀ b, blockOf v2 = some b → b < W.heap.size) => rputpl_calls v2 (offsL o o.length) true W hM h h2)
  have hpb := plPre_bytes (offsL o o.length) true (offsL o o.length).length
  have hlo := pl_put (offsL o o.length) true [] hM
  have hpl : plPre (offsL o o.length) true (offsL o o.length).length ≠ [] := by
    intro e
    have := plPre_len (offsL o o.length) true (offsL o o.length).length
    rw [e, offsL_len] at this
    simp at this
  rw [List.append_nil, offsL_len, Nat.add_sub_cancel, offsL_at o _ _ (Nat.le_refl _), sumL_all, ← offsL_len o o.length] at hlo
  obtain ⟨h1, h2, h3, h4⟩ := ok
  have HLO := Lib.hid (fun v2 W (h : IsInts .u8 W v2 (plPre (offsL o o.length) true (offsL o o.length).length)) => plload_calls v2 _ o.length true o.flatten.length h1.1 h1.2 (by omega) (by omega) W h hpb (intsG_lt h hpl))
  rw [hlo] at HLO
  have HNW := Lib.hid (fun vb q W (h1 : IsInts .u8 W vb o.flatten) (h2 : IsPl W q (offsL o o.length)) => gnew_calls vb q o.flatten (offsL o o.length) W h1 h2 hT)
  have HV := Lib.hid (fun W (hk : Kp [] w W) => hv.kp0 hk)
  have HSU : Hid (∀ j, j ≤ o.length → sumL o j ≤ 1048576) := fun j hj => by
    obtain ⟨d, hd⟩ : ∃ d, o.length = j + d := ⟨o.length - j, by omega⟩
    have h5 := sumL_le o d j
    rw [← hd, sumL_all] at h5
    omega
  have HSS : Hid (∀ j, j < o.length → sumL o (j + 1) = sumL o j + (o.getD j []).length ∧ (o.take (j + 1)).flatten = (o.take j).flatten ++ o.getD j [] ∧ offsL o (j + 1) = offsL o j ++ [(sumL o (j + 1) : Int)]) := fun j hj => ⟨sumL_succ o hj, flat_step o hj, offsL_succ o j⟩
  have HSL : Hid (∀ j, (o.take j).flatten.length = sumL o j) := fun j => rfl
  have HTF : Hid (o.take o.length = o) := List.take_length
  have HSA := Lib.hid (sumL_all o)
  obtain ⟨pa, ca, rfl⟩ := hv.form
  obtain ⟨N, hN⟩ : ∃ N, o.length = N := ⟨_, rfl⟩
  have HN := Lib.hid hN
  rw [hN] at HMY HPU HLO HNW HV HSU HSS HTF HSA h1 ⊢
  clear hT hM hpb hlo hpl h2 h3 h4 hv hN HOK
  go_enter Tryz.func12, Tryz.ntmps12
  go_wp2_with fail
  refine wp_gen ?_; intro W0 hW0
  have hk0 : Kp [] w W0 := by rw [hW0]; (repeat (first | exact Kp.refl _ _ | assumption | refine Kp.drew ?_ | refine Kp.drewN ?_ _ | refine Kp.alloc ?_ _ | (refine Kp.setCell ?_ (by first | (left; simp; done) | (right; simp; try omega)) _) | (refine Kp.trans' ?_ (by assumption) (by simp; try omega))))
  have HO0 : Hid (W0.ownsRow w.heap.size 3 1 (.slice (some ⟨w.heap.size, 0, none⟩) 1 1) 1 ((offsL o 0).map (Value.int .i64))) := by
    show World.ownsRow _ _ _ _ _ _ _
    rw [hW0]
    exact own_lit w _ _ 3 1 1 #[.int .i64 0] rfl (Nat.le_refl _) (by decide) rfl
  have HK0 := Lib.hid hk0
  clear hW0 hk0
  go_loopw [3, 4, 5] (fun b f i wr => ∃ (j : Nat) (vb vf : Value), j ≤ N ∧ i = .int .i64 j ∧ vb = b ∧ vf = f ∧ Hid (wr.ownsRow w.heap.size 5 1 vb (sumL o j) ((o.take j).flatten.map (Value.int .u8)) ∧ wr.ownsRow w.heap.size 3 1 vf (j + 1) ((offsL o j).map (Value.int .i64)) ∧ Kp [] w wr)) (fun _ _ i _ => N - (intOf i).toNat)
  case atStart => exact ⟨0, _, _, by omega, rfl, rfl, rfl, World.ownsRow_nil _ _ _ _, HO0.out, HK0.out⟩
  case round =>
    obtain ⟨j, vb, vf, hj, rfl, rfl, rfl, HJ⟩ := hrel
    by_cases hlt : j < N
    · have hjo : j < o.length := by rw [HN.out]; exact hlt
      obtain ⟨g1, o1, c1, p1, cv, e1, _, _, hc1, hi1⟩ := (HV.out _ HJ.out.2.2).row hjo
      rw [HN.out] at e1
      cases e1
      have HSJ := Lib.hid (HSS.out j hlt)
      have hS1 := HSU.out (j + 1) (by omega)
      have HI := Lib.hid hi1
      have HSLJ := Lib.hid (HSL.out j)
      have hs0 := HSJ.out.1
      rw [hs0] at hS1
      have hrb := HJ.out.1
      have hrf := HJ.out.2.1
      obtain ⟨pb, qb, rfl⟩ := slice_own hrb
      obtain ⟨pf, qf, rfl⟩ := slice_own hrf
      have HRB := Lib.hid hrb
      have HRF := Lib.hid hrf
      have HKJ := Lib.hid HJ.out.2.2
      have hsz : w.heap.size ≤ wr.heap.size := HKJ.out.size
      have HOL : Hid ((offsL o j).length = j + 1) := offsL_len o j
      generalize (o.take j).flatten = F at *
      generalize o.getD j [] = G at *
      generalize offsL o j = O at *
      generalize sumL o j = Sj at *
      obtain ⟨GL, hGL⟩ : ∃ L, G.length = L := ⟨_, rfl⟩
      have HGL := Lib.hid hGL
      rw [hGL] at hc1 hS1 hs0 HI
      clear hi1 hrb hrf HJ hjo hGL
      go_wp2_with (at_builtin; refine wpList_appM rfl _ _ 25 5 .u8 1 Tryz.underlying25 infoByte (by decide) rfl w.heap.size (.slice pb Sj qb) F Sj HSLJ.out rfl HRB.out (.slice p1 GL cv) G rfl HI.out ?hl1 hsz ?hk1)
      case hl1 => rw [HGL.out]; omega
      case hk1 =>
      intro v4 w4 hown4 hk4 hbl4
      rw [HGL.out] at hown4
      obtain ⟨p4, q4, rfl⟩ := slice_own hown4
      have HR4 := Lib.hid hown4
      have HF4 : Hid (w4.ownsRow w.heap.size 3 1 (.slice pf (j + 1) qf) (j + 1) (O.map (Value.int .i64))) := hk4.row HRF.out (fun s hs e => own_ne HRB.out HRF.out (by decide) s (by simpa using hs) e)
      have HK4 : Hid (Kp [] w w4) := HKJ.out.trans' hk4 (fun t ht => .inr (own_ge HRB.out t (by simpa using ht)))
      have hsz4 : w.heap.size ≤ w4.heap.size := HK4.out.size
      clear hown4 hk4 hbl4 HRB HRF HKJ hc1
      go_wp2_with (at_builtin; refine wpList_appM rfl _ _ 51 3 .i64 8 Tryz.underlying51 infoIntM (by decide) rfl w.heap.size (.slice pf (j + 1) qf) O (j + 1) HOL.out rfl ?hown (.slice (some ⟨w4.heap.size, 0, none⟩) 1 1) [(Sj : Int) + (GL : Int)] rfl ?hsrc ?hl2 ?hb2 ?hk2)
      case hown => exact Kp.row (S := []) (by (repeat (first | exact Kp.refl _ _ | assumption | refine Kp.drew ?_ | refine Kp.drewN ?_ _ | refine Kp.alloc ?_ _ | (refine Kp.setCell ?_ (by first | (left; simp; done) | (right; simp; try omega)) _) | (refine Kp.trans' ?_ (by assumption) (by simp; try omega))))) HF4.out (by simp)
      case hsrc => exact .inr ⟨w4.heap.size, 0, 1, rfl, by simp, by decide, fun i hi => by
        obtain rfl : i = 0 := by simpa using hi
        rw [cell_of_row _ w4.heap.size 0 _ _ (0, 0) (heap_alloc_new w4 _)]; rfl⟩
      case hl2 => simp; omega
      case hb2 => simp; omega
      case hk2 =>
      intro v6 w6 hown6 hk6 hbl6
      have hka : Kp [] w4 (w4.alloc (.cells #[.int .i64 ((Sj : Int) + (GL : Int))] 3)) := (Kp.refl _ _).alloc _
      obtain ⟨p6, q6, rfl⟩ := slice_own hown6
      have hra : (w4.alloc (.cells #[.int .i64 ((Sj : Int) + (GL : Int))] 3)).ownsRow w.heap.size 5 1 (.slice p4 (Sj + GL) q4) (Sj + GL) ((F ++ G).map (Value.int .u8)) := hka.row (by rw [List.map_append]; exact HR4.out) (by simp)
      have hfa : (w4.alloc (.cells #[.int .i64 ((Sj : Int) + (GL : Int))] 3)).ownsRow w.heap.size 3 1 (.slice pf (j + 1) qf) (j + 1) (O.map (Value.int .i64)) := hka.row HF4.out (by simp)
      have HST : Hid (w6.ownsRow w.heap.size 5 1 (.slice p4 (Sj + GL) q4) (sumL o (j + 1)) ((o.take (j + 1)).flatten.map (Value.int .u8)) ∧ w6.ownsRow w.heap.size 3 1 (.slice p6 (j + 1 + 1) q6) (j + 1 + 1) ((offsL o (j + 1)).map (Value.int .i64)) ∧ Kp [] w w6) := by
        refine ⟨?_, ?_, ?_⟩
        · rw [HSJ.out.1, HSJ.out.2.1, HGL.out]
          exact hk6.row hra (fun s hs e => own_ne hfa hra (by decide) s (by simpa using hs) e)
        · rw [HSJ.out.2.2, HSJ.out.1, HGL.out, show (((Sj + GL : Nat)) : Int) = (Sj : Int) + (GL : Int) by omega]
          simpa using hown6
        · exact (HK4.out.trans hka).trans' hk6 (fun t ht => .inr (own_ge hfa t (by simpa using ht)))
      clear hown6 hk6 hbl6 hka hra hfa HR4 HF4 HK4 HSJ
      go_wp2_with fail
      go_roundw
      case rel => first | exact ⟨j + 1, _, _, by omega, int_eq' (by omega), rfl, rfl, HST⟩ | ((repeat apply Exists.intro); exact ⟨⟨j + 1, _, _, by omega, int_eq' (by omega), rfl, rfl, HST⟩, rfl⟩)
      case measure => simp [intOf] <;> omega
    · obtain rfl : j = N := by omega
      have HRB := Lib.hid HJ.out.1
      rw [HTF.out, HSA.out] at HRB
      have HRF := Lib.hid HJ.out.2.1
      have HKJ := Lib.hid HJ.out.2.2
      obtain ⟨pb, qb, rfl⟩ : ∃ p q, vb = .slice p o.flatten.length q := slice_own HRB.out
      obtain ⟨pf, qf, rfl⟩ := slice_own HRF.out
      have HIB : Hid (IsInts .u8 wr (.slice pb o.flatten.length qb) o.flatten) := IsInts.owned HRB.out
      have HIF : Hid (IsInts .i64 wr (.slice pf (j + 1) qf) (offsL o j)) := IsInts.owned HRF.out
      have HBF : Hid (∀ b, blockOf (.slice pf (j + 1) qf) = some b → b < wr.heap.size) := fun b hb => (HRF.out.lt b (blockOf_own hb)).2
      have hfl : o.flatten.length ≤ 1048576 := by have := HSU.out j hj; rw [HSA.out] at this; exact this
      obtain ⟨F, hF⟩ : ∃ F, o.flatten = F := ⟨_, rfl⟩
      have HFE := Lib.hid hF
      obtain ⟨O, hO⟩ : ∃ O, offsL o j = O := ⟨_, rfl⟩
      have HOE := Lib.hid hO
      rw [hF] at HIB HLO HNW hfl ⊢
      rw [hO] at HIF HMY HPU HLO HNW
      clear hF hO
      generalize plPre O true O.length = PP at *
      obtain ⟨FL, hFL⟩ : ∃ L, F.length = L := ⟨_, rfl⟩
      rw [hFL] at HIB HLO hfl ⊢
      clear HJ HRB HRF HV HSS HSL HTF HSA HSU hFL
      go_wp2_with fail
      refine (HMY.out _ _ HIF.out).mono ?_; rintro e w1 ⟨rfl, hk1⟩
      have HIF1 : Hid (IsInts .i64 w1 (.slice pf (j + 1) qf) O) := HIF.out.kp hk1 (by simp)
      have HIB1 : Hid (IsInts .u8 w1 (.slice pb FL qb) F) := HIB.out.kp hk1 (by simp)
      have HB1 : Hid (∀ b, blockOf (.slice pf (j + 1) qf) = some b → b < w1.heap.size) := fun b hb => by have := HBF.out b hb; have := hk1.size; omega
      have HK1 : Hid (Kp [] w w1) := HKJ.out.trans hk1
      clear hk1 HIF HIB HBF HKJ HMY
      go_wp2_with fail
      refine (HPU.out _ _ HIF1.out HB1.out).mono ?_; rintro e w2 ⟨v2, rfl, hi2, hk2, _⟩
      obtain ⟨p2, c2, rfl⟩ := ints_formB hi2
      have HI2 := Lib.hid hi2
      have HIB2 : Hid (IsInts .u8 w2 (.slice pb FL qb) F) := HIB1.out.kp hk2 (by simp)
      have HK2 : Hid (Kp [] w w2) := HK1.out.trans hk2
      generalize PP.length = PL at *
      clear hi2 hk2 HIF1 HIB1 HB1 HK1 HPU
      go_wp2_with fail
      refine (HLO.out _ _ HI2.out).mono ?_
      rintro e w3 (⟨h, _⟩ | ⟨l3, q3, h, rfl, hp3, hk3⟩)
      · cases h
      · obtain rfl : l3 = O := by simpa using h.symm
        have HP3 := Lib.hid hp3
        have HIB3 : Hid (IsInts .u8 w3 (.slice pb FL qb) F) := HIB2.out.kp hk3 (by simp)
        have HK3 : Hid (Kp [] w w3) := HK2.out.trans hk3
        clear hp3 hk3 h HI2 HIB2 HK2 HLO
        go_wp2_with fail
        refine (HNW.out _ _ _ HIB3.out HP3.out).mono ?_; rintro e w4 ⟨T, rfl, ht4, hk4⟩
        have HT4 := Lib.hid ht4
        have HK4 : Hid (Kp [] w w4) := HK3.out.trans hk4
        clear ht4 hk4 HNW
        go_wp2_with fail
        go_ret
        rw [HFE.out, HOE.out]
        exact ⟨T, rfl, HT4.out, HK4.out⟩
end Go.Proofs.YtafkhnlmipddmaaGreat

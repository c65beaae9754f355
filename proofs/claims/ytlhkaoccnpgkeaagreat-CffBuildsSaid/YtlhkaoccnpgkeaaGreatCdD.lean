/- cff: may parts be built (the program's) · cff: Build: the table of parts (the program's). (Merged by wip/tools/mergetpl.py out of CbN, CbO.) -/
import Derived.Test.YtlhkaoccnpgkeaaGreatCdC
import Derived.Laws.CopyOwn
namespace Go.Proofs.YtlhkaoccnpgkeaaGreat
open Go.RowKit
set_option linter.unusedVariables false
set_option linter.unusedSimpArgs false
/-- Is it a width? -/
def widOk (x : Int) : Bool := decide (-32768 ≤ x) && decide (x ≤ 32767)
def famOk (f : Fam) : Bool := widOk f.d && widOk f.n
/-- May parts be built? (The names are looked at elsewhere.) -/
def mayC (p : CffP) : Bool :=
  decide (1 ≤ p.codes.length) && decide (p.codes.length ≤ 65535) && decide (1 ≤ p.fams.length) && decide (p.fams.length ≤ 256) && decide (p.names.length = p.codes.length) && decide (p.sel.length = 0 → p.fams.length ≤ 1) && decide (p.sel.length ≠ 0 → p.sel.length = p.codes.length) && p.sel.all (Ch.inB ((p.fams.length : Int) - 1)) && p.fams.all famOk
theorem isWidth_calls (x : Int) (w : World) : Calls Tryz.prog 54 #[.int .i64 x] w fun e w' => e = .returned (.bool (widOk x)) ∧ w = w' := by
  by_cases h1 : -32768 ≤ x
  · have d1 : decide (-32768 ≤ x) = true := decide_eq_true h1
    have e : Hid (widOk x = decide (x ≤ 32767)) := by show _ = _; unfold widOk; rw [d1]; rfl
    go_enter Tryz.func54, Tryz.ntmps54
    go_wp2
    go_ret
    exact ⟨by rw [e.out]; first | done | rfl | simp, rfl⟩
  · have d1 : decide (-32768 ≤ x) = false := decide_eq_false h1
    have e : Hid (widOk x = false) := by show _ = _; unfold widOk; rw [d1]; rfl
    go_enter Tryz.func54, Tryz.ntmps54
    go_wp2
    go_ret
    exact ⟨by rw [e.out]; first | done | rfl | simp, rfl⟩
theorem wide_calls (lv : Value) (o : List (List Int)) (f : Fam) (w : World) (hlv : IsBs w lv o) :
    Calls Tryz.prog 53 #[.agg #[lv, .int .i64 f.d, .int .i64 f.n]] w fun e w' => e = .returned (.bool (!famOk f)) ∧ Kp [] w w' := by
  obtain ⟨p, c, rfl⟩ := hlv.form
  have HI := Lib.hid (fun (W : World) (x : Int) => isWidth_calls x W)
  clear hlv
  cases h1 : widOk f.d
  · have e : Hid (famOk f = false) := by show _ = _; unfold famOk; rw [h1]; rfl
    have H1 := Lib.hid h1
    go_enter Tryz.func53, Tryz.ntmps53
    go_wp2_with fail
    refine (HI.out _ f.d).mono ?_; rintro e w1 ⟨rfl, rfl⟩
    rw [H1.out]
    go_wp2_with fail
    go_ret
    exact ⟨by rw [e.out]; rfl, (Kp.refl _ _).alloc _⟩
  · have e : Hid (famOk f = widOk f.n) := by show _ = _; unfold famOk; rw [h1]; simp
    have H1 := Lib.hid h1
    go_enter Tryz.func53, Tryz.ntmps53
    go_wp2_with fail
    refine (HI.out _ f.d).mono ?_; rintro e w1 ⟨rfl, rfl⟩
    rw [H1.out]
    go_wp2_with fail
    refine (HI.out _ f.n).mono ?_; rintro e w1 ⟨rfl, rfl⟩
    go_wp2_with fail
    go_ret
    exact ⟨by rw [e.out]; first | done | rfl | simp, (Kp.refl _ _).alloc _⟩
theorem wrong_calls19 (x : Int) (k b : Nat) (w : World) (h : w.cell? ⟨b, 0, none⟩ = some (.int .i64 (k : Nat))) :
    Calls Tryz.prog 52 #[.int .i64 x, .pointer (some ⟨b, 0, none⟩)] w fun e w' => e = .returned (.bool (!Ch.inB ((k : Int) - 1) x)) ∧ Kp [] w w' := by
  by_cases h1 : x < 0
  · have e : Hid (Ch.inB ((k : Int) - 1) x = false) := by unfold Hid Ch.inB; simp; omega
    go_enter Tryz.func52, Tryz.ntmps52
    go_wp2
    go_ret
    exact ⟨by rw [e.out]; simp, Kp.refl _ _⟩
  · have h2 : decide (x < 0) = false := by simpa using h1
    have e : Hid ((!Ch.inB ((k : Int) - 1) x) = decide ((k : Int) ≤ x)) := by unfold Hid Ch.inB; by_cases h3 : (k : Int) ≤ x <;> simp [h3] <;> omega
    go_enter Tryz.func52, Tryz.ntmps52
    go_wp2
    go_ret
    exact ⟨by rw [e.out]; first | done | rfl | simp, Kp.refl _ _⟩
/-- The first family that is so, counted from i; -1: there is none. -/
def posF (p : Fam → Bool) : List Fam → Nat → Int
  | [], _ => -1
  | a :: l, i => if p a then i else posF p l (i + 1)
theorem posF_hit (p : Fam → Bool) (xs : List Fam) (j : Nat) (h : j < xs.length) (he : p (xs.getD j fam0) = true) : posF p (xs.drop j) j = j := by
  rw [List.drop_eq_getElem_cons h]
  rw [List.getD_eq_getElem?_getD, List.getElem?_eq_getElem h] at he
  exact if_pos he
theorem posF_miss (p : Fam → Bool) (xs : List Fam) (j : Nat) (h : j < xs.length) (he : p (xs.getD j fam0) = false) : posF p (xs.drop j) j = posF p (xs.drop (j + 1)) (j + 1) := by
  rw [List.drop_eq_getElem_cons h]
  rw [List.getD_eq_getElem?_getD, List.getElem?_eq_getElem h] at he
  exact if_neg (by simpa using he)
theorem posF_any (p : Fam → Bool) : ∀ (l : List Fam) (i : Nat), decide (0 ≤ posF p l i) = l.any p := by
  intro l
  induction l with
  | nil => intro i; rfl
  | cons a l ih =>
    intro i
    unfold posF
    cases h : p a
    · simp [h, ih]
    · simp [h]
theorem IsFams.len {w : World} {v : Value} {fs : List Fam} (h : IsFams w v fs) : fs.length ≤ 9223372036854775807 := by
  rcases h with ⟨_, rfl⟩ | ⟨g, off, c, _, h1, h2, _⟩
  · simp
  · unfold maxLen at h2; omega
theorem indexFuncF_calls (v : Value) (fs : List Fam) (w : World) (hv : IsFams w v fs) :
    Calls Tryz.prog 98 #[v, .func (.func 53) #[] #[]] w fun e w' => e = .returned (.int .i64 (posF (fun f => !famOk f) fs 0)) ∧ Kp [] w w' := by
  have hle := hv.len
  have HV := Lib.hid (fun W (hk : Kp [] w W) => hv.kp0 hk)
  obtain ⟨p, c, rfl⟩ := hv.form
  have HT := Tryz.call53
  clear hv
  go_enter Tryz.func98, Tryz.ntmps98
  go_wp2_with fail
  go_loopw [8] (fun i wr => ∃ j : Nat, j ≤ fs.length ∧ i = .int .i64 j ∧ Hid (posF (fun f => !famOk f) (fs.drop j) j = posF (fun f => !famOk f) fs 0) ∧ Kp [] w wr) (fun i _ => fs.length - (intOf i).toNat)
  case atStart => exact ⟨0, by omega, rfl, by simp [Hid], Kp.refl _ _⟩
  case round =>
    obtain ⟨j, hj, rfl, hf, hk⟩ := hrel
    by_cases hlt : j < fs.length
    · obtain ⟨g, off, c2, e, h3, h4, h5⟩ : ∃ g off c2, (.slice p fs.length c : Value) = .slice (some ⟨g, off, none⟩) fs.length c2 ∧ fs.length ≤ c2 ∧ c2 ≤ maxLen ∧ ∃ lv, wr.cell? ⟨g, off + j * 3, none⟩ = some lv ∧ wr.cell? ⟨g, off + j * 3 + 1, none⟩ = some (.int .i64 (fs.getD j fam0).d) ∧ wr.cell? ⟨g, off + j * 3 + 2, none⟩ = some (.int .i64 (fs.getD j fam0).n) ∧ IsBs wr lv (fs.getD j fam0).l := by
        rcases HV.out wr hk with ⟨_, e⟩ | ⟨g, off, c2, e, h1, h2, h3⟩
        · exfalso; rw [e] at hlt; simp at hlt
        · obtain ⟨lv, a1, a2, a3, a4, _⟩ := h3 j hlt
          exact ⟨g, off, c2, e, h1, h2, lv, a1, a2, a3, a4⟩
      cases e
      obtain ⟨lv, a1, a2, a3, a4⟩ := h5
      have HA4 := Lib.hid a4
      obtain ⟨pl, cl, rfl⟩ := a4.form
      have hcl := Lib.hid (wide_calls _ _ (fs.getD j fam0) wr a4)
      have hmiss := Lib.hid (posF_miss (fun f => !famOk f) fs j hlt)
      have hhit := Lib.hid (posF_hit (fun f => !famOk f) fs j hlt)
      clear a4
      generalize fs.getD j fam0 = fm at *
      cases he : (!famOk fm)
      · have hr : Hid (posF (fun f => !famOk f) (fs.drop (j + 1)) (j + 1) = posF (fun f => !famOk f) fs 0) := by rw [← hf.out]; exact (hmiss.out he).symm
        rw [he] at hcl
        clear he hmiss hhit
        go_wp2_with fail
        refine Calls.mono hcl.out ?_; rintro e w2 ⟨rfl, hk2⟩
        go_wp2_with fail
        go_roundw
        case rel => exact ⟨j + 1, by omega, by go_num, hr, by (repeat (first | exact Kp.refl _ _ | assumption | refine Kp.drew ?_ | refine Kp.drewN ?_ _ | refine Kp.alloc ?_ _ | (refine Kp.setCell ?_ (by first | (left; simp; done) | (right; simp; try omega)) _) | (refine Kp.trans' ?_ (by assumption) (by simp; try omega))))⟩
        case measure => simp [intOf]; omega
      · have hr : Hid (posF (fun f => !famOk f) fs 0 = j) := by rw [← hf.out]; exact hhit.out he
        rw [he] at hcl
        clear he hmiss hhit
        go_wp2_with fail
        refine Calls.mono hcl.out ?_; rintro e w2 ⟨rfl, hk2⟩
        go_wp2_with fail
        go_ret
        exact ⟨by rw [hr.out]; simp, by (repeat (first | exact Kp.refl _ _ | assumption | refine Kp.drew ?_ | refine Kp.drewN ?_ _ | refine Kp.alloc ?_ _ | (refine Kp.setCell ?_ (by first | (left; simp; done) | (right; simp; try omega)) _) | (refine Kp.trans' ?_ (by assumption) (by simp; try omega))))⟩
    · obtain rfl : j = fs.length := by omega
      have hr : Hid (posF (fun f => !famOk f) fs 0 = -1) := by rw [← hf.out, List.drop_length]; rfl
      go_wp2
      go_ret
      exact ⟨by rw [hr.out]; simp, hk⟩
theorem containsFuncF_calls (v : Value) (fs : List Fam) (w : World) (hv : IsFams w v fs) :
    Calls Tryz.prog 56 #[v, .func (.func 53) #[] #[]] w fun e w' => e = .returned (.bool (fs.any fun f => !famOk f)) ∧ Kp [] w w' := by
  have hf := Lib.hid (indexFuncF_calls v fs w hv)
  have ha := Lib.hid (posF_any (fun f => !famOk f) fs 0)
  obtain ⟨p, c, rfl⟩ := hv.form
  clear hv
  go_enter Tryz.func56, Tryz.ntmps56
  go_wp2_with fail
  refine Calls.mono hf.out ?_; rintro e w1 ⟨rfl, hk⟩
  have hb := Lib.hid ha.out
  clear hf ha
  generalize posF (fun f => !famOk f) fs 0 = x at *
  go_wp2_with fail
  go_ret
  exact ⟨by rw [← hb.out]; first | done | rfl | simp, hk⟩
set_option maxRecDepth 100000 in
set_option maxHeartbeats 4000000 in
theorem mayBuild_calls (vc vg vf vs vn : Value) (p : CffP) (w : World) (hin : CffIn w vc vg vf vs vn p) :
    Calls Tryz.prog 19 #[.agg #[vc, vg, vf, vs, vn]] w fun e w' => e = .returned (.bool (mayC p)) ∧ Kp [] w w' := by
  have HIN := Lib.hid (fun W (hk : Kp [] w W) => hin.kp0 hk)
  have hkl := hin.fams.len
  obtain ⟨pc, cc, rfl⟩ := hin.codes.form
  obtain ⟨pg, cg, rfl⟩ := hin.glob.form
  obtain ⟨pf, cf, rfl⟩ := hin.fams.form
  obtain ⟨ps, cs, rfl⟩ := hin.sel.form
  obtain ⟨pn, cn, rfl⟩ := hin.names.form
  have HM : Hid (mayC p = (decide (1 ≤ p.codes.length) && decide (p.codes.length ≤ 65535) && decide (1 ≤ p.fams.length) && decide (p.fams.length ≤ 256) && decide (p.names.length = p.codes.length) && decide (p.sel.length = 0 → p.fams.length ≤ 1) && decide (p.sel.length ≠ 0 → p.sel.length = p.codes.length) && p.sel.all (Ch.inB ((p.fams.length : Int) - 1)) && p.fams.all famOk)) := rfl
  have HA1 : Hid ((!(p.sel.any fun x => !Ch.inB ((p.fams.length : Int) - 1) x)) = p.sel.all (Ch.inB ((p.fams.length : Int) - 1))) := by unfold Hid; rw [List.not_any_eq_all_not]; simp
  have HA2 : Hid ((!(p.fams.any fun f => !famOk f)) = p.fams.all famOk) := by unfold Hid; rw [List.not_any_eq_all_not]; simp
  have HCS := Lib.hid (fun (W : World) (b : Nat) (hW : Kp [] w W) (hb : W.cell? ⟨b, 0, none⟩ = some (.int .i64 (p.fams.length : Nat))) => Ch.containsFunc_calls 52 Tryz.call52 (.pointer (some ⟨b, 0, none⟩)) (fun x => !Ch.inB ((p.fams.length : Int) - 1) x) (.slice ps p.sel.length cs) p.sel W (hin.sel.kp hW (by simp)) (fun i hi wr hk => wrong_calls19 _ p.fams.length b wr (hk.cell hb (by simp))))
  have HCF := Lib.hid (fun (W : World) (hW : Kp [] w W) => containsFuncF_calls (.slice pf p.fams.length cf) p.fams W (hin.fams.kp0 hW))
  clear hin
  generalize mayC p = R at *
  generalize p.sel.all (Ch.inB ((p.fams.length : Int) - 1)) = X1 at *
  generalize p.fams.all famOk = X2 at *
  generalize (p.sel.any fun x => !Ch.inB ((p.fams.length : Int) - 1) x) = Y1 at *
  generalize (p.fams.any fun f => !famOk f) = Y2 at *
  go_enter Tryz.func19, Tryz.ntmps19
  go_upto_region 1 with fail
  go_cut [3, 4] (fun s3 s4 wx => ∃ b, s3 = .int .i64 (p.codes.length : Nat) ∧ s4 = .pointer (some ⟨b, 0, none⟩) ∧ Hid (Kp [] w wx) ∧ wx.cell? ⟨b, 0, none⟩ = some (.int .i64 (p.fams.length : Nat)) ∧ wx.heap[w.heap.size]? = some (.cells #[.slice pc p.codes.length cc, .slice pg p.glob.length cg, .slice pf p.fams.length cf, .slice ps p.sel.length cs, .slice pn p.names.length cn] 26 (0, 0)))
  case first =>
    refine wp_gen ?_; intro W0 hW0
    have hk0 : Kp [] w W0 := by rw [hW0]; exact (Kp.refl _ _).alloc _
    have hbx : W0.heap[w.heap.size]? = some (.cells #[.slice pc p.codes.length cc, .slice pg p.glob.length cg, .slice pf p.fams.length cf, .slice ps p.sel.length cs, .slice pn p.names.length cn] 26 (0, 0)) := by rw [hW0]; exact heap_alloc_new w _
    have HBX := Lib.hid (fun W (hk : Kp [] W0 W) => hk.heap hbx (by simp))
    have HKC : Hid (∀ w', Kp [] W0 w' → w'.cell? ⟨w.heap.size, 0, none⟩ = some (.slice pc p.codes.length cc) ∧ w'.cell? ⟨w.heap.size, 2, none⟩ = some (.slice pf p.fams.length cf)) := fun w' hk => ⟨by rw [cell_of_row w' _ 0 _ _ _ (HBX.out w' hk)]; rfl, by rw [cell_of_row w' _ 2 _ _ _ (HBX.out w' hk)]; rfl⟩
    have HK0 := Lib.hid hk0
    have c7 := HKC.out W0 (Kp.refl _ _)
    clear hW0 hk0 hbx
    go_region_held3 (fun w' => w'.cell? ⟨w.heap.size, 0, none⟩ = some (.slice pc p.codes.length cc) ∧ w'.cell? ⟨w.heap.size, 2, none⟩ = some (.slice pf p.fams.length cf)) (first | go_keep | (refine HKC.out _ ?_; ((repeat (first | exact Kp.refl _ _ | assumption | refine Kp.drew ?_ | refine Kp.drewN ?_ _ | refine Kp.alloc ?_ _)); (first | done | fail)))) (fail)
    all_goals
      go_wp2_with fail
      go_meet
      exact ⟨W0.heap.size, rfl, rfl, (HK0.out.alloc _).drew, (cell_of_row (W0.alloc _).drew W0.heap.size 0 _ _ (0, 0) (heap_alloc_new W0 _)).trans rfl, HBX.out _ (by ((repeat (first | exact Kp.refl _ _ | assumption | refine Kp.drew ?_ | refine Kp.drewN ?_ _ | refine Kp.alloc ?_ _)); (first | done | fail)))⟩
  case rest =>
    obtain ⟨b, rfl, rfl, HK, hck, hbx⟩ := hcut
    have c2 : wc.cell? ⟨w.heap.size, 2, none⟩ = some (.slice pf p.fams.length cf) := by rw [cell_of_row wc _ 2 _ _ _ hbx]; rfl
    have c3 : wc.cell? ⟨w.heap.size, 3, none⟩ = some (.slice ps p.sel.length cs) := by rw [cell_of_row wc _ 3 _ _ _ hbx]; rfl
    have c4 : wc.cell? ⟨w.heap.size, 4, none⟩ = some (.slice pn p.names.length cn) := by rw [cell_of_row wc _ 4 _ _ _ hbx]; rfl
    have HC1 := Lib.hid (HCS.out wc b HK.out hck)
    have HC2 := Lib.hid (fun (W : World) (hW : Kp [] wc W) => HCF.out W (HK.out.trans hW))
    clear hbx HCS HCF
    generalize p.codes.length = n at *
    generalize p.fams.length = k at *
    generalize p.names.length = nn at *
    generalize p.sel.length = ns at *
    have NO : Hid (n < 1 ∨ 65535 < n ∨ k < 1 ∨ 256 < k ∨ nn ≠ n ∨ (ns = 0 ∧ 1 < k) ∨ (ns ≠ 0 ∧ ns ≠ n) → R = false) := fun h => by
      rw [HM.out]
      simp only [Bool.and_eq_false_iff, decide_eq_false_iff_not]
      omega
    have YES : Hid (1 ≤ n → n ≤ 65535 → 1 ≤ k → k ≤ 256 → nn = n → (ns = 0 → k ≤ 1) → (ns ≠ 0 → ns = n) → R = (X1 && X2)) := fun h1 h2 h3 h4 h5 h6 h7 => by
      rw [HM.out, decide_eq_true h1, decide_eq_true h2, decide_eq_true h3, decide_eq_true h4, decide_eq_true h5, decide_eq_true h6, decide_eq_true h7]
      simp
    clear HM
    by_cases q1 : n < 1
    · have HR := Lib.hid (NO.out (.inl q1))
      go_wp2_with fail
      go_ret
      exact ⟨by rw [HR.out]; first | done | rfl | simp, HK.out⟩
    by_cases q2 : 65535 < n
    · have HR := Lib.hid (NO.out (.inr (.inl q2)))
      go_wp2_with fail
      go_ret
      exact ⟨by rw [HR.out]; first | done | rfl | simp, HK.out⟩
    by_cases q3 : k < 1
    · have HR := Lib.hid (NO.out (.inr (.inr (.inl q3))))
      go_wp2_with fail
      go_ret
      exact ⟨by rw [HR.out]; first | done | rfl | simp, HK.out⟩
    by_cases q4 : 256 < k
    · have HR := Lib.hid (NO.out (.inr (.inr (.inr (.inl q4)))))
      go_wp2_with fail
      go_ret
      exact ⟨by rw [HR.out]; first | done | rfl | simp, HK.out⟩
    by_cases q5 : nn ≠ n
    · have HR := Lib.hid (NO.out (.inr (.inr (.inr (.inr (.inl q5))))))
      have d5 : ((nn : Int) == (n : Int)) = false := by rw [beq_eq_false_iff_ne]; omega
      have d6 : ((nn : Int) != (n : Int)) = true := by rw [bne, d5]; rfl
      go_wp2_with fail
      go_ret
      exact ⟨by rw [HR.out]; first | done | rfl | simp, HK.out⟩
    obtain rfl : nn = n := by omega
    clear q5
    by_cases q6 : ns = 0
    · subst q6
      by_cases q7 : 1 < k
      · have HR := Lib.hid (NO.out (.inr (.inr (.inr (.inr (.inr (.inl ⟨rfl, q7⟩)))))))
        go_wp2_with fail
        go_ret
        exact ⟨by rw [HR.out]; first | done | rfl | simp, HK.out⟩
      · have HR := Lib.hid (YES.out (by omega) (by omega) (by omega) (by omega) rfl (fun _ => by omega) (fun h => absurd rfl h))
        go_wp2_with fail
        refine HC1.out.mono ?_; rintro e w2 ⟨rfl, hk2⟩
        have c2' : w2.cell? ⟨w.heap.size, 2, none⟩ = some (.slice pf k cf) := hk2.cell c2 (by simp)
        have HK2 := Lib.hid (HK.out.trans hk2)
        have HF := Lib.hid (HC2.out w2 hk2)
        clear hk2 HC1 HC2
        cases Y1 with
        | true =>
          have HX : Hid (R = false) := by show _ = _; rw [HR.out, ← HA1.out]; rfl
          go_wp2_with fail
          go_ret
          exact ⟨by rw [HX.out]; first | done | rfl | simp, HK2.out⟩
        | false =>
          have HX : Hid (R = !Y2) := by show _ = _; rw [HR.out, ← HA1.out, ← HA2.out]; simp
          go_wp2_with fail
          refine HF.out.mono ?_; rintro e w3 ⟨rfl, hk3⟩
          have HK3 := Lib.hid (HK2.out.trans hk3)
          clear hk3
          go_wp2_with fail
          go_ret
          exact ⟨by rw [HX.out]; first | done | rfl | simp, HK3.out⟩
    · by_cases q7 : ns = nn
      · subst q7
        have HR := Lib.hid (YES.out (by omega) (by omega) (by omega) (by omega) rfl (fun h => by omega) (fun _ => rfl))
        have d0 : decide (0 < ns) = true := decide_eq_true (by omega)
        have d1 : ((ns : Int) == 0) = false := by rw [beq_eq_false_iff_ne]; omega
        go_wp2_with fail
        refine HC1.out.mono ?_; rintro e w2 ⟨rfl, hk2⟩
        have c2' : w2.cell? ⟨w.heap.size, 2, none⟩ = some (.slice pf k cf) := hk2.cell c2 (by simp)
        have HK2 := Lib.hid (HK.out.trans hk2)
        have HF := Lib.hid (HC2.out w2 hk2)
        clear hk2 HC1 HC2
        cases Y1 with
        | true =>
          have HX : Hid (R = false) := by show _ = _; rw [HR.out, ← HA1.out]; rfl
          go_wp2_with fail
          go_ret
          exact ⟨by rw [HX.out]; first | done | rfl | simp, HK2.out⟩
        | false =>
          have HX : Hid (R = !Y2) := by show _ = _; rw [HR.out, ← HA1.out, ← HA2.out]; simp
          go_wp2_with fail
          refine HF.out.mono ?_; rintro e w3 ⟨rfl, hk3⟩
          have HK3 := Lib.hid (HK2.out.trans hk3)
          clear hk3
          go_wp2_with fail
          go_ret
          exact ⟨by rw [HX.out]; first | done | rfl | simp, HK3.out⟩
      · have HR := Lib.hid (NO.out (.inr (.inr (.inr (.inr (.inr (.inr ⟨q6, q7⟩)))))))
        have d0 : decide (0 < ns) = true := decide_eq_true (by omega)
        have d1 : ((ns : Int) == 0) = false := by rw [beq_eq_false_iff_ne]; omega
        have d5 : ((ns : Int) == (nn : Int)) = false := by rw [beq_eq_false_iff_ne]; omega
        have d6 : ((ns : Int) != (nn : Int)) = true := by rw [bne, d5]; rfl
        go_wp2_with fail
        go_ret
        exact ⟨by rw [HR.out]; first | done | rfl | simp, HK.out⟩
end Go.Proofs.YtlhkaoccnpgkeaaGreat
namespace Go.Proofs.YtlhkaoccnpgkeaaGreat
open Go.RowKit
set_option linter.unusedVariables false
set_option linter.unusedSimpArgs false
/-- How many bytes a top DICT has. -/
def sizeT (p : CffP) : Nat := if p.sel = [] then 23 else 43
/-- The table, with its top DICT in place. -/
def outF (p : CffP) : List Int := [1, 0, 4, 4] ++ oneB ++ (putM [topOf p (sizeT p)]).1 ++ (outU p (sizeT p)).drop (15 + sizeT p)
/-- The table of parts; what is wrong. -/
def buildC (p : CffP) : List Int × Int := if mayC p && Ch.mayPut p.names 0 then (if badB p (sizeT p) then ([], 3) else (outF p, 0)) else ([], 1)
theorem one_row (l : List Int) (h : l.length ≤ 200) : (putM [l]).2 = 0 ∧ (putM [l]).1.length = 5 + l.length := by
  have h1 := ixB_len [l]
  have h2 : szO [l] = 1 := by unfold szO widN; rw [if_pos (by simp; omega)]
  rw [h2] at h1
  simp only [List.length_singleton, List.flatten_cons, List.flatten_nil, List.append_nil] at h1
  have e : putM [l] = (ixB [l], 0) := by
    unfold putM
    rw [if_neg (by simp), if_neg (by simp), if_neg (by simp; omega), if_neg (by omega)]
  rw [e]
  exact ⟨rfl, by show (ixB _).length = _; omega⟩
theorem entB_len (acc : List Int) (f : Fam) : (entB acc f).length = 11 := by unfold entB; rw [sayB_length]; rfl
theorem topOf_len (p : CffP) (h1 : 1 ≤ p.fams.length) : (topOf p (sizeT p)).length = sizeT p := by
  unfold topOf sizeT
  split
  · have e : (dsJ p 23 p.fams.length).getD 0 [] = entB (accJ p 23 0) (p.fams.getD 0 fam0) := by
      unfold dsJ
      rw [List.getD_eq_getElem?_getD, List.getElem?_map, List.getElem?_range (by omega)]
      rfl
    rw [e]
    unfold topB
    simp only [List.length_append, sayB_length, entB_len]
    rfl
  · unfold topB
    simp only [List.length_append, sayB_length]
    rfl
theorem outU_head (p : CffP) (size : Nat) : ∃ r, outU p size = headB size ++ r := by
  have h0 : ∃ r, accC p size = headB size ++ r := ⟨(putM p.glob).1 ++ Ch.csPut p.names 0 ++ (putM p.codes).1, by unfold accC accN accG; simp [List.append_assoc]⟩
  obtain ⟨r, hr⟩ := h0
  unfold outU accS accJ
  rw [hr]
  split
  · exact ⟨_, List.append_assoc _ _ _⟩
  · exact ⟨r ++ (p.fams.take p.fams.length).flatMap (fun f => prvD f ++ prvL f) ++ selB p ++ (putM (dsJ p size p.fams.length)).1, by simp [List.append_assoc]⟩
/-- The copy puts the top DICT in its place. -/
theorem outF_is (p : CffP) (h1 : 1 ≤ p.fams.length) : outF p = (outU p (sizeT p)).take 10 ++ ((putM [topOf p (sizeT p)]).1 ++ (outU p (sizeT p)).drop (10 + (putM [topOf p (sizeT p)]).1.length)) ∧ (putM [topOf p (sizeT p)]).1.length = 5 + sizeT p ∧ (putM [topOf p (sizeT p)]).2 = 0 ∧ 15 + sizeT p ≤ (outU p (sizeT p)).length := by
  have hs : sizeT p ≤ 43 := by unfold sizeT; split <;> omega
  have hl := topOf_len p h1
  obtain ⟨a1, a2⟩ := one_row (topOf p (sizeT p)) (by omega)
  have b := (one_row (List.replicate (sizeT p) 0) (by simp; omega)).2
  rw [hl] at a2
  simp only [List.length_replicate] at b
  obtain ⟨r, hr⟩ := outU_head p (sizeT p)
  refine ⟨?_, a2, a1, ?_⟩
  · have e : (outU p (sizeT p)).take 10 = [1, 0, 4, 4] ++ oneB := by
      rw [hr]
      unfold headB
      rw [List.append_assoc, List.append_assoc]
      exact List.take_left (l₁ := [1, 0, 4, 4] ++ oneB)
    rw [e, a2, show 10 + (5 + sizeT p) = 15 + sizeT p by omega]
    unfold outF
    simp [List.append_assoc]
  · rw [hr]
    unfold headB zeroI
    simp only [List.length_append, b]
    simp [oneB]
    omega
theorem mayC_facts {p : CffP} (h : mayC p = true) : 1 ≤ p.fams.length ∧ p.fams.length ≤ 256 ∧ 1 ≤ p.codes.length ∧ p.codes.length ≤ 65535 ∧ p.names.length = p.codes.length ∧ (p.sel = [] → p.fams.length ≤ 1) ∧ (p.sel ≠ [] → Ch.maySel p.sel p.fams.length 3 = true) := by
  unfold mayC at h
  simp only [Bool.and_eq_true, decide_eq_true_eq] at h
  obtain ⟨⟨⟨⟨⟨⟨⟨⟨h1, h2⟩, h3⟩, h4⟩, h5⟩, h6⟩, h7⟩, h8⟩, h9⟩ := h
  refine ⟨h3, h4, h1, h2, h5, fun e => h6 (by rw [e]; rfl), fun e => ?_⟩
  have hne : p.sel.length ≠ 0 := fun h => e (List.length_eq_zero_iff.1 h)
  have := h7 hne
  unfold Ch.maySel
  simp only [Bool.and_eq_true, Bool.or_eq_true, beq_iff_eq, decide_eq_true_eq]
  exact ⟨⟨⟨⟨⟨by omega, by omega⟩, by omega⟩, by omega⟩, h8⟩, .inr trivial⟩
/-- A row with a piece of it written over. -/
theorem OwnB.over {w : World} {B g n cap off : Nat} {cur : Array Value} {acc zs : List Int} (h : OwnB w B (.slice (some ⟨g, 0, none⟩) n cap) acc) (hg : w.heap[g]? = some (.cells cur 5 (0, 0))) (hn : n = acc.length) (hfit : off + zs.length ≤ acc.length) :
    OwnB (w.setRow g (cur.toList.take off ++ (zs.map (Value.int .u8) ++ cur.toList.drop (off + zs.length))).toArray) B (.slice (some ⟨g, 0, none⟩) n cap) (acc.take off ++ (zs ++ acc.drop (off + zs.length))) := by
  subst hn
  rcases h.2 with ⟨h1, _⟩ | ⟨g2, cap2, cur2, e, h2, h3, h4, h5, h6, h7⟩
  · cases h1
  cases e
  rw [hg] at h3
  cases h3
  have hlen : (acc.take off ++ (zs ++ acc.drop (off + zs.length))).length = acc.length := by simp; omega
  have hl7 := h7
  rw [Nat.mul_one] at h6 hl7
  refine ⟨by rw [hlen]; simp; omega, .inr ⟨g, cap, _, by rw [hlen], h2, setRow_heap w g _ _ _ _ hg, by rw [hlen]; exact h4, h5, ?_, ?_⟩⟩
  · simp; omega
  · rw [hlen, Nat.mul_one]
    have hsp : cur.toList = acc.map (Value.int .u8) ++ cur.toList.drop acc.length := by rw [← hl7, List.take_append_drop]
    generalize cur.toList.drop acc.length = R at hsp
    have e1 : cur.toList.take off = (acc.map (Value.int .u8)).take off := by rw [hsp, List.take_append_of_le_length (by simp; omega)]
    have e2 : cur.toList.drop (off + zs.length) = (acc.map (Value.int .u8)).drop (off + zs.length) ++ R := by rw [hsp, List.drop_append_of_le_length (by simp; omega)]
    show List.take acc.length (cur.toList.take off ++ (zs.map (Value.int .u8) ++ cur.toList.drop (off + zs.length))) = _
    rw [e1, e2, List.map_append, List.map_append, List.map_take, List.map_drop]
    rw [← List.append_assoc, ← List.append_assoc]
    rw [List.append_assoc (List.take off _)]
    exact List.take_left' (by simp; omega)
theorem ints_at {w : World} {p : Option Addr} {n c : Nat} {zs : List Int} (h : IsInts .u8 w (.slice p n c) zs) (h0 : 0 < n) : zs.length = n ∧ ∃ g o, p = some ⟨g, o, none⟩ ∧ ∀ j u, (zs.map (Value.int .u8))[j]? = some u → w.cell? ((⟨g, o, none⟩ : Addr).add j) = some u := by
  rcases h with ⟨⟨a, e⟩, _⟩ | ⟨g, o, c, e, _, _, h4⟩
  · cases e; omega
  · cases e
    refine ⟨rfl, g, o, rfl, fun j u hu => ?_⟩
    rw [add_lit]
    rw [List.getElem?_map] at hu
    by_cases hj : j < zs.length
    · rw [List.getElem?_eq_getElem hj] at hu
      rw [h4 j hj, List.getD_eq_getElem?_getD, List.getElem?_eq_getElem hj]
      simpa using hu
    · rw [List.getElem?_eq_none (by omega)] at hu; simp at hu
section
variable {w : World} {ops : Array Oper} {rest : List Oper} {o : Oper} {a : Act} {Q : Exit → Act → World → Prop}
/-- 'copy(x.b[off:], b)'. -/
theorem Bld.copy (hgd : o.guard = none) (d s : Operand) (ho : o.op = .call { callee := .builtin .copy, args := #[d, s], argTypes := #[29, 29] })
    {x g n cap off : Nat} {acc : List Int} {f : Bool} (h : Bld w x (.slice (some ⟨g, 0, none⟩) n cap) acc f) (hn : acc.length = n) (sp : Option Addr) (m sc : Nat) (zs : List Int) (h1 : 0 < m)
    (hd : a.eval d = .slice (some ⟨g, off, none⟩) (n - off) (cap - off)) (hs : a.eval s = .slice sp m sc) (hsrc : IsInts .u8 w (.slice sp m sc) zs) (hfit : off + m ≤ n)
    (hk : ∀ w', Bld w' x (.slice (some ⟨g, 0, none⟩) n cap) (acc.take off ++ (zs ++ acc.drop (off + m))) f → Kp [g] w w' → x < g → wpList Tryz.prog ops Q rest (a.put o.dst (.int .i64 (m : Nat))) w') : wpList Tryz.prog ops Q (o :: rest) a w := by
  obtain ⟨hm, gs, os, rfl, hcs⟩ := ints_at hsrc h1
  subst hm
  subst hn
  obtain ⟨cur, h2, h3, h4, h6⟩ : ∃ cur, x + 1 ≤ g ∧ w.heap[g]? = some (.cells cur 5 (0, 0)) ∧ acc.length ≤ cap ∧ cur.size = cap := by
    rcases h.2.1.2 with ⟨e, _⟩ | ⟨g2, cap2, cur, a1, a2, a3, a4, a5, a6, a7⟩
    · cases e
    · cases a1
      exact ⟨cur, a2, a3, a4, by rw [a6, Nat.mul_one]⟩
  refine wpList_copy_own hgd d s 29 29 ho 5 Tryz.underlying29 (by kernel_rfl) g off (acc.length - off) (cap - off) ⟨gs, os, none⟩ zs.length sc hd hs cur 5 h3 (zs.map (Value.int .u8)) (by simp only [List.length_map]; show _ = min _ _; omega) hcs (by simp only [List.length_map]; omega) (oneCell_ints _ _) ?_
  have hov := h.2.1.over (off := off) (zs := zs) h3 rfl hfit
  have hkk : Kp [g] w (w.setRow g (cur.toList.take off ++ (zs.map (Value.int .u8) ++ cur.toList.drop (off + zs.length))).toArray) := ⟨rfl, rfl, rfl, by simp [World.setRow], fun k hk hk2 => setRow_other w g k _ (by simpa using hk2)⟩
  have q := hk _ ⟨hkk.heap h.1 (by simp; omega), hov, Nat.lt_of_lt_of_le h.2.2 hkk.size⟩ hkk (by omega)
  simpa [goInt] using q
end
set_option maxRecDepth 100000 in
set_option maxHeartbeats 8000000 in
theorem build_calls (vc vg vf vs vn : Value) (p : CffP) (w : World) (hin : CffIn w vc vg vf vs vn p) (hnl : p.names.length < 4611686018427387904) :
    Calls Tryz.prog 8 #[.agg #[vc, vg, vf, vs, vn]] w fun e w' => ∃ q c, e = .returned (.tuple #[.slice q (buildC p).1.length c, .int .i64 (buildC p).2]) ∧ IsInts .u8 w' (.slice q (buildC p).1.length c) (buildC p).1 ∧ Kp [] w w' ∧ ∀ b, blockOf (.slice q (buildC p).1.length c) = some b → w.heap.size ≤ b := by
  have HIN := Lib.hid (fun W (hk : Kp [] w W) => hin.kp0 hk)
  have HMB := Lib.hid (fun (W : World) (hk : Kp [] w W) => mayBuild_calls vc vg vf vs vn p W (hin.kp0 hk))
  have HNL := Lib.hid hnl
  obtain ⟨pc, cc, rfl⟩ := hin.codes.form
  obtain ⟨pg, cg, rfl⟩ := hin.glob.form
  obtain ⟨pf, cf, rfl⟩ := hin.fams.form
  obtain ⟨ps, cs, rfl⟩ := hin.sel.form
  obtain ⟨pn, cn, rfl⟩ := hin.names.form
  have HB1 : Hid (mayC p = false ∨ Ch.mayPut p.names 0 = false → buildC p = ([], 1)) := fun h => by
    unfold buildC
    rw [if_neg]
    rcases h with h | h <;> rw [h] <;> simp
  have HB2 : Hid (mayC p = true → Ch.mayPut p.names 0 = true → badB p (sizeT p) = true → buildC p = ([], 3)) := fun h h2 h3 => by
    unfold buildC; rw [if_pos (by rw [h, h2]; rfl), if_pos h3]
  have HB3 : Hid (mayC p = true → Ch.mayPut p.names 0 = true → badB p (sizeT p) = false → buildC p = (outF p, 0)) := fun h h2 h3 => by
    unfold buildC; rw [if_pos (by rw [h, h2]; rfl), if_neg (by rw [h3]; simp)]
  have kc := fun (w : World) (C : Array Value) (n c : Nat) => Lib.run_convert_bytes_const (P := Tryz.prog) w 29 5 C n c Tryz.underlying29 Tryz.underlying5
  have hk0 : Kp [] w (w.alloc (.cells #[.slice pc p.codes.length cc, .slice pg p.glob.length cg, .slice pf p.fams.length cf, .slice ps p.sel.length cs, .slice pn p.names.length cn] 26)) := (Kp.refl _ _).alloc _
  have hbx := heap_alloc_new w (.cells #[.slice pc p.codes.length cc, .slice pg p.glob.length cg, .slice pf p.fams.length cf, .slice ps p.sel.length cs, .slice pn p.names.length cn] 26)
  have HBX := Lib.hid hbx
  have HK0 := Lib.hid hk0
  have HM0 := Lib.hid (HMB.out _ hk0)
  have HC : Hid (∀ W, Kp [] (w.alloc (.cells #[.slice pc p.codes.length cc, .slice pg p.glob.length cg, .slice pf p.fams.length cf, .slice ps p.sel.length cs, .slice pn p.names.length cn] 26)) W → W.cell? ⟨w.heap.size, 0, none⟩ = some (.slice pc p.codes.length cc) ∧ W.cell? ⟨w.heap.size, 1, none⟩ = some (.slice pg p.glob.length cg) ∧ W.cell? ⟨w.heap.size, 2, none⟩ = some (.slice pf p.fams.length cf) ∧ W.cell? ⟨w.heap.size, 3, none⟩ = some (.slice ps p.sel.length cs) ∧ W.cell? ⟨w.heap.size, 4, none⟩ = some (.slice pn p.names.length cn)) := fun W hk => by
    have h := hk.heap HBX.out (by simp)
    exact ⟨by rw [cell_of_row W _ 0 _ _ _ h]; rfl, by rw [cell_of_row W _ 1 _ _ _ h]; rfl, by rw [cell_of_row W _ 2 _ _ _ h]; rfl, by rw [cell_of_row W _ 3 _ _ _ h]; rfl, by rw [cell_of_row W _ 4 _ _ _ h]; rfl⟩
  clear hin hbx hk0 hnl HMB
  cases hm : mayC p with
  | false =>
    have HX := Lib.hid (HB1.out (.inl hm))
    rw [hm] at HM0
    clear HB1 HB2 HB3 hm
    go_enter Tryz.func8, Tryz.ntmps8
    go_wp2_with fail
    refine HM0.out.mono ?_; rintro e w1 ⟨rfl, hk1⟩
    have HK1 := Lib.hid (HK0.out.trans hk1)
    clear hk1
    go_wp2_with fail
    go_ret2
    rw [HX.out]
    exact ⟨_, _, rfl, .inl ⟨⟨_, rfl⟩, rfl⟩, HK1.out, fun b hb => by simp [blockOf] at hb⟩
  | true =>
    rw [hm] at HM0
    have HMC := Lib.hid hm
    clear hm
    cases hn : Ch.mayPut p.names 0 with
    | false =>
      have HX := Lib.hid (HB1.out (.inr hn))
      have HN := Lib.hid hn
      clear HB1 HB2 HB3 hn
      go_enter Tryz.func8, Tryz.ntmps8
      go_wp2_with fail
      refine HM0.out.mono ?_; rintro e w1 ⟨rfl, hk1⟩
      have HK1 := Lib.hid (HK0.out.trans hk1)
      obtain ⟨c0, c1, c2, c3, c4⟩ := HC.out w1 hk1
      have HP := Lib.hid (Ch.put_no _ p.names 0 w1 HN.out (HIN.out w1 HK1.out).names HNL.out)
      clear hk1
      go_wp2_with fail
      refine HP.out.mono ?_; rintro e w2 ⟨rfl, hk2⟩
      have HK2 := Lib.hid (HK1.out.trans hk2)
      clear hk2
      go_wp2_with fail
      go_ret2
      rw [HX.out]
      exact ⟨_, _, rfl, .inl ⟨⟨_, rfl⟩, rfl⟩, HK2.out, fun b hb => by simp [blockOf] at hb⟩
    | true =>
      have HN := Lib.hid hn
      have HX2 := Lib.hid (HB2.out HMC.out hn)
      have HX3 := Lib.hid (HB3.out HMC.out hn)
      have HMF := Lib.hid (mayC_facts HMC.out)
      obtain ⟨FM, hFM⟩ : ∃ FM : List Int, FM = if p.sel = [] then sayB 18 [0, 0] else sayB 3108 [0] ++ sayB 3109 [0] := ⟨_, rfl⟩
      have HFM1 : Hid (p.sel = [] → FM = sayB 18 [0, 0]) := fun h => by rw [hFM, if_pos h]
      have HFM2 : Hid (p.sel ≠ [] → FM = sayB 3108 [0] ++ sayB 3109 [0]) := fun h => by rw [hFM, if_neg h]
      have HFL : Hid (FM.length ≤ 20 ∧ (topB (decide (0 < p.sel.length)) 0 0 FM).length = sizeT p) := by
        rw [hFM]
        unfold sizeT topB
        by_cases h : p.sel = []
        · rw [if_pos h, if_pos h, h]
          simp only [List.length_append, sayB_length]
          exact ⟨by decide, rfl⟩
        · have d : decide (0 < p.sel.length) = true := decide_eq_true (List.length_pos_iff.2 h)
          rw [if_neg h, if_neg h, d]
          simp only [List.length_append, sayB_length]
          exact ⟨by decide, rfl⟩
      clear HB1 HB2 HB3 hn hFM
      go_enter Tryz.func8, Tryz.ntmps8
      go_wp2_with fail
      refine HM0.out.mono ?_; rintro e w1 ⟨rfl, hk1⟩
      have HW1 := Lib.hid hk1
      have HK1 := Lib.hid (HK0.out.trans hk1)
      obtain ⟨c0, c1, c2, c3, c4⟩ := HC.out w1 hk1
      have HNI := Lib.hid (HIN.out w1 HK1.out).names
      have HP := Lib.hid (Ch.put_calls _ p.names 0 w1 HN.out HNI.out (fun b hb => by
        refine intsG_lt HNI.out ?_ b hb
        have := (Ch.mayPut_true HN.out).1
        intro e; rw [e] at this; simp at this))
      clear hk1
      go_wp2_with fail
      refine HP.out.mono ?_; rintro e w2 (⟨h, _⟩ | ⟨l2, v2, h, rfl, hi2, hk2, hf2⟩)
      · cases h
      have HW2 := Lib.hid (HW1.out.trans hk2)
      obtain ⟨p2, c2', rfl⟩ := hi2.form
      clear h hi2 hk2 hf2 HP c0 c1 c2 c3 c4
      obtain ⟨c0, c1, c2, c3, c4⟩ := HC.out w2 HW2.out
      have HS := Lib.hid (say_at 18 18 rfl (by decide) (.slice (some ⟨w2.heap.size, 0, none⟩) 2 2) [0, 0] _ (lit_at w2 _ rfl [0, 0] 2 rfl #[.int .i64 0, .int .i64 0] rfl (by decide) _ (Kp.refl _ _)) (by simp) (by intro x hx; simp at hx; omega))
      go_wp2_with fail
      refine HS.out.mono ?_; rintro e w3 ⟨u3, rfl, h3, k3⟩
      obtain ⟨p3, c3', rfl⟩ := h3.form
      have HU3 := Lib.hid h3.ints
      have HW3 : Hid (Kp [] _ w3) := HW2.out.trans (Kp.trans (by ((repeat (first | exact Kp.refl _ _ | assumption | refine Kp.drew ?_ | refine Kp.drewN ?_ _ | refine Kp.alloc ?_ _)); (first | done | fail))) k3)
      clear h3 k3 c0 c1 c2 c3 c4 HS
      obtain ⟨c0, c1, c2, c3, c4⟩ := HC.out w3 HW3.out
      go_upto_if 30 with fail
      go_cut [6] (fun s6 wx => ∃ p6 c6, s6 = .slice p6 FM.length c6 ∧ Hid (IsInts .u8 wx (.slice p6 FM.length c6) FM) ∧ Hid (Kp [] w3 wx))
      case first =>
        by_cases hsl : p.sel = []
        · have d0 : decide (0 < p.sel.length) = false := by rw [hsl]; rfl
          have HE := Lib.hid (HFM1.out hsl)
          clear hsl
          rw [d0]
          go_wp2_with fail
          go_meet
          rw [HE.out]
          exact ⟨p3, c3', rfl, HU3, Kp.refl _ _⟩
        · have d0 : decide (0 < p.sel.length) = true := decide_eq_true (List.length_pos_iff.2 hsl)
          have HE := Lib.hid (HFM2.out hsl)
          have HS8 := Lib.hid (say_at 3108 3108 rfl (by decide) (.slice (some ⟨w3.heap.size, 0, none⟩) 1 1) [0] _ (lit_at w3 _ rfl [0] 1 rfl #[.int .i64 0] rfl (by decide) _ (Kp.refl _ _)) (by simp) (by intro x hx; simp at hx; omega))
          clear hsl
          rw [d0]
          go_wp2_with fail
          refine HS8.out.mono ?_; rintro e w13 ⟨u13, rfl, h13, k13⟩
          obtain ⟨p13, c13, rfl⟩ := h13.form
          have H13 := Lib.hid h13
          have K13 : Hid (Kp [] w3 w13) := Kp.trans (by ((repeat (first | exact Kp.refl _ _ | assumption | refine Kp.drew ?_ | refine Kp.drewN ?_ _ | refine Kp.alloc ?_ _)); (first | done | fail))) k13
          clear h13 k13 HS8
          have HS9 := Lib.hid (say_at 3109 3109 rfl (by decide) (.slice (some ⟨w13.heap.size, 0, none⟩) 1 1) [0] _ (lit_at w13 _ rfl [0] 1 rfl #[.int .i64 0] rfl (by decide) _ (Kp.refl _ _)) (by simp) (by intro x hx; simp at hx; omega))
          go_wp2_with fail
          refine HS9.out.mono ?_; rintro e w14 ⟨u14, rfl, h14, k14⟩
          obtain ⟨p14, c14, rfl⟩ := h14.form
          have H14 := Lib.hid h14
          have K14 : Hid (Kp [] w13 w14) := Kp.trans (by ((repeat (first | exact Kp.refl _ _ | assumption | refine Kp.drew ?_ | refine Kp.drewN ?_ _ | refine Kp.alloc ?_ _)); (first | done | fail))) k14
          clear h14 k14 HS9
          have HL8 : Hid ((sayB 3108 [0]).length = 7) := by show _ = _; rw [sayB_length]; rfl
          have HL9 : Hid ((sayB 3109 [0]).length = 7) := by show _ = _; rw [sayB_length]; rfl
          generalize sayB 3108 [0] = E8 at *
          generalize sayB 3109 [0] = E9 at *
          have HCO := Lib.hid (concatB_calls _ [E8, E9] _ (rows_at w14 w14.heap.size rfl [.slice p13 E8.length c13, .slice p14 E9.length c14] [E8, E9] 2 rfl rfl _ rfl (by decide) (fun i hi => by
             rcases (show i = 0 ∨ i = 1 by omega) with rfl | rfl
             · exact (H13.out.kp0 K14.out).ints
             · exact H14.out.ints) _ (Kp.refl _ _)) (by simp only [List.flatten_cons, List.length_append, HL8.out]; omega) (by simp only [List.flatten_cons, List.flatten_nil, List.append_nil, List.length_append, HL8.out, HL9.out]; omega))
          go_wp2_with fail
          refine HCO.out.mono ?_; rintro e w15 ⟨u15, rfl, h15, k15⟩
          have K15 : Hid (Kp [] w3 w15) := (K13.out.trans K14.out).trans (Kp.trans (by ((repeat (first | exact Kp.refl _ _ | assumption | refine Kp.drew ?_ | refine Kp.drewN ?_ _ | refine Kp.alloc ?_ _)); (first | done | fail))) k15)
          have HU : Hid (IsInts .u8 w15 u15 FM) := by
            show IsInts _ _ _ _
            rw [HE.out]
            have q := h15.ints
            simpa using q
          clear h15 k15 HCO
          obtain ⟨p15, c15, rfl⟩ := HU.out.form
          go_wp2_with fail
          go_meet
          exact ⟨p15, c15, rfl, HU, K15⟩
      case rest =>
        obtain ⟨p6, c6, rfl, HU6, HK6⟩ := hcut
        have HW6 := Lib.hid (HW3.out.trans HK6.out)
        clear c0 c1 c2 c3 c4
        obtain ⟨c0, c1, c2, c3, c4⟩ := HC.out wc HW6.out
        have HT := Lib.hid (top_calls (decide (0 < p.sel.length)) 0 0 (by decide) (by decide) _ FM wc HU6.out (by have := HFL.out.1; omega))
        go_wp2_with fail
        refine HT.out.mono ?_; rintro e w7 ⟨u7, rfl, h7, k7⟩
        have HF7 : Hid (∃ p7 c7, u7 = .slice p7 (sizeT p) c7) := by
          obtain ⟨p7, c7, e⟩ := h7.form
          exact ⟨p7, c7, by rw [e, HFL.out.2]⟩
        obtain ⟨p7, c7, rfl⟩ := HF7.out
        have HW7 := Lib.hid (HW6.out.trans k7)
        have hu7 : w.heap.size < w7.heap.size := by have := HW7.out.size; simp at this; omega
        clear h7 k7 HT c0 c1 c2 c3 c4 HF7
        obtain ⟨c0, c1, c2, c3, c4⟩ := HC.out w7 HW7.out
        have hbld : Bld (w7.alloc (.cells #[.slice none 0 0, .int .i64 0] 62)) w7.heap.size (.slice none 0 0) [] false := ⟨heap_alloc_new w7 _, World.ownsRow_nil _ _ _ _, by simp⟩
        have HLY := Lib.hid (lay_calls w7.heap.size (sizeT p) _ _ _ _ _ _ p _ w7 hbld ((Kp.refl _ _).alloc _) (Nat.le_refl _) (HIN.out w7 (HK0.out.trans HW7.out)) (by unfold sizeT; split <;> omega) (by unfold sizeT; split <;> omega) HN.out HMF.out.1 HMF.out.2.1 HMF.out.2.2.2.2.2.2)
        clear hbld
        go_wp2_with fail
        refine HLY.out.mono ?_; rintro e w8 ⟨u, acc, F, v8, rfl, hb8, hk8, hF1, hF2⟩
        have HB8 := Lib.hid hb8
        have cx := hb8.facts.2.1
        have HW8 := Lib.hid (HW7.out.trans hk8)
        have HF1 := Lib.hid hF1
        have HF2 := Lib.hid hF2
        clear hb8 hk8 hF1 hF2 HLY c0 c1 c2 c3 c4
        cases F with
        | true =>
          have HX := Lib.hid (HX2.out (HF1.out rfl))
          have cx2 : w8.cell? ⟨w7.heap.size, 1, none⟩ = some (.int .i64 3) := cx
          clear cx
          go_wp2_with fail
          go_ret2
          rw [HX.out]
          exact ⟨_, _, rfl, .inl ⟨⟨_, rfl⟩, rfl⟩, HK0.out.trans HW8.out, fun b hb => by simp [blockOf] at hb⟩
        | false =>
          obtain ⟨f1, f2, f3⟩ := HF2.out rfl
          subst f2
          have HX := Lib.hid (HX3.out f1)
          have cx2 : w8.cell? ⟨w7.heap.size, 1, none⟩ = some (.int .i64 0) := cx
          obtain ⟨g1, g2, g3, g4⟩ := outF_is p HMF.out.1
          obtain ⟨pu, cu, rfl⟩ := f3.form
          have HU := Lib.hid f3
          clear cx HF1 HF2 f1 f3
          have HT0 : Hid (outF p = (outU p (sizeT p)).take 10 ++ ((putM [topOf p (sizeT p)]).1 ++ (outU p (sizeT p)).drop (10 + (putM [topOf p (sizeT p)]).1.length))) := g1
          have HTL := Lib.hid g2
          have HOL := Lib.hid g4
          have HP1 : Hid (∀ W V, IsBs W V [[70]] → Calls Tryz.prog 25 #[V] W fun e w' => ∃ q c, e = .returned (.tuple #[.slice q 6 c, .int .i64 0]) ∧ Kp [] W w') := fun W V h => by
            refine (put_calls V [[70]] W h).mono ?_
            rintro e w' ⟨v', rfl, a1, a2, a3⟩
            rw [one_put] at a1 ⊢
            obtain ⟨q, c, rfl⟩ := a1.form
            exact ⟨q, c, rfl, a2⟩
          have HP2 : Hid (∀ W V, IsBs W V [topOf p (sizeT p)] → Calls Tryz.prog 25 #[V] W fun e w' => ∃ q c, e = .returned (.tuple #[.slice q (5 + sizeT p) c, .int .i64 0]) ∧ IsInts .u8 w' (.slice q (5 + sizeT p) c) (putM [topOf p (sizeT p)]).1 ∧ Kp [] W w') := fun W V h => by
            refine (put_calls V _ W h).mono ?_
            rintro e w' ⟨v', rfl, a1, a2, a3⟩
            rw [g3]
            obtain ⟨q, c, rfl⟩ := a1.form
            rw [g2] at a1 ⊢
            exact ⟨q, c, rfl, a1, a2⟩
          clear g1 g2 g3 g4
          generalize (putM [topOf p (sizeT p)]).1 = T at *
          go_wp2_with fail
          refine (HP1.out _ _ (rowF_at (w8.alloc (.cells #[.int .u8 70] 5 (1, 2))) _ (by simp) _ [70] _ (litF_at w8 _ [70] 1 rfl _ rfl (by decide) _ (Kp.refl _ _)) (Kp.refl _ _))).mono ?_
          rintro e w9 ⟨p9, c9, rfl, hk9⟩
          have HK9 : Hid (Kp [] w8 w9) := Kp.trans (by ((repeat (first | exact Kp.refl _ _ | assumption | refine Kp.drew ?_ | refine Kp.drewN ?_ _ | refine Kp.alloc ?_ _)); (first | done | fail))) hk9
          clear hk9 HP1
          have HR9 := Lib.hid (rowF_at w9 w9.heap.size rfl _ (topOf p (sizeT p)) _ (HU.out.kp0 HK9.out).ints (Kp.refl _ _))
          go_wp2_with fail
          refine (HP2.out _ _ HR9.out).mono ?_
          rintro e w10 ⟨p10, c10, rfl, hi10, hk10⟩
          have HK10 : Hid (Kp [] w8 w10) := HK9.out.trans (Kp.trans (by ((repeat (first | exact Kp.refl _ _ | assumption | refine Kp.drew ?_ | refine Kp.drewN ?_ _ | refine Kp.alloc ?_ _)); (first | done | fail))) hk10)
          have HI10 := Lib.hid hi10
          have HB10 := Lib.hid (HB8.out.kp0 HK10.out)
          clear hk10 hi10 HP2 HR9
          generalize hOU : outU p (sizeT p) = OU at *
          obtain ⟨g, cap, cur, ev, h2, h3, h4, h5, h6, h7⟩ : ∃ g cap cur, v8 = .slice (some ⟨g, 0, none⟩) OU.length cap ∧ w7.heap.size + 1 ≤ g ∧ w10.heap[g]? = some (.cells cur 5 (0, 0)) ∧ OU.length ≤ cap ∧ cap ≤ maxLen ∧ cur.size = cap ∧ cur.toList.take OU.length = OU.map (Value.int .u8) := by
            rcases HB10.out.2.1.2 with ⟨_, e⟩ | ⟨g, cap, cur, a1, a2, a3, a4, a5, a6, a7⟩
            · exfalso; have := HOL.out; omega
            · exact ⟨g, cap, cur, a1, a2, a3, a4, a5, by rw [a6, Nat.mul_one], by rw [← a7, Nat.mul_one]⟩
          subst ev
          have hc10 : 10 < cap := by have := HOL.out; omega
          have hn10 : 10 < OU.length := by have := HOL.out; omega
          unfold maxLen at h5
          have cx0 := HB10.out.facts.1
          have HG3 := Lib.hid h3
          have HG6 := Lib.hid h6
          have HG2 := Lib.hid h2
          clear h3 h6 h7 h2 cx2
          have hfit : 10 + (5 + sizeT p) ≤ OU.length := by have := HOL.out; omega
          have h05 : 0 < 5 + sizeT p := by omega
          go_wp2_with (with_reducible refine Bld.copy (o := ⟨some 77, _, _, _, _, _⟩) rfl (.tmp 75) (.tmp 76) rfl HB10.out rfl p10 (5 + sizeT p) c10 T h05 ?hd ?hs HI10.out hfit ?hk)
          case hd => rfl
          case hs => rfl
          case hk =>
          intro w11 h11 hk11 hxg
          have HB11 := Lib.hid h11
          have cx1 := h11.facts.1
          have HKK : Hid (Kp [] w w11) := ((HK0.out.trans HW8.out).trans HK10.out).trans' hk11 (fun t ht => .inr (by
            have := hxg
            simp at ht; omega))
          clear h11 hk11 cx0
          go_wp2_with fail
          go_ret2
          rw [HX.out]
          have hlen : (outF p).length = OU.length := by rw [HT0.out]; have := HTL.out; have := HOL.out; simp; omega
          have e : outF p = OU.take 10 ++ (T ++ OU.drop (10 + (5 + sizeT p))) := by rw [HT0.out, HTL.out]
          have hw := HB11.out.2.1.ints
          rw [← e] at hw
          refine ⟨some ⟨g, 0, none⟩, cap, by rw [hlen]; first | done | rfl | simp, by rw [hlen]; exact hw, HKK.out, fun b hb => ?_⟩
          have := blockOf_own hb
          simp [Value.ownBlock] at this
          omega
end Go.Proofs.YtlhkaoccnpgkeaaGreat

/- charset.PutSelect in the format 3: the bytes of a selection, range by range. -/
import Derived.Test.YthmokldmdcjklaaChPlainQ
import Derived.Lib.Hide

namespace Go.Proofs.Ythmokldmdcjklaa
open Go.RowKit
set_option linter.unusedVariables false
set_option linter.unusedSimpArgs false
theorem puts1_calls (b : Nat) (v : Value) (xs : List Int) (i : Nat) (hi : i < xs.length) (w : World) (h : w.cell? ⟨b, 0, none⟩ = some v) (hv : IsInts .i64 w v xs) (hl : xs.length ≤ 65535) :
    Calls Try.prog 58 #[.int .i64 i, .pointer (some ⟨b, 0, none⟩)] w fun e w' => e = .returned (.bool (xs.getD i 0 == xs.getD 0 0)) ∧ Kp [] w w' := by
  rcases hv with ⟨⟨ad, rfl⟩, rfl⟩ | ⟨g, off, c, rfl, h1, h2, h3⟩
  · simp at hi
  · have c1 := h3 i hi
    have c0 := h3 0 (by omega)
    rw [Nat.add_zero] at c0
    have h0 : 0 < xs.length := by omega
    clear h3
    generalize xs.getD i 0 = x at *
    generalize xs.getD 0 0 = y at *
    go_enter Try.func58, Try.ntmps58
    go_wp2
    go_quiet (fail)
    go_wp2
    go_ret
    exact ⟨by simp, by (repeat (first | exact Kp.refl _ _ | assumption | refine Kp.drew ?_ | refine Kp.drewN ?_ _ | refine Kp.alloc ?_ _ | (refine Kp.setCell ?_ (by first | (left; simp; done) | (right; simp; try omega)) _) | (refine Kp.trans' ?_ (by assumption) (by simp; try omega))))⟩
/-- Where a put of a selection stands in memory. -/
def PsSt (w wr : World) (bx B b8 : Nat) (v' : Value) (rest acc : List Int) (v12 : Value) : Prop :=
  wr.heap[bx]? = some (.cells #[v'] 24 (0, 0)) ∧ IsInts .i64 wr v' rest ∧ (∀ b, blockOf v' = some b → b < bx) ∧
  wr.ownsRow B 5 1 v12 acc.length (acc.map (Value.int .u8)) ∧ wr.ownsRow (bx + 1) 5 1 (.slice (some ⟨b8, 0, none⟩) 1 1) 1 [.int .u8 3] ∧ b8 < B ∧ Kp [] w wr ∧ B ≤ wr.heap.size ∧ bx < B ∧ w.heap.size = bx
theorem PsSt.app {w wr wq w2 : World} {bx B b8 : Nat} {v' : Value} {rest acc news : List Int} {v6 v7 : Value} (h : PsSt w wr bx B b8 v' rest acc v6) (hq : Kp [] wr wq)
    (hown : w2.ownsRow B 5 1 v7 (acc.length + news.length) (acc.map (Value.int .u8) ++ news.map (Value.int .u8))) (hg : wq.grownBy w2 v6.ownBlock) : PsSt w w2 bx B b8 v' rest (acc ++ news) v7 := by
  obtain ⟨h1, h2, h3, h4, h8, h9, h5, h6, hb, h7⟩ := h
  have hge := own_ge h4
  have hk : Kp [] w w2 := Kp.grown (h5.trans hq) hg (fun k hk => .inr (by have := hge k hk; omega))
  have hk2 : Kp (v6.ownBlock.toList) wr w2 := Kp.grown (hq.more (fun s hs => nomatch hs)) hg (fun k hk => .inl (by rw [hk]; simp))
  have hall : ∀ s ∈ v6.ownBlock.toList, B ≤ s := by
    intro s hs; cases hv : v6.ownBlock with
    | none => simp [hv] at hs
    | some b => simp [hv] at hs; subst hs; exact hge _ hv
  exact ⟨hk2.heap h1 (fun hm => by have := hall _ hm; omega), h2.kp hk2 (fun s hs e => by have := hall s hs; have := h3 _ e; omega), h3, by simpa using hown, hk2.row h8 (fun s hs e => by have := hall s hs; simp [Value.ownBlock] at e; omega), h9, hk, Nat.le_trans h6 hk2.size, hb, h7⟩
theorem PsSt.kp {w wr w2 : World} {bx B b8 : Nat} {v' : Value} {rest acc : List Int} {v6 : Value} (h : PsSt w wr bx B b8 v' rest acc v6) (hq : Kp [] wr w2) : PsSt w w2 bx B b8 v' rest acc v6 := by
  obtain ⟨h1, h2, h3, h4, h8, h9, h5, h6, hb, h7⟩ := h
  exact ⟨hq.heap h1 (by simp), h2.kp hq (by simp), h3, hq.row h4 (by simp), hq.row h8 (by simp), h9, h5.trans hq, Nat.le_trans h6 hq.size, hb, h7⟩
theorem PsSt.box {w wr : World} {bx B b8 : Nat} {v' : Value} {rest acc : List Int} {v6 : Value} (h : PsSt w wr bx B b8 v' rest acc v6) (n : Nat) (hn : n ≤ rest.length) :
    PsSt w (wr.setCell ⟨bx, 0, none⟩ (cutV v' n)) bx B b8 (cutV v' n) (rest.drop n) acc v6 := by
  obtain ⟨h1, h2, h3, h4, h8, h9, h5, h6, hb, h7⟩ := h
  have hk : Kp [bx] wr (wr.setCell ⟨bx, 0, none⟩ (cutV v' n)) := (Kp.refl _ _).setCell (.inl (by simp)) _
  have hbb : ∀ b, blockOf (cutV v' n) = some b → blockOf v' = some b := blockOf_cut v' n
  refine ⟨one_setCell h1, (h2.kp hk (by intro s hs e; simp at hs; subst hs; have := h3 _ e; omega)).drop n hn, fun b e => h3 b (hbb b e), hk.row h4 (by intro s hs e; simp at hs; subst hs; have := own_ge h4 _ e; omega), hk.row h8 (by intro s hs e; simp at hs; subst hs; have := own_ge h8 _ e; omega), h9, h5.setCell (.inr (by simp; omega)) _, by simp [World.setCell]; exact h6, hb, h7⟩
set_option maxRecDepth 100000 in
set_option maxHeartbeats 4000000 in
theorem putsel_3 (g off c : Nat) (l : List Int) (q : Int) (w : World) (h3 : l.length ≤ c) (h4 : c ≤ maxLen) (hz2 : Hid (IsInts .i64 w (.slice (some ⟨g, off, none⟩) l.length c) l)) (h1 : 1 ≤ l.length) (h2 : l.length ≤ 65535)
    (q1 : 1 ≤ q) (q2 : q ≤ 256) (HB : Hid (l.all (inB (q - 1)) = true)) (hg : g < w.heap.size) :
    Calls Try.prog 23 #[.slice (some ⟨g, off, none⟩) l.length c, .int .i64 q, .int .i64 3] w (Loaded .u8 (some (csPutSel l 3)) 0 w) := by
  go_enter Try.func23, Try.ntmps23
  go_wp2_with fail
  refine (count_yes _ (by omega) (by omega) _).mono ?_; rintro e w' ⟨rfl, rfl⟩
  go_wp2_with fail
  refine (within_calls _ l (q - 1) _ (hz2.out.kp (S := []) ((Kp.refl _ _).alloc _) (by simp))).mono ?_; rintro e w1 ⟨rfl, hk1⟩
  rw [HB.out]
  have hbc : Hid (w1.heap[w.heap.size]? = some (.cells #[.slice (some ⟨g, off, none⟩) l.length c] 24 (0, 0))) := hk1.heap (heap_alloc_new w _) (by simp)
  have hcx := cell_of_one hbc.out
  have hs1 := hk1.size
  rw [show (w.alloc (.cells #[.slice (some ⟨g, off, none⟩) l.length c] 24)).heap.size = w.heap.size + 1 by simp] at hs1
  have hk0 : Kp [] w w1 := ((Kp.refl _ _).alloc _).trans hk1
  have hzz := hz2.out.kp hk0 (by simp)
  have hst : PsSt w (w1.alloc (.cells #[.int .u8 3] 5)) w.heap.size (w1.heap.size + 1) w1.heap.size (.slice (some ⟨g, off, none⟩) l.length c) l [] (.slice none 0 0) :=
    ⟨(Kp.refl [] w1).alloc _ |>.heap hbc.out (by simp), hzz.kp (S := []) ((Kp.refl _ _).alloc _) (by simp), fun b hb => by simp [Value.ownBlock] at hb; omega, World.ownsRow_nil _ _ _ _, own_lit _ _ _ _ 1 1 #[.int .u8 3] rfl (by omega) (by decide) rfl, by omega, hk0.alloc _, by simp, by omega, rfl⟩
  have HBB : Hid (∀ x ∈ l, 0 ≤ x ∧ x ≤ 255) := by
    intro x hx; have := List.all_eq_true.1 HB.out x hx; simp [inB] at this; omega
  clear hk1 hz2 HB hk0 hzz
  generalize hbe : w.heap.size = bx at *
  generalize hb8 : w1.heap.size = b8 at *
  have hbl : bx < b8 := by omega
  have hAT : Hid (PsAt l.length (psGo l.length l.length l 0) [] l 0) := psAt_start l
  go_wp2_with fail
  clear hcx hbc
  go_loopw [12, 13, 14, 15] (fun v12 cn a _ wr => ∃ (v' : Value) (rest : List Int) (rs : List (Nat × Int)) (k : Nat), PsSt w wr bx (b8 + 1) b8 v' rest (psB rs) v12 ∧ PsAt l.length (psGo l.length l.length l 0) rs rest k ∧ (∀ x ∈ rest, 0 ≤ x ∧ x ≤ 255) ∧ k + rest.length = l.length ∧ rs.length ≤ k ∧ cn = .int .i64 rs.length ∧ a = .int .i64 k) (fun _ _ a _ _ => l.length - (intOf a).toNat)
  case atStart => exact ⟨_, l, [], 0, hst, hAT.out, HBB.out, by omega, by simp, rfl, rfl⟩
  case round =>
    obtain ⟨v', rest, rs, k, hs, ha, hb, hkl, hrs, rfl, rfl⟩ := hrel
    clear hst
    have hcx := cell_of_one hs.1
    have hfx := free_of_one hs.1
    have HS := Lib.hid hs
    have HA := Lib.hid ha
    have HB2 := Lib.hid hb
    have HK := Lib.hid hkl
    have hi := hs.2.1
    have hB := hs.2.2.2.2.2.2.2.1
    clear hs ha hb
    by_cases hr : rest = []
    · have hke : l.length ≤ k := by rw [hr] at hkl; simp at hkl; omega
      have hke2 : k ≤ l.length := by omega
      clear hkl
      subst hr
      have hend := Lib.hid (psAt_end _ _ _ _ HA.out)
      have hle : (psB rs).length ≤ 3 * 65535 := by rw [psB_length]; omega
      have ho8 := Lib.hid HS.out.2.2.2.2.1
      obtain ⟨p12, c12, rfl⟩ := slice_own HS.out.2.2.2.1
      have hrs2 : rs.length ≤ 65535 := by omega
      clear hi
      go_wp2_with (at_builtin; refine wpList_app rfl _ _ 22 rfl (bx + 1) 5 (.int .u8 0) 1 1 Try.underlying22 infoByte rfl (by decide) (by decide) (.slice (some ⟨b8, 0, none⟩) 1 1) 1 [.int .u8 3] rfl ?hown (.slice (some ⟨wr.heap.size, 0, none⟩) 2 2) 2 [.int .u8 ((rs.length : Int) / 256), .int .u8 ((rs.length : Int) % 256)] rfl ?hsrc ?hone ?hb1 ?hb2 ?hk)
      case hown => exact ho8.out.alloc _
      case hsrc => exact Reads.made _ _ 1 2 [.int .u8 ((rs.length : Int) / 256), .int .u8 ((rs.length : Int) % 256)] _ rfl rfl (by decide)
      case hone => intro u hu; simp at hu; rcases hu with rfl | rfl <;> rfl
      case hb1 => omega
      case hb2 => simp; omega
      case hk =>
      intro v7 w3 hown hgrow
      have hkg : Kp [b8] wr w3 := Kp.grown ((Kp.refl _ _).alloc _) hgrow (fun k hk => by simp [Value.ownBlock] at hk; exact .inl (by simp [hk]))
      have h12 := Lib.hid (hkg.row HS.out.2.2.2.1 (fun s hs e => by have := own_ge HS.out.2.2.2.1 _ e; simp at hs; omega))
      have hk3 : Kp [] w w3 := HS.out.2.2.2.2.2.2.1.trans' hkg (fun t ht => .inr (by simp at ht; have := HS.out.2.2.2.2.2.2.2.2.2; omega))
      have HO7 := Lib.hid hown
      obtain ⟨p7, c7, rfl⟩ := slice_own hown
      have hs37 := hkg.size
      have hwb := HS.out.2.2.2.2.2.2.2.2.2
      clear hown hgrow hkg HS HA hcx hfx ho8
      have HWB := Lib.hid hwb
      clear hwb
      go_wp2_with (at_builtin; refine wpList_app rfl _ _ 22 rfl (bx + 1) 5 (.int .u8 0) 1 1 Try.underlying22 infoByte rfl (by decide) (by decide) (.slice p7 (1 + 2) c7) (1 + 2) ([.int .u8 3] ++ [.int .u8 ((rs.length : Int) / 256), .int .u8 ((rs.length : Int) % 256)]) rfl ?hown (.slice p12 (psB rs).length c12) (psB rs).length ((psB rs).map (Value.int .u8)) rfl ?hsrc (oneCell_ints _ _) ?hb1 ?hb2 ?hk)
      case hown => exact HO7.out
      case hsrc => exact Reads.owned h12.out
      case hb1 => omega
      case hb2 => omega
      case hk =>
      intro v6 w4 hown hgrow
      have hk4 : Kp [] w w4 := Kp.grown hk3 hgrow (fun k hk => .inr (by have := own_ge HO7.out k hk; have := HWB.out; omega))
      have hs4 := hgrow.size
      have HO6 := Lib.hid hown
      obtain ⟨p6, c6, rfl⟩ := slice_own hown
      clear hown hgrow HO7 hk3
      go_wp2_with (at_builtin; refine wpList_app rfl _ _ 22 rfl (bx + 1) 5 (.int .u8 0) 1 1 Try.underlying22 infoByte rfl (by decide) (by decide) (.slice p6 (1 + 2 + (psB rs).length) c6) (1 + 2 + (psB rs).length) (([.int .u8 3] ++ [.int .u8 ((rs.length : Int) / 256), .int .u8 ((rs.length : Int) % 256)]) ++ (psB rs).map (Value.int .u8)) rfl ?hown (.slice (some ⟨w4.heap.size, 0, none⟩) 2 2) 2 [.int .u8 ((l.length : Int) / 256), .int .u8 ((l.length : Int) % 256)] rfl ?hsrc ?hone ?hb1 ?hb2 ?hk)
      case hown => exact HO6.out.alloc _
      case hsrc => exact Reads.made _ _ 1 2 [.int .u8 ((l.length : Int) / 256), .int .u8 ((l.length : Int) % 256)] _ rfl rfl (by decide)
      case hone => intro u hu; simp at hu; rcases hu with rfl | rfl <;> rfl
      case hb1 => omega
      case hb2 => simp; omega
      case hk =>
      intro v5 w5 hown hgrow
      have hk5 : Kp [] w w5 := Kp.grown (hk4.alloc _) hgrow (fun k hk => .inr (by have := own_ge HO6.out k hk; have := HWB.out; omega))
      have e1 : (rs.length : Int) / 256 % 256 = (rs.length : Int) / 256 := by omega
      have e2 : (l.length : Int) / 256 % 256 = (l.length : Int) / 256 := by omega
      have HF : Hid (IsInts .u8 w5 v5 (csPutSel l 3)) := by
        have e3 : csPutSel l 3 = [3, (rs.length : Int) / 256, (rs.length : Int) % 256] ++ psB rs ++ [(l.length : Int) / 256, (l.length : Int) % 256] := by
          unfold csPutSel; rw [if_neg (by decide), hend.out]; simp [by2, e1, e2]
        rw [e3]
        refine IsInts.owned (base := bx + 1) (e := 5) (n := 1 + 2 + (psB rs).length + 2) ?_
        simpa using hown
      have hge5 := Lib.hid (own_geb hown)
      clear hown hgrow e1 e2 hend
      go_wp2_with fail
      go_ret2
      exact .inr ⟨_, v5, rfl, rfl, HF.out, hk5, fun b hb => by have := hge5.out b hb; have := HWB.out; omega⟩
    · have hr1 : 1 ≤ rest.length := by cases rest with | nil => exact absurd rfl hr | cons a t => simp
      have hlt : k < l.length := by omega
      have hrl : rest.length ≤ 65535 := by omega
      clear hkl
      rcases hi with ⟨⟨ad, rfl⟩, rfl⟩ | ⟨g1, o1, c1, rfl, p1, p2, p3⟩
      · simp at hr
      · have q0 := p3 0 (by omega)
        rw [Nat.add_zero] at q0
        clear p3
        have hx0 : 0 ≤ rest.getD 0 0 ∧ rest.getD 0 0 ≤ 255 := HB2.out _ (by rw [List.getD_eq_getElem?_getD, List.getElem?_eq_getElem (by omega)]; exact List.getElem_mem _)
        obtain ⟨p12, c12, rfl⟩ := slice_own HS.out.2.2.2.1
        have hstep := Lib.hid (psAt_step _ _ _ _ _ HA.out hr)
        have hle : (psB rs).length ≤ 3 * 65535 := by rw [psB_length]; omega
        generalize hxe : rest.getD 0 0 = x0 at *
        have HXE := Lib.hid hxe
        clear hxe
        obtain ⟨x00, x01⟩ := hx0
        have hg1 : g1 < wr.heap.size := by have := HS.out.2.2.1 g1 ((blockOf_some _ _ _ _ _ _).2 ⟨by omega, rfl⟩); omega
        go_wp2_with (at_builtin; refine wpList_app rfl _ _ 22 rfl (b8 + 1) 5 (.int .u8 0) 1 1 Try.underlying22 infoByte rfl (by decide) (by decide) (.slice p12 (psB rs).length c12) (psB rs).length ((psB rs).map (Value.int .u8)) rfl ?hown (.slice (some ⟨wr.heap.size, 0, none⟩) 3 3) 3 [.int .u8 ((k : Int) / 256), .int .u8 ((k : Int) % 256), .int .u8 x0] rfl ?hsrc ?hone ?hb1 ?hb2 ?hk)
        case hown => exact (HS.out.kp ((Kp.refl _ _).alloc _)).2.2.2.1
        case hsrc => exact Reads.made _ _ 1 3 [.int .u8 ((k : Int) / 256), .int .u8 ((k : Int) % 256), .int .u8 x0] _ rfl rfl (by decide)
        case hone => intro u hu; simp at hu; rcases hu with rfl | rfl | rfl <;> rfl
        case hb1 => omega
        case hb2 => simp; omega
        case hk =>
        intro v7 w3 hown hgrow
        have hs3 : PsSt w w3 bx (b8 + 1) b8 (.slice (some ⟨g1, o1, none⟩) rest.length c1) rest (psB rs ++ [(k : Int) / 256, (k : Int) % 256, x0]) v7 := HS.out.app ((Kp.refl _ _).alloc _) (news := [(k : Int) / 256, (k : Int) % 256, x0]) hown hgrow
        have e9 : (k : Int) / 256 % 256 = (k : Int) / 256 := by omega
        have e8 : x0 % 256 = x0 := by omega
        rw [show psB rs ++ [(k : Int) / 256, (k : Int) % 256, x0] = psB (rs ++ [(k, x0)]) by rw [psB_snoc]; simp [by2, e9, e8]] at hs3
        clear e9 e8 hown hgrow hcx hfx q0
        have hcx3 := cell_of_one hs3.1
        have hfx3 := free_of_one hs3.1
        have HS3 := Lib.hid hs3
        clear hs3 HS HA
        have hrun := Lib.hid (run_calls 58 Try.call58 (.pointer (some ⟨bx, 0, none⟩)) (fun i => rest.getD i 0 == rest.getD 0 0) l.length (some ⟨g1, o1, none⟩) rest.length c1 hrl hr1 w3 (fun i _ hi wr' hk => puts1_calls bx _ rest i hi wr' (hk.cell hcx3 (by simp)) (HS3.out.2.1.kp hk (by simp)) hrl))
        go_wp2_with fail
        refine Calls.mono hrun.out ?_; rintro e w4 ⟨rfl, hk4⟩
        clear hrun
        have hn : Hid (runGo (fun i => rest.getD i 0 == rest.getD 0 0) l.length (rest.length - 1) 1 = runE l.length rest) := rfl
        rw [hn.out]
        clear hn
        have hn1 := runE_ge l.length rest
        have hn2 := runE_le l.length rest hr1
        generalize hne : runE l.length rest = n at *
        clear hne
        have hcx4 := hk4.cell hcx3 (by simp)
        have hs4 := HS3.out.kp hk4
        have hfx4 := free_of_one hs4.1
        have HFI := Lib.hid (hs4.box n hn2)
        have hns := run_cut g1 o1 rest.length c1 n n rfl hn2 p1 p2
        clear hs4 hcx3 hfx3 HS3
        go_wp2_with fail
        go_roundw
        case rel => first
          | exact ⟨_, rest.drop n, rs ++ [(k, x0)], k + n, HFI.out, hstep.out, fun x hx => HB2.out x (List.mem_of_mem_drop hx), by have := HK.out; simp; omega, by simp; omega, by simp, by simp⟩
          | (repeat apply Exists.intro; exact ⟨⟨_, rest.drop n, rs ++ [(k, x0)], k + n, HFI.out, hstep.out, fun x hx => HB2.out x (List.mem_of_mem_drop hx), by have := HK.out; simp; omega, by simp; omega, by simp, by simp⟩, rfl⟩)
        case measure => simp [intOf]; omega
end Go.Proofs.Ythmokldmdcjklaa

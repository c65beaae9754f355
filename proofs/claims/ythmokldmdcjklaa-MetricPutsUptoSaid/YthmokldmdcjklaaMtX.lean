/- The reference's Load of metrics; seriflaw06.holds. (Written by wip/metric/genmtx.py.) -/
import Derived.Test.YthmokldmdcjklaaMtF
import Derived.Test.YthmokldmdcjklaaWireC
namespace Go.Proofs.Ythmokldmdcjklaa
open Go.RowKit
set_option linter.unusedVariables false
set_option linter.unusedSimpArgs false
theorem infoMetr : (Try.prog.info? 68).map (fun i => (i.zero, i.size, i.bytes)) = some (some (.agg #[.int .i64 0, .int .i64 0]), 2, 16) := by kernel_rfl
theorem rd_fit (zs : List Int) (k m : Nat) (h : k + m ≤ zs.length) : rdB zs k false m = false ∧ rdK zs k false m = k + m ∧ rdV zs k false m = beN (cutB zs k m) := by
  have h1 : rdB zs k false m = false := by unfold rdB; simp; omega
  refine ⟨h1, ?_, ?_⟩
  · unfold rdK; rw [h1, if_neg (by simp)]
  · unfold rdV; rw [h1, if_neg (by simp)]
/-- The metrics of the first so many glyphs. -/
def metsL (zs : List Int) (m j : Nat) : List (Int × Int) := (List.range j).map fun i => (metA zs m (min i (m - 1)), metB zs m i)
theorem metsL_length (zs : List Int) (m j : Nat) : (metsL zs m j).length = j := by simp [metsL]
theorem metsL_succ (zs : List Int) (m j : Nat) : metsL zs m (j + 1) = metsL zs m j ++ [(metA zs m (min j (m - 1)), metB zs m j)] := by unfold metsL; rw [List.range_succ, List.map_append]; rfl
theorem metsL_getD (zs : List Int) (m j i : Nat) (h : i < j) : (metsL zs m j).getD i (0, 0) = (metA zs m (min i (m - 1)), metB zs m i) := by
  unfold metsL; rw [List.getD_eq_getElem?_getD, List.getElem?_map, List.getElem?_range h]; rfl
theorem metsL_pairs (zs : List Int) (m n : Nat) (h1 : 1 ≤ m) (h2 : m ≤ n) : ∀ i, i < (metsL zs m n).length → (metsL zs m n).getD i (0, 0) = ((advsL zs m n).getD (min i ((advsL zs m n).length - 1)) 0, (bearsL zs m n).getD i 0) := by
  intro i hi
  rw [metsL_length] at hi
  rw [metsL_getD zs m n i hi, advsL_length, show min n m = m by omega]
  have ha : (advsL zs m n).getD (min i (m - 1)) 0 = metA zs m (min i (m - 1)) := by
    unfold advsL; rw [List.getD_eq_getElem?_getD, List.getElem?_map, List.getElem?_range (by omega)]; rfl
  have hb : (bearsL zs m n).getD i 0 = metB zs m i := by
    unfold bearsL; rw [List.getD_eq_getElem?_getD, List.getElem?_map, List.getElem?_range hi]; rfl
  rw [ha, hb]
/-- Where the reference's load of metrics stands in memory. -/
def RMSt (w wr : World) (r : Nat) (v : Value) (zs : List Int) (k : Nat) (l : List (Int × Int)) (v9 : Value) : Prop :=
  wr.ownsRow (r + 1) 68 2 v9 l.length (pairCells l) ∧ Rrd wr r v k false ∧ IsInts .u8 wr v zs ∧ Kp [] w wr ∧ r + 1 ≤ wr.heap.size ∧ w.heap.size = r ∧ (∀ b, blockOf v = some b → b < r)
theorem RMSt.app {w wr w2 : World} {r : Nat} {v : Value} {zs : List Int} {k : Nat} {l : List (Int × Int)} {v9 v' : Value} {a b : Int} {o : Obj} (h : RMSt w wr r v zs k l v9)
    (hown : w2.ownsRow (r + 1) 68 2 v' (l.length + 1) (pairCells l ++ [.int .i64 a, .int .i64 b])) (hg : (wr.alloc o).grownBy w2 v9.ownBlock) : RMSt w w2 r v zs k (l ++ [(a, b)]) v' := by
  obtain ⟨h1, h2, h3, h4, h5, h6, h7⟩ := h
  have hge := own_ge h1
  have hk : Kp [] w w2 := Kp.grown (h4.alloc o) hg (fun k hk => .inr (by have := hge k hk; omega))
  have hk2 : Kp (v9.ownBlock.toList) wr w2 := Kp.grown ((Kp.refl _ _).alloc o) hg (fun k hk => .inl (by rw [hk]; simp))
  have hall : ∀ s ∈ v9.ownBlock.toList, r + 1 ≤ s := by
    intro s hs; cases hv : v9.ownBlock with
    | none => simp [hv] at hs
    | some b => simp [hv] at hs; subst hs; exact hge _ hv
  exact ⟨by rw [pairCells_snoc, List.length_append]; exact hown, h2.kp hk2 (fun hm => by have := hall _ hm; omega), h3.kp hk2 (fun s hs e => by have := hall s hs; have := h7 _ e; omega), hk, Nat.le_trans h5 hk2.size, h6, h7⟩
theorem RMSt.rkp {w wr w2 : World} {r : Nat} {v : Value} {zs : List Int} {k k2 : Nat} {l : List (Int × Int)} {v9 : Value} (h : RMSt w wr r v zs k l v9) (hk : Kp [r] wr w2) (hr : Rrd w2 r v k2 false) : RMSt w w2 r v zs k2 l v9 := by
  obtain ⟨h1, h2, h3, h4, h5, h6, h7⟩ := h
  exact ⟨hk.row h1 (fun s hs e => by simp at hs; subst hs; have := own_ge h1 _ e; omega), hr, h3.kp hk (fun s hs e => by simp at hs; subst hs; have := h7 _ e; omega), h4.trans' hk (fun t ht => .inr (by simp at ht; omega)), Nat.le_trans h5 hk.size, h6, h7⟩
theorem RMSt.other {w wr w2 : World} {r X : Nat} {v : Value} {zs : List Int} {k : Nat} {l : List (Int × Int)} {v9 : Value} (h : RMSt w wr r v zs k l v9) (hk : Kp [X] wr w2) (hX : r < X) (hv9 : v9.ownBlock ≠ some X) : RMSt w w2 r v zs k l v9 := by
  obtain ⟨h1, h2, h3, h4, h5, h6, h7⟩ := h
  exact ⟨hk.row h1 (fun s hs e => by simp at hs; subst hs; exact hv9 e), h2.kp hk (by simp; omega), h3.kp hk (fun s hs e => by simp at hs; subst hs; have := h7 _ e; omega), h4.trans' hk (fun t ht => .inr (by simp at ht; omega)), Nat.le_trans h5 hk.size, h6, h7⟩
theorem RMSt.kp0 {w wr w2 : World} {r : Nat} {v : Value} {zs : List Int} {k : Nat} {l : List (Int × Int)} {v9 : Value} (h : RMSt w wr r v zs k l v9) (hk : Kp [] wr w2) : RMSt w w2 r v zs k l v9 := by
  obtain ⟨h1, h2, h3, h4, h5, h6, h7⟩ := h
  exact ⟨hk.row h1 (by simp), h2.kp hk (by simp), h3.kp hk (by simp), h4.trans hk, Nat.le_trans h5 hk.size, h6, h7⟩
/-- A block of two cells: what can be read, and that it can be written. -/
theorem blk2 {w : World} {B : Nat} {t : TypeId} {v0 v1 : Value} (h : w.heap[B]? = some (.cells #[v0, v1] t (0, 0))) :
    w.cell? ⟨B, 0, none⟩ = some v0 ∧ w.cell? ⟨B, 1, none⟩ = some v1 ∧ w.frozen? ⟨B, 0, none⟩ = false ∧ w.frozen? ⟨B, 1, none⟩ = false :=
  ⟨by rw [cell_of_row w B 0 _ _ _ h]; rfl, by rw [cell_of_row w B 1 _ _ _ h]; rfl, frozen_of_row w B 0 _ _ h, frozen_of_row w B 1 _ _ h⟩
set_option maxRecDepth 100000 in
set_option maxHeartbeats 4000000 in
theorem rmetload_ok (v : Value) (zs : List Int) (n m : Nat) (h1 : 1 ≤ m) (h2 : m ≤ n) (h3 : n ≤ 65535) (w : World) (hz : IsInts .u8 w v zs) (hb : ∀ c ∈ zs, 0 ≤ c ∧ c ≤ 255) (hv : ∀ b, blockOf v = some b → b < w.heap.size) (hR : kM m n ≤ zs.length) :
    Calls Try.prog 32 #[v, .int .i64 n, .int .i64 m] w fun e w' => ∃ v', e = .returned (.tuple #[v', .bool true]) ∧ IsPairs w' v' (metsL zs m n) ∧ Kp [] w w' := by
  have HB : Hid _ := hb
  have HV : Hid _ := hv
  have HR : Hid (kM m n ≤ zs.length) := hR
  have hle := hz.le
  unfold maxLen at hle
  have hr1 : Rrd (w.alloc (.cells #[v, .int .i64 0, .bool false] 81)) w.heap.size v (0 : Nat) false := heap_alloc_new w _
  have hk1 : Kp [] w (w.alloc (.cells #[v, .int .i64 0, .bool false] 81)) := by (repeat (first | exact Kp.refl _ _ | assumption | refine Kp.drew ?_ | refine Kp.drewN ?_ _ | refine Kp.alloc ?_ _ | (refine Kp.setCell ?_ (by first | (left; simp; done) | (right; simp; try omega)) _) | (refine Kp.trans' ?_ (by assumption) (by simp; try omega))))
  have hz1 := hz.kp hk1 (by simp)
  have hst : RMSt w (w.alloc (.cells #[v, .int .i64 0, .bool false] 81)) w.heap.size v zs (kM m 0) (metsL zs m 0) (.slice none 0 0) :=
    ⟨World.ownsRow_nil _ _ _ _, hr1, hz1, hk1, by simp, rfl, HV.out⟩
  obtain ⟨pa, ca, hva⟩ : ∃ p c, v = .slice p zs.length c := by
    rcases hz with ⟨⟨ad, rfl⟩, rfl⟩ | ⟨g, off, c, rfl, _⟩
    · exact ⟨_, 0, rfl⟩
    · exact ⟨_, c, rfl⟩
  have hlenI : decide ((zs.length : Int) < 4 * (m : Int) + 2 * ((n : Int) - m)) = false := decide_eq_false (by unfold kM at hR; omega)
  clear hb hv hz hr1 hk1 hz1 hR
  subst hva
  go_enter Try.func32, Try.ntmps32
  go_wp2_with fail
  generalize hvv : Value.slice pa zs.length ca = v at *
  clear hvv
  generalize w.alloc (.cells #[v, .int .i64 0, .bool false] 81) = w1 at *
  generalize hr : w.heap.size = r at *
  go_loopw [9, 10, 11] (fun v9 i _ wr => ∃ j : Nat, j ≤ n ∧ i = .int .i64 j ∧ RMSt w wr r v zs (kM m j) (metsL zs m j) v9) (fun _ i _ _ => n - (intOf i).toNat)
  case atStart => exact ⟨0, by omega, rfl, hst⟩
  case round =>
    obtain ⟨j, hj, rfl, hs⟩ := hrel
    clear hst hlenI
    obtain ⟨pL, cL, rfl⟩ := slice_own hs.1
    by_cases hlt : j < n
    · have hlt' : (j : Int) < n := by omega
      have hkl : kM m (j + 1) ≤ zs.length := Nat.le_trans (kM_mono m (j + 1) n hlt) HR.out
      have hks := kM_succ m j
      have hne : blockOf v ≠ some r := fun e => by have := hs.2.2.2.2.2.2 _ e; omega
      have hLl := metsL_length zs m j
      have HLS : Hid (metsL zs m (j + 1) = metsL zs m j ++ [(metA zs m (min j (m - 1)), metB zs m j)]) := metsL_succ zs m j
      have HS : Hid (RMSt w wr r v zs (kM m j) (metsL zs m j) (.slice pL (metsL zs m j).length cL)) := hs
      by_cases hjm : j < m
      · have hjmI : (j : Int) < m := by omega
        rw [if_pos hjm] at hks
        obtain ⟨e1, e2, e3⟩ := rd_fit zs (kM m j) 2 (by omega)
        obtain ⟨f1, f2, f3⟩ := rd_fit zs (kM m j + 2) 2 (by omega)
        rw [show min j (m - 1) = j by omega] at HLS
        have E1 : Hid _ := e1
        have E2 : Hid _ := e2
        have E3 : Hid (rdV zs (kM m j) false 2 = metA zs m j) := e3
        have F1 : Hid _ := f1
        have F2 : Hid (rdK zs (kM m j + 2) false 2 = kM m (j + 1)) := by rw [Hid, f2, hks]
        have F3 : Hid (s16 (rdV zs (kM m j + 2) false 2) = metB zs m j) := by rw [Hid, f3]; unfold metB; rw [if_pos hjm]
        have hK0 : kM m j ≤ zs.length := by omega
        have hK2 : kM m j + 2 ≤ zs.length := by omega
        clear hs e1 e2 e3 f1 f2 f3 hks hkl
        generalize metsL zs m j = L at *
        generalize metA zs m j = a at *
        generalize metB zs m j = b at *
        subst hLl
        have hXr : r < wr.heap.size := by have := HS.out.2.2.2.2.1; omega
        have hXo : (Value.slice pL L.length cL).ownBlock ≠ some wr.heap.size := fun e => by have := (HS.out.1.lt _ e).2; omega
        have hb0 : (wr.alloc (.cells #[.int .i64 0, .int .i64 0] 68)).heap[wr.heap.size]? = some (.cells #[.int .i64 0, .int .i64 0] 68 (0, 0)) := heap_alloc_new wr _
        have HS1 : Hid (RMSt w (wr.alloc (.cells #[.int .i64 0, .int .i64 0] 68)) r v zs (kM m L.length) L (.slice pL L.length cL)) := HS.out.kp0 ((Kp.refl _ _).alloc _)
        generalize hX : wr.heap.size = X at *
        go_wp2_with fail
        refine (ru_calls r v zs (kM m L.length) 2 false 2 rfl _ HS1.out.2.1 HS1.out.2.2.1 HB.out hne (by omega) (by omega) hK0).mono ?_; rintro e u1 ⟨rfl, hr2, hk2⟩
        rw [E1.out, E2.out] at hr2
        rw [E3.out]
        have hb1 := hk2.heap hb0 (by simp; omega)
        obtain ⟨x0, x1, y0, y1⟩ := blk2 hb1
        have hb2 := heap_setCell_same u1 X 0 _ _ (.int .i64 a) hb1
        have HS2 : Hid (RMSt w (u1.setCell ⟨X, 0, none⟩ (.int .i64 a)) r v zs (kM m L.length + 2) L (.slice pL L.length cL)) := (HS1.out.rkp hk2 hr2).other ((Kp.refl [X] u1).setCell (.inl (by simp)) _) hXr hXo
        have HB2 : Hid ((u1.setCell ⟨X, 0, none⟩ (.int .i64 a)).heap[X]? = some (.cells #[.int .i64 a, .int .i64 0] 68 (0, 0))) := hb2
        clear hr2 hk2 hb0 hb1 hb2
        go_wp2_with fail
        refine (ri16_calls r v zs (kM m L.length + 2) false _ HS2.out.2.1 HS2.out.2.2.1 HB.out hne hK2).mono ?_; rintro e u3 ⟨rfl, hr3, hk3⟩
        rw [F1.out, F2.out] at hr3
        rw [F3.out]
        have hb3 := hk3.heap HB2.out (by simp; omega)
        clear x0 x1 y0 y1
        obtain ⟨x0, x1, y0, y1⟩ := blk2 hb3
        have HS4 : Hid (RMSt w (u3.setCell ⟨X, 1, none⟩ (.int .i64 b)) r v zs (kM m (L.length + 1)) L (.slice pL L.length cL)) := (HS2.out.rkp hk3 hr3).other ((Kp.refl [X] u3).setCell (.inl (by simp)) _) hXr hXo
        clear hr3 hk3 hb3
        go_wp2_with (at_builtin; refine wpList_app rfl _ _ 45 rfl (r + 1) 68 (.agg #[.int .i64 0, .int .i64 0]) 2 16 Try.underlying45 infoMetr rfl (by decide) (by decide) (.slice pL L.length cL) L.length (pairCells L) rfl ?hown (.slice (some ⟨u3.heap.size, 0, none⟩) 1 1) 1 [.int .i64 a, .int .i64 b] rfl ?hsrc ?hone ?hb1 ?hb2 ?hk)
        case hown => exact HS4.out.1.alloc _
        case hsrc => exact Reads.made _ _ 2 1 [.int .i64 a, .int .i64 b] _ (by simp [World.setCell]) rfl (by decide)
        case hone => intro u hu; simp at hu; rcases hu with rfl | rfl <;> rfl
        case hb1 => omega
        case hb2 => have := HS4.out.2.2.2.2.1; simp [World.setCell] at this ⊢; omega
        case hk =>
        intro z u4 hown hgr
        have hs5 := HS4.out.app hown hgr
        rw [← HLS.out] at hs5
        clear hown hgr
        go_wp2_with fail
        go_roundw
        case rel => first | exact ⟨L.length + 1, by omega, int_eq' (by omega), hs5⟩ | ((repeat apply Exists.intro); exact ⟨⟨L.length + 1, by omega, int_eq' (by omega), hs5⟩, rfl⟩) | ((repeat apply Exists.intro); refine ⟨?_, rfl⟩; exact ⟨L.length + 1, by omega, int_eq' (by omega), hs5⟩)
        case measure => simp [intOf]; omega
      · have hjmI : decide ((j : Int) < m) = false := decide_eq_false (by omega)
        rw [if_neg hjm] at hks
        obtain ⟨f1, f2, f3⟩ := rd_fit zs (kM m j) 2 (by omega)
        rw [show min j (m - 1) = m - 1 by omega] at HLS
        have F1 : Hid _ := f1
        have F2 : Hid (rdK zs (kM m j) false 2 = kM m (j + 1)) := by rw [Hid, f2, hks]
        have F3 : Hid (s16 (rdV zs (kM m j) false 2) = metB zs m j) := by rw [Hid, f3]; unfold metB; rw [if_neg hjm]; rfl
        have hK0 : kM m j ≤ zs.length := by omega
        have hgd := metsL_getD zs m j (m - 1) (by omega)
        rw [show min (m - 1) (m - 1) = m - 1 by omega] at hgd
        have hcl : ∃ g1 o1, pL = some ⟨g1, o1, none⟩ ∧ wr.cell? ⟨g1, o1 + (m - 1) * 2, none⟩ = some (.int .i64 (metA zs m (m - 1))) := by
          rcases (IsPairs.owned rfl hs.1).cases with ⟨ad, h, h'⟩ | ⟨g1, o1, c1, h, _, _, h3⟩
          · rw [h'] at hLl; simp at hLl; omega
          · cases h
            have := (h3 (m - 1) (by omega)).1
            rw [hgd] at this
            exact ⟨_, _, rfl, this⟩
        obtain ⟨g1, o1, rfl, hcl⟩ := hcl
        have hmI : (m : Int) - 1 < j := by omega
        have hmJ : (0 : Int) ≤ (m : Int) - 1 := by omega
        have hmT : ((m : Int) - 1).toNat = m - 1 := by omega
        clear hs f1 f2 f3 hks hkl hgd
        generalize metsL zs m j = L at *
        generalize metA zs m (m - 1) = a at *
        generalize metB zs m j = b at *
        subst hLl
        have hXr : r < wr.heap.size := by have := HS.out.2.2.2.2.1; omega
        have hXo : (Value.slice (some ⟨g1, o1, none⟩) L.length cL).ownBlock ≠ some wr.heap.size := fun e => by have := (HS.out.1.lt _ e).2; omega
        have hgX : g1 < wr.heap.size := World.block_lt_of_cell? wr _ hcl
        have HS1 : Hid (RMSt w (wr.alloc (.cells #[.int .i64 a, .int .i64 0] 68)) r v zs (kM m L.length) L (.slice (some ⟨g1, o1, none⟩) L.length cL)) := HS.out.kp0 ((Kp.refl _ _).alloc _)
        have HB1 : Hid ((wr.alloc (.cells #[.int .i64 a, .int .i64 0] 68)).heap[wr.heap.size]? = some (.cells #[.int .i64 a, .int .i64 0] 68 (0, 0))) := heap_alloc_new wr _
        go_wp2_with fail
        refine (ri16_calls r v zs (kM m L.length) false _ HS1.out.2.1 HS1.out.2.2.1 HB.out hne hK0).mono ?_; rintro e u3 ⟨rfl, hr3, hk3⟩
        rw [F1.out, F2.out] at hr3
        rw [F3.out]
        generalize hX : wr.heap.size = X at *
        have hb3 := hk3.heap HB1.out (by simp; omega)
        obtain ⟨x0, x1, y0, y1⟩ := blk2 hb3
        have HS4 : Hid (RMSt w (u3.setCell ⟨X, 1, none⟩ (.int .i64 b)) r v zs (kM m (L.length + 1)) L (.slice (some ⟨g1, o1, none⟩) L.length cL)) := (HS1.out.rkp hk3 hr3).other ((Kp.refl [X] u3).setCell (.inl (by simp)) _) hXr hXo
        clear hr3 hk3 hb3 hcl
        go_wp2_with (at_builtin; refine wpList_app rfl _ _ 45 rfl (r + 1) 68 (.agg #[.int .i64 0, .int .i64 0]) 2 16 Try.underlying45 infoMetr rfl (by decide) (by decide) (.slice (some ⟨g1, o1, none⟩) L.length cL) L.length (pairCells L) rfl ?hown (.slice (some ⟨u3.heap.size, 0, none⟩) 1 1) 1 [.int .i64 a, .int .i64 b] rfl ?hsrc ?hone ?hb1 ?hb2 ?hk)
        case hown => exact HS4.out.1.alloc _
        case hsrc => exact Reads.made _ _ 2 1 [.int .i64 a, .int .i64 b] _ (by simp [World.setCell]) rfl (by decide)
        case hone => intro u hu; simp at hu; rcases hu with rfl | rfl <;> rfl
        case hb1 => omega
        case hb2 => have := HS4.out.2.2.2.2.1; simp [World.setCell] at this ⊢; omega
        case hk =>
        intro z u4 hown hgr
        have hs5 := HS4.out.app hown hgr
        rw [← HLS.out] at hs5
        clear hown hgr
        go_wp2_with fail
        go_roundw
        case rel => first | exact ⟨L.length + 1, by omega, int_eq' (by omega), hs5⟩ | ((repeat apply Exists.intro); exact ⟨⟨L.length + 1, by omega, int_eq' (by omega), hs5⟩, rfl⟩) | ((repeat apply Exists.intro); refine ⟨?_, rfl⟩; exact ⟨L.length + 1, by omega, int_eq' (by omega), hs5⟩)
        case measure => simp [intOf]; omega
    · obtain rfl : j = n := by omega
      have hd : Hid (IsPairs wr (.slice pL (metsL zs m j).length cL) (metsL zs m j)) := IsPairs.owned rfl hs.1
      have hkp := hs.2.2.2.1
      have hlt' : ¬ ((j : Int) < (j : Int)) := by omega
      clear hs
      go_wp2_with fail
      go_ret2
      exact ⟨_, rfl, hd.out, hkp⟩
theorem rmetload_calls (v : Value) (zs : List Int) (n m : Nat) (h1 : 1 ≤ m) (h2 : m ≤ n) (h3 : n ≤ 65535) (w : World) (hz : IsInts .u8 w v zs) (hb : ∀ c ∈ zs, 0 ≤ c ∧ c ≤ 255) (hv : ∀ b, blockOf v = some b → b < w.heap.size) :
    Calls Try.prog 32 #[v, .int .i64 n, .int .i64 m] w fun e w' => (zs.length < kM m n ∧ ∃ v', e = .returned (.tuple #[v', .bool false]) ∧ Kp [] w w') ∨ (kM m n ≤ zs.length ∧ ∃ v', e = .returned (.tuple #[v', .bool true]) ∧ IsPairs w' v' (metsL zs m n) ∧ Kp [] w w') := by
  by_cases hR : kM m n ≤ zs.length
  · exact (rmetload_ok v zs n m h1 h2 h3 w hz hb hv hR).mono fun e w' h => .inr ⟨hR, h⟩
  · have hle := hz.le
    unfold maxLen at hle
    have HR : Hid (zs.length < kM m n) := by rw [Hid]; omega
    have hlenI : (zs.length : Int) < 4 * (m : Int) + 2 * ((n : Int) - m) := by unfold kM at hR; omega
    obtain ⟨pa, ca, rfl⟩ : ∃ p c, v = .slice p zs.length c := by
      rcases hz with ⟨⟨ad, rfl⟩, rfl⟩ | ⟨g, off, c, rfl, _⟩
      · exact ⟨_, 0, rfl⟩
      · exact ⟨_, c, rfl⟩
    clear hz hb hv hR
    go_enter Try.func32, Try.ntmps32
    go_wp2_with fail
    go_ret2
    exact .inl ⟨HR.out, _, rfl, by (repeat (first | exact Kp.refl _ _ | assumption | refine Kp.drew ?_ | refine Kp.drewN ?_ _ | refine Kp.alloc ?_ _ | (refine Kp.setCell ?_ (by first | (left; simp; done) | (right; simp; try omega)) _) | (refine Kp.trans' ?_ (by assumption) (by simp; try omega))))⟩
set_option maxRecDepth 100000 in
set_option maxHeartbeats 4000000 in
theorem holds_calls (q : Nat) (v : Value) (A B : List Int) (l : List (Int × Int)) (glyph : Int) (w : World) (h : IsMet w q A B) (hv : IsPairs w v l) (hB : B.length = l.length) (hA1 : 1 ≤ A.length) (hA2 : A.length ≤ 65535) (hl : 1 ≤ l.length ∧ l.length ≤ 65535)
    (hp : ∀ i, i < l.length → l.getD i (0, 0) = (A.getD (min i (A.length - 1)) 0, B.getD i 0)) :
    Calls Try.prog 31 #[.pointer (some ⟨q, 0, none⟩), v, .int .i64 glyph] w fun e w' => e = .returned (.bool true) ∧ Kp [] w w' := by
  have HP : Hid (IsMet w q A B) := h
  have HL : Hid _ := hp
  obtain ⟨hl1, hl2⟩ := hl
  rcases hv.cases with ⟨ad, rfl, rfl⟩ | ⟨g, off, c, rfl, p1, p2, p3⟩
  · simp at hl1
  have HC : Hid _ := p3
  have HBL : Hid (B.length = l.length) := hB
  have hI : (l.length : Int) ≤ 65535 := by omega
  clear p3 h hv hp hB
  go_enter Try.func31, Try.ntmps31
  go_wp2_with fail
  refine (metlen_calls q A B _ HP.out).mono ?_; rintro e w' ⟨rfl, rfl⟩
  rw [HBL.out]
  go_wp2_with fail
  go_loopw [7, 8, 9] (fun i _ _ wr => ∃ j : Nat, j ≤ l.length ∧ i = .int .i64 j ∧ Kp [] w' wr) (fun i _ _ _ => l.length - (intOf i).toNat)
  case atStart => exact ⟨0, by omega, rfl, Kp.refl _ _⟩
  case round =>
    obtain ⟨j, hj, rfl, hk⟩ := hrel
    by_cases hlt : j < l.length
    · have hlt' : (j : Int) < l.length := by omega
      have c1 := hk.cell (HC.out j hlt).1 (by simp)
      have c2 := hk.cell (HC.out j hlt).2 (by simp)
      have hcl := metat_in q A B j wr (HP.out.kp hk) (by rw [HBL.out]; exact hlt) hA1 hA2
      have hpj := HL.out j hlt
      rw [hpj] at c1 c2
      have HCL : Hid _ := hcl
      clear hcl hpj
      generalize A.getD (min j (A.length - 1)) 0 = x at *
      generalize B.getD j 0 = y at *
      go_wp2_with fail
      refine Calls.mono HCL.out ?_; rintro e w3 ⟨rfl, hk3⟩
      have hka : Kp [] w3 (w3.alloc (.cells #[.int .i64 x, .int .i64 y] 68)) := (Kp.refl _ _).alloc _
      have d1 := hka.cell (hk3.cell c1 (by simp)) (by simp)
      have d2 := hka.cell (hk3.cell c2 (by simp)) (by simp)
      clear hka
      clear HCL c1 c2
      go_wp2_with fail
      go_quiet (fail)
      go_wp2_with fail
      go_roundw
      case rel => first | exact ⟨j + 1, by omega, int_eq' (by omega), ((hk.trans hk3).alloc _).drewN _⟩ | ((repeat apply Exists.intro); exact ⟨⟨j + 1, by omega, int_eq' (by omega), ((hk.trans hk3).alloc _).drewN _⟩, rfl⟩) | ((repeat apply Exists.intro); refine ⟨?_, rfl⟩; exact ⟨j + 1, by omega, int_eq' (by omega), ((hk.trans hk3).alloc _).drewN _⟩)
      case measure => simp [intOf]; omega
    · have hlt' : ¬ (j : Int) < (l.length : Int) := by omega
      by_cases h0 : 0 ≤ glyph
      · by_cases h9 : glyph < (l.length : Int)
        · obtain ⟨gn, rfl⟩ : ∃ gn : Nat, glyph = gn := ⟨glyph.toNat, by omega⟩
          have hgn : gn < l.length := by omega
          have c1 := hk.cell (HC.out gn hgn).1 (by simp)
          have c2 := hk.cell (HC.out gn hgn).2 (by simp)
          have hcl := metat_in q A B gn wr (HP.out.kp hk) (by rw [HBL.out]; exact hgn) hA1 hA2
          have hpj := HL.out gn hgn
          rw [hpj] at c1 c2
          have HCL : Hid _ := hcl
          clear hcl hpj
          generalize A.getD (min gn (A.length - 1)) 0 = x at *
          generalize B.getD gn 0 = y at *
          go_wp2_with fail
          refine Calls.mono HCL.out ?_; rintro e w3 ⟨rfl, hk3⟩
          have hka : Kp [] w3 (w3.alloc (.cells #[.int .i64 x, .int .i64 y] 68)) := (Kp.refl _ _).alloc _
          have d1 := hka.cell (hk3.cell c1 (by simp)) (by simp)
          have d2 := hka.cell (hk3.cell c2 (by simp)) (by simp)
          clear hka
          clear HCL c1 c2
          go_wp2_with fail
          go_quiet (fail)
          go_wp2_with fail
          go_ret
          exact ⟨by first | rfl | simp, by (repeat (first | exact Kp.refl _ _ | assumption | refine Kp.drew ?_ | refine Kp.drewN ?_ _ | refine Kp.alloc ?_ _ | (refine Kp.setCell ?_ (by first | (left; simp; done) | (right; simp; try omega)) _) | (refine Kp.trans' ?_ (by assumption) (by simp; try omega))))⟩
        · have h9' : decide (glyph < (l.length : Int)) = false := decide_eq_false h9
          go_wp2_with fail
          refine (metat_out q A B glyph wr (HP.out.kp hk) (by rw [HBL.out]; omega)).mono ?_; rintro e w3 ⟨rfl, hk3⟩
          go_wp2_with fail
          go_ret
          exact ⟨by first | rfl | simp, by (repeat (first | exact Kp.refl _ _ | assumption | refine Kp.drew ?_ | refine Kp.drewN ?_ _ | refine Kp.alloc ?_ _ | (refine Kp.setCell ?_ (by first | (left; simp; done) | (right; simp; try omega)) _) | (refine Kp.trans' ?_ (by assumption) (by simp; try omega))))⟩
      · have h0' : decide (0 ≤ glyph) = false := decide_eq_false h0
        go_wp2_with fail
        refine (metat_out q A B glyph wr (HP.out.kp hk) (.inl (by omega))).mono ?_; rintro e w3 ⟨rfl, hk3⟩
        go_wp2_with fail
        go_ret
        exact ⟨by first | rfl | simp, by (repeat (first | exact Kp.refl _ _ | assumption | refine Kp.drew ?_ | refine Kp.drewN ?_ _ | refine Kp.alloc ?_ _ | (refine Kp.setCell ?_ (by first | (left; simp; done) | (right; simp; try omega)) _) | (refine Kp.trans' ?_ (by assumption) (by simp; try omega))))⟩
end Go.Proofs.Ythmokldmdcjklaa

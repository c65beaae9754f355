/- flatten: the scaler's dot · flatten: the scaler's bow · flatten: the iterator of Dots for a loop body that keeps the bow alone; AppendSeq · flatten: AppendSeq of a bow's dots. (Merged by wip/tools/mergetpl.py out of FlQ, FlR, FlS, FlT.) -/
import Derived.Test.YtpbmefojhgcniaaFmA
import Derived.Test.YtpbmefojhgcniaaOmE
import Derived.Deep.RegionHeld3
import Derived.Deep.DeepCutAuto
import Derived.Test.YtpbmefojhgcniaaOwA
import Derived.Test.YtpbmefojhgcniaaFmC
import Derived.Test.YtpbmefojhgcniaaFmB
namespace Go.Proofs.Ytpbmefojhgcniaa
open Go.RowKit
set_option linter.unusedVariables false
set_option linter.unusedSimpArgs false
/-- A scaler lies in block B. -/
def ScrAt (W : World) (B : Nat) (s : Sc) (e : Int) : Prop := W.heap[B]? = some (.cells #[.int .i64 s.u, .int .i64 s.p, .int .i64 s.fx, .int .i64 s.fy, .int .i64 e] 64 (0, 0))
theorem ScrAt.cells {W : World} {B : Nat} {s : Sc} {e : Int} (h : ScrAt W B s e) : W.cell? ⟨B, 0, none⟩ = some (.int .i64 s.u) ∧ W.cell? ⟨B, 1, none⟩ = some (.int .i64 s.p) ∧ W.cell? ⟨B, 2, none⟩ = some (.int .i64 s.fx) ∧ W.cell? ⟨B, 3, none⟩ = some (.int .i64 s.fy) ∧ W.cell? ⟨B, 4, none⟩ = some (.int .i64 e) :=
  ⟨by rw [cell_of_row W B 0 _ _ (0, 0) h]; rfl, by rw [cell_of_row W B 1 _ _ (0, 0) h]; rfl, by rw [cell_of_row W B 2 _ _ (0, 0) h]; rfl, by rw [cell_of_row W B 3 _ _ (0, 0) h]; rfl, by rw [cell_of_row W B 4 _ _ (0, 0) h]; rfl⟩
theorem ScrAt.frozen {W : World} {B : Nat} {s : Sc} {e : Int} (h : ScrAt W B s e) : W.frozen? ⟨B, 4, none⟩ = false := frozen_of_row W B 4 _ _ h
theorem ScrAt.kp {S : List Nat} {W W' : World} {B : Nat} {s : Sc} {e : Int} (h : ScrAt W B s e) (hk : Kp S W W') (hB : B ∉ S) : ScrAt W' B s e := hk.heap h hB
theorem ScrAt.set {W : World} {B : Nat} {s : Sc} {e : Int} (h : ScrAt W B s e) (x : Int) : ScrAt (W.setCell ⟨B, 4, none⟩ (.int .i64 x)) B s x := heap_setCell_same W B 4 _ _ _ h
theorem ScrAt.far {W : World} {B : Nat} {s : Sc} {e : Int} (h : ScrAt W B s e) {p : Addr} (hp : B ≠ p.block) (u : Value) : ScrAt (W.setCell p u) B s e := by
  unfold ScrAt at h ⊢; rw [heap_setCell_other W p B u hp]; exact h
theorem DtAt.far {W : World} {B : Nat} {x y : Int} (h : DtAt W B x y) {p : Addr} (hp : B ≠ p.block) (u : Value) : DtAt (W.setCell p u) B x y := by
  unfold DtAt at h ⊢; rw [heap_setCell_other W p B u hp]; exact h
/-- What dot has behind its call. -/
def SdSt (w W : World) (B D : Nat) (s : Sc) (e : Int) (q : Int × Int) : Prop :=
  ScrAt W B s e ∧ DtAt W D q.1 q.2 ∧ DtAt W (w.heap.size + 1) 0 0 ∧ Kp [] w W ∧ w.heap.size + 1 < D
set_option maxRecDepth 100000 in
set_option maxHeartbeats 4000000 in
theorem fsdot_calls (B : Nat) (s : Sc) (e : Int) (p : Pn) (w : World) (hb : ScrAt w B s e) : Calls Try.prog 77 #[.pointer (some ⟨B, 0, none⟩), pnV p] w fun r w' => r = .returned (dotV (dotS s p).1) ∧ ScrAt w' B s (if e = 0 then (dotS s p).2 else e) ∧ Kp [B] w w' := by
  have HD := Lib.hid (fun W => fdot_calls s p W)
  have HB := Lib.hid hb
  have hBlt := lt_of_block hb
  generalize dotS s p = r at *
  obtain ⟨⟨q1, q2⟩, E⟩ := r
  dsimp only at HD ⊢
  rw [show dotV (q1, q2) = .agg #[.int .i64 q1, .int .i64 q2] from rfl] at HD ⊢
  rw [show pnV p = .agg #[.int .i64 p.x, .int .i64 p.y, .int .i64 p.k] from rfl] at HD ⊢
  rw [show scV s = .agg #[.int .i64 s.u, .int .i64 s.p, .int .i64 s.fx, .int .i64 s.fy] from rfl] at HD
  obtain ⟨X, hX⟩ : ∃ X, (if e = 0 then E else e) = X := ⟨_, rfl⟩
  have HX := Lib.hid hX
  rw [hX]
  clear hb hX
  go_enter Try.func77, Try.ntmps77
  go_upto_region 1 with fail
  go_cut [5, 6] (fun s5 s6 wx => ∃ D, s5 = .pointer (some ⟨D, 0, none⟩) ∧ s6 = .int .i64 E ∧ Hid (SdSt w wx B D s e (q1, q2)))
  case first =>
    refine wp_gen ?_; intro W0 hW0
    obtain ⟨t1, t2⟩ := two_heap (w := w) (A := .cells #[.int .i64 p.x, .int .i64 p.y, .int .i64 p.k] 25) (B := .cells #[.int .i64 0, .int .i64 0] 27) rfl
    have hk0 : Kp [] w W0 := by rw [hW0]; (repeat (first | exact Kp.refl _ _ | assumption | refine Kp.drew ?_ | refine Kp.drewN ?_ _ | refine Kp.alloc ?_ _ | (refine Kp.setCell ?_ (by first | (left; simp; done) | (right; simp; try omega)) _) | (refine Kp.trans' ?_ (by assumption) (by simp; try omega))))
    have HK0 := Lib.hid hk0
    have HB0 : Hid (ScrAt W0 B s e) := HB.out.kp hk0 (by simp)
    have HP0 : Hid (PnAt W0 w.heap.size p) := by show PnAt _ _ _; rw [hW0]; exact t1
    have HR0 : Hid (DtAt W0 (w.heap.size + 1) 0 0) := by show DtAt _ _ _ _; rw [hW0]; exact t2
    have HSZ : Hid (w.heap.size + 1 < W0.heap.size) := lt_of_block HR0.out
    have HBL : Hid (B < W0.heap.size) := lt_of_block HB0.out
    clear hW0 hk0 t1 t2
    have HKC : Hid (∀ w', Kp [] W0 w' → (w'.cell? ⟨B, 0, none⟩ = some (.int .i64 s.u) ∧ w'.cell? ⟨B, 1, none⟩ = some (.int .i64 s.p) ∧ w'.cell? ⟨B, 2, none⟩ = some (.int .i64 s.fx) ∧ w'.cell? ⟨B, 3, none⟩ = some (.int .i64 s.fy)) ∧ w'.cell? ⟨w.heap.size, 0, none⟩ = some (.int .i64 p.x) ∧ w'.cell? ⟨w.heap.size, 1, none⟩ = some (.int .i64 p.y) ∧ w'.cell? ⟨w.heap.size, 2, none⟩ = some (.int .i64 p.k)) := fun w' hk => by
      obtain ⟨b0, b1, b2, b3, b4⟩ := HB0.out.cells
      obtain ⟨c0, c1, c2⟩ := HP0.out.cells
      exact ⟨⟨hk.cell b0 (by simp), hk.cell b1 (by simp), hk.cell b2 (by simp), hk.cell b3 (by simp)⟩, hk.cell c0 (by simp), hk.cell c1 (by simp), hk.cell c2 (by simp)⟩
    obtain ⟨⟨b0, b1, b2, b3⟩, c0, c1, c2⟩ := HKC.out W0 (Kp.refl _ _)
    go_region_held3 (fun w' => (w'.cell? ⟨B, 0, none⟩ = some (.int .i64 s.u) ∧ w'.cell? ⟨B, 1, none⟩ = some (.int .i64 s.p) ∧ w'.cell? ⟨B, 2, none⟩ = some (.int .i64 s.fx) ∧ w'.cell? ⟨B, 3, none⟩ = some (.int .i64 s.fy)) ∧ w'.cell? ⟨w.heap.size, 0, none⟩ = some (.int .i64 p.x) ∧ w'.cell? ⟨w.heap.size, 1, none⟩ = some (.int .i64 p.y) ∧ w'.cell? ⟨w.heap.size, 2, none⟩ = some (.int .i64 p.k)) (first | go_keep | (refine HKC.out _ ?_; ((repeat (first | exact Kp.refl _ _ | assumption | refine Kp.drew ?_ | refine Kp.drewN ?_ _ | refine Kp.alloc ?_ _)); done)) | (refine HKC.out _ ?_; refine (Kp.setCell (Kp.setCell ?_ (.inr (Nat.le_refl _)) _) (.inr (Nat.le_refl _)) _); ((repeat (first | exact Kp.refl _ _ | assumption | refine Kp.drew ?_ | refine Kp.drewN ?_ _ | refine Kp.alloc ?_ _)); done)))
      (first
        | (go_at_call 8
           refine (HD.out _).mono ?_
           rintro e x1 ⟨rfl, hk1⟩
           have hA : Kp [] W0 x1 := Kp.trans (by (repeat (first | exact Kp.refl _ _ | assumption | refine Kp.drew ?_ | refine Kp.drewN ?_ _ | refine Kp.alloc ?_ _ | (refine Kp.setCell ?_ (by first | (left; simp; done) | (right; simp; try omega)) _) | (refine Kp.trans' ?_ (by assumption) (by simp; try omega))))) hk1
           try (have hy : DtAt x1 W0.heap.size 0 0 := hk1.heap (heap_alloc_new W0 _) (List.not_mem_nil); obtain ⟨y0, y1, y2, y3⟩ := hy.cells)))
    · go_wp2_with fail
      go_meet
      have hka : Kp [] W0 (x1.alloc (.cells #[.int .i64 q1, .int .i64 q2] 27)) := hA.alloc _
      exact ⟨_, rfl, rfl, HB0.out.kp hka (by simp), heap_alloc_new _ _, HR0.out.kp0 hka, HK0.out.trans hka, by have h1 := hA.size; have h2 := HSZ.out; omega⟩
    · go_wp2_with fail
      go_meet
      have h2 := HSZ.out
      have h3 := HBL.out
      exact ⟨_, rfl, rfl, ((HB0.out.kp hA (by simp)).far (by show B ≠ W0.heap.size; omega) _).far (by show B ≠ W0.heap.size; omega) _, hy.set q1 q2, ((HR0.out.kp0 hA).far (by show w.heap.size + 1 ≠ W0.heap.size; omega) _).far (by show w.heap.size + 1 ≠ W0.heap.size; omega) _,
        ((HK0.out.trans hA).setCell (.inr (by show w.heap.size ≤ W0.heap.size; omega)) _).setCell (.inr (by show w.heap.size ≤ W0.heap.size; omega)) _, h2⟩
  obtain ⟨D, rfl, rfl, HS⟩ := hcut
  obtain ⟨b0, b1, b2, b3, b4⟩ := HS.out.1.cells
  have fb4 := HS.out.1.frozen
  clear b0 b1 b2 b3
  have hBw : B ≠ w.heap.size + 1 := by omega
  have hBD : B ≠ D := by have := HS.out.2.2.2.2; omega
  have hRD : w.heap.size + 1 ≠ D := by have := HS.out.2.2.2.2; omega
  by_cases he : e = 0
  · have HXE : Hid (X = E) := by show _ = _; rw [← HX.out, if_pos he]
    clear HX
    subst he
    obtain ⟨d0, d1, _, _⟩ := (HS.out.2.1.far (p := ⟨B, 4, none⟩) (Ne.symm hBD) (.int .i64 E)).cells
    obtain ⟨r0, r1, f0, f1⟩ := (HS.out.2.2.1.far (p := ⟨B, 4, none⟩) (Ne.symm hBw) (.int .i64 E)).cells
    have HBF : Hid (ScrAt ((((wc.setCell ⟨B, 4, none⟩ (.int .i64 E))).setCell ⟨w.heap.size + 1, 0, none⟩ (.int .i64 q1)).setCell ⟨w.heap.size + 1, 1, none⟩ (.int .i64 q2)) B s E) := ((HS.out.1.set E).far hBw _).far hBw _
    have HRF := ((HS.out.2.2.1.far (p := ⟨B, 4, none⟩) (Ne.symm hBw) (.int .i64 E)).set q1 q2).cells
    obtain ⟨z0, z1, _, _⟩ := HRF
    go_wp2_with fail
    refine bodyPost_ret (v := .agg #[.int .i64 q1, .int .i64 q2]) (by simp [results, Try.results77, go_sem, z0, z1]) rfl ⟨rfl, by rw [HXE.out]; exact HBF.out, ?_⟩
    exact ((((HS.out.2.2.2.1.more (fun s hs => nomatch hs)).setCell (.inl (by simp)) _).setCell (.inr (by show _ ≤ w.heap.size + 1; omega)) _).setCell (.inr (by show _ ≤ w.heap.size + 1; omega)) _)
  · have he2 : (e == 0) = false := by rw [beq_eq_false_iff_ne]; exact he
    have HXE : Hid (X = e) := by show _ = _; rw [← HX.out, if_neg he]
    clear HX
    obtain ⟨d0, d1, _, _⟩ := HS.out.2.1.cells
    obtain ⟨r0, r1, f0, f1⟩ := HS.out.2.2.1.cells
    have HBF : Hid (ScrAt ((wc.setCell ⟨w.heap.size + 1, 0, none⟩ (.int .i64 q1)).setCell ⟨w.heap.size + 1, 1, none⟩ (.int .i64 q2)) B s e) := (HS.out.1.far hBw _).far hBw _
    obtain ⟨z0, z1, _, _⟩ := (HS.out.2.2.1.set q1 q2).cells
    clear he
    go_wp2_with fail
    refine bodyPost_ret (v := .agg #[.int .i64 q1, .int .i64 q2]) (by simp [results, Try.results77, go_sem, z0, z1]) rfl ⟨rfl, by rw [HXE.out]; exact HBF.out, ?_⟩
    exact (((HS.out.2.2.2.1.more (fun s hs => nomatch hs)).setCell (.inr (by show _ ≤ w.heap.size + 1; omega)) _).setCell (.inr (by show _ ≤ w.heap.size + 1; omega)) _)
end Go.Proofs.Ytpbmefojhgcniaa
namespace Go.Proofs.Ytpbmefojhgcniaa
open Go.RowKit
set_option linter.unusedVariables false
set_option linter.unusedSimpArgs false
/-- The first thing that is wrong with these points. -/
def bowErr (s : Sc) : Int → List Pn → Int
  | e, [] => e
  | e, p :: l => bowErr s (if e = 0 then (dotS s p).2 else e) l
def bowS (s : Sc) (q : Cv) : Bw := ⟨q.k, (dotS s q.a).1, if q.k = 3 ∨ q.k = 2 then (dotS s q.b).1 else (0, 0), if q.k = 3 then (dotS s q.c).1 else (0, 0), (dotS s q.d).1⟩
def bowPs (q : Cv) : List Pn := if q.k = 3 then [q.a, q.d, q.c, q.b] else if q.k = 2 then [q.a, q.d, q.b] else [q.a, q.d]
def bw0 : Bw := ⟨0, (0, 0), (0, 0), (0, 0), (0, 0)⟩
theorem BowAt.cells {W : World} {B : Nat} {q : Bw} (h : BowAt W B q) : W.cell? ⟨B, 0, none⟩ = some (.int .i64 q.k) ∧ W.cell? ⟨B, 1, none⟩ = some (.int .i64 q.a.1) ∧ W.cell? ⟨B, 2, none⟩ = some (.int .i64 q.a.2) ∧ W.cell? ⟨B, 3, none⟩ = some (.int .i64 q.b.1) ∧ W.cell? ⟨B, 4, none⟩ = some (.int .i64 q.b.2) ∧ W.cell? ⟨B, 5, none⟩ = some (.int .i64 q.c.1) ∧ W.cell? ⟨B, 6, none⟩ = some (.int .i64 q.c.2) ∧ W.cell? ⟨B, 7, none⟩ = some (.int .i64 q.d.1) ∧ W.cell? ⟨B, 8, none⟩ = some (.int .i64 q.d.2) := by
  refine ⟨?_, ?_, ?_, ?_, ?_, ?_, ?_, ?_, ?_⟩ <;> (rw [cell_of_row W B _ _ _ (0, 0) h]; rfl)
theorem BowAt.frozen {W : World} {B : Nat} {q : Bw} (h : BowAt W B q) (k : Nat) : W.frozen? ⟨B, k, none⟩ = false := frozen_of_row W B k _ _ h
theorem bow0_cells {W : World} {B : Nat} (h : W.heap[B]? = some (.cells #[.int .i64 0, .int .i64 0, .int .i64 0, .int .i64 0, .int .i64 0, .int .i64 0, .int .i64 0, .int .i64 0, .int .i64 0] 71)) : (W.cell? ⟨B, 0, none⟩ = some (.int .i64 0) ∧ W.cell? ⟨B, 1, none⟩ = some (.int .i64 0) ∧ W.cell? ⟨B, 2, none⟩ = some (.int .i64 0) ∧ W.cell? ⟨B, 3, none⟩ = some (.int .i64 0) ∧ W.cell? ⟨B, 4, none⟩ = some (.int .i64 0) ∧ W.cell? ⟨B, 5, none⟩ = some (.int .i64 0) ∧ W.cell? ⟨B, 6, none⟩ = some (.int .i64 0) ∧ W.cell? ⟨B, 7, none⟩ = some (.int .i64 0) ∧ W.cell? ⟨B, 8, none⟩ = some (.int .i64 0)) ∧ W.frozen? ⟨B, 0, none⟩ = false ∧ W.frozen? ⟨B, 1, none⟩ = false ∧ W.frozen? ⟨B, 2, none⟩ = false ∧ W.frozen? ⟨B, 3, none⟩ = false ∧ W.frozen? ⟨B, 4, none⟩ = false ∧ W.frozen? ⟨B, 5, none⟩ = false ∧ W.frozen? ⟨B, 6, none⟩ = false ∧ W.frozen? ⟨B, 7, none⟩ = false ∧ W.frozen? ⟨B, 8, none⟩ = false :=
  have h2 : BowAt W B bw0 := h
  ⟨h2.cells, h2.frozen 0, h2.frozen 1, h2.frozen 2, h2.frozen 3, h2.frozen 4, h2.frozen 5, h2.frozen 6, h2.frozen 7, h2.frozen 8⟩
theorem BowAt.kp {S : List Nat} {W W' : World} {B : Nat} {q : Bw} (h : BowAt W B q) (hk : Kp S W W') (hB : B ∉ S) : BowAt W' B q := hk.heap h hB
theorem BowAt.far {W : World} {B : Nat} {q : Bw} (h : BowAt W B q) {p : Addr} (hp : B ≠ p.block) (u : Value) : BowAt (W.setCell p u) B q := by
  unfold BowAt at h ⊢; rw [heap_setCell_other W p B u hp]; exact h
theorem BowAt.putB {W : World} {B : Nat} {k : Int} {a b c d : Int × Int} (h : BowAt W B ⟨k, a, b, c, d⟩) (x y : Int) : BowAt ((W.setCell ⟨B, 3, none⟩ (.int .i64 x)).setCell ⟨B, 4, none⟩ (.int .i64 y)) B ⟨k, a, (x, y), c, d⟩ := by
  have h1 := heap_setCell_same W B 3 _ _ (.int .i64 x) h
  have h2 := heap_setCell_same _ B 4 _ _ (.int .i64 y) h1
  simpa [BowAt] using h2
theorem BowAt.putC {W : World} {B : Nat} {k : Int} {a b c d : Int × Int} (h : BowAt W B ⟨k, a, b, c, d⟩) (x y : Int) : BowAt ((W.setCell ⟨B, 5, none⟩ (.int .i64 x)).setCell ⟨B, 6, none⟩ (.int .i64 y)) B ⟨k, a, b, (x, y), d⟩ := by
  have h1 := heap_setCell_same W B 5 _ _ (.int .i64 x) h
  have h2 := heap_setCell_same _ B 6 _ _ (.int .i64 y) h1
  simpa [BowAt] using h2
def put9 (W : World) (B : Nat) (q : Bw) : World := ((((((((W.setCell ⟨B, 0, none⟩ (.int .i64 q.k)).setCell ⟨B, 1, none⟩ (.int .i64 q.a.1)).setCell ⟨B, 2, none⟩ (.int .i64 q.a.2)).setCell ⟨B, 3, none⟩ (.int .i64 q.b.1)).setCell ⟨B, 4, none⟩ (.int .i64 q.b.2)).setCell ⟨B, 5, none⟩ (.int .i64 q.c.1)).setCell ⟨B, 6, none⟩ (.int .i64 q.c.2)).setCell ⟨B, 7, none⟩ (.int .i64 q.d.1)).setCell ⟨B, 8, none⟩ (.int .i64 q.d.2)
theorem BowAt.put9 {W : World} {B : Nat} {q0 : Bw} (h : BowAt W B q0) (q : Bw) : BowAt (put9 W B q) B q := by
  have h0 := heap_setCell_same W B 0 _ _ (.int .i64 q.k) h
  have h1 := heap_setCell_same _ B 1 _ _ (.int .i64 q.a.1) h0
  have h2 := heap_setCell_same _ B 2 _ _ (.int .i64 q.a.2) h1
  have h3 := heap_setCell_same _ B 3 _ _ (.int .i64 q.b.1) h2
  have h4 := heap_setCell_same _ B 4 _ _ (.int .i64 q.b.2) h3
  have h5 := heap_setCell_same _ B 5 _ _ (.int .i64 q.c.1) h4
  have h6 := heap_setCell_same _ B 6 _ _ (.int .i64 q.c.2) h5
  have h7 := heap_setCell_same _ B 7 _ _ (.int .i64 q.d.1) h6
  have h8 := heap_setCell_same _ B 8 _ _ (.int .i64 q.d.2) h7
  simpa [BowAt, Go.Proofs.Ytpbmefojhgcniaa.put9] using h8
theorem put9_kp {S : List Nat} {w W : World} {B : Nat} (h : Kp S w W) (hB : w.heap.size ≤ B) (q : Bw) : Kp S w (put9 W B q) :=
  ((((((((h.setCell (.inr hB) _).setCell (.inr hB) _).setCell (.inr hB) _).setCell (.inr hB) _).setCell (.inr hB) _).setCell (.inr hB) _).setCell (.inr hB) _).setCell (.inr hB) _).setCell (.inr hB) _
theorem put9_far {W : World} {A B : Nat} {o : Obj} (h : W.heap[A]? = some o) (hne : A ≠ B) (q : Bw) : (put9 W B q).heap[A]? = some o := by
  unfold put9
  rw [heap_setCell_other _ _ A _ hne, heap_setCell_other _ _ A _ hne, heap_setCell_other _ _ A _ hne, heap_setCell_other _ _ A _ hne, heap_setCell_other _ _ A _ hne, heap_setCell_other _ _ A _ hne, heap_setCell_other _ _ A _ hne, heap_setCell_other _ _ A _ hne, heap_setCell_other _ _ A _ hne]; exact h
/-- What bow has behind its first line. -/
def SbSt (w W : World) (B D : Nat) (s : Sc) (e : Int) (q : Cv) (b : Bw) : Prop :=
  ScrAt W B s e ∧ BowAt W D b ∧ BowAt W (w.heap.size + 1) bw0 ∧ CvAt W w.heap.size q ∧ Kp [B] w W ∧ w.heap.size + 1 < D
theorem SbSt.of_put {w W0 x2 : World} {B D : Nat} {s : Sc} {e : Int} {q : Cv} (hA2 : Kp [B] W0 x2) (hK0 : Kp [] w W0) (hR0 : BowAt W0 (w.heap.size + 1) bw0) (hP0 : CvAt W0 w.heap.size q) (hS2 : ScrAt x2 B s e) (hy : BowAt x2 D bw0) (hD : W0.heap.size ≤ D) (hB : B < w.heap.size) (Q : Bw) : SbSt w (put9 x2 D Q) B D s e q Q := by
  have h1 := lt_of_block hR0
  refine ⟨put9_far hS2 (by omega) Q, hy.put9 Q, put9_far (hR0.kp hA2 (by simp; omega)) (by omega) Q, put9_far (hP0.kp hA2 (by simp; omega)) (by omega) Q, ?_, by omega⟩
  exact put9_kp ((hK0.more (fun s hs => nomatch hs)).trans' hA2 (fun t ht => .inl ht)) (by omega) Q
theorem SbSt.of_alloc {w W0 x2 : World} {B : Nat} {s : Sc} {e : Int} {q : Cv} (hA2 : Kp [B] W0 x2) (hK0 : Kp [] w W0) (hR0 : BowAt W0 (w.heap.size + 1) bw0) (hP0 : CvAt W0 w.heap.size q) (hS2 : ScrAt x2 B s e) (hB : B < w.heap.size) (Q : Bw) : SbSt w (x2.alloc (.cells #[.int .i64 Q.k, .int .i64 Q.a.1, .int .i64 Q.a.2, .int .i64 Q.b.1, .int .i64 Q.b.2, .int .i64 Q.c.1, .int .i64 Q.c.2, .int .i64 Q.d.1, .int .i64 Q.d.2] 71)) B x2.heap.size s e q Q := by
  have h1 := lt_of_block hR0
  have h2 := hA2.size
  have hk : ∀ o, Kp [] x2 (x2.alloc o) := fun o => (Kp.refl _ _).alloc o
  refine ⟨hS2.kp (hk _) (by simp), heap_alloc_new _ _, (hR0.kp hA2 (by simp; omega)).kp (hk _) (by simp), (hP0.kp hA2 (by simp; omega)).kp (hk _) (by simp), ?_, by omega⟩
  exact ((hK0.more (fun s hs => nomatch hs)).trans' hA2 (fun t ht => .inl ht)).alloc _
theorem SbSt.call {w W W' : World} {B D : Nat} {s : Sc} {e e' : Int} {q : Cv} {b : Bw} (h : SbSt w W B D s e q b) (hB : B < w.heap.size) (hk : Kp [B] W W') (hs : ScrAt W' B s e') : SbSt w W' B D s e' q b := by
  obtain ⟨h1, h2, h3, h4, h5, h6⟩ := h
  exact ⟨hs, h2.kp hk (by simp; omega), h3.kp hk (by simp; omega), h4.kp hk (by simp; omega), h5.trans hk, h6⟩
theorem SbSt.putB {w W : World} {B D : Nat} {s : Sc} {e : Int} {q : Cv} {k : Int} {a b c d : Int × Int} (h : SbSt w W B D s e q ⟨k, a, b, c, d⟩) (hB : B < w.heap.size) (x y : Int) : SbSt w ((W.setCell ⟨D, 3, none⟩ (.int .i64 x)).setCell ⟨D, 4, none⟩ (.int .i64 y)) B D s e q ⟨k, a, (x, y), c, d⟩ := by
  obtain ⟨h1, h2, h3, h4, h5, h6⟩ := h
  have f : ∀ A : Nat, A < D → ∀ o, W.heap[A]? = some o → ((W.setCell ⟨D, 3, none⟩ (.int .i64 x)).setCell ⟨D, 4, none⟩ (.int .i64 y)).heap[A]? = some o := fun A hA o ho => by
    rw [heap_setCell_other _ _ A _ (by show A ≠ D; omega), heap_setCell_other _ _ A _ (by show A ≠ D; omega)]; exact ho
  exact ⟨f _ (by omega) _ h1, h2.putB x y, f _ (by omega) _ h3, f _ (by omega) _ h4, (h5.setCell (.inr (by show _ ≤ D; omega)) _).setCell (.inr (by show _ ≤ D; omega)) _, h6⟩
theorem SbSt.putC {w W : World} {B D : Nat} {s : Sc} {e : Int} {q : Cv} {k : Int} {a b c d : Int × Int} (h : SbSt w W B D s e q ⟨k, a, b, c, d⟩) (hB : B < w.heap.size) (x y : Int) : SbSt w ((W.setCell ⟨D, 5, none⟩ (.int .i64 x)).setCell ⟨D, 6, none⟩ (.int .i64 y)) B D s e q ⟨k, a, b, (x, y), d⟩ := by
  obtain ⟨h1, h2, h3, h4, h5, h6⟩ := h
  have f : ∀ A : Nat, A < D → ∀ o, W.heap[A]? = some o → ((W.setCell ⟨D, 5, none⟩ (.int .i64 x)).setCell ⟨D, 6, none⟩ (.int .i64 y)).heap[A]? = some o := fun A hA o ho => by
    rw [heap_setCell_other _ _ A _ (by show A ≠ D; omega), heap_setCell_other _ _ A _ (by show A ≠ D; omega)]; exact ho
  exact ⟨f _ (by omega) _ h1, h2.putC x y, f _ (by omega) _ h3, f _ (by omega) _ h4, (h5.setCell (.inr (by show _ ≤ D; omega)) _).setCell (.inr (by show _ ≤ D; omega)) _, h6⟩
/-- The result: the bow is laid into its block. -/
theorem SbSt.done {w W : World} {B D : Nat} {s : Sc} {e : Int} {q : Cv} {b : Bw} (h : SbSt w W B D s e q b) (hB : B < w.heap.size) : BowAt (put9 W (w.heap.size + 1) b) (w.heap.size + 1) b ∧ ScrAt (put9 W (w.heap.size + 1) b) B s e ∧ Kp [B] w (put9 W (w.heap.size + 1) b) := by
  obtain ⟨h1, h2, h3, h4, h5, h6⟩ := h
  exact ⟨h3.put9 b, put9_far h1 (by omega) b, put9_kp h5 (by omega) b⟩
set_option maxRecDepth 100000 in
set_option maxHeartbeats 8000000 in
theorem fbow_calls (B : Nat) (s : Sc) (e : Int) (q : Cv) (w : World) (hb : ScrAt w B s e) : Calls Try.prog 57 #[.pointer (some ⟨B, 0, none⟩), cvV q] w fun r w' => r = .returned (bowV (bowS s q)) ∧ ScrAt w' B s (bowErr s e (bowPs q)) ∧ Kp [B] w w' := by
  have HSD : Hid (∀ (W : World) (e : Int) (x y k : Int), ScrAt W B s e → Calls Try.prog 77 #[.pointer (some ⟨B, 0, none⟩), .agg #[.int .i64 x, .int .i64 y, .int .i64 k]] W fun r w' => r = .returned (.agg #[.int .i64 (dotS s ⟨x, y, k⟩).1.1, .int .i64 (dotS s ⟨x, y, k⟩).1.2]) ∧ ScrAt w' B s (bowErr s e [⟨x, y, k⟩]) ∧ Kp [B] W w') := fun W e x y k h => fsdot_calls B s e ⟨x, y, k⟩ W h
  have HB := Lib.hid hb
  have hBlt := lt_of_block hb
  obtain ⟨qk, ⟨ax, ay, ak⟩, ⟨bx, b_y, bk⟩, ⟨cx, cy, ck⟩, ⟨dx, dy, dk⟩⟩ := q
  rw [show cvV ⟨qk, ⟨ax, ay, ak⟩, ⟨bx, b_y, bk⟩, ⟨cx, cy, ck⟩, ⟨dx, dy, dk⟩⟩ = .agg #[.int .i64 qk, .int .i64 ax, .int .i64 ay, .int .i64 ak, .int .i64 bx, .int .i64 b_y, .int .i64 bk, .int .i64 cx, .int .i64 cy, .int .i64 ck, .int .i64 dx, .int .i64 dy, .int .i64 dk] from rfl]
  obtain ⟨RB, hRB⟩ : ∃ RB, bowS s ⟨qk, ⟨ax, ay, ak⟩, ⟨bx, b_y, bk⟩, ⟨cx, cy, ck⟩, ⟨dx, dy, dk⟩⟩ = RB := ⟨_, rfl⟩
  obtain ⟨RE, hRE⟩ : ∃ RE, bowErr s e (bowPs ⟨qk, ⟨ax, ay, ak⟩, ⟨bx, b_y, bk⟩, ⟨cx, cy, ck⟩, ⟨dx, dy, dk⟩⟩) = RE := ⟨_, rfl⟩
  have HRB : Hid (RB = bowS s ⟨qk, ⟨ax, ay, ak⟩, ⟨bx, b_y, bk⟩, ⟨cx, cy, ck⟩, ⟨dx, dy, dk⟩⟩) := hRB.symm
  have HRE : Hid (RE = bowErr s e (bowPs ⟨qk, ⟨ax, ay, ak⟩, ⟨bx, b_y, bk⟩, ⟨cx, cy, ck⟩, ⟨dx, dy, dk⟩⟩)) := hRE.symm
  rw [hRB, hRE]
  clear hb hRB hRE
  go_enter Try.func57, Try.ntmps57
  go_upto_region 1 with fail
  go_cut [5] (fun s5 wx => ∃ D, s5 = .pointer (some ⟨D, 0, none⟩) ∧ Hid (SbSt w wx B D s (bowErr s e [⟨ax, ay, ak⟩, ⟨dx, dy, dk⟩]) ⟨qk, ⟨ax, ay, ak⟩, ⟨bx, b_y, bk⟩, ⟨cx, cy, ck⟩, ⟨dx, dy, dk⟩⟩ ⟨qk, (dotS s ⟨ax, ay, ak⟩).1, (0, 0), (0, 0), (dotS s ⟨dx, dy, dk⟩).1⟩))
  case first =>
    refine wp_gen ?_; intro W0 hW0
    obtain ⟨t1, t2⟩ := two_heap (w := w) (A := .cells (cvCells ⟨qk, ⟨ax, ay, ak⟩, ⟨bx, b_y, bk⟩, ⟨cx, cy, ck⟩, ⟨dx, dy, dk⟩⟩) 75) (B := .cells #[.int .i64 0, .int .i64 0, .int .i64 0, .int .i64 0, .int .i64 0, .int .i64 0, .int .i64 0, .int .i64 0, .int .i64 0] 71) rfl
    have hk0 : Kp [] w W0 := by rw [hW0]; (repeat (first | exact Kp.refl _ _ | assumption | refine Kp.drew ?_ | refine Kp.drewN ?_ _ | refine Kp.alloc ?_ _ | (refine Kp.setCell ?_ (by first | (left; simp; done) | (right; simp; try omega)) _) | (refine Kp.trans' ?_ (by assumption) (by simp; try omega))))
    have HK0 := Lib.hid hk0
    have HB0 : Hid (ScrAt W0 B s e) := HB.out.kp hk0 (by simp)
    have HP0 : Hid (CvAt W0 w.heap.size ⟨qk, ⟨ax, ay, ak⟩, ⟨bx, b_y, bk⟩, ⟨cx, cy, ck⟩, ⟨dx, dy, dk⟩⟩) := by show CvAt _ _ _; rw [hW0]; exact t1
    have HR0 : Hid (BowAt W0 (w.heap.size + 1) bw0) := by show BowAt _ _ _; rw [hW0]; exact t2
    have HSZ : Hid (w.heap.size + 1 < W0.heap.size) := lt_of_block HR0.out
    have HBL : Hid (B < w.heap.size) := hBlt
    clear hW0 hk0 t1 t2
    have HKC : Hid (∀ w', Kp [B] W0 w' → w'.cell? ⟨w.heap.size, 0, none⟩ = some (.int .i64 qk) ∧ w'.cell? ⟨w.heap.size, 1, none⟩ = some (.int .i64 ax) ∧ w'.cell? ⟨w.heap.size, 2, none⟩ = some (.int .i64 ay) ∧ w'.cell? ⟨w.heap.size, 3, none⟩ = some (.int .i64 ak) ∧ w'.cell? ⟨w.heap.size, 10, none⟩ = some (.int .i64 dx) ∧ w'.cell? ⟨w.heap.size, 11, none⟩ = some (.int .i64 dy) ∧ w'.cell? ⟨w.heap.size, 12, none⟩ = some (.int .i64 dk)) := fun w' hk => by
      obtain ⟨c0, c1, c2, c3, c4, c5, c6, c7, c8, c9, c10, c11, c12⟩ := (HP0.out.kp hk (by have := HBL.out; simp; omega)).cells
      exact ⟨c0, c1, c2, c3, c10, c11, c12⟩
    obtain ⟨c0, c1, c2, c3, c10, c11, c12⟩ := HKC.out W0 (Kp.refl _ _)
    have HN : Hid (W0.heap.size ∉ [B]) := by show W0.heap.size ∉ [B]; have h1 := HBL.out; have h2 := HSZ.out; simp; omega
    have HNX : Hid (∀ x1 : World, Kp [B] W0 x1 → x1.heap.size ∉ [B]) := fun x1 hk => by have h1 := HBL.out; have h2 := HSZ.out; have h3 := hk.size; simp; omega
    have hz0 : (W0.alloc (.cells #[.int .i64 0, .int .i64 0, .int .i64 0, .int .i64 0, .int .i64 0, .int .i64 0, .int .i64 0, .int .i64 0, .int .i64 0] 71)).heap[W0.heap.size]? = some (.cells #[.int .i64 0, .int .i64 0, .int .i64 0, .int .i64 0, .int .i64 0, .int .i64 0, .int .i64 0, .int .i64 0, .int .i64 0] 71) := heap_alloc_new W0 _
    have hz1 : (W0.alloc (.cells #[.int .i64 0, .int .i64 0, .int .i64 0, .int .i64 0, .int .i64 0, .int .i64 0, .int .i64 0, .int .i64 0, .int .i64 0] 71)).drew.heap[W0.heap.size]? = some (.cells #[.int .i64 0, .int .i64 0, .int .i64 0, .int .i64 0, .int .i64 0, .int .i64 0, .int .i64 0, .int .i64 0, .int .i64 0] 71) := heap_alloc_new W0 _
    go_region_held3 (fun w' => w'.cell? ⟨w.heap.size, 0, none⟩ = some (.int .i64 qk) ∧ w'.cell? ⟨w.heap.size, 1, none⟩ = some (.int .i64 ax) ∧ w'.cell? ⟨w.heap.size, 2, none⟩ = some (.int .i64 ay) ∧ w'.cell? ⟨w.heap.size, 3, none⟩ = some (.int .i64 ak) ∧ w'.cell? ⟨w.heap.size, 10, none⟩ = some (.int .i64 dx) ∧ w'.cell? ⟨w.heap.size, 11, none⟩ = some (.int .i64 dy) ∧ w'.cell? ⟨w.heap.size, 12, none⟩ = some (.int .i64 dk)) (with_reducible (refine HKC.out _ ?_; (repeat (first | assumption | exact Kp.refl _ _ | refine Kp.alloc ?_ _ | refine Kp.drew ?_ | refine Kp.drewN ?_ _ | refine Kp.setCell ?_ (.inr (by first | exact Nat.le_refl _ | exact hA1.size | exact hA2.size)) _)); done))
      (first
        | (go_at_call 77
           with_reducible refine (HSD.out _ _ dx dy dk (ScrAt.kp (W := x1) (S := []) hS1 (by ((repeat (first | exact Kp.refl _ _ | assumption | refine Kp.drew ?_ | refine Kp.drewN ?_ _ | refine Kp.alloc ?_ _)); done)) (by simp))).mono ?_
           rintro r x2 ⟨rfl, hS2, hk2⟩
           have hA2 : Kp [B] W0 x2 := hA1.trans (Kp.trans (by ((repeat (first | exact Kp.refl _ _ | assumption | refine Kp.drew ?_ | refine Kp.drewN ?_ _ | refine Kp.alloc ?_ _)); done)) hk2)
           try (have hy1 : x2.heap[x1.heap.size]? = some (.cells #[.int .i64 0, .int .i64 0, .int .i64 0, .int .i64 0, .int .i64 0, .int .i64 0, .int .i64 0, .int .i64 0, .int .i64 0] 71) := (by with_reducible exact hk2.heap (heap_alloc_new x1 (.cells #[.int .i64 0, .int .i64 0, .int .i64 0, .int .i64 0, .int .i64 0, .int .i64 0, .int .i64 0, .int .i64 0, .int .i64 0] 71)) (HNX.out _ hA1)); obtain ⟨⟨y0, y1, y2, y3, y4, y5, y6, y7, y8⟩, g0, g1, g2, g3, g4, g5, g6, g7, g8⟩ := bow0_cells hy1)
           try (have hy2 : x2.heap[W0.heap.size]? = some (.cells #[.int .i64 0, .int .i64 0, .int .i64 0, .int .i64 0, .int .i64 0, .int .i64 0, .int .i64 0, .int .i64 0, .int .i64 0] 71) := (by with_reducible exact hk2.heap hy0 HN.out); obtain ⟨⟨y0, y1, y2, y3, y4, y5, y6, y7, y8⟩, g0, g1, g2, g3, g4, g5, g6, g7, g8⟩ := bow0_cells hy2))
        | (go_at_call 77
           with_reducible refine (HSD.out _ _ ax ay ak (ScrAt.kp (W := W0) (S := []) HB0.out (by ((repeat (first | exact Kp.refl _ _ | assumption | refine Kp.drew ?_ | refine Kp.drewN ?_ _ | refine Kp.alloc ?_ _)); done)) (by simp))).mono ?_
           rintro r x1 ⟨rfl, hS1, hk1⟩
           have hA1 : Kp [B] W0 x1 := Kp.trans (by ((repeat (first | exact Kp.refl _ _ | assumption | refine Kp.drew ?_ | refine Kp.drewN ?_ _ | refine Kp.alloc ?_ _)); done)) hk1
           try (have hy0 : x1.heap[W0.heap.size]? = some (.cells #[.int .i64 0, .int .i64 0, .int .i64 0, .int .i64 0, .int .i64 0, .int .i64 0, .int .i64 0, .int .i64 0, .int .i64 0] 71) := by first | with_reducible exact hk1.heap hz0 HN.out | with_reducible exact hk1.heap hz1 HN.out)))
    all_goals go_wp2_with fail
    all_goals go_meet
    · exact ⟨_, rfl, SbSt.of_alloc hA2 HK0.out HR0.out HP0.out hS2 HBL.out ⟨qk, (dotS s ⟨ax, ay, ak⟩).1, (0, 0), (0, 0), (dotS s ⟨dx, dy, dk⟩).1⟩⟩
    · exact ⟨_, rfl, SbSt.of_put hA2 HK0.out HR0.out HP0.out hS2 hy1 hA1.size HBL.out ⟨qk, (dotS s ⟨ax, ay, ak⟩).1, (0, 0), (0, 0), (dotS s ⟨dx, dy, dk⟩).1⟩⟩
    · exact ⟨_, rfl, SbSt.of_put hA2 HK0.out HR0.out HP0.out hS2 hy2 (Nat.le_refl _) HBL.out ⟨qk, (dotS s ⟨ax, ay, ak⟩).1, (0, 0), (0, 0), (dotS s ⟨dx, dy, dk⟩).1⟩⟩
  obtain ⟨D, rfl, HS⟩ := hcut
  have HBL : Hid (B < w.heap.size) := hBlt
  have hd6 := HS.out.2.2.2.2.2
  have n1 : D ≠ w.heap.size := by omega
  have n2 : w.heap.size ≠ D := by omega
  have n3 : D ≠ w.heap.size + 1 := by omega
  have n4 : w.heap.size + 1 ≠ D := by omega
  have n5 : B ≠ D := by omega
  have n6 : B ≠ w.heap.size + 1 := by omega
  clear hd6
  by_cases h3 : qk = 3
  · subst h3
    have HQ : Hid (RB = ⟨3, (dotS s ⟨ax, ay, ak⟩).1, (dotS s ⟨bx, b_y, bk⟩).1, (dotS s ⟨cx, cy, ck⟩).1, (dotS s ⟨dx, dy, dk⟩).1⟩) := HRB.out
    have HE : Hid (RE = bowErr s e [⟨ax, ay, ak⟩, ⟨dx, dy, dk⟩, ⟨cx, cy, ck⟩, ⟨bx, b_y, bk⟩]) := HRE.out
    obtain ⟨t0, t1, t2, t3, t4, t5, t6, t7, t8⟩ := HS.out.2.1.cells
    dsimp only at t0 t1 t2 t3 t4 t5 t6 t7 t8
    have f0 := HS.out.2.1.frozen 0
    have f1 := HS.out.2.1.frozen 1
    have f2 := HS.out.2.1.frozen 2
    have f3 := HS.out.2.1.frozen 3
    have f4 := HS.out.2.1.frozen 4
    have f5 := HS.out.2.1.frozen 5
    have f6 := HS.out.2.1.frozen 6
    have f7 := HS.out.2.1.frozen 7
    have f8 := HS.out.2.1.frozen 8
    obtain ⟨v0, v1, v2, v3, v4, v5, v6, v7, v8, v9, v10, v11, v12⟩ := HS.out.2.2.2.1.cells
    dsimp only at v0 v1 v2 v3 v4 v5 v6 v7 v8 v9 v10 v11 v12
    have HC := Lib.hid (HSD.out _ _ cx cy ck HS.out.1)
    go_wp2_with fail
    refine HC.out.mono ?_; rintro r x1 ⟨rfl, hS1, hk1⟩
    have HT1 : Hid (SbSt w x1 B D s (bowErr s e [⟨ax, ay, ak⟩, ⟨dx, dy, dk⟩, ⟨cx, cy, ck⟩]) _ _) := HS.out.call HBL.out hk1 hS1
    clear t0 t1 t2 t3 t4 t5 t6 t7 t8 f0 f1 f2 f3 f4 f5 f6 f7 f8 v0 v1 v2 v3 v4 v5 v6 v7 v8 v9 v10 v11 v12
    clear HC hS1 hk1
    obtain ⟨t0, t1, t2, t3, t4, t5, t6, t7, t8⟩ := HT1.out.2.1.cells
    dsimp only at t0 t1 t2 t3 t4 t5 t6 t7 t8
    have f0 := HT1.out.2.1.frozen 0
    have f1 := HT1.out.2.1.frozen 1
    have f2 := HT1.out.2.1.frozen 2
    have f3 := HT1.out.2.1.frozen 3
    have f4 := HT1.out.2.1.frozen 4
    have f5 := HT1.out.2.1.frozen 5
    have f6 := HT1.out.2.1.frozen 6
    have f7 := HT1.out.2.1.frozen 7
    have f8 := HT1.out.2.1.frozen 8
    obtain ⟨v0, v1, v2, v3, v4, v5, v6, v7, v8, v9, v10, v11, v12⟩ := HT1.out.2.2.2.1.cells
    dsimp only at v0 v1 v2 v3 v4 v5 v6 v7 v8 v9 v10 v11 v12
    have HU1 := Lib.hid (HT1.out.putC HBL.out (dotS s ⟨cx, cy, ck⟩).1.1 (dotS s ⟨cx, cy, ck⟩).1.2)
    have HC := Lib.hid (HSD.out _ _ bx b_y bk HU1.out.1)
    go_wp2_with fail
    refine HC.out.mono ?_; rintro r x2 ⟨rfl, hS2, hk2⟩
    have HT2 : Hid (SbSt w x2 B D s (bowErr s e [⟨ax, ay, ak⟩, ⟨dx, dy, dk⟩, ⟨cx, cy, ck⟩, ⟨bx, b_y, bk⟩]) _ _) := HU1.out.call HBL.out hk2 hS2
    clear t0 t1 t2 t3 t4 t5 t6 t7 t8 f0 f1 f2 f3 f4 f5 f6 f7 f8 v0 v1 v2 v3 v4 v5 v6 v7 v8 v9 v10 v11 v12
    clear HC hS2 hk2
    obtain ⟨t0, t1, t2, t3, t4, t5, t6, t7, t8⟩ := HT2.out.2.1.cells
    dsimp only at t0 t1 t2 t3 t4 t5 t6 t7 t8
    have f0 := HT2.out.2.1.frozen 0
    have f1 := HT2.out.2.1.frozen 1
    have f2 := HT2.out.2.1.frozen 2
    have f3 := HT2.out.2.1.frozen 3
    have f4 := HT2.out.2.1.frozen 4
    have f5 := HT2.out.2.1.frozen 5
    have f6 := HT2.out.2.1.frozen 6
    have f7 := HT2.out.2.1.frozen 7
    have f8 := HT2.out.2.1.frozen 8
    obtain ⟨v0, v1, v2, v3, v4, v5, v6, v7, v8, v9, v10, v11, v12⟩ := HT2.out.2.2.2.1.cells
    dsimp only at v0 v1 v2 v3 v4 v5 v6 v7 v8 v9 v10 v11 v12
    have HU2 := Lib.hid (HT2.out.putB HBL.out (dotS s ⟨bx, b_y, bk⟩).1.1 (dotS s ⟨bx, b_y, bk⟩).1.2)
    obtain ⟨y0, y1, y2, y3, y4, y5, y6, y7, y8⟩ := HT2.out.2.2.1.cells
    have g0 := HT2.out.2.2.1.frozen 0
    have g1 := HT2.out.2.2.1.frozen 1
    have g2 := HT2.out.2.2.1.frozen 2
    have g3 := HT2.out.2.2.1.frozen 3
    have g4 := HT2.out.2.2.1.frozen 4
    have g5 := HT2.out.2.2.1.frozen 5
    have g6 := HT2.out.2.2.1.frozen 6
    have g7 := HT2.out.2.2.1.frozen 7
    have g8 := HT2.out.2.2.1.frozen 8
    have HFN := Lib.hid (HU2.out.done HBL.out)
    go_wp2_with fail
    obtain ⟨z0, z1, z2, z3, z4, z5, z6, z7, z8⟩ := HFN.out.1.cells
    unfold put9 at z0 z1 z2 z3 z4 z5 z6 z7 z8
    dsimp only at z0 z1 z2 z3 z4 z5 z6 z7 z8
    refine bodyPost_ret (v := bowV ⟨3, (dotS s ⟨ax, ay, ak⟩).1, (dotS s ⟨bx, b_y, bk⟩).1, (dotS s ⟨cx, cy, ck⟩).1, (dotS s ⟨dx, dy, dk⟩).1⟩) (by simp [results, Try.results57, go_sem, bowV, z0, z1, z2, z3, z4, z5, z6, z7, z8]) rfl ⟨by rw [HQ.out], by rw [HE.out]; exact HFN.out.2.1, HFN.out.2.2⟩
  · by_cases h2 : qk = 2
    · subst h2
      clear h3
      have HQ : Hid (RB = ⟨2, (dotS s ⟨ax, ay, ak⟩).1, (dotS s ⟨bx, b_y, bk⟩).1, (0, 0), (dotS s ⟨dx, dy, dk⟩).1⟩) := HRB.out
      have HE : Hid (RE = bowErr s e [⟨ax, ay, ak⟩, ⟨dx, dy, dk⟩, ⟨bx, b_y, bk⟩]) := HRE.out
      obtain ⟨t0, t1, t2, t3, t4, t5, t6, t7, t8⟩ := HS.out.2.1.cells
      dsimp only at t0 t1 t2 t3 t4 t5 t6 t7 t8
      have f0 := HS.out.2.1.frozen 0
      have f1 := HS.out.2.1.frozen 1
      have f2 := HS.out.2.1.frozen 2
      have f3 := HS.out.2.1.frozen 3
      have f4 := HS.out.2.1.frozen 4
      have f5 := HS.out.2.1.frozen 5
      have f6 := HS.out.2.1.frozen 6
      have f7 := HS.out.2.1.frozen 7
      have f8 := HS.out.2.1.frozen 8
      obtain ⟨v0, v1, v2, v3, v4, v5, v6, v7, v8, v9, v10, v11, v12⟩ := HS.out.2.2.2.1.cells
      dsimp only at v0 v1 v2 v3 v4 v5 v6 v7 v8 v9 v10 v11 v12
      have HC := Lib.hid (HSD.out _ _ bx b_y bk HS.out.1)
      go_wp2_with fail
      refine HC.out.mono ?_; rintro r x1 ⟨rfl, hS1, hk1⟩
      have HT1 : Hid (SbSt w x1 B D s (bowErr s e [⟨ax, ay, ak⟩, ⟨dx, dy, dk⟩, ⟨bx, b_y, bk⟩]) _ _) := HS.out.call HBL.out hk1 hS1
      clear t0 t1 t2 t3 t4 t5 t6 t7 t8 f0 f1 f2 f3 f4 f5 f6 f7 f8 v0 v1 v2 v3 v4 v5 v6 v7 v8 v9 v10 v11 v12
      clear HC hS1 hk1
      obtain ⟨t0, t1, t2, t3, t4, t5, t6, t7, t8⟩ := HT1.out.2.1.cells
      dsimp only at t0 t1 t2 t3 t4 t5 t6 t7 t8
      have f0 := HT1.out.2.1.frozen 0
      have f1 := HT1.out.2.1.frozen 1
      have f2 := HT1.out.2.1.frozen 2
      have f3 := HT1.out.2.1.frozen 3
      have f4 := HT1.out.2.1.frozen 4
      have f5 := HT1.out.2.1.frozen 5
      have f6 := HT1.out.2.1.frozen 6
      have f7 := HT1.out.2.1.frozen 7
      have f8 := HT1.out.2.1.frozen 8
      obtain ⟨v0, v1, v2, v3, v4, v5, v6, v7, v8, v9, v10, v11, v12⟩ := HT1.out.2.2.2.1.cells
      dsimp only at v0 v1 v2 v3 v4 v5 v6 v7 v8 v9 v10 v11 v12
      have HU2 := Lib.hid (HT1.out.putB HBL.out (dotS s ⟨bx, b_y, bk⟩).1.1 (dotS s ⟨bx, b_y, bk⟩).1.2)
      obtain ⟨y0, y1, y2, y3, y4, y5, y6, y7, y8⟩ := HT1.out.2.2.1.cells
      have g0 := HT1.out.2.2.1.frozen 0
      have g1 := HT1.out.2.2.1.frozen 1
      have g2 := HT1.out.2.2.1.frozen 2
      have g3 := HT1.out.2.2.1.frozen 3
      have g4 := HT1.out.2.2.1.frozen 4
      have g5 := HT1.out.2.2.1.frozen 5
      have g6 := HT1.out.2.2.1.frozen 6
      have g7 := HT1.out.2.2.1.frozen 7
      have g8 := HT1.out.2.2.1.frozen 8
      have HFN := Lib.hid (HU2.out.done HBL.out)
      go_wp2_with fail
      obtain ⟨z0, z1, z2, z3, z4, z5, z6, z7, z8⟩ := HFN.out.1.cells
      unfold put9 at z0 z1 z2 z3 z4 z5 z6 z7 z8
      dsimp only at z0 z1 z2 z3 z4 z5 z6 z7 z8
      refine bodyPost_ret (v := bowV ⟨2, (dotS s ⟨ax, ay, ak⟩).1, (dotS s ⟨bx, b_y, bk⟩).1, (0, 0), (dotS s ⟨dx, dy, dk⟩).1⟩) (by simp [results, Try.results57, go_sem, bowV, z0, z1, z2, z3, z4, z5, z6, z7, z8]) rfl ⟨by rw [HQ.out], by rw [HE.out]; exact HFN.out.2.1, HFN.out.2.2⟩
    · have h3b : (qk == 3) = false := by rw [beq_eq_false_iff_ne]; exact h3
      have h2b : (qk == 2) = false := by rw [beq_eq_false_iff_ne]; exact h2
      have HQ : Hid (RB = ⟨qk, (dotS s ⟨ax, ay, ak⟩).1, (0, 0), (0, 0), (dotS s ⟨dx, dy, dk⟩).1⟩) := by show _ = _; rw [HRB.out]; unfold bowS; dsimp only; rw [if_neg (by omega), if_neg h3]
      have HE : Hid (RE = bowErr s e [⟨ax, ay, ak⟩, ⟨dx, dy, dk⟩]) := by show _ = _; rw [HRE.out]; unfold bowPs; dsimp only; rw [if_neg h3, if_neg h2]
      clear h2 h3
      obtain ⟨t0, t1, t2, t3, t4, t5, t6, t7, t8⟩ := HS.out.2.1.cells
      dsimp only at t0 t1 t2 t3 t4 t5 t6 t7 t8
      have f0 := HS.out.2.1.frozen 0
      have f1 := HS.out.2.1.frozen 1
      have f2 := HS.out.2.1.frozen 2
      have f3 := HS.out.2.1.frozen 3
      have f4 := HS.out.2.1.frozen 4
      have f5 := HS.out.2.1.frozen 5
      have f6 := HS.out.2.1.frozen 6
      have f7 := HS.out.2.1.frozen 7
      have f8 := HS.out.2.1.frozen 8
      obtain ⟨v0, v1, v2, v3, v4, v5, v6, v7, v8, v9, v10, v11, v12⟩ := HS.out.2.2.2.1.cells
      dsimp only at v0 v1 v2 v3 v4 v5 v6 v7 v8 v9 v10 v11 v12
      obtain ⟨y0, y1, y2, y3, y4, y5, y6, y7, y8⟩ := HS.out.2.2.1.cells
      have g0 := HS.out.2.2.1.frozen 0
      have g1 := HS.out.2.2.1.frozen 1
      have g2 := HS.out.2.2.1.frozen 2
      have g3 := HS.out.2.2.1.frozen 3
      have g4 := HS.out.2.2.1.frozen 4
      have g5 := HS.out.2.2.1.frozen 5
      have g6 := HS.out.2.2.1.frozen 6
      have g7 := HS.out.2.2.1.frozen 7
      have g8 := HS.out.2.2.1.frozen 8
      have HFN := Lib.hid (HS.out.done HBL.out)
      go_wp2_with fail
      obtain ⟨z0, z1, z2, z3, z4, z5, z6, z7, z8⟩ := HFN.out.1.cells
      unfold put9 at z0 z1 z2 z3 z4 z5 z6 z7 z8
      dsimp only at z0 z1 z2 z3 z4 z5 z6 z7 z8
      refine bodyPost_ret (v := bowV ⟨qk, (dotS s ⟨ax, ay, ak⟩).1, (0, 0), (0, 0), (dotS s ⟨dx, dy, dk⟩).1⟩) (by simp [results, Try.results57, go_sem, bowV, z0, z1, z2, z3, z4, z5, z6, z7, z8]) rfl ⟨by rw [HQ.out], by rw [HE.out]; exact HFN.out.2.1, HFN.out.2.2⟩
end Go.Proofs.Ytpbmefojhgcniaa
namespace Go.Proofs.Ytpbmefojhgcniaa
open Go.RowKit Go.Shelf
set_option linter.unusedVariables false
set_option linter.unusedSimpArgs false
attribute [local go_sem] Oper.semAt_some
set_option maxRecDepth 100000 in
set_option maxHeartbeats 4000000 in
/-- The closure of Dots: for every loop body that keeps the bow. -/
theorem dots1_R (m : Nat) (hm : 1 ≤ m) (l Bc : Nat) (q : Bw) (M : Nat) (hM : M ≤ 512) (f : Nat → Int × Int)
    (hP : ∀ W, Calls Try.prog 79 #[bowV q] W fun e w' => e = .returned (.int .i64 M) ∧ Kp [] W w')
    (hA : ∀ k, k < M → ∀ W, Calls Try.prog 80 #[bowV q, .int .i64 ((k : Int) + 1), .int .i64 M] W fun e w' => e = .returned (dotV (f k)) ∧ Kp [] W w')
    (R : World → World → Prop) (hR0 : ∀ A B : World, BowAt A Bc q → R A B → BowAt B Bc q) (J Jx : List (Int × Int) → World → Prop) (W : World) (hJ : AbidesFrom W.heap.size J)
    (hY : ∀ pre x W, J pre W → pre.length < M → YieldAt Fence.wide (m - 1) Try.prog l #[dotV x] W fun e W' =>
      (e = .returned (.bool true) ∧ J (pre ++ [x]) W' ∧ R W W') ∨ (e = .returned (.bool false) ∧ Jx (pre ++ [x]) W'))
    (hB : BowAt W Bc q) (h0 : J [] W) :
    CallsIn Fence.wide m Try.prog 78 #[.func (.yield l) #[] #[], .pointer (some ⟨Bc, 0, none⟩)] W fun e W' => (∃ v, e = .returned v) ∧
      ((∃ ys, ys = uptoF f M ∧ J ys W') ∨ (∃ pre, (∃ k, k ≤ M ∧ pre = uptoF f k) ∧ Jx pre W')) := by
  have HP : Hid (∀ W, Calls Try.prog 79 #[.agg #[.int .i64 q.k, .int .i64 q.a.1, .int .i64 q.a.2, .int .i64 q.b.1, .int .i64 q.b.2, .int .i64 q.c.1, .int .i64 q.c.2, .int .i64 q.d.1, .int .i64 q.d.2]] W fun e w' => e = .returned (.int .i64 M) ∧ Kp [] W w') := hP
  have HA : Hid (∀ k, k < M → ∀ W, Calls Try.prog 80 #[.agg #[.int .i64 q.k, .int .i64 q.a.1, .int .i64 q.a.2, .int .i64 q.b.1, .int .i64 q.b.2, .int .i64 q.c.1, .int .i64 q.c.2, .int .i64 q.d.1, .int .i64 q.d.2], .int .i64 ((k : Int) + 1), .int .i64 M] W fun e w' => e = .returned (.agg #[.int .i64 (f k).1, .int .i64 (f k).2]) ∧ Kp [] W w') := hA
  have HB := Lib.hid hB
  have HJ := Lib.hid hJ
  have HY := Lib.hid hY
  have H0 := Lib.hid h0
  clear hP hA hB hJ hY h0
  obtain ⟨b0, b1, b2, b3, b4, b5, b6, b7, b8⟩ : W.cell? ⟨Bc, 0, none⟩ = some (.int .i64 q.k) ∧ W.cell? ⟨Bc, 1, none⟩ = some (.int .i64 q.a.1) ∧ W.cell? ⟨Bc, 2, none⟩ = some (.int .i64 q.a.2) ∧ W.cell? ⟨Bc, 3, none⟩ = some (.int .i64 q.b.1) ∧ W.cell? ⟨Bc, 4, none⟩ = some (.int .i64 q.b.2) ∧ W.cell? ⟨Bc, 5, none⟩ = some (.int .i64 q.c.1) ∧ W.cell? ⟨Bc, 6, none⟩ = some (.int .i64 q.c.2) ∧ W.cell? ⟨Bc, 7, none⟩ = some (.int .i64 q.d.1) ∧ W.cell? ⟨Bc, 8, none⟩ = some (.int .i64 q.d.2) := by
    refine ⟨?_, ?_, ?_, ?_, ?_, ?_, ?_, ?_, ?_⟩ <;> (rw [cell_of_row W Bc _ _ _ _ HB.out]; rfl)
  refine callsIn_of_wp Try.func78 rfl trivial ?_ rfl
  simp only [Try.ntmps78, List.size_toArray, List.length_cons, List.length_nil, Nat.reduceAdd, Nat.reduceSub, Array.replicate_succ, Array.replicate_zero, List.push_toArray, List.append_toArray, List.nil_append, List.cons_append]
  gi_wp2_with (refine ⟨trivial, ?_⟩; gi_at_call 79; refine (callsIn_wide.2 (HP.out _)).mono ?_; rintro e w1 ⟨rfl, hk1⟩)
  have hJ1 := Lib.hid (abidesC HJ.out H0.out hk1)
  have hW1 : Hid (BowAt w1 Bc q) := hk1.heap HB.out (by simp)
  clear hk1 b0 b1 b2 b3 b4 b5 b6 b7 b8 HP H0
  gi_wp2
  gi_loopw [4, 8] (fun _ i wr => ∃ k : Nat, k ≤ M ∧ i = .int .i64 k ∧ Hid (J (uptoF f k) wr ∧ BowAt wr Bc q)) (fun _ i _ => M - (intOf i).toNat)
  case atStart => exact ⟨0, Nat.zero_le _, rfl, hJ1.out, hW1.out⟩
  case round =>
    obtain ⟨k, hk, rfl, HR⟩ := hrel
    clear hJ1 hW1
    by_cases hlt : k < M
    · obtain ⟨b0, b1, b2, b3, b4, b5, b6, b7, b8⟩ : wr.cell? ⟨Bc, 0, none⟩ = some (.int .i64 q.k) ∧ wr.cell? ⟨Bc, 1, none⟩ = some (.int .i64 q.a.1) ∧ wr.cell? ⟨Bc, 2, none⟩ = some (.int .i64 q.a.2) ∧ wr.cell? ⟨Bc, 3, none⟩ = some (.int .i64 q.b.1) ∧ wr.cell? ⟨Bc, 4, none⟩ = some (.int .i64 q.b.2) ∧ wr.cell? ⟨Bc, 5, none⟩ = some (.int .i64 q.c.1) ∧ wr.cell? ⟨Bc, 6, none⟩ = some (.int .i64 q.c.2) ∧ wr.cell? ⟨Bc, 7, none⟩ = some (.int .i64 q.d.1) ∧ wr.cell? ⟨Bc, 8, none⟩ = some (.int .i64 q.d.2) := by
        refine ⟨?_, ?_, ?_, ?_, ?_, ?_, ?_, ?_, ?_⟩ <;> (rw [cell_of_row wr Bc _ _ _ _ HR.out.2]; rfl)
      have HK := Lib.hid (HA.out k hlt)
      gi_wp2_with (refine ⟨trivial, ?_⟩; gi_at_call 80; refine (callsIn_wide.2 (HK.out _)).mono ?_; rintro e w2 ⟨rfl, hk2⟩)
      have HJ2 := Lib.hid (abidesC HJ.out HR.out.1 hk2)
      have HW2 : Hid (BowAt w2 Bc q) := hk2.heap HR.out.2 (by simp)
      obtain ⟨fn, tmps, assign, body, hy, hR⟩ := HY.out _ (f k) w2 HJ2.out (by rw [uptoF_length]; exact hlt)
      rw [show dotV (f k) = .agg #[.int .i64 (f k).1, .int .i64 (f k).2] from rfl] at hy
      clear hk2 b0 b1 b2 b3 b4 b5 b6 b7 b8
      gi_wp2
      rw [hy]
      gi_wp2
      refine hR.mono ?_
      rintro e W3 (⟨rfl, hJ3, hk3⟩ | ⟨rfl, hJx3⟩)
      · have H3 : Hid (J (uptoF f (k + 1)) W3 ∧ BowAt W3 Bc q) := ⟨by rw [uptoF_succ]; exact hJ3, hR0 _ _ HW2.out hk3⟩
        clear hJ3 hk3
        gi_wp2
        go_roundw
        case rel => first | exact ⟨k + 1, by omega, by simp, H3⟩ | ((repeat apply Exists.intro); exact ⟨⟨k + 1, by omega, by simp, H3⟩, rfl⟩)
        case measure => simp [intOf]; omega
      · have H3 : Hid (Jx (uptoF f (k + 1)) W3) := by show Jx _ _; rw [uptoF_succ]; exact hJx3
        clear hJx3
        gi_wp2
        refine bodyPost_ret (results_none rfl _ _ _) rfl ?_
        exact ⟨⟨_, rfl⟩, .inr ⟨_, ⟨k + 1, by omega, rfl⟩, H3.out⟩⟩
    · obtain rfl : k = M := by omega
      gi_wp2
      go_end0
      exact ⟨⟨_, rfl⟩, .inl ⟨_, rfl, HR.out.1⟩⟩
/-- Dots hands back a value that goes over these places, or over a beginning of them. -/
theorem dots_stopsR (m : Nat) (hm : 1 ≤ m) (Bc : Nat) (q : Bw) (M : Nat) (hM : M ≤ 512) (f : Nat → Int × Int)
    (hP : ∀ W, Calls Try.prog 79 #[bowV q] W fun e w' => e = .returned (.int .i64 M) ∧ Kp [] W w')
    (hA : ∀ k, k < M → ∀ W, Calls Try.prog 80 #[bowV q, .int .i64 ((k : Int) + 1), .int .i64 M] W fun e w' => e = .returned (dotV (f k)) ∧ Kp [] W w')
    (w : World) (hB : BowAt w Bc q) (R : World → World → Prop) (hR0 : ∀ A B : World, BowAt A Bc q → R A B → BowAt B Bc q) :
    SeqStopsK Fence.wide m Try.prog 78 #[.pointer (some ⟨Bc, 0, none⟩)] (fun x : Int × Int => #[dotV x]) R (fun ys => ys = uptoF f M) (fun pre => pre <+: uptoF f M) M w := fun l J Jx W hW hJ _ hY h0 => by
  refine (dots1_R m hm l Bc q M hM f hP hA R hR0 J Jx W hJ hY ((Kp.of_below hW).heap hB (by simp)) h0).mono ?_
  rintro e W' ⟨he, ⟨ys, rfl, hj⟩ | ⟨pre, ⟨k, hk, rfl⟩, hj⟩⟩
  · exact ⟨he, .inl ⟨_, rfl, hj⟩⟩
  · exact ⟨he, .inr ⟨_, uptoF_take f hk, hj⟩⟩
end Go.Proofs.Ytpbmefojhgcniaa
namespace Go.Proofs.Ytpbmefojhgcniaa
open Go.RowKit Go.Shelf
set_option linter.unusedVariables false
set_option linter.unusedSimpArgs false
attribute [local go_sem] Oper.semAt_some
theorem wpIn_gen {F : Fence} {n : Nat} {P : Program} {c : Code} {Q : Exit → Act → World → Prop} {a : Act} {w : World} (h : ∀ W, W = w → c.wpIn F n P Q a W) : c.wpIn F n P Q a w := h w rfl
theorem wpListIn_pushD {F : Fence} {m : Nat} {w : World} {ops : Array Oper} {rest : List Oper} {o : Oper} {a : Act} {Q : Exit → Act → World → Prop} (hgd : o.guard = none) (s x : Operand)
    (ho : o.op = .call { callee := .builtin .append, args := #[s, x], argTypes := #[61, 61] })
    (base : Nat) (v : Value) (l : List (Int × Int)) (n : Nat) (hn : l.length = n) (hs : a.eval s = v) (hown : w.ownsRow base 27 2 v n (pairCells l)) (G C : Nat) (p : Int × Int)
    (hx : a.eval x = .slice (some ⟨G, 0, none⟩) 1 C) (hc : DtAt w G p.1 p.2) (hl : (n + 1) * 16 ≤ 140737488355328) (hbase : base ≤ w.heap.size)
    (h : ∀ g c w', w'.ownsRow base 27 2 (.slice (some ⟨g, 0, none⟩) (n + 1) c) (n + 1) (pairCells (l ++ [p])) → Kp v.ownBlock.toList w w' → (v.ownBlock = some g ∨ g = w.heap.size) → wpListIn F m Try.prog ops Q rest (a.put o.dst (.slice (some ⟨g, 0, none⟩) (n + 1) c)) w') : wpListIn F m Try.prog ops Q (o :: rest) a w := by
  obtain ⟨i, hi, hz, hsize, hby⟩ := info_parts infoDt
  subst hn
  obtain ⟨c0, c1, _, _⟩ := hc.cells
  refine wpListIn_plain hgd fun K hK' => ?_
  obtain ⟨g, cap, w', hrun, r1, r2, r3, r4⟩ := run_append_lies (P := Try.prog) (w := w) 61 o.type base 27 i (.agg #[.int .i64 0, .int .i64 0]) 2 16 Try.underlying61 hi hz hsize hby rfl (by decide) v l.length (pairCells l) hown ⟨G, 0, none⟩ 1 C (pairCells [p]) rfl (by
    intro j u hj
    rw [add_lit]
    rcases j with _ | _ | j
    · simp [pairCells] at hj; subst hj; exact c0
    · simp [pairCells] at hj; subst hj; exact c1
    · simp [pairCells] at hj) (oneCell_pairs [p]) (by decide) (by unfold maxLen; omega) hl hbase _ rfl
  unfold Oper.wpIn
  refine ⟨?_, ?_⟩
  · simp [Oper.about, ho, resolve, Target.leads, Sem.run_pure]
  · rw [Oper.semAt_plain F _ _ (by rw [ho]; intro c hc'; cases hc')]
    simp [execOp, ho, resolve, invoke, builtin, hs, hx, hrun, Result.andThen]
    exact hK' _ _ (h g cap w' (by rw [pairCells_app]; exact r1) (Kp.grown (Kp.refl _ _) r2 (fun k hk => .inl (by rw [hk]; simp))) r3)
/-- What AppendSeq keeps: its row's box, the row, the bow. -/
def ApSt (w W : World) (v0 : Value) (base Bc : Nat) (q : Bw) (l0 pre : List (Int × Int)) : Prop :=
  ∃ v, Boxed W w.heap.size 61 v ∧ W.ownsRow base 27 2 v (l0 ++ pre).length (pairCells (l0 ++ pre)) ∧ (v.ownBlock = v0.ownBlock ∨ ∀ k, v.ownBlock = some k → w.heap.size < k) ∧ BowAt W Bc q ∧ Kp v0.ownBlock.toList w W
theorem ApSt.own {w : World} {v0 : Value} {base Bc B : Nat} {q : Bw} {l0 : List (Int × Int)} (hB : w.heap.size ≤ B) : OwnFrom (β := List (Int × Int)) B (fun pre W => ApSt w W v0 base Bc q l0 pre) := by
  intro s W W' row hs hg hr
  obtain ⟨v, h1, h2, h3, h4, h5⟩ := hs
  exact ⟨v, blkKept hg hr h1, rowKept hg hr h2, h3, blkKept hg hr h4, Kp.grown h5 hg (fun k hk => .inr (Nat.le_trans hB (hr k hk).1))⟩
theorem ApSt.kp {w W W' : World} {v0 : Value} {base Bc : Nat} {q : Bw} {l0 pre : List (Int × Int)} (h : ApSt w W v0 base Bc q l0 pre) (hk : Kp [] W W') : ApSt w W' v0 base Bc q l0 pre := by
  obtain ⟨v, h1, h2, h3, h4, h5⟩ := h
  exact ⟨v, Boxed.kp h1 hk, hk.row h2 (by simp), h3, Kp.heap hk h4 (by simp), h5.trans0 hk⟩
set_option maxRecDepth 100000 in
set_option maxHeartbeats 4000000 in
theorem fappseq_calls (base Bc : Nat) (v0 : Value) (l0 : List (Int × Int)) (q : Bw) (M : Nat) (hM : M ≤ 512) (f : Nat → Int × Int)
    (hP : ∀ W, Calls Try.prog 79 #[bowV q] W fun e w' => e = .returned (.int .i64 M) ∧ Kp [] W w')
    (hA : ∀ k, k < M → ∀ W, Calls Try.prog 80 #[bowV q, .int .i64 ((k : Int) + 1), .int .i64 M] W fun e w' => e = .returned (dotV (f k)) ∧ Kp [] W w')
    (w : World) (hown : w.ownsRow base 27 2 v0 l0.length (pairCells l0)) (hB : BowAt w Bc q) (hne : v0.ownBlock ≠ some Bc) (hbase : base ≤ w.heap.size) (hl : l0.length ≤ 1099511627776) :
    Calls Try.prog 58 #[v0, .func (.func 78) #[] #[.pointer (some ⟨Bc, 0, none⟩)]] w fun e w' =>
      ∃ v', e = .returned v' ∧ w'.ownsRow base 27 2 v' (l0 ++ uptoF f M).length (pairCells (l0 ++ uptoF f M)) ∧ (v'.ownBlock = v0.ownBlock ∨ ∀ k, v'.ownBlock = some k → w.heap.size < k) ∧ Kp v0.ownBlock.toList w w' := by
  have HST := Lib.hid (fun (m : Nat) (hm : 1 ≤ m) (W : World) (hBW : BowAt W Bc q) => dots_stopsR m hm Bc q M hM f hP hA W hBW (fun A B => BowAt A Bc q → BowAt B Bc q) (fun A B h r => r h))
  have HOWN := Lib.hid hown
  have HB := Lib.hid hB
  have hBlt := lt_of_block hB
  have HVL : Hid (∀ k, v0.ownBlock = some k → base ≤ k ∧ k < w.heap.size) := fun k hk => hown.lt k hk
  obtain ⟨p0, c0, hv0⟩ := slice_own hown
  have HNE := Lib.hid hne
  obtain ⟨i0, hi, hz0, hz1, hz2⟩ := info_parts infoDt
  have HMN : Hid (M ≤ 512) := hM
  subst hv0
  clear hown hB hP hA hne hM
  generalize hL0 : l0.length = n0 at *
  have HL0 := Lib.hid hL0
  clear hL0
  refine (callsIn_wide (n := 5)).1 ?_
  refine callsIn_of_wp_marks Try.func58 rfl trivial ?_ rfl
  simp only [Try.ntmps58, List.size_toArray, List.length_cons, List.length_nil, Nat.reduceAdd, Nat.reduceSub, Array.replicate_succ, Array.replicate_zero, List.push_toArray, List.append_toArray, List.nil_append, List.cons_append]
  gi_wp2
  refine wpIn_gen ?_; intro w2 hw2
  have hk2 : Kp [] w w2 := by rw [hw2]; (repeat (first | exact Kp.refl _ _ | assumption | refine Kp.drew ?_ | refine Kp.drewN ?_ _ | refine Kp.alloc ?_ _ | (refine Kp.setCell ?_ (by first | (left; simp; done) | (right; simp; try omega)) _) | (refine Kp.trans' ?_ (by assumption) (by simp; try omega))))
  have hb2 : Boxed w2 w.heap.size 61 (.slice p0 n0 c0) := by rw [hw2]; exact heap_alloc_new w _
  have hsz2 : w2.heap.size = w.heap.size + 1 := by rw [hw2]; simp
  have HI0 : Hid (ApSt w w2 (.slice p0 n0 c0) base Bc q l0 []) := ⟨_, hb2, by rw [List.append_nil, HL0.out]; exact hk2.row HOWN.out (by simp), .inl rfl, hk2.heap HB.out (by simp), hk2.more (fun s hs => nomatch hs)⟩
  have HST2 := Lib.hid (HST.out 4 (by decide) w2 (hk2.heap HB.out (by simp)))
  clear hw2 hk2 hb2 HST HOWN HB
  refine wpIn_rangeFunc_ownH rfl (by decide) (gf := 78) (lb := #[.pointer (some ⟨Bc, 0, none⟩)]) rfl trivial (enters_of Try.func78 (by kernel_rfl) rfl)
    HST2.out (fun h1 h2 k => h2 (h1 k)) (fun W l o o' hl ho hc hw k => (Kp.grown (S := [l]) (Kp.refl _ _) (grownBy_putObj' _ l o') (fun r hr => .inl (by cases hr; simp))).heap k (fun hm => by simp at hm; subst hm; have k2 : W.heap[Bc]? = _ := k; rw [k2] at ho; cases ho; cases hc)) (Below.refl _ _) (fun _ => rfl)
    (fun pre W => ApSt w W (.slice p0 n0 c0) base Bc q l0 pre) (fun _ _ _ => False) (ApSt.own (by omega)) (fun _ => fun _ _ _ _ h => h.elim) HI0.out
    (fun x a' W => ∃ Bx, w2.heap.size ≤ Bx ∧ DotAt W Bx x ∧ a' = { tmps := #[.slice p0 n0 c0, .func (.func 78) #[] #[.pointer (some ⟨Bc, 0, none⟩)], .pointer (some ⟨w.heap.size, 0, none⟩), undef, .slice none 0 0, .pointer (some ⟨Bx, 0, none⟩), .func (.func 78) #[] #[.pointer (some ⟨Bc, 0, none⟩)], .agg #[.int .i64 x.1, .int .i64 x.2], undef, undef, undef, undef, undef], defers := [] })
    (fun x a' s W W' row hs hg hr => by obtain ⟨Bx, h1, h2, h3⟩ := hs; exact ⟨Bx, h1, blkKept hg hr h2, h3⟩) ?assign ?body ?done ?stop
  case assign =>
    intro l pre x W K hi hK
    have HI := Lib.hid hi
    have hszW : w2.heap.size ≤ W.heap.size := by
      obtain ⟨v, h1, _⟩ := hi
      have := lt_of_block h1
      omega
    clear hi
    simp only [dotV]
    gi_wp2
    exact hK _ _ ((KeepsOthers.alloc _ _).from _) (fun k => Kp.heap ((Kp.refl [] _).alloc _) k (by simp)) (HI.out.kp ((Kp.refl _ _).alloc _)) ⟨W.heap.size, hszW, heap_alloc_new W _, rfl⟩
  case body =>
    rintro l pre x a' W hl ⟨rr, hr⟩ hI ⟨Bx, hBx, hD, rfl⟩ hlt
    obtain ⟨x1, x2⟩ := x
    obtain ⟨v, i1, i2, i3, i4, i5⟩ := hI
    obtain ⟨p, c, hv⟩ := slice_own i2
    subst hv
    have hXs : w.heap.size < W.heap.size := lt_of_block i1
    have hln : (l0 ++ pre).length ≤ 1099511627776 + 512 := by rw [List.length_append, HL0.out]; have := HMN.out; omega
    obtain ⟨NN, hNN⟩ : ∃ NN, (l0 ++ pre).length = NN := ⟨_, rfl⟩
    have HNN := Lib.hid hNN
    rw [hNN] at i1 i2 i3 hln
    have HL1 : Hid ((l0 ++ (pre ++ [(x1, x2)])).length = NN + 1) := by show _ = _; rw [← List.append_assoc, List.length_append, HNN.out]; rfl
    have HPC : Hid (pairCells (l0 ++ (pre ++ [(x1, x2)])) = pairCells ((l0 ++ pre) ++ [(x1, x2)])) := by show _ = _; rw [List.append_assoc]
    generalize l0 ++ pre = T at *
    have HI2 := Lib.hid i2
    have HI3 := Lib.hid i3
    have HI4 := Lib.hid i4
    have HI5 := Lib.hid i5
    have HI1 := Lib.hid i1
    have hXn : (Value.slice p NN c).ownBlock ≠ some w.heap.size := by
      intro e
      rcases i3 with h | h
      · rw [h] at e; have := (HVL.out _ e).2; omega
      · have := h _ e; omega
    have hBn : (Value.slice p NN c).ownBlock ≠ some Bc := by
      intro e
      rcases i3 with h | h
      · rw [h] at e; exact HNE.out e
      · have := h _ e; omega
    obtain ⟨d0, d1, _, _⟩ := (show DtAt W Bx x1 x2 from hD).cells
    have hc := i1.cell
    have hCW := own_cells i2
    have hWb : base ≤ W.heap.size := by omega
    have HEX : Hid (Kp [] W (W.alloc (.cells #[.int .i64 x1, .int .i64 x2] 27))) := (Kp.refl _ _).alloc _
    have hHl : (NN + 1) * 16 ≤ 140737488355328 := by omega
    clear i1 i2 i3 i4 i5 hD hr hlt hNN
    gi_wp2_with (gi_at_builtin; refine wpListIn_pushD rfl _ _ rfl base _ T NN HNN.out (by rfl) (HEX.out.row HI2.out (by simp)) _ 1 (x1, x2) rfl (heap_alloc_new _ _) hHl (by simp; omega) ?_; intro g6 c6 w6 hown6 hk6 hat6; have hk7 : Kp (Value.slice p NN c).ownBlock.toList W w6 := Kp.trans (Kp.more HEX.out (fun s hs => nomatch hs)) hk6; have hb6 : Boxed w6 w.heap.size 61 (.slice p NN c) := hk7.heap HI1.out (by simpa using fun e => hXn e); have hc6 := hb6.cell; have hf6 := hb6.frozen)
    have hk8 : Kp (w.heap.size :: (Value.slice p NN c).ownBlock.toList) W (w6.setCell ⟨w.heap.size, 0, none⟩ (.slice (some ⟨g6, 0, none⟩) (NN + 1) c6)) := (hk7.more (fun s hs => .inl (List.mem_cons_of_mem _ hs))).setCell (.inl (by simp)) _
    have hkf : Kp [w.heap.size] w6 (w6.setCell ⟨w.heap.size, 0, none⟩ (.slice (some ⟨g6, 0, none⟩) (NN + 1) c6)) := (Kp.refl _ _).setCell (.inl (by simp)) _
    have hBX : Bc ≠ w.heap.size := by omega
    have hg6 : g6 ≠ w.heap.size := by
      rcases hat6 with h | h
      · intro e; subst e; exact hXn h
      · simp at h; omega
    have hBk : ∀ h : BowAt W Bc q, BowAt (w6.setCell ⟨w.heap.size, 0, none⟩ (.slice (some ⟨g6, 0, none⟩) (NN + 1) c6)) Bc q := fun h => hk8.heap h (by simp; exact ⟨hBX, fun e => hBn e⟩)
    refine ⟨(keepsOwn hk8 (fun s hs o ho => ?_)).from _, hBk, ⟨.slice (some ⟨g6, 0, none⟩) (NN + 1) c6, ?_, ?_, ?_, hBk HI4.out, ?_⟩⟩
    · rcases List.mem_cons.1 hs with rfl | hs
      · rw [show W.heap[w.heap.size]? = _ from HI1.out] at ho; cases ho; rfl
      · exact hCW s hs o ho
    · exact heap_setCell_same w6 w.heap.size 0 _ _ _ hb6
    · rw [HL1.out, HPC.out]
      exact hkf.row hown6 (fun s hs e => by simp at hs; subst hs; simp [Value.ownBlock] at e; exact hg6 e)
    · rcases hat6 with h | h
      · rcases HI3.out with h3 | h3
        · exact .inl (by rw [← h3, h]; simp [Value.ownBlock])
        · exact .inr (fun k hk => by simp [Value.ownBlock] at hk; subst hk; exact h3 _ h)
      · exact .inr (fun k hk => by simp [Value.ownBlock] at hk; subst hk; simp at h; omega)
    · refine HI5.out.trans' hk8 (fun t ht => ?_)
      rcases List.mem_cons.1 ht with rfl | ht
      · exact .inr (Nat.le_refl _)
      · have ht2 : (Value.slice p NN c).ownBlock = some t := by simpa using ht
        rcases HI3.out with h3 | h3
        · exact .inl (by rw [← h3]; exact ht)
        · exact .inr (by have := h3 _ ht2; omega)
  case done =>
    rintro D ys W hD rfl ⟨v, i1, i2, i3, i4, i5⟩ hK
    have hc := i1.cell
    obtain ⟨T, hT⟩ : ∃ T, l0 ++ uptoF f M = T := ⟨_, rfl⟩
    rw [hT] at i2
    have HT := Lib.hid hT
    clear hT
    obtain ⟨p, c, hv⟩ := slice_own i2
    subst hv
    gi_wp2
    refine ⟨by simp, .inl ⟨_, _, rfl, run_takeDeferred hK, ?_⟩⟩
    refine ⟨.slice p T.length c, by simp [results, Try.f58, go_sem], _, rfl, by rw [HT.out]; exact ownsRow_putObj i2 _ hK rfl, i3, Kp.grown i5 (grownBy_putObj' _ D (.deferred none)) (fun k hk => .inr (by cases hk; omega))⟩
  case stop =>
    rintro D c pre W _ _ h _
    exact h.elim
end Go.Proofs.Ytpbmefojhgcniaa

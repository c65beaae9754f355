/- simple: what is read of bytes (plain); appends in order; ends. -/
import Derived.Test.YtodjohoonbkklaaSiA
import Derived.Test.YtodjohoonbkklaaApp
import Derived.Test.YtodjohoonbkklaaPair
import Derived.Lib.MinMax
import Derived.WalkKit
import Derived.ProofKit
namespace Go.Proofs.Ytodjohoonbkklaa
open Go.RowKit
set_option linter.unusedVariables false
set_option linter.unusedSimpArgs false
section
variable {P : Program} {w : World} {ops : Array Oper} {rest : List Oper} {o : Oper} {a : Act} {Q : Exit → Act → World → Prop}
/-- A literal slice of numbers, onto a row of the call's own. -/
theorem wpList_pushL (hgd : o.guard = none) (s x : Operand) (T E : TypeId) (k : IntKind) (bytes : Nat) (ht : P.underlying T = some (.slice E)) (hinfo : (P.info? E).map (fun i => (i.zero, i.size, i.bytes)) = some (some (.int k 0), 1, bytes)) (hb1 : 1 ≤ bytes)
    (ho : o.op = .call { callee := .builtin .append, args := #[s, x], argTypes := #[T, T] }) (base : Nat) (v : Value) (l : List Int) (n : Nat) (hn : l.length = n) (hs : a.eval s = v) (hown : w.ownsRow base E 1 v n (l.map (Value.int k)))
    (G : Nat) (zs : List Int) (m : Nat) (hm : zs.length = m) (hx : a.eval x = .slice (some ⟨G, 0, none⟩) m m) (hc : ∀ j u, (zs.map (Value.int k))[j]? = some u → w.cell? ⟨G, 0 + j, none⟩ = some u) (hl : (n + m) * bytes ≤ 140737488355328) (hbase : base ≤ w.heap.size)
    (h : ∀ v' w', w'.ownsRow base E 1 v' (n + m) ((l ++ zs).map (Value.int k)) → (∀ S w0, Kp S w0 w → w0.heap.size ≤ base → Kp S w0 w') → Kp v.ownBlock.toList w w' → wpList P ops Q rest (a.put o.dst v') w') : wpList P ops Q (o :: rest) a w := by
  subst hm
  have h63 : zs.length ≤ maxLen := by
    have := Nat.le_mul_of_pos_right (n + zs.length) hb1
    simp only [maxLen]; omega
  refine wpList_app hgd s x T ho base E (.int k 0) 1 bytes ht hinfo rfl (by decide) hb1 v n (l.map (Value.int k)) hs hown _ zs.length (zs.map (Value.int k)) hx ⟨by simp, .inr ⟨G, 0, zs.length, rfl, Nat.le_refl _, h63, hc⟩⟩ (oneCell_ints _ _) hl hbase ?_
  intro v' w' r1 r2
  exact h v' w' (by rw [List.map_append]; exact r1) (fun S w0 hk h0 => Kp.grown hk r2 (fun k hk => .inr (Nat.le_trans h0 (own_ge hown k hk)))) (Kp.grown (Kp.refl _ _) r2 (fun k hk => .inl (by rw [hk]; simp)))
end
/-- A row of numbers that has just been laid. -/
theorem litI {w W : World} {k : IntKind} {zs : List Int} {E : TypeId} (hk : Kp [] (w.alloc (.cells (zs.map (Value.int k)).toArray E)) W) : ∀ j u, (zs.map (Value.int k))[j]? = some u → W.cell? ⟨w.heap.size, 0 + j, none⟩ = some u := by
  intro j u hu
  have h := hk.heap (heap_alloc_new w _) (by simp)
  rw [Nat.zero_add, cell_of_row W _ j _ _ (0, 0) h]
  simpa using hu
theorem infoI : (Try.prog.info? 3).map (fun i => (i.zero, i.size, i.bytes)) = some (some (.int .i64 0), 1, 8) := by kernel_rfl
/-- The numbers of the contours' last points. -/
def endsR (zs : List Int) : Nat → Int → Rs → List Int → List Int × Int × Rs
  | 0, _, s, l => (l, 0, s)
  | n + 1, last, s, l =>
    if (stp zs 2 s).2 = true ∨ val zs 2 s ≤ last then ([], 110, stp zs 2 s)
    else if 4096 ≤ val zs 2 s then ([], 100, stp zs 2 s)
    else endsR zs n (val zs 2 s) (stp zs 2 s) (l ++ [val zs 2 s])
theorem stp_le (zs : List Int) (m : Nat) (s : Rs) (h : s.1 ≤ zs.length) : (stp zs m s).1 ≤ zs.length := rdK_le zs s.1 s.2 m h
theorem val_bounds (zs : List Int) (m : Nat) (s : Rs) (hb : ∀ c ∈ zs, 0 ≤ c ∧ c ≤ 255) : 0 ≤ val zs m s ∧ val zs m s < (256 ^ m : Nat) := rdV_bounds zs s.1 s.2 m hb
section
variable {w : World} {r : Nat} {v : Value} {zs : List Int} {s : Rs}
theorem u8T (h : RdS w r v zs s.1 s.2) : Calls Try.prog 140 #[.pointer (some ⟨r, 0, none⟩)] w fun e w' => e = .returned (.int .i64 (val zs 1 s)) ∧ RdS w' r v zs (stp zs 1 s).1 (stp zs 1 s).2 ∧ Kp [r] w w' := u8S h
theorem u16T (h : RdS w r v zs s.1 s.2) : Calls Try.prog 95 #[.pointer (some ⟨r, 0, none⟩)] w fun e w' => e = .returned (.int .i64 (val zs 2 s)) ∧ RdS w' r v zs (stp zs 2 s).1 (stp zs 2 s).2 ∧ Kp [r] w w' := u16S h
theorem i16T (h : RdS w r v zs s.1 s.2) : Calls Try.prog 52 #[.pointer (some ⟨r, 0, none⟩)] w fun e w' => e = .returned (.int .i64 (s16 (val zs 2 s))) ∧ RdS w' r v zs (stp zs 2 s).1 (stp zs 2 s).2 ∧ Kp [r] w w' := i16S h
theorem doneT (h : RdS w r v zs s.1 s.2) : Calls Try.prog 54 #[.pointer (some ⟨r, 0, none⟩)] w fun e w' => e = .returned (.int .i64 (bif s.2 then 30 else 0)) ∧ w = w' := doneS h
end
/-- The reader, and a row of numbers that is being read. -/
def EnSt (w wr : World) (r : Nat) (v : Value) (zs : List Int) (s : Rs) (l : Value) (acc : List Int) : Prop :=
  RdS wr r v zs s.1 s.2 ∧ wr.ownsRow w.heap.size 3 1 l acc.length (acc.map (Value.int .i64)) ∧ Kp [r] w wr ∧ r < w.heap.size ∧ ∀ b, blockOf v = some b → b < w.heap.size
theorem EnSt.read {w wr w' : World} {r : Nat} {v : Value} {zs : List Int} {s s' : Rs} {l : Value} {acc : List Int} (h : EnSt w wr r v zs s l acc) (hr : RdS w' r v zs s'.1 s'.2) (hk : Kp [r] wr w') : EnSt w w' r v zs s' l acc :=
  ⟨hr, hk.row h.2.1 (fun t ht e => by simp at ht; subst ht; have := own_ge h.2.1 _ e; have := h.2.2.2.1; omega), h.2.2.1.trans hk, h.2.2.2⟩
theorem EnSt.push {w wr w' : World} {r : Nat} {v : Value} {zs : List Int} {s : Rs} {l l' : Value} {acc : List Int} {zs' : List Int} {n m : Nat} {O : Obj} (h : EnSt w wr r v zs s l acc) (hn : acc.length = n) (hm : zs'.length = m)
    (hown : w'.ownsRow w.heap.size 3 1 l' (n + m) (acc.map (Value.int .i64) ++ zs'.map (Value.int .i64))) (hk : ∀ S w0, Kp S w0 (wr.alloc O) → w0.heap.size ≤ w.heap.size → Kp S w0 w') (hk2 : Kp l.ownBlock.toList (wr.alloc O) w') : EnSt w w' r v zs s l' (acc ++ zs') := by
  have h3 : Kp l.ownBlock.toList wr w' := ((Kp.refl _ _).alloc O).trans hk2
  refine ⟨h.1.kp h3 (fun e => by have := own_ge h.2.1 r (by simpa using e); have := h.2.2.2.1; omega) (fun t ht e => by have := own_ge h.2.1 t (by simpa using ht); have := h.2.2.2.2 t e; omega), ?_, hk [r] w (h.2.2.1.alloc O) (Nat.le_refl _), h.2.2.2⟩
  rw [List.length_append, hn, hm, List.map_append]; exact hown
set_option maxRecDepth 100000 in
set_option maxHeartbeats 2000000 in
theorem ends_calls {w : World} {r : Nat} {v : Value} {zs : List Int} {s : Rs} (K : Nat) (hK : K ≤ 256) (h : RdS w r v zs s.1 s.2) (hv : ∀ b, blockOf v = some b → b < w.heap.size) :
    Calls Try.prog 94 #[.pointer (some ⟨r, 0, none⟩), .int .i64 K] w fun e w' => ∃ v', e = .returned (.tuple #[v', .int .i64 (endsR zs K (-1) s []).2.1]) ∧ IsInts .i64 w' v' (endsR zs K (-1) s []).1 ∧ RdS w' r v zs (endsR zs K (-1) s []).2.2.1 (endsR zs K (-1) s []).2.2.2 ∧ Kp [r] w w' ∧ ∀ b, blockOf v' = some b → w.heap.size ≤ b := by
  have hS : Hid (EnSt w w r v zs s (.slice none 0 0) []) := ⟨h, World.ownsRow_nil _ _ _ _, Kp.refl _ _, h.lt, hv⟩
  have HBB := Lib.hid h.2.2.1
  obtain ⟨R, hR⟩ : ∃ R, endsR zs K (-1) s [] = R := ⟨_, rfl⟩
  have HR : Hid (endsR zs (K - 0) (-1) s [] = R) := hR
  rw [hR]
  clear h hv hR
  go_enter Try.func94, Try.ntmps94
  go_wp2_with fail
  go_loopw [6, 7, 8, 10] (fun l la _ i wr => ∃ (j : Nat) (s : Rs) (acc : List Int) (last : Int), j ≤ K ∧ i = .int .i64 j ∧ la = .int .i64 last ∧ Hid (-1 ≤ last ∧ last ≤ 4095) ∧ Hid (acc.length = j) ∧ Hid (EnSt w wr r v zs s l acc ∧ endsR zs (K - j) last s acc = R)) (fun _ _ _ i _ => K - (intOf i).toNat)
  case atStart => exact ⟨0, s, [], -1, by omega, rfl, rfl, ⟨by omega, by omega⟩, rfl, hS.out, HR.out⟩
  case round =>
    obtain ⟨j, s, acc, last, hj, rfl, rfl, HL, HA, HJ⟩ := hrel
    clear hS HR
    by_cases hlt : j < K
    · have HE := Lib.hid HJ.out.2
      have HS := Lib.hid HJ.out.1
      obtain ⟨q0, q1⟩ := val_bounds zs 2 s HBB.out
      have HU := Lib.hid (u16T HS.out.1)
      have HRR : Hid (endsR zs (K - j) last s acc = if (stp zs 2 s).2 = true ∨ val zs 2 s ≤ last then ([], 110, stp zs 2 s) else if 4096 ≤ val zs 2 s then ([], 100, stp zs 2 s) else endsR zs (K - (j + 1)) (val zs 2 s) (stp zs 2 s) (acc ++ [val zs 2 s])) := by
        show _ = _
        rw [show K - j = (K - (j + 1)) + 1 by omega]; rfl
      rw [HE.out] at HRR
      have hle1 : (256 ^ 2 : Nat) = 65536 := by decide
      rw [hle1] at q1
      clear HJ HE hle1
      generalize val zs 2 s = x at *
      generalize stp zs 2 s = s1 at *
      obtain ⟨k1, b1⟩ := s1
      go_wp2_with fail
      refine HU.out.mono ?_; rintro e w2 ⟨rfl, h2, hk2⟩
      have HS2 : Hid (EnSt w w2 r v zs (k1, b1) _ acc) := HS.out.read (s' := (k1, b1)) h2 hk2
      clear h2 hk2 HU HS
      go_wp2_with fail
      refine (doneT HS2.out.1).mono ?_; rintro e w3 ⟨rfl, rfl⟩
      cases b1
      · by_cases hxl : x ≤ last
        · have HF : Hid (R = ([], 110, (k1, false))) := by show _ = _; rw [HRR.out, if_pos (.inr hxl)]
          have hd : decide (x ≤ last) = true := decide_eq_true hxl
          clear hxl HRR
          go_wp2_with fail
          go_ret2
          rw [HF.out]
          exact ⟨_, rfl, IsInts.nil _ _, HS2.out.1, HS2.out.2.2.1, fun b hb => by simp at hb⟩
        · by_cases hx4 : 4096 ≤ x
          · have HF : Hid (R = ([], 100, (k1, false))) := by show _ = _; rw [HRR.out, if_neg (by simpa using hxl), if_pos hx4]
            have hd : decide (x ≤ last) = false := decide_eq_false hxl
            have hd4 : decide (4096 ≤ x) = true := decide_eq_true hx4
            clear hxl hx4 HRR
            go_wp2_with fail
            go_ret2
            rw [HF.out]
            exact ⟨_, rfl, IsInts.nil _ _, HS2.out.1, HS2.out.2.2.1, fun b hb => by simp at hb⟩
          · have HF : Hid (endsR zs (K - (j + 1)) x (k1, false) (acc ++ [x]) = R) := by show _ = _; rw [HRR.out, if_neg (by simpa using hxl), if_neg hx4]
            have hd : decide (x ≤ last) = false := decide_eq_false hxl
            have hd4 : decide (4096 ≤ x) = false := decide_eq_false hx4
            obtain ⟨pl, cl, hl⟩ := slice_own HS2.out.2.1
            subst hl
            have HXB : Hid (-1 ≤ x ∧ x ≤ 4095) := ⟨by omega, by omega⟩
            have HROW := Lib.hid HS2.out.2.1
            have hsz : w.heap.size ≤ w2.heap.size := HS2.out.2.2.1.size
            rw [HA.out] at HROW HS2 ⊢
            clear hxl hx4 HRR
            go_wp2_with (at_builtin; go_loud (refine wpList_pushL rfl _ _ 100 3 .i64 8 Try.underlying100 infoI (by decide) rfl w.heap.size (.slice pl j cl) acc j HA.out rfl ?hown w2.heap.size [x] 1 rfl rfl ?hc ?hl ?hbase ?hk))
            case hown => exact Kp.row (S := []) ((Kp.refl _ _).alloc _) HROW.out (by simp)
            case hc => exact litI (zs := [x]) (Kp.refl _ _)
            case hl => omega
            case hbase => simp; omega
            case hk =>
            intro v5 w5 hown5 hk5 hk6
            have HS5 : Hid (EnSt w w5 r v zs (k1, false) v5 (acc ++ [x])) := HS2.out.push (zs' := [x]) (m := 1) HA.out rfl hown5 hk5 hk6
            clear hown5 hk5 hk6
            have HA5 : Hid ((acc ++ [x]).length = j + 1) := by show _ = _; rw [List.length_append, HA.out]; rfl
            clear HS2 HROW HA HL hd hd4
            go_wp2_with fail
            go_roundw
            case rel => first | exact ⟨j + 1, (k1, false), acc ++ [x], x, by omega, int_eq' (by omega), rfl, HXB, HA5, HS5.out, HF.out⟩ | ((repeat apply Exists.intro); exact ⟨⟨j + 1, (k1, false), acc ++ [x], x, by omega, int_eq' (by omega), rfl, HXB, HA5, HS5.out, HF.out⟩, rfl⟩)
            case measure => simp [intOf]; omega
      · have HF : Hid (R = ([], 110, (k1, true))) := by show _ = _; rw [HRR.out, if_pos (.inl rfl)]
        clear HRR
        go_wp2_with fail
        go_ret2
        rw [HF.out]
        exact ⟨_, rfl, IsInts.nil _ _, HS2.out.1, HS2.out.2.2.1, fun b hb => by simp at hb⟩
    · obtain rfl : j = K := by omega
      have HF : Hid (R = (acc, 0, s)) := by show _ = _; rw [← HJ.out.2, Nat.sub_self]; rfl
      have HS := Lib.hid HJ.out.1
      clear HJ
      go_wp2_with fail
      go_ret2
      rw [HF.out]
      exact ⟨_, rfl, IsInts.owned HS.out.2.1, HS.out.1, HS.out.2.2.1, own_geb HS.out.2.1⟩
end Go.Proofs.Ytodjohoonbkklaa

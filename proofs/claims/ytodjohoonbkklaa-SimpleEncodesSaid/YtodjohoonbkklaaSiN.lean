/- simple: the writer's Data of no bytes; the writer in Encode. -/
import Derived.Test.YtodjohoonbkklaaSiM
import Derived.Test.YtodjohoonbkklaaWireF
import Derived.Test.YtodjohoonbkklaaWireG
import Derived.Laws.AppendOwnNone
import Derived.Deep.DeepCutAuto
namespace Go.Proofs.Ytodjohoonbkklaa
open Go.RowKit
set_option linter.unusedVariables false
set_option linter.unusedSimpArgs false
theorem wpList_append_nothing {P : Program} {w : World} {ops : Array Oper} {rest : List Oper} {o : Oper} {a : Act} {Q : Exit → Act → World → Prop} (hgd : o.guard = none) (s x : Operand) (t : TypeId)
    (ho : o.op = .call { callee := .builtin .append, args := #[s, x], argTypes := #[t, t] })
    (base : Nat) (e : TypeId) (i : TypeInfo) (size : Nat) (ht : P.underlying t = some (.slice e)) (hi : P.info? e = some i)
    (v : Value) (n : Nat) (xs : List Value) (hs : a.eval s = v) (hown : w.ownsRow base e size v n xs) (p : Option Addr) (c : Nat) (hx : a.eval x = .slice p 0 c)
    (h : wpList P ops Q rest (a.put o.dst v) w) : wpList P ops Q (o :: rest) a w := by
  refine wpList_plain hgd fun K hK => ?_
  have hrun : (Builtin.append_ #[t, t] o.type #[v, .slice p 0 c]).run P w = .ok v w := by
    rcases hown.2 with ⟨rfl, rfl⟩ | ⟨g, cap, cur, rfl, _, _, hnc, _⟩
    · cases p <;> simp [Builtin.append_, run_underlying ht, sizeOf, typeInfo, hi, Builtin.lenOf, Builtin.firstCells, loadCells, loadCellsFrom]
    · cases p <;> simp [Builtin.append_, run_underlying ht, sizeOf, typeInfo, hi, Builtin.lenOf, Builtin.firstCells, hnc, storeCells, loadCells, loadCellsFrom]
  unfold Oper.wp
  simp [execOp, ho, resolve, invoke, builtin, hs, hx, hrun, Result.andThen]
  exact hK _ _ h
set_option maxRecDepth 100000 in
set_option maxHeartbeats 4000000 in
theorem wdata0_calls (r : Nat) (room : Int) (v : Value) (acc : List Int) (p : Option Addr) (c : Nat) (w : World) (h : WSt w r room v acc) (hn : (acc.length : Int) ≤ room) (hr : room ≤ 1073741824) :
    Calls Try.prog 63 #[.pointer (some ⟨r, 0, none⟩), .slice p 0 c] w fun e w' => e = .returned (.pointer (some ⟨r, 0, none⟩)) ∧ WSt w' r room v acc ∧ Kp [r] w w' := by
  obtain ⟨i0, hi, hz0, hz1, hz2⟩ := info_parts infoByte
  go_enter Try.func63, Try.ntmps63
  go_wp2_with fail
  refine (wfits_calls r room v acc 0 w h (by omega) (by omega) hr).mono ?_; rintro e w1 ⟨rfl, hs1, hk1⟩
  have HS := Lib.hid hs1
  have HK := Lib.hid hk1
  obtain ⟨c0, c1, c2, f0, f2⟩ := hs1.facts
  obtain ⟨q, c5, rfl⟩ := slice_own hs1.2.1
  clear hs1 hk1 h
  go_wp2_with (at_builtin; go_loud (refine wpList_append_nothing rfl _ _ 22 rfl (r + 1) 5 i0 1 Try.underlying22 hi (.slice q acc.length c5) acc.length (acc.map (Value.int .u8)) rfl HS.out.2.1 p c rfl ?hk))
  go_ret
  have hk2 : Kp [r] w1 (w1.setCell ⟨r, 0, none⟩ (.slice q acc.length c5)) := (Kp.refl _ _).setCell (.inl (by simp)) _
  exact ⟨rfl, ⟨heap_setCell_same w1 r 0 _ _ _ HS.out.1, hk2.row HS.out.2.1 (fun t ht e => by simp at ht; subst ht; have := own_ge HS.out.2.1 _ e; omega), Nat.lt_of_lt_of_le HS.out.2.2 hk2.size⟩, HK.out.trans hk2⟩
/-- Data of whatever bytes. -/
theorem wdataA_calls (r : Nat) (room : Int) (v : Value) (acc : List Int) (b : Value) (zs : List Int) (w : World) (h : WSt w r room v acc) (hb : IsInts .u8 w b zs) (hbr : ∀ k, blockOf b = some k → k ≠ r) (hn : (acc.length : Int) + zs.length ≤ room) (hr : room ≤ 1073741824) :
    Calls Try.prog 63 #[.pointer (some ⟨r, 0, none⟩), b] w fun e w' => e = .returned (.pointer (some ⟨r, 0, none⟩)) ∧ ∃ v', WSt w' r room v' (acc ++ zs) ∧ WK w w' r v v' := by
  by_cases h0 : zs.length = 0
  · obtain rfl : zs = [] := List.length_eq_zero_iff.1 h0
    obtain ⟨p, c, rfl⟩ := hb.form
    refine (wdata0_calls r room v acc p c w h (by simpa using hn) hr).mono ?_
    rintro e w' ⟨rfl, h1, h2⟩
    exact ⟨rfl, v, by rw [List.append_nil]; exact h1, h2.more (fun s hs => .inl (by simp at hs; simp [hs])), fun k hk => .inl hk⟩
  · exact wdata_calls r room v acc b zs w h hb hbr (by omega) hn hr
end Go.Proofs.Ytodjohoonbkklaa

/- What a call leaves of memory: 'Kp S w w'': the blocks that were there and are not in the list S are as they were. And a slice of integers that can be read: 'IsInts'. -/
import Derived.Below
import Derived.WalkSmall
import Derived.OneCell
import Derived.Laws.OwnMore
namespace Go.Proofs.YtlhkaoccnpgkeaaGreat
open Go.RowKit
set_option linter.unusedVariables false

structure Kp (S : List Nat) (w w' : World) : Prop where
  os : w'.os = w.os
  tape : w'.tape = w.tape
  output : w'.output = w.output
  size : w.heap.size ≤ w'.heap.size
  block : ∀ k, k < w.heap.size → k ∉ S → w'.heap[k]? = w.heap[k]?

theorem Kp.refl (S : List Nat) (w : World) : Kp S w w := ⟨rfl, rfl, rfl, Nat.le_refl _, fun _ _ _ => rfl⟩
theorem Kp.trans' {S T : List Nat} {a b c : World} (h : Kp S a b) (k : Kp T b c) (hT : ∀ t ∈ T, t ∈ S ∨ a.heap.size ≤ t) : Kp S a c :=
  ⟨k.os.trans h.os, k.tape.trans h.tape, k.output.trans h.output, Nat.le_trans h.size k.size, fun i hi hs =>
    (k.block i (Nat.lt_of_lt_of_le hi h.size) (fun ht => by rcases hT i ht with g | g; exact hs g; omega)).trans (h.block i hi hs)⟩
theorem Kp.trans {S : List Nat} {a b c : World} (h : Kp S a b) (k : Kp S b c) : Kp S a c := h.trans' k (fun t ht => .inl ht)
theorem Kp.trans0 {S : List Nat} {a b c : World} (h : Kp S a b) (k : Kp [] b c) : Kp S a c := h.trans' k (fun t ht => nomatch ht)
theorem Kp.drewN {S : List Nat} {a w : World} (h : Kp S a w) (n : Nat) : Kp S a (w.drewN n) := ⟨h.os, h.tape, h.output, h.size, h.block⟩
theorem Kp.drew {S : List Nat} {a w : World} (h : Kp S a w) : Kp S a w.drew := ⟨h.os, h.tape, h.output, h.size, h.block⟩
theorem Kp.alloc {S : List Nat} {a w : World} (h : Kp S a w) (o : Obj) : Kp S a (w.alloc o) :=
  h.trans' (T := []) ⟨rfl, rfl, rfl, by simp, fun k hk _ => Below.heap_alloc _ _ _ hk⟩ (fun t ht => nomatch ht)
theorem Kp.setCell {S : List Nat} {a w : World} (h : Kp S a w) {p : Addr} (hp : p.block ∈ S ∨ a.heap.size ≤ p.block) (u : Value) : Kp S a (w.setCell p u) :=
  h.trans' (T := [p.block]) ⟨rfl, rfl, rfl, by simp [World.setCell], fun k hk hs => Below.heap_setCell _ _ _ _ (fun e => hs (by simp [e]))⟩ (fun t ht => by simp at ht; subst ht; exact hp)
theorem Kp.grown {S : List Nat} {a w w' : World} {row : Option Nat} (h : Kp S a w) (hg : w.grownBy w' row) (hr : ∀ k, row = some k → k ∈ S ∨ a.heap.size ≤ k) : Kp S a w' :=
  ⟨hg.os.trans h.os, hg.tape.trans h.tape, hg.output.trans h.output, Nat.le_trans h.size hg.size, fun i hi hs =>
    (hg.block i (Nat.lt_of_lt_of_le hi h.size) (fun e => by rcases hr i e.symm with g | g; exact hs g; omega)).trans (h.block i hi hs)⟩
theorem Kp.below {S : List Nat} {w w' : World} (h : Kp S w w') (hS : ∀ s ∈ S, w.heap.size ≤ s) : Below w.heap.size w w' :=
  ⟨h.os, h.tape, h.output, h.size, fun k hk => h.block k hk (fun hs => by have := hS k hs; omega)⟩
theorem Kp.bel0 {w w' : World} (h : Kp [] w w') : Below w.heap.size w w' := h.below (fun s hs => nomatch hs)
theorem Kp.of_below {w w' : World} (h : Below w.heap.size w w') : Kp [] w w' := ⟨h.os, h.tape, h.output, h.size, fun k hk _ => h.block k hk⟩
theorem Kp.more {S T : List Nat} {w w' : World} (h : Kp S w w') (hST : ∀ s ∈ S, s ∈ T ∨ w.heap.size ≤ s) : Kp T w w' :=
  (Kp.refl T w).trans' h hST
theorem Kp.heap {S : List Nat} {w w' : World} (h : Kp S w w') {k : Nat} {o : Obj} (ho : w.heap[k]? = some o) (hk : k ∉ S) : w'.heap[k]? = some o :=
  (h.block k (lt_of_block ho) hk).trans ho
theorem Kp.cell {S : List Nat} {w w' : World} (h : Kp S w w') {a : Addr} {v : Value} (ha : w.cell? a = some v) (hk : a.block ∉ S) : w'.cell? a = some v :=
  (World.cell?_of_block (h.block a.block (World.block_lt_of_cell? w a ha) hk)).trans ha
theorem Kp.row {S : List Nat} {w w' : World} {base : Nat} {e : TypeId} {size : Nat} {v : Value} {n : Nat} {xs : List Value} (h : Kp S w w') (ho : w.ownsRow base e size v n xs) (hS : ∀ s ∈ S, v.ownBlock ≠ some s) : w'.ownsRow base e size v n xs := by
  refine ⟨ho.1, ?_⟩
  rcases ho.2 with hn | ⟨g, cap, cur, rfl, hb, hgg, rest⟩
  · exact .inl hn
  · exact .inr ⟨g, cap, cur, rfl, hb, h.heap hgg (fun hs => hS g hs rfl), rest⟩

/-- The block of a slice that has room (of the address of a slice without capacity nothing is known). -/
def blockOf : Value → Option Nat
  | .slice a _ c => if c = 0 then none else a.map (·.block)
  | v => v.ownBlock
@[simp] theorem blockOf_some (g off : Nat) (sp : Option Nat) (n c b : Nat) : blockOf (.slice (some ⟨g, off, sp⟩) n c) = some b ↔ c ≠ 0 ∧ g = b := by
  unfold blockOf; by_cases h : c = 0 <;> simp [h]
@[simp] theorem blockOf_none (n c : Nat) : blockOf (.slice none n c) = none := by
  by_cases h : c = 0 <;> simp [blockOf, h]
@[simp] theorem blockOf_zero (a : Option Addr) (n : Nat) : blockOf (.slice a n 0) = none := by
  unfold blockOf; simp
theorem blockOf_own {v : Value} {b : Nat} (h : blockOf v = some b) : v.ownBlock = some b := by
  unfold blockOf at h
  split at h
  · split at h
    · simp at h
    · rename_i a _ _ _; cases a <;> simp_all [Value.ownBlock]
  · exact h
/-- v is a slice whose elements are the integers zs. -/
def IsInts (k : IntKind) (w : World) (v : Value) (zs : List Int) : Prop :=
  ((∃ a, v = .slice a 0 0) ∧ zs = []) ∨
  ∃ g off cap, v = .slice (some ⟨g, off, none⟩) zs.length cap ∧ zs.length ≤ cap ∧ cap ≤ maxLen ∧ ∀ i, i < zs.length → w.cell? ⟨g, off + i, none⟩ = some (.int k (zs.getD i 0))
theorem IsInts.kp {S : List Nat} {k : IntKind} {w w' : World} {v : Value} {zs : List Int} (h : IsInts k w v zs) (hk : Kp S w w') (hS : ∀ s ∈ S, blockOf v ≠ some s) : IsInts k w' v zs := by
  rcases h with h | ⟨g, off, cap, rfl, h1, h2, h3⟩
  · exact .inl h
  · exact .inr ⟨g, off, cap, rfl, h1, h2, fun i hi => hk.cell (h3 i hi) (fun hs => hS g hs ((blockOf_some _ _ _ _ _ _).2 ⟨by omega, rfl⟩))⟩
theorem IsInts.nil (k : IntKind) (w : World) : IsInts k w (.slice none 0 0) [] := .inl ⟨⟨_, rfl⟩, rfl⟩
theorem IsInts.le {k : IntKind} {w : World} {v : Value} {zs : List Int} (h : IsInts k w v zs) : zs.length ≤ maxLen := by
  rcases h with ⟨_, rfl⟩ | ⟨g, off, cap, rfl, h1, h2, h3⟩
  · simp
  · omega
/-- What the call owns can be read. -/
theorem IsInts.owned {k : IntKind} {w : World} {base : Nat} {e : TypeId} {v : Value} {n : Nat} {zs : List Int} (h : w.ownsRow base e 1 v n (zs.map (Value.int k))) : IsInts k w v zs := by
  have hl : zs.length = n := by simpa using h.1
  rcases h.2 with ⟨rfl, rfl⟩ | ⟨g, cap, cur, rfl, hb, hgg, hc, hm, hs, ht⟩
  · exact .inl ⟨⟨_, rfl⟩, List.eq_nil_of_length_eq_zero hl⟩
  · subst hl
    refine .inr ⟨g, 0, cap, rfl, hc, hm, fun i hi => ?_⟩
    have := h.cells (g := g) rfl i (.int k (zs.getD i 0)) (by rw [List.getElem?_map, List.getD_eq_getElem?_getD, List.getElem?_eq_getElem hi]; rfl)
    have hadd : (⟨g, 0, none⟩ : Addr).add i = ⟨g, 0 + i, none⟩ := by unfold Addr.add; split <;> simp_all
    rw [hadd] at this; exact this
end Go.Proofs.YtlhkaoccnpgkeaaGreat

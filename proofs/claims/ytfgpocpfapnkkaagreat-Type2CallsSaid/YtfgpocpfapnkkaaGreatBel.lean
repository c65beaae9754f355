/- 'Bel w w'': the world w' is w but for new blocks, cells of those, and draws: what every contract here says of the world that it leaves. It is transitive as it stands. -/
import Derived.Below
import Derived.WalkSmall
namespace Go.Proofs.YtfgpocpfapnkkaaGreat
open Go.RowKit
def Bel (w w' : World) : Prop := Below w.heap.size w w'
theorem Bel.refl (w : World) : Bel w w := Below.refl _ _
theorem Bel.trans {a b c : World} (h : Bel a b) (k : Bel b c) : Bel a c := Below.trans h (Below.mono k h.size)
theorem Bel.alloc {a w : World} (h : Bel a w) (o : Obj) : Bel a (w.alloc o) := Below.alloc h h.size o
theorem Bel.drew {a w : World} (h : Bel a w) : Bel a w.drew := Below.drew h
theorem Bel.drewN {a w : World} (h : Bel a w) (n : Nat) : Bel a (w.drewN n) := ⟨h.os, h.tape, h.output, h.size, h.block⟩
theorem Bel.setCell {a w : World} (h : Bel a w) {p : Addr} (hp : a.heap.size ≤ p.block) (u : Value) : Bel a (w.setCell p u) := Below.setCell h hp u
theorem Bel.of_eq {a w : World} (h : w = a) : Bel a w := by subst h; exact Bel.refl _
theorem Bel.cell {w w' : World} (h : Bel w w') {p : Addr} (hp : p.block < w.heap.size) : w'.cell? p = w.cell? p := Below.cell h hp
theorem Bel.frozen {w w' : World} (h : Bel w w') {p : Addr} (hp : p.block < w.heap.size) : w'.frozen? p = w.frozen? p := Below.frozen h hp
theorem Bel.size {w w' : World} (h : Bel w w') : w.heap.size ≤ w'.heap.size := Below.size h
theorem Bel.below {w w' : World} (h : Bel w w') : Below w.heap.size w w' := h
end Go.Proofs.YtfgpocpfapnkkaaGreat

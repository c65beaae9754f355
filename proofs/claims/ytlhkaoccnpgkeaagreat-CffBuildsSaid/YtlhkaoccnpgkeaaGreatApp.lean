/- Appending to a row of the call's own: one law for a source that is nil or not; and one for single new elements. -/
import Derived.Test.YtlhkaoccnpgkeaaGreatMem
import Derived.OwnWalk
import Derived.Laws.AppendOwn
import Derived.Laws.AppendOwnNone
import Derived.RegionTactic
namespace Go.Proofs.YtlhkaoccnpgkeaaGreat
open Go.RowKit
set_option linter.unusedVariables false

/-- v is a slice of n elements of 'size' cells each; all its cells are 'cs'. -/
def Reads (size : Nat) (w : World) (v : Value) (n : Nat) (cs : List Value) : Prop :=
  cs.length = n * size ∧ (((∃ a, v = .slice a 0 0) ∧ n = 0) ∨ ∃ g off cap, v = .slice (some ⟨g, off, none⟩) n cap ∧ n ≤ cap ∧ cap ≤ maxLen ∧ ∀ j u, cs[j]? = some u → w.cell? ⟨g, off + j, none⟩ = some u)
theorem add_lit (g off j : Nat) : (⟨g, off, none⟩ : Addr).add j = ⟨g, off + j, none⟩ := by unfold Addr.add; split <;> simp_all
theorem IsInts.reads {k : IntKind} {w : World} {v : Value} {zs : List Int} (h : IsInts k w v zs) : Reads 1 w v zs.length (zs.map (Value.int k)) := by
  refine ⟨by simp, ?_⟩
  rcases h with ⟨⟨a, rfl⟩, rfl⟩ | ⟨g, off, cap, rfl, h1, h2, h3⟩
  · exact .inl ⟨⟨_, rfl⟩, rfl⟩
  · refine .inr ⟨g, off, cap, rfl, h1, h2, fun j u hu => ?_⟩
    rw [List.getElem?_map] at hu
    by_cases hj : j < zs.length
    · rw [List.getElem?_eq_getElem hj] at hu
      rw [h3 j hj, List.getD_eq_getElem?_getD, List.getElem?_eq_getElem hj]
      simpa using hu
    · rw [List.getElem?_eq_none (by omega)] at hu; simp at hu
theorem Reads.kp {S : List Nat} {size : Nat} {w w' : World} {v : Value} {n : Nat} {cs : List Value} (h : Reads size w v n cs) (hk : Kp S w w') (hS : ∀ s ∈ S, blockOf v ≠ some s) : Reads size w' v n cs := by
  refine ⟨h.1, ?_⟩
  rcases h.2 with h2 | ⟨g, off, cap, rfl, h1, h2, h3⟩
  · exact .inl h2
  · refine .inr ⟨g, off, cap, rfl, h1, h2, fun j u hu => hk.cell (h3 j u hu) (fun hs => hS g hs ((blockOf_some _ _ _ _ _ _).2 ⟨fun hc => ?_, rfl⟩))⟩
    have hn : n = 0 := by omega
    have hl := h.1
    rw [hn, Nat.zero_mul] at hl
    rw [List.eq_nil_of_length_eq_zero hl] at hu
    simp at hu
theorem Reads.owned {size : Nat} {w : World} {base : Nat} {e : TypeId} {v : Value} {n : Nat} {cs : List Value} (h : w.ownsRow base e size v n cs) : Reads size w v n cs := by
  refine ⟨h.1, ?_⟩
  rcases h.2 with h2 | ⟨g, cap, cur, rfl, hb, hgg, hc, hm, hs, ht⟩
  · exact .inl ⟨⟨_, h2.1⟩, h2.2⟩
  · refine .inr ⟨g, 0, cap, rfl, hc, hm, fun j u hu => ?_⟩
    have := h.cells (g := g) rfl j u hu
    rwa [add_lit] at this

section
variable {P : Program} {w : World} {ops : Array Oper} {rest : List Oper} {o : Oper} {a : Act} {Q : Exit → Act → World → Prop}
theorem wpList_app (hgd : o.guard = none) (s x : Operand) (t : TypeId)
    (ho : o.op = .call { callee := .builtin .append, args := #[s, x], argTypes := #[t, t] })
    (base : Nat) (e : TypeId) (z : Value) (size bytes : Nat) (ht : P.underlying t = some (.slice e)) (hinfo : (P.info? e).map (fun i => (i.zero, i.size, i.bytes)) = some (some z, size, bytes))
    (hzs : z.cells.size = size) (hsz : 0 < size) (hb1 : 1 ≤ bytes)
    (v : Value) (n : Nat) (xs : List Value) (hs : a.eval s = v) (hown : w.ownsRow base e size v n xs)
    (xv : Value) (m : Nat) (news : List Value) (hx : a.eval x = xv) (hsrc : Reads size w xv m news) (h1 : ∀ u ∈ news, u.oneCell' = true)
    (hbytes : (n + m) * bytes ≤ 140737488355328) (hbase : base ≤ w.heap.size)
    (h : ∀ v' w', w'.ownsRow base e size v' (n + m) (xs ++ news) → w.grownBy w' v.ownBlock → wpList P ops Q rest (a.put o.dst v') w') : wpList P ops Q (o :: rest) a w := by
  obtain ⟨i, hi, hz, hsize, hby⟩ := info_parts hinfo
  have h63 : n + m ≤ maxLen := by
    have := Nat.le_mul_of_pos_right (n + m) hb1
    simp only [maxLen]; omega
  rcases hsrc.2 with ⟨⟨ad, rfl⟩, rfl⟩ | ⟨g, off, cap, rfl, h2, h3, h4⟩
  · have hn : news = [] := List.eq_nil_of_length_eq_zero (by simpa using hsrc.1)
    subst hn
    rcases ad with _ | ad
    case some =>
      exact wpList_append_own w hgd s x t ho base e i z size bytes ht hi hz hsize hby hzs hsz v n xs hs hown ad 0 0 [] hx hsrc.1 (fun j u hu => by simp at hu) h1 h63 hbytes hbase
        (fun v' w' h5 h6 _ => h v' w' h5 h6)
    refine wpList_append_own_none hgd s x t ho base e i size ht hi v n xs hs hown hx ?_
    exact h v w (by simpa using hown) ⟨rfl, rfl, rfl, Nat.le_refl _, fun _ _ _ => rfl⟩
  · exact wpList_append_own w hgd s x t ho base e i z size bytes ht hi hz hsize hby hzs hsz v n xs hs hown ⟨g, off, none⟩ m cap news hx hsrc.1 (fun j u hu => by rw [add_lit]; exact h4 j u hu) h1 h63 hbytes hbase
      (fun v' w' h5 h6 _ => h v' w' h5 h6)
/-- The same inside a region that draws its order (for 'go_region_held3', 'go_region_law'). -/
theorem step_app {K : Act → World → Prop} {E : Prop} (hgd : o.guard = none) (s x : Operand) (t : TypeId)
    (ho : o.op = .call { callee := .builtin .append, args := #[s, x], argTypes := #[t, t] })
    (base : Nat) (e : TypeId) (z : Value) (size bytes : Nat) (ht : P.underlying t = some (.slice e)) (hinfo : (P.info? e).map (fun i => (i.zero, i.size, i.bytes)) = some (some z, size, bytes))
    (hzs : z.cells.size = size) (hsz : 0 < size) (hb1 : 1 ≤ bytes)
    (v : Value) (n : Nat) (xs : List Value) (hs : a.eval s = v) (hown : w.ownsRow base e size v n xs)
    (g off cap m : Nat) (news : List Value) (hx : a.eval x = .slice (some ⟨g, off, none⟩) m cap) (hl : news.length = m * size) (hnews : ∀ j u, news[j]? = some u → w.cell? ⟨g, off + j, none⟩ = some u) (h1 : ∀ u ∈ news, u.oneCell' = true)
    (hbytes : (n + m) * bytes ≤ 140737488355328) (hbase : base ≤ w.heap.size)
    (h : ∀ v' w', w'.ownsRow base e size v' (n + m) (xs ++ news) → w.grownBy w' v.ownBlock → K (a.put o.dst v') w') :
    if Region.wanted o (yielded ops a.tmps) = true then Oper.wp P o a w K Q else E := by
  have hw : Region.wanted o (yielded ops a.tmps) = true := by simp [Region.wanted, hgd]
  rw [if_pos hw]
  obtain ⟨i, hi, hz, hsize, hby⟩ := info_parts hinfo
  have h63 : n + m ≤ maxLen := by
    have := Nat.le_mul_of_pos_right (n + m) hb1
    simp only [maxLen]; omega
  exact wp_append_own w s x t ho base e i z size bytes ht hi hz hsize hby hzs hsz v n xs hs hown ⟨g, off, none⟩ m cap news hx hl (fun j u hu => by rw [add_lit]; exact hnews j u hu) h1 h63 hbytes hbase
    (fun v' w' h5 h6 _ => h v' w' h5 h6)
end
theorem oneCell_ints (k : IntKind) (zs : List Int) : ∀ u ∈ zs.map (Value.int k), u.oneCell' = true := by
  intro u hu; obtain ⟨z, _, rfl⟩ := List.mem_map.1 hu; rfl
/-- A block that has just been made, read as a row. -/
theorem Reads.made (w : World) (g size n : Nat) (cs : List Value) (e : TypeId) (hg : g = w.heap.size) (hl : cs.length = n * size) (hn : n ≤ maxLen) : Reads size (w.alloc (.cells cs.toArray e)) (.slice (some ⟨g, 0, none⟩) n n) n cs := by
  subst hg
  refine ⟨hl, .inr ⟨_, 0, n, rfl, Nat.le_refl _, hn, fun j u hu => ?_⟩⟩
  rw [cell_of_row _ w.heap.size _ cs.toArray e (0, 0) (heap_alloc_new w _), Nat.zero_add]
  simpa using hu
/-- An empty row that has just been made ('[]T{}'). -/
theorem own_empty (w : World) (n base : Nat) (e : TypeId) (size : Nat) (hn : n = w.heap.size) (hb : base ≤ n) : (w.alloc (.cells #[] e)).ownsRow base e size (.slice (some ⟨n, 0, none⟩) 0 0) 0 [] := by
  subst hn; exact World.ownsRow_made w #[] 0 hb (by decide) (by simp)
/-- A row that has just been made out of its elements ('[]T{a, b}'). -/
theorem own_lit (w : World) (n base : Nat) (e : TypeId) (size k : Nat) (cs : Array Value) (hn : n = w.heap.size) (hb : base ≤ n) (hk : k ≤ maxLen) (hs : cs.size = k * size) : (w.alloc (.cells cs e)).ownsRow base e size (.slice (some ⟨n, 0, none⟩) k k) k cs.toList := by
  subst hn
  exact ⟨by simpa using hs, .inr ⟨w.heap.size, k, cs, rfl, hb, heap_alloc_new w _, Nat.le_refl _, hk, hs, by rw [← hs, Array.size_eq_length_toList, List.take_length]⟩⟩
/-- How many elements a slice has. -/
def vlen : Value → Nat
  | .slice _ n _ => n
  | _ => 0
theorem vlen_own {w : World} {base : Nat} {e : TypeId} {size : Nat} {v : Value} {n : Nat} {xs : List Value} (h : w.ownsRow base e size v n xs) : vlen v = n := by
  rcases h.2 with ⟨rfl, rfl⟩ | ⟨g, cap, cur, rfl, _⟩ <;> rfl
theorem slice_own {w : World} {base : Nat} {e : TypeId} {size : Nat} {v : Value} {n : Nat} {xs : List Value} (h : w.ownsRow base e size v n xs) : ∃ p c, v = .slice p n c := by
  rcases h.2 with ⟨rfl, rfl⟩ | ⟨g, cap, cur, rfl, _⟩
  · exact ⟨_, _, rfl⟩
  · exact ⟨_, _, rfl⟩
/-- The block of an append's row is one of the call's own. -/
theorem own_ge {w : World} {base : Nat} {e : TypeId} {size : Nat} {v : Value} {n : Nat} {xs : List Value} (h : w.ownsRow base e size v n xs) : ∀ k, v.ownBlock = some k → base ≤ k := fun k hk => (h.lt k hk).1
theorem own_geb {w : World} {base : Nat} {e : TypeId} {size : Nat} {v : Value} {n : Nat} {xs : List Value} (h : w.ownsRow base e size v n xs) : ∀ k, blockOf v = some k → base ≤ k := fun k hk => own_ge h k (blockOf_own hk)
end Go.Proofs.YtlhkaoccnpgkeaaGreat

/- eval: what an operation comes to is what the model carries out (all but append and copy). -/
import Derived.Test.YtlhkaoccnpgkeaaGreatEvE
import Derived.Laws.AppendOwn
import Derived.RangeFuncRecord
namespace Go.Proofs.YtlhkaoccnpgkeaaGreat.Ev
open Go
set_option linter.unusedVariables false
set_option linter.unusedSimpArgs false
variable {α : Type} {β : Type}
def EffS (P : Program) (σ : Sg) (s : Sem Next) : Eff → Prop
  | .val v => ∀ w, ∃ v', s.run P w = .ok (.value v') w ∧ VR σ v v'
  | .load agg n a => ∃ b, σ.blk a.block = some b ∧ (agg = true → ∀ w cs, (loadCells ⟨b, a.off, none⟩ n).run P w = .ok cs w → s.run P w = .ok (.value (.agg cs)) w) ∧ (agg = false → ∀ w v, w.cell? ⟨b, a.off, none⟩ = some v → s.run P w = .ok (.value v) w)
  | .str a n => ∃ b c, σ.blk a.block = some b ∧ ∀ w, s.run P w = ((Conv.bytesToString (.slice (some ⟨b, a.off, none⟩) n c)).run P w).andThen fun v w => .ok (.value v) w
  | .new e n cs sl => ∃ cs', VL σ cs cs' ∧ ∀ w, s.run P w = .ok (.value (newVal w.heap.size sl)) (w.alloc (.cells ⟨cs'⟩ e))
  | .newS e n cs => n = cs.length ∧ VL σ cs cs ∧ P.cellsOf e = 1 ∧ ∀ w, ∃ x w', w'.heap = w.heap.push (.cells ((⟨cs⟩ : Array Value) ++ Array.replicate x (.int .u8 0)) e (n + x, n + x + 1)) ∧ w'.os = w.os ∧ w'.tape = w.tape ∧ w'.output = w.output ∧ s.run P w = .ok (.value (.slice (some ⟨w.heap.size, 0, none⟩) n (n + x))) w'
  | .store n a v => ∃ b v', σ.blk a.block = some b ∧ VR σ v v' ∧ ∀ w, v'.cells.size = n → s.run P w = ((storeCells ⟨b, a.off, none⟩ v'.cells.toList).run P w).andThen fun _ w => .ok .skip w
  | .append size bytes e base n cap m src => ∃ (base' : Option Addr) (capR : Nat) (z : Array Value) (NW : World → List Value → Prop), VR σ (.slice base n cap) (.slice base' n capR) ∧ size ≠ 0 ∧ z.size = size ∧ P.cellsOf e = size ∧
      (match src with
        | .inl l => ∃ l', VL σ l l' ∧ l'.length = m * size ∧ ∀ w, NW w l'
        | .inr a => ∃ b, σ.blk a.block = some b ∧ ∀ (w : World) (l' : List Value), l'.length = m * size → (∀ j v, l'[j]? = some v → w.cell? ⟨b, a.off + j, none⟩ = some v) → NW w l') ∧
      (∀ w l', NW w l' → n + m ≤ capR → s.run P w = ((match base' with | none => pure () | some a => storeCells (a.add (n * size)) l' : Sem Unit).run P w).andThen fun _ w => .ok (.value (.slice base' (n + m) capR)) w) ∧
      (∀ w l' old, NW w l' → capR < n + m → (n + m) * (bytes + 1) ≤ 1099511627776 → (match base' with | none => old = [] ∧ n = 0 | some a => old.length = n * size ∧ ∀ j v, old[j]? = some v → w.cell? (a.add j) = some v) →
        s.run P w = .ok (.value (.slice (some ⟨w.heap.size, 0, none⟩) (n + m) (grownCap w (n + m) capR e))) (w.drew.alloc (.cells (old.toArray ++ l'.toArray ++ Builtin.zeroCells z (grownCap w (n + m) capR e - (n + m))) e)))
  | .copy size a m b => ∃ ab bb, σ.blk a.block = some ab ∧ σ.blk b.block = some bb ∧ ∀ (w : World) (l' : List Value), l'.length = m * size → (∀ j v, l'[j]? = some v → w.cell? ⟨bb, b.off + j, none⟩ = some v) → s.run P w = ((storeCells ⟨ab, a.off, none⟩ l').run P w).andThen fun _ w => .ok (.value (.int .i64 (m : Nat))) w
  | .freeze a n c => noSpot a = true → ∃ b c', σ.blk a.block = some b ∧ VR σ (.slice (some a) n c) (.slice (some ⟨b, a.off, none⟩) n c') ∧ ∀ w, s.run P w = ((markStringish ⟨b, a.off, none⟩).run P w).andThen fun _ w => .ok (.value (.slice (some ⟨b, a.off, none⟩) n c')) w
  | .capOf B c => ∃ b, σ.blk B = some b ∧ ∀ w, s.run P w = .ok (.value (.int .i64 ((c + σ.ext B : Nat) : Int))) w
  | .newM => ∀ w, s.run P w = .ok (.value (.map (some w.heap.size))) (w.alloc (.map #[] 0))
  | .newI str => ∀ w, s.run P w = .ok (.value (.pointer (some ⟨w.heap.size, 0, none⟩))) (w.alloc (.stringIter str 0))
  | .look kt B k z ok => (keyOk k = true ∧ ∃ d, P.underlying kt = some d) ∧ ∃ b z', σ.blk B = some b ∧ VR σ z z' ∧ ∀ (w : World) (es : Array MapEntry) (clock : Nat) (r : Option (Nat × Value)), w.heap[b]? = some (.map es clock) → (Instr.findKey kt k es.toList).run P w = .ok r w →
      s.run P w = .ok (.value (match r with
        | some (_, v) => if ok then .tuple #[v, .bool true] else v
        | none => if ok then .tuple #[z', .bool false] else z')) w
  | .upd kt B k v => (keyOk k = true ∧ ∃ d, P.underlying kt = some d) ∧ ∃ b v', σ.blk B = some b ∧ VR σ v v' ∧ ∀ (w : World) (es : Array MapEntry) (clock : Nat), w.heap[b]? = some (.map es clock) →
      ((Instr.findKey kt k es.toList).run P w = .ok none w → s.run P w = .ok .skip (w.putObj b (.map (es.push { key := k, val := v', born := clock }) (clock + 1)))) ∧
      (∀ i e u, (Instr.findKey kt k es.toList).run P w = .ok (some (i, u)) w → es[i]? = some e → e.key = k → s.run P w = .ok .skip (w.putObj b (.map (es.modify i fun e => { e with key := k, val := v' }) clock)))
  | .nxt B => ∃ b, σ.blk B = some b ∧ ∀ (w : World) (str : ByteArray) (pos : Nat), w.heap[b]? = some (.stringIter str pos) →
      (pos < str.size → s.run P w = .ok (.value (.tuple #[.bool true, .int .i64 (pos : Nat), .int .i32 ((Utf8.decode str pos).1 : Nat)])) (w.putObj b (.stringIter str (pos + (Utf8.decode str pos).2)))) ∧
      (¬ pos < str.size → s.run P w = .ok (.value (.tuple #[.bool false])) w)
  | .fill a l => ∃ b l', σ.blk a.block = some b ∧ VL σ l l' ∧ ∀ w, s.run P w = ((storeCells ⟨b, a.off, none⟩ l').run P w).andThen fun _ w => .ok (.value (.tuple #[])) w
  | .enterM f agg n a args => ∃ b args', σ.blk a.block = some b ∧ VL σ args args' ∧ ∀ w v', (agg = true → ∃ cs, v' = .agg cs ∧ (loadCells ⟨b, a.off, none⟩ n).run P w = .ok cs w) → (agg = false → w.cell? ⟨b, a.off, none⟩ = some v') → s.run P w = (callFunc f ⟨v' :: args'⟩).run P w
  | .enter k args => ∃ args', VL σ args args' ∧ ∀ w, s.run P w = (callFunc k ⟨args'⟩).run P w
  | .round l args => ∃ b args', σ.blk l = some b ∧ VL σ args args' ∧ ∀ w, s.run P w = (Instr.yield b ⟨args'⟩).run P w
section
variable {σ : Sg}
theorem VR.ibool {b : Bool} {v : Value} (h : VR σ (.bool b) v) : v = .bool b := by cases h; rfl
theorem VR.iint {k : IntKind} {n : Int} {v : Value} (h : VR σ (.int k n) v) : v = .int k n := by cases h; rfl
theorem VR.istr {s : ByteArray} {v : Value} (h : VR σ (.string s) v) : v = .string s := by cases h; rfl
theorem VR.iptr {a : Addr} {v : Value} (h : VR σ (.pointer (some a)) v) : ∃ b, σ.blk a.block = some b ∧ a.spot = none ∧ v = .pointer (some ⟨b, a.off, none⟩) := by
  cases h with
  | ptr o h => exact ⟨_, h, rfl, rfl⟩
theorem VR.isn {n c : Nat} {v : Value} (h : VR σ (.slice none n c) v) : v = .slice none n c := by cases h; rfl
theorem VR.isl {a : Addr} {n c : Nat} {v : Value} (h : VR σ (.slice (some a) n c) v) :
    (∃ b, a.spot = none ∧ σ.blk a.block = some b ∧ v = .slice (some ⟨b, a.off, none⟩) n (c + σ.ext a.block)) ∨ (∃ b, a.spot = some 0 ∧ σ.blk a.block = some b ∧ v = .slice (some ⟨b, a.off, none⟩) n c) ∨
    (∃ b o c', a.spot = some 1 ∧ n = 0 ∧ c = 0 ∧ v = .slice (some ⟨b, o, none⟩) 0 c') := by
  cases h with
  | sl o n c h => exact .inl ⟨_, rfl, h, rfl⟩
  | sl0 o n c h => exact .inr (.inl ⟨_, rfl, h, rfl⟩)
  | sl1 B o b o' c => exact .inr (.inr ⟨_, _, _, rfl, rfl, rfl, rfl⟩)
theorem VR.ifun {k : FuncId} {a b : Array Value} {v : Value} (h : VR σ (.func (.func k) a b) v) : ∃ a' b', VL σ a.toList a' ∧ VL σ b.toList b' ∧ v = .func (.func k) ⟨a'⟩ ⟨b'⟩ := by
  cases h with
  | func k h1 h2 => exact ⟨_, _, h1, h2, rfl⟩
theorem VR.iyield {l : Nat} {a b : Array Value} {v : Value} (h : VR σ (.func (.yield l) a b) v) : ∃ b', σ.blk l = some b' ∧ v = .func (.yield b') #[] #[] := by
  cases h with
  | yield h => exact ⟨_, h, rfl⟩
theorem VR.imap {B : Nat} {v : Value} (h : VR σ (.map (some B)) v) : ∃ b, σ.blk B = some b ∧ v = .map (some b) := by
  cases h with
  | map h => exact ⟨_, h, rfl⟩
theorem VR.iiface {t : TypeId} {u v : Value} (h : VR σ (.iface t u) v) : ∃ u', VR σ u u' ∧ v = .iface t u' := by
  cases h with
  | iface t h => exact ⟨_, h, rfl⟩
theorem VR.leaf {k v : Value} (hk : leafKey k = true) (h : VR σ k v) : v = k := by
  cases h <;> first | rfl | (simp [leafKey, Ev.top, Ev.top1] at hk)
theorem VL.leaf : ∀ {l l' : List Value}, l.all leafKey = true → VL σ l l' → l' = l
  | _, _, _, .nil => rfl
  | _, _, hl, .cons h h' => by
    simp only [List.all_cons, Bool.and_eq_true] at hl
    rw [VR.leaf hl.1 h, VL.leaf hl.2 h']
theorem VR.key {k v : Value} (hk : keyOk k = true) (h : VR σ k v) : v = k := by
  unfold keyOk at hk
  split at hk
  · cases h with
    | agg h => rw [VL.leaf hk h]
  · exact VR.leaf hk h
theorem VR.keyR {k : Value} (hk : keyOk k = true) : VR σ k k := by
  have hl : ∀ k, leafKey k = true → Ev.gr k = true := fun k hk => by cases k <;> first | rfl | (simp [leafKey] at hk)
  unfold keyOk at hk
  split at hk
  · rename_i l
    obtain ⟨l⟩ := l
    exact .agg (VL.gr (List.all_eq_true.2 (fun x hx => hl x (List.all_eq_true.1 hk x hx))))
  · exact .gr (hl _ hk)
theorem VR.iagg {a : Array Value} {v : Value} (h : VR σ (.agg a) v) : ∃ a', VL σ a.toList a' ∧ v = .agg ⟨a'⟩ := by
  cases h with
  | agg h1 => exact ⟨_, h1, rfl⟩
theorem VR.ituple {a : Array Value} {v : Value} (h : VR σ (.tuple a) v) : ∃ a', VL σ a.toList a' ∧ v = .tuple ⟨a'⟩ := by
  cases h with
  | tuple h1 => exact ⟨_, h1, rfl⟩
end
section
variable {P : Program} {E : Env} {σ : Sg} {ρ ρ' : Operand → Value} {o : Oper} {eff : Eff}
theorem sV_spec {ov : Option Value} {s : Sem Value} (h : sV ov = some eff) (hp : ∀ v, ov = some v → PureS P σ s v) : EffS P σ (do pure (.value (← s))) eff := by
  unfold sV at h
  split at h
  · rename_i v
    cases h
    intro w
    obtain ⟨v', h1, h2⟩ := hp v rfl w
    exact ⟨v', by simp [h1], h2⟩
  · cases h
theorem unop_spec {op : UnOp} {x x' v : Value} (h : aUn op x = some v) (hx : VR σ x x') : PureS P σ (Op.unary op x') v := by
  unfold aUn at h
  cases op with
  | neg =>
    dsimp only at h
    split at h
    · cases h; cases hx
      exact fun w => ⟨_, rfl, by rw [wrapF_eq]; exact .int _ _⟩
    · cases h
  | not =>
    dsimp only at h
    split at h
    · cases h; cases hx
      exact fun w => ⟨_, rfl, .bool _⟩
    · cases h
  | _ => cases h
theorem extract_spec {x x' : Value} {k : Nat} (h : oExtract x k = some eff) (hx : VR σ x x') : EffS P σ (do pure (.value (← Instr.extract x' k))) eff := by
  unfold oExtract at h
  split at h
  · rename_i l
    obtain ⟨a', hl, rfl⟩ := hx.ituple
    split at h
    · rename_i v hv
      cases h
      rw [nth_eq] at hv
      obtain ⟨v', h1, h2⟩ := hl.get hv
      exact fun w => ⟨v', by simp [Instr.extract, h1], h2⟩
    · cases h
  · cases h
theorem nilCheck_spec {x : Operand} (ho : o.op = .nilCheck x) (h : oNilCheck (ρ x) = some eff) (hρ : ∀ x, VR σ (ρ x) (ρ' x)) : EffS P σ (execOp ρ' o) eff := by
  have hx := hρ x
  unfold oNilCheck at h
  split at h
  · rename_i a ha
    rw [ha] at hx
    split at h
    · rename_i a
      cases h
      obtain ⟨b, h1, h2, e⟩ := hx.iptr
      exact fun w => ⟨_, by simp [execOp, ho, e]; rfl, by obtain ⟨B, o, sp⟩ := a; dsimp only at h2; subst h2; exact .ptr _ h1⟩
    · cases h
  · rename_i g a b ha
    rw [ha] at hx
    split at h
    · cases h
      obtain ⟨a', b', h1, h2, e⟩ := hx.ifun
      exact fun w => ⟨_, by simp [execOp, ho, e], .func _ h1 h2⟩
    · cases h
  · cases h
theorem len_spec (hE : EnvOk P E) {ts : List TypeId} {l l' : List Value} (hl : VL σ l l') (h : oLen E ts l = some eff) (ty : TypeId) : EffS P σ (do pure (.value (← Builtin.len_ ⟨ts⟩ ty ⟨l'⟩))) eff := by
  unfold oLen at h
  split at h
  · rename_i x t ts
    obtain ⟨x', rfl, hx⟩ : ∃ x', l' = [x'] ∧ VR σ x x' := by
      cases hl with
      | cons h h' => cases h'; exact ⟨_, rfl, h⟩
    split at h
    · rename_i i hi
      have hu := (hE.ty t i hi).1
      split at h
      · rename_i e hd
        rw [hd] at hu
        split at h
        · rename_i a n c
          cases h
          intro w
          cases a with
          | none => rw [hx.isn]; exact ⟨_, by simp [Builtin.len_, run_underlying hu]; rfl, .int _ _⟩
          | some a =>
            rcases hx.isl with ⟨b, _, _, rfl⟩ | ⟨b, _, _, rfl⟩ | ⟨b, o, c', _, rfl, _, rfl⟩
            · exact ⟨_, by simp [Builtin.len_, run_underlying hu]; rfl, .int _ _⟩
            · exact ⟨_, by simp [Builtin.len_, run_underlying hu]; rfl, .int _ _⟩
            · exact ⟨_, by simp [Builtin.len_, run_underlying hu]; rfl, .int _ _⟩
        · cases h
      · rename_i hd
        rw [hd] at hu
        split at h
        · cases h
          rw [hx.istr]
          exact fun w => ⟨_, by simp [Builtin.len_, run_underlying hu]; rfl, .int _ _⟩
        · cases h
      · cases h
    · cases h
  · cases h
theorem max_spec {l l' : List Value} (hl : VL σ l l') (h : oMax true l = some eff) (ts : Array TypeId) (ty : TypeId) : EffS P σ (do pure (.value (← Builtin.max_ ts ty ⟨l'⟩))) eff := by
  unfold oMax at h
  split at h
  · rename_i x y
    obtain ⟨x', y', rfl, hx, hy⟩ : ∃ x' y', l' = [x', y'] ∧ VR σ x x' ∧ VR σ y y' := by
      cases hl with
      | cons h h' => cases h' with
        | cons h2 h3 => cases h3; exact ⟨_, _, rfl, h, h2⟩
    split at h
    · rename_i k a
      split at h
      · rename_i k2 b
        rw [hx.iint, hy.iint]
        dsimp only at h
        rw [leI_eq] at h
        split at h
        · rename_i hb
          cases h
          intro w
          have hb' : b ≤ a := by simpa using hb
          exact ⟨.int k a, by simp [Builtin.max_, Builtin.max2, List.foldlM]; omega, .int _ _⟩
        · rename_i hb
          cases h
          intro w
          have hb' : ¬ (b ≤ a) := by simpa using hb
          exact ⟨.int k b, by simp [Builtin.max_, Builtin.max2, List.foldlM]; omega, .int _ _⟩
      · cases h
    · cases h
  · cases h
theorem min_spec {l l' : List Value} (hl : VL σ l l') (h : oMax false l = some eff) (ts : Array TypeId) (ty : TypeId) : EffS P σ (do pure (.value (← Builtin.min_ ts ty ⟨l'⟩))) eff := by
  unfold oMax at h
  split at h
  · rename_i x y
    obtain ⟨x', y', rfl, hx, hy⟩ : ∃ x' y', l' = [x', y'] ∧ VR σ x x' ∧ VR σ y y' := by
      cases hl with
      | cons h h' => cases h' with
        | cons h2 h3 => cases h3; exact ⟨_, _, rfl, h, h2⟩
    split at h
    · rename_i k a
      split at h
      · rename_i k2 b
        rw [hx.iint, hy.iint]
        dsimp only at h
        rw [leI_eq] at h
        split at h
        · rename_i hb
          cases h
          intro w
          have hb' : a ≤ b := by simpa using hb
          exact ⟨.int k a, by simp [Builtin.min_, Builtin.min2, List.foldlM]; omega, .int _ _⟩
        · rename_i hb
          cases h
          intro w
          have hb' : ¬ (a ≤ b) := by simpa using hb
          exact ⟨.int k b, by simp [Builtin.min_, Builtin.min2, List.foldlM]; omega, .int _ _⟩
      · cases h
    · cases h
  · cases h
theorem cap_spec (hE : EnvOk P E) {ts : List TypeId} {l l' : List Value} (hl : VL σ l l') (h : oCap E ts l = some eff) (ty : TypeId) : EffS P σ (do pure (.value (← Builtin.cap_ ⟨ts⟩ ty ⟨l'⟩))) eff := by
  unfold oCap at h
  split at h
  · rename_i x t ts
    obtain ⟨x', rfl, hx⟩ : ∃ x', l' = [x'] ∧ VR σ x x' := by
      cases hl with
      | cons h h' => cases h'; exact ⟨_, rfl, h⟩
    split at h
    · rename_i i hi
      have hu := (hE.ty t i hi).1
      split at h
      · rename_i e hd
        rw [hd] at hu
        split at h
        · rename_i a n c
          split at h
          · cases h
            rw [hx.isn]
            exact fun w => ⟨_, by simp [Builtin.cap_, run_underlying hu]; rfl, .int _ _⟩
          · rename_i a
            split at h
            · rename_i q hq
              split at h
              · cases h
                rcases hx.isl with ⟨b, hs, _⟩ | ⟨b, _, _, rfl⟩ | ⟨b, o, c', hs, _⟩
                · rw [hq] at hs; cases hs
                · exact fun w => ⟨_, by simp [Builtin.cap_, run_underlying hu]; rfl, .int _ _⟩
                · rw [hq] at hs; cases hs
              · cases h
            · rename_i hq
              cases h
              rcases hx.isl with ⟨b, _, hb, rfl⟩ | ⟨b, hs, _⟩ | ⟨b, o, c', hs, _⟩
              · exact ⟨b, hb, fun w => by simp [Builtin.cap_, run_underlying hu, goInt]⟩
              · rw [hq] at hs; cases hs
              · rw [hq] at hs; cases hs
        · cases h
      · cases h
    · cases h
  · cases h
end
end Go.Proofs.YtlhkaoccnpgkeaaGreat.Ev

/- simple: Encode; the points. -/
import Derived.Test.YtodjohoonbkklaaSiK
import Derived.Test.YtodjohoonbkklaaOmE
import Derived.Deep.DeepCutAuto
namespace Go.Proofs.Ytodjohoonbkklaa
open Go.RowKit
set_option linter.unusedVariables false
set_option linter.unusedSimpArgs false
/-- What has been put: flags, steps of x and y, the last point. -/
structure EnS where
  fl : List Int
  ax : List Int
  ay : List Int
  lx : Int
  ly : Int
def encPt (s : EnS) (p : Pn) : EnS := ⟨s.fl ++ [flagP p.k (p.x.tdiv 65536 - s.lx) (p.y.tdiv 65536 - s.ly)], s.ax ++ putB (p.x.tdiv 65536 - s.lx), s.ay ++ putB (p.y.tdiv 65536 - s.ly), p.x.tdiv 65536, p.y.tdiv 65536⟩
def encOk (s : EnS) (p : Pn) : Bool := ptOk p && (putK (p.x.tdiv 65536 - s.lx) && putK (p.y.tdiv 65536 - s.ly))
def encS : List Pn → EnS → Option EnS
  | [], s => some s
  | p :: ps, s => if encOk s p then encS ps (encPt s p) else none
def en0 : EnS := ⟨[], [], [], 0, 0⟩
/-- The bounds of what has been put. -/
def EnB (s : EnS) (m : Nat) : Prop := s.fl.length = m ∧ s.ax.length ≤ 2 * m ∧ s.ay.length ≤ 2 * m ∧ (-281474976710656 ≤ s.lx ∧ s.lx ≤ 281474976710656) ∧ (-281474976710656 ≤ s.ly ∧ s.ly ≤ 281474976710656) ∧ ∀ c ∈ s.fl, 0 ≤ c ∧ c ≤ 255
theorem putB_len (d : Int) : (putB d).length ≤ 2 := by
  unfold putB
  by_cases h1 : d = 0
  · simp [h1]
  · by_cases h2 : 0 < d ∧ d ≤ 255
    · simp [h1, h2]
    · by_cases h3 : d < 0 ∧ -255 ≤ d
      · simp [h1, h2, h3]
      · simp [h1, h2, h3]
theorem EnB.next {s : EnS} {m : Nat} {p : Pn} (h : EnB s m) (hx : -9223372036854775808 ≤ p.x ∧ p.x ≤ 9223372036854775807) (hy : -9223372036854775808 ≤ p.y ∧ p.y ≤ 9223372036854775807) : EnB (encPt s p) (m + 1) := by
  obtain ⟨h1, h2, h3, h4, h5, h6⟩ := h
  have a1 := putB_len (p.x.tdiv 65536 - s.lx)
  have a2 := putB_len (p.y.tdiv 65536 - s.ly)
  have b1 := tdiv_small p.x hx.1 hx.2
  have b2 := tdiv_small p.y hy.1 hy.2
  refine ⟨by simp [encPt, h1], by simp only [encPt, List.length_append]; omega, by simp only [encPt, List.length_append]; omega, by simp only [encPt]; omega, by simp only [encPt]; omega, fun c hc => ?_⟩
  simp only [encPt, List.mem_append, List.mem_singleton] at hc
  rcases hc with hc | hc
  · exact h6 c hc
  · subst hc; simp only [flagP, byte_wrap]; omega
/-- The world of what has been put. -/
def PEn (w1 W : World) (H : Nat) (f vx vy : Value) (fl ax ay : List Int) (lx ly : Int) (b : Bx) : Prop :=
  w1.heap.size ≤ H ∧ StrAt W (H + 1) (H + 3) vx ax lx 2 16 ∧ StrAt W (H + 2) (H + 3) vy ay ly 4 32 ∧ W.ownsRow (H + 3) 5 1 f fl.length (fl.map (Value.int .u8)) ∧
    (∀ k, vx.ownBlock = some k → vy.ownBlock ≠ some k) ∧ (∀ k, f.ownBlock = some k → vx.ownBlock ≠ some k ∧ vy.ownBlock ≠ some k) ∧ BxAt W H b ∧ Kp [] w1 W
theorem PEn.kp0 {w1 W W' : World} {H : Nat} {f vx vy : Value} {fl ax ay : List Int} {lx ly : Int} {b : Bx} (h : PEn w1 W H f vx vy fl ax ay lx ly b) (hk : Kp [] W W') : PEn w1 W' H f vx vy fl ax ay lx ly b := by
  obtain ⟨h0, h1, h2, h3, h4, h5, h6, h7⟩ := h
  exact ⟨h0, h1.kp0 hk, h2.kp0 hk, hk.row h3 (by simp), h4, h5, h6.kp hk (by simp), h7.trans hk⟩
theorem PEn.point {w1 W W' : World} {H : Nat} {f vx vy : Value} {fl ax ay : List Int} {lx ly : Int} {b : Bx} {p : Pn} {e : Ending} (h : PEn w1 W H f vx vy fl ax ay lx ly b) (hp : PtP W (H + 1) (H + 2) (H + 3) vx vy ax ay lx ly p e W') :
    e = .returned (.tuple #[.int .u8 (flagP p.k (p.x.tdiv 65536 - lx) (p.y.tdiv 65536 - ly)), .bool (putK (p.x.tdiv 65536 - lx) && putK (p.y.tdiv 65536 - ly))]) ∧
    ∃ vx' vy', PEn w1 W' H f vx' vy' fl (ax ++ putB (p.x.tdiv 65536 - lx)) (ay ++ putB (p.y.tdiv 65536 - ly)) (p.x.tdiv 65536) (p.y.tdiv 65536) b := by
  obtain ⟨h0, h1, h2, h3, h4, h5, h6, h7⟩ := h
  obtain ⟨vx', vy', he, g1, g2, g3, g4, g5, g6⟩ := hp
  have hT : ∀ t ∈ (H + 1) :: (H + 2) :: (vx.ownBlock.toList ++ vy.ownBlock.toList), t = H + 1 ∨ t = H + 2 ∨ (vx.ownBlock = some t ∧ H + 3 ≤ t) ∨ (vy.ownBlock = some t ∧ H + 3 ≤ t) := by
    intro t ht
    simp only [List.mem_cons, List.mem_append, Option.mem_toList] at ht
    rcases ht with ht | ht | ht | ht
    · exact .inl ht
    · exact .inr (.inl ht)
    · exact .inr (.inr (.inl ⟨ht, own_ge h1.2.1 t ht⟩))
    · exact .inr (.inr (.inr ⟨ht, own_ge h2.2.1 t ht⟩))
  refine ⟨he, vx', vy', h0, g1, g2, g4.row h3 (fun t ht e => ?_), g3, fun k hk => ⟨fun e => ?_, fun e => ?_⟩, h6.kp g4 (fun ht => ?_), h7.trans' g4 (fun t ht => .inr ?_)⟩
  · have hf := own_ge h3 t e
    rcases hT t ht with h | h | ⟨h, _⟩ | ⟨h, _⟩
    · omega
    · omega
    · exact (h5 t e).1 h
    · exact (h5 t e).2 h
  · have hlt := (h3.lt k hk).2
    rcases g5 k e with h | h
    · exact (h5 k hk).1 h
    · omega
  · have hlt := (h3.lt k hk).2
    rcases g6 k e with h | h
    · exact (h5 k hk).2 h
    · omega
  · rcases hT _ ht with h | h | ⟨_, h⟩ | ⟨_, h⟩ <;> omega
  · rcases hT t ht with h | h | ⟨_, h⟩ | ⟨_, h⟩ <;> omega
theorem PEn.push {w1 W W' : World} {H n : Nat} {f f' vx vy : Value} {fl ax ay news : List Int} {lx ly : Int} {b : Bx} (h : PEn w1 W H f vx vy fl ax ay lx ly b) (hn : (fl ++ news).length = n) (hown : W'.ownsRow (H + 3) 5 1 f' n ((fl ++ news).map (Value.int .u8)))
    (hk : Kp f.ownBlock.toList W W') (hb : ∀ k, f'.ownBlock = some k → f.ownBlock = some k ∨ W.heap.size ≤ k) : PEn w1 W' H f' vx vy (fl ++ news) ax ay lx ly b := by
  obtain ⟨h0, h1, h2, h3, h4, h5, h6, h7⟩ := h
  have hT : ∀ t ∈ f.ownBlock.toList, f.ownBlock = some t ∧ H + 3 ≤ t := fun t ht => by
    have ht : f.ownBlock = some t := by simpa using ht
    exact ⟨ht, own_ge h3 t ht⟩
  refine ⟨h0, h1.kp hk (fun ht => by have := (hT _ ht).2; omega) (fun t ht e => (h5 t (hT t ht).1).1 e), h2.kp hk (fun ht => by have := (hT _ ht).2; omega) (fun t ht e => (h5 t (hT t ht).1).2 e), by rw [hn]; exact hown, h4, fun k hk' => ⟨fun e => ?_, fun e => ?_⟩, h6.kp hk (fun ht => by have := (hT _ ht).2; omega), h7.trans' hk (fun t ht => .inr (by have := (hT t ht).2; omega))⟩
  · have hlt := (h1.2.1.lt k e).2
    rcases hb k hk' with h | h
    · exact (h5 k h).1 e
    · omega
  · have hlt := (h2.2.1.lt k e).2
    rcases hb k hk' with h | h
    · exact (h5 k h).2 e
    · omega
end Go.Proofs.Ytodjohoonbkklaa

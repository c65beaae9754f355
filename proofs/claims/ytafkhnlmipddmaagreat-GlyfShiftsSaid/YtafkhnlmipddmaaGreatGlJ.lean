/- glyf: a table of glyphs' bytes, as the law builds it (plain, and the contracts at it). -/
import Derived.Test.YtafkhnlmipddmaaGreatGlI
import Derived.Test.YtafkhnlmipddmaaGreatCmD
import Derived.Deep.DeepCutAuto
namespace Go.Proofs.YtafkhnlmipddmaaGreat
open Go.RowKit
set_option linter.unusedVariables false
set_option linter.unusedSimpArgs false
def evalO (o : List (List Int)) : Nat → Int → Nat → GRes
  | 0 => fun g v => if 0 ≤ g ∧ g < o.length then glyIn (o.getD g.toNat []) none v else (([], 62), v)
  | f + 1 => fun g v => if 0 ≤ g ∧ g < o.length then glyIn (o.getD g.toNat []) (some (evalO o f)) v else (([], 62), v)
theorem glyG_O (o : List (List Int)) (ev : Option (Int → Nat → GRes)) (g : Int) (v : Nat) : glyG o.flatten (offsL o o.length) ev g v = if 0 ≤ g ∧ g < o.length then glyIn (o.getD g.toNat []) ev v else (([], 62), v) := by
  by_cases h : 0 ≤ g ∧ g < o.length
  · obtain ⟨n, rfl⟩ : ∃ n : Nat, g = n := ⟨g.toNat, by omega⟩
    rw [if_pos h, glyG_in _ _ _ _ _ (by rw [offsL_len]; omega), gB_is o n (by omega), Int.toNat_natCast]
  · rw [if_neg h]
    unfold glyG
    rw [if_pos (by rw [offsL_len]; intro h2; apply h; omega)]
theorem evalG_O (o : List (List Int)) : ∀ f, evalG o.flatten (offsL o o.length) f = evalO o f := by
  intro f
  induction f with
  | zero => funext g v; exact glyG_O o none g v
  | succ f ih => funext g v; show glyG _ _ (some (evalG _ _ f)) g v = _; rw [glyG_O, ih]; rfl
/-- What is asked of glyphs' bytes. -/
def okB (b : List Int) : Prop := (kindM b ≠ 2 → checkO (decS b).1 = 0) ∧ (kindM b = 2 → ∀ p ∈ (Cp.decM b).1, plainP p ∧ -4294967296 ≤ p.g ∧ p.g ≤ 4294967296)
def okBs (o : List (List Int)) : Prop := okO o ∧ ∀ i, i < o.length → okB (o.getD i [])
theorem okBs_G {o : List (List Int)} (h : okBs o) : okG o.flatten (offsL o o.length) ∧ ∀ g, g + 1 < (offsL o o.length).length → kindM (gB o.flatten (offsL o o.length) g) = 2 → ∀ p ∈ (Cp.decM (gB o.flatten (offsL o o.length) g)).1, -4294967296 ≤ p.g ∧ p.g ≤ 4294967296 := by
  constructor
  · intro g hg
    rw [offsL_len] at hg
    rw [gB_is o g (by omega)]
    exact ⟨(h.2 g (by omega)).1, fun hk p hp => ((h.2 g (by omega)).2 hk p hp).1⟩
  · intro g hg
    rw [offsL_len] at hg
    rw [gB_is o g (by omega)]
    exact fun hk p hp => ((h.2 g (by omega)).2 hk p hp).2
/-- The law's table. -/
def TbO (w : World) (n0 T : Nat) (o : List (List Int)) : Prop := TbAt w n0 T o.flatten (offsL o o.length)
theorem TbO.kp0 {w w' : World} {n0 T : Nat} {o : List (List Int)} (h : TbO w n0 T o) (hk : Kp [] w w') : TbO w' n0 T o := TbAt.kp0 h hk
theorem outlineO_calls (n0 T : Nat) (o : List (List Int)) (h : okBs o) (g : Int) (hg : -4294967296 ≤ g ∧ g ≤ 4294967296) (w : World) (ht : TbO w n0 T o) (hn : n0 ≤ w.heap.size) (O : List (List Pn)) (E : Int) (V : Nat) (hE : evalO o 6 g 0 = ((O, E), V)) :
    Calls Tryz.prog 13 #[.pointer (some ⟨T, 0, none⟩), .int .i64 g] w fun e w' => ∃ v', e = .returned (.tuple #[v', .int .i64 E]) ∧ IsOut w' v' O ∧ Kp [] w w' := by
  have h1 := goutline_calls n0 T _ _ (okO_T h.1) (okBs_G h).1 (okBs_G h).2 g hg w ht hn
  rw [evalG_O, hE] at h1
  exact h1
theorem visitsO_calls (n0 T : Nat) (o : List (List Int)) (h : okBs o) (g : Int) (hg : -4294967296 ≤ g ∧ g ≤ 4294967296) (w : World) (ht : TbO w n0 T o) (hn : n0 ≤ w.heap.size) (O : List (List Pn)) (E : Int) (V : Nat) (hE : evalO o 6 g 0 = ((O, E), V)) :
    Calls Tryz.prog 17 #[.pointer (some ⟨T, 0, none⟩), .int .i64 g] w fun e w' => e = .returned (.tuple #[.int .i64 (if E = 0 then V else (0 : Nat)), .int .i64 E]) ∧ Kp [] w w' :=
  gvisits_calls n0 T _ _ (okO_T h.1) (okBs_G h).1 (okBs_G h).2 g hg w ht hn O E V (by rw [evalG_O]; exact hE)
theorem bytesO_calls (n0 T : Nat) (o : List (List Int)) (h : okO o) (g : Nat) (hg : g < o.length) (w : World) (ht : TbO w n0 T o) :
    Calls Tryz.prog 21 #[.pointer (some ⟨T, 0, none⟩), .int .i64 g] w fun e w' => ∃ v', e = .returned (.tuple #[v', .int .i64 0]) ∧ IsInts .u8 w' v' (o.getD g []) ∧ Kp [] w w' := by
  have h1 := gbytes_in w n0 T _ _ ht (okO_T h) g (by rw [offsL_len]; omega)
  rw [gB_is o g hg] at h1
  exact h1
theorem lenO_calls (n0 T : Nat) (o : List (List Int)) (h : okO o) (w : World) (ht : TbO w n0 T o) :
    Calls Tryz.prog 22 #[.pointer (some ⟨T, 0, none⟩)] w fun e w' => e = .returned (.int .i64 (o.length : Nat)) ∧ Kp [] w w' := by
  have h1 := glen_calls w n0 T _ _ ht (okO_T h)
  rw [offsL_len, show (((o.length + 1 : Nat) : Int) - 1) = (o.length : Nat) by omega] at h1
  exact h1
/-- A plain part. -/
def pl1 (g dx dy : Int) : Cp.Pt := ⟨g, 16384, 0, 0, 16384, false, dx, dy, false, 0, 0⟩
theorem pl1_may {g dx dy : Int} (hg : 0 ≤ g ∧ g ≤ 65535) (hx : -32768 ≤ dx ∧ dx < 32768) (hy : -32768 ≤ dy ∧ dy < 32768) : Cp.mayPt (pl1 g dx dy) = true := by
  have h1 : Cp.wordB g = true := by unfold Cp.wordB; simp; omega
  have h2 : Cp.s16B dx = true := by unfold Cp.s16B; simp; omega
  have h3 : Cp.s16B dy = true := by unfold Cp.s16B; simp; omega
  have h4 : Cp.fitsM 16384 0 0 16384 = true := by decide
  unfold Cp.mayPt pl1
  dsimp only
  rw [h1, h2, h3, h4]
  simp
theorem pl1_plain {g dx dy : Int} (hx : -32768 ≤ dx ∧ dx < 32768) (hy : -32768 ≤ dy ∧ dy < 32768) : plainP (pl1 g dx dy) := ⟨rfl, rfl, rfl, rfl, rfl, rfl, hx, hy⟩
/-- The bytes of plain parts. -/
def cmB (l : List Cp.Pt) : List Int := Cp.encH ++ Cp.encPre l l.length
def okL (l : List Cp.Pt) : Prop := (0 < l.length ∧ l.length ≤ 64) ∧ ∀ p ∈ l, Cp.mayPt p = true ∧ plainP p ∧ 0 ≤ p.g ∧ p.g ≤ 65535
theorem cmB_enc {l : List Cp.Pt} (h : okL l) : Cp.encM l = (cmB l, 0) := by
  unfold Cp.encM
  rw [if_neg, if_neg (by have := h.1.2; omega)]
  · rfl
  · rintro (h1 | h1)
    · have := h.1.1; omega
    · have h2 : l.all Cp.mayPt = true := List.all_eq_true.2 fun p hp => (h.2 p hp).1
      rw [h2] at h1; cases h1
theorem cmB_dec {l : List Cp.Pt} (h : okL l) : Cp.decM (cmB l) = (l, 0) := by
  have h1 := Cp.dec_back l [] (fun p hp => (h.2 p hp).1) h.1.1 h.1.2
  rw [List.append_nil] at h1
  exact h1
theorem cmB_kind (l : List Cp.Pt) : kindM (cmB l) = 2 := by
  unfold kindM cmB
  rw [if_neg (by simp [Cp.encH]), if_pos ⟨by simp [Cp.encH], by simp [Cp.encH]⟩]
theorem cmB_bytes (l : List Cp.Pt) : ∀ c ∈ cmB l, 0 ≤ c ∧ c ≤ 255 := Cp.enc_bytes l l.length
theorem cmB_len {l : List Cp.Pt} (h : okL l) : (cmB l).length ≤ 1034 ∧ cmB l ≠ [] := by
  have := Cp.encPre_len l l.length
  have := h.1.2
  unfold cmB
  refine ⟨?_, by simp [Cp.encH]⟩
  rw [List.length_append]; simp only [Cp.encH, List.length_cons, List.length_nil]; omega
theorem cmB_ok {l : List Cp.Pt} (h : okL l) : okB (cmB l) := by
  refine ⟨fun hk => absurd (cmB_kind l) hk, fun _ p hp => ?_⟩
  rw [cmB_dec h] at hp
  have := h.2 p hp
  exact ⟨this.2.1, by omega, by omega⟩
/-- The glyph of plain parts. -/
theorem glyIn_cm {l : List Cp.Pt} (h : okL l) (ev : Option (Int → Nat → GRes)) (v : Nat) : glyIn (cmB l) ev v = match ev with | none => (([], 130), v) | some e => partsG e l [] v := by
  unfold glyIn
  rw [if_neg (by rw [cmB_kind]; simp), cmB_dec h]
  cases ev with
  | none => rfl
  | some e => dsimp only; rw [if_neg (by simp)]
end Go.Proofs.YtafkhnlmipddmaaGreat

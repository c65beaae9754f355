/- stack: StackFull. -/
import Derived.Test.YtlnmpffpieofeaaStZ
namespace Go.Proofs.Ytlnmpffpieofeaa
open Go.RowKit
set_option linter.unusedVariables false
set_option linter.unusedSimpArgs false
/-- A Stack and a row of the law's own, apart. -/
def FullS (w : World) (s : Nat) (kv : Value) (l K : List Int) (wr : World) : Prop :=
  ∃ B vl vd, w.heap.size ≤ B ∧ StS wr s B vl l zeros32 vd [] ∧ Kp [] w wr ∧ OwnC wr w.heap.size 3 kv K ∧ kv.ownBlock ≠ some s ∧ ∀ k, kv.ownBlock = some k → vl.ownBlock ≠ some k ∧ blockOf vd ≠ some k
theorem FullS.step {w wr wr' : World} {s B : Nat} {kv vl vl' vd : Value} {l l' K : List Int} (h0 : w.heap.size ≤ B) (h1 : StS wr s B vl l zeros32 vd []) (h2 : Kp [] w wr) (h3 : OwnC wr w.heap.size 3 kv K) (h4 : kv.ownBlock ≠ some s)
    (h5 : ∀ k, kv.ownBlock = some k → vl.ownBlock ≠ some k ∧ blockOf vd ≠ some k) (hS : StS wr' s B vl' l' zeros32 vd []) (hK : StK wr wr' s vl vl') : FullS w s kv l' K wr' := by
  refine ⟨B, vl', vd, h0, hS, hK.kp0 h1.2.2.1 (fun k e => (h1.2.2.2.1.lt k e).1) h0 h2, h3.kp hK.1 (fun t ht => ?_), h4, fun k e => ⟨fun e2 => ?_, (h5 k e).2⟩⟩
  · rcases List.mem_cons.1 ht with rfl | ht
    · exact h4
    · exact fun e => (h5 t e).1 (own_mem ht)
  · rcases hK.2 k e2 with g | g
    · exact (h5 k e).1 g
    · have := (h3.lt k e).2; omega
theorem fpush {w wr : World} {s : Nat} {kv : Value} {l K : List Int} (x : Int) (hx : mayB x = true) (h : FullS w s kv l K wr) (hl : l.length < 48) :
    Calls Try.prog 10 #[.pointer (some ⟨s, 0, none⟩), .int .i64 x] wr fun e w' => e = .returned (.int .i64 0) ∧ FullS w s kv (l ++ [x]) K w' := by
  obtain ⟨B, vl, vd, h0, h1, h2, h3, h4, h5⟩ := h
  exact (push_calls s B vl vd l zeros32 [] x hx wr h1 hl).mono fun e w' ⟨he, vl', hS, hK⟩ => ⟨he, FullS.step h0 h1 h2 h3 h4 h5 hS hK⟩
theorem fpushno {w wr : World} {s : Nat} {kv : Value} {l K : List Int} (x : Int) (h : FullS w s kv l K wr) (hl : l.length ≤ 48) (hno : mayB x = false ∨ l.length = 48) :
    Calls Try.prog 10 #[.pointer (some ⟨s, 0, none⟩), .int .i64 x] wr fun e w' => e = .returned (.int .i64 (if mayB x = false then 10 else 170)) ∧ FullS w s kv l K w' := by
  have H := h
  obtain ⟨B, vl, vd, h0, h1, h2, h3, h4, h5⟩ := h
  exact (push_no s B vl vd l zeros32 [] x wr h1 hl hno).mono fun e w' ⟨he, hw⟩ => ⟨he, hw ▸ H⟩
theorem fpop {w wr : World} {s : Nat} {kv : Value} {l K : List Int} (x : Int) (h : FullS w s kv (l ++ [x]) K wr) (hl : l.length ≤ 1000) :
    Calls Try.prog 12 #[.pointer (some ⟨s, 0, none⟩)] wr fun e w' => e = .returned (.tuple #[.int .i64 x, .int .i64 0]) ∧ FullS w s kv l K w' := by
  obtain ⟨B, vl, vd, h0, h1, h2, h3, h4, h5⟩ := h
  exact (pop_calls s B vl vd l zeros32 [] x wr h1 hl).mono fun e w' hh => by
    obtain ⟨he, vl', hS, hK⟩ := hh
    exact ⟨he, FullS.step h0 h1 h2 h3 h4 h5 hS hK⟩
theorem FullS.grow {w wr w' : World} {s : Nat} {kv kv' : Value} {l K K' : List Int} (h : FullS w s kv l K wr) (ho : OwnC w' w.heap.size 3 kv' K') (hk : Kp kv.ownBlock.toList wr w') (hb : ∀ k, kv'.ownBlock = some k → kv.ownBlock = some k ∨ wr.heap.size ≤ k) : FullS w s kv' l K' w' := by
  obtain ⟨B, vl, vd, h0, h1, h2, h3, h4, h5⟩ := h
  have hs := h1.lt
  refine ⟨B, vl, vd, h0, h1.kp hk (fun t ht => ?_), h2.trans' hk (fun t ht => .inr (h3.lt t (own_mem ht)).1), ho, fun e => ?_, fun k e => ?_⟩
  · have e := own_mem ht
    exact ⟨fun e2 => h4 (e2 ▸ e), (h5 t e).1, (h5 t e).2⟩
  · rcases hb s e with g | g
    · exact h4 g
    · omega
  · rcases hb k e with g | g
    · exact h5 k g
    · exact ⟨fun e2 => by have := (h1.2.2.2.1.lt k e2).2; omega, fun e2 => by have := (h1.2.2.2.2.2.2 k e2).2.2.2; omega⟩
theorem FullS.kp {w wr w' : World} {s : Nat} {kv : Value} {l K : List Int} (h : FullS w s kv l K wr) (hk : Kp [] wr w') : FullS w s kv l K w' := by
  obtain ⟨B, vl, vd, h0, h1, h2, h3, h4, h5⟩ := h
  exact ⟨B, vl, vd, h0, h1.kp0 hk, h2.trans hk, h3.kp hk (fun t ht => nomatch ht), h4, h5⟩
theorem FullS.base {w wr : World} {s : Nat} {kv : Value} {l K : List Int} (h : FullS w s kv l K wr) : Kp [] w wr := by
  obtain ⟨B, vl, vd, h0, h1, h2, h3, h4, h5⟩ := h; exact h2
theorem FullS.own {w wr : World} {s : Nat} {kv : Value} {l K : List Int} (h : FullS w s kv l K wr) : OwnC wr w.heap.size 3 kv K := by
  obtain ⟨B, vl, vd, h0, h1, h2, h3, h4, h5⟩ := h; exact h3
theorem flen {w wr : World} {s : Nat} {kv : Value} {l K : List Int} (h : FullS w s kv l K wr) :
    Calls Try.prog 13 #[.pointer (some ⟨s, 0, none⟩)] wr fun e w' => e = .returned (.int .i64 l.length) ∧ wr = w' := by
  obtain ⟨B, vl, vd, h0, h1, h2, h3, h4, h5⟩ := h
  exact slen_calls s B vl vd l zeros32 [] wr h1
theorem take_last (K : List Int) (i : Nat) (h : i < K.length) : K.take (i + 1) = K.take i ++ [K.getD i 0] := by
  rw [List.take_succ_eq_append_getElem h, List.getD_eq_getElem?_getD, List.getElem?_eq_getElem h]; rfl
set_option maxRecDepth 100000 in
set_option maxHeartbeats 8000000 in
theorem law_StackFull (va : Value) (xs : List Int) (w : World) (hi : IsInts .i64 w va xs) (hxl : xs.length ≤ 4611686018427387904) :
    Calls Try.prog 3 #[va] w fun e w' => e = .returned (.bool true) ∧ Kp [] w w' := by
  obtain ⟨p, c, rfl⟩ := islc hi
  obtain ⟨n, hn⟩ : ∃ n, xs.length = n := ⟨_, rfl⟩
  have HN := Lib.hid hn
  have HI := Lib.hid hi
  have HXL : Hid (n ≤ 4611686018427387904) := by rw [← hn]; exact hxl
  rw [hn] at HI ⊢
  clear hn hi hxl
  have LV := Lib.hid lives_calls
  go_enter Try.func3, Try.ntmps3
  go_wp2_with fail
  refine (newB w _ [] _ (Kp.refl _ _) (.inl ⟨⟨_, rfl⟩, rfl⟩) (by simp)).mono ?_
  rintro e w1 ⟨s, rfl, H1⟩
  go_wp2_with fail
  refine (LV.out _).mono ?_; rintro e w2 ⟨rfl, hk2⟩
  have H2 : Hid (FullS w s (.slice none 0 0) [] [] w2) := by
    obtain ⟨B, vl, vd, h0, h1, h2⟩ := H1.kp hk2
    exact ⟨B, vl, vd, h0, h1, h2, .inl ⟨rfl, rfl⟩, by simp [Value.ownBlock], fun k e => by simp [Value.ownBlock] at e⟩
  clear H1 hk2
  go_wp2_with fail
  go_loopw [5, 4] (fun i kv wr => ∃ (t : Nat) (K : List Int), t ≤ n ∧ t ≤ 100 ∧ i = .int .i64 t ∧ K.length ≤ 48 ∧ Hid (FullS w s kv K K wr)) (fun i _ _ => 101 - (intOf i).toNat)
  case atStart => exact ⟨0, [], by omega, by omega, rfl, by simp, H2⟩
  case round =>
    obtain ⟨t, K, ht, ht2, rfl, hK, H3⟩ := hrel
    have HK := Lib.hid hK
    clear hK
    obtain ⟨pk, ck, rfl⟩ := H3.out.own.form
    by_cases hlt : t < n ∧ t < 100
    · obtain ⟨hlt, hlt2⟩ := hlt
      obtain ⟨g, off, rfl, hcell, hca⟩ := (HI.out.kp H3.out.base (by simp)).at HN.out t hlt
      have hw : IntKind.i64.wrap ((t : Int) + 1) = (t : Int) + 1 := by rw [IntKind.wrap_i64]; omega
      have HCW : Hid (∀ W, Kp [] w W → W.cell? ⟨g, off + t, none⟩ = some (.int .i64 (xs.getD t 0))) := fun W hW => by
        obtain ⟨g', off', e, h, _⟩ := (HI.out.kp hW (by simp)).at HN.out t hlt
        cases e; exact h
      generalize xs.getD t 0 = x at *
      by_cases hmx : mayB x = true
      · have HX := Lib.hid hmx
        clear hmx
        by_cases hk48 : K.length = 48
        · have HK8 := Lib.hid hk48
          have hk8 : decide ((K.length : Int) = 48) = true := decide_eq_true (by omega)
          have hk9 : ((K.length : Int) == 48) = true := by simpa using hk8
          clear hk48
          go_wp2_with fail
          refine (fpushno x H3.out HK.out (.inr HK8.out)).mono ?_
          rintro e w3 ⟨rfl, H4⟩
          have H4 := Lib.hid H4
          rw [if_neg (by rw [HX.out]; decide)]
          clear hcell
          have hcell := HCW.out _ H4.out.base
          go_wp2_with fail
          refine (rmay_calls _ _).mono ?_; rintro e w4 ⟨rfl, rfl⟩
          rw [HX.out]
          go_wp2_with fail
          go_round
          case rel => exact ⟨t + 1, K, by omega, by omega, by go_num, HK.out, H4⟩
          case measure => simp [intOf]; omega
        · have HK8 : Hid (K.length < 48) := by have := HK.out; show _ < _; omega
          have hk8 : decide ((K.length : Int) = 48) = false := decide_eq_false (by omega)
          have hk9 : ((K.length : Int) == 48) = false := by simpa using hk8
          clear hk48
          go_wp2_with fail
          refine (fpush x HX.out H3.out HK8.out).mono ?_
          rintro e w3 ⟨rfl, H4⟩
          have H4 := Lib.hid H4
          clear hcell
          have hcell := HCW.out _ H4.out.base
          go_wp2_with fail
          refine (rmay_calls _ _).mono ?_; rintro e w4 ⟨rfl, rfl⟩
          rw [HX.out]
          go_wp2_with (at_builtin; refine wpList_push rfl _ _ 22 rfl w.heap.size 3 Try.underlying22 infoIntS (.slice pk K.length ck) K x rfl ?hown ⟨w3.heap.size, 0, none⟩ 1 rfl ?hc ?hl ?hb ?hk)
          case hown => exact (H4.out.kp ((Kp.refl _ _).alloc _)).own
          case hc => exact (box1 (Kp.refl [] _))
          case hl => have := HK8.out; omega
          case hb => have := H4.out.base.size; simp; omega
          case hk =>
          intro v' w' ho hk hv'
          have H5 : Hid (FullS w s v' (K ++ [x]) (K ++ [x]) w') := (H4.out.kp ((Kp.refl _ _).alloc _)).grow ho hk (fun k e => by rcases hv' k e with g | g; exact .inl g; exact .inr (by first | omega | (simp; omega)))
          clear ho hk hv'
          go_wp2_with fail
          go_round
          case rel => exact ⟨t + 1, K ++ [x], by omega, by omega, by go_num, by have := HK8.out; simp; omega, H5⟩
          case measure => simp [intOf]; omega
      · have HX : Hid (mayB x = false) := by show _ = _; simpa using hmx
        clear hmx
        go_wp2_with fail
        refine (fpushno x H3.out HK.out (.inl HX.out)).mono ?_
        rintro e w3 ⟨rfl, H4⟩
        have H4 := Lib.hid H4
        rw [if_pos HX.out]
        clear hcell
        have hcell := HCW.out _ H4.out.base
        go_wp2_with fail
        refine (rmay_calls _ _).mono ?_; rintro e w4 ⟨rfl, rfl⟩
        rw [HX.out]
        go_wp2_with fail
        go_round
        case rel => exact ⟨t + 1, K, by omega, by omega, by go_num, HK.out, H4⟩
        case measure => simp [intOf]; omega
    · have hw0 : IntKind.i64.wrap ((K.length : Int) - 1) = (K.length : Int) - 1 := by have := HK.out; rw [IntKind.wrap_i64]; omega
      rcases (show t = n ∨ (t < n ∧ t = 100) by omega) with rfl | ⟨hlt1, rfl⟩
      all_goals
        clear hlt
        go_wp2_with fail
        go_loopw [7] (fun i wr => ∃ (q : Nat) (z : Int), q ≤ K.length ∧ z = (q : Int) - 1 ∧ i = .int .i64 z ∧ Hid (FullS w s (.slice pk K.length ck) (K.take q) K wr)) (fun i _ => (intOf i + 1).toNat)
        case atStart => exact ⟨K.length, _, Nat.le_refl _, rfl, rfl, by rw [List.take_length]; exact H3⟩
        case round =>
          obtain ⟨q, z, hq, hz, rfl, H4⟩ := hrel
          cases q with
          | zero =>
            obtain rfl : z = -1 := by omega
            clear hz hq
            go_wp2_with fail
            refine (flen H4.out).mono ?_; rintro e w5 ⟨rfl, rfl⟩
            rw [List.take_zero]
            go_wp2_with fail
            go_ret
            exact ⟨rfl, H4.out.base⟩
          | succ m =>
            obtain rfl : z = (m : Int) := by omega
            have hm0 : (0 : Int) ≤ m := by omega
            have hwm : IntKind.i64.wrap ((m : Int) - 1) = (m : Int) - 1 := by have := HK.out; rw [IntKind.wrap_i64]; omega
            have H5 : Hid (FullS w s (.slice pk K.length ck) (K.take m ++ [K.getD m 0]) K wr) := by have := H4.out; rw [take_last K m (by omega)] at this; exact this
            have hy : Hid (∀ W, OwnC W w.heap.size 3 (.slice pk K.length ck) K → ∃ g off, pk = some ⟨g, off, none⟩ ∧ W.cell? ⟨g, off + m, none⟩ = some (.int .i64 (K.getD m 0)) ∧ K.length ≤ ck) := fun W hW => hW.ints.at rfl m (by omega)
            generalize K.getD m 0 = y at *
            have hqk : Hid (m < K.length) := by show _ < _; omega
            clear hz hq
            go_wp2_with fail
            refine (fpop y H5.out (by have := HK.out; simp; omega)).mono ?_
            rintro e w5 ⟨rfl, H6⟩
            obtain ⟨g, off, rfl, hcell, hle⟩ := hy.out _ H6.own
            have H7 := Lib.hid H6
            clear H6
            have hqk9 := hqk.out
            go_wp2_with fail
            go_round
            case rel => exact ⟨m, _, by have := hqk.out; omega, rfl, by go_num, H7⟩
            case measure => simp [intOf]
end Go.Proofs.Ytlnmpffpieofeaa

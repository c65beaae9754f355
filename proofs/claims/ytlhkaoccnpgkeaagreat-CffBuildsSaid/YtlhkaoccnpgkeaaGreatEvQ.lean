/- eval: a region that draws its order: the whole trace. -/
import Derived.Test.YtlhkaoccnpgkeaaGreatEvP
namespace Go.Proofs.YtlhkaoccnpgkeaaGreat.Ev
open Go
set_option linter.unusedVariables false
set_option linter.unusedSimpArgs false
variable {α : Type} {β : Type}
/-- What is known of an operation: of what lies ahead of it in the trace alone. -/
structure SF (P : Program) (all : List Oper) (nt : Nat) (g0 : G) (nx0 : Nat) (t0 : Nat → Value) (p : List Rec) (r : Rec) (o : Oper) (ai : Nat) (tm : T Value) (b : Bool) : Prop where
  at_ : all[r.i]? = some o
  at_a : (ancs all [])[r.i]? = some ai
  dst : r.dst = o.dst
  lt : ∀ d, r.dst = some d → d < nt
  anc : ∀ j, ai.testBit j = true → ∃ r' ∈ p, r'.i = j
  tms : ∀ t, tmGet tm t = tOf p All t0 t
  guard : guardF all tm o.guard = some b
  no : b = false → r.v = undef ∧ r.k = .pure
  yes : b = true → (∀ c, o.op ≠ .defer c) ∧ LS P g0 p r o ai (evalR tm (tmpsOf o.op))
  fresh : ∀ r' ∈ p, r'.i ≠ r.i
  lo : nx0 ≤ r.lo
  hi : r.lo ≤ r.hi
  ids : ∀ r' ∈ p, r'.hi ≤ r.lo
  bd : Bd g0 nx0 → Bd (gOf p All g0) r.lo
  bd2 : Bd g0 nx0 → Bd (r.app (gOf p All g0)) r.hi
inductive TrOk (P : Program) (all : List Oper) (nt : Nat) (g0 : G) (nx0 : Nat) (t0 : Nat → Value) : List Rec → Prop
  | nil : TrOk P all nt g0 nx0 t0 []
  | snoc {p : List Rec} {r : Rec} (h : TrOk P all nt g0 nx0 t0 p) (k : ∃ o ai tm b, SF P all nt g0 nx0 t0 p r o ai tm b) : TrOk P all nt g0 nx0 t0 (p ++ [r])
section
variable {P : Program} {all : List Oper} {nt : Nat} {g0 : G} {nx0 : Nat} {t0 : Nat → Value}
theorem TrOk.split {tr : List Rec} (h : TrOk P all nt g0 nx0 t0 tr) : ∀ p r q, tr = p ++ r :: q → ∃ o ai tm b, SF P all nt g0 nx0 t0 p r o ai tm b := by
  induction h with
  | nil => intro p r q e; simp at e
  | snoc h k ih =>
    intro p r q e
    rcases split_snoc e with ⟨_, rfl, rfl⟩ | ⟨q', rfl, e2⟩
    · exact k
    · exact ih p r q' e2
theorem TrOk.later {p q : List Rec} {r r' : Rec} (h : TrOk P all nt g0 nx0 t0 (p ++ r :: q)) (hr : r' ∈ q) : ∃ q1 o ai tm b, SF P all nt g0 nx0 t0 (p ++ r :: q1) r' o ai tm b := by
  obtain ⟨q1, q2, rfl⟩ := List.append_of_mem hr
  obtain ⟨o, ai, tm, b, k⟩ := h.split (p ++ r :: q1) r' q2 (by simp)
  exact ⟨q1, o, ai, tm, b, k⟩
theorem TrOk.later_ne {p q : List Rec} {r r' : Rec} (h : TrOk P all nt g0 nx0 t0 (p ++ r :: q)) (hr : r' ∈ q) : r'.i ≠ r.i ∧ r.hi ≤ r'.lo ∧ r'.lo ≤ r'.hi := by
  obtain ⟨q1, o, ai, tm, b, k⟩ := h.later hr
  exact ⟨fun e => k.fresh r (by simp) e.symm, k.ids r (by simp), k.hi⟩
theorem TrOk.uniq {tr : List Rec} (h : TrOk P all nt g0 nx0 t0 tr) {r r' : Rec} (hr : r ∈ tr) (hr' : r' ∈ tr) (e : r.i = r'.i) : r = r' := by
  obtain ⟨p, q, rfl⟩ := List.append_of_mem hr
  obtain ⟨o, ai, tm, b, k⟩ := h.split p r q rfl
  rcases List.mem_append.1 hr' with h1 | h1
  · exact absurd e.symm (k.fresh r' h1)
  · rcases List.mem_cons.1 h1 with h2 | h2
    · exact h2.symm
    · exact absurd e.symm (h.later_ne h2).1
theorem TrOk.disj {tr : List Rec} (h : TrOk P all nt g0 nx0 t0 tr) {r r' : Rec} (hr : r ∈ tr) (hr' : r' ∈ tr) {B : Nat} (h1 : r.lo ≤ B) (h2 : B < r.hi) (h3 : r'.lo ≤ B) (h4 : B < r'.hi) : r = r' := by
  obtain ⟨p, q, rfl⟩ := List.append_of_mem hr
  obtain ⟨o, ai, tm, b, k⟩ := h.split p r q rfl
  rcases List.mem_append.1 hr' with h5 | h5
  · have := k.ids r' h5
    omega
  · rcases List.mem_cons.1 h5 with h6 | h6
    · exact h6.symm
    · have := (h.later_ne h6).2.1
      omega
theorem tmGet_put {tm tm1 : T Value} {d : Option Tmp} {v : Value} (h1 : ∀ x, d = some x → x < nt ∧ tm1 = tm.set x v) (h2 : d = none → tm1 = tm) (t : Nat) : tmGet tm1 t = if d = some t then v else tmGet tm t := by
  cases d with
  | none => rw [h2 rfl]; simp
  | some x =>
    rw [(h1 x rfl).2]
    unfold tmGet
    rw [(T.set_get tm x v).2]
    by_cases e : t = x
    · subst e; simp
    · rw [if_neg e, if_neg (fun e2 => e (Option.some.inj e2).symm)]
/-- What is kept on the way. -/
structure Inv (g0 : G) (nx0 : Nat) (t0 : Nat → Value) (p : List Rec) (done : Nat) (hist : List (Nat × T Ob)) (tm : T Value) (h : H) : Prop where
  done_ : ∀ j, done.testBit j = true ↔ ∃ r ∈ p, r.i = j
  hist_ : HistR g0 hist p
  tms : ∀ t, tmGet tm t = tOf p All t0 t
  g : h.t.get = gOf p All g0
  nx : nx0 ≤ h.nx
  ids : ∀ r ∈ p, r.hi ≤ h.nx
  bd : Bd g0 nx0 → Bd h.t.get h.nx
structure Fin (all : List Oper) (mk : List Nat) (g0 : G) (nx0 : Nat) (t0 : Nat → Value) (tr : List Rec) (x : Ex) (s : St) : Prop where
  ex : x = .normal
  ms : s.ms = mk
  alls : ∀ j, j < all.length → ∃ r ∈ tr, r.i = j
  tms : ∀ t, tmGet s.tm t = tOf tr All t0 t
  g : s.hp.t.get = gOf tr All g0
  nx : nx0 ≤ s.hp.nx
  ids : ∀ r ∈ tr, r.hi ≤ s.hp.nx
  bd : Bd g0 nx0 → Bd s.hp.t.get s.hp.nx
theorem drF_tr {E : Env} (hE : EnvOk P E) (hN : ∀ (k : Nat) (fn : Func), P.funcs[k]? = some fn → (fn.name == "runtime.NumGoroutine") = false) {ev : Ev} (hev : EvS P ev) {cx : Cx} {mk : List Nat} : ∀ (l : List Nat) (p : List Rec) (done : Nat) (hist : List (Nat × T Ob)) (tm : T Value) (h : H) (x : Ex) (s : St), drF E ev cx mk all (ancs all []) l ⟨done, hist⟩ tm h = some (x, s) →
    TrOk P all cx.nt g0 nx0 t0 p → Inv g0 nx0 t0 p done hist tm h → ∃ tr, TrOk P all cx.nt g0 nx0 t0 tr ∧ Fin all mk g0 nx0 t0 tr x s
  | [], p, done, hist, tm, h, x, s, e, ht, hi => by
    simp only [drF] at e
    split at e
    · rename_i hd
      cases e
      refine ⟨p, ht, rfl, rfl, fun j hj => ?_, hi.tms, hi.g, hi.nx, hi.ids, hi.bd⟩
      have h1 : done + 1 = 2 ^ all.length := Nat.eq_of_beq_eq_true hd
      have h2 : done = 2 ^ all.length - 1 := by omega
      rw [← hi.done_, h2, Nat.testBit_two_pow_sub_one]
      simpa using hj
    · cases e
  | i :: l, p, done, hist, tm, h, x, s, e, ht, hi => by
    obtain ⟨nx, t⟩ := h
    simp only [drF] at e
    split at e
    · rename_i o ai ho ha
      rw [nth_eq] at ho ha
      split at e
      · rename_i hd1 hd2
        have hfresh : ∀ r' ∈ p, r'.i ≠ i := fun r' hr' e2 => by
          have := (hi.done_ i).2 ⟨r', hr', e2⟩
          rw [this] at hd1; cases hd1
        have hanc : ∀ j, ai.testBit j = true → ∃ r' ∈ p, r'.i = j := fun j hj => by
          have h1 : ai &&& done = ai := Nat.eq_of_beq_eq_true hd2
          rw [← h1, Nat.testBit_and, Bool.and_eq_true] at hj
          exact (hi.done_ j).1 hj.2
        have hdone : ∀ (r : Rec), r.i = i → ∀ j, (Nat.lor done (Nat.pow 2 i)).testBit j = true ↔ ∃ r' ∈ p ++ [r], r'.i = j := fun r hr j => by
          show (done ||| 2 ^ i).testBit j = true ↔ _
          rw [Nat.testBit_or, Nat.testBit_two_pow, Bool.or_eq_true, hi.done_ j]
          simp only [decide_eq_true_eq]
          constructor
          · rintro (⟨r', h1, h2⟩ | h1)
            · exact ⟨r', by simp [h1], h2⟩
            · exact ⟨r, by simp, by rw [hr, h1]⟩
          · rintro ⟨r', h1, h2⟩
            rcases List.mem_append.1 h1 with h3 | h3
            · exact .inl ⟨r', h3, h2⟩
            · simp at h3
              subst h3
              exact .inr (by rw [← hr, h2])
        split at e
        · rename_i b hb
          split at e
          · obtain ⟨wb, v, h1, k, k1, k2, k3, k4, k5, k6⟩ := drOp_some hE hN hev e
            obtain ⟨tm1, q1, q2, q3⟩ := put_some k1
            have hbd1 : Bd g0 nx0 → Bd (gOf p All g0) nx := fun h => by rw [← hi.g]; exact hi.bd h
            have happ : (Rec.mk i o.dst v k nx h1.nx).app (gOf p All g0) = h1.t.get := by
              rw [k4, ← hi.g]
              rfl
            have hsf : SF P all cx.nt g0 nx0 t0 p ⟨i, o.dst, v, k, nx, h1.nx⟩ o ai tm true := ⟨ho, ha, rfl, (fun d hd => (q2 d hd).1), hanc, hi.tms, hb, (fun h => by cases h), (fun _ => ⟨k3, k6 g0 p _ o rfl rfl rfl rfl rfl hi.g hi.hist_ hi.done_⟩), hfresh, hi.nx, k2.nx, hi.ids, hbd1, (fun h => by rw [happ]; exact k2.bd (hi.bd h))⟩
            refine drF_tr hE hN hev l (p ++ [⟨i, o.dst, v, k, nx, h1.nx⟩]) _ _ tm1 h1 x s q1 (.snoc ht ⟨_, _, _, _, hsf⟩) ⟨hdone _ rfl, ?_, fun t' => ?_, ?_, Nat.le_trans hi.nx k2.nx, fun r hr => ?_, fun h => k2.bd (hi.bd h)⟩
            · cases wb with
              | true => exact .wr (r := ⟨i, o.dst, v, k, nx, h1.nx⟩) (t := t) hi.hist_ (k5.1 rfl) hi.g
              | false => exact .other hi.hist_ (fun h => by cases k5.2 h)
            · rw [tOf_append, tOf_one, tmGet_put q2 q3 t']
              unfold Rec.upd
              dsimp only
              rw [hi.tms]
            · rw [gOf_append, gOf_one, happ]
            · rcases List.mem_append.1 hr with h3 | h3
              · exact Nat.le_trans (hi.ids r h3) k2.nx
              · simp at h3
                subst h3
                exact Nat.le_refl _
          · obtain ⟨tm1, q1, q2, q3⟩ := put_some e
            have hbd1 : Bd g0 nx0 → Bd (gOf p All g0) nx := fun h => by rw [← hi.g]; exact hi.bd h
            have hsf : SF P all cx.nt g0 nx0 t0 p ⟨i, o.dst, undef, .pure, nx, nx⟩ o ai tm false := ⟨ho, ha, rfl, (fun d hd => (q2 d hd).1), hanc, hi.tms, hb, (fun _ => ⟨rfl, rfl⟩), (fun h => by cases h), hfresh, hi.nx, Nat.le_refl _, hi.ids, hbd1, hbd1⟩
            refine drF_tr hE hN hev l (p ++ [⟨i, o.dst, undef, .pure, nx, nx⟩]) _ _ tm1 _ x s q1 (.snoc ht ⟨_, _, _, _, hsf⟩) ⟨hdone _ rfl, .other hi.hist_ (fun h => by obtain ⟨g, hg⟩ := h; cases hg), fun t' => ?_, ?_, hi.nx, fun r hr => ?_, hi.bd⟩
            · rw [tOf_append, tOf_one, tmGet_put q2 q3 t']
              unfold Rec.upd
              dsimp only
              rw [hi.tms]
            · rw [gOf_append, gOf_one]
              exact hi.g
            · rcases List.mem_append.1 hr with h3 | h3
              · exact hi.ids r h3
              · simp at h3
                subst h3
                exact Nat.le_refl _
        · cases e
      · cases e
    · cases e
end
end Go.Proofs.YtlhkaoccnpgkeaaGreat.Ev

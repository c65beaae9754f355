/- A region that draws its order INSIDE A ROUND of a range over a function: one walk in the order of the text (the kit's quiet theorem inside a fence asks for no round; here a round, and no 'defer' among the operations). -/
import Derived.Test.YtpbmefojhgcniaaQuiet
import Derived.Sort.QuietIn
import Derived.RangeFuncCalls
import Derived.TacticsIn
namespace Go.Proofs.Ytpbmefojhgcniaa
open Go.RowKit
set_option linter.unusedVariables false
section
variable {F : Fence} {n l : Nat} {P : Program} {ops : Array Oper} {md : Region.Mode} {C : World → Prop}
/-- No operation is a 'defer'. -/
def noDefer (ops : Array Oper) : Bool := ops.all fun o => match o.op with | .defer _ => false | _ => true
theorem noDefer_at {i : Nat} {o : Oper} (h : noDefer ops = true) (ho : ops[i]? = some o) : ∀ c, o.op ≠ .defer c := by
  intro c hc
  obtain ⟨hi, rfl⟩ := Array.getElem?_eq_some_iff.1 ho
  have := (Array.all_eq_true.1 h) i hi
  rw [hc] at this; simp at this
theorem wpIn_of_quiet_round {o : Oper} {a : Act} {K : Act → Prop} {K' : Act → World → Prop} {Q' : Exit → Act → World → Prop} {w : World} (hd : ∀ c, o.op ≠ .defer c) (hw : C w) (h : ∀ a w', C w' → K a → K' a w')
    (ha : o.askedIn F P a C) (hh : o.quietIn F n P a C K) : o.wpIn (F.inRound l) n P a w K' Q' := by
  obtain ⟨v, h1, h2⟩ := hh
  have h3 := h1 w hw
  unfold Oper.quietAtIn at h3
  unfold Oper.wpIn
  refine ⟨ha w hw, ?_⟩
  rw [Fence.inRound_round, Oper.semAt_some _ _ _ hd]
  generalize (execOp a.eval o).run P w = r at *
  cases r with
  | halt x w' => simp only [Oper.quietUponIn] at h3
  | ok x w' =>
    cases x
    case value u => simp only [Oper.quietUponIn] at h3; obtain ⟨rfl, rfl⟩ := h3; exact h _ _ hw h2
    case skip => simp only [Oper.quietUponIn] at h3; obtain ⟨rfl, rfl⟩ := h3; exact h _ _ hw h2
    case enter f args =>
      simp only [Oper.quietUponIn] at h3
      obtain ⟨rfl, hd, hc⟩ := h3
      exact ⟨hd, CallsIn.inRound l (hc.mono fun e w'' ⟨he, hw''⟩ => by subst he; exact h _ _ hw'' h2)⟩
    all_goals (simp only [Oper.quietUponIn] at h3)
theorem wpOpIn_round {i : Nat} {a : Act} {K : Act → Prop} {K' : Act → World → Prop} {Q' : Exit → Act → World → Prop} {w : World} (hnd : noDefer ops = true) (hC : C w) (h : ∀ a w', C w' → K a → K' a w')
    (hh : qOpIn F n P ops C i K a) : wpOpIn (F.inRound l) n P ops Q' i K' a w := by
  unfold qOpIn at hh
  unfold wpOpIn
  split
  · rename_i ho; simp only [ho] at hh; exact h _ _ hC hh
  · rename_i o ho
    simp only [ho] at hh
    obtain ⟨ha, hh⟩ := hh
    split
    · rename_i hw; simp only [hw, if_true] at hh; exact wpIn_of_quiet_round (noDefer_at hnd ho) hC h ha hh
    · rename_i hw; simp only [hw] at hh; exact ⟨ha w hC, h _ _ hC hh⟩
theorem wpAnyIn_round {Q : Act → Prop} {Q' : Exit → Act → World → Prop} (hnd : noDefer ops = true) (hQ : ∀ a w, C w → Q a → Q' .normal a w) : ∀ (fuel : Nat) (listed : Array Bool) (a : Act) (w : World), C w →
    wpAnyQIn F n P md ops C Q fuel listed a → wpAnyIn (F.inRound l) n P md ops Q' fuel listed a w := by
  intro fuel
  induction fuel with
  | zero => intro _ _ _ hw h; exact ⟨h.1, hQ _ _ hw h.2⟩
  | succ fuel ih => intro _ _ _ hw h; exact ⟨fun h0 => hQ _ _ hw (h.1 h0), fun i hi => wpOpIn_round hnd hw (fun a' w' hw' => ih _ a' w' hw') (h.2 i hi)⟩
/-- ONE WALK IN THE ORDER OF THE TEXT, at the class 'nothing that was there has changed'. -/
theorem wpIn_region_kqr {id : Nat} {Q : Exit → Act → World → Prop} {a : Act} {w : World} {l : Nat} {L : List Oper} (hm : P.follows .mixedOrders = true) (hB : Region.lexB .any L.toArray = true) (hnd : noDefer L.toArray = true)
    (h : wpQuietIn F n P L.toArray (fun w' => ∃ m : KW w, w' = m.w) (fun a' => ∀ w', (∃ m : KW w, w' = m.w) → Q .normal a' w') L a) : (Code.region id L.toArray true).wpIn (F.inRound l) n P Q a w := by
  simp only [Region.lexB, Bool.and_eq_true] at hB
  refine wpIn_region_any hm (wpAnyIn_round (F := F) (C := fun w' => ∃ m : KW w, w' = m.w) (Q := fun a' => ∀ w', (∃ m : KW w, w' = m.w) → Q .normal a' w') hnd (fun _ w' hw' h => h w' hw') _ _ _ _ ⟨⟨_, (Kp.refl [] w).drew⟩, rfl⟩ ?_)
  have := wpAnyQIn_lex (F := F) (n := n) (C := fun w' => ∃ m : KW w, w' = m.w) (md := .any) hB.1 L 0 (Array.replicate L.toArray.size false) a (by simp) (by simpa using hB.2) h
  simpa using this
end
theorem CallsIn.kq {F : Fence} {n : Nat} {P : Program} {f : FuncId} {args : Array Value} {w : World} {m : KW w} {v : Value}
    (h : CallsIn F n P f args m.w fun e w' => e = .returned v ∧ Kp [] m.w w') : CallsIn F n P f args m.w fun e w'' => e = .returned v ∧ ∃ k : KW w, w'' = k.w :=
  h.mono fun _ w' ⟨he, hk⟩ => ⟨he, ⟨w', m.h.trans hk⟩, rfl⟩
end Go.Proofs.Ytpbmefojhgcniaa

/- font: a nil font: worked out by the kernel. -/
import Derived.Test.YtolnkhkjpgmgbaaGreatFnE
namespace Go.Proofs.YtolnkhkjpgmgbaaGreat
open Go.RowKit
set_option linter.unusedVariables false
theorem ev_nobody : Ev.isT (Ev.evF env1 1000000 3 [.agg ⟨[Ev.top1, Ev.top1, Ev.top1, Ev.top1]⟩, Ev.top1]) = true := by kernel_rfl
theorem law_FontNobody (a b c d : Value) (ha : a.oneCell' = true) (hb : b.oneCell' = true) (hc : c.oneCell' = true) (hd : d.oneCell' = true) (v : Value) (hv : v.oneCell' = true) (w : World) : Calls Tryz.prog 3 #[.agg #[a, b, c, d], v] w fun e w' => e = .returned (.bool true) ∧ Kp [] w w' := by
  refine (Ev.law_calls (P := Tryz.prog) env1_ok noNum (by rfl) [.agg #[a, b, c, d], v] ev_nobody (fun σ => .cons (.agg (.cons (.top1 _ ha) (.cons (.top1 _ hb) (.cons (.top1 _ hc) (.cons (.top1 _ hd) .nil))))) (.cons (.top1 _ hv) .nil)) w).mono ?_
  rintro e w' ⟨h1, h2, h3, h4, h5, h6⟩
  exact ⟨h1, h2, h3, h4, h5, fun k hk _ => h6 k hk⟩
end Go.Proofs.YtolnkhkjpgmgbaaGreat

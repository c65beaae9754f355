/- compose: put, and the reference's put, of any part that may be. (Written by wip/compose/gencps.py.) -/
import Derived.Test.YtodjohoonbkklaaCpQm
import Derived.Test.YtodjohoonbkklaaCpQt
import Derived.Test.YtodjohoonbkklaaCpQu
import Derived.Test.YtodjohoonbkklaaCpRm
import Derived.Test.YtodjohoonbkklaaCpRt
import Derived.Test.YtodjohoonbkklaaCpRu
namespace Go.Proofs.Ytodjohoonbkklaa
open Go.RowKit
set_option linter.unusedVariables false
set_option linter.unusedSimpArgs false
theorem may_parts {g xx xy yx yy dx dy pa ch : Int} {m t : Bool} (hm : mayPt ⟨g, xx, xy, yx, yy, m, dx, dy, t, pa, ch⟩ = true) :
    (0 ≤ g ∧ g < 65536) ∧ fitsM xx xy yx yy = true ∧ ((m = true ∧ (0 ≤ pa ∧ pa < 65536) ∧ (0 ≤ ch ∧ ch < 65536) ∧ dx = 0 ∧ dy = 0 ∧ t = false) ∨ (m = false ∧ (-32768 ≤ dx ∧ dx < 32768) ∧ (-32768 ≤ dy ∧ dy < 32768) ∧ pa = 0 ∧ ch = 0)) := by
  unfold mayPt at hm
  simp only [Bool.and_eq_true] at hm
  obtain ⟨h1, h2, h3⟩ := hm
  refine ⟨by simpa [wordB] using h1, h2, ?_⟩
  cases m
  · right; simp [s16B] at h3; simp; omega
  · left; simp [wordB] at h3; simp; exact ⟨h3.1.1.1.1, h3.1.1.1.2, h3.1.1.2, h3.1.2, h3.2⟩
theorem put_calls (r : Nat) (room : Int) (v : Value) (acc : List Int) (p : Pt) (G : Bool) (w : World) (h : WSt w r room v acc) (hm : mayPt p = true) (hn : (acc.length : Int) + 16 ≤ room) (hr : room ≤ 1073741824) :
    Calls Try.prog 64 #[.pointer (some ⟨r, 0, none⟩), ptV p, .bool G] w fun e w' => e = .returned (.tuple #[]) ∧ ∃ v', WSt w' r room v' (acc ++ putM p G) ∧ WK w w' r v v' := by
  obtain ⟨g, xx, xy, yx, yy, m, dx, dy, t, pa, ch⟩ := p
  obtain ⟨hg, hfit, ⟨rfl, ha, hb, rfl, rfl, rfl⟩ | ⟨rfl, ha, hb, rfl, rfl⟩⟩ := may_parts hm
  · cases hY : bothB pa ch 0 255 <;> cases G
    · exact put_mnw r room v acc g xx xy yx yy pa ch w h hfit hg (by omega) (by omega) hY hn hr
    · exact put_mgw r room v acc g xx xy yx yy pa ch w h hfit hg (by omega) (by omega) hY hn hr
    · exact put_mny r room v acc g xx xy yx yy pa ch w h hfit hg (by omega) (by omega) hY hn hr
    · exact put_mgy r room v acc g xx xy yx yy pa ch w h hfit hg (by omega) (by omega) hY hn hr
  · cases hY : bothB dx dy (-128) 127 <;> cases t <;> cases G
    · exact put_unw r room v acc g xx xy yx yy dx dy w h hfit hg (by omega) (by omega) hY hn hr
    · exact put_ugw r room v acc g xx xy yx yy dx dy w h hfit hg (by omega) (by omega) hY hn hr
    · exact put_tnw r room v acc g xx xy yx yy dx dy w h hfit hg (by omega) (by omega) hY hn hr
    · exact put_tgw r room v acc g xx xy yx yy dx dy w h hfit hg (by omega) (by omega) hY hn hr
    · exact put_uny r room v acc g xx xy yx yy dx dy w h hfit hg (by omega) (by omega) hY hn hr
    · exact put_ugy r room v acc g xx xy yx yy dx dy w h hfit hg (by omega) (by omega) hY hn hr
    · exact put_tny r room v acc g xx xy yx yy dx dy w h hfit hg (by omega) (by omega) hY hn hr
    · exact put_tgy r room v acc g xx xy yx yy dx dy w h hfit hg (by omega) (by omega) hY hn hr
theorem rput_calls (r : Nat) (room : Int) (acc : List Int) (p : Pt) (G : Bool) (w : World) (h : RWt w r room acc) (hm : mayPt p = true) (hn : (acc.length : Int) + 16 ≤ room) (hr : room ≤ 1073741824) :
    Calls Try.prog 68 #[.pointer (some ⟨r, 0, none⟩), ptV p, .bool G] w fun e w' => e = .returned (.tuple #[]) ∧ RWt w' r room (acc ++ putM p G) ∧ Kp [r] w w' := by
  obtain ⟨g, xx, xy, yx, yy, m, dx, dy, t, pa, ch⟩ := p
  obtain ⟨hg, hfit, ⟨rfl, ha, hb, rfl, rfl, rfl⟩ | ⟨rfl, ha, hb, rfl, rfl⟩⟩ := may_parts hm
  · cases hY : bothB pa ch 0 255 <;> cases G
    · exact rput_mnw r room acc g xx xy yx yy pa ch w h hfit hg (by omega) (by omega) hY hn hr
    · exact rput_mgw r room acc g xx xy yx yy pa ch w h hfit hg (by omega) (by omega) hY hn hr
    · exact rput_mny r room acc g xx xy yx yy pa ch w h hfit hg (by omega) (by omega) hY hn hr
    · exact rput_mgy r room acc g xx xy yx yy pa ch w h hfit hg (by omega) (by omega) hY hn hr
  · cases hY : bothB dx dy (-128) 127 <;> cases t <;> cases G
    · exact rput_unw r room acc g xx xy yx yy dx dy w h hfit hg (by omega) (by omega) hY hn hr
    · exact rput_ugw r room acc g xx xy yx yy dx dy w h hfit hg (by omega) (by omega) hY hn hr
    · exact rput_tnw r room acc g xx xy yx yy dx dy w h hfit hg (by omega) (by omega) hY hn hr
    · exact rput_tgw r room acc g xx xy yx yy dx dy w h hfit hg (by omega) (by omega) hY hn hr
    · exact rput_uny r room acc g xx xy yx yy dx dy w h hfit hg (by omega) (by omega) hY hn hr
    · exact rput_ugy r room acc g xx xy yx yy dx dy w h hfit hg (by omega) (by omega) hY hn hr
    · exact rput_tny r room acc g xx xy yx yy dx dy w h hfit hg (by omega) (by omega) hY hn hr
    · exact rput_tgy r room acc g xx xy yx yy dx dy w h hfit hg (by omega) (by omega) hY hn hr
end Go.Proofs.Ytodjohoonbkklaa

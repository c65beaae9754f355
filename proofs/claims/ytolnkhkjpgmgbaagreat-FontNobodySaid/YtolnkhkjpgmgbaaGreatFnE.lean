/- the table of the calls that have been worked out (written by genent.py). -/
import Derived.Test.YtolnkhkjpgmgbaaGreatFn1
import Derived.Test.YtolnkhkjpgmgbaaGreatFn2
import Derived.Test.YtolnkhkjpgmgbaaGreatFn3
import Derived.Test.YtolnkhkjpgmgbaaGreatFn4
import Derived.Test.YtolnkhkjpgmgbaaGreatFn5
import Derived.Test.YtolnkhkjpgmgbaaGreatFn6
namespace Go.Proofs.YtolnkhkjpgmgbaaGreat
open Go.RowKit
noncomputable def env1 : Ev.Env := Ev.mkEnv Tryz.prog [ent0, ent1, ent2, ent3, ent4, ent5, ent6, ent7, ent8, ent9, ent10, ent11, ent12, ent13, ent14, ent15]
theorem env1_ok : Ev.EnvOk Tryz.prog env1 := Ev.mkEnv_ok Tryz.prog (fun e h => by
  simp only [List.mem_cons, List.not_mem_nil, or_false] at h
  rcases h with rfl | rfl | rfl | rfl | rfl | rfl | rfl | rfl | rfl | rfl | rfl | rfl | rfl | rfl | rfl | rfl
  · exact ent0_ok
  · exact ent1_ok
  · exact ent2_ok
  · exact ent3_ok
  · exact ent4_ok
  · exact ent5_ok
  · exact ent6_ok
  · exact ent7_ok
  · exact ent8_ok
  · exact ent9_ok
  · exact ent10_ok
  · exact ent11_ok
  · exact ent12_ok
  · exact ent13_ok
  · exact ent14_ok
  · exact ent15_ok)
end Go.Proofs.YtolnkhkjpgmgbaaGreat

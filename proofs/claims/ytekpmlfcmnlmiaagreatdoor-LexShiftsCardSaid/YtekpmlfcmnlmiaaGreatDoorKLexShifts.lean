/- The walk of LexShifts, which returns true. Condition: what the tables of ops hold. -/
import Derived.Test.YtekpmlfcmnlmiaaGreatDoorRows
import Derived.Test.YtekpmlfcmnlmiaaGreatDoorX13
import Derived.Test.YtekpmlfcmnlmiaaGreatDoorJVZ
import Derived.Test.YtekpmlfcmnlmiaaGreatDoorRead
import Derived.WalkKit
import Derived.BigQuiet
import Derived.Deep.QuietTactic
import Derived.Deep.RegionHeld3
import Derived.Deep.RegionWith
import Derived.Deep.CutRange
import Derived.Deep.CutBlock
import Derived.WalkLawsBesides
import Derived.Lib.Hide
namespace Go.Proofs.YtekpmlfcmnlmiaaGreatDoor.lexShifts
open Go.RowKit
set_option linter.unusedVariables false
set_option linter.unusedSimpArgs false

theorem walk (w : World) (hg : GlB w.heap.size w) (v0 : Value) (s0 : ByteArray) (hd0 : Dn (cIn w) (.v (.string s0)) v0) (a1 : Int) (w1 : (Lit.int .i64 a1).wf = true) (v2 : Value) (s2 : ByteArray) (hd2 : Dn (cIn w) (.v (.string s2)) v2) :
    Calls Tryz.prog 4 #[v0, .int .i64 a1, v2] w fun e w' => e = .returned (.bool true) ∧ Below w.heap.size w w' := by
  have hm : TMeets Tryz.prog 4 [.v (.string s0), .v (.int .i64 a1), .v (.string s2)] (.v (.bool true)) := (lShifts_X s0 a1 (i64_of w1) s2).2
  refine (hm (cIn w) [v0, .int .i64 a1, v2] hg (DnL.cons hd0 (DnL.cons (by simp [Dn]) (DnL.cons hd2 DnL.nil)))).mono fun e w' ⟨u, ov, he, hb, _, hr⟩ => ?_
  simp only [Dn] at hr
  subst hr
  exact ⟨he, hb⟩
end Go.Proofs.YtekpmlfcmnlmiaaGreatDoor.lexShifts

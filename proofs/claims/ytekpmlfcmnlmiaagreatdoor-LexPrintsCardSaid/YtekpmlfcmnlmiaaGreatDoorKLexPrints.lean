/- The walk of LexPrints, which returns true. Condition: what the tables of ops hold. -/
import Derived.Test.YtekpmlfcmnlmiaaGreatDoorRows
import Derived.Test.YtekpmlfcmnlmiaaGreatDoorJX
import Derived.Test.YtekpmlfcmnlmiaaGreatDoorJVZ
import Derived.Test.YtekpmlfcmnlmiaaGreatDoorRead
import Derived.WalkKit
import Derived.BigQuiet
import Derived.Deep.QuietTactic
import Derived.Deep.RegionHeld3
import Derived.Deep.RegionWith
import Derived.Deep.CutRange
import Derived.Deep.CutBlock
import Derived.WalkLawsBesides
import Derived.Lib.Hide
namespace Go.Proofs.YtekpmlfcmnlmiaaGreatDoor.lexPrints
open Go.RowKit
set_option linter.unusedVariables false
set_option linter.unusedSimpArgs false

theorem walk (w : World) (hg : GlB w.heap.size w) (v0 : Value) (ls0 : List (List Yl)) (hi0 : ∀ x ∈ ls0, TokN x) (hd0 : Dn (cIn w) (.sl false (ls0.map rowT)) v0) :
    Calls Tryz.prog 3 #[v0] w fun e w' => e = .returned (.bool true) ∧ Below w.heap.size w w' := by
  have hm : TMeets Tryz.prog 3 [.sl false (ls0.map rowT)] (.v (.bool true)) := (lPrints_X false ls0 hi0).2
  refine (hm (cIn w) [v0] hg (DnL.cons hd0 DnL.nil)).mono fun e w' ⟨u, ov, he, hb, _, hr⟩ => ?_
  simp only [Dn] at hr
  subst hr
  exact ⟨he, hb⟩
end Go.Proofs.YtekpmlfcmnlmiaaGreatDoor.lexPrints

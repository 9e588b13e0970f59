/- The walk of LexPlaces, which returns true. Condition: what the tables of ops hold. -/
import Derived.Test.YtekpmlfcmnlmiaaDoorRows
import Derived.Test.YtekpmlfcmnlmiaaDoorX9
import Derived.Test.YtekpmlfcmnlmiaaDoorJV
import Derived.Test.YtekpmlfcmnlmiaaDoorRead
import Derived.WalkKit
import Derived.BigQuiet
import Derived.Deep.QuietTactic
import Derived.Deep.RegionHeld3
import Derived.Deep.RegionWith
import Derived.Deep.CutRange
import Derived.Deep.CutBlock
import Derived.WalkLawsBesides
import Derived.Lib.Hide
namespace Go.Proofs.YtekpmlfcmnlmiaaDoor.lexPlaces
open Go.RowKit
set_option linter.unusedVariables false
set_option linter.unusedSimpArgs false

theorem walk (w : World) (hg : GlB w.heap.size w) (v0 : Value) (s0 : ByteArray) (hd0 : Dn (cIn w) (.v (.string s0)) v0) :
    Calls Tryd.prog 5 #[v0] w fun e w' => e = .returned (.bool true) ∧ Below w.heap.size w w' := by
  have hm : TMeets Tryd.prog 5 [.v (.string s0)] (.v (.bool true)) := (lPlaces_X s0).2
  refine (hm (cIn w) [v0] hg (DnL.cons hd0 DnL.nil)).mono fun e w' ⟨u, ov, he, hb, _, hr⟩ => ?_
  simp only [Dn] at hr
  subst hr
  exact ⟨he, hb⟩
end Go.Proofs.YtekpmlfcmnlmiaaDoor.lexPlaces

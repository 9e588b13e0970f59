/- The walk of LexBack, which returns true. Condition: what the tables of ops hold. -/
import Derived.Test.YtekpmlfcmnlmiaaDoorRows
import Derived.Test.YtekpmlfcmnlmiaaDoorX10
import Derived.Test.YtekpmlfcmnlmiaaDoorJV
import Derived.Test.YtekpmlfcmnlmiaaDoorJV
import Derived.Test.YtekpmlfcmnlmiaaDoorRead
import Derived.WalkKit
import Derived.BigQuiet
import Derived.Deep.QuietTactic
import Derived.Deep.RegionHeld3
import Derived.Deep.RegionWith
import Derived.Deep.CutRange
import Derived.Deep.CutBlock
import Derived.WalkLawsBesides
import Derived.Lib.Hide
namespace Go.Proofs.YtekpmlfcmnlmiaaDoor.lexBack
open Go.RowKit
set_option linter.unusedVariables false
set_option linter.unusedSimpArgs false

theorem walk (w : World) (hg : GlB w.heap.size w) (v0 : Value) (ls0 : List Yl) (hi0 : TokN ls0) (hd0 : Dn (cIn w) (.sl false (ls0.map tokC)) v0) (v1 : Value) (s1 : ByteArray) (hd1 : Dn (cIn w) (.v (.string s1)) v1) :
    Calls Tryd.prog 4 #[v0, v1] w fun e w' => e = .returned (.bool true) ∧ Below w.heap.size w w' := by
  have hm : TMeets Tryd.prog 4 [.sl false (ls0.map tokC), .v (.string s1)] (.v (.bool true)) := (lBack_X false ls0 hi0 s1).2
  refine (hm (cIn w) [v0, v1] hg (DnL.cons hd0 (DnL.cons hd1 DnL.nil))).mono fun e w' ⟨u, ov, he, hb, _, hr⟩ => ?_
  simp only [Dn] at hr
  subst hr
  exact ⟨he, hb⟩
end Go.Proofs.YtekpmlfcmnlmiaaDoor.lexBack

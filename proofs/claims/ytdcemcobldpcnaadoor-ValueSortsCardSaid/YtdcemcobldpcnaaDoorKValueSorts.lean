/- The walk of ValueSorts, which returns true. Condition: what the tables of ops hold. -/
import Derived.Test.YtdcemcobldpcnaaDoorRows
import Derived.Test.YtdcemcobldpcnaaDoorV4
import Derived.Test.YtdcemcobldpcnaaDoorVO
import Derived.Test.YtdcemcobldpcnaaDoorRead
import Derived.WalkKit
import Derived.BigQuiet
import Derived.Deep.QuietTactic
import Derived.Deep.RegionHeld3
import Derived.Deep.RegionWith
import Derived.Deep.CutRange
import Derived.Deep.CutBlock
import Derived.WalkLawsBesides
import Derived.Lib.Hide
namespace Go.Proofs.YtdcemcobldpcnaaDoor.valueSorts
open Go.RowKit
set_option linter.unusedVariables false
set_option linter.unusedSimpArgs false

theorem walk (w : World) (hg : GlB w.heap.size w) (v0 : Value) (x0 : Val) (hi0 : x0.In) (hd0 : Dn (cIn w) (.agg (vcc x0)) v0) (v1 : Value) (x1 : Val) (hi1 : x1.In) (hd1 : Dn (cIn w) (.agg (vcc x1)) v1) :
    Calls Tryd.prog 8 #[v0, v1] w fun e w' => e = .returned (.bool true) ∧ Below w.heap.size w w' := by
  have hm : TMeets Tryd.prog 8 [.agg (vcc x0), .agg (vcc x1)] (.v (.bool true)) := (lSorts_X x0 x1 hi0.n hi1.n).2
  refine (hm (cIn w) [v0, v1] hg (DnL.cons hd0 (DnL.cons hd1 DnL.nil))).mono fun e w' ⟨u, ov, he, hb, _, hr⟩ => ?_
  simp only [Dn] at hr
  subst hr
  exact ⟨he, hb⟩
end Go.Proofs.YtdcemcobldpcnaaDoor.valueSorts

/- The walk of ValueBytes, which returns true. Condition: what the tables of ops hold. -/
import Derived.Test.YtdcemcobldpcnaaDoorRows
import Derived.Test.YtdcemcobldpcnaaDoorV6
import Derived.Test.YtdcemcobldpcnaaDoorVQ
import Derived.Test.YtdcemcobldpcnaaDoorRead
import Derived.WalkKit
import Derived.BigQuiet
import Derived.Deep.QuietTactic
import Derived.Deep.RegionHeld3
import Derived.Deep.RegionWith
import Derived.Deep.CutRange
import Derived.Deep.CutBlock
import Derived.WalkLawsBesides
import Derived.Lib.Hide
namespace Go.Proofs.YtdcemcobldpcnaaDoor.valueBytes
open Go.RowKit
set_option linter.unusedVariables false
set_option linter.unusedSimpArgs false

theorem walk (w : World) (hg : GlB w.heap.size w) (v0 : Value) (x0 : Val) (hi0 : x0.In) (hd0 : Dn (cIn w) (.agg (vcc x0)) v0) (v1 : Value) (ls1 : List Int) (hi1 : isB1 ls1) (hd1 : Dn (cIn w) (.sl false (ls1.map by1)) v1) :
    Calls Tryd.prog 5 #[v0, v1] w fun e w' => e = .returned (.bool true) ∧ Below w.heap.size w w' := by
  have hm : TMeets Tryd.prog 5 [.agg (vcc x0), .sl false (ls1.map by1)] (.v (.bool true)) := (lBytes_X false x0 ls1 hi0.n hi1).2
  refine (hm (cIn w) [v0, v1] hg (DnL.cons hd0 (DnL.cons hd1 DnL.nil))).mono fun e w' ⟨u, ov, he, hb, _, hr⟩ => ?_
  simp only [Dn] at hr
  subst hr
  exact ⟨he, hb⟩
end Go.Proofs.YtdcemcobldpcnaaDoor.valueBytes

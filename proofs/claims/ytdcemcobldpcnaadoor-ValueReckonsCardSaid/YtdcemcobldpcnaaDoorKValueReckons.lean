/- The walk of ValueReckons, which returns true. Condition: what the tables of ops hold. -/
import Derived.Test.YtdcemcobldpcnaaDoorRows
import Derived.Test.YtdcemcobldpcnaaDoorV3
import Derived.Test.YtdcemcobldpcnaaDoorVO
import Derived.Test.YtdcemcobldpcnaaDoorRead
import Derived.WalkKit
import Derived.BigQuiet
import Derived.Deep.QuietTactic
import Derived.Deep.RegionHeld3
import Derived.Deep.RegionWith
import Derived.Deep.CutRange
import Derived.Deep.CutBlock
import Derived.WalkLawsBesides
import Derived.Lib.Hide
namespace Go.Proofs.YtdcemcobldpcnaaDoor.valueReckons
open Go.RowKit
set_option linter.unusedVariables false
set_option linter.unusedSimpArgs false

theorem walk (w : World) (hg : GlB w.heap.size w) (a0 : Int) (w0 : (Lit.int .i64 a0).wf = true) (v1 : Value) (x1 : Val) (hi1 : x1.In) (hd1 : Dn (cIn w) (.agg (vcc x1)) v1) (v2 : Value) (x2 : Val) (hi2 : x2.In) (hd2 : Dn (cIn w) (.agg (vcc x2)) v2) :
    Calls Tryd.prog 4 #[.int .i64 a0, v1, v2] w fun e w' => e = .returned (.bool true) ∧ Below w.heap.size w w' := by
  have hm : TMeets Tryd.prog 4 [.v (.int .i64 a0), .agg (vcc x1), .agg (vcc x2)] (.v (.bool true)) := (lReckons_X a0 x1 x2 hi1.n hi2.n).2
  refine (hm (cIn w) [.int .i64 a0, v1, v2] hg (DnL.cons (by simp [Dn]) (DnL.cons hd1 (DnL.cons hd2 DnL.nil)))).mono fun e w' ⟨u, ov, he, hb, _, hr⟩ => ?_
  simp only [Dn] at hr
  subst hr
  exact ⟨he, hb⟩
end Go.Proofs.YtdcemcobldpcnaaDoor.valueReckons

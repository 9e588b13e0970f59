/- The walk of ValueBack, which returns true. Condition: what the tables of ops hold. -/
import Derived.Test.YtdcemcobldpcnaaDoorRows
import Derived.Test.YtdcemcobldpcnaaDoorV6
import Derived.Test.YtdcemcobldpcnaaDoorVQ
import Derived.Test.YtdcemcobldpcnaaDoorRead
import Derived.WalkKit
import Derived.BigQuiet
import Derived.Deep.QuietTactic
import Derived.Deep.RegionHeld3
import Derived.Deep.RegionWith
import Derived.Deep.CutRange
import Derived.Deep.CutBlock
import Derived.WalkLawsBesides
import Derived.Lib.Hide
namespace Go.Proofs.YtdcemcobldpcnaaDoor.valueBack
open Go.RowKit
set_option linter.unusedVariables false
set_option linter.unusedSimpArgs false

theorem walk (w : World) (hg : GlB w.heap.size w) (v0 : Value) (x0 : Val) (hi0 : x0.In) (hd0 : Dn (cIn w) (.agg (vcc x0)) v0) (a1 : Int) (w1 : (Lit.int .i64 a1).wf = true) (v2 : Value) (ls2 : List Int) (hi2 : isB1 ls2) (hd2 : Dn (cIn w) (.sl false (ls2.map by1)) v2) :
    Calls Tryd.prog 6 #[v0, .int .i64 a1, v2] w fun e w' => e = .returned (.bool true) ∧ Below w.heap.size w w' := by
  have hm : TMeets Tryd.prog 6 [.agg (vcc x0), .v (.int .i64 a1), .sl false (ls2.map by1)] (.v (.bool true)) := (lBack_X false x0 a1 ls2 hi0.n hi2).2
  refine (hm (cIn w) [v0, .int .i64 a1, v2] hg (DnL.cons hd0 (DnL.cons (by simp [Dn]) (DnL.cons hd2 DnL.nil)))).mono fun e w' ⟨u, ov, he, hb, _, hr⟩ => ?_
  simp only [Dn] at hr
  subst hr
  exact ⟨he, hb⟩
end Go.Proofs.YtdcemcobldpcnaaDoor.valueBack

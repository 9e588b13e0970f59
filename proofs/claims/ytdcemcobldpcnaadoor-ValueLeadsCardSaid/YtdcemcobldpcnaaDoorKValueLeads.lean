/- The walk of ValueLeads, which returns true. Condition: what the tables of ops hold. -/
import Derived.Test.YtdcemcobldpcnaaDoorRows
import Derived.Test.YtdcemcobldpcnaaDoorV2
import Derived.Test.YtdcemcobldpcnaaDoorVO
import Derived.Test.YtdcemcobldpcnaaDoorRead
import Derived.WalkKit
import Derived.BigQuiet
import Derived.Deep.QuietTactic
import Derived.Deep.RegionHeld3
import Derived.Deep.RegionWith
import Derived.Deep.CutRange
import Derived.Deep.CutBlock
import Derived.WalkLawsBesides
import Derived.Lib.Hide
namespace Go.Proofs.YtdcemcobldpcnaaDoor.valueLeads
open Go.RowKit
set_option linter.unusedVariables false
set_option linter.unusedSimpArgs false

theorem walk (w : World) (hg : GlB w.heap.size w) (a0 : Int) (w0 : (Lit.int .i64 a0).wf = true) (a1 : Int) (w1 : (Lit.int .i64 a1).wf = true) (v2 : Value) (x2 y2 : Int) (hx2 : I64 x2) (hy2 : I64 y2) (hd2 : Dn (cIn w) (.agg [.v (.int .i64 x2), .v (.int .i64 y2)]) v2) :
    Calls Tryd.prog 10 #[.int .i64 a0, .int .i64 a1, v2] w fun e w' => e = .returned (.bool true) ∧ Below w.heap.size w w' := by
  have hm : TMeets Tryd.prog 10 [.v (.int .i64 a0), .v (.int .i64 a1), .agg [.v (.int .i64 x2), .v (.int .i64 y2)]] (.v (.bool true)) := (lLeads_X a0 a1 x2 y2 (i64_of w0) (i64_of w1)).2
  refine (hm (cIn w) [.int .i64 a0, .int .i64 a1, v2] hg (DnL.cons (by simp [Dn]) (DnL.cons (by simp [Dn]) (DnL.cons hd2 DnL.nil)))).mono fun e w' ⟨u, ov, he, hb, _, hr⟩ => ?_
  simp only [Dn] at hr
  subst hr
  exact ⟨he, hb⟩
end Go.Proofs.YtdcemcobldpcnaaDoor.valueLeads

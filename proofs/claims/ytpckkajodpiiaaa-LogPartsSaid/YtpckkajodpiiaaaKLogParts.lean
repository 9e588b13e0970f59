/- The walk of LogParts, which returns true. No condition. -/
import Derived.Test.YtpckkajodpiiaaaRows
import Derived.Test.YtpckkajodpiiaaaTE12
import Derived.Test.YtpckkajodpiiaaaTE10
import Derived.Test.YtpckkajodpiiaaaRead
import Derived.WalkKit
import Derived.BigQuiet
import Derived.Deep.QuietTactic
import Derived.Deep.RegionHeld3
import Derived.Deep.RegionWith
import Derived.Deep.CutRange
import Derived.Deep.CutBlock
import Derived.WalkLawsBesides
import Derived.Lib.Hide
namespace Go.Proofs.Ytpckkajodpiiaaa.logParts
open Go.RowKit
set_option linter.unusedVariables false
set_option linter.unusedSimpArgs false

theorem walk (w : World) (v0 : Value) (L0 : LogA) (hi0 : L0.In) (hd0 : Dn (cIn w) (.agg (logC false L0)) v0) (a1 : Int) (w1 : (Lit.int .u64 a1).wf = true) :
    Calls Try.prog 9 #[v0, .int .u64 a1] w fun e w' => e = .returned (.bool true) ∧ Below w.heap.size w w' := by
  have hm : TMeets Try.prog 9 [.agg (logC false L0), .v (.int .u64 a1)] (.v (.bool true)) := logParts_T false L0 hi0.ok a1 (u64_of w1).1 (u64_of w1).2
  refine (hm (cIn w) [v0, .int .u64 a1] (DnL.cons hd0 (DnL.cons (by simp [Dn]) DnL.nil))).mono fun e w' ⟨u, ov, he, hb, _, hr⟩ => ?_
  simp only [Dn] at hr
  subst hr
  exact ⟨he, hb⟩
end Go.Proofs.Ytpckkajodpiiaaa.logParts

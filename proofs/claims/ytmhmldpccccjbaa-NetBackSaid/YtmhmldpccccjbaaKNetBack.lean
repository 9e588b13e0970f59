/- The walk of NetBack, which returns true. No condition. -/
import Derived.Test.YtmhmldpccccjbaaRows
import Derived.Test.YtmhmldpccccjbaaN5
import Derived.Test.YtmhmldpccccjbaaNO
import Derived.Test.YtmhmldpccccjbaaRead
import Derived.WalkKit
import Derived.BigQuiet
import Derived.Deep.QuietTactic
import Derived.Deep.RegionHeld3
import Derived.Deep.RegionWith
import Derived.Deep.CutRange
import Derived.Deep.CutBlock
import Derived.WalkLawsBesides
import Derived.Lib.Hide
namespace Go.Proofs.Ytmhmldpccccjbaa.netBack
open Go.RowKit
set_option linter.unusedVariables false
set_option linter.unusedSimpArgs false

theorem walk (w : World) (v0 : Value) (n0 : NetA) (hi0 : n0.In2) (hd0 : Dn (cIn w) (.agg (netC n0)) v0) (a1 : Int) (w1 : (Lit.int .i64 a1).wf = true) (a2 : Int) (w2 : (Lit.int .i64 a2).wf = true) :
    Calls Try.prog 8 #[v0, .int .i64 a1, .int .i64 a2] w fun e w' => e = .returned (.bool true) ∧ Below w.heap.size w w' := by
  have hm : TMeets Try.prog 8 [.agg (netC n0), .v (.int .i64 a1), .v (.int .i64 a2)] (.v (.bool true)) := (lBack_X false false false n0 a1 a2 hi0.i).2
  refine (hm (cIn w) [v0, .int .i64 a1, .int .i64 a2] ⟨fun g vs h => by cases (show (none : Option (List Value)) = some vs from h)⟩ (DnL.cons hd0 (DnL.cons (by simp [Dn]) (DnL.cons (by simp [Dn]) DnL.nil)))).mono fun e w' ⟨u, ov, he, hb, _, hr⟩ => ?_
  simp only [Dn] at hr
  subst hr
  exact ⟨he, hb⟩
end Go.Proofs.Ytmhmldpccccjbaa.netBack

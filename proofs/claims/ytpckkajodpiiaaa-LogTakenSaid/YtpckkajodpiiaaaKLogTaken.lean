/- The walk of LogTaken, which returns true. No condition. -/
import Derived.Test.YtpckkajodpiiaaaRows
import Derived.Test.YtpckkajodpiiaaaTE11
import Derived.Test.YtpckkajodpiiaaaTE10
import Derived.Test.YtpckkajodpiiaaaRead
import Derived.WalkKit
import Derived.BigQuiet
import Derived.Deep.QuietTactic
import Derived.Deep.RegionHeld3
import Derived.Deep.RegionWith
import Derived.Deep.CutRange
import Derived.Deep.CutBlock
import Derived.WalkLawsBesides
import Derived.Lib.Hide
namespace Go.Proofs.Ytpckkajodpiiaaa.logTaken
open Go.RowKit
set_option linter.unusedVariables false
set_option linter.unusedSimpArgs false

theorem walk (w : World) (v0 : Value) (L0 : LogA) (hi0 : L0.In) (hd0 : Dn (cIn w) (.agg (logC false L0)) v0) (v1 : Value) (L1 : LogA) (hi1 : L1.In) (hd1 : Dn (cIn w) (.agg (logC false L1)) v1) :
    Calls Try.prog 8 #[v0, v1] w fun e w' => e = .returned (.bool true) ∧ Below w.heap.size w w' := by
  have hm : TMeets Try.prog 8 [.agg (logC false L0), .agg (logC false L1)] (.v (.bool true)) := logTaken_T false false L0 hi0.ok (L1.i, L1.t) hi1.i.1 hi1.i.2 L1.es (fun e he => (hi1.es e he).t) (by have := hi1.n; unfold maxLen at this; omega)
  refine (hm (cIn w) [v0, v1] (DnL.cons hd0 (DnL.cons hd1 DnL.nil))).mono fun e w' ⟨u, ov, he, hb, _, hr⟩ => ?_
  simp only [Dn] at hr
  subst hr
  exact ⟨he, hb⟩
end Go.Proofs.Ytpckkajodpiiaaa.logTaken

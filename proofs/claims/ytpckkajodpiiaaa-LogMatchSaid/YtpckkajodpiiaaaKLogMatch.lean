/- The walk of LogMatch, which returns true. No condition. -/
import Derived.Test.YtpckkajodpiiaaaRows
import Derived.Test.YtpckkajodpiiaaaLO
import Derived.Test.YtpckkajodpiiaaaRead
import Derived.WalkKit
import Derived.BigQuiet
import Derived.Deep.QuietTactic
import Derived.Deep.RegionHeld3
import Derived.Deep.RegionWith
import Derived.Deep.CutRange
import Derived.Deep.CutBlock
import Derived.WalkLawsBesides
import Derived.Lib.Hide
namespace Go.Proofs.Ytpckkajodpiiaaa.logMatch
open Go.RowKit
set_option linter.unusedVariables false
set_option linter.unusedSimpArgs false

theorem walk (w : World) (v0 : Value) (ls0 : List ActA) (hi0 : ∀ x ∈ ls0, x.Ok) (hn0 : ls0.length ≤ maxLen) (hd0 : Dn (cIn w) (.sl false (ls0.map actC)) v0) :
    Calls Try.prog 7 #[v0] w fun e w' => e = .returned (.bool true) ∧ Below w.heap.size w w' := by
  have hm : TMeets Try.prog 7 [.sl false (ls0.map actC)] (.v (.bool true)) := (lMatch_X false ls0 hi0 (by unfold maxLen at hn0; omega)).2
  refine (hm (cIn w) [v0] ⟨fun g vs h => by cases (show (none : Option (List Value)) = some vs from h)⟩ (DnL.cons hd0 DnL.nil)).mono fun e w' ⟨u, ov, he, hb, _, hr⟩ => ?_
  simp only [Dn] at hr
  subst hr
  exact ⟨he, hb⟩
end Go.Proofs.Ytpckkajodpiiaaa.logMatch

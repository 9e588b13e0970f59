/- The walk of NetTakes, which returns true. No condition. -/
import Derived.Test.YtmhmldpccccjbaaRows
import Derived.Test.YtmhmldpccccjbaaN8
import Derived.Test.YtmhmldpccccjbaaNX
import Derived.Test.YtmhmldpccccjbaaRead
import Derived.WalkKit
import Derived.BigQuiet
import Derived.Deep.QuietTactic
import Derived.Deep.RegionHeld3
import Derived.Deep.RegionWith
import Derived.Deep.CutRange
import Derived.Deep.CutBlock
import Derived.WalkLawsBesides
import Derived.Lib.Hide
namespace Go.Proofs.Ytmhmldpccccjbaa.netTakes
open Go.RowKit
set_option linter.unusedVariables false
set_option linter.unusedSimpArgs false

theorem walk (w : World) (v0 : Value) (n0 : NetA) (hi0 : n0.In2) (hd0 : Dn (cIn w) (.agg (netC n0)) v0) (v1 : Value) (ps1 : List Int) (hi1 : ∀ x ∈ ps1, I64 x) (hn1 : ps1.length ≤ maxLen) (hd1 : Dn (cIn w) (.sl false (ps1.map inC)) v1) :
    Calls Try.prog 3 #[v0, v1] w fun e w' => e = .returned (.bool true) ∧ Below w.heap.size w w' := by
  have hm : TMeets Try.prog 3 [.agg (netC n0), .sl false (ps1.map inC)] (.v (.bool true)) := (lTakes_X false false false false n0 ps1 hi0.i hi1 (by unfold maxLen at hn1; omega)).2
  refine (hm (cIn w) [v0, v1] ⟨fun g vs h => by cases (show (none : Option (List Value)) = some vs from h)⟩ (DnL.cons hd0 (DnL.cons hd1 DnL.nil))).mono fun e w' ⟨u, ov, he, hb, _, hr⟩ => ?_
  simp only [Dn] at hr
  subst hr
  exact ⟨he, hb⟩
end Go.Proofs.Ytmhmldpccccjbaa.netTakes

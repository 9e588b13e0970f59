/- The walk of NetRow, which returns true. No condition. -/
import Derived.Test.YtmhmldpccccjbaaRows
import Derived.Test.YtmhmldpccccjbaaNQ
import Derived.Test.YtmhmldpccccjbaaRead
import Derived.WalkKit
import Derived.BigQuiet
import Derived.Deep.QuietTactic
import Derived.Deep.RegionHeld3
import Derived.Deep.RegionWith
import Derived.Deep.CutRange
import Derived.Deep.CutBlock
import Derived.WalkLawsBesides
import Derived.Lib.Hide
namespace Go.Proofs.Ytmhmldpccccjbaa.netRow
open Go.RowKit
set_option linter.unusedVariables false
set_option linter.unusedSimpArgs false

theorem walk (w : World) (v0 : Value) (ms0 : List Msg) (hn0 : ms0.length ≤ maxLen) (hd0 : Dn (cIn w) (.sl false (ms0.map (sdC false))) v0) (v1 : Value) (tk1 : List Bool) (hn1 : tk1.length ≤ maxLen) (hd1 : Dn (cIn w) (.sl false (tk1.map bo1)) v1) :
    Calls Try.prog 7 #[v0, v1] w fun e w' => e = .returned (.bool true) ∧ Below w.heap.size w w' := by
  have hm : TMeets Try.prog 7 [.sl false (ms0.map (sdC false)), .sl false (tk1.map bo1)] (.v (.bool true)) := (lRow_X false false false ms0 tk1 (by unfold maxLen at hn0; omega) (by unfold maxLen at hn1; omega)).2
  refine (hm (cIn w) [v0, v1] ⟨fun g vs h => (by cases (show (none : Option (List Value)) = some vs from h)), fun g cs h => (by cases (show (none : Option (Array Value)) = some cs from h)), fun g h => (by cases (show false = true from h))⟩ (DnL.cons hd0 (DnL.cons hd1 DnL.nil))).mono fun e w' ⟨u, ov, he, hb, _, hr⟩ => ?_
  simp only [Dn] at hr
  subst hr
  exact ⟨he, hb⟩
end Go.Proofs.Ytmhmldpccccjbaa.netRow

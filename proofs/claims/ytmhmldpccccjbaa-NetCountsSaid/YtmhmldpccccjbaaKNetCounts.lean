/- The walk of NetCounts, which returns true. No condition. -/
import Derived.Test.YtmhmldpccccjbaaRows
import Derived.Test.YtmhmldpccccjbaaNU
import Derived.Test.YtmhmldpccccjbaaRead
import Derived.WalkKit
import Derived.BigQuiet
import Derived.Deep.QuietTactic
import Derived.Deep.RegionHeld3
import Derived.Deep.RegionWith
import Derived.Deep.CutRange
import Derived.Deep.CutBlock
import Derived.WalkLawsBesides
import Derived.Lib.Hide
namespace Go.Proofs.Ytmhmldpccccjbaa.netCounts
open Go.RowKit
set_option linter.unusedVariables false
set_option linter.unusedSimpArgs false

theorem walk (w : World) (v0 : Value) (ac0 : List AcA) (hi0 : ∀ x ∈ ac0, x.In) (hn0 : ac0.length ≤ maxLen) (hd0 : Dn (cIn w) (.sl false (ac0.map acC)) v0) :
    Calls Try.prog 6 #[v0] w fun e w' => e = .returned (.bool true) ∧ Below w.heap.size w w' := by
  have hm : TMeets Try.prog 6 [.sl false (ac0.map acC)] (.v (.bool true)) := (lCounts_X false ac0 hi0 (by unfold maxLen at hn0; omega)).2
  refine (hm (cIn w) [v0] ⟨fun g vs h => (by cases (show (none : Option (List Value)) = some vs from h)), fun g cs h => (by cases (show (none : Option (Array Value)) = some cs from h)), fun g h => (by cases (show false = true from h))⟩ (DnL.cons hd0 DnL.nil)).mono fun e w' ⟨u, ov, he, hb, _, hr⟩ => ?_
  simp only [Dn] at hr
  subst hr
  exact ⟨he, hb⟩
end Go.Proofs.Ytmhmldpccccjbaa.netCounts

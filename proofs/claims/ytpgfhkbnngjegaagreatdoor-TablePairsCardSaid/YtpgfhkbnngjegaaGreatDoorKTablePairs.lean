/- The walk of TablePairs, which returns true. Condition: what the tables of ops hold. -/
import Derived.Test.YtpgfhkbnngjegaaGreatDoorRows
import Derived.Test.YtpgfhkbnngjegaaGreatDoorWP
import Derived.Test.YtpgfhkbnngjegaaGreatDoorTV
import Derived.Test.YtpgfhkbnngjegaaGreatDoorRead
import Derived.WalkKit
import Derived.BigQuiet
import Derived.Deep.QuietTactic
import Derived.Deep.RegionHeld3
import Derived.Deep.RegionWith
import Derived.Deep.CutRange
import Derived.Deep.CutBlock
import Derived.WalkLawsBesides
import Derived.Lib.Hide
namespace Go.Proofs.YtpgfhkbnngjegaaGreatDoor.tablePairs
open Go.RowKit
set_option linter.unusedVariables false
set_option linter.unusedSimpArgs false

theorem walk (w : World) (hg : GlB w.heap.size w) (v0 : Value) (s0 : List Tbl) (hi0 : GotS s0) (hd0 : Dn (cIn w) (.agg [.sl false (s0.map (tbC false false false))]) v0) (v1 : Value) (s1 : List Tbl) (hi1 : GotS s1) (hd1 : Dn (cIn w) (.agg [.sl false (s1.map (tbC false false false))]) v1) :
    Calls Tryz.prog 5 #[v0, v1] w fun e w' => e = .returned (.bool true) ∧ Below w.heap.size w w' := by
  have hm : TMeets Tryz.prog 5 [.agg [.sl false (s0.map (tbC false false false))], .agg [.sl false (s1.map (tbC false false false))]] (.v (.bool true)) := (lPairs_T false false false false false false false false s0 s1 hi0.1 hi1.1 hi0.sh hi1.sh hi0.in0 hi1.in0).2
  refine (hm (cIn w) [v0, v1] hg (DnL.cons hd0 (DnL.cons hd1 DnL.nil))).mono fun e w' ⟨u, ov, he, hb, _, hr⟩ => ?_
  simp only [Dn] at hr
  subst hr
  exact ⟨he, hb⟩
end Go.Proofs.YtpgfhkbnngjegaaGreatDoor.tablePairs

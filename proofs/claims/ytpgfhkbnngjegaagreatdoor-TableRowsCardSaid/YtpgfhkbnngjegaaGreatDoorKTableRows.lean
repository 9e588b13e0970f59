/- The walk of TableRows, which returns true. Condition: what the tables of ops hold. -/
import Derived.Test.YtpgfhkbnngjegaaGreatDoorRows
import Derived.Test.YtpgfhkbnngjegaaGreatDoorWR
import Derived.Test.YtpgfhkbnngjegaaGreatDoorTV
import Derived.Test.YtpgfhkbnngjegaaGreatDoorRead
import Derived.WalkKit
import Derived.BigQuiet
import Derived.Deep.QuietTactic
import Derived.Deep.RegionHeld3
import Derived.Deep.RegionWith
import Derived.Deep.CutRange
import Derived.Deep.CutBlock
import Derived.WalkLawsBesides
import Derived.Lib.Hide
namespace Go.Proofs.YtpgfhkbnngjegaaGreatDoor.tableRows
open Go.RowKit
set_option linter.unusedVariables false
set_option linter.unusedSimpArgs false

theorem walk (w : World) (hg : GlB w.heap.size w) (v0 : Value) (t0 : Tbl) (hi0 : t0.Got) (hd0 : Dn (cIn w) (.agg (tbC false false false t0)) v0) (v1 : Value) (ls1 : List (List Val)) (hi1 : GotR ls1) (hd1 : Dn (cIn w) (.sl false (ls1.map (rwC false))) v1) (v2 : Value) (ls2 : List ByteArray) (hi2 : ls2.length ≤ 9223372036854775807) (hd2 : Dn (cIn w) (.sl false (ls2.map st1)) v2) :
    Calls Tryz.prog 3 #[v0, v1, v2] w fun e w' => e = .returned (.bool true) ∧ Below w.heap.size w w' := by
  have hm : TMeets Tryz.prog 3 [.agg (tbC false false false t0), .sl false (ls1.map (rwC false)), .sl false (ls2.map st1)] (.v (.bool true)) := (lRows_T false false false false false false t0 ls1 ls2 hi0.in0 hi0.cn hi0.r.1 (fun r hr => (hi0.r.2 r hr).1) hi1.1 (fun r hr => (hi1.2 r hr).1) (fun r hr => (hi1.2 r hr).2) hi2).2
  refine (hm (cIn w) [v0, v1, v2] hg (DnL.cons hd0 (DnL.cons hd1 (DnL.cons hd2 DnL.nil)))).mono fun e w' ⟨u, ov, he, hb, _, hr⟩ => ?_
  simp only [Dn] at hr
  subst hr
  exact ⟨he, hb⟩
end Go.Proofs.YtpgfhkbnngjegaaGreatDoor.tableRows

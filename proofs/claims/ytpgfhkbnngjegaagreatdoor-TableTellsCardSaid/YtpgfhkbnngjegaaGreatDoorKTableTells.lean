/- The walk of TableTells, which returns true. Condition: what the tables of ops hold. -/
import Derived.Test.YtpgfhkbnngjegaaGreatDoorRows
import Derived.Test.YtpgfhkbnngjegaaGreatDoorTW
import Derived.Test.YtpgfhkbnngjegaaGreatDoorTW
import Derived.Test.YtpgfhkbnngjegaaGreatDoorRead
import Derived.WalkKit
import Derived.BigQuiet
import Derived.Deep.QuietTactic
import Derived.Deep.RegionHeld3
import Derived.Deep.RegionWith
import Derived.Deep.CutRange
import Derived.Deep.CutBlock
import Derived.WalkLawsBesides
import Derived.Lib.Hide
namespace Go.Proofs.YtpgfhkbnngjegaaGreatDoor.tableTells
open Go.RowKit
set_option linter.unusedVariables false
set_option linter.unusedSimpArgs false
theorem walk (w : World) (hg : GlB w.heap.size w) (v0 : Value) (L0 : List (List Tbl)) (hi0 : L0.length ≤ 9223372036854775807) (hq0 : ∀ s ∈ L0,StI s) (hd0 : Dn (cIn w) (.sl false (L0.map (stC false false false false))) v0) (v1 : Value) (ls1 : List ByteArray) (hi1 : ls1.length ≤ 9223372036854775807) (hd1 : Dn (cIn w) (.sl false (ls1.map st1)) v1) (v2 : Value) (ls2 : List Val) (hi2 : ls2.length ≤ 9223372036854775807) (hd2 : Dn (cIn w) (.sl false (ls2.map vlC)) v2) :
  Calls Tryz.prog 4 #[v0,v1,v2] w fun e w'=>e = .returned (.bool true)∧Below w.heap.size w w':=by
 have hm : TMeets Tryz.prog 4 [.sl false (L0.map (stC false false false false)),.sl false (ls1.map st1),.sl false (ls2.map vlC)] (.v (.bool true)):=(lTells_T false false false false false false false L0 ls1 ls2 hi0 hq0 hi1 hi2).2
 refine (hm (cIn w) [v0,v1,v2] hg (DnL.cons hd0 (DnL.cons hd1 (DnL.cons hd2 DnL.nil)))).mono fun e w' ⟨u,ov,he,hb,_,hr⟩=>?_
 simp only [Dn] at hr
 subst hr
 exact ⟨he,hb⟩
end Go.Proofs.YtpgfhkbnngjegaaGreatDoor.tableTells

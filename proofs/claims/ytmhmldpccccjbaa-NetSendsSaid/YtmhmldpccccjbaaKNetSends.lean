/- The walk of NetSends, which returns true. No condition. -/
import Derived.Test.YtmhmldpccccjbaaRows
import Derived.Test.YtmhmldpccccjbaaNY
import Derived.Test.YtmhmldpccccjbaaRead
import Derived.WalkKit
import Derived.BigQuiet
import Derived.Deep.QuietTactic
import Derived.Deep.RegionHeld3
import Derived.Deep.RegionWith
import Derived.Deep.CutRange
import Derived.Deep.CutBlock
import Derived.WalkLawsBesides
import Derived.Lib.Hide
namespace Go.Proofs.Ytmhmldpccccjbaa.netSends
open Go.RowKit
set_option linter.unusedVariables false
set_option linter.unusedSimpArgs false

theorem walk (w : World) (v0 : Value) (n0 : NetA) (hi0 : n0.In2) (hd0 : Dn (cIn w) (.agg (netC n0)) v0) (v1 : Value) (n1 : NetA) (hi1 : n1.In2) (hd1 : Dn (cIn w) (.agg (netC n1)) v1) (v2 : Value) (fr2 : Int) (ms2 : List Msg) (hf2 : I64 fr2) (hi2 : SayIn ms2) (hd2 : Dn (cIn w) (.agg (sayC fr2 ms2)) v2) :
    Calls Try.prog 5 #[v0, v1, v2] w fun e w' => e = .returned (.bool true) ∧ Below w.heap.size w w' := by
  have hm : TMeets Try.prog 5 [.agg (netC n0), .agg (netC n1), .agg (sayC fr2 ms2)] (.v (.bool true)) := (lSends_X false false false false false false false false n0 n1 fr2 ms2 hi0.i hi1.i hf2 hi2).2
  refine (hm (cIn w) [v0, v1, v2] ⟨fun g vs h => (by cases (show (none : Option (List Value)) = some vs from h)), fun g cs h => (by cases (show (none : Option (Array Value)) = some cs from h)), fun g h => (by cases (show false = true from h))⟩ (DnL.cons hd0 (DnL.cons hd1 (DnL.cons hd2 DnL.nil)))).mono fun e w' ⟨u, ov, he, hb, _, hr⟩ => ?_
  simp only [Dn] at hr
  subst hr
  exact ⟨he, hb⟩
end Go.Proofs.Ytmhmldpccccjbaa.netSends

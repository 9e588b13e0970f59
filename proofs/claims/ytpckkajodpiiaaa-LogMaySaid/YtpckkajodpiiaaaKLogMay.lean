/- The walk of LogMay, which returns true. No condition. -/
import Derived.Test.YtpckkajodpiiaaaRows
import Derived.Test.YtpckkajodpiiaaaTE10
import Derived.Test.YtpckkajodpiiaaaRead
import Derived.WalkKit
import Derived.BigQuiet
import Derived.Deep.QuietTactic
import Derived.Deep.RegionHeld3
import Derived.Deep.RegionWith
import Derived.Deep.CutRange
import Derived.Deep.CutBlock
import Derived.WalkLawsBesides
import Derived.Lib.Hide
namespace Go.Proofs.Ytpckkajodpiiaaa.logMay
open Go.RowKit
set_option linter.unusedVariables false
set_option linter.unusedSimpArgs false

theorem walk (w : World) (v0 : Value) (ls0 : List LogA) (hi0 : ∀ L ∈ ls0, L.In) (hn0 : ls0.length ≤ maxLen) (hd0 : Dn (cIn w) (.sl false (ls0.map (logC false))) v0) (a1 : Int) (w1 : (Lit.int .u64 a1).wf = true) :
    Calls Try.prog 5 #[v0, .int .u64 a1] w fun e w' => e = .returned (.bool true) ∧ Below w.heap.size w w' := by
  have hm : TMeets Try.prog 5 [.sl false (ls0.map (logC false)), .v (.int .u64 a1)] (.v (.bool true)) := logMay_T false ls0 a1 (fun L hL => (hi0 L hL).ok) (by have := hn0; unfold maxLen at this; omega)
  refine (hm (cIn w) [v0, .int .u64 a1] (DnL.cons hd0 (DnL.cons (by simp [Dn]) DnL.nil))).mono fun e w' ⟨u, ov, he, hb, _, hr⟩ => ?_
  simp only [Dn] at hr
  subst hr
  exact ⟨he, hb⟩
end Go.Proofs.Ytpckkajodpiiaaa.logMay

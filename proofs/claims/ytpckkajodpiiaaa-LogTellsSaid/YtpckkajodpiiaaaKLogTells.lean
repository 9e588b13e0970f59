/- The walk of LogTells, which returns true. No condition. -/
import Derived.Test.YtpckkajodpiiaaaRows
import Derived.Test.YtpckkajodpiiaaaLTe
import Derived.Test.YtpckkajodpiiaaaTEP
import Derived.Test.YtpckkajodpiiaaaRead
import Derived.WalkKit
import Derived.BigQuiet
import Derived.Deep.QuietTactic
import Derived.Deep.RegionHeld3
import Derived.Deep.RegionWith
import Derived.Deep.CutRange
import Derived.Deep.CutBlock
import Derived.WalkLawsBesides
import Derived.Lib.Hide
namespace Go.Proofs.Ytpckkajodpiiaaa.logTells
open Go.RowKit
set_option linter.unusedVariables false
set_option linter.unusedSimpArgs false

theorem walk (w : World) (v0 : Value) (L0 : LogA) (hi0 : L0.In) (hd0 : Dn (cIn w) (.agg (logC false L0)) v0) (v1 : Value) (ls1 : List (Int × Int)) (hi1 : ∀ p ∈ ls1, AtOk p) (hn1 : ls1.length ≤ maxLen) (hd1 : Dn (cIn w) (.sl false (ls1.map atC)) v1) (a2 : Int) (w2 : (Lit.int .i64 a2).wf = true) :
    Calls Try.prog 6 #[v0, v1, .int .i64 a2] w fun e w' => e = .returned (.bool true) ∧ Below w.heap.size w w' := by
  have hm : TMeets Try.prog 6 [.agg (logC false L0), .sl false (ls1.map atC), .v (.int .i64 a2)] (.v (.bool true)) := (lTells_X false false false L0.es ls1 a2 hi0.i.1 hi0.i.2 hi0.t.1 (fun e he => (hi0.es e he).t) (by have := hi0.n; unfold maxLen at this; omega) hi1 (by unfold maxLen at hn1; omega) (by simp [Lit.wf, IntKind.min, IntKind.max, IntKind.signed, IntKind.bits] at w2; omega)).2
  refine (hm (cIn w) [v0, v1, .int .i64 a2] ⟨fun g vs h => by cases (show (none : Option (List Value)) = some vs from h)⟩ (DnL.cons hd0 (DnL.cons hd1 (DnL.cons (by simp [Dn]) DnL.nil)))).mono fun e w' ⟨u, ov, he, hb, _, hr⟩ => ?_
  simp only [Dn] at hr
  subst hr
  exact ⟨he, hb⟩
end Go.Proofs.Ytpckkajodpiiaaa.logTells

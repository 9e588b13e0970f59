/- Logs: entries, and what may be: the plain words, and the walks of the small functions. No condition. -/
import Derived.Test.YtpckkajodpiiaaaRows
import Derived.Test.YtpckkajodpiiaaaBase
import Derived.Test.YtpckkajodpiiaaaLaw
import Derived.WalkKit
import Derived.BigQuiet
import Derived.Deep.QuietTactic
import Derived.Deep.RegionHeld3
import Derived.Deep.RegionWith
import Derived.Deep.CutRange
import Derived.Deep.CutBlock
import Derived.WalkLawsBesides
import Derived.Lib.Hide
namespace Go.Proofs.Ytpckkajodpiiaaa
open Go.RowKit
set_option linter.unusedVariables false
set_option linter.unusedSimpArgs false

/-- Is there an index for each of so many behind one? -/
def roomB (i : Int) (n : Nat) : Bool := decide (i ≤ 18446744073709551614) && decide ((n : Int) ≤ 18446744073709551614 - i)
/-- May an entry be? (its Term, its Kind, how many bytes it has) -/
def wellB (T K : Int) (n : Nat) : Bool := (decide (K = 2) || decide (K = 3) || (decide (K = 1) && decide (n = 0))) && decide (0 < T) && decide (n ≤ 1024)

theorem room_any (i : Int) (n : Nat) (w : World) (h0 : 0 ≤ i) (h1 : i < 18446744073709551616) (hn : n ≤ 9223372036854775807) :
    Calls Try.prog 66 #[.int .u64 i, .int .i64 n] w fun e w' => e = .returned (.bool (roomB i n)) ∧ w = w' := by
  go_enter Try.func66, Try.ntmps66
  by_cases h : i ≤ 18446744073709551614
  · have e1 : IntKind.u64.wrap (18446744073709551614 - i) = 18446744073709551614 - i := by simp [IntKind.wrap, IntKind.bits, IntKind.signed]; omega
    have e2 : IntKind.u64.wrap (n : Int) = (n : Int) := by simp [IntKind.wrap, IntKind.bits, IntKind.signed]; omega
    go_wp2
    go_ret
    exact ⟨by simp [roomB, h, e1, e2], rfl⟩
  · go_wp2
    go_ret
    exact ⟨by simp [roomB]; omega, rfl⟩

theorem well_any (T K : Int) (A : Option Addr) (n c : Nat) (w : World) (h0 : 0 ≤ T) (hn : n ≤ 9223372036854775807) :
    Calls Try.prog 72 #[.agg #[.int .u64 T, .int .i64 K, .slice A n c]] w fun e w' => e = .returned (.bool (wellB T K n)) ∧ Below w.heap.size w w' := by
  go_enter Try.func72, Try.ntmps72
  go_wp2
  all_goals
    go_ret
    refine ⟨?_, (Below.refl _ w).alloc (Nat.le_refl _) _⟩
    congr 2
    simp only [wellB]
    simp_all
    try omega
end Go.Proofs.Ytpckkajodpiiaaa

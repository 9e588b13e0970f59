/- Package-level variables that are only read: none. No condition. -/
import Derived.Test.YtpckkajodpiiaaaLaw
namespace Go.Proofs.Ytpckkajodpiiaaa
def gl : Nat → Option (List Value) := fun _ => none
end Go.Proofs.Ytpckkajodpiiaaa

/- Package-level variables that are only read: none. No condition. -/
import Derived.Test.YtmhmldpccccjbaaLaw
namespace Go.Proofs.Ytmhmldpccccjbaa
def gl : Nat → Option (List Value) := fun _ => none
end Go.Proofs.Ytmhmldpccccjbaa

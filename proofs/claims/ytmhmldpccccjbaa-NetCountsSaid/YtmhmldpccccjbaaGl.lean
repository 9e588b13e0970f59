/- Package-level variables that are only read: none. No condition. -/
import Derived.Test.YtmhmldpccccjbaaLaw
namespace Go.Proofs.Ytmhmldpccccjbaa
def gl : Nat → Option (List Value) := fun _ => none
/-- Tables, whole. -/
def glO : Nat → Option (Array Value) := fun _ => none
/-- Variables that hold an interface value. -/
def glI : Nat → Bool := fun _ => false
end Go.Proofs.Ytmhmldpccccjbaa

/- Package-level variables that are only read: strconv's two errors, and its powers of ten. No condition. -/
import Derived.Test.YtekpmlfcmnlmiaaGreatDoorLaw
import Derived.Lib.ItoaNum
namespace Go.Proofs.YtekpmlfcmnlmiaaGreatDoor
def gl : Nat → Option (List Value) := fun _ => none
/-- Tables, whole. -/
def glO : Nat → Option (Array Value) := fun g => match Nat.beq g 1 with
  | true => some (Lib.pow10Tab.map fun z => Value.int .u64 z).toArray
  | false => none
/-- Variables that hold an interface value. -/
def glI : Nat → Bool := fun g => Nat.beq g 5 || Nat.beq g 6
end Go.Proofs.YtekpmlfcmnlmiaaGreatDoor

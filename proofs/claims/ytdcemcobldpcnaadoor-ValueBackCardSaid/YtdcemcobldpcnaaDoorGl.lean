/- Package-level variables that are only read: the tables of ops. No condition. -/
import Derived.Test.YtdcemcobldpcnaaDoorLaw
namespace Go.Proofs.YtdcemcobldpcnaaDoor
def gl : Nat → Option (List Value)
  | 0 => some [.nilFunc, .func (.func 87) #[] #[], .func (.func 88) #[] #[], .func (.func 89) #[] #[], .func (.func 90) #[] #[], .func (.func 91) #[] #[], .func (.func 92) #[] #[]]
  | 1 => some [.nilFunc, .func (.func 93) #[] #[], .func (.func 94) #[] #[], .func (.func 95) #[] #[], .func (.func 96) #[] #[], .func (.func 97) #[] #[]]
  | _ => none
end Go.Proofs.YtdcemcobldpcnaaDoor

/- Drawn regions that read pinned slots. No condition. -/
import Derived.Test.YtmhmldpccccjbaaU3
namespace Go.Proofs.Ytmhmldpccccjbaa
open Go.RowKit
set_option linter.unusedVariables false
set_option linter.unusedSimpArgs false

section
variable {P : Program} {Q : Exit → Act → World → Prop} {ops : Array Oper} {d : Nat}
def sameAt (d : Nat) (a b : Act) : Prop := a.tmps.toList[d]? = b.tmps.toList[d]?
/-- What is shown of the end of a region is shown along with a slot that the region does not write. -/
def keptQ (d : Nat) (a0 : Act) (Q : Exit → Act → World → Prop) : Exit → Act → World → Prop
  | .normal, a, w => sameAt d a a0 ∧ Q .normal a w
  | ex, a, w => Q ex a w
end
section
variable {P : Program} {B : Nat} {w0 : World} {T : Tab} {n : Nat} {e : Env} {h : List XLB} {gs : Frames}
def noDst (d : Nat) (o : Oper) : Bool := match o.dst with
  | some k => !Nat.beq k d
  | none => true
end
end Go.Proofs.Ytmhmldpccccjbaa

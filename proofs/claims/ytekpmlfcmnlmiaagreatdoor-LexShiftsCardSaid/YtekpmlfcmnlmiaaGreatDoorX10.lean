/- Tokens and their texts: the walk of LexBack. Condition: what the package-level variables hold. -/
import Derived.Test.YtekpmlfcmnlmiaaGreatDoorX9
namespace Go.Proofs.YtekpmlfcmnlmiaaGreatDoor
open Go.RowKit
set_option linter.unusedVariables false
set_option linter.unusedSimpArgs false
set_option maxRecDepth 20000
/-- A token with its text's beginning alone. -/
def cutY (y : Yl) : Yl := { y with t := begS 100 y.t }
/-- A law's tokens; the first so many cut. -/
def cutK (l : List Yl) (k : Nat) : List Yl := ((l.take 301).take k).map cutY ++ (l.take 301).drop k
def tkS (l : List Yl) : List Yl := (l.take 301).map cutY
/-- Tokens that come in. -/
def TokN (l : List Yl) : Prop := ∀ y ∈ l, -9223372036854775808 ≤ y.n ∧ y.n ≤ 9223372036854775807
attribute [local irreducible] lexT plcs smeL chkN prT tkS
end Go.Proofs.YtekpmlfcmnlmiaaGreatDoor

/- Where tokens stand: the walk of LexPlaces. Condition: what the package-level variables hold. -/
import Derived.Test.YtekpmlfcmnlmiaaGreatDoorJS
namespace Go.Proofs.YtekpmlfcmnlmiaaGreatDoor
open Go.RowKit
set_option linter.unusedVariables false
set_option linter.unusedSimpArgs false
set_option maxRecDepth 20000
attribute [local irreducible] lexT plcs smeL chkN prT
end Go.Proofs.YtekpmlfcmnlmiaaGreatDoor

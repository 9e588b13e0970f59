/- The program's table of types for the walks. No condition. -/
import Derived.Test.YtmhmldpccccjbaaU4
import Derived.Test.YtmhmldpccccjbaaTy
namespace Go.Proofs.Ytmhmldpccccjbaa
open Go.RowKit
set_option linter.unusedVariables false
set_option linter.unusedSimpArgs false

def tabX : Tab := fun t => match tg t with
  | some x => some (x, zg t)
  | none => none
theorem tabX_ok : TabOk Try.prog tabX where
  ty t x z h := by
    unfold tabX at h
    split at h
    · rename_i y hy
      simp only [Option.some.injEq, Prod.mk.injEq] at h
      obtain ⟨rfl, rfl⟩ := h
      exact ⟨tT hy, fun v hv => zT hv⟩
    · cases h
  mo := by kernel_rfl
end Go.Proofs.Ytmhmldpccccjbaa

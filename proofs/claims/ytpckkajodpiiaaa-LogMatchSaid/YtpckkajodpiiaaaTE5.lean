/- Logs in memory of their own, of so many entries. No condition. -/
import Derived.Test.YtpckkajodpiiaaaTE4
import Derived.Test.YtpckkajodpiiaaaT12
import Derived.Test.YtpckkajodpiiaaaT15
namespace Go.Proofs.Ytpckkajodpiiaaa
open Go.RowKit
set_option linter.unusedVariables false
set_option linter.unusedSimpArgs false

theorem fz_bytes (j : Nat) (x : TV) : ∀ l : List Int, fzLL j x (l.map byC) = l.map byC
  | [] => rfl
  | y :: l => by simp only [List.map_cons, fzLL, fz_bytes j x l]; simp [byC, fzL, fz]
theorem fz_ents (j : Nat) (x : TV) (b : Bool) : ∀ l : List Ent, fzLL j x (l.map (entC b)) = l.map (entC b)
  | [] => rfl
  | y :: l => by simp only [List.map_cons, fzLL, fz_ents j x b l]; simp [entC, fzL, fz, fz_bytes]
/-- An entry whose bytes are not too many. -/
def cutE (e : Ent) : Ent := ⟨e.T, e.K, e.D.take 1025⟩
def fewL (es : List Ent) : List Ent := (es.take 32).map cutE
end Go.Proofs.Ytpckkajodpiiaaa

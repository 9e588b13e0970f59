/- Truths in a row, as they come in. No condition. -/
import Derived.Test.YtmhmldpccccjbaaNO
import Derived.Test.YtmhmldpccccjbaaN10
namespace Go.Proofs.Ytmhmldpccccjbaa
open Go.RowKit
set_option linter.unusedVariables false
set_option linter.unusedSimpArgs false

abbrev shBo : List Sh := [.bool]
theorem open_bo {els : List (List TV)} (h : ∀ c ∈ els, ShL shBo c) : ∃ l : List Bool, els = l.map bo1 ∧ l.length = els.length ∧ ∀ x ∈ l, True := image_of fun c hc => by
  obtain ⟨x, rfl, h1⟩ := shL1 (h c hc)
  obtain ⟨b, rfl⟩ := h1
  exact ⟨b, rfl, trivial⟩
end Go.Proofs.Ytmhmldpccccjbaa

/- How places that come in read as trees. No condition. -/
import Derived.Test.YtpckkajodpiiaaaTE10
import Derived.Test.YtpckkajodpiiaaaLTe
namespace Go.Proofs.Ytpckkajodpiiaaa
open Go.RowKit
set_option linter.unusedVariables false
set_option linter.unusedSimpArgs false

abbrev shAt : List Sh := [.int .u64, .int .u64]
theorem open_ats {els : List (List TV)} (h : ∀ c ∈ els, ShL shAt c) : ∃ l : List (Int × Int), els = l.map atC ∧ l.length = els.length ∧ ∀ p ∈ l, AtOk p := image_of fun c hc => by
  obtain ⟨x, y, rfl, h1, h2⟩ := shL2 (h c hc)
  obtain ⟨i, rfl, h4⟩ := sh_int h1
  obtain ⟨t, rfl, h5⟩ := sh_int h2
  exact ⟨(i, t), rfl, u64_of h4⟩
end Go.Proofs.Ytpckkajodpiiaaa

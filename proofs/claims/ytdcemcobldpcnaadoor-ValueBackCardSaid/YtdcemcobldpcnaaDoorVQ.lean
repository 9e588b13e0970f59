/- How bytes that come in read as a tree. No condition. -/
import Derived.Test.YtdcemcobldpcnaaDoorVO
namespace Go.Proofs.YtdcemcobldpcnaaDoor
open Go.RowKit
theorem open_byt {els : List (List TV)} (h : ∀ c ∈ els, ShL [.int .u8] c) : ∃ l : List Int, els = l.map by1 ∧ l.length = els.length ∧ isB1 l := image_of fun c hc => by
  obtain ⟨x, rfl, h1⟩ := shL1 (h c hc)
  obtain ⟨n, rfl, h2⟩ := sh_int h1
  exact ⟨n, rfl, u8_of h2⟩
end Go.Proofs.YtdcemcobldpcnaaDoor

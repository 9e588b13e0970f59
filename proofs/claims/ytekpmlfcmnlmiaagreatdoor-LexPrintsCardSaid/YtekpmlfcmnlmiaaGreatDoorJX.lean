/- Rows of tokens that come in. No condition. -/
import Derived.Test.YtekpmlfcmnlmiaaGreatDoorX10
import Derived.Test.YtekpmlfcmnlmiaaGreatDoorOpen
import Derived.Test.YtekpmlfcmnlmiaaGreatDoorX12
namespace Go.Proofs.YtekpmlfcmnlmiaaGreatDoor
open Go.ChangeShapes Go.WideShapes Go.ChangeAt Go.RowKit
set_option linter.unusedVariables false
set_option linter.unusedSimpArgs false

theorem open_tok {c : List TV} (h : ShL [.int .i64, .str, .int .i64, .int .i64, .int .i64] c) : ∃ y : Yl, c = tokC y ∧ (-9223372036854775808 ≤ y.n ∧ y.n ≤ 9223372036854775807) := by
  simp only [ShL, ShV] at h
  obtain ⟨_, _, rfl, ⟨k, rfl, hk⟩, _, _, rfl, ⟨t, rfl, ht⟩, _, _, rfl, ⟨n, rfl, hn⟩, _, _, rfl, ⟨a, rfl, ha⟩, _, _, rfl, ⟨z, rfl, hz⟩, rfl⟩ := h
  have := i64_of hn
  exact ⟨⟨k, t, n, a, z, 0⟩, rfl, this.1, by show n ≤ _; omega⟩
theorem open_toks {els : List (List TV)} (h : ∀ c ∈ els, ShL [.int .i64, .str, .int .i64, .int .i64, .int .i64] c) : ∃ l : List Yl, els = l.map tokC ∧ l.length = els.length ∧ TokN l :=
  image_of fun c hc => open_tok (h c hc)
end Go.Proofs.YtekpmlfcmnlmiaaGreatDoor

namespace Go.Proofs.YtekpmlfcmnlmiaaGreatDoor
open Go.ChangeShapes Go.WideShapes Go.ChangeAt Go.RowKit
set_option linter.unusedVariables false
set_option linter.unusedSimpArgs false

theorem open_trows {els : List (List TV)} (h : ∀ c ∈ els, ShL [.sl [.int .i64, .str, .int .i64, .int .i64, .int .i64]] c) : ∃ l : List (List Yl), els = l.map rowT ∧ l.length = els.length ∧ ∀ x ∈ l, TokN x :=
  image_of fun c hc => by
    obtain ⟨x, rfl, h1⟩ := shL1 (h c hc)
    obtain ⟨els2, rfl, _, h2⟩ := sh_sl h1
    obtain ⟨l, rfl, _, h3⟩ := open_toks h2
    exact ⟨l, rfl, h3⟩
end Go.Proofs.YtekpmlfcmnlmiaaGreatDoor

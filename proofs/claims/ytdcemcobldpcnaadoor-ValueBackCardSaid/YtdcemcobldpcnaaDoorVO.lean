/- How values that come in read as trees. No condition. -/
import Derived.Test.YtdcemcobldpcnaaDoorOpen
import Derived.Test.YtdcemcobldpcnaaDoorV1
namespace Go.Proofs.YtdcemcobldpcnaaDoor
open Go.RowKit
set_option linter.unusedVariables false
set_option linter.unusedSimpArgs false

abbrev shVal : List Sh := [.int .i64, .int .i64, .str]
/-- A value as it comes in. -/
structure Val.In (v : Val) : Prop where
  k : I64 v.k
  n : I64 v.n
  t : v.t.size ≤ maxLen
theorem open_val {c : List TV} (h : ShL shVal c) : ∃ v : Val, c = vcc v ∧ v.In := by
  obtain ⟨x, y, z, rfl, h1, h2, h3⟩ := shL3 h
  obtain ⟨k, rfl, h4⟩ := sh_int h1
  obtain ⟨n, rfl, h5⟩ := sh_int h2
  simp only [ShV] at h3
  obtain ⟨s, rfl, h6⟩ := h3
  exact ⟨⟨k, n, s⟩, rfl, i64_of h4, i64_of h5, h6⟩
abbrev shTwo : List Sh := [.int .i64, .int .i64]
theorem open_two {c : List TV} (h : ShL shTwo c) : ∃ a b : Int, c = [.v (.int .i64 a), .v (.int .i64 b)] ∧ I64 a ∧ I64 b := by
  obtain ⟨x, y, rfl, h1, h2⟩ := shL2 h
  obtain ⟨k, rfl, h4⟩ := sh_int h1
  obtain ⟨n, rfl, h5⟩ := sh_int h2
  exact ⟨k, n, rfl, i64_of h4, i64_of h5⟩
end Go.Proofs.YtdcemcobldpcnaaDoor

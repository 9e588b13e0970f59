/- How nets, and what is said, that come in read as trees. No condition. -/
import Derived.Test.YtmhmldpccccjbaaOpen
import Derived.Test.YtmhmldpccccjbaaN4
namespace Go.Proofs.Ytmhmldpccccjbaa
open Go.RowKit
set_option linter.unusedVariables false
set_option linter.unusedSimpArgs false

theorem shL4 {a b d f : Sh} {c : List TV} (h : ShL [a, b, d, f] c) : ∃ x y z u, c = [x, y, z, u] ∧ ShV a x ∧ ShV b y ∧ ShV d z ∧ ShV f u := by
  simp only [ShL] at h
  obtain ⟨x, _, rfl, h1, y, _, rfl, h2, z, _, rfl, h3, u, _, rfl, h4, rfl⟩ := h
  exact ⟨x, y, z, u, rfl, h1, h2, h3, h4⟩
abbrev shB : List Sh := [.int .u8]
abbrev shSl : List Sh := [.int .i64, .int .i64, .int .i64, .sl shB]
abbrev shDf : List Sh := [.int .i64, .int .i64]
abbrev shN : List Sh := [.sl shSl, .int .i64, .sl shDf]
abbrev shSd : List Sh := [.int .i64, .sl shB]
theorem i64_I {x : Int} (h : (Lit.int .i64 x).wf = true) : I64 x := by simp [Lit.wf, IntKind.min, IntKind.max, IntKind.signed, IntKind.bits] at h; unfold I64; omega
structure Sl.In (s : Sl) : Prop where
  a : I64 s.a
  f : I64 s.f
  t : I64 s.t
  n : s.b.length ≤ maxLen
  b : ∀ x ∈ s.b, 0 ≤ x ∧ x < 256
def netC (n : NetA) : List TV := [.sl false (n.s.map (slC false)), .v (.int .i64 n.l), .sl false (n.d.map dfC)]
/-- A net as it comes in. -/
structure NetA.In2 (n : NetA) : Prop where
  i : n.In
  b : ∀ x ∈ n.s, ∀ y ∈ x.b, 0 ≤ y ∧ y < 256
end Go.Proofs.Ytmhmldpccccjbaa

/- How nets, and what is said, that come in read as trees. No condition. -/
import Derived.Test.YtmhmldpccccjbaaOpen
import Derived.Test.YtmhmldpccccjbaaN4
namespace Go.Proofs.Ytmhmldpccccjbaa
open Go.RowKit
set_option linter.unusedVariables false
set_option linter.unusedSimpArgs false

abbrev shB : List Sh := [.int .u8]
abbrev shSl : List Sh := [.int .i64, .int .i64, .int .i64, .sl shB]
abbrev shDf : List Sh := [.int .i64, .int .i64]
abbrev shN : List Sh := [.sl shSl, .int .i64, .sl shDf]
abbrev shSd : List Sh := [.int .i64, .sl shB]
theorem i64_I {x : Int} (h : (Lit.int .i64 x).wf = true) : I64 x := by simp [Lit.wf, IntKind.min, IntKind.max, IntKind.signed, IntKind.bits] at h; unfold I64; omega
theorem open_by {els : List (List TV)} (h : ∀ c ∈ els, ShL shB c) : ∃ l : List Int, els = l.map by1 ∧ l.length = els.length ∧ ∀ x ∈ l, 0 ≤ x ∧ x < 256 := image_of fun c hc => by
  obtain ⟨x, rfl, h1⟩ := shL1 (h c hc)
  obtain ⟨n, rfl, h2⟩ := sh_int h1
  refine ⟨n, rfl, ?_⟩
  simp [Lit.wf, IntKind.min, IntKind.max, IntKind.signed, IntKind.bits] at h2; omega
structure Sl.In (s : Sl) : Prop where
  a : I64 s.a
  f : I64 s.f
  t : I64 s.t
  n : s.b.length ≤ maxLen
  b : ∀ x ∈ s.b, 0 ≤ x ∧ x < 256
def netC (n : NetA) : List TV := [.sl false (n.s.map (slC false)), .v (.int .i64 n.l), .sl false (n.d.map dfC)]
/-- A net as it comes in. -/
structure NetA.In2 (n : NetA) : Prop where
  i : n.In
  b : ∀ x ∈ n.s, ∀ y ∈ x.b, 0 ≤ y ∧ y < 256
theorem open_sds {els : List (List TV)} (h : ∀ c ∈ els, ShL shSd c) : ∃ l : List Msg, els = l.map (sdC false) ∧ l.length = els.length ∧ ∀ m ∈ l, I64 m.1 ∧ m.2.length ≤ 9223372036854775807 ∧ ∀ x ∈ m.2, 0 ≤ x ∧ x < 256 := image_of fun c hc => by
  obtain ⟨x, y, rfl, h1, h2⟩ := shL2 (h c hc)
  obtain ⟨i, rfl, h4⟩ := sh_int h1
  obtain ⟨bs, rfl, h8, h9⟩ := sh_sl h2
  obtain ⟨l, rfl, ha, hb⟩ := open_by h9
  exact ⟨(i, l), rfl, i64_I h4, by show l.length ≤ _; unfold maxLen at h8; omega, hb⟩
end Go.Proofs.Ytmhmldpccccjbaa

/- How rows of numbers, and what is sent, that come in read as trees. No condition. -/
import Derived.Test.YtmhmldpccccjbaaOpen
import Derived.Test.YtmhmldpccccjbaaN4
namespace Go.Proofs.Ytmhmldpccccjbaa
open Go.RowKit
set_option linter.unusedVariables false
set_option linter.unusedSimpArgs false

theorem shL4 {a b d f : Sh} {c : List TV} (h : ShL [a, b, d, f] c) : ∃ x y z u, c = [x, y, z, u] ∧ ShV a x ∧ ShV b y ∧ ShV d z ∧ ShV f u := by
  simp only [ShL] at h
  obtain ⟨x, _, rfl, h1, y, _, rfl, h2, z, _, rfl, h3, u, _, rfl, h4, rfl⟩ := h
  exact ⟨x, y, z, u, rfl, h1, h2, h3, h4⟩
abbrev shB : List Sh := [.int .u8]
abbrev shSl : List Sh := [.int .i64, .int .i64, .int .i64, .sl shB]
abbrev shDf : List Sh := [.int .i64, .int .i64]
abbrev shN : List Sh := [.sl shSl, .int .i64, .sl shDf]
abbrev shSd : List Sh := [.int .i64, .sl shB]
theorem i64_I {x : Int} (h : (Lit.int .i64 x).wf = true) : I64 x := by simp [Lit.wf, IntKind.min, IntKind.max, IntKind.signed, IntKind.bits] at h; unfold I64; omega
theorem open_by {els : List (List TV)} (h : ∀ c ∈ els, ShL shB c) : ∃ l : List Int, els = l.map by1 ∧ l.length = els.length ∧ ∀ x ∈ l, 0 ≤ x ∧ x < 256 := image_of fun c hc => by
  obtain ⟨x, rfl, h1⟩ := shL1 (h c hc)
  obtain ⟨n, rfl, h2⟩ := sh_int h1
  refine ⟨n, rfl, ?_⟩
  simp [Lit.wf, IntKind.min, IntKind.max, IntKind.signed, IntKind.bits] at h2; omega
structure Sl.In (s : Sl) : Prop where
  a : I64 s.a
  f : I64 s.f
  t : I64 s.t
  n : s.b.length ≤ maxLen
  b : ∀ x ∈ s.b, 0 ≤ x ∧ x < 256
theorem open_slots {els : List (List TV)} (h : ∀ c ∈ els, ShL shSl c) : ∃ l : List Sl, els = l.map (slC false) ∧ l.length = els.length ∧ ∀ s ∈ l, s.In := image_of fun c hc => by
  obtain ⟨x, y, z, u, rfl, h1, h2, h3, h4⟩ := shL4 (h c hc)
  obtain ⟨a, rfl, h5⟩ := sh_int h1
  obtain ⟨f, rfl, h6⟩ := sh_int h2
  obtain ⟨t, rfl, h7⟩ := sh_int h3
  obtain ⟨bs, rfl, h8, h9⟩ := sh_sl h4
  obtain ⟨l, rfl, ha, hb⟩ := open_by h9
  exact ⟨⟨a, f, t, l⟩, rfl, i64_I h5, i64_I h6, i64_I h7, by rw [show (⟨a, f, t, l⟩ : Sl).b = l from rfl, ha]; exact h8, hb⟩
theorem open_df {els : List (List TV)} (h : ∀ c ∈ els, ShL shDf c) : ∃ l : List (Int × Int), els = l.map dfC ∧ l.length = els.length ∧ ∀ p ∈ l, I64 p.1 ∧ I64 p.2 := image_of fun c hc => by
  obtain ⟨x, y, rfl, h1, h2⟩ := shL2 (h c hc)
  obtain ⟨i, rfl, h4⟩ := sh_int h1
  obtain ⟨t, rfl, h5⟩ := sh_int h2
  exact ⟨(i, t), rfl, i64_I h4, i64_I h5⟩
def netC (n : NetA) : List TV := [.sl false (n.s.map (slC false)), .v (.int .i64 n.l), .sl false (n.d.map dfC)]
/-- A net as it comes in. -/
structure NetA.In2 (n : NetA) : Prop where
  i : n.In
  b : ∀ x ∈ n.s, ∀ y ∈ x.b, 0 ≤ y ∧ y < 256
theorem open_net {c : List TV} (h : ShL shN c) : ∃ n : NetA, c = netC n ∧ n.In2 := by
  obtain ⟨x, y, z, rfl, h1, h2, h3⟩ := shL3 h
  obtain ⟨ss, rfl, h4, h5⟩ := sh_sl h1
  obtain ⟨l, rfl, h6⟩ := sh_int h2
  obtain ⟨ds, rfl, h7, h8⟩ := sh_sl h3
  obtain ⟨s, rfl, h9, h10⟩ := open_slots h5
  obtain ⟨d, rfl, h11, h12⟩ := open_df h8
  refine ⟨⟨s, l, d⟩, rfl, ⟨fun x hx => ?_, ?_, i64_I h6, h12, ?_⟩, fun x hx => (h10 x hx).b⟩
  · have := h10 x hx
    exact ⟨this.a, this.f, this.t, by have := this.n; unfold maxLen at this; omega⟩
  · show s.length ≤ _
    unfold maxLen at h4; omega
  · show d.length ≤ _
    unfold maxLen at h7; omega
end Go.Proofs.Ytmhmldpccccjbaa

namespace Go.Proofs.Ytmhmldpccccjbaa
open Go.RowKit
set_option linter.unusedVariables false
set_option linter.unusedSimpArgs false

def inC (x : Int) : List TV := [.v (.int .i64 x)]
theorem nl_in (l : List Int) : NlLL (l.map inC) := .map fun x _ => .cons (nlv _) .nil
theorem untag_in (l : List Int) : untagLL (l.map inC) = l.map inC := by rw [untagLL_map]; rfl
theorem pu_in (l : List Int) : PuLL (l.map inC) := PuLL_map _ _ fun x _ => by simp [inC, PuL, Pu]
abbrev shIn : List Sh := [.int .i64]
theorem open_in {els : List (List TV)} (h : ∀ c ∈ els, ShL shIn c) : ∃ l : List Int, els = l.map inC ∧ l.length = els.length ∧ ∀ x ∈ l, I64 x := image_of fun c hc => by
  obtain ⟨x, rfl, h1⟩ := shL1 (h c hc)
  obtain ⟨n, rfl, h2⟩ := sh_int h1
  exact ⟨n, rfl, i64_I h2⟩
end Go.Proofs.Ytmhmldpccccjbaa

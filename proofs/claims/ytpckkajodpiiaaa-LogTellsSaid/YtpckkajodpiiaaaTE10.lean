/- How logs, entries, offers that come in read as trees. No condition. -/
import Derived.Test.YtpckkajodpiiaaaOpen
import Derived.Test.YtpckkajodpiiaaaTEA
namespace Go.Proofs.Ytpckkajodpiiaaa
open Go.RowKit
set_option linter.unusedVariables false
set_option linter.unusedSimpArgs false

abbrev shB : List Sh := [.int .u8]
abbrev shE : List Sh := [.int .u64, .int .i64, .sl shB]
abbrev shL : List Sh := [.int .u64, .int .u64, .sl shE]
theorem open_bytes {els : List (List TV)} (h : ∀ c ∈ els, ShL shB c) : ∃ l : List Int, els = l.map byC ∧ l.length = els.length ∧ ∀ x ∈ l, 0 ≤ x ∧ x < 256 := image_of fun c hc => by
  obtain ⟨x, rfl, h1⟩ := shL1 (h c hc)
  obtain ⟨n, rfl, h2⟩ := sh_int h1
  exact ⟨n, rfl, u8_of h2⟩
/-- An entry as it comes in. -/
structure Ent.In (e : Ent) : Prop where
  t : 0 ≤ e.T ∧ e.T < 18446744073709551616
  k : -9223372036854775808 ≤ e.K ∧ e.K < 9223372036854775808
  d : e.D.length ≤ maxLen
  b : ∀ x ∈ e.D, 0 ≤ x ∧ x < 256
theorem open_ents {els : List (List TV)} (h : ∀ c ∈ els, ShL shE c) : ∃ l : List Ent, els = l.map (entC false) ∧ l.length = els.length ∧ ∀ e ∈ l, e.In := image_of fun c hc => by
  obtain ⟨x, y, z, rfl, h1, h2, h3⟩ := shL3 (h c hc)
  obtain ⟨t, rfl, h4⟩ := sh_int h1
  obtain ⟨k, rfl, h5⟩ := sh_int h2
  obtain ⟨bs, rfl, h6, h7⟩ := sh_sl h3
  obtain ⟨l, rfl, h8, h9⟩ := open_bytes h7
  exact ⟨⟨t, k, l⟩, rfl, u64_of h4, i64_of h5, by rw [show (⟨t, k, l⟩ : Ent).D = l from rfl, h8]; exact h6, h9⟩
structure LogA.In (L : LogA) : Prop where
  i : 0 ≤ L.i ∧ L.i < 18446744073709551616
  t : 0 ≤ L.t ∧ L.t < 18446744073709551616
  n : L.es.length ≤ maxLen
  es : ∀ e ∈ L.es, e.In
theorem LogA.In.ok {L : LogA} (h : L.In) : L.Ok := ⟨h.i.1, h.i.2, h.t.1, h.t.2, fun e he => (h.es e he).t, by have := h.n; unfold maxLen at this; omega⟩
theorem open_log {c : List TV} (h : ShL shL c) : ∃ L : LogA, c = logC false L ∧ L.In := by
  obtain ⟨x, y, z, rfl, h1, h2, h3⟩ := shL3 h
  obtain ⟨i, rfl, h4⟩ := sh_int h1
  obtain ⟨t, rfl, h5⟩ := sh_int h2
  obtain ⟨es, rfl, h6, h7⟩ := sh_sl h3
  obtain ⟨l, rfl, h8, h9⟩ := open_ents h7
  exact ⟨⟨i, t, l⟩, rfl, u64_of h4, u64_of h5, by rw [show (⟨i, t, l⟩ : LogA).es = l from rfl, h8]; exact h6, h9⟩
end Go.Proofs.Ytpckkajodpiiaaa

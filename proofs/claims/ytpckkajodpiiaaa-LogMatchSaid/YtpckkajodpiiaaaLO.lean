/- How acts that come in read as trees. No condition. -/
import Derived.Test.YtpckkajodpiiaaaOpen
import Derived.Test.YtpckkajodpiiaaaLN
namespace Go.Proofs.Ytpckkajodpiiaaa
open Go.RowKit
abbrev shAct : List Sh := [.int .i64, .int .i64, .int .i64, .int .i64, .int .u64, .int .u8]
theorem open_act {c : List TV} (h : ShL shAct c) : ∃ x : ActA, c = actC x ∧ x.Ok := by
  obtain ⟨t1, c1, rfl, h1, h⟩ := h
  obtain ⟨t2, c2, rfl, h2, h⟩ := h
  obtain ⟨t3, c3, rfl, h3, h⟩ := h
  obtain ⟨t4, c4, rfl, h4, h⟩ := h
  obtain ⟨t5, c5, rfl, h5, h⟩ := h
  obtain ⟨t6, c6, rfl, h6, rfl⟩ := h
  obtain ⟨k, rfl, g1⟩ := sh_int h1
  obtain ⟨w, rfl, g2⟩ := sh_int h2
  obtain ⟨v, rfl, g3⟩ := sh_int h3
  obtain ⟨n, rfl, g4⟩ := sh_int h4
  obtain ⟨i, rfl, g5⟩ := sh_int h5
  obtain ⟨d, rfl, g6⟩ := sh_int h6
  exact ⟨⟨k, w, v, n, i, d⟩, rfl, (i64_of g4).2, (u64_of g5).1⟩
theorem open_acts {els : List (List TV)} (h : ∀ c ∈ els, ShL shAct c) : ∃ l : List ActA, els = l.map actC ∧ l.length = els.length ∧ ∀ x ∈ l, x.Ok := image_of fun c hc => open_act (h c hc)
end Go.Proofs.Ytpckkajodpiiaaa

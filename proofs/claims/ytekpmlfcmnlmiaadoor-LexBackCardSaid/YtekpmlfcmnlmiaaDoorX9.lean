/- Where tokens stand: the walk of LexPlaces. Condition: what the package-level variables hold. -/
import Derived.Test.YtekpmlfcmnlmiaaDoorJQ
namespace Go.Proofs.YtekpmlfcmnlmiaaDoor
open Go.RowKit
set_option linter.unusedVariables false
set_option linter.unusedSimpArgs false
set_option maxRecDepth 20000
theorem lex_or (s : ByteArray) : (∃ l, lexT s = (l, (0, 0)) ∧ plcs s 0 l ∧ l.length ≤ 300 ∧ chkN l = 0 ∧ TokInL l) ∨ (∃ e a, lexT s = ([], (e, a)) ∧ ¬ e = 0 ∧ 0 ≤ a ∧ a ≤ (s.size : Int)) := by
  by_cases h : (lexT s).2.1 = 0
  · have h2 := (lex_ok h).2.2.2.2
    refine .inl ⟨(lexT s).1, ?_, lex_plc h, lex_len s, lex_chk h, lex_in s⟩
    exact Prod.ext rfl (Prod.ext h h2)
  · obtain ⟨h1, h2, h3, h4⟩ := lex_no (s := s) fun hh => h hh.1
    exact .inr ⟨(lexT s).2.1, (lexT s).2.2, by rw [← h1], h2, h3, h4⟩
theorem lexAs {s : ByteArray} {l : List Yl} {e a : Int} (hs : s.size ≤ 1000000) (h : lexT s = (l, (e, a))) : XMeets Tryd.prog 17 [.v (.string s)] (.tu [.ow 43 5 (l.map tokC) (nl_tok _), .ag [.p (.v (.int .i64 e)) (nlv _), .p (.v (.int .i64 a)) (nlv _)]]) := (lex_X s hs).eq (by rw [h])
attribute [local irreducible] lexT plcs smeL chkN prT
set_option maxRecDepth 20000 in
theorem text_X (s : ByteArray) : XMeets Tryd.prog 19 [.v (.string s)] (.p (.v (.string (begS 1025 s))) (nlv _)) := by
  refine XMeets.of_X tabX_ok (avs := [.p (.v (.string s)) (nlv _)]) [(0, .p (.v (.string s)) (nlv _))] (by kernel_rfl) Tryd.func19 rfl (by simp [PuL, Pu]) (rfl) rfl rfl ?_
  intro B w0
  conv => whnf
  refine ⟨_, (Int.toNat_of_nonneg (by omega)).symm, ?_⟩
  conv => whnf
  refine ⟨by omega, ?_⟩
  conv => whnf
  refine ⟨by omega, ?_⟩
  conv => whnf
  refine FinG.mk none ?_ (by rintro _ ⟨⟩)
  simp only [outs, List.length_map, List.length_append, List.length_take, List.length_drop, List.length_cons, List.length_nil]
end Go.Proofs.YtekpmlfcmnlmiaaDoor

/- Reading the handed data: a struct of two whole numbers alone. No condition. -/
import Derived.Test.YtonfbinkjhbpiaaRead3
namespace Go.Proofs.Ytonfbinkjhbpiaa
open Go.ChangeShapes Go.WideShapes Go.ChangeAt Go.RowKit
set_option linter.unusedVariables false
set_option linter.unusedSimpArgs false

theorem open_match {H : Type} {enc : TypeId × Value → H} {P : Program} {w : World} {b0 base : Nat} {held : Bool} {r : TypeId} {f0 f1 : Field} {v : Value} {d : DataW H} {p : List MemPlace}
    (he : P.underlying r = some (.struct #[f0, f1])) (hone : Go.Deep.oneCellFields P #[f0, f1] = true) (hC : P.cellsOf r = 2)
    (h0 : P.underlying f0.type = some (.int .i64)) (h1 : P.underlying f1.type = some (.int .u64))
    (hv : Value.okWide P w .any b0 r v) (h : DataW.Trod enc P w base (fun _ => true) held r v d p) :
    ∃ a b, v = .agg #[.int .i64 a, .int .u64 b] ∧ ((Lit.int .i64 a).wf = true ∧ (Lit.int .u64 b).wf = true) := by
  obtain ⟨cs, rfl, hsz⟩ := okWide_struct he hv
  rw [hC] at hsz
  obtain ⟨fuel, hf⟩ := h
  obtain ⟨c0, c1, rfl⟩ : ∃ c0 c1, cs = #[c0, c1] := by
    obtain ⟨l⟩ := cs
    rcases l with _ | ⟨u, _ | ⟨v, _ | _⟩⟩ <;> simp at hsz
    exact ⟨u, v, rfl⟩
  have hcs : (Value.agg #[c0, c1]).cells.toList = [c0, c1] := by simp [Value.cells]
  rw [hcs] at hf
  obtain ⟨xs, m, _, _, hcl, hxl, hg⟩ := DataW.trod_struct he hf
  obtain ⟨o0, k0⟩ := Go.Deep.hone_of hone 0 f0 rfl
  obtain ⟨o1, k1⟩ := Go.Deep.hone_of hone 1 f1 rfl
  have g0 := hg 0 f0 rfl
  have g1 := hg 1 f1 rfl
  rw [hC] at hcl
  obtain ⟨x0, x1, rfl⟩ : ∃ x0 x1, xs = [x0, x1] := by
    rcases xs with _ | ⟨x0, _ | ⟨x1, _ | _⟩⟩ <;> simp at hxl
    exact ⟨_, _, rfl⟩
  rw [o0, k0] at g0
  rw [o1, k1] at g1
  obtain ⟨a, ha, _, wa⟩ := DataW.trod_int h0 g0
  obtain ⟨b, hb, _, wb⟩ := DataW.trod_int h1 g1
  simp at ha hb
  exact ⟨a, b, by rw [ha, hb], wa, wb⟩
end Go.Proofs.Ytonfbinkjhbpiaa

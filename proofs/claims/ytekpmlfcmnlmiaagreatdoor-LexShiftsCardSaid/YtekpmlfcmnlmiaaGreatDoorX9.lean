/- Where tokens stand: the walk of LexPlaces. Condition: what the package-level variables hold. -/
import Derived.Test.YtekpmlfcmnlmiaaGreatDoorJT
namespace Go.Proofs.YtekpmlfcmnlmiaaGreatDoor
open Go.RowKit
set_option linter.unusedVariables false
set_option linter.unusedSimpArgs false
set_option maxRecDepth 20000
attribute [local irreducible] lexT plcs smeL chkN prT
set_option maxRecDepth 20000 in
theorem text_X (s : ByteArray) : XMeets Tryz.prog 14 [.v (.string s)] (.p (.v (.string (begS 1025 s))) (nlv _)) := by
  refine XMeets.of_X tabX_ok (avs := [.p (.v (.string s)) (nlv _)]) [(0, .p (.v (.string s)) (nlv _))] (by kernel_rfl) Tryz.func14 rfl (by simp [PuL, Pu]) (rfl) rfl rfl ?_
  intro B w0
  conv => whnf
  refine ⟨_, (Int.toNat_of_nonneg (by omega)).symm, ?_⟩
  conv => whnf
  refine ⟨by omega, ?_⟩
  conv => whnf
  refine ⟨by omega, ?_⟩
  conv => whnf
  refine FinG.mk none ?_ (by rintro _ ⟨⟩)
  simp only [outs, List.length_map, List.length_append, List.length_take, List.length_drop, List.length_cons, List.length_nil]
end Go.Proofs.YtekpmlfcmnlmiaaGreatDoor

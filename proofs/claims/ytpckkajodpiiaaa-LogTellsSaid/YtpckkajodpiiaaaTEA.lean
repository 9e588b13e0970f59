/- Logs as trees; logs in memory of their own once more. No condition. -/
import Derived.Test.YtpckkajodpiiaaaTE8
namespace Go.Proofs.Ytpckkajodpiiaaa
open Go.RowKit
set_option linter.unusedVariables false
set_option linter.unusedSimpArgs false

/-- A log: its base, its entries. -/
structure LogA where
  i : Int
  t : Int
  es : List Ent
def logC (b : Bool) (L : LogA) : List TV := [.v (.int .u64 L.i), .v (.int .u64 L.t), .sl b (L.es.map (entC b))]
structure LogA.Ok (L : LogA) : Prop where
  i0 : 0 ≤ L.i
  i1 : L.i < 18446744073709551616
  t0 : 0 ≤ L.t
  t1 : L.t < 18446744073709551616
  w : wfE L.es
  n : L.es.length ≤ 9223372036854775807
theorem few_ok {es : List Ent} (h : wfE es) : okE (fewL es) := ⟨fun e he => by
    obtain ⟨x, hx, rfl⟩ := List.mem_map.1 he
    exact h x (List.mem_of_mem_take hx), by simp [fewL]; omega, fun e he => by
    obtain ⟨x, hx, rfl⟩ := List.mem_map.1 he
    simp [cutE]; omega⟩
theorem few_few (es : List Ent) : fewL (fewL es) = fewL es := by
  have h1 : (fewL es).length ≤ 32 := by simp [fewL]; omega
  unfold fewL at h1 ⊢
  rw [List.take_of_length_le h1, List.map_map]
  refine List.map_congr_left fun e _ => ?_
  simp [cutE, List.take_take]
theorem sameL_self (i t : Int) (es : List Ent) : sameL i t es i t es = true := by simp [sameL, sameE_iff.2]
end Go.Proofs.Ytpckkajodpiiaaa

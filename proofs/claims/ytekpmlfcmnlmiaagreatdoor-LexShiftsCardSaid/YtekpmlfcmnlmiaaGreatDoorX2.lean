/- What is quoted. No condition. -/
import Derived.Test.YtekpmlfcmnlmiaaGreatDoorX1
namespace Go.Proofs.YtekpmlfcmnlmiaaGreatDoor
open Go.RowKit
set_option linter.unusedVariables false
set_option linter.unusedSimpArgs false
set_option maxRecDepth 20000
/-- A byte as it stands in a quoted text. -/
def quoI (c : Int) : List Int := if c = 39 then [39, 39] else [c]
def quoN (l : List Int) : List Int := 39 :: l.flatMap quoI
def quoS (s : ByteArray) : ByteArray := strOfNums (quoN (numS s) ++ [39])
theorem quo_row (l : List Int) {k : Nat} {y : Int} (h : l[k]? = some y) : quoN (l.take (k + 1)) = quoN (l.take k) ++ quoI y := by
  obtain ⟨hk, rfl⟩ := List.getElem?_eq_some_iff.1 h
  unfold quoN
  rw [List.take_succ_eq_append_getElem hk, List.flatMap_append]
  simp only [List.flatMap_cons, List.flatMap_nil, List.append_nil, List.cons_append]
theorem quo_len (l : List Int) (k : Nat) : (quoN (l.take k)).length ≤ 2 * l.length + 1 := by
  have : ∀ m : List Int, (m.flatMap quoI).length ≤ 2 * m.length := by
    intro m
    induction m with
    | nil => simp
    | cons a m ih =>
      rw [List.flatMap_cons, List.length_append, List.length_cons]
      have : (quoI a).length ≤ 2 := by unfold quoI; split <;> simp
      omega
  have h1 := this (l.take k)
  have h2 := List.length_take_le' k l
  simp only [quoN, List.length_cons]
  omega
end Go.Proofs.YtekpmlfcmnlmiaaGreatDoor

/- How an argument that came in reads, in the words of the memory text. No condition. -/
import Derived.Test.YtnlgdcoeooppnaaMem
import Derived.WalkKit
import Derived.ProofKit
import Derived.OpenShut
import Derived.ChangeOld
namespace Go.Proofs.Ytnlgdcoeooppnaa
open Go.ChangeShapes Go.WideShapes Go.ChangeAt Go.RowKit
set_option linter.unusedVariables false

/-- A slice of integers that came in: its elements are l. -/
structure Row (w : World) (k : IntKind) (A : Option Addr) (n cap : Nat) (l : List Int) : Prop where
  sees : Sees w none 1 A n (l.map (Value.int k))
  nc : n ≤ cap
  small : cap ≤ maxLen
  wf : ∀ x ∈ l, (Lit.int k x).wf = true

theorem block_of_cell {w : World} {a : Addr} {v : Value} (h : w.cell? a = some v) : ∃ cur t fz, w.heap[a.block]? = some (.cells cur t fz) := by
  unfold World.cell? at h
  split at h
  · exact ⟨_, _, _, by assumption⟩
  · cases h

theorem open_row {H : Type} {enc : TypeId × Value → H} {P : Program} {w : World} {b0 base : Nat} {held : Bool} {k : IntKind} {t e : TypeId} {v : Value} {d : DataW H} {p : List MemPlace}
    (ht : P.underlying t = some (.slice e)) (he : P.underlying e = some (.int k)) (hc : P.cellsOf e = 1)
    (hv : Value.okWide P w .any b0 t v) (h : DataW.Trod enc P w base (fun _ => true) held t v d p) :
    ∃ A n cap l, v = .slice A n cap ∧ Row w k A n cap l := by
  obtain ⟨a0, len0, cap0, rfl⟩ := okWide_slice ht hv
  obtain ⟨fuel, hf⟩ := h
  rcases open_ints ht he hc hf with ⟨hcs, _⟩ | ⟨x, l, c, zs, hcs, _, hl, hm, hz, _, hcell, hwz⟩
  · simp [Value.cells] at hcs
    obtain ⟨rfl, rfl, rfl⟩ := hcs
    exact ⟨none, 0, 0, [], rfl, ⟨Sees.nil _ _ _, Nat.le_refl _, by simp [maxLen], by simp⟩⟩
  · simp [Value.cells] at hcs
    obtain ⟨rfl, rfl, rfl⟩ := hcs
    simp only [if_true] at hz
    refine ⟨some x, len0, cap0, zs.take len0, rfl, ⟨⟨by simp; omega, by simp, fun ad ha => ?_⟩, hl, hm, fun y hy => hwz y (List.mem_of_mem_take hy)⟩⟩
    injection ha with ha
    subst ha
    refine ⟨fun h0 => ?_, fun j u hu => ?_⟩
    · obtain ⟨cur, t', fz, hb⟩ := block_of_cell (hcell 0 (by omega))
      exact ⟨cur, t', fz, by rwa [addr_block] at hb, by simp⟩
    · rw [List.getElem?_map, List.getElem?_take] at hu
      split at hu
      · have hj : j < zs.length := by omega
        rw [List.getElem?_eq_getElem hj] at hu
        simp at hu
        subst hu
        rw [hcell j hj]
        simp [List.getD, hj]
      · simp at hu

/-- Below at the row's last step, where the call left new blocks alone. -/
theorem wf_u8 {l : List Int} (h : ∀ x ∈ l, (Lit.int .u8 x).wf = true) : ∀ x ∈ l, 0 ≤ x ∧ x < 256 := fun x hx => by
  have := h x hx
  simp [Lit.wf, IntKind.min, IntKind.max, IntKind.signed, IntKind.bits] at this
  omega
end Go.Proofs.Ytnlgdcoeooppnaa

/- How a struct of one field, a slice of integers, reads when it comes in, alone and in a slice. No condition. -/
import Derived.Test.YtonfbinkjhbpiaaRead
import Derived.ChangeSame
namespace Go.Proofs.Ytonfbinkjhbpiaa
open Go.ChangeShapes Go.WideShapes Go.ChangeAt Go.RowKit
set_option linter.unusedVariables false

theorem row_of_one {H : Type} {enc : TypeId × Value → H} {P : Program} {w : World} {base fuel : Nat} {held : Bool} {k : IntKind} {r e : TypeId} {f0 : Field} {v : Value} {x : DataW H × List MemPlace}
    (hr : P.underlying r = some (.struct #[f0])) (hf0 : P.underlying f0.type = some (.slice e)) (he : P.underlying e = some (.int k)) (ho : f0.offset = 0) (hcf : P.cellsOf f0.type = 1) (hc : P.cellsOf e = 1)
    (hf : DataW.trod enc P w base (fun _ => true) held fuel r [v] = some x) :
    ∃ A n cap l, v = .slice A n cap ∧ Row w k A n cap l := by
  obtain ⟨y0, m, _, _, h0⟩ := trod_struct1 hr hf
  rw [ho, hcf] at h0
  obtain ⟨A, n, cap, l, hcs, hrow⟩ := row_of_trod hf0 he hc h0
  injection hcs with hcs
  exact ⟨A, n, cap, l, hcs, hrow⟩

/-- A slice of structs of one such field: its cells. -/
theorem open_confs {H : Type} {enc : TypeId × Value → H} {P : Program} {w : World} {b0 base : Nat} {held : Bool} {k : IntKind} {t r e : TypeId} {f0 : Field} {v : Value} {d : DataW H} {p : List MemPlace}
    (ht : P.underlying t = some (.slice r)) (hr : P.underlying r = some (.struct #[f0])) (hf0 : P.underlying f0.type = some (.slice e)) (he : P.underlying e = some (.int k)) (ho : f0.offset = 0) (hcr : P.cellsOf r = 1) (hcf : P.cellsOf f0.type = 1) (hc : P.cellsOf e = 1)
    (hv : Value.okWide P w .any b0 t v) (h : DataW.Trod enc P w base (fun _ => true) held t v d p) :
    ∃ A n cap vs, v = .slice A n cap ∧ RowsOf w k A n cap vs := by
  obtain ⟨a0, len0, cap0, rfl⟩ := okWide_slice ht hv
  obtain ⟨fuel, hf⟩ := h
  obtain ⟨A, n, cap, vs, hcs, hnc, hsm, hs, hel⟩ := open_elems ht hcr (by omega) hf
  simp [Value.cells] at hcs
  obtain ⟨rfl, rfl, rfl⟩ := hcs
  refine ⟨_, _, _, vs, rfl, ⟨hs, hnc, hsm, fun u hu => ?_⟩⟩
  obtain ⟨i, hi, rfl⟩ := List.mem_iff_getElem.1 hu
  obtain ⟨f, y, hy⟩ := hel i (by have := hs.1; omega)
  have h1 : (vs.drop (i * 1)).take 1 = [vs[i]] := by
    rw [Nat.mul_one, List.drop_eq_getElem_cons hi]; rfl
  rw [h1] at hy
  exact row_of_one hr hf0 he ho hcf hc hy

/-- Such a struct alone. -/
theorem open_conf {H : Type} {enc : TypeId × Value → H} {P : Program} {w : World} {b0 base : Nat} {held : Bool} {k : IntKind} {r e : TypeId} {f0 : Field} {v : Value} {d : DataW H} {p : List MemPlace}
    (hr : P.underlying r = some (.struct #[f0])) (hf0 : P.underlying f0.type = some (.slice e)) (he : P.underlying e = some (.int k)) (ho : f0.offset = 0) (hcr : P.cellsOf r = 1) (hcf : P.cellsOf f0.type = 1) (hc : P.cellsOf e = 1)
    (hv : Value.okWide P w .any b0 r v) (h : DataW.Trod enc P w base (fun _ => true) held r v d p) :
    ∃ A n cap l, v = .agg #[.slice A n cap] ∧ Row w k A n cap l := by
  obtain ⟨cs, rfl, hsz⟩ := okWide_struct hr hv
  rw [hcr] at hsz
  obtain ⟨fuel, hf⟩ := h
  obtain ⟨u, rfl⟩ : ∃ u, cs = #[u] := by
    obtain ⟨l⟩ := cs
    rcases l with _ | ⟨u, _ | _⟩ <;> simp at hsz
    exact ⟨u, rfl⟩
  have hcs : (Value.agg #[u]).cells.toList = [u] := by simp [Value.cells]
  rw [hcs] at hf
  obtain ⟨A, n, cap, l, rfl, hrow⟩ := row_of_one hr hf0 he ho hcf hc hf
  exact ⟨A, n, cap, l, rfl, hrow⟩

theorem trod_array2 {H : Type} {enc : TypeId × Value → H} {P : Program} {w : World} {base : Nat} {spare : Nat → Bool} {held : Bool} {t e : TypeId} {fuel : Nat} {c0 c1 : Value} {x : DataW H × List MemPlace} (ht : P.underlying t = some (.array 2 e)) (hce : P.cellsOf e = 1)
    (h : DataW.trod enc P w base spare held fuel t [c0, c1] = some x) :
    ∃ y0 y1 n, DataW.trod enc P w base spare held n e [c0] = some y0 ∧ DataW.trod enc P w base spare held n e [c1] = some y1 := by
  cases fuel with
  | zero => simp [DataW.trod] at h
  | succ n =>
    unfold DataW.trod at h
    rw [ht] at h
    have r2 : List.range 2 = [0, 1] := rfl
    simp [r2, hce] at h
    obtain ⟨_, h⟩ := h
    cases h0 : DataW.trod enc P w base spare held n e [c0] with
    | none => simp [h0] at h
    | some y0 =>
      cases h1 : DataW.trod enc P w base spare held n e [c1] with
      | none => simp [h0, h1] at h
      | some y1 => exact ⟨y0, y1, n, h0, h1⟩

/-- Two such slices in an array. -/
theorem open_two {H : Type} {enc : TypeId × Value → H} {P : Program} {w : World} {b0 base : Nat} {held : Bool} {k : IntKind} {t r e : TypeId} {v : Value} {d : DataW H} {p : List MemPlace}
    (ht : P.underlying t = some (.array 2 r)) (hr : P.underlying r = some (.slice e)) (he : P.underlying e = some (.int k)) (hct : P.cellsOf t = 2) (hcr : P.cellsOf r = 1) (hc : P.cellsOf e = 1)
    (hv : Value.okWide P w .any b0 t v) (h : DataW.Trod enc P w base (fun _ => true) held t v d p) :
    ∃ A n cap l B m dap l', v = .agg #[.slice A n cap, .slice B m dap] ∧ Row w k A n cap l ∧ Row w k B m dap l' := by
  simp only [Value.okWide, ht] at hv
  obtain ⟨cs, rfl, hsz, _⟩ := hv
  rw [hct] at hsz
  obtain ⟨fuel, hf⟩ := h
  obtain ⟨u, u', rfl⟩ : ∃ u u', cs = #[u, u'] := by
    obtain ⟨l⟩ := cs
    rcases l with _ | ⟨u, _ | ⟨u', _ | _⟩⟩ <;> simp at hsz
    exact ⟨u, u', rfl⟩
  have hcs : (Value.agg #[u, u']).cells.toList = [u, u'] := by simp [Value.cells]
  rw [hcs] at hf
  obtain ⟨y0, y1, f, h0, h1⟩ := trod_array2 ht hcr hf
  obtain ⟨A, n, cap, l, e0, w0⟩ := row_of_trod hr he hc h0
  obtain ⟨B, m, dap, l', e1, w1⟩ := row_of_trod hr he hc h1
  injection e0 with e0
  injection e1 with e1
  subst e0
  subst e1
  exact ⟨A, n, cap, l, B, m, dap, l', rfl, w0, w1⟩
end Go.Proofs.Ytonfbinkjhbpiaa

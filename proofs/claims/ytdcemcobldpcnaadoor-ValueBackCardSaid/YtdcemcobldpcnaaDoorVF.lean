/- The tables of ops as the rows list them: what they hold. Condition: what is listed. -/
import Derived.Test.YtdcemcobldpcnaaDoorRows
import Derived.Test.YtdcemcobldpcnaaDoorT1
import Derived.LaidMore
import Derived.OpenShut
import Derived.ProofKit
import Derived.Stop.Joined
namespace Go.Proofs.YtdcemcobldpcnaaDoor
open Go.ChangeShapes Go.WideShapes Go.ChangeAt Go.RowKit
set_option linter.unusedVariables false
set_option linter.unusedSimpArgs false

abbrev laidL {H : Type} : List (String × DataW H) := [("tallyhouse/value.tests", Rows.laid_tallyhouse_value_tests), ("tallyhouse/value.reckons", Rows.laid_tallyhouse_value_reckons)]
theorem door_met (os : Os) (args : Array Value) : laidMetH Tryd.prog laidL ((World.doorLaid Tryd.prog 400 os).forCall (fun _ _ => 0) ⟨#[], args, []⟩).memory :=
  laidMetH_of_parts3 (fuel := 8) (laidMet_of_run' 8 (by kernel_rfl) (by kernel_rfl)) (by kernel_rfl) (by kernel_rfl)

theorem nilFunc_of_trod {P : Program} {w : World} {base : Nat} {sp : Nat → Bool} {fuel : Nat} {t : TypeId} {ps rs : Array TypeId} {va : Bool} {v : Value} {q : List MemPlace}
    (ht : P.underlying t = some (.func ps rs va)) (h : DataW.trod (funcToken P) P w base sp true fuel t [v] = some (.nil, q)) : v = .nilFunc := by
  cases fuel with
  | zero => simp [DataW.trod] at h
  | succ n => cases v <;> simp [DataW.trod, ht] at h; rfl
/-- An array of functions, cell for cell. -/
theorem open_funcs {P : Program} {w : World} {base : Nat} {sp : Nat → Bool} {fuel : Nat} {t e : TypeId} {n : Nat} {ds : List (DataW (List UInt8))} {cs : List Value} {q : List MemPlace}
    (ht : P.underlying t = some (.array n e)) (hc : P.cellsOf e = 1) (hn : P.cellsOf t = n) (h : DataW.trod (funcToken P) P w base sp true fuel t cs = some (.agg ds, q)) :
    ∀ (i : Nat) (d : DataW (List UInt8)), ds[i]? = some d → ∃ v m q, cs[i]? = some v ∧ DataW.trod (funcToken P) P w base sp true m e [v] = some (d, q) := by
  obtain ⟨xs, m, rfl, hx, hl, hxl, hel⟩ := DataW.trod_array ht h
  simp only [Prod.mk.injEq, DataW.agg.injEq] at hx
  intro i d hd
  rw [hx.1, List.getElem?_map] at hd
  obtain ⟨⟨d', q'⟩, hxi, rfl⟩ := Option.map_eq_some_iff.1 hd
  have hi : i < n := by have := (List.getElem?_eq_some_iff.1 hxi).1; omega
  have h1 := hel i hi
  rw [hc, Nat.mul_one, hxi] at h1
  have hic : i < cs.length := by omega
  have e1 : (cs.drop i).take 1 = [cs[i]] := by
    rw [List.drop_eq_getElem_cons hic]; rfl
  rw [e1] at h1
  exact ⟨cs[i], m, q', List.getElem?_eq_getElem hic, h1⟩

theorem cell_some_lt {w : World} {g j : Nat} {x : Value} (h : w.cell? ⟨g, j, none⟩ = some x) : g < w.heap.size := by
  rcases Nat.lt_or_ge g w.heap.size with h1 | h1
  · exact h1
  · simp [World.cell?, Array.getElem?_eq_none h1] at h
theorem glob_of {W : World} {B g : Nat} {vs : List Value} (hv : 0 < vs.length) (h : ∀ j x, vs[j]? = some x → W.cell? ⟨g, j, none⟩ = some x) : g < W.heap.size ∧ ∀ j x, vs[j]? = some x → W.cell? ⟨g, j, none⟩ = some x :=
  ⟨cell_some_lt (h 0 _ (List.getElem?_eq_getElem hv)), h⟩

/-- A package-level variable holds these cells. -/
def g_ok (W : World) (g : Nat) (vs : List Value) : Prop := ∀ j x, vs[j]? = some x → W.cell? ⟨g, j, none⟩ = some x
theorem g_ok.mk {W : World} {n : String} {g : Nat} {cs : Array Value} {vs : List Value} (hg : Tryd.prog.globalNamed n = some g) (hv : W.var? Tryd.prog n = some cs) (h : ∀ (j : Nat) (x : Value), vs[j]? = some x → cs.toList[j]? = some x) : g_ok W g vs := fun j x hx => by
  have h1 := World.var?_cell hg hv j
  rw [h1, ← Array.getElem?_toList]
  exact h j x hx
theorem tests_at {W : World} (h : laidMetH Tryd.prog laidL W) : ∀ vs, gl 0 = some vs → g_ok W 0 vs := by
  intro vs hvs
  obtain ⟨g, t, cs, fuel, p, hg, ht, hv, hd⟩ := h.funcs (n := "tallyhouse/value.tests") (List.mem_cons_self ..)
  obtain rfl := Option.some.inj ((show Tryd.prog.globalNamed "tallyhouse/value.tests" = some 0 by kernel_rfl).symm.trans hg)
  obtain rfl := Option.some.inj ((show (Tryd.prog.globals[0]?).map (·.type) = some 61 by kernel_rfl).symm.trans ht)
  have hel := open_funcs Tryd.underlying61 (by kernel_rfl) (by kernel_rfl) hd
  obtain ⟨v0, m0, q0, hc0, hr0⟩ := hel 0 _ rfl
  obtain rfl := nilFunc_of_trod Tryd.underlying60 hr0
  obtain ⟨v1, m1, q1, hc1, hr1⟩ := hel 1 _ rfl
  obtain rfl := func_of_trod (f0 := 87) Tryd.underlying60 (by kernel_rfl) hr1
  obtain ⟨v2, m2, q2, hc2, hr2⟩ := hel 2 _ rfl
  obtain rfl := func_of_trod (f0 := 88) Tryd.underlying60 (by kernel_rfl) hr2
  obtain ⟨v3, m3, q3, hc3, hr3⟩ := hel 3 _ rfl
  obtain rfl := func_of_trod (f0 := 89) Tryd.underlying60 (by kernel_rfl) hr3
  obtain ⟨v4, m4, q4, hc4, hr4⟩ := hel 4 _ rfl
  obtain rfl := func_of_trod (f0 := 90) Tryd.underlying60 (by kernel_rfl) hr4
  obtain ⟨v5, m5, q5, hc5, hr5⟩ := hel 5 _ rfl
  obtain rfl := func_of_trod (f0 := 91) Tryd.underlying60 (by kernel_rfl) hr5
  obtain ⟨v6, m6, q6, hc6, hr6⟩ := hel 6 _ rfl
  obtain rfl := func_of_trod (f0 := 92) Tryd.underlying60 (by kernel_rfl) hr6
  obtain rfl := Option.some.inj hvs
  refine g_ok.mk hg hv ?_
  intro j x hx
  match j, hx with
  | 0, hx => exact hc0.trans hx
  | 1, hx => exact hc1.trans hx
  | 2, hx => exact hc2.trans hx
  | 3, hx => exact hc3.trans hx
  | 4, hx => exact hc4.trans hx
  | 5, hx => exact hc5.trans hx
  | 6, hx => exact hc6.trans hx
  | (k + 7), hx => simp at hx
theorem reckons_at {W : World} (h : laidMetH Tryd.prog laidL W) : ∀ vs, gl 1 = some vs → g_ok W 1 vs := by
  intro vs hvs
  obtain ⟨g, t, cs, fuel, p, hg, ht, hv, hd⟩ := h.funcs (n := "tallyhouse/value.reckons") (List.mem_cons_of_mem _ (List.mem_cons_self ..))
  obtain rfl := Option.some.inj ((show Tryd.prog.globalNamed "tallyhouse/value.reckons" = some 1 by kernel_rfl).symm.trans hg)
  obtain rfl := Option.some.inj ((show (Tryd.prog.globals[1]?).map (·.type) = some 64 by kernel_rfl).symm.trans ht)
  have hel := open_funcs Tryd.underlying64 (by kernel_rfl) (by kernel_rfl) hd
  obtain ⟨v0, m0, q0, hc0, hr0⟩ := hel 0 _ rfl
  obtain rfl := nilFunc_of_trod Tryd.underlying63 hr0
  obtain ⟨v1, m1, q1, hc1, hr1⟩ := hel 1 _ rfl
  obtain rfl := func_of_trod (f0 := 93) Tryd.underlying63 (by kernel_rfl) hr1
  obtain ⟨v2, m2, q2, hc2, hr2⟩ := hel 2 _ rfl
  obtain rfl := func_of_trod (f0 := 94) Tryd.underlying63 (by kernel_rfl) hr2
  obtain ⟨v3, m3, q3, hc3, hr3⟩ := hel 3 _ rfl
  obtain rfl := func_of_trod (f0 := 95) Tryd.underlying63 (by kernel_rfl) hr3
  obtain ⟨v4, m4, q4, hc4, hr4⟩ := hel 4 _ rfl
  obtain rfl := func_of_trod (f0 := 96) Tryd.underlying63 (by kernel_rfl) hr4
  obtain ⟨v5, m5, q5, hc5, hr5⟩ := hel 5 _ rfl
  obtain rfl := func_of_trod (f0 := 97) Tryd.underlying63 (by kernel_rfl) hr5
  obtain rfl := Option.some.inj hvs
  refine g_ok.mk hg hv ?_
  intro j x hx
  match j, hx with
  | 0, hx => exact hc0.trans hx
  | 1, hx => exact hc1.trans hx
  | 2, hx => exact hc2.trans hx
  | 3, hx => exact hc3.trans hx
  | 4, hx => exact hc4.trans hx
  | 5, hx => exact hc5.trans hx
  | (k + 6), hx => simp at hx
theorem gl_of {W : World} (h : laidMetH Tryd.prog laidL W) : GlB W.heap.size W := by
  constructor
  intro g vs hg
  have key : g_ok W g vs ∧ 0 < vs.length := by
    match g, hg with
    | 0, hg => exact ⟨tests_at h vs hg, by cases hg; decide⟩
    | 1, hg => exact ⟨reckons_at h vs hg, by cases hg; decide⟩
    | (k + 2), hg => simp [gl] at hg
  exact glob_of (B := 0) key.2 key.1
end Go.Proofs.YtdcemcobldpcnaaDoor

/- The package-level variables that lex's rows list: what they hold. Condition: what is listed. -/
import Derived.Test.YtekpmlfcmnlmiaaGreatDoorRows
import Derived.Test.YtekpmlfcmnlmiaaGreatDoorOpen
import Derived.Test.YtekpmlfcmnlmiaaGreatDoorJB
import Derived.LaidMore
import Derived.LaidHandle
import Derived.Lay
import Derived.Lib.LaidU8
import Derived.Lib.LaidTab
import Derived.OpenShut
import Derived.ProofKit
import Derived.Stop.Joined
namespace Go.Proofs.YtekpmlfcmnlmiaaGreatDoor
open Go.ChangeShapes Go.WideShapes Go.ChangeAt Go.RowKit
set_option linter.unusedVariables false
set_option linter.unusedSimpArgs false

def laidL : List (String × DataW Unit) := Rows.lexPrintsRow.laid
theorem laid_plain {W : World} (h : laidMetH Tryz.prog laidL W) : laidMet Tryz.prog laidL W := by
  have e : laidL.filter (fun x => x.2.handleName?.isSome) = [] := by kernel_rfl
  unfold laidMetH at h
  rw [e] at h
  exact h
theorem tab_at {W : World} (h : laidMet Tryz.prog laidL W) : ∃ ty fr, W.heap[1]? = some (.cells (Lib.pow10Tab.map fun z => Value.int .u64 z).toArray ty fr) := by
  have hm : ("internal/strconv.uint64pow10", (Lib.tabData .u64 Lib.pow10Tab : DataW Unit)) ∈ laidL := by
    have e : (laidL.drop 2).head? = some ("internal/strconv.uint64pow10", (Lib.tabData .u64 Lib.pow10Tab : DataW Unit)) := by kernel_rfl
    exact List.mem_of_mem_drop (List.mem_of_mem_head? e)
  obtain ⟨g, t, cs, fuel, p, hg, ht, hv, hd⟩ := Lib.laidMet.reads h hm
  obtain rfl := Option.some.inj ((show Tryz.prog.globalNamed "internal/strconv.uint64pow10" = some 1 by kernel_rfl).symm.trans hg)
  obtain rfl := Option.some.inj ((show (Tryz.prog.globals[1]?).map (·.type) = some 119 by kernel_rfl).symm.trans ht)
  have hc := Lib.cells_of_tab Tryz.underlying119 Tryz.underlying82 (by kernel_rfl) (by kernel_rfl) hd
  unfold World.var? at hv
  rw [hg] at hv
  simp only [Option.bind_some] at hv
  split at hv
  · rename_i cs' ty fr hh
    injection hv with hv
    subst hv
    refine ⟨ty, fr, ?_⟩
    rw [hh, ← hc]
  · cases hv
theorem err_at {W : World} (h : laidMet Tryz.prog laidL W) {n : String} {g0 : Nat} {x : String} {d : DataW Unit} (hm : (n, DataW.iface x d) ∈ laidL) (hg0 : Tryz.prog.globalNamed n = some g0) (ht0 : (Tryz.prog.globals[g0]?).map (·.type) = some 62) : ∃ v, W.cell? ⟨g0, 0, none⟩ = some v ∧ (v = .nilIface ∨ ∃ te pe, v = .iface te pe) := by
  obtain ⟨g, t, cs, fuel, p, hg, ht, hv, hd⟩ := Lib.laidMet.reads h hm
  obtain rfl := Option.some.inj (hg0.symm.trans hg)
  obtain rfl := Option.some.inj (ht0.symm.trans ht)
  obtain ⟨_, u, v, hc, _⟩ := iface_of_trod Tryz.underlying62 hd
  refine ⟨.iface u v, ?_, .inr ⟨u, v, rfl⟩⟩
  have := World.var?_cell hg hv 0
  rw [this, ← Array.getElem?_toList, hc]; rfl
theorem mem_at {n : String} {x : String} {d : DataW Unit} (i : Nat) (h : (laidL.drop i).head? = some (n, DataW.iface x d)) : (n, DataW.iface x d) ∈ laidL := List.mem_of_mem_drop (List.mem_of_mem_head? h)
theorem cell_some_lt {w : World} {g j : Nat} {x : Value} (h : w.cell? ⟨g, j, none⟩ = some x) : g < w.heap.size := by
  rcases Nat.lt_or_ge g w.heap.size with h1 | h1
  · exact h1
  · simp [World.cell?, Array.getElem?_eq_none h1] at h
theorem gl_of {W : World} (h0 : laidMetH Tryz.prog laidL W) : GlB W.heap.size W := by
  have h := laid_plain h0
  refine ⟨fun g vs hg => (by cases hg), fun g cs hg => ?_, fun g hg => ?_⟩
  · unfold glO at hg
    split at hg
    · rename_i hb
      have hb := Nat.eq_of_beq_eq_true hb
      subst hb
      injection hg with hg
      subst hg
      obtain ⟨ty, fr, h1⟩ := tab_at h
      exact ⟨(Array.getElem?_eq_some_iff.1 h1).1, ty, fr, h1⟩
    · cases hg
  · unfold glI at hg
    rw [Bool.or_eq_true] at hg
    rcases hg with hg | hg
    · have hb := Nat.eq_of_beq_eq_true hg
      subst hb
      obtain ⟨v, h1, h2⟩ := err_at h (mem_at 5 (x := "*errors.errorString") (d := .ptr (.agg [.lit (.string [105, 110, 118, 97, 108, 105, 100, 32, 115, 121, 110, 116, 97, 120])])) (by kernel_rfl)) (n := "strconv.ErrSyntax") (by kernel_rfl) (by kernel_rfl)
      exact ⟨cell_some_lt h1, v, h1, h2⟩
    · have hb := Nat.eq_of_beq_eq_true hg
      subst hb
      obtain ⟨v, h1, h2⟩ := err_at h (mem_at 4 (x := "*errors.errorString") (d := .ptr (.agg [.lit (.string [118, 97, 108, 117, 101, 32, 111, 117, 116, 32, 111, 102, 32, 114, 97, 110, 103, 101])])) (by kernel_rfl)) (n := "strconv.ErrRange") (by kernel_rfl) (by kernel_rfl)
      exact ⟨cell_some_lt h1, v, h1, h2⟩
theorem lay_met (os : Os) (args : Array Value) : laidMetH Tryz.prog laidL ((World.laidAll Tryz.prog os laidL).forCall (fun _ _ => 0) ⟨#[], args, []⟩).memory := by
  rw [MakeChecks.laidMetH_plain _ _ _ (by kernel_rfl)]
  exact laidMet_laidAll _ (by kernel_rfl) (by kernel_rfl)
end Go.Proofs.YtekpmlfcmnlmiaaGreatDoor

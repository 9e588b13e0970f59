/- How a slice of matches reads when it comes in. No condition. -/
import Derived.Test.YtonfbinkjhbpiaaRead2
import Derived.Test.YtonfbinkjhbpiaaA1
namespace Go.Proofs.Ytonfbinkjhbpiaa
open Go.ChangeShapes Go.WideShapes Go.ChangeAt Go.RowKit
set_option linter.unusedVariables false

structure MatchesOf (w : World) (A : Option Addr) (n cap : Nat) (ps : List (Int × Int)) : Prop where
  sees : Sees w none 2 A n (pm ps)
  len : ps.length = n
  nc : n ≤ cap
  small : cap ≤ maxLen
  wf : ∀ p ∈ ps, (Lit.int .i64 p.1).wf = true ∧ (Lit.int .u64 p.2).wf = true
theorem pm_take (ps : List (Int × Int)) (k : Nat) : (pm ps).take (k * 2) = pm (ps.take k) := by
  induction ps generalizing k with
  | nil => simp [pm]
  | cons p ps ih =>
    cases k with
    | zero => simp [pm]
    | succ k =>
      have := ih k
      unfold pm at this ⊢
      rw [List.take_succ_cons, List.flatMap_cons, List.flatMap_cons, ← this, show (k + 1) * 2 = k * 2 + 2 by omega]
      rfl

theorem matches_list : ∀ (n : Nat) (vs : List Value), vs.length = n * 2 → (∀ i, i < n → ∃ a b : Int, (vs.drop (i * 2)).take 2 = [.int .i64 a, .int .u64 b] ∧ (Lit.int .i64 a).wf = true ∧ (Lit.int .u64 b).wf = true) →
    ∃ ps : List (Int × Int), vs = pm ps ∧ ps.length = n ∧ ∀ p ∈ ps, (Lit.int .i64 p.1).wf = true ∧ (Lit.int .u64 p.2).wf = true
  | 0, vs, hl, _ => ⟨[], by simpa [pm] using hl, rfl, by simp⟩
  | n + 1, vs, hl, h => by
    obtain ⟨a, b, h0, wa, wb⟩ := h 0 (by omega)
    simp only [Nat.zero_mul, List.drop_zero] at h0
    obtain ⟨ps, h1, h2, h3⟩ := matches_list n (vs.drop 2) (by simp; omega) (fun i hi => by
      obtain ⟨a, b, h⟩ := h (i + 1) (by omega)
      refine ⟨a, b, ?_, h.2⟩
      rw [List.drop_drop, show 2 + i * 2 = (i + 1) * 2 by omega]
      exact h.1)
    refine ⟨(a, b) :: ps, ?_, by simp [h2], fun p hp => ?_⟩
    · unfold pm at h1 ⊢
      rw [List.flatMap_cons, ← h1, ← h0, List.take_append_drop]
    · rcases List.mem_cons.1 hp with rfl | hp
      · exact ⟨wa, wb⟩
      · exact h3 p hp

theorem open_matches {H : Type} {enc : TypeId × Value → H} {P : Program} {w : World} {b0 base : Nat} {held : Bool} {t e : TypeId} {f0 f1 : Field} {v : Value} {d : DataW H} {p : List MemPlace}
    (ht : P.underlying t = some (.slice e)) (he : P.underlying e = some (.struct #[f0, f1])) (hone : Go.Deep.oneCellFields P #[f0, f1] = true) (hC : P.cellsOf e = 2)
    (h0 : P.underlying f0.type = some (.int .i64)) (h1 : P.underlying f1.type = some (.int .u64))
    (hv : Value.okWide P w .any b0 t v) (h : DataW.Trod enc P w base (fun _ => true) held t v d p) :
    ∃ A n cap ps, v = .slice A n cap ∧ MatchesOf w A n cap ps := by
  obtain ⟨a0, len0, cap0, rfl⟩ := okWide_slice ht hv
  obtain ⟨fuel, hf⟩ := h
  obtain ⟨A, n, cap, vs, hcs, hnc, hsm, hs, hel⟩ := open_elems ht hC (by omega) hf
  simp [Value.cells] at hcs
  obtain ⟨rfl, rfl, rfl⟩ := hcs
  obtain ⟨ps, rfl, hl, hw⟩ := matches_list len0 vs hs.1 (fun i hi => by
    obtain ⟨f, y, hy⟩ := hel i hi
    obtain ⟨xs, m, _, _, hcl, hxl, hg⟩ := DataW.trod_struct he hy
    obtain ⟨o0, k0⟩ := Go.Deep.hone_of hone 0 f0 rfl
    obtain ⟨o1, k1⟩ := Go.Deep.hone_of hone 1 f1 rfl
    have g0 := hg 0 f0 rfl
    have g1 := hg 1 f1 rfl
    rw [hC] at hcl
    obtain ⟨x0, x1, rfl⟩ : ∃ x0 x1, xs = [x0, x1] := by
      rcases xs with _ | ⟨x0, _ | ⟨x1, _ | _⟩⟩ <;> simp at hxl
      exact ⟨_, _, rfl⟩
    obtain ⟨c0, c1, hq⟩ : ∃ c0 c1, (vs.drop (i * 2)).take 2 = [c0, c1] := by
      generalize (vs.drop (i * 2)).take 2 = q at hcl
      rcases q with _ | ⟨c0, _ | ⟨c1, _ | _⟩⟩ <;> simp at hcl
      exact ⟨_, _, rfl⟩
    rw [hq, o0, k0] at g0
    rw [hq, o1, k1] at g1
    obtain ⟨a, ha, _, wa⟩ := DataW.trod_int h0 g0
    obtain ⟨b, hb, _, wb⟩ := DataW.trod_int h1 g1
    simp at ha hb
    exact ⟨a, b, by rw [hq, ha, hb], wa, wb⟩)
  exact ⟨_, _, _, ps, rfl, ⟨hs, hl, hnc, hsm, hw⟩⟩
end Go.Proofs.Ytonfbinkjhbpiaa

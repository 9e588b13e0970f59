/- What is cut off a log, and what is given up: the plain law. No condition. -/
import Derived.Test.YtpckkajodpiiaaaTP1
namespace Go.Proofs.Ytpckkajodpiiaaa
open Go.RowKit
set_option linter.unusedVariables false
set_option linter.unusedSimpArgs false
set_option linter.unusedSectionVars false

theorem standB_drop (a : List Ent) (t : Int) (k : Nat) (hk : k ≤ a.length) (h : standB a t = true) : standB (a.drop k) (tm t a k) = true := by
  have h1 := standB_app (a.drop k) (a.take k) t
  rw [List.take_append_drop, h] at h1
  have h2 := h1.symm
  simp only [Bool.and_eq_true] at h2
  have h3 : tm t (a.take k) (a.take k).length = tm t a k := by
    have h4 : (a.take k).length = k := by simp; omega
    have h5 := tm_take (t := t) (b := []) (Nat.le_refl k) hk
    rw [List.append_nil] at h5
    rw [h4, h5]
  rw [← h3]
  exact h2.2
theorem stand_pos : ∀ (a : List Ent) (t : Int) (k : Nat), standB a t = true → k < a.length → 0 < tm t a (k + 1)
  | [], _, _, _, hk => by simp at hk
  | e :: a, t, k, h, hk => by
    rw [standB] at h
    simp only [Bool.and_eq_true, decide_eq_true_eq] at h
    cases k with
    | zero =>
      have h1 := h.1.1
      simp only [wellE, wellB, Bool.and_eq_true, decide_eq_true_eq] at h1
      show 0 < e.T
      exact h1.1.2
    | succ k => rw [tm_cons]; exact stand_pos a e.T k h.2 (by simpa using hk)
section
variable {i t : Int} {es : List Ent} (hi0 : 0 ≤ i) (hm : mayB i t es = true)
include hi0 hm
/-- A part at the head. -/
theorem may_head {k : Nat} (hk : k ≤ es.length) : mayB i t (es.take k) = true := by
  obtain ⟨m1, m2, m3, m4, m5⟩ := may_iff.1 hm
  have h1 : (es.take k).length = k := by simp; omega
  exact may_iff.2 ⟨m1, by omega, m3, by omega, standB_take _ _ _ m5⟩
/-- A part at the end. -/
theorem may_tail {k : Nat} (hk : k ≤ es.length) (ht0 : 0 ≤ t) : mayB (i + k) (tm t es k) (es.drop k) = true := by
  obtain ⟨m1, m2, m3, m4, m5⟩ := may_iff.1 hm
  have h1 : (es.drop k).length = es.length - k := by simp
  refine may_iff.2 ⟨?_, by omega, by omega, by omega, standB_drop _ _ _ hk m5⟩
  cases k with
  | zero => simpa [tm] using m1
  | succ k =>
    have h2 := stand_pos es t k m5 (by omega)
    exact propext ⟨fun _ => h2, fun _ => by omega⟩
theorem spot_in {k : Nat} (hk : k ≤ es.length) : spotN i t es k = (i + k, tm t es k) := by
  obtain ⟨hr, _⟩ := may_room hm
  rw [spot_tm]
  simp only [Prod.mk.injEq, and_true]
  omega
/-- Is there a spot of an index? -/
theorem comp_cases (x : Int) : (∃ k : Nat, k ≤ es.length ∧ i + k = x ∧ compE i t es x = 0 ∧ ofN i x es.length = k ∧ termN i t es x = (tm t es k, true)) ∨ (compE i t es x = 4 ∧ termN i t es x = (0, false)) := by
  obtain ⟨hr, _⟩ := may_room hm
  rcases ofN_cases i x es.length with ⟨k, h2, h3, h4, h5⟩ | ⟨h2, h3⟩
  · left
    have hx : i + k = x := by omega
    refine ⟨k, h2, hx, by rw [compE, if_pos hm, h3, if_pos (by omega)], h3, ?_⟩
    rw [← hx]
    exact term_at hi0 hm h2
  · right
    refine ⟨by rw [compE, if_pos hm, h2, if_neg (by omega)], by simp [termN, h2]⟩
end
end Go.Proofs.Ytpckkajodpiiaaa

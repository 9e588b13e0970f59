/- The plain law of the conf layer's dropping. No condition. -/
import Derived.Test.YtonfbinkjhbpiaaC21
namespace Go.Proofs.Ytonfbinkjhbpiaa
open Go.RowKit Go.Shelf
set_option linter.unusedVariables false

theorem memS_nodup (X : Nat) : (memS X).Nodup := List.Nodup.sublist List.filter_sublist (by decide)
theorem butL_mem (l : List Int) (m : Int) : m ∉ butL l m := by
  unfold butL
  simp
theorem butL_all {l : List Int} {m : Int} (h : m ∉ l) : butL l m = l := by
  unfold butL
  rw [List.filter_eq_self]
  intro x hx
  have : x ≠ m := fun e => h (e ▸ hx)
  simpa using this
theorem butL_nil {l : List Int} {m : Int} (hd : l.Nodup) (hm : m ∈ l) : butL l m = [] ↔ l.length ≤ 1 := by
  unfold butL
  rw [List.filter_eq_nil_iff]
  constructor
  · intro h
    match l, hd, h with
    | [], _, _ => simp
    | [x], _, _ => simp
    | x :: y :: t, hd, h =>
      have h1 := h x (by simp)
      have h2 := h y (by simp)
      simp at h1 h2
      rw [h1, h2] at hd
      simp at hd
  · intro h
    match l, hm, h with
    | [x], hm, _ =>
      simp at hm
      simp [hm]

/-- What dropping says. -/
theorem drop_law (l : List Int) (m : Int) : dropE l m = (if rightB l = false then 180 else if m ∉ l then 4 else if l.length ≤ 1 then 180 else 0) ∧
    dropL l m = (if rightB l = true ∧ m ∈ l ∧ 1 < l.length then butL l m else []) := by
  cases hr : rightB l with
  | false => 
    have h : dropE l m = 180 := by unfold dropE; rw [hr]; rfl
    refine ⟨by rw [h]; rfl, ?_⟩
    unfold dropL
    rw [h]
    simp
  | true =>
    have hX := ofS_lt l
    have eX := ofS_even l
    have hl := (rightB_of hr).2
    have hd : l.Nodup := by rw [hl]; exact memS_nodup _
    by_cases hm : m ∈ l
    · have hi := right_mem hr hm
      have hml := memS_less (ofS l) m hX hi
      rw [← hl] at hml
      have h1 : lessN (ofS l) m ≠ ofS l := by
        intro e
        rw [e, ← hl] at hml
        have := butL_mem l m
        rw [← hml] at this
        exact this hm
      by_cases h2 : l.length ≤ 1
      · have h0 : lessN (ofS l) m = 0 := memS_inj (lessN_lt _ _ hX) (by omega) (lessN_even _ _ eX) rfl (by rw [hml, memS_zero]; exact (butL_nil hd hm).2 h2)
        have h : dropE l m = 180 := by unfold dropE; rw [hr, askX_right hr, if_neg (by simp), if_neg h1, if_pos h0]
        refine ⟨by rw [h]; simp [hm, h2], ?_⟩
        unfold dropL
        rw [h, if_neg (by omega), if_neg (by omega)]
      · have h0 : lessN (ofS l) m ≠ 0 := by
          intro e
          rw [e, memS_zero] at hml
          exact h2 ((butL_nil hd hm).1 hml.symm)
        have h : dropE l m = 0 := by unfold dropE; rw [hr, askX_right hr, if_neg (by simp), if_neg h1, if_neg h0]
        refine ⟨by rw [h]; simp [hm, h2], ?_⟩
        unfold dropL
        rw [h, askX_right hr, if_pos rfl, if_pos ⟨rfl, hm, by omega⟩, hml]
    · have h1 : lessN (ofS l) m = ofS l := by
        by_cases hi : 1 ≤ m ∧ m ≤ 5
        · refine memS_inj (lessN_lt _ _ hX) hX (lessN_even _ _ eX) eX ?_
          rw [memS_less (ofS l) m hX hi, ← hl, butL_all hm]
        · exact lessN_out _ _ hX hi
      have h : dropE l m = 4 := by unfold dropE; rw [hr, askX_right hr, if_neg (by simp), if_pos h1]
      refine ⟨by rw [h]; simp [hm], ?_⟩
      unfold dropL
      rw [h, if_neg (by omega), if_neg (fun h => hm h.2.1)]
end Go.Proofs.Ytonfbinkjhbpiaa

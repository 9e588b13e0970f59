/- The plain laws of the conf layer's moves: what adding, dropping and a step say. No condition. -/
import Derived.Test.YtonfbinkjhbpiaaC20
namespace Go.Proofs.Ytonfbinkjhbpiaa
open Go.RowKit Go.Shelf
set_option linter.unusedVariables false

theorem oneN_in {m : Int} (h : 1 ≤ m ∧ m ≤ 5) : oneN m = 2 ^ m.toNat ∧ m.toNat < 6 := by
  have hm : m = 1 ∨ m = 2 ∨ m = 3 ∨ m = 4 ∨ m = 5 := by omega
  rcases hm with rfl | rfl | rfl | rfl | rfl <;> decide
theorem hasB_less (X : Nat) (m x : Int) (hX : X < 64) (h : 1 ≤ m ∧ m ≤ 5) : hasB (lessN X m) x = (hasB X x && (x != m)) := by
  by_cases hx : 1 ≤ x ∧ x ≤ 5
  · rw [hasB_test _ _ hx.1 hx.2, hasB_test _ _ hx.1 hx.2]
    unfold lessN
    rw [(oneN_in h).1, lessN_test _ _ _ hX (oneN_in h).2]
    congr 1
    by_cases e : x = m
    · subst e; simp
    · have : ¬ m.toNat = x.toNat := by omega
      have e2 : (x != m) = true := by simp [e]
      rw [e2]
      simp [this]
  · rw [hasB_out _ hx, hasB_out _ hx]; rfl
theorem lessN_out (X : Nat) (m : Int) (hX : X < 64) (h : ¬ (1 ≤ m ∧ m ≤ 5)) : lessN X m = X := by
  unfold lessN
  rw [oneN_out h]
  have : ∀ X ∈ List.range 64, X &&& (18446744073709551615 - 0) = X := by decide +kernel
  exact this X (List.mem_range.2 hX)
theorem memS_less (X : Nat) (m : Int) (hX : X < 64) (h : 1 ≤ m ∧ m ≤ 5) : memS (lessN X m) = butL (memS X) m := by
  unfold memS butL
  rw [List.filter_filter]
  refine List.filter_congr fun x _ => ?_
  rw [hasB_less X m x hX h, Bool.and_comm]
theorem memS_inj {X Y : Nat} (hX : X < 64) (hY : Y < 64) (eX : X % 2 = 0) (eY : Y % 2 = 0) (h : memS X = memS Y) : X = Y := by
  have hb : ∀ m : Int, 1 ≤ m ∧ m ≤ 5 → hasB X m = hasB Y m := fun m hm => by
    have h1 : m ∈ memS X ↔ m ∈ memS Y := by rw [h]
    have hl : m ∈ [(1 : Int), 2, 3, 4, 5] := by simp; omega
    unfold memS at h1
    rw [List.mem_filter, List.mem_filter] at h1
    have h2 : hasB X m = true ↔ hasB Y m = true := ⟨fun k => (h1.1 ⟨hl, k⟩).2, fun k => (h1.2 ⟨hl, k⟩).2⟩
    exact Bool.eq_iff_iff.2 h2
  refine Nat.eq_of_testBit_eq fun j => ?_
  by_cases h0 : j = 0
  · subst h0
    rw [Nat.testBit_zero, Nat.testBit_zero, eX, eY]
  · by_cases h6 : j < 6
    · have := hb j (by omega)
      rw [hasB_test _ _ (by omega) (by omega), hasB_test _ _ (by omega) (by omega)] at this
      simpa using this
    · have p : 64 ≤ 2 ^ j := Nat.pow_le_pow_right (n := 2) (by omega) (show 6 ≤ j by omega)
      rw [Nat.testBit_lt_two_pow (Nat.lt_of_lt_of_le hX p), Nat.testBit_lt_two_pow (Nat.lt_of_lt_of_le hY p)]
theorem lessN_even (X : Nat) (m : Int) (h : X % 2 = 0) : lessN X m % 2 = 0 := and_even _ _ h

/-- What adding says. -/
theorem add_law (l : List Int) (m : Int) : addE l m = (if rightB l = false then 180 else if m ∈ l then 5 else if m < 1 ∨ 5 < m then 2 else 0) ∧
    addL l m = (if rightB l = false ∨ m ∈ l ∨ m < 1 ∨ 5 < m then [] else ofM (l ++ [m])) := by
  have key : addE l m = (if rightB l = false then 180 else if m ∈ l then 5 else if m < 1 ∨ 5 < m then 2 else 0) := by
    unfold addE
    cases hr : rightB l with
    | false => rfl
    | true =>
      simp only [has_law, hr, Bool.true_and, reduceCtorEq, if_false, decide_eq_true_eq]
      by_cases hm : m ∈ l
      · have h := right_mem hr hm
        have h1 : oneN m ≠ 0 := by rw [(oneN_in h).1]; have := Nat.two_pow_pos m.toNat; omega
        simp [hm, h1]
      · by_cases ho : m < 1 ∨ 5 < m
        · have h1 : oneN m = 0 := oneN_out (by omega)
          simp [hm, h1, ho]
        · have h1 : oneN m ≠ 0 := by rw [(oneN_in (by omega)).1]; have := Nat.two_pow_pos m.toNat; omega
          simp [hm, h1, ho]
  refine ⟨key, ?_⟩
  unfold addL
  rw [key]
  cases hr : rightB l with
  | false => simp
  | true =>
    by_cases hm : m ∈ l
    · simp [hm]
    · by_cases ho : m < 1 ∨ 5 < m
      · simp [hm, ho]
      · simp only [hm, ho, if_false, reduceCtorEq, or_false, if_true]
        rw [askX_right hr, ← ofS_snoc, memS_ofS]

/-- What a step says. -/
theorem far_law (l r : List Int) : farK l r 5 = sizeN (ofS l ^^^ ofS r) := by
  unfold farK sizeN memS
  congr 1
  refine List.filter_congr fun m hm => ?_
  have h : 1 ≤ m ∧ m ≤ 5 := by
    simp [List.range_succ] at hm
    omega
  rw [hasB_xor, hasB_ofS _ _ h, hasB_ofS _ _ h]
theorem step_law (l r : List Int) : stepE l r = if (rightB l && rightB r) = false then 180 else if 1 < farK l r 5 then 181 else 0 := by
  unfold stepE
  cases hl : rightB l with
  | false => rfl
  | true =>
    cases hr : rightB r with
    | false => rfl
    | true => rw [askX_right hl, askX_right hr, far_law]
end Go.Proofs.Ytonfbinkjhbpiaa

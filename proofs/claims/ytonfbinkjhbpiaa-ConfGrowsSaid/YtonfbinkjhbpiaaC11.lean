/- The plain laws of the conf layer's crews; which members may be, by the reference; the laws' first line. No condition. -/
import Derived.Test.YtonfbinkjhbpiaaC10
namespace Go.Proofs.Ytonfbinkjhbpiaa
open Go.RowKit Go.Shelf
set_option linter.unusedVariables false

theorem and_pow (X i : Nat) : ((X &&& 2 ^ i) != 0) = X.testBit i := by
  cases h : X.testBit i
  · have : X &&& 2 ^ i = 0 := by
      refine Nat.eq_of_testBit_eq fun j => ?_
      rw [Nat.testBit_and, Nat.testBit_two_pow, Nat.zero_testBit]
      by_cases hj : i = j
      · subst hj; rw [h]; rfl
      · simp [hj]
    rw [this]
    rfl
  · have : X &&& 2 ^ i ≠ 0 := by
      intro e
      have h2 : (X &&& 2 ^ i).testBit i = true := by rw [Nat.testBit_and, Nat.testBit_two_pow, h]; simp
      rw [e, Nat.zero_testBit] at h2
      cases h2
    simpa using this

theorem hasB_test (X : Nat) (m : Int) (h1 : 1 ≤ m) (h5 : m ≤ 5) : hasB X m = X.testBit m.toNat := by
  have h : m = 1 ∨ m = 2 ∨ m = 3 ∨ m = 4 ∨ m = 5 := by omega
  rcases h with rfl | rfl | rfl | rfl | rfl
  · exact and_pow X 1
  · exact and_pow X 2
  · exact and_pow X 3
  · exact and_pow X 4
  · exact and_pow X 5
theorem oneN_out {m : Int} (h : ¬ (1 ≤ m ∧ m ≤ 5)) : oneN m = 0 := by
  unfold oneN
  repeat' (rw [if_neg (by omega)])
theorem hasB_out (X : Nat) {m : Int} (h : ¬ (1 ≤ m ∧ m ≤ 5)) : hasB X m = false := by
  unfold hasB
  rw [oneN_out h]
  simp
theorem hasB_and (X Y : Nat) (m : Int) : hasB (X &&& Y) m = (hasB X m && hasB Y m) := by
  by_cases h : 1 ≤ m ∧ m ≤ 5
  · rw [hasB_test _ _ h.1 h.2, hasB_test _ _ h.1 h.2, hasB_test _ _ h.1 h.2, Nat.testBit_and]
  · rw [hasB_out _ h, hasB_out _ h]; rfl
theorem hasB_or (X Y : Nat) (m : Int) : hasB (X ||| Y) m = (hasB X m || hasB Y m) := by
  by_cases h : 1 ≤ m ∧ m ≤ 5
  · rw [hasB_test _ _ h.1 h.2, hasB_test _ _ h.1 h.2, hasB_test _ _ h.1 h.2, Nat.testBit_or]
  · rw [hasB_out _ h, hasB_out _ h, hasB_out _ h]; rfl
theorem hasB_xor (X Y : Nat) (m : Int) : hasB (X ^^^ Y) m = (hasB X m ^^ hasB Y m) := by
  by_cases h : 1 ≤ m ∧ m ≤ 5
  · rw [hasB_test _ _ h.1 h.2, hasB_test _ _ h.1 h.2, hasB_test _ _ h.1 h.2, Nat.testBit_xor]
  · rw [hasB_out _ h, hasB_out _ h, hasB_out _ h]; rfl
theorem hasB_one (a m : Int) (h : 1 ≤ m ∧ m ≤ 5) : hasB (oneN a) m = decide (m = a) := by
  have hm : m = 1 ∨ m = 2 ∨ m = 3 ∨ m = 4 ∨ m = 5 := by omega
  by_cases ha : 1 ≤ a ∧ a ≤ 5
  · have ha' : a = 1 ∨ a = 2 ∨ a = 3 ∨ a = 4 ∨ a = 5 := by omega
    rcases hm with rfl | rfl | rfl | rfl | rfl <;> rcases ha' with rfl | rfl | rfl | rfl | rfl <;> decide
  · have : ¬ m = a := by omega
    rw [oneN_out ha]
    simp [hasB, this]
theorem hasB_ofS (l : List Int) (m : Int) (h : 1 ≤ m ∧ m ≤ 5) : hasB (ofS l) m = decide (m ∈ l) := by
  suffices H : ∀ (l : List Int) (x : Nat), hasB (l.foldl (fun x m => x ||| oneN m) x) m = (hasB x m || decide (m ∈ l)) by
    have := H l 0
    have h0 : hasB 0 m = false := by simp [hasB]
    rw [h0, Bool.false_or] at this
    exact this
  intro l
  induction l with
  | nil => intro x; simp
  | cons a l ih =>
    intro x
    rw [List.foldl_cons, ih, hasB_or, hasB_one a m h]
    by_cases h1 : m = a <;> by_cases h2 : m ∈ l <;> simp [h1, h2]
theorem memS_ofS (l : List Int) : memS (ofS l) = ofM l := by
  unfold memS ofM
  refine List.filter_congr fun m hm => hasB_ofS l m ?_
  simp at hm
  omega
theorem rightB_eq (l : List Int) : rightB l = decide (l ≠ [] ∧ l = ofM l) := by
  unfold rightB
  rw [memS_ofS]
theorem rightB_of {l : List Int} (h : rightB l = true) : l ≠ [] ∧ l = memS (ofS l) := of_decide_eq_true h
theorem right_mem {l : List Int} (h : rightB l = true) {m : Int} (hm : m ∈ l) : 1 ≤ m ∧ m ≤ 5 := by
  rw [(rightB_of h).2] at hm
  exact mem_memS hm
theorem askX_right {l : List Int} (h : rightB l = true) : askX l = ofS l := by unfold askX; rw [h]; rfl
theorem askX_wrong {l : List Int} (h : rightB l = false) : askX l = 0 := by unfold askX; rw [h]; rfl
theorem askE_right {l : List Int} (h : rightB l = true) : askE l = 0 := by unfold askE; rw [h]; rfl
theorem askE_wrong {l : List Int} (h : rightB l = false) : askE l = 180 := by unfold askE; rw [h]; rfl
theorem hasB_zero (m : Int) : hasB 0 m = false := by simp [hasB]
theorem has_law (l : List Int) (m : Int) : hasB (askX l) m = (rightB l && decide (m ∈ l)) := by
  cases hr : rightB l with
  | false => rw [askX_wrong hr, hasB_zero]; rfl
  | true =>
    rw [askX_right hr, Bool.true_and]
    by_cases h : 1 ≤ m ∧ m ≤ 5
    · exact hasB_ofS l m h
    · rw [hasB_out _ h]
      symm
      rw [decide_eq_false_iff_not]
      intro hm
      exact h (right_mem hr hm)
theorem memS_and (X Y : Nat) : memS (X &&& Y) = (memS X).filter (hasB Y) := by
  unfold memS
  rw [List.filter_filter]
  refine List.filter_congr fun m _ => ?_
  rw [hasB_and, Bool.and_comm]
theorem majority_law (l r : List Int) : moreB (askX l) (ofS r) = (rightB l && rmajB l r) := by
  cases hr : rightB l with
  | false =>
    rw [askX_wrong hr, Bool.false_and]
    unfold moreB
    rw [Nat.zero_and]
    unfold sizeN
    rw [memS_zero]
    rfl
  | true =>
    rw [askX_right hr, Bool.true_and]
    unfold moreB rmajB sizeN inN
    rw [memS_and, ← (rightB_of hr).2]
    have : l.filter (hasB (ofS r)) = l.filter fun m => decide (m ∈ r) := List.filter_congr fun m hm => hasB_ofS r m (right_mem hr hm)
    rw [this]

set_option maxHeartbeats 800000 in
theorem rright_any {e1 : Option TypeId} (A : Option Addr) (n c : Nat) (l : List Int) (w : World) (hs : Sees w e1 1 A n (ib .i64 l)) (hn : n ≤ 1000000000000) :
    Calls Try.prog 13 #[cf A n c] w fun e w' => e = .returned (.bool (rightB l)) ∧ Below w.heap.size w w' := by
  have HL := Lib.hid hs.len
  have hB1 := Lib.hid ((Below.refl _ w).alloc (Nat.le_refl _) (.cells #[.slice A n c] 27))
  have hs1 := hs.alloc (.cells #[.slice A n c] 27)
  have K1 := Blk.new w 27 #[.slice A n c]
  go_enter Try.func13, Try.ntmps13
  go_wp2_with fail
  obtain ⟨w1, hw1⟩ : ∃ w1, w.alloc (.cells #[.slice A n c] 27) = w1 := ⟨_, rfl⟩
  rw [hw1] at hs1 hB1 K1 ⊢
  clear hw1
  have hc1 := K1.cell 0
  simp at hc1
  have hS0 : w1.drew.cell? ⟨w.heap.size, 0, none⟩ = some (.slice A n c) ∧ Below w1.heap.size w1 w1.drew := ⟨hc1, (Below.refl _ _).drew⟩
  by_cases h0 : 0 < n
  · go_region_held3 (fun w' => w'.cell? ⟨w.heap.size, 0, none⟩ = some (.slice A n c) ∧ Below w1.heap.size w1 w') (assumption)
      (first
        | (go_at_call 39; refine (rof_any A n c l _ (hs1.below ?_) hn).mono ?_; (exact And.right ‹_ ∧ _›); rintro e x2 ⟨A2, m2, c2, rfl, hm2, ho2, hb2⟩; have hS2 := keep1 ‹_ ∧ _› hb2)
        | (go_at_call 18; refine (rsame_any A A2 n c m2 c2 l (ofM l) _ (hs1.below ?_) ((Sees.of_own ho2).below ?_) hn).mono ?_; (exact And.right ‹_ ∧ _›); (exact Below.refl _ _); rintro e x3 ⟨rfl, hb3⟩; have hS3 := keep1 ‹_ ∧ _› hb3))
    go_wp2
    go_ret
    refine ⟨ret_bool ?_, hB1.out.trans (hS3.2.mono hB1.out.size)⟩
    rw [rightB_eq]
    unfold eqB
    rw [decide_eq_decide]
    constructor
    · intro h
      refine ⟨?_, h⟩
      intro e
      have := HL.out
      rw [e] at this
      simp at this
      omega
    · exact fun h => h.2
  · obtain rfl : n = 0 := by omega
    go_quiet (fail)
    go_wp2
    go_ret
    have hl : l = [] := List.eq_nil_of_length_eq_zero HL.out
    subst hl
    exact ⟨rfl, below_drewN hB1.out _⟩
end Go.Proofs.Ytonfbinkjhbpiaa

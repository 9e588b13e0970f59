/- The plain law of ConfReturns: who is added and dropped leaves all as it was; what is decoded of what was encoded is the same. No condition. -/
import Derived.Test.YtonfbinkjhbpiaaC23
import Derived.Test.YtonfbinkjhbpiaaC16
namespace Go.Proofs.Ytonfbinkjhbpiaa
open Go.RowKit Go.Shelf
set_option linter.unusedVariables false

theorem ret_drop0 : ∀ X ∈ List.range 64, ∀ m ∈ ([1, 2, 3, 4, 5] : List Int), X % 2 = 0 → m ∈ memS X → 1 < (memS X).length →
    dropE (memS X) m = 0 ∧ addE (dropL (memS X) m) m = 0 ∧ addL (dropL (memS X) m) m = memS X ∧ hasB (askX (dropL (memS X) m)) m = false ∧ stepE (memS X) (dropL (memS X) m) = 0 ∧ stepE (dropL (memS X) m) (memS X) = 0 ∧ (dropL (memS X) m).length ≤ 5 := by decide +kernel
theorem ret_add0 : ∀ X ∈ List.range 64, ∀ m ∈ ([1, 2, 3, 4, 5] : List Int), X % 2 = 0 → rightB (memS X) = true → m ∉ memS X →
    addE (memS X) m = 0 ∧ dropE (addL (memS X) m) m = 0 ∧ dropL (addL (memS X) m) m = memS X ∧ hasB (askX (addL (memS X) m)) m = true ∧ stepE (memS X) (addL (memS X) m) = 0 ∧ stepE (addL (memS X) m) (memS X) = 0 ∧ (addL (memS X) m).length ≤ 5 := by decide +kernel
theorem one_five {m : Int} (h : 1 ≤ m ∧ m ≤ 5) : m ∈ ([1, 2, 3, 4, 5] : List Int) := by
  have : m = 1 ∨ m = 2 ∨ m = 3 ∨ m = 4 ∨ m = 5 := by omega
  rcases this with rfl | rfl | rfl | rfl | rfl <;> simp
theorem ret_drop {l : List Int} {m : Int} (hr : rightB l = true) (hm : m ∈ l) (h1 : 1 < l.length) :
    dropE l m = 0 ∧ addE (dropL l m) m = 0 ∧ addL (dropL l m) m = l ∧ hasB (askX (dropL l m)) m = false ∧ stepE l (dropL l m) = 0 ∧ stepE (dropL l m) l = 0 ∧ (dropL l m).length ≤ 5 := by
  have h5 := right_mem hr hm
  have hl := (rightB_of hr).2
  have := ret_drop0 (ofS l) (List.mem_range.2 (ofS_lt l)) m (one_five h5) (ofS_even l)
  rw [← hl] at this
  exact this hm h1
theorem ret_add {l : List Int} {m : Int} (hr : rightB l = true) (hm : m ∉ l) (h5 : 1 ≤ m ∧ m ≤ 5) :
    addE l m = 0 ∧ dropE (addL l m) m = 0 ∧ dropL (addL l m) m = l ∧ hasB (askX (addL l m)) m = true ∧ stepE l (addL l m) = 0 ∧ stepE (addL l m) l = 0 ∧ (addL l m).length ≤ 5 := by
  have hl := (rightB_of hr).2
  have := ret_add0 (ofS l) (List.mem_range.2 (ofS_lt l)) m (one_five h5) (ofS_even l)
  rw [← hl] at this
  exact this hr hm
theorem enc_right {l : List Int} (hr : rightB l = true) : encL l = (l.length : Int) :: l := by
  unfold encL
  rw [if_pos hr, right_size hr, ← (rightB_of hr).2]
theorem dec_enc {l : List Int} (hr : rightB l = true) : decE (encL l) = 0 ∧ decL (encL l) = l := by
  have h : decE (encL l) = 0 := by
    rw [enc_right hr]
    simp [decE, hr]
  exact ⟨h, by unfold decL; rw [h, if_pos rfl, enc_right hr]; rfl⟩
theorem right_len {l : List Int} (hr : rightB l = true) : 0 < l.length ∧ l.length ≤ 5 := by
  have h1 := (rightB_of hr).1
  have h2 : l.length ≤ 5 := by
    rw [(rightB_of hr).2]
    unfold memS
    exact Nat.le_trans (List.length_filter_le _ _) (by simp)
  exact ⟨List.length_pos_iff.2 h1, h2⟩
theorem enc_bytes {l : List Int} (hr : rightB l = true) : ∀ x ∈ encL l, 0 ≤ x ∧ x < 256 := by
  rw [enc_right hr]
  intro x hx
  rcases List.mem_cons.1 hx with rfl | hx
  · have := right_len hr; omega
  · have := right_mem hr hx; omega
theorem enc_dec {b : List Int} (h : decE b = 0) : rightB (decL b) = true ∧ encL (decL b) = b := by
  have hL : decL b = b.tail := by unfold decL; rw [if_pos h]
  rcases b with _ | ⟨x, t⟩
  · simp [decE] at h
  · simp only [decE] at h
    split at h
    · cases h
    · split at h
      · rename_i hh
        rw [hL]
        refine ⟨hh.1, ?_⟩
        simp only [List.tail_cons]
        rw [enc_right hh.1, hh.2]
      · cases h
theorem take_small {b r : List Int} (h : decE (r.take 300) = 0) : r.take 300 = r := by
  have h1 := enc_dec h
  rw [enc_right h1.1] at h1
  have h2 := (right_len h1.1).2
  have h3 : (r.take 300).length ≤ 6 := by rw [← h1.2]; simp; omega
  rw [List.length_take] at h3
  exact List.take_of_length_le (by omega)
end Go.Proofs.Ytonfbinkjhbpiaa

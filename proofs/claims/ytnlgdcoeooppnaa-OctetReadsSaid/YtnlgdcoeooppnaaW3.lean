/- The walks of the octet layer: the reference's bytes of numbers, and the cut copy. No condition. -/
import Derived.Test.YtnlgdcoeooppnaaW2
namespace Go.Proofs.Ytnlgdcoeooppnaa
open Go.RowKit
set_option linter.unusedVariables false

set_option maxHeartbeats 400000 in
theorem few_any (A : Option Addr) (n cap : Nat) (l : List Int) (w : World) {e1 : Option TypeId} (hs : Sees w e1 1 A n (ib .u8 l)) (hnc : n ≤ cap) (hcap : cap ≤ maxLen) :
    Calls Try.prog 12 #[.slice A n cap] w fun e w' => ∃ A' m c', e = .returned (.slice A' m c') ∧ m ≤ 300 ∧ w'.ownsRow w.heap.size 5 1 (.slice A' m c') m (ib .u8 (l.take 300)) ∧ Below w.heap.size w w' := by
  have HL := Lib.hid hs.len
  unfold maxLen at hcap
  by_cases h : 300 < n
  · have ht := hs.take (k := 300) (by omega)
    simp only [Nat.mul_one, ib, ← List.map_take] at ht
    go_enter Try.func12, Try.ntmps12
    go_wp2_with (go_at_call 39; refine (clone_any A 300 cap (l.take 300) w ht (by omega)).mono ?_; rintro e w1 ⟨A1, c1, rfl, ho, hb⟩)
    go_ret
    exact ⟨A1, 300, c1, rfl, by omega, ho, hb⟩
  · have h' : n ≤ 300 := by omega
    go_enter Try.func12, Try.ntmps12
    go_wp2_with (go_at_call 39; refine (clone_any A n cap l w hs (by omega)).mono ?_; rintro e w1 ⟨A1, c1, rfl, ho, hb⟩)
    go_ret
    exact ⟨A1, n, c1, rfl, h', by rw [List.take_of_length_le (by have := HL.out; omega)]; exact ho, hb⟩

theorem hiT_get (x : Int) (D n j : Nat) (h : j < n) : (hiT x D n)[j]? = some (x / 2 ^ (D - 8 * j) % 256) := by simp [hiT, h]
theorem div_step (x : Int) (k : Nat) : x / 2 ^ k / 256 = x / 2 ^ (k + 8) := by
  rw [Int.pow_add, Int.ediv_ediv_of_nonneg (Int.pow_nonneg (by omega))]; rfl
theorem high_set (x : Int) (n s : Nat) (h : s < n) : (ib .u8 (List.replicate (s + 1) 0 ++ (hiT x (8 * n - 8) n).drop (s + 1))).set s (.int .u8 (x / 2 ^ (8 * (n - (s + 1))) % 256)) =
    ib .u8 (List.replicate s 0 ++ (hiT x (8 * n - 8) n).drop s) := by
  have h1 : (hiT x (8 * n - 8) n).drop s = (x / 2 ^ (8 * (n - (s + 1))) % 256) :: (hiT x (8 * n - 8) n).drop (s + 1) := by
    have hl : s < (hiT x (8 * n - 8) n).length := by rw [hiT_length]; exact h
    rw [List.drop_eq_getElem_cons hl]
    congr 1
    have := hiT_get x (8 * n - 8) n s h
    rw [List.getElem?_eq_getElem hl] at this
    rw [Option.some.inj this]
    congr 3
    omega
  rw [h1]
  simp only [ib, List.replicate_succ', List.append_assoc, List.map_append, List.map_cons]
  rw [List.set_append_right _ _ (by simp)]
  simp

set_option maxHeartbeats 400000 in
theorem high_any (n : Nat) (x : Int) (w : World) (hn : n ≤ 16) (hn1 : 0 < n) (hx0 : 0 ≤ x) (hx1 : x < 18446744073709551616) :
    Calls Try.prog 19 #[.int .u64 x, .int .i64 n] w fun e w' => ∃ A' c', e = .returned (.slice A' n c') ∧ w'.ownsRow w.heap.size 5 1 (.slice A' n c') n (ib .u8 (hiT x (8 * n - 8) n)) ∧ Below w.heap.size w w' := by
  go_enter Try.func19, Try.ntmps19
  go_wp2_with (at_make; refine Door.enter ?_)
  refine Door.leave (wl_make ty_bytes (base := w.heap.size) (n := n) (c := n) rfl rfl (by omega) (by omega) (Nat.le_refl _) rfl rfl rfl rfl rfl ?_)
  intro A1 w1 hown1 hb1 _
  go_wp2
  go_loopw [0, 6] (fun v i wr => ∃ (r : Nat), r ≤ n ∧ i = .int .i64 ((r : Int) - 1) ∧ v = .int .u64 (x / 2 ^ (8 * (n - r))) ∧
      wr.ownsRow w.heap.size 5 1 (.slice A1 n n) n (ib .u8 (List.replicate r 0 ++ (hiT x (8 * n - 8) n).drop r)) ∧ Below w.heap.size w wr) (fun _ i _ => (intOf i + 1).toNat)
  case atStart => exact ⟨n, by omega, rfl, by simp, by simpa [ib, List.drop_of_length_le (Nat.le_of_eq (hiT_length _ _ _))] using hown1, hb1⟩
  case round =>
    obtain ⟨r, hr, rfl, rfl, hown, hbr⟩ := hrel
    rcases r with _ | s
    · go_wp2
      go_ret
      exact ⟨_, _, rfl, by simpa using hown, hbr⟩
    · have hlo : s < n := by omega
      obtain ⟨g, u, rfl, hbg, hlt, _, hcell, hfz⟩ := own_at hown hlo
      rw [show (((s + 1 : Nat) : Int) - 1) = (s : Int) by omega]
      have hq : 0 ≤ x / 2 ^ (8 * (n - (s + 1))) := Int.ediv_nonneg hx0 (Int.pow_nonneg (by omega))
      have hq2 : x / 2 ^ (8 * (n - (s + 1))) < 18446744073709551616 := Int.lt_of_le_of_lt (Int.ediv_le_self _ hx0) hx1
      go_wp2
      go_roundw
      case rel => exact ⟨s, by omega, rfl, by rw [div_step]; congr 3; omega, by have := own_put hown s (.int .u8 (x / 2 ^ (8 * (n - (s + 1))) % 256)); rwa [high_set x n s hlo] at this, hbr.setCell hbg _⟩
      case measure => simp [intOf]
end Go.Proofs.Ytnlgdcoeooppnaa

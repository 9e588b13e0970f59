/- The walk of OctetCounts, which returns true. No condition. -/
import Derived.Test.YtnlgdcoeooppnaaRows
import Derived.Test.YtnlgdcoeooppnaaW6
import Derived.Test.YtnlgdcoeooppnaaRead
import Derived.WalkKit
import Derived.BigQuiet
import Derived.Deep.QuietTactic
import Derived.WalkLawsBesides
import Derived.Lib.Hide
namespace Go.Proofs.Ytnlgdcoeooppnaa.octetCounts
open Go.RowKit
set_option linter.unusedVariables false


/-- The counts of all bytes below k. -/
def cntS (l : List Int) : Nat → Nat
  | 0 => 0
  | k + 1 => cntS l k + l.count (k : Int)
theorem cntS_nil (k : Nat) : cntS [] k = 0 := by induction k with
  | zero => rfl
  | succ k ih => simp [cntS, ih]
theorem cntS_cons (x : Int) (l : List Int) (hx : 0 ≤ x) (k : Nat) : cntS (x :: l) k = cntS l k + (if x < k then 1 else 0) := by
  induction k with
  | zero => simp [cntS]; omega
  | succ k ih =>
    simp only [cntS, ih, List.count_cons]
    have e : ((k + 1 : Nat) : Int) = (k : Int) + 1 := by omega
    rw [e]
    by_cases h : x = (k : Int)
    · subst h
      rw [if_pos (beq_self_eq_true _), if_neg (by omega), if_pos (by omega)]
      omega
    · have h1 : (x == (k : Int)) = false := by simpa using h
      rw [h1]
      simp only [Bool.false_eq_true, if_false]
      by_cases h2 : x < (k : Int)
      · rw [if_pos h2, if_pos (by omega)]; omega
      · rw [if_neg h2, if_neg (by omega)]; omega
theorem cntS_all (l : List Int) (h : isB l) : cntS l 256 = l.length := by
  induction l with
  | nil => exact cntS_nil _
  | cons x l ih =>
    have hx := h x (by simp)
    rw [cntS_cons x l hx.1, ih (fun y hy => h y (by simp [hy])), if_pos (by omega)]
    rfl
theorem cntS_le (l : List Int) (h : isB l) (k : Nat) (hk : k ≤ 256) : cntS l k ≤ l.length := by
  rw [← cntS_all l h]
  have : ∀ a b, a ≤ b → cntS l a ≤ cntS l b := fun a b hab => by
    induction hab with
    | refl => exact Nat.le_refl _
    | step _ ih => exact Nat.le_trans ih (Nat.le_add_right _ _)
  exact this _ _ hk

set_option maxRecDepth 100000 in
set_option maxHeartbeats 800000 in
theorem walk (w : World) (A : Option Addr) (n c : Nat) (l : List Int) (w0 : Row w .u8 A n c l) (B : Option Addr) (m d : Nat) (r : List Int) (w1 : Row w .u8 B m d r) :
    Calls Try.prog 3 #[.slice A n c, .slice B m d] w fun e w' => e = .returned (.bool true) ∧ Below w.heap.size w w' := by
  have hBa : isB (l.take 300) := isB.take (wf_u8 w0.wf) _
  have hBb : isB (r.take 300) := isB.take (wf_u8 w1.wf) _
  go_enter Try.func3, Try.ntmps3
  go_wp2_with (go_at_call 11; refine (wakes_any w).mono ?_; rintro e x1 ⟨rfl, hb1⟩)
  refine (few_any A n c l x1 (w0.sees.below hb1) w0.nc w0.small).mono ?_
  rintro e x2 ⟨A2, n2, c2, rfl, hn2, ho2, hb2⟩
  go_wp2_with fail
  refine (few_any B m d r x2 ((w1.sees.below hb1).below hb2) w1.nc w1.small).mono ?_
  rintro e x3 ⟨A3, n3, c3, rfl, hn3, ho3, hb3⟩
  have h2 := (Sees.of_own ho2).below hb3
  have h3 := Sees.of_own ho3
  have nc2 := own_cap ho2
  obtain ⟨a, Ha⟩ : ∃ a, Hid (a = l.take 300) := ⟨_, rfl⟩
  obtain ⟨b, Hb⟩ : ∃ b, Hid (b = r.take 300) := ⟨_, rfl⟩
  rw [← Ha.out] at h2 hBa
  rw [← Hb.out] at h3 hBb
  have Hal := Lib.hid h2.len
  have Hbl := Lib.hid h3.len
  have hbx3 := (hb1.trans (hb2.mono hb1.size)).trans (hb3.mono (Nat.le_trans hb1.size hb2.size))
  clear w0 w1 ho2 ho3 hb1 hb2 hb3
  go_wp2_with fail
  refine (few_any A2 n2 c2 a x3 h2 nc2.1 nc2.2).mono ?_
  rintro e x4 ⟨A4, n4, c4, rfl, hn4, ho4, hb4⟩
  rw [List.take_of_length_le (by have := Hal.out; omega)] at ho4
  have h3' := h3.below hb4
  have h2' := h2.below hb4
  go_wp2_with (at_builtin; refine Door.enter ?_)
  refine Door.leave (wl_append ty_bytes ho4 h3' rfl (zs := ib .u8 (a ++ b)) (by simp [ib]) (ib_one _ _) (by omega) hb4.size rfl rfl rfl rfl ?_)
  intro A5 c5 x5 ho5 hb5 _ _
  have h5 := Sees.of_own ho5
  have hbx5 := (hbx3.trans (hb4.mono hbx3.size)).trans (hb5.mono hbx3.size)
  have h2'' := h2'.keep (w' := x5) (fun k hk hh => ?a2)
  case a2 =>
    obtain ⟨ad, ha, rfl, h0⟩ := hh
    exact hb5.block _ (h2.lt h0 ha)
  have h3'' := h3'.keep (w' := x5) (fun k hk hh => ?a3)
  case a3 =>
    obtain ⟨ad, ha, rfl, h0⟩ := hh
    exact hb5.block _ (h3.lt h0 ha)
  have Hll := Lib.hid h5.len
  have hBab : isB (a ++ b) := hBa.append hBb
  have hcl : ∀ k, k ≤ 256 → cntS (a ++ b) k ≤ 600 := fun k hk => by
    have := cntS_le _ hBab k hk
    have := Hll.out
    omega
  clear hb4 hb5 ho4 ho5 h2 h3 h2' h3' hbx3
  go_wp2_with fail
  go_loop [6, 7, 8, 19] (fun s _ _ i => ∃ k : Nat, k ≤ 256 ∧ i = .int .i64 k ∧ s = .int .i64 (cntS (a ++ b) k)) (fun _ _ _ i => 256 - (intOf i).toNat)
  case atStart => exact ⟨0, by omega, rfl, rfl⟩
  case round =>
    obtain ⟨k, hk, rfl, rfl⟩ := hrel
    by_cases hlt : k < 256
    · obtain ⟨y, HY⟩ : ∃ y, Hid (List.count (k : Int) a = y) := ⟨_, rfl⟩
      obtain ⟨z, HZ⟩ : ∃ z, Hid (List.count (k : Int) b = z) := ⟨_, rfl⟩
      have HX : Hid (List.count (k : Int) (a ++ b) = y + z) := by unfold Hid; rw [List.count_append, HY.out, HZ.out]
      have hs1 := hcl (k + 1) (by omega)
      have HS : Hid (cntS (a ++ b) (k + 1) = cntS (a ++ b) k + (y + z)) := by unfold Hid; rw [cntS, HX.out]
      rw [HS.out] at hs1
      clear hcl
      go_wp2_with fail
      refine (count_any A5 (n4 + n3) c5 (a ++ b) k x5 h5 (by omega)).mono ?_
      rintro e x6 ⟨rfl, rfl⟩
      rw [HX.out]
      go_wp2_with fail
      refine (count_any A2 n2 c2 a k x5 h2'' (by omega)).mono ?_
      rintro e x6 ⟨rfl, rfl⟩
      rw [HY.out]
      go_wp2_with fail
      refine (count_any A3 n3 c3 b k x5 h3'' (by omega)).mono ?_
      rintro e x6 ⟨rfl, rfl⟩
      rw [HZ.out]
      go_wp2
      go_round
      case rel => exact ⟨k + 1, by omega, by go_num, by rw [HS.out]; go_num⟩
      case measure => simp [intOf]; omega
    · obtain rfl : k = 256 := by omega
      have HE : Hid (cntS (a ++ b) 256 = n4 + n3) := by unfold Hid; rw [cntS_all _ hBab, Hll.out]
      rw [HE.out]
      go_wp2
      go_ret
      exact ⟨ret_bool (by simp), hbx5⟩
end Go.Proofs.Ytnlgdcoeooppnaa.octetCounts

/- The walk of 'wakes': it returns true. No condition. -/
import Derived.Test.YtnlgdcoeooppnaaW5
namespace Go.Proofs.Ytnlgdcoeooppnaa
open Go.RowKit
set_option linter.unusedVariables false

theorem wakes_l : [9] ++ hiT 16777218 24 4 ++ hiT 258 8 2 = [9, 1, 0, 0, 2, 1, 2] := by decide
theorem wakes_g : goS [9, 1, 0, 0, 2, 1, 2] 0 0 3 = (3, 0) := by decide
theorem wakes_n : nextS [9, 1, 0, 0, 2, 1, 2] 3 0 4 = (7, 0, [0, 2, 1, 2]) := by decide
theorem wakes_x : numS [0, 2, 1, 2] = 131330 := by decide
theorem wakes_c : List.count (1 : Int) [9, 1, 0, 0, 2, 1, 2] = 2 := by decide

set_option maxHeartbeats 800000 in
theorem wakes_any (w : World) : Calls Try.prog 11 #[] w fun e w' => e = .returned (.bool true) ∧ Below w.heap.size w w' := by
  go_enter Try.func11, Try.ntmps11
  go_wp2_with fail
  refine (put32_any (some ⟨w.heap.size, 0, none⟩) 1 1 [9] 16777218 _ (sees_lit w #[.int .u8 9] _ 1 1 rfl) (by omega) (by omega) (by omega)).mono ?_
  rintro e w1 ⟨A1, c1, rfl, ho1, hb1⟩
  go_wp2_with fail
  refine (put16_any A1 5 c1 _ 258 _ (Sees.of_own ho1) (by omega) (by omega) (by omega)).mono ?_
  rintro e w2 ⟨A2, c2, rfl, ho2, hb2⟩
  rw [wakes_l] at ho2
  have hnc : 7 ≤ c2 := by
    rcases ho2.2 with ⟨_, h0⟩ | ⟨g, cap, cur, hv, _, _, hnc, _⟩
    · omega
    · injection hv; omega
  go_wp2_with fail
  refine (read_any (cap := c2) (Sees.of_own ho2) hnc (by omega)).mono ?_
  rintro e w3 ⟨g, rfl, hg, hR, hb3⟩
  go_wp2_with fail
  refine (go_any hR 3).mono ?_
  rintro e w4 ⟨rfl, hR4, hg4⟩
  rw [wakes_g] at hR4
  go_wp2_with fail
  refine (u32_any hR4 (by intro x hx; simp at hx; omega)).mono ?_
  rintro e w5 ⟨rfl, hR5, hg5⟩
  simp only [wakes_n, wakes_x] at hR5 ⊢
  obtain ⟨ad, u, rfl, hu, hc⟩ := hR5.sees.at_ (k := 1) (by omega)
  obtain ⟨ad6, u6, h6, hu6, hc6⟩ := hR5.sees.at_ (k := 6) (by omega)
  obtain rfl := Option.some.inj h6
  simp [ib] at hu hu6
  subst hu
  subst hu6
  clear h6
  simp [Addr.add] at hc hc6
  go_wp2_with (first
    | (go_at_call 24; refine (left_any hR5).mono ?_; rintro e w6 ⟨rfl, nq, rfl⟩)
    | (go_at_call 23; refine (at_any (hR5.drewN _)).mono ?_; rintro e w6 ⟨rfl, rfl⟩)
    | (go_at_call 13; refine (count_any _ _ _ _ 1 _ (hR5.sees.drewN _) (by omega)).mono ?_; rintro e w6 ⟨rfl, rfl⟩; rw [wakes_c]))
  go_ret
  have hb3' : Below w.heap.size w w3 := (((((Below.refl _ _).alloc (Nat.le_refl _) _)).trans (hb1.mono (by simp))).trans (hb2.mono (by have := hb1.size; simp at this; omega))).trans (hb3.mono (by have := hb1.size; have := hb2.size; simp at *; omega))
  have hgg : w.heap.size ≤ g := by have := hb1.size; have := hb2.size; simp at *; omega
  exact ⟨rfl, below_drewN ((hb3'.trans (below_of_only hg4 hgg hb3'.size)).trans (below_of_only hg5 hgg (Nat.le_trans hb3'.size hg4.size))) _⟩
end Go.Proofs.Ytnlgdcoeooppnaa

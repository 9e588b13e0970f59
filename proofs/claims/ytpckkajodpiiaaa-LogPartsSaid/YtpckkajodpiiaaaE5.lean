/- The reference's Right; a log's spots by their number. No condition. -/
import Derived.Test.YtpckkajodpiiaaaE4
namespace Go.Proofs.Ytpckkajodpiiaaa
open Go.RowKit
set_option linter.unusedVariables false
set_option linter.unusedSimpArgs false

set_option maxHeartbeats 800000 in
theorem lright_any {e2 : Option TypeId} (i t : Int) (A : Option Addr) (n c : Nat) (ps : List EP) (w : World) (hs : SeesE w e2 A n ps) (hnc : n ≤ c) (hn : n ≤ 1000000000) (hi0 : 0 ≤ i) (hi1 : i < 18446744073709551616) (ht0 : 0 ≤ t) :
    Calls Try.prog 19 #[logV i t A n c] w fun e w' => e = .returned (.bool (mayB i t (es ps))) ∧ Below w.heap.size w w' := by
  have HPL := Lib.hid hs.len
  have HB := Lib.hid ((Below.refl _ w).alloc (Nat.le_refl _) (.cells #[.int .u64 i, .int .u64 t, .slice A n c] 27))
  have hs' := hs.alloc (.cells #[.int .u64 i, .int .u64 t, .slice A n c] 27)
  have k1 := Blk.new w 27 #[.int .u64 i, .int .u64 t, .slice A n c]
  unfold logV
  go_enter Try.func19, Try.ntmps19
  have hel : (es ps).length = n := by unfold es; rw [List.length_map]; exact HPL.out
  have HM : Hid (mayB i t (es ps) = (decide ((0 < i) = (0 < t)) && decide (n ≤ 16) && roomB i n && standB (es ps) t)) := by unfold Hid mayB; rw [hel]
  clear hel
  by_cases hit : 0 < i ↔ 0 < t
  · have hne : (!(i == 0) == (t == 0)) = false := by
      rcases (show (i = 0 ∧ t = 0) ∨ (i ≠ 0 ∧ t ≠ 0) by omega) with ⟨h1, h2⟩ | ⟨h1, h2⟩ <;> (rw [show (i == 0) = decide (i = 0) from rfl, show (t == 0) = decide (t = 0) from rfl]; simp [h1, h2])
    have hne2 : ((i == 0) != (t == 0)) = false := by
      rcases (show (i = 0 ∧ t = 0) ∨ (i ≠ 0 ∧ t ≠ 0) by omega) with ⟨h1, h2⟩ | ⟨h1, h2⟩ <;> (rw [show (i == 0) = decide (i = 0) from rfl, show (t == 0) = decide (t = 0) from rfl]; simp [h1, h2])
    by_cases h16 : n ≤ 16
    · have h16' : ¬ (16 < (n : Int)) := by omega
      go_wp2_with (first
        | (go_at_call 51; refine (behind_any ps A n c t _ hs' hnc hn).mono ?_; rintro e x1 ⟨rfl, hb1⟩; have k2 := k1.below hb1; have c0 := k2.cell 0; have c2 := k2.cell 2; simp at c0 c2; cases hr : standB (es ps) t)
        | (go_at_call 52; refine (room'_any i n _ hi0 hi1 (by omega)).mono ?_; rintro e x2 ⟨rfl, rfl⟩))
      all_goals
        go_ret
        refine ⟨?_, HB.out.trans (hb1.mono HB.out.size)⟩
        rw [HM.out, hr]
        simp [hit, h16]
    · have HF : Hid (mayB i t (es ps) = false) := by unfold Hid; rw [HM.out]; simp [h16]
      have h16' : 16 < (n : Int) := by omega
      go_wp2
      go_ret
      exact ⟨(congrArg (fun b => Ending.returned (.bool b)) HF.out).symm, HB.out⟩
  · have HF : Hid (mayB i t (es ps) = false) := by unfold Hid; rw [HM.out]; simp [hit]
    have hne : (!(i == 0) == (t == 0)) = true := by
      rcases (show (i = 0 ∧ t ≠ 0) ∨ (i ≠ 0 ∧ t = 0) by omega) with ⟨h1, h2⟩ | ⟨h1, h2⟩ <;> (rw [show (i == 0) = decide (i = 0) from rfl, show (t == 0) = decide (t = 0) from rfl]; simp [h1, h2])
    have hne2 : ((i == 0) != (t == 0)) = true := by
      rcases (show (i = 0 ∧ t ≠ 0) ∨ (i ≠ 0 ∧ t = 0) by omega) with ⟨h1, h2⟩ | ⟨h1, h2⟩ <;> (rw [show (i == 0) = decide (i = 0) from rfl, show (t == 0) = decide (t = 0) from rfl]; simp [h1, h2])
    go_wp2
    go_ret
    exact ⟨(congrArg (fun b => Ending.returned (.bool b)) HF.out).symm, HB.out⟩

/-- The k-th spot: its index, its term; the 0th is the base. -/
def spotI (i : Int) (k : Nat) : Int := IntKind.u64.wrap (i + IntKind.u64.wrap k)
def spotT (t : Int) (l : List Ent) : Nat → Int
  | 0 => t
  | k + 1 => (l[k]?.map (·.T)).getD 0
end Go.Proofs.Ytpckkajodpiiaaa

/- Which logs may be: the walks. No condition. -/
import Derived.Test.YtpckkajodpiiaaaE2
import Derived.Test.YtpckkajodpiiaaaPar
namespace Go.Proofs.Ytpckkajodpiiaaa
open Go.RowKit
set_option linter.unusedVariables false
set_option linter.unusedSimpArgs false

theorem room'_any (i : Int) (n : Nat) (w : World) (h0 : 0 ≤ i) (h1 : i < 18446744073709551616) (hn : n ≤ 9223372036854775807) :
    Calls Try.prog 52 #[.int .u64 i, .int .i64 n] w fun e w' => e = .returned (.bool (roomB i n)) ∧ w = w' := by
  go_enter Try.func52, Try.ntmps52
  by_cases h : i ≤ 18446744073709551614
  · have e1 : IntKind.u64.wrap (18446744073709551614 - i) = 18446744073709551614 - i := by simp [IntKind.wrap, IntKind.bits, IntKind.signed]; omega
    have e2 : IntKind.u64.wrap (n : Int) = (n : Int) := by simp [IntKind.wrap, IntKind.bits, IntKind.signed]; omega
    go_wp2
    go_ret
    exact ⟨by simp [roomB, h, e1, e2], rfl⟩
  · go_wp2
    go_ret
    exact ⟨by simp [roomB]; omega, rfl⟩

theorem rightEntry_any (T K : Int) (A : Option Addr) (n c : Nat) (w : World) (h0 : 0 ≤ T) (hn : n ≤ 9223372036854775807) :
    Calls Try.prog 69 #[.agg #[.int .u64 T, .int .i64 K, .slice A n c]] w fun e w' => e = .returned (.bool (wellB T K n)) ∧ Below w.heap.size w w' := by
  go_enter Try.func69, Try.ntmps69
  go_wp2
  all_goals
    go_ret
    refine ⟨?_, (Below.refl _ w).alloc (Nat.le_refl _) _⟩
    congr 2
    simp only [wellB]
    simp_all
    try omega
    try (have hT : 0 < T := by omega
         by_cases hz : n = 0 <;> simp_all <;> omega)

def logV (i t : Int) (A : Option Addr) (n c : Nat) : Value := .agg #[.int .u64 i, .int .u64 t, .slice A n c]
/-- May a log be? -/
def mayB (i t : Int) (l : List Ent) : Bool := decide ((0 < i) = (0 < t)) && decide (l.length ≤ 16) && roomB i l.length && standB l t

set_option maxHeartbeats 800000 in
theorem may_any {e2 : Option TypeId} (i t : Int) (A : Option Addr) (n c : Nat) (ps : List EP) (w : World) (hs : SeesE w e2 A n ps) (hn : n ≤ 1000000000) (hi0 : 0 ≤ i) (hi1 : i < 18446744073709551616) :
    Calls Try.prog 45 #[logV i t A n c] w fun e w' => e = .returned (.bool (mayB i t (es ps))) ∧ Below w.heap.size w w' := by
  have HPL := Lib.hid hs.len
  have HB := Lib.hid ((Below.refl _ w).alloc (Nat.le_refl _) (.cells #[.int .u64 i, .int .u64 t, .slice A n c] 79))
  have hs' := hs.alloc (.cells #[.int .u64 i, .int .u64 t, .slice A n c] 79)
  unfold logV
  go_enter Try.func45, Try.ntmps45
  have hel : (es ps).length = n := by unfold es; rw [List.length_map]; exact HPL.out
  have HM : Hid (mayB i t (es ps) = (decide ((0 < i) = (0 < t)) && decide (n ≤ 16) && roomB i n && standB (es ps) t)) := by unfold Hid mayB; rw [hel]
  clear hel
  by_cases hit : 0 < i ↔ 0 < t
  · by_cases h16 : n ≤ 16
    · have h16' : ¬ (16 < (n : Int)) := by omega
      go_wp2_with (first
        | (go_at_call 66; refine (room_any i n _ hi0 hi1 (by omega)).mono ?_; rintro e x1 ⟨rfl, rfl⟩; cases hr : roomB i n)
        | (go_at_call 67; refine (stand_any A n c ps t _ hs' hn).mono ?_; rintro e x2 ⟨rfl, hb2⟩))
      · go_ret
        refine ⟨?_, HB.out⟩
        rw [HM.out, hr]
        simp
      · go_ret
        refine ⟨?_, HB.out.trans (hb2.mono HB.out.size)⟩
        rw [HM.out, hr]
        simp [hit, h16]
    · have HF : Hid (mayB i t (es ps) = false) := by unfold Hid; rw [HM.out]; simp [h16]
      have h16' : 16 < (n : Int) := by omega
      go_wp2
      go_ret
      exact ⟨(congrArg (fun b => Ending.returned (.bool b)) HF.out).symm, HB.out⟩
  · have HF : Hid (mayB i t (es ps) = false) := by unfold Hid; rw [HM.out]; simp [hit]
    have hne : (!decide (0 < i) == decide (0 < t)) = true := by by_cases h1 : 0 < i <;> by_cases h2 : 0 < t <;> simp_all
    go_wp2
    go_ret
    exact ⟨(congrArg (fun b => Ending.returned (.bool b)) HF.out).symm, HB.out⟩
end Go.Proofs.Ytpckkajodpiiaaa

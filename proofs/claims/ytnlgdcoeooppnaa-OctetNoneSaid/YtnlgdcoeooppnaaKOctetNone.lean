/- The walk of OctetNone, which returns true. No condition. -/
import Derived.Test.YtnlgdcoeooppnaaRows
import Derived.Test.YtnlgdcoeooppnaaW7
import Derived.Test.YtnlgdcoeooppnaaRead
import Derived.WalkKit
import Derived.BigQuiet
import Derived.Deep.QuietTactic
import Derived.Deep.RegionHeld3
import Derived.WalkLawsBesides
import Derived.Lib.Hide
namespace Go.Proofs.Ytnlgdcoeooppnaa.octetNone
open Go.RowKit
set_option linter.unusedVariables false


set_option maxRecDepth 100000 in
set_option maxHeartbeats 1600000 in
theorem walk (w : World) (A : Option Addr) (n c : Nat) (ps : List (Int × Int)) (w0 : PairsOf w .i64 A n c ps) :
    Calls Try.prog 6 #[.slice A n c] w fun e w' => e = .returned (.bool true) ∧ Below w.heap.size w w' := by
  have hnm : n ≤ 9223372036854775807 := by have h1 := w0.nc; have h2 := w0.small; unfold maxLen at h2; omega
  go_enter Try.func6, Try.ntmps6
  go_wp2_with (go_at_call 11; refine (wakes_any w).mono ?_; rintro e x1 ⟨rfl, hb1⟩)
  go_loopw [12] (fun i wr => ∃ k : Nat, k ≤ n ∧ i = .int .i64 k ∧ Below w.heap.size w wr) (fun i _ => n - (intOf i).toNat)
  case atStart => exact ⟨0, by omega, rfl, hb1⟩
  case round =>
    obtain ⟨k, hk, rfl, hbr⟩ := hrel
    by_cases hlt : k < n
    · by_cases h12 : k = 20
      · subst h12
        obtain ⟨ad, p, rfl, hp, hc0, hc1⟩ := w0.at_ hbr hlt
        simp [Addr.add] at hc0 hc1
        go_wp2
        go_ret
        exact ⟨rfl, hbr.alloc hbr.size _⟩
      · have hk12 : ((k : Int) == 20) = false := by simp; omega
        obtain ⟨ad, p, rfl, hp, hc0, hc1⟩ := w0.at_ hbr hlt
        clear h12 hp
        go_wp2_with fail
        refine (reads_nil _ p.1 p.2).mono ?_
        rintro e x2 ⟨rfl, hb2⟩
        go_wp2_with (first
          | (go_at_call 23; refine (at_nil _).mono ?_; rintro e x3 ⟨rfl, rfl⟩)
          | (go_at_call 24; refine (left_nil _).mono ?_; rintro e x3 ⟨rfl, rfl⟩)
          | (go_at_call 25; refine (err_nil _).mono ?_; rintro e x3 ⟨rfl, rfl⟩))
        go_roundw
        case rel => exact ⟨k + 1, by omega, by go_num, (hbr.alloc hbr.size _).trans (hb2.mono (by have := hbr.size; simp; omega))⟩
        case measure => simp [intOf]; omega
    · go_wp2
      go_ret
      exact ⟨rfl, hbr⟩
end Go.Proofs.Ytnlgdcoeooppnaa.octetNone

/- The walk of OctetTells, which returns true. No condition. -/
import Derived.Test.YtnlgdcoeooppnaaRows
import Derived.Test.YtnlgdcoeooppnaaW6
import Derived.Test.YtnlgdcoeooppnaaRead
import Derived.WalkKit
import Derived.BigQuiet
import Derived.Deep.QuietTactic
import Derived.Deep.RegionHeld3
import Derived.WalkLawsBesides
import Derived.Lib.Hide
namespace Go.Proofs.Ytnlgdcoeooppnaa.octetTells
open Go.RowKit
set_option linter.unusedVariables false


set_option maxRecDepth 100000 in
set_option maxHeartbeats 1600000 in
theorem walk (w : World) (A : Option Addr) (n c : Nat) (vs : List Value) (w0 : RowsOf w .u8 A n c vs) (b : Int) (w1 : (Lit.int .u8 b).wf = true) :
    Calls Try.prog 7 #[.slice A n c, .int .u8 b] w fun e w' => e = .returned (.bool true) ∧ Below w.heap.size w w' := by
  have hnm : n ≤ 9223372036854775807 := by have h1 := w0.nc; have h2 := w0.small; unfold maxLen at h2; omega
  go_enter Try.func7, Try.ntmps7
  go_wp2_with (go_at_call 11; refine (wakes_any w).mono ?_; rintro e x1 ⟨rfl, hb1⟩)
  go_loopw [5, 6, 7, 8, 13] (fun _ _ _ _ i wr => ∃ k : Nat, k ≤ n ∧ i = .int .i64 k ∧ Below w.heap.size w wr) (fun _ _ _ _ i _ => n - (intOf i).toNat)
  case atStart => exact ⟨0, by omega, rfl, hb1⟩
  case round =>
    obtain ⟨k, hk, rfl, hbr⟩ := hrel
    by_cases hlt : k < n
    · by_cases h12 : k = 12
      · subst h12
        obtain ⟨ad, u, rfl, hu, hc⟩ := (w0.sees.below hbr).at_ hlt
        simp [Addr.add] at hc
        go_wp2
        go_ret
        exact ⟨rfl, hbr⟩
      · have hk12 : ((k : Int) == 12) = false := by simp; omega
        have h0 : 0 < n := by omega
        obtain ⟨ad, u, rfl, hu, hc⟩ := (w0.sees.below hbr).at_ hlt
        obtain ⟨Au, nu, cu, lu, rfl, hru⟩ := w0.each u (List.mem_of_getElem? hu)
        obtain ⟨ad0, v, had, hv, hcv⟩ := (w0.sees.below hbr).at_ h0
        obtain rfl := Option.some.inj had
        obtain ⟨Av, nv, cv, lv, rfl, hrv⟩ := w0.each v (List.mem_of_getElem? hv)
        simp [Addr.add] at hcv
        clear h12 hu hv had
        go_wp2_with fail
        have hS0 : wr.drew.cell? ad = some (Value.slice Av nv cv) ∧ Below wr.heap.size wr wr.drew := ⟨hcv, (Below.refl _ _).drew⟩
        have hlu := hru.sees.below hbr
        have hlv := hrv.sees.below hbr
        go_region_held3 (fun w' => w'.cell? ad = some (Value.slice Av nv cv) ∧ Below wr.heap.size wr w') (assumption)
          (first
            | (go_at_call 12; refine (few_any Au nu cu lu _ (hlu.below ?_) hru.nc hru.small).mono ?_; (exact And.right ‹_ ∧ _›); rintro e x2 ⟨A2, n2, c2, rfl, hn2, ho2, hb2⟩; have hS2 := keep1 ‹_ ∧ _› hb2)
            | (go_at_call 12; refine (few_any Av nv cv lv _ (hlv.below ?_) hrv.nc hrv.small).mono ?_; (exact And.right ‹_ ∧ _›); rintro e x3 ⟨A3, n3, c3, rfl, hn3, ho3, hb3⟩; have hS3 := keep1 ‹_ ∧ _› hb3))
        have h2 := (Sees.of_own ho2).below hb3
        have h3 := Sees.of_own ho3
        have hB3 := hbr.trans (hS3.2.mono hbr.size)
        have hlu3 := hlu.below hS3.2
        clear hS0 hS2 ho2 ho3 hb2 hb3 hlu hlv
        go_wp2_with fail
        refine (equal_any A2 A3 n2 c2 n3 c3 _ _ _ h2 h3 (by omega)).mono ?_
        rintro e x4 ⟨rfl, q4, rfl⟩
        go_wp2_with fail
        refine (same_any A2 A3 n2 c2 n3 c3 _ _ _ (h2.drewN _) (h3.drewN _) (by omega)).mono ?_
        rintro e x5 ⟨rfl, q5, rfl⟩
        have hxx : (eqB (List.take 300 lu) (List.take 300 lv) != eqB (List.take 300 lu) (List.take 300 lv)) = false := by simp
        go_wp2_with fail
        refine (few_any Au nu cu lu _ (hlu3.drewN _) hru.nc hru.small).mono ?_
        rintro e x6 ⟨A6, n6, c6, rfl, hn6, ho6, hb6⟩
        go_wp2_with fail
        refine (equal_any A2 A6 n2 c2 n6 c6 _ _ _ ((h2.drewN _).below hb6) (Sees.of_own ho6) (by omega)).mono ?_
        rintro e x7 ⟨rfl, q7, rfl⟩
        rw [eqB_true rfl]
        go_wp2_with fail
        refine (count_any A2 n2 c2 _ b _ (((h2.drewN _).below hb6).drewN _) (by omega)).mono ?_
        rintro e x8 ⟨rfl, rfl⟩
        go_wp2_with fail
        refine (rcount_any A2 n2 c2 _ b _ (((h2.drewN _).below hb6).drewN _) (by omega)).mono ?_
        rintro e x9 ⟨rfl, rfl⟩
        have hB6 := below_drewN (hB3.trans (below_of_drewN (hb6.mono hB3.size))) q7
        clear h2 h3 hB3 hlu3 ho6 hb6
        go_wp2
        go_roundw
        case rel => exact ⟨k + 1, by omega, by go_num, hB6⟩
        case measure => simp [intOf]; omega
    · go_wp2
      go_ret
      exact ⟨rfl, hbr⟩
end Go.Proofs.Ytnlgdcoeooppnaa.octetTells

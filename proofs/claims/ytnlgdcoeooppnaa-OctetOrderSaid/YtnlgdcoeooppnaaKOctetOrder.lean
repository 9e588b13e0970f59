/- The walk of OctetOrder, which returns true. No condition. -/
import Derived.Test.YtnlgdcoeooppnaaRows
import Derived.Test.YtnlgdcoeooppnaaW6
import Derived.Test.YtnlgdcoeooppnaaW8
import Derived.Test.YtnlgdcoeooppnaaRead
import Derived.WalkKit
import Derived.BigQuiet
import Derived.Deep.QuietTactic
import Derived.Deep.RegionHeld3
import Derived.WalkLawsBesides
import Derived.Lib.Hide
namespace Go.Proofs.Ytnlgdcoeooppnaa.octetOrder
open Go.RowKit
set_option linter.unusedVariables false


set_option maxRecDepth 100000 in
set_option maxHeartbeats 1600000 in
theorem walk (w : World) (x : Int) (w0 : (Lit.int .u64 x).wf = true) (y : Int) (w1 : (Lit.int .u64 y).wf = true) :
    Calls Try.prog 10 #[.int .u64 x, .int .u64 y] w fun e w' => e = .returned (.bool true) ∧ Below w.heap.size w w' := by
  have hx : 0 ≤ x ∧ x < 18446744073709551616 := by
    simp [Lit.wf, IntKind.min, IntKind.max, IntKind.signed, IntKind.bits] at w0
    omega
  have hy : 0 ≤ y ∧ y < 18446744073709551616 := by
    simp [Lit.wf, IntKind.min, IntKind.max, IntKind.signed, IntKind.bits] at w1
    omega
  obtain ⟨hx0, hx1⟩ := hx
  obtain ⟨hy0, hy1⟩ := hy
  clear w0 w1
  go_enter Try.func10, Try.ntmps10
  go_wp2_with (go_at_call 11; refine (wakes_any w).mono ?_; rintro e x1 ⟨rfl, hBx⟩)
  refine (put64_any none 0 0 [] x _ (Sees.nil _ none _) (by omega) (by omega) (by omega)).mono ?_
  rintro e a0 ⟨A0, c0, rfl, ha0, hba0⟩
  go_wp2_with fail
  refine (put64_any none 0 0 [] y _ (Sees.nil _ none _) (by omega) (by omega) (by omega)).mono ?_
  rintro e b0 ⟨B0, d0, rfl, hb0, hbb0⟩
  go_wp2_with fail
  refine (bytesCompare_any A0 B0 (0 + 8) c0 (0 + 8) d0 _ _ _ ((Sees.of_own ha0).below hbb0) (Sees.of_own hb0) (hiT_isB _ _ _) (hiT_isB _ _ _)).mono ?_
  rintro e u0 ⟨rfl, rfl⟩
  have hq0 : cmpI ([] ++ hiT x 56 8) ([] ++ hiT y 56 8) = cmpN x y := by
    rw [List.nil_append, List.nil_append, cmpI_num _ _ (by simp [hiT_length]) (hiT_isB _ _ _) (hiT_isB _ _ _), numS_hi64 _ (by omega) (by omega), numS_hi64 _ (by omega) (by omega)]
  rw [hq0]
  clear hq0
  go_wp2_with fail
  refine (cmp64_any x y _).mono ?_
  rintro e u0 ⟨rfl, rfl⟩
  have hB0 := (hBx.trans (hba0.mono hBx.size)).trans (hbb0.mono (Nat.le_trans hBx.size hba0.size))
  clear ha0 hb0 hba0 hbb0 hBx
  go_wp2_with fail
  try rw [IntKind.wrap_u32]
  refine (put32_any none 0 0 [] (x % 4294967296) _ (Sees.nil _ none _) (by omega) (by omega) (by omega)).mono ?_
  rintro e a1 ⟨A1, c1, rfl, ha1, hba1⟩
  go_wp2_with fail
  try rw [IntKind.wrap_u32]
  refine (put32_any none 0 0 [] (y % 4294967296) _ (Sees.nil _ none _) (by omega) (by omega) (by omega)).mono ?_
  rintro e b1 ⟨B1, d1, rfl, hb1, hbb1⟩
  go_wp2_with fail
  refine (bytesCompare_any A1 B1 (0 + 4) c1 (0 + 4) d1 _ _ _ ((Sees.of_own ha1).below hbb1) (Sees.of_own hb1) (hiT_isB _ _ _) (hiT_isB _ _ _)).mono ?_
  rintro e u1 ⟨rfl, rfl⟩
  have hq1 : cmpI ([] ++ hiT (x % 4294967296) 24 4) ([] ++ hiT (y % 4294967296) 24 4) = cmpN (x % 4294967296) (y % 4294967296) := by
    rw [List.nil_append, List.nil_append, cmpI_num _ _ (by simp [hiT_length]) (hiT_isB _ _ _) (hiT_isB _ _ _), numS_hi32 _ (by omega) (by omega), numS_hi32 _ (by omega) (by omega)]
  rw [hq1]
  clear hq1
  go_wp2_with fail
  refine (cmp32_any (x % 4294967296) (y % 4294967296) _).mono ?_
  rintro e u1 ⟨rfl, rfl⟩
  have hB1 := (hB0.trans (hba1.mono hB0.size)).trans (hbb1.mono (Nat.le_trans hB0.size hba1.size))
  clear ha1 hb1 hba1 hbb1 hB0
  go_wp2_with fail
  try rw [IntKind.wrap_u16]
  refine (put16_any none 0 0 [] (x % 65536) _ (Sees.nil _ none _) (by omega) (by omega) (by omega)).mono ?_
  rintro e a2 ⟨A2, c2, rfl, ha2, hba2⟩
  go_wp2_with fail
  try rw [IntKind.wrap_u16]
  refine (put16_any none 0 0 [] (y % 65536) _ (Sees.nil _ none _) (by omega) (by omega) (by omega)).mono ?_
  rintro e b2 ⟨B2, d2, rfl, hb2, hbb2⟩
  go_wp2_with fail
  refine (bytesCompare_any A2 B2 (0 + 2) c2 (0 + 2) d2 _ _ _ ((Sees.of_own ha2).below hbb2) (Sees.of_own hb2) (hiT_isB _ _ _) (hiT_isB _ _ _)).mono ?_
  rintro e u2 ⟨rfl, rfl⟩
  have hq2 : cmpI ([] ++ hiT (x % 65536) 8 2) ([] ++ hiT (y % 65536) 8 2) = cmpN (x % 65536) (y % 65536) := by
    rw [List.nil_append, List.nil_append, cmpI_num _ _ (by simp [hiT_length]) (hiT_isB _ _ _) (hiT_isB _ _ _), numS_hi16 _ (by omega) (by omega), numS_hi16 _ (by omega) (by omega)]
  rw [hq2]
  clear hq2
  go_wp2_with fail
  refine (cmp16_any (x % 65536) (y % 65536) _).mono ?_
  rintro e u2 ⟨rfl, rfl⟩
  have hB2 := (hB1.trans (hba2.mono hB1.size)).trans (hbb2.mono (Nat.le_trans hB1.size hba2.size))
  clear ha2 hb2 hba2 hbb2 hB1
  go_wp2
  go_ret
  exact ⟨rfl, hB2⟩
end Go.Proofs.Ytnlgdcoeooppnaa.octetOrder

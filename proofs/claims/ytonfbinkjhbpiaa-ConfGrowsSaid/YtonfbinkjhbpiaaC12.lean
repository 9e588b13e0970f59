/- The laws' first line of the conf layer: the layer does something. No condition. -/
import Derived.Test.YtonfbinkjhbpiaaC11
namespace Go.Proofs.Ytonfbinkjhbpiaa
open Go.RowKit Go.Shelf
set_option linter.unusedVariables false

theorem wk_add : addL [2, 4] 3 = [2, 3, 4] := by decide +kernel
theorem wk_addE : addE [2, 4] 3 = 0 := by decide +kernel
theorem wk_enc : encL [2, 3, 4] = [3, 2, 3, 4] := by decide +kernel
theorem wk_askE : askE [2, 3, 4] = 0 := by decide +kernel
theorem wk_more : moreB (askX [2, 3, 4]) (ofS [4, 2]) = true := by decide +kernel
theorem wk_less : moreB (askX [2, 3, 4]) (ofS [4, 4]) = false := by decide +kernel
theorem own_len {w : World} {base : Nat} {e : TypeId} {n : Nat} {v : Value} {k : IntKind} {l : List Int} (h : w.ownsRow base e 1 v n (ib k l)) : l.length = n := by
  have := h.1
  simpa [ib] using this

set_option maxHeartbeats 1000000 in
theorem wakes_any (w : World) : Calls Try.prog 10 #[] w fun e w' => e = .returned (.bool true) ∧ Below w.heap.size w w' := by
  have L1 : Sees (w.alloc (.cells #[.int .i64 2, .int .i64 4] 3)) (some 3) 1 (some ⟨w.heap.size, 0, none⟩) 2 (ib .i64 [2, 4]) := sees_lit w #[.int .i64 2, .int .i64 4] 3 1 2 rfl
  have HB := Lib.hid ((Below.refl _ w).alloc (Nat.le_refl _) (.cells #[.int .i64 2, .int .i64 4] 3))
  go_enter Try.func10, Try.ntmps10
  go_wp2_with fail
  refine (add_any _ 2 2 [2, 4] 3 _ L1 (by omega)).mono ?_
  rintro e w1 ⟨A1, n1, c1, rfl, ho1, hb1⟩
  rw [wk_addE]
  rw [wk_add] at ho1
  obtain rfl : 3 = n1 := own_len ho1
  have HB1 := Lib.hid (HB.out.trans (hb1.mono HB.out.size))
  have s1 := Sees.of_own ho1
  have k0 := Blk.new w1 27 #[.slice A1 3 c1]
  have HB2 := Lib.hid (HB1.out.trans (((Below.refl _ w1).alloc (Nat.le_refl _) (.cells #[.slice A1 3 c1] 27)).mono HB1.out.size))
  have s2 := s1.alloc (.cells #[.slice A1 3 c1] 27)
  clear L1 ho1 hb1 HB s1 HB1
  go_wp2_with fail
  refine (encode_any A1 3 c1 [2, 3, 4] _ s2 (by omega)).mono ?_
  rintro e w3 ⟨A3, n3, c3, rfl, ho3, hb3⟩
  rw [wk_askE]
  rw [wk_enc] at ho3
  obtain rfl : 4 = n3 := own_len ho3
  have HB3 := Lib.hid (HB2.out.trans (hb3.mono HB2.out.size))
  have s3 := s2.below hb3
  have k3 := k0.below hb3
  have c0 := k3.cell 0
  clear s2 k0 hb3 HB2 ho3
  go_wp2_with fail
  have L3 : Sees (w3.alloc (.cells #[.int .i64 2, .int .i64 3, .int .i64 4] 3)) (some 3) 1 (some ⟨w3.heap.size, 0, none⟩) 3 (ib .i64 [2, 3, 4]) := sees_lit w3 #[.int .i64 2, .int .i64 3, .int .i64 4] 3 1 3 rfl
  have s3' := s3.alloc (.cells #[.int .i64 2, .int .i64 3, .int .i64 4] 3)
  have k3' := k3.alloc (.cells #[.int .i64 2, .int .i64 3, .int .i64 4] 3)
  have HB3' := Lib.hid (HB3.out.alloc HB3.out.size (.cells #[.int .i64 2, .int .i64 3, .int .i64 4] 3))
  refine (equalInt_any A1 _ 3 c1 3 3 [2, 3, 4] [2, 3, 4] _ s3' L3 (by omega)).mono ?_
  rw [show eqB [2, 3, 4] [2, 3, 4] = true from rfl]
  rintro e w4 ⟨rfl, q4, hq4⟩
  have s4 := s3'.drewN q4
  have k4 := k3'.drewN q4
  have HB4 := Lib.hid (below_drewN HB3'.out q4)
  rw [← hq4] at s4 k4 HB4
  clear hq4 s3' k3' HB3' L3 s3 k3 HB3 c0
  have c0 := k4.cell 0
  go_wp2_with fail
  have L4 : Sees (w4.alloc (.cells #[.int .i64 4, .int .i64 2] 3)) (some 3) 1 (some ⟨w4.heap.size, 0, none⟩) 2 (ib .i64 [4, 2]) := sees_lit w4 #[.int .i64 4, .int .i64 2] 3 1 2 rfl
  have s4' := s4.alloc (.cells #[.int .i64 4, .int .i64 2] 3)
  have k4' := k4.alloc (.cells #[.int .i64 4, .int .i64 2] 3)
  have HB4' := Lib.hid (HB4.out.alloc HB4.out.size (.cells #[.int .i64 4, .int .i64 2] 3))
  refine (majority_any A1 _ 3 c1 2 2 [2, 3, 4] [4, 2] _ s4' L4 (by omega) (by omega)).mono ?_
  rw [wk_more]
  rintro e w5 ⟨rfl, hb5⟩
  have s5 := s4'.below hb5
  have k5 := k4'.below hb5
  have HB5 := Lib.hid (HB4'.out.trans (hb5.mono HB4'.out.size))
  clear s4' k4' HB4' L4 s4 k4 HB4 c0 hb5
  have c0 := k5.cell 0
  go_wp2_with fail
  have L5 : Sees (w5.alloc (.cells #[.int .i64 4, .int .i64 4] 3)) (some 3) 1 (some ⟨w5.heap.size, 0, none⟩) 2 (ib .i64 [4, 4]) := sees_lit w5 #[.int .i64 4, .int .i64 4] 3 1 2 rfl
  have s5' := s5.alloc (.cells #[.int .i64 4, .int .i64 4] 3)
  have k5' := k5.alloc (.cells #[.int .i64 4, .int .i64 4] 3)
  have HB5' := Lib.hid (HB5.out.alloc HB5.out.size (.cells #[.int .i64 4, .int .i64 4] 3))
  refine (majority_any A1 _ 3 c1 2 2 [2, 3, 4] [4, 4] _ s5' L5 (by omega) (by omega)).mono ?_
  rw [wk_less]
  rintro e w6 ⟨rfl, hb6⟩
  have HB6 := Lib.hid (HB5'.out.trans (hb6.mono HB5'.out.size))
  clear s5' k5' HB5' L5 s5 k5 HB5 c0 hb6
  go_wp2
  go_ret
  exact ⟨rfl, HB6.out⟩
end Go.Proofs.Ytonfbinkjhbpiaa

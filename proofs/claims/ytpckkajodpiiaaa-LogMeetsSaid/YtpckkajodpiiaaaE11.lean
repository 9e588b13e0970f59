/- A log's spots one behind the other, from the end on, as an iterator. No condition. -/
import Derived.Test.YtpckkajodpiiaaaE10
import Derived.RangeFuncBox
import Derived.RangeFuncNested
import Derived.RangeFuncLeaves
import Derived.Shelf.Abstract
import Derived.OwnWalkIn
import Derived.TacticsInMore
import Derived.LoopNIn
import Derived.LoopIn
namespace Go.Proofs.Ytpckkajodpiiaaa
open Go.RowKit Go.Shelf
set_option linter.unusedVariables false
set_option linter.unusedSimpArgs false

attribute [local go_sem] Oper.semAt_some

set_option maxRecDepth 100000 in
set_option maxHeartbeats 1600000 in
theorem spots1_in {e2 : Option TypeId} (n : Nat) (hn : 1 ≤ n) (l Bn : Nat) (i t : Int) (A : Option Addr) (N c : Nat) (ps : List EP) (hN : N ≤ 1000000000) (hi0 : 0 ≤ i) (hi1 : i < 18446744073709551616)
    (J Jx : Nat → World → Prop) (Kp : World → World → Prop)
    (hK : ∀ A' B', Kp A' B' → (Blk A' Bn 79 #[.int .u64 i, .int .u64 t, .slice A N c] ∧ SeesE A' e2 A N ps) → (Blk B' Bn 79 #[.int .u64 i, .int .u64 t, .slice A N c] ∧ SeesE B' e2 A N ps))
    (hJB : ∀ m A' B', J m A' → Below A'.heap.size A' B' → J m B')
    (hY : ∀ m W, J m W → m ≤ N → YieldAt Fence.wide (n - 1) Try.prog l #[.int .i64 ((N : Int) - m), atV (spotN i t (es ps) (N - m))] W fun e W' =>
      (e = .returned (.bool true) ∧ J (m + 1) W' ∧ Kp W W') ∨ (e = .returned (.bool false) ∧ Jx m W'))
    (W : World) (hI : Blk W Bn 79 #[.int .u64 i, .int .u64 t, .slice A N c] ∧ SeesE W e2 A N ps) (h0 : J 0 W) :
    CallsIn Fence.wide n Try.prog 71 #[.func (.yield l) #[] #[], .pointer (some ⟨Bn, 0, none⟩)] W fun e W' => (∃ v, e = .returned v) ∧ (J (N + 1) W' ∨ ∃ m, m ≤ N ∧ Jx m W') := by
  have c2 := hI.1.cell 2
  simp at c2
  refine callsIn_of_wp Try.func71 rfl trivial ?_ rfl
  simp only [Try.ntmps71, List.size_toArray, List.length_cons, List.length_nil, Nat.reduceAdd, Nat.reduceSub, Array.replicate_succ, Array.replicate_zero, List.push_toArray, List.append_toArray, List.nil_append, List.cons_append]
  gi_wp2
  gi_loopw [3] (fun p wr => ∃ m : Nat, m ≤ N + 1 ∧ p = .int .i64 ((N : Int) - m) ∧ (Blk wr Bn 79 #[.int .u64 i, .int .u64 t, .slice A N c] ∧ SeesE wr e2 A N ps) ∧ J m wr)
    (fun p _ => ((intOf p) + 1).toNat)
  case atStart => exact ⟨0, by omega, by go_num, hI, h0⟩
  case round =>
    obtain ⟨m, hm, rfl, hI1, hJs⟩ := hrel
    by_cases h6 : m ≤ N
    · have k := hI1.1
      have c0 := k.cell 0
      have c1 := k.cell 1
      have c2 := k.cell 2
      simp at c0 c1 c2
      have hF : Fence.wide.fn 62 := trivial
      have HK : CallsIn Fence.wide (n - 1) Try.prog 62 #[.agg #[.int .u64 i, .int .u64 t, .slice A N c], .int .i64 ((N : Int) - m)] wr fun e w' => e = .returned (atV (spotN i t (es ps) (N - m))) ∧ Below wr.heap.size wr w' :=
        callsIn_wide.2 (by have := spot_any i t A N c ps (N - m) wr hI1.2 hN (by omega) hi0 hi1; rw [show ((N - m : Nat) : Int) = (N : Int) - m by omega] at this; exact this)
      gi_wp2_with fail
      refine HK.mono ?_
      rintro e x1 ⟨rfl, hb1⟩
      have hI2 : Blk x1 Bn 79 #[.int .u64 i, .int .u64 t, .slice A N c] ∧ SeesE x1 e2 A N ps := ⟨hI1.1.below hb1, hI1.2.below hb1⟩
      have hJ2 := hJB m _ _ hJs hb1
      clear c0 c1 c2 k HK hb1
      obtain ⟨fn, tmps, assign, body, hy, hR⟩ := hY m x1 hJ2 h6
      gi_wp2_with fail
      refine hR.mono ?_
      rintro e W' (⟨rfl, hJ', hk'⟩ | ⟨rfl, hJx'⟩)
      · have hI3 := hK _ _ hk' hI2
        gi_wp2
        go_roundw
        case rel => exact ⟨m + 1, by omega, by go_num, hI3, hJ'⟩
        case measure => simp [intOf]; omega
      · gi_wp2
        refine bodyPost_ret (results_none rfl _ _ _) rfl ?_
        exact ⟨⟨_, rfl⟩, .inr ⟨m, h6, hJx'⟩⟩
    · obtain rfl : m = N + 1 := by omega
      gi_wp2
      go_end0
      exact ⟨⟨_, rfl⟩, .inl hJs⟩
end Go.Proofs.Ytpckkajodpiiaaa

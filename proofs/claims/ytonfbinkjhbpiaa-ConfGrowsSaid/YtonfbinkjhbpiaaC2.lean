/- The walks of the conf layer's crews: how many, whether more than half, the numbers one behind the other, collected. No condition. -/
import Derived.Test.YtonfbinkjhbpiaaC1
import Derived.RangeFuncBox
import Derived.RangeFuncNested
import Derived.RangeFuncLeaves
import Derived.Shelf.Abstract
import Derived.OwnWalkIn
import Derived.TacticsInMore
import Derived.LoopNIn
import Derived.LoopIn
namespace Go.Proofs.Ytonfbinkjhbpiaa
open Go.RowKit Go.Shelf
set_option linter.unusedVariables false

attribute [local go_sem] Oper.semAt_some

theorem ones_any (X : Nat) (hX : X < 64) (h2 : X % 2 = 0) (w : World) : Calls Try.prog 50 #[.int .u64 X] w fun e w' => e = .returned (.int .i64 (sizeN X)) ∧ w = w' := by
  go_enter Try.func50, Try.ntmps50
  go_wp2_with (go_at_call 54; refine (ones64_any X hX h2 w).mono ?_; rintro e w1 ⟨rfl, rfl⟩)
  go_ret
  exact ⟨rfl, rfl⟩

theorem size_any (X : Nat) (hX : X < 64) (h2 : X % 2 = 0) (w : World) : Calls Try.prog 44 #[.int .u64 X] w fun e w' => e = .returned (.int .i64 (sizeN X)) ∧ w = w' := by
  go_enter Try.func44, Try.ntmps44
  go_wp2_with (go_at_call 50; refine (ones_any X hX h2 w).mono ?_; rintro e w1 ⟨rfl, rfl⟩)
  go_ret
  exact ⟨rfl, rfl⟩

theorem sizeN_le (X : Nat) : sizeN X ≤ 5 := List.length_filter_le _ _
theorem and_even (X Y : Nat) (h : X % 2 = 0) : (X &&& Y) % 2 = 0 := by
  have : (X &&& Y).testBit 0 = (X.testBit 0 && Y.testBit 0) := Nat.testBit_and ..
  simp only [Nat.testBit_zero] at this
  have hx : decide (X % 2 = 1) = false := by simp; omega
  rw [hx, Bool.false_and] at this
  have := of_decide_eq_false this
  omega

/-- Are more than half of X in Y? -/
def moreB (X Y : Nat) : Bool := decide (sizeN X < 2 * sizeN (X &&& Y))

theorem more_any (X Y : Nat) (hX : X < 64) (h2 : X % 2 = 0) (hY : Y < 64) (w : World) : Calls Try.prog 42 #[.int .u64 X, .int .u64 Y] w fun e w' => e = .returned (.bool (moreB X Y)) ∧ w = w' := by
  have hb := bits_and X Y hX hY
  have H1 := Lib.hid (sizeN_le X)
  have H2 := Lib.hid (sizeN_le (X &&& Y))
  have H3 := Lib.hid (and_lt64 X Y hY)
  have H4 := Lib.hid (and_even X Y h2)
  go_enter Try.func42, Try.ntmps42
  go_wp2_with (go_at_call 44; first | (refine (size_any (X &&& Y) H3.out H4.out w).mono ?_; rintro e w1 ⟨rfl, rfl⟩) | (refine (size_any X hX h2 w).mono ?_; rintro e w1 ⟨rfl, rfl⟩))
  go_ret
  have h1 := H1.out
  have h2 := H2.out
  refine ⟨ret_bool ?_, rfl⟩
  unfold moreB
  congr 1
  have hw : wrap64 (2 * (sizeN (X &&& Y) : Int)) = 2 * (sizeN (X &&& Y) : Int) := by unfold wrap64; omega
  rw [hw]
  simp only [eq_iff_iff]
  omega

theorem numbers_any (X : Nat) (w : World) : Calls Try.prog 45 #[.int .u64 X] w fun e w' =>
    e = .returned (.func (.func 51) #[] #[.pointer (some ⟨w.heap.size, 0, none⟩)]) ∧ w' = w.alloc (.cells #[.int .u64 X] 66) := by
  have hmf : ∀ (fn : Fn) (first : Array Value) (cap : Array Value) (w : World), (Instr.makeFunc fn first cap).run Try.prog w = .ok (.func fn first cap) w := fun _ _ _ _ => rfl
  go_enter Try.func45, Try.ntmps45
  go_wp2
  go_ret
  exact ⟨rfl, rfl⟩
end Go.Proofs.Ytonfbinkjhbpiaa

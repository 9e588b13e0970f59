/- slices.Clone, Insert, Delete of the net's rows, as walks ask of them. No condition. -/
import Derived.Test.YtmhmldpccccjbaaND
import Derived.Test.YtmhmldpccccjbaaU15
namespace Go.Proofs.Ytmhmldpccccjbaa
open Go.RowKit
set_option linter.unusedVariables false
set_option linter.unusedSimpArgs false

theorem insC_slot : InsC Try.prog 69 65 4 := ins_any_slot
theorem insC_deaf : InsC Try.prog 40 77 2 := ins_any_deaf
theorem delC_slot : DelC Try.prog 75 65 4 := del_any_slot
theorem delC_deaf : DelC Try.prog 42 77 2 := del_any_deaf

set_option maxHeartbeats 1600000 in
theorem clone_slot : CloneC Try.prog 66 65 4 := ⟨by kernel_rfl, by omega, fun A m c xs w hs hm h1 => by
  have T0 : ElemTy Try.prog 22 65 (.agg #[.int .i64 0, .int .i64 0, .int .i64 0, .slice none 0 0]) 4 48 := ⟨Try.underlying22, by kernel_rfl, rfl, by omega, by omega⟩
  rcases A with _ | ad
  · have hq0 := hs.2.1 rfl
    subst hq0
    have HP := Lib.hid hs.empty
    have hnil := fun (w : World) => Lib.run_eql_slice_nil (P := Try.prog) w 22 65 (none) 0 c 0 0 Try.underlying22
    go_enter Try.func66, Try.ntmps66
    go_wp2
    go_ret
    exact ⟨none, 0, rfl, by rw [HP.out]; exact World.ownsRow_nil _ _ _ _, Below.refl _ _⟩
  · have hnil := fun (w : World) => Lib.run_eql_slice_nil (P := Try.prog) w 22 65 (some ad) m c 0 0 Try.underlying22
    go_enter Try.func66, Try.ntmps66
    go_wp2_with (at_builtin; refine Door.enter ?_)
    refine Door.leave (wl_append T0 (base := w.heap.size) (World.ownsRow_lit w #[] 0 (Nat.le_refl _) (by simp [maxLen]) (by simp)) (hs.alloc _) (Nat.zero_add _) (List.nil_append _) h1 (by omega) (by simp) rfl rfl rfl rfl ?_)
    intro A' c' w' h2 h3 h4 h5
    go_wp2
    go_ret
    exact ⟨A', c', rfl, h2, ((Below.refl _ w).alloc (Nat.le_refl _) _).trans h3⟩⟩

set_option maxHeartbeats 1600000 in
theorem clone_deaf : CloneC Try.prog 29 77 2 := ⟨by kernel_rfl, by omega, fun A m c xs w hs hm h1 => by
  have T0 : ElemTy Try.prog 23 77 (.agg #[.int .i64 0, .int .i64 0]) 2 16 := ⟨Try.underlying23, by kernel_rfl, rfl, by omega, by omega⟩
  rcases A with _ | ad
  · have hq0 := hs.2.1 rfl
    subst hq0
    have HP := Lib.hid hs.empty
    have hnil := fun (w : World) => Lib.run_eql_slice_nil (P := Try.prog) w 23 77 (none) 0 c 0 0 Try.underlying23
    go_enter Try.func29, Try.ntmps29
    go_wp2
    go_ret
    exact ⟨none, 0, rfl, by rw [HP.out]; exact World.ownsRow_nil _ _ _ _, Below.refl _ _⟩
  · have hnil := fun (w : World) => Lib.run_eql_slice_nil (P := Try.prog) w 23 77 (some ad) m c 0 0 Try.underlying23
    go_enter Try.func29, Try.ntmps29
    go_wp2_with (at_builtin; refine Door.enter ?_)
    refine Door.leave (wl_append T0 (base := w.heap.size) (World.ownsRow_lit w #[] 0 (Nat.le_refl _) (by simp [maxLen]) (by simp)) (hs.alloc _) (Nat.zero_add _) (List.nil_append _) h1 (by omega) (by simp) rfl rfl rfl rfl ?_)
    intro A' c' w' h2 h3 h4 h5
    go_wp2
    go_ret
    exact ⟨A', c', rfl, h2, ((Below.refl _ w).alloc (Nat.le_refl _) _).trans h3⟩⟩

set_option maxHeartbeats 1600000 in
theorem clone_byte : CloneC Try.prog 30 5 1 := ⟨by kernel_rfl, by omega, fun A m c xs w hs hm h1 => by
  have T0 : ElemTy Try.prog 50 5 (.int .u8 0) 1 1 := ⟨Try.underlying50, by kernel_rfl, rfl, by omega, by omega⟩
  rcases A with _ | ad
  · have hq0 := hs.2.1 rfl
    subst hq0
    have HP := Lib.hid hs.empty
    have hnil := fun (w : World) => Lib.run_eql_slice_nil (P := Try.prog) w 50 5 (none) 0 c 0 0 Try.underlying50
    go_enter Try.func30, Try.ntmps30
    go_wp2
    go_ret
    exact ⟨none, 0, rfl, by rw [HP.out]; exact World.ownsRow_nil _ _ _ _, Below.refl _ _⟩
  · have hnil := fun (w : World) => Lib.run_eql_slice_nil (P := Try.prog) w 50 5 (some ad) m c 0 0 Try.underlying50
    go_enter Try.func30, Try.ntmps30
    go_wp2_with (at_builtin; refine Door.enter ?_)
    refine Door.leave (wl_append T0 (base := w.heap.size) (World.ownsRow_lit w #[] 0 (Nat.le_refl _) (by simp [maxLen]) (by simp)) (hs.alloc _) (Nat.zero_add _) (List.nil_append _) h1 (by omega) (by simp) rfl rfl rfl rfl ?_)
    intro A' c' w' h2 h3 h4 h5
    go_wp2
    go_ret
    exact ⟨A', c', rfl, h2, ((Below.refl _ w).alloc (Nat.le_refl _) _).trans h3⟩⟩
end Go.Proofs.Ytmhmldpccccjbaa

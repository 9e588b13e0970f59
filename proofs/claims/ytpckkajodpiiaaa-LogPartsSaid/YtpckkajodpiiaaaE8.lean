/- Clones: a row of entries (the bytes shared), a row of bytes. No condition. -/
import Derived.Test.YtpckkajodpiiaaaE7
namespace Go.Proofs.Ytpckkajodpiiaaa
open Go.RowKit
set_option linter.unusedVariables false
set_option linter.unusedSimpArgs false

theorem ty_entry : ElemTy Try.prog 25 46 (.agg #[.int .u64 0, .int .i64 0, .slice none 0 0]) 3 40 := ⟨Try.underlying25, by kernel_rfl, rfl, by omega, by omega⟩
theorem ty_byte : ElemTy Try.prog 44 5 (.int .u8 0) 1 1 := ⟨Try.underlying44, by kernel_rfl, rfl, by omega, by omega⟩

set_option maxHeartbeats 800000 in
theorem eclone_any {e2 : Option TypeId} (A : Option Addr) (q c : Nat) (ps : List EP) (w : World) (hs : Sees w e2 3 A q (em ps)) (hq : q ≤ 1000000000) :
    Calls Try.prog 73 #[.slice A q c] w fun e w' => ∃ A' c', e = .returned (.slice A' q c') ∧ w'.ownsRow w.heap.size 46 3 (.slice A' q c') q (em ps) ∧ Below w.heap.size w w' := by
  rcases A with _ | ad
  · have hq0 := hs.2.1 rfl
    subst hq0
    have HP := Lib.hid hs.empty
    have hnil := fun (w : World) => Lib.run_eql_slice_nil (P := Try.prog) w 25 46 (none) 0 c 0 0 Try.underlying25
    go_enter Try.func73, Try.ntmps73
    go_wp2
    go_ret
    exact ⟨none, 0, rfl, by rw [HP.out]; exact World.ownsRow_nil _ _ _ _, Below.refl _ _⟩
  · have hnil := fun (w : World) => Lib.run_eql_slice_nil (P := Try.prog) w 25 46 (some ad) q c 0 0 Try.underlying25
    go_enter Try.func73, Try.ntmps73
    go_wp2_with (at_builtin; refine Door.enter ?_)
    refine Door.leave (wl_append ty_entry (base := w.heap.size) (World.ownsRow_lit w #[] 0 (Nat.le_refl _) (by simp [maxLen]) (by simp)) (hs.alloc _) (Nat.zero_add _) (List.nil_append _) (em_one _) (by omega) (by simp) rfl rfl rfl rfl ?_)
    intro A' c' w' h2 h3 h4 h5
    go_wp2
    go_ret
    exact ⟨A', c', rfl, h2, ((Below.refl _ w).alloc (Nat.le_refl _) _).trans h3⟩

set_option maxHeartbeats 800000 in
theorem bclone_any {e2 : Option TypeId} (A : Option Addr) (q c : Nat) (l : List Int) (w : World) (hs : Sees w e2 1 A q (ib .u8 l)) (hq : q ≤ 1000000000000) :
    Calls Try.prog 64 #[.slice A q c] w fun e w' => ∃ A' c', e = .returned (.slice A' q c') ∧ w'.ownsRow w.heap.size 5 1 (.slice A' q c') q (ib .u8 l) ∧ Below w.heap.size w w' := by
  rcases A with _ | ad
  · have hq0 := hs.2.1 rfl
    subst hq0
    have HP := Lib.hid hs.empty
    have hnil := fun (w : World) => Lib.run_eql_slice_nil (P := Try.prog) w 44 5 (none) 0 c 0 0 Try.underlying44
    go_enter Try.func64, Try.ntmps64
    go_wp2
    go_ret
    exact ⟨none, 0, rfl, by rw [HP.out]; exact World.ownsRow_nil _ _ _ _, Below.refl _ _⟩
  · have hnil := fun (w : World) => Lib.run_eql_slice_nil (P := Try.prog) w 44 5 (some ad) q c 0 0 Try.underlying44
    go_enter Try.func64, Try.ntmps64
    go_wp2_with (at_builtin; refine Door.enter ?_)
    refine Door.leave (wl_append ty_byte (base := w.heap.size) (World.ownsRow_lit w #[] 0 (Nat.le_refl _) (by simp [maxLen]) (by simp)) (hs.alloc _) (Nat.zero_add _) (List.nil_append _) (ib_one _ _) (by omega) (by simp) rfl rfl rfl rfl ?_)
    intro A' c' w' h2 h3 h4 h5
    go_wp2
    go_ret
    exact ⟨A', c', rfl, h2, ((Below.refl _ w).alloc (Nat.le_refl _) _).trans h3⟩
end Go.Proofs.Ytpckkajodpiiaaa

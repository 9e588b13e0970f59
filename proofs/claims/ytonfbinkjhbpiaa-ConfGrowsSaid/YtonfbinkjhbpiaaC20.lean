/- The walks of the conf layer: members and one more, by the reference. No condition. -/
import Derived.Test.YtonfbinkjhbpiaaC19
namespace Go.Proofs.Ytonfbinkjhbpiaa
open Go.RowKit Go.Shelf
set_option linter.unusedVariables false

set_option maxHeartbeats 800000 in
theorem rwith_any {e1 : Option TypeId} (A : Option Addr) (n c : Nat) (l : List Int) (m : Int) (w : World) (hs : Sees w e1 1 A n (ib .i64 l)) (hn : n ≤ 1000000) :
    Calls Try.prog 32 #[cf A n c, .int .i64 m] w fun e w' => ∃ A' q c', e = .returned (cf A' q c') ∧ q ≤ 5 ∧ w'.ownsRow w.heap.size 3 1 (.slice A' q c') q (ib .i64 (ofM (l ++ [m]))) ∧ Below w.heap.size w w' := by
  have HL := Lib.hid hs.len
  have hs1 := (hs.alloc (.cells #[.slice A n c] 27)).alloc (.cells #[.slice none 0 0] 27)
  have HB := Lib.hid (((Below.refl _ w).alloc (Nat.le_refl _) (.cells #[.slice A n c] 27)).alloc (by simp) (.cells #[.slice none 0 0] 27))
  have k2 := Blk.new (w.alloc (.cells #[.slice A n c] 27)) 27 #[.slice none 0 0]
  simp only [World.size_alloc] at k2
  have HK2 := Lib.hid k2
  clear k2
  go_enter Try.func32, Try.ntmps32
  go_wp2_with (at_builtin; refine Door.enter ?_)
  have hz : ((w.alloc (.cells #[.slice A n c] 27)).alloc (.cells #[.slice none 0 0] 27)).heap.size = w.heap.size + 2 := by simp
  have HZ := Lib.hid hz
  clear hz
  obtain ⟨w2, hw2⟩ : ∃ w2, (w.alloc (.cells #[.slice A n c] 27)).alloc (.cells #[.slice none 0 0] 27) = w2 := ⟨_, rfl⟩
  rw [hw2] at hs1 HB HK2 HZ ⊢
  clear hw2
  rw [show w.heap.size + 1 + 1 = w2.heap.size from HZ.out.symm]
  refine Door.leave (wl_append ty_ints (base := w2.heap.size) (World.ownsRow_lit w2 #[] 0 (Nat.le_refl _) (by simp [maxLen]) (by simp)) (hs1.alloc _) (Nat.zero_add _) (List.nil_append _) (ib_one _ _) (by omega) (by simp) rfl rfl rfl rfl ?_)
  intro A3 c3 w3 ho3 hb3 _ _
  have hb3' := ((Below.refl _ w2).alloc (Nat.le_refl _) (.cells #[] 3)).trans hb3
  go_wp2_with (at_builtin; refine Door.enter ?_)
  refine Door.leave (wl_append_lit ty_ints ho3 (m := 1) (k := n + 1) rfl rfl (ib_snoc _ _ _) (by simp [Value.oneCell']) (by omega) hb3'.size rfl rfl rfl rfl ?_)
  intro A4 c4 w4 ho4 hb4 _ _
  have hb24 := hb3'.trans hb4
  have k4 := HK2.out.below hb24
  go_wp2_with fail
  refine (rof_any A4 (n + 1) c4 _ _ (Sees.of_own ho4) (by omega)).mono ?_
  rintro e w5 ⟨A5, q5, c5, rfl, hq5, ho5, hb5⟩
  have k5 := k4.below hb5
  have c5c := k5.cell 0
  have c5f := k5.frozen 0
  go_wp2
  have r0 := (k5.put 0 (.slice A5 q5 c5)).cell 0
  simp at r0
  refine bodyPost_ret (v := cf A5 q5 c5) (by simp [results, Try.results32, go_sem, r0]) rfl ?_
  have hB := HB.out.trans (hb24.mono HB.out.size)
  exact ⟨A5, q5, c5, rfl, hq5, own_mono (own_set_low ho5 k4.lt) hB.size, (hB.trans (hb5.mono hB.size)).setCell (Nat.le_succ _) _⟩
end Go.Proofs.Ytonfbinkjhbpiaa

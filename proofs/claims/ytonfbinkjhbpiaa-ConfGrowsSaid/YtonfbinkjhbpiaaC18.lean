/- The walks of the conf layer: members but one, by the reference. No condition. -/
import Derived.Test.YtonfbinkjhbpiaaC17
namespace Go.Proofs.Ytonfbinkjhbpiaa
open Go.RowKit Go.Shelf
set_option linter.unusedVariables false

def butL (l : List Int) (m : Int) : List Int := l.filter fun x => x != m
theorem butL_snoc (l : List Int) (x m : Int) : butL (l ++ [x]) m = butL l m ++ if (x != m) = true then [x] else [] := by
  unfold butL
  rw [List.filter_append]
  by_cases h : (x != m) = true
  · rw [List.filter_cons_of_pos (p := fun x => x != m) h, if_pos h]; rfl
  · rw [List.filter_cons_of_neg (p := fun x => x != m) h, if_neg h]; rfl

set_option maxHeartbeats 1000000 in
theorem rwithout_any {e1 : Option TypeId} (A : Option Addr) (n c : Nat) (l : List Int) (m : Int) (w : World) (hs : Sees w e1 1 A n (ib .i64 l)) (hn : n ≤ 1000000) :
    Calls Try.prog 31 #[cf A n c, .int .i64 m] w fun e w' => ∃ A' q c', e = .returned (cf A' q c') ∧ q ≤ n ∧ w'.ownsRow w.heap.size 3 1 (.slice A' q c') q (ib .i64 (butL l m)) ∧ Below w.heap.size w w' := by
  have HL := Lib.hid hs.len
  have hB0 := (((Below.refl _ w).alloc (Nat.le_refl _) (.cells #[.slice A n c] 27)).alloc (by simp) (.cells #[.slice none 0 0] 27)).alloc (by simp; omega) (.cells #[.slice none 0 0] 27)
  have k2 := (Blk.new (w.alloc (.cells #[.slice A n c] 27)) 27 #[.slice none 0 0]).alloc (.cells #[.slice none 0 0] 27)
  have k3 := Blk.new ((w.alloc (.cells #[.slice A n c] 27)).alloc (.cells #[.slice none 0 0] 27)) 27 #[.slice none 0 0]
  have hz : (((w.alloc (.cells #[.slice A n c] 27)).alloc (.cells #[.slice none 0 0] 27)).alloc (.cells #[.slice none 0 0] 27)).heap.size = w.heap.size + 3 := by simp
  simp only [World.size_alloc] at k2 k3
  have HB0 := Lib.hid hB0
  have HK2 := Lib.hid k2
  have HK3 := Lib.hid k3
  have HZ := Lib.hid hz
  clear hB0 k2 k3 hz
  go_enter Try.func31, Try.ntmps31
  go_wp2
  obtain ⟨w1, hw1⟩ : ∃ w1, ((w.alloc (.cells #[.slice A n c] 27)).alloc (.cells #[.slice none 0 0] 27)).alloc (.cells #[.slice none 0 0] 27) = w1 := ⟨_, rfl⟩
  rw [hw1] at HB0 HK2 HK3 HZ ⊢
  clear hw1
  go_loopw [11] (fun p wr => ∃ (k : Nat) (A' : Option Addr) (q c' : Nat), k ≤ n ∧ p = .int .i64 k ∧ q ≤ k ∧ Blk wr (w.heap.size + 1 + 1) 27 #[.slice A' q c'] ∧ wr.ownsRow (w.heap.size + 3) 3 1 (.slice A' q c') q (ib .i64 (butL (l.take k) m)) ∧ Below (w.heap.size + 2) w1 wr ∧ w.heap.size + 3 ≤ wr.heap.size)
    (fun p _ => n - (intOf p).toNat)
  case atStart => exact ⟨0, none, 0, 0, by omega, rfl, by omega, HK3.out, World.ownsRow_nil _ _ _ _, Below.refl _ _, by rw [HZ.out]; exact Nat.le_refl _⟩
  case round =>
    obtain ⟨k, A', q, c', hk, rfl, hq, hk3, hown, hbr, hsz⟩ := hrel
    have q2 := HK2.out.low hbr (by omega)
    have c3 := hk3.cell 0
    have hbw := HB0.out.trans (hbr.mono (by omega))
    by_cases hlt : k < n
    · obtain ⟨ad, u, rfl, hu, hc⟩ := (hs.below hbw).at_ hlt
      obtain ⟨x, hx, rfl⟩ := ib_get hu
      have HS := Lib.hid (take_snoc hx)
      clear hx hu
      cases hxm : (x != m) with
      | false =>
        have HX := Lib.hid hxm
        go_wp2
        go_roundw
        case rel => exact ⟨k + 1, A', q, c', by omega, by go_num, by omega, hk3, by rw [HS.out, butL_snoc, if_neg (by rw [HX.out]; simp), List.append_nil]; exact hown, hbr, hsz⟩
        case measure => simp [intOf]; omega
      | true =>
        have HX := Lib.hid hxm
        go_wp2_with (at_builtin; refine Door.enter ?_)
        refine Door.leave (wl_append_lit ty_ints hown (m := 1) (k := q + 1) rfl rfl (ib_snoc _ _ _) (by simp [Value.oneCell']) (by omega) hsz rfl rfl rfl rfl ?_)
        intro A3 c3' w3 hown3 hb3 hg3 _
        have hk33 := hk3.low hb3 (by omega)
        have c33 := hk33.cell 0
        have f33 := hk33.frozen 0
        go_wp2
        go_roundw
        case rel => exact ⟨k + 1, A3, q + 1, c3', by omega, by go_num, by omega, hk33.put 0 _, by rw [HS.out, butL_snoc, if_pos HX.out]; exact own_set_low hown3 (by omega), (hbr.trans (hb3.mono (by omega))).setCell (Nat.le_refl _) _, by have := Nat.le_trans hsz hb3.size; simpa [World.setCell] using this⟩
        case measure => simp [intOf]; omega
    · have f2 := q2.frozen 0
      have c2 := q2.cell 0
      obtain rfl : k = n := by omega
      go_wp2
      have r := q2.put 0 (.slice A' q c')
      have r0 := r.cell 0
      simp at r0
      refine bodyPost_ret (v := cf A' q c') (by simp [results, Try.results31, go_sem, r0]) rfl ?_
      rw [take_all (by have := HL.out; omega)] at hown
      exact ⟨A', q, c', rfl, hq, own_mono (own_set_low hown (by omega)) (by omega), hbw.setCell (by simp) _⟩
end Go.Proofs.Ytonfbinkjhbpiaa

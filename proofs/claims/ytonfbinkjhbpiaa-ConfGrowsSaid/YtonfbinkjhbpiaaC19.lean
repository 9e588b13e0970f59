/- The walks of the conf layer: how many are members of one alone, and members and one more, by the reference. No condition. -/
import Derived.Test.YtonfbinkjhbpiaaC18
namespace Go.Proofs.Ytonfbinkjhbpiaa
open Go.RowKit Go.Shelf
set_option linter.unusedVariables false

theorem keepE {wr w1 w2 : World} {a b : Addr} {v u : Value} (h : w1.cell? a = some v ∧ w1.cell? b = some u ∧ Below wr.heap.size wr w1) (hb : Below w1.heap.size w1 w2) : w2.cell? a = some v ∧ w2.cell? b = some u ∧ Below wr.heap.size wr w2 :=
  ⟨by rw [hb.cell (World.block_lt_of_cell? w1 _ h.1)]; exact h.1, by rw [hb.cell (World.block_lt_of_cell? w1 _ h.2.1)]; exact h.2.1, h.2.2.trans (hb.mono h.2.2.size)⟩
theorem third {a b c : Prop} (h : a ∧ b ∧ c) : c := h.2.2

/-- Of the numbers from 1 on, k of them, how many are in one alone. -/
def farK (l r : List Int) (k : Nat) : Nat := (((List.range k).map fun i : Nat => (i : Int) + 1).filter fun m => decide (m ∈ l) != decide (m ∈ r)).length
theorem farK_succ (l r : List Int) (k : Nat) : farK l r (k + 1) = farK l r k + if (decide ((k : Int) + 1 ∈ l) != decide ((k : Int) + 1 ∈ r)) = true then 1 else 0 := by
  unfold farK
  rw [List.range_succ, List.map_append, List.filter_append, List.length_append]
  simp only [List.map_cons, List.map_nil]
  by_cases h : (decide ((k : Int) + 1 ∈ l) != decide ((k : Int) + 1 ∈ r)) = true
  · rw [List.filter_cons_of_pos (p := fun m => decide (m ∈ l) != decide (m ∈ r)) h, if_pos h]; rfl
  · rw [List.filter_cons_of_neg (p := fun m => decide (m ∈ l) != decide (m ∈ r)) h, if_neg h]; rfl

set_option maxHeartbeats 1600000 in
theorem rfar_any {e1 e2 : Option TypeId} (A B : Option Addr) (n c m d : Nat) (l r : List Int) (w : World) (hs : Sees w e1 1 A n (ib .i64 l)) (hr : Sees w e2 1 B m (ib .i64 r)) (hn : n ≤ 1000000000000) (hm : m ≤ 1000000000000) :
    Calls Try.prog 27 #[cf A n c, cf B m d] w fun e w' => e = .returned (.int .i64 (farK l r 5)) ∧ Below w.heap.size w w' := by
  have hs1 := (hs.alloc (.cells #[.slice A n c] 27)).alloc (.cells #[.slice B m d] 27)
  have hr1 := (hr.alloc (.cells #[.slice A n c] 27)).alloc (.cells #[.slice B m d] 27)
  have HB := Lib.hid (((Below.refl _ w).alloc (Nat.le_refl _) (.cells #[.slice A n c] 27)).alloc (by simp) (.cells #[.slice B m d] 27))
  have k1 := (Blk.new w 27 #[.slice A n c]).alloc (.cells #[.slice B m d] 27)
  have k2 := Blk.new (w.alloc (.cells #[.slice A n c] 27)) 27 #[.slice B m d]
  simp only [World.size_alloc] at k2
  have HK1 := Lib.hid k1
  have HK2 := Lib.hid k2
  clear k1 k2
  go_enter Try.func27, Try.ntmps27
  go_wp2
  obtain ⟨w1, hw1⟩ : ∃ w1, (w.alloc (.cells #[.slice A n c] 27)).alloc (.cells #[.slice B m d] 27) = w1 := ⟨_, rfl⟩
  rw [hw1] at hs1 hr1 HB HK1 HK2 ⊢
  clear hw1
  go_loopw [5, 6] (fun s p wr => ∃ (k q : Nat), k ≤ 5 ∧ p = .int .i64 ((k : Int) + 1) ∧ s = .int .i64 q ∧ q ≤ k ∧ Hid (q = farK l r k) ∧ Below w1.heap.size w1 wr)
    (fun _ p _ => 7 - (intOf p).toNat)
  case atStart => exact ⟨0, 0, by omega, rfl, rfl, by omega, rfl, Below.refl _ _⟩
  case round =>
    obtain ⟨k, q, hk, rfl, rfl, hq, HQ, hbr⟩ := hrel
    by_cases hlt : k < 5
    · have c1 := (HK1.out.below hbr).cell 0
      have c2 := (HK2.out.below hbr).cell 0
      simp at c1 c2
      have sl := hs1.below hbr
      have sr := hr1.below hbr
      have hS0 : wr.drew.cell? ⟨w.heap.size, 0, none⟩ = some (.slice A n c) ∧ wr.drew.cell? ⟨w.heap.size + 1, 0, none⟩ = some (.slice B m d) ∧ Below wr.heap.size wr wr.drew := ⟨c1, c2, (Below.refl _ _).drew⟩
      go_wp2_with fail
      go_region_held3 (fun w' => w'.cell? ⟨w.heap.size, 0, none⟩ = some (.slice A n c) ∧ w'.cell? ⟨w.heap.size + 1, 0, none⟩ = some (.slice B m d) ∧ Below wr.heap.size wr w') (assumption)
        (first
          | (go_at_call 16; with_reducible refine (rhas_any A n c l ((k : Int) + 1) _ (sl.below ?_) hn).mono ?_; (exact third ‹_ ∧ _ ∧ _›); rintro e x2 ⟨rfl, hb2⟩; have hS2 := keepE ‹_ ∧ _› hb2)
          | (go_at_call 16; with_reducible refine (rhas_any B m d r ((k : Int) + 1) _ (sr.below ?_) hm).mono ?_; (exact third ‹_ ∧ _ ∧ _›); rintro e x3 ⟨rfl, hb3⟩; have hS3 := keepE ‹_ ∧ _› hb3))
      have HB3 := Lib.hid (hbr.trans (hS3.2.2.mono hbr.size))
      have HF := Lib.hid (farK_succ l r k)
      clear hS0 hS2 hS3 hb2 hb3 c1 c2
      cases ha : decide ((k : Int) + 1 ∈ l) <;> cases hb : decide ((k : Int) + 1 ∈ r)
      all_goals
        have HX := HF.out
        rw [ha, hb] at HX
        have HX2 := Lib.hid HX
        clear HX ha hb HF
        go_wp2
        go_roundw
        case rel =>
          first
            | exact ⟨k + 1, q, by omega, by go_num, rfl, by omega, by unfold Hid; rw [HX2.out, ← HQ.out]; rfl, HB3.out⟩
            | exact ⟨k + 1, q + 1, by omega, by go_num, by go_num, by omega, by unfold Hid; rw [HX2.out, ← HQ.out]; rfl, HB3.out⟩
        case measure => simp [intOf]; omega
    · obtain rfl : k = 5 := by omega
      go_wp2
      go_ret
      exact ⟨ret_int (by rw [HQ.out]), HB.out.trans (hbr.mono HB.out.size)⟩
end Go.Proofs.Ytonfbinkjhbpiaa

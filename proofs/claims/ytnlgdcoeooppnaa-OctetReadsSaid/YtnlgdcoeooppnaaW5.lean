/- The walks of the octet layer: the reader, further. Conditions: those of Rd. -/
import Derived.Test.YtnlgdcoeooppnaaW4
namespace Go.Proofs.Ytnlgdcoeooppnaa
open Go.RowKit
set_option linter.unusedVariables false

theorem u64_join8 (X c : Int) (h : 0 ≤ 256 * X + c ∧ 256 * X + c < 18446744073709551616) (hX : 0 ≤ X) (hc0 : 0 ≤ c) (hc1 : c < 256) : bits .or .u64 (X * 256) c = 256 * X + c := by
  rw [u64_or _ _ (by omega) (by omega) hc0 (by omega)]
  have h1 : (X * 256).toNat % 2 ^ 8 = 0 := by omega
  rw [nat_join 8 _ _ h1 (by omega)]
  omega
theorem own_mono {w : World} {base base' : Nat} {e : TypeId} {size : Nat} {v : Value} {n : Nat} {xs : List Value} (h : w.ownsRow base e size v n xs) (hb : base' ≤ base) : w.ownsRow base' e size v n xs := by
  obtain ⟨h1, h2⟩ := h
  rcases h2 with h2 | ⟨g, cap, cur, hv, hg, r⟩
  · exact ⟨h1, .inl h2⟩
  · exact ⟨h1, .inr ⟨g, cap, cur, hv, by omega, r⟩⟩
theorem nextS_isB {l : List Int} (hB : isB l) (at_ : Nat) (err k : Int) : isB (nextS l at_ err k).2.2 := by
  unfold nextS
  split
  · exact fun x hx => by simp at hx
  · split
    · exact fun x hx => by simp at hx
    · split
      · exact fun x hx => by simp at hx
      · exact (hB.drop _).take _
theorem nextS_len (l : List Int) (at_ : Nat) (err : Int) (k : Nat) : (nextS l at_ err k).2.2.length ≤ k := by
  unfold nextS
  split
  · simp
  · split
    · simp
    · split
      · simp
      · simp; omega

section
variable {w : World} {g : Nat} {A : Option Addr} {n cap at_ : Nat} {l : List Int} {err : Int}

set_option maxHeartbeats 400000 in
theorem rnumber_any (h : Rd w g A n cap l at_ err) (hB : isB l) (k : Nat) (hk : k ≤ 8) : Calls Try.prog 49 #[.pointer (some ⟨g, 0, none⟩), .int .i64 k] w fun e w' => 
    e = .returned (.int .u64 (numS (nextS l at_ err k).2.2)) ∧ Rd w' g A n cap l (nextS l at_ err k).1 (nextS l at_ err k).2.1 ∧ w.grownBy w' (some g) := by
  go_enter Try.func49, Try.ntmps49
  go_wp2_with (go_at_call 48; refine (next_any h k).mono ?_; rintro e w1 ⟨B, m, c, rfl, hR, hs, hg⟩)
  have hO : isB (nextS l at_ err k).2.2 ∧ (nextS l at_ err k).2.2.length ≤ 8 := ⟨nextS_isB hB _ _ _, by have := nextS_len l at_ err k; omega⟩
  obtain ⟨out, HO⟩ : ∃ out, Hid (out = (nextS l at_ err k).2.2) := ⟨_, rfl⟩
  rw [← HO.out] at hs hO
  obtain ⟨hO, hO8⟩ := hO
  have HL := Lib.hid hs.len
  have hm8 : m ≤ 8 := by have := HL.out; omega
  go_loop [4, 6, 11] (fun s _ i => ∃ k : Nat, k ≤ m ∧ i = .int .i64 k ∧ s = .int .u64 (numS (out.take k))) (fun _ _ i => m - (intOf i).toNat)
  case atStart => exact ⟨0, Nat.zero_le _, rfl, rfl⟩
  case round =>
    obtain ⟨k, hk, rfl, rfl⟩ := hrel
    by_cases hlt : k < m
    · obtain ⟨ad, u, rfl, hu, hc⟩ := hs.at_ hlt
      obtain ⟨x, hx, rfl⟩ := ib_get hu
      obtain ⟨hx0, hx1⟩ := hO.get hx
      have h1 := numS_bd (hO.take (k + 1)) (by simp; omega)
      have HS := Lib.hid (take_snoc hx)
      rw [HS.out, numS_snoc] at h1
      have h0 := numS_bd (hO.take k) (by simp; omega)
      clear hx hu
      go_wp2
      go_round
      case rel => exact ⟨k + 1, by omega, by go_num, by rw [HS.out, numS_snoc, u64_join8 _ _ h1 h0.1 hx0 hx1]⟩
      case measure => simp [intOf]; omega
    · go_wp2
      go_ret
      exact ⟨ret_int (by rw [List.take_of_length_le (by have := HL.out; omega), ← HO.out]), hR, hg⟩
theorem u8_any (h : Rd w g A n cap l at_ err) (hB : isB l) : Calls Try.prog 31 #[.pointer (some ⟨g, 0, none⟩)] w fun e w' =>
    e = .returned (.int .u8 (numS (nextS l at_ err 1).2.2)) ∧ Rd w' g A n cap l (nextS l at_ err 1).1 (nextS l at_ err 1).2.1 ∧ w.grownBy w' (some g) := by
  have hb := numS_bd_aux _ _ rfl (nextS_isB hB at_ err 1)
  have hl : (nextS l at_ err 1).2.2.length ≤ 1 := nextS_len l at_ err 1
  have hp : (256 : Int) ^ (nextS l at_ err 1).2.2.length ≤ 256 := by
    have := Nat.pow_le_pow_right (show 0 < 256 by omega) hl
    have h3 : ((256 ^ (nextS l at_ err 1).2.2.length : Nat) : Int) ≤ 256 := by omega
    simpa using h3
  have h0 : 0 ≤ numS (nextS l at_ err 1).2.2 := hb.1
  have h1 : numS (nextS l at_ err 1).2.2 < 256 := by omega
  clear hb hl hp
  go_enter Try.func31, Try.ntmps31
  go_wp2_with (go_at_call 49; refine (rnumber_any h hB 1 (by omega)).mono ?_; rintro e w1 ⟨rfl, hR, hg⟩)
  go_ret
  exact ⟨rfl, hR, hg⟩

theorem u16_any (h : Rd w g A n cap l at_ err) (hB : isB l) : Calls Try.prog 32 #[.pointer (some ⟨g, 0, none⟩)] w fun e w' =>
    e = .returned (.int .u16 (numS (nextS l at_ err 2).2.2)) ∧ Rd w' g A n cap l (nextS l at_ err 2).1 (nextS l at_ err 2).2.1 ∧ w.grownBy w' (some g) := by
  have hb := numS_bd_aux _ _ rfl (nextS_isB hB at_ err 2)
  have hl : (nextS l at_ err 2).2.2.length ≤ 2 := nextS_len l at_ err 2
  have hp : (256 : Int) ^ (nextS l at_ err 2).2.2.length ≤ 65536 := by
    have := Nat.pow_le_pow_right (show 0 < 256 by omega) hl
    have h3 : ((256 ^ (nextS l at_ err 2).2.2.length : Nat) : Int) ≤ 65536 := by omega
    simpa using h3
  have h0 : 0 ≤ numS (nextS l at_ err 2).2.2 := hb.1
  have h1 : numS (nextS l at_ err 2).2.2 < 65536 := by omega
  clear hb hl hp
  go_enter Try.func32, Try.ntmps32
  go_wp2_with (go_at_call 49; refine (rnumber_any h hB 2 (by omega)).mono ?_; rintro e w1 ⟨rfl, hR, hg⟩)
  go_ret
  exact ⟨rfl, hR, hg⟩

theorem u32_any (h : Rd w g A n cap l at_ err) (hB : isB l) : Calls Try.prog 33 #[.pointer (some ⟨g, 0, none⟩)] w fun e w' =>
    e = .returned (.int .u32 (numS (nextS l at_ err 4).2.2)) ∧ Rd w' g A n cap l (nextS l at_ err 4).1 (nextS l at_ err 4).2.1 ∧ w.grownBy w' (some g) := by
  have hb := numS_bd_aux _ _ rfl (nextS_isB hB at_ err 4)
  have hl : (nextS l at_ err 4).2.2.length ≤ 4 := nextS_len l at_ err 4
  have hp : (256 : Int) ^ (nextS l at_ err 4).2.2.length ≤ 4294967296 := by
    have := Nat.pow_le_pow_right (show 0 < 256 by omega) hl
    have h3 : ((256 ^ (nextS l at_ err 4).2.2.length : Nat) : Int) ≤ 4294967296 := by omega
    simpa using h3
  have h0 : 0 ≤ numS (nextS l at_ err 4).2.2 := hb.1
  have h1 : numS (nextS l at_ err 4).2.2 < 4294967296 := by omega
  clear hb hl hp
  go_enter Try.func33, Try.ntmps33
  go_wp2_with (go_at_call 49; refine (rnumber_any h hB 4 (by omega)).mono ?_; rintro e w1 ⟨rfl, hR, hg⟩)
  go_ret
  exact ⟨rfl, hR, hg⟩

theorem u64_any (h : Rd w g A n cap l at_ err) (hB : isB l) : Calls Try.prog 34 #[.pointer (some ⟨g, 0, none⟩)] w fun e w' =>
    e = .returned (.int .u64 (numS (nextS l at_ err 8).2.2)) ∧ Rd w' g A n cap l (nextS l at_ err 8).1 (nextS l at_ err 8).2.1 ∧ w.grownBy w' (some g) := by
  have hb := numS_bd_aux _ _ rfl (nextS_isB hB at_ err 8)
  have hl : (nextS l at_ err 8).2.2.length ≤ 8 := nextS_len l at_ err 8
  have hp : (256 : Int) ^ (nextS l at_ err 8).2.2.length ≤ 18446744073709551616 := by
    have := Nat.pow_le_pow_right (show 0 < 256 by omega) hl
    have h3 : ((256 ^ (nextS l at_ err 8).2.2.length : Nat) : Int) ≤ 18446744073709551616 := by omega
    simpa using h3
  have h0 : 0 ≤ numS (nextS l at_ err 8).2.2 := hb.1
  have h1 : numS (nextS l at_ err 8).2.2 < 18446744073709551616 := by omega
  clear hb hl hp
  go_enter Try.func34, Try.ntmps34
  go_wp2_with (go_at_call 49; refine (rnumber_any h hB 8 (by omega)).mono ?_; rintro e w1 ⟨rfl, hR, hg⟩)
  go_ret
  exact ⟨rfl, hR, hg⟩

set_option maxHeartbeats 400000 in
theorem raw_any (h : Rd w g A n cap l at_ err) (k : Int) : Calls Try.prog 29 #[.pointer (some ⟨g, 0, none⟩), .int .i64 k] w fun e w' => ∃ B m c, e = .returned (.slice B m c) ∧
    Rd w' g A n cap l (nextS l at_ err k).1 (nextS l at_ err k).2.1 ∧ w'.ownsRow w.heap.size 5 1 (.slice B m c) m (ib .u8 (nextS l at_ err k).2.2) ∧ w.grownBy w' (some g) := by
  have hsm := h.small
  have hout : (nextS l at_ err k).2.2.length ≤ 1000000000000 := by
    have hl := h.sees.len
    unfold nextS
    split
    · simp
    · split
      · simp
      · split
        · simp
        · simp; omega
  go_enter Try.func29, Try.ntmps29
  go_wp2_with (go_at_call 48; refine (next_any h k).mono ?_; rintro e w1 ⟨B, m, c, rfl, hR, hs, hg⟩)
  have hm : m ≤ 1000000000000 := by have := hs.len; omega
  go_wp2_with (go_at_call 39; refine (clone_any B m c _ w1 hs hm).mono ?_; rintro e w2 ⟨B2, c2, rfl, ho, hb⟩)
  go_ret
  exact ⟨B2, m, c2, rfl, hR.below hb, own_mono ho hg.size, grown_trans hg (grown_below hb _)⟩

theorem goS_le (h : at_ ≤ l.length) (k : Int) : (goS l at_ err k).1 ≤ l.length := by
  unfold goS
  split
  · exact h
  · split
    · exact h
    · simp only; omega

set_option maxHeartbeats 400000 in
theorem go_any (h : Rd w g A n cap l at_ err) (k : Int) : Calls Try.prog 28 #[.pointer (some ⟨g, 0, none⟩), .int .i64 k] w fun e w' => e = .returned (.tuple #[]) ∧
    Rd w' g A n cap l (goS l at_ err k).1 (goS l at_ err k).2 ∧ w.grownBy w' (some g) := by
  have HL := Lib.hid h.sees.len
  have c0 := h.blk.cell 0
  have c1 := h.blk.cell 1
  have c2 := h.blk.cell 2
  simp at c0 c1 c2
  have f1 := h.blk.frozen 1
  have h1 := h.le
  have h2 := h.small
  have h3 := h.nc
  by_cases he : err = 0
  · subst he
    by_cases hk0 : (n : Int) - at_ < k
    · have hs : goS l at_ 0 k = (at_, 2) := by
        have hn0 : k > (l.length : Int) - at_ ∨ k < -(at_ : Int) := by rw [HL.out]; exact .inl hk0
        simp only [goS, if_pos hn0]; rfl
      have HS := Lib.hid hs
      clear hs
      go_enter Try.func28, Try.ntmps28
      go_wp2_with (first | (go_at_call 24; refine (left_any h).mono ?_; rintro e w1 ⟨rfl, nq, rfl⟩) | (go_at_call 47; refine (fails_any (h.drewN _) 2).mono ?_; rintro e w1 ⟨rfl, rfl⟩))
      go_end0
      rw [HS.out]
      exact ⟨rfl, (h.drewN _).err_ 2, grown_of_drewN (grown_set _ _ _ _)⟩
    · by_cases hk1 : k < -(at_ : Int)
      · have hs : goS l at_ 0 k = (at_, 2) := by
          have hn0 : k > (l.length : Int) - at_ ∨ k < -(at_ : Int) := .inr hk1
          simp only [goS, if_pos hn0]; rfl
        have HS := Lib.hid hs
        clear hs
        go_enter Try.func28, Try.ntmps28
        go_wp2_with (first | (go_at_call 24; refine (left_any h).mono ?_; rintro e w1 ⟨rfl, nq, rfl⟩) | (go_at_call 47; refine (fails_any (h.drewN _) 2).mono ?_; rintro e w1 ⟨rfl, rfl⟩))
        go_end0
        rw [HS.out]
        exact ⟨rfl, (h.drewN _).err_ 2, grown_of_drewN (grown_set _ _ _ _)⟩
      · have hs : goS l at_ 0 k = ((at_ + k).toNat, 0) := by
          have hn0 : ¬ (k > (l.length : Int) - at_ ∨ k < -(at_ : Int)) := by rw [HL.out]; omega
          simp only [goS, if_neg hn0]; rfl
        have HS := Lib.hid hs
        clear hs
        go_enter Try.func28, Try.ntmps28
        go_wp2_with (go_at_call 24; refine (left_any h).mono ?_; rintro e w1 ⟨rfl, nq, rfl⟩)
        go_end0
        rw [HS.out]
        exact ⟨rfl, (h.drewN _).at_i (by simp only; omega) (by simp only; omega), grown_of_drewN (grown_set _ _ _ _)⟩
  · have hb : (err != 0) = true := by simpa using he
    have hs : goS l at_ err k = (at_, err) := by simp [goS, he]
    have HS := Lib.hid hs
    clear hs
    go_enter Try.func28, Try.ntmps28
    go_wp2
    go_end0
    rw [HS.out]
    exact ⟨rfl, h, World.grownBy.refl _ _⟩

theorem read_any (h : Sees w (some 5) 1 A n (ib .u8 l)) (hnc : n ≤ cap) (hn : n ≤ 1000000000000) : Calls Try.prog 20 #[.slice A n cap] w fun e w' =>
    ∃ g, e = .returned (.pointer (some ⟨g, 0, none⟩)) ∧ w.heap.size ≤ g ∧ Rd w' g A n cap l 0 0 ∧ Below w.heap.size w w' := by
  go_enter Try.func20, Try.ntmps20
  go_wp2
  go_ret
  exact ⟨_, rfl, Nat.le_refl _, ⟨Blk.new _ _ _, h.alloc _, hnc, Nat.zero_le _, hn⟩, (Below.refl _ _).alloc (Nat.le_refl _) _⟩
end
end Go.Proofs.Ytnlgdcoeooppnaa

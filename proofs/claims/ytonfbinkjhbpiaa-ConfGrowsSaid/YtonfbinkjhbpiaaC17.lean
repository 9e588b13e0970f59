/- The walks of the conf layer: who is dropped. No condition. -/
import Derived.Test.YtonfbinkjhbpiaaC16
namespace Go.Proofs.Ytonfbinkjhbpiaa
open Go.RowKit Go.Shelf
set_option linter.unusedVariables false

/-- Without a number, as bits. -/
def lessN (X : Nat) (m : Int) : Nat := X &&& (18446744073709551615 - oneN m)
theorem lessN_lt (X : Nat) (m : Int) (h : X < 64) : lessN X m < 64 := Nat.lt_of_le_of_lt Nat.and_le_left h
theorem lessN_bits (X : Nat) (m : Int) (h : X < 64) : bits .andNot .u64 (X : Int) (oneN m : Int) = ((lessN X m : Nat) : Int) := u64_andNot_nat X (oneN m) (by omega) (by have := oneN_lt m; omega)
/-- What dropping says, and the members then. -/
def dropE (l : List Int) (m : Int) : Int := if rightB l = false then 180 else if lessN (askX l) m = askX l then 4 else if lessN (askX l) m = 0 then 180 else 0
def dropL (l : List Int) (m : Int) : List Int := if dropE l m = 0 then memS (lessN (askX l) m) else []

set_option maxHeartbeats 1600000 in
theorem drop_any {e1 : Option TypeId} (A : Option Addr) (n c : Nat) (l : List Int) (m : Int) (w : World) (hs : Sees w e1 1 A n (ib .i64 l)) (hn : n ≤ 1000000000000) :
    Calls Try.prog 30 #[cf A n c, .int .i64 m] w (MadeC w (dropL l m) (dropE l m)) := by
  have hs1 := Lib.hid ((hs.alloc (.cells #[.slice A n c] 27)).alloc (.cells #[.slice none 0 0] 27))
  have B1 := Lib.hid (((Below.refl _ w).alloc (Nat.le_refl _) (.cells #[.slice A n c] 27)).alloc (by simp) (.cells #[.slice none 0 0] 27))
  have K1 := Blk.new (w.alloc (.cells #[.slice A n c] 27)) 27 #[.slice none 0 0]
  simp only [World.size_alloc] at K1
  have HK1 := Lib.hid K1
  clear K1
  have hbits := lessN_bits (askX l) m (askX_lt l)
  have HX := Lib.hid (lessN_lt (askX l) m (askX_lt l))
  cases hr : rightB l with
  | false =>
    have HE : Hid (askE l = 180) := by unfold Hid askE; rw [hr]; rfl
    have HA : Hid (dropE l m = 180) := by unfold Hid dropE; rw [hr]; rfl
    clear hr
    go_enter Try.func30, Try.ntmps30
    go_wp2_with (first
      | (go_at_call 40; refine (asked_any A n c l _ hs1.out hn).mono ?_; rw [HE.out]; rintro e w1 ⟨rfl, hb⟩; have k2 := HK1.out.below hb; have hc2 := k2.cell 0; have hf2 := k2.frozen 0; have hb1 := Lib.hid (B1.out.trans (hb.mono (by simp; omega))))
      | (go_at_call 46; refine (one_any m _).mono ?_; rintro e w2 ⟨rfl, rfl⟩))
    have k3 := k2.put 0 (.slice none 0 0)
    have r0 := k3.cell 0
    simp at r0
    refine bodyPost_ret (v := .tuple #[cf none 0 0, .int .i64 180]) (by simp [results, Try.results30, go_sem, r0]) rfl ?_
    have hL : dropL l m = [] := by unfold dropL; rw [HA.out]; rfl
    rw [hL, HA.out]
    exact madeC_none (hb1.out.setCell (by simp) _)
  | true =>
    have HE : Hid (askE l = 0) := by unfold Hid askE; rw [hr]; rfl
    by_cases hz : lessN (askX l) m = askX l
    · have HA : Hid (dropE l m = 4) := by unfold Hid dropE; rw [hr, if_neg (by simp), if_pos hz]
      have hzb : ((lessN (askX l) m : Int) == (askX l : Int)) = true := by simp [hz]
      clear hr hz
      go_enter Try.func30, Try.ntmps30
      go_wp2_with (first
        | (go_at_call 40; refine (asked_any A n c l _ hs1.out hn).mono ?_; rw [HE.out]; rintro e w1 ⟨rfl, hb⟩; have k2 := HK1.out.below hb; have hc2 := k2.cell 0; have hf2 := k2.frozen 0; have hb1 := Lib.hid (B1.out.trans (hb.mono (by simp; omega))))
        | (go_at_call 46; refine (one_any m _).mono ?_; rintro e w2 ⟨rfl, rfl⟩))
      have k3 := k2.put 0 (.slice none 0 0)
      have r0 := k3.cell 0
      simp at r0
      refine bodyPost_ret (v := .tuple #[cf none 0 0, .int .i64 4]) (by simp [results, Try.results30, go_sem, r0]) rfl ?_
      have hL : dropL l m = [] := by unfold dropL; rw [HA.out]; rfl
      rw [hL, HA.out]
      exact madeC_none (hb1.out.setCell (by simp) _)
    · have hzb : ((lessN (askX l) m : Int) == (askX l : Int)) = false := by simp; omega
      by_cases hq : lessN (askX l) m = 0
      · have HA : Hid (dropE l m = 180) := by unfold Hid dropE; rw [hr, if_neg (by simp), if_neg hz, if_pos hq]
        have hqb : ((lessN (askX l) m : Int) == 0) = true := by simp [hq]
        clear hr hz hq
        go_enter Try.func30, Try.ntmps30
        go_wp2_with (first
          | (go_at_call 40; refine (asked_any A n c l _ hs1.out hn).mono ?_; rw [HE.out]; rintro e w1 ⟨rfl, hb⟩; have k2 := HK1.out.below hb; have hc2 := k2.cell 0; have hf2 := k2.frozen 0; have hb1 := Lib.hid (B1.out.trans (hb.mono (by simp; omega))))
          | (go_at_call 46; refine (one_any m _).mono ?_; rintro e w2 ⟨rfl, rfl⟩))
        have k3 := k2.put 0 (.slice none 0 0)
        have r0 := k3.cell 0
        simp at r0
        refine bodyPost_ret (v := .tuple #[cf none 0 0, .int .i64 180]) (by simp [results, Try.results30, go_sem, r0]) rfl ?_
        have hL : dropL l m = [] := by unfold dropL; rw [HA.out]; rfl
        rw [hL, HA.out]
        exact madeC_none (hb1.out.setCell (by simp) _)
      · have HA : Hid (dropE l m = 0) := by unfold Hid dropE; rw [hr, if_neg (by simp), if_neg hz, if_neg hq]
        have hqb : ((lessN (askX l) m : Int) == 0) = false := by simp; omega
        clear hr hz hq
        go_enter Try.func30, Try.ntmps30
        go_wp2_with (first
          | (go_at_call 40; refine (asked_any A n c l _ hs1.out hn).mono ?_; rw [HE.out]; rintro e w1 ⟨rfl, hb⟩; have k2 := HK1.out.below hb; have hb1 := Lib.hid (B1.out.trans (hb.mono (by simp; omega))))
          | (go_at_call 46; refine (one_any m _).mono ?_; rintro e w2 ⟨rfl, rfl⟩)
          | (go_at_call 47; refine (conf_any (lessN (askX l) m) HX.out _).mono ?_; rintro e w4 ⟨A4, c4, rfl, ho4, hb4⟩; have k4 := k2.below hb4; have hc2 := k4.cell 0; have hf2 := k4.frozen 0))
        have k5 := k4.put 0 (.slice A4 (sizeN (lessN (askX l) m)) c4)
        have r0 := k5.cell 0
        simp at r0
        refine bodyPost_ret (v := .tuple #[cf A4 (sizeN (lessN (askX l) m)) c4, .int .i64 0]) (by simp [results, Try.results30, go_sem, r0]) rfl ?_
        have hL : dropL l m = memS (lessN (askX l) m) := by unfold dropL; rw [HA.out]; rfl
        rw [hL, HA.out]
        exact ⟨A4, _, c4, rfl, own_mono (own_set_low ho4 k2.lt) hb1.out.size, (hb1.out.trans (hb4.mono hb1.out.size)).setCell (by simp) _⟩

theorem lessN_test (X i j : Nat) (h : X < 64) (hi : i < 6) : (X &&& (18446744073709551615 - 2 ^ i)).testBit j = (X.testBit j && !decide (i = j)) := by
  have hx : X &&& (18446744073709551615 - 2 ^ i) = X &&& (63 - 2 ^ i) := by
    have h1 : i = 0 ∨ i = 1 ∨ i = 2 ∨ i = 3 ∨ i = 4 ∨ i = 5 := by omega
    have : ∀ X ∈ List.range 64, ∀ i ∈ List.range 6, X &&& (18446744073709551615 - 2 ^ i) = X &&& (63 - 2 ^ i) := by decide +kernel
    exact this X (List.mem_range.2 h) i (List.mem_range.2 hi)
  rw [hx, Nat.testBit_and]
  by_cases hj : j < 6
  · have : ∀ i ∈ List.range 6, ∀ j ∈ List.range 6, (63 - 2 ^ i).testBit j = !decide (i = j) := by decide +kernel
    rw [this i (List.mem_range.2 hi) j (List.mem_range.2 hj)]
  · have : X.testBit j = false := Nat.testBit_lt_two_pow (Nat.lt_of_lt_of_le h (Nat.pow_le_pow_right (n := 2) (by omega) (show 6 ≤ j by omega)))
    rw [this]
    rfl
end Go.Proofs.Ytonfbinkjhbpiaa

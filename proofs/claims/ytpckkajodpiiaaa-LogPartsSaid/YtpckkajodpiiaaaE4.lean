/- The reference's Behind and Right. No condition. -/
import Derived.Test.YtpckkajodpiiaaaE3
namespace Go.Proofs.Ytpckkajodpiiaaa
open Go.RowKit
set_option linter.unusedVariables false
set_option linter.unusedSimpArgs false

/-- What the region of Behind knows of each of its slots. -/
def PhiBehind (ad : Addr) (n c : Nat) (p : EP) (t : Int) (rest : Value) (b1 b2 b3 : Bool) (R : Bool) : Nat → Value → World → Prop
  | 0, v, _ => v = .slice (some ad) n c
  | 1, v, _ => v = .pointer (some ad)
  | 2, v, _ => v = .agg #[.int .u64 p.e.T, .int .i64 p.e.K, .slice p.A p.n p.c]
  | 3, v, _ => v = .bool b1
  | 4, v, _ => v = .bool b1
  | 5, v, _ => b1 = true → v = .slice (some ad) n c
  | 6, v, _ => b1 = true → v = .pointer (some ad)
  | 7, v, _ => b1 = true → v = .pointer (some ad)
  | 8, v, _ => b1 = true → v = .int .u64 p.e.T
  | 9, v, _ => b1 = true → v = .int .u64 t
  | 10, v, _ => b1 = true → v = .bool (decide (t ≤ p.e.T))
  | 11, v, _ => v = .bool b2
  | 12, v, _ => v = .bool b2
  | 13, v, _ => b2 = true → v = .slice (some ad) n c
  | 14, v, _ => b2 = true → v = rest
  | 15, v, _ => b2 = true → v = .slice (some ad) n c
  | 16, v, _ => b2 = true → v = .pointer (some ad)
  | 17, v, _ => b2 = true → v = .pointer (some ad)
  | 18, v, _ => b2 = true → v = .int .u64 p.e.T
  | 19, v, _ => b2 = true → v = .bool R
  | 20, v, _ => v = .bool b3
  | 21, v, _ => v = .bool b3
  | _, _, _ => True
theorem phiBehind_stab (ad : Addr) (n c : Nat) (p : EP) (t : Int) (rest : Value) (b1 b2 b3 : Bool) (R : Bool) (i : Nat) (v : Value) (w1 w2 : World)
    (h : PhiBehind ad n c p t rest b1 b2 b3 R i v w1) (hb : Below w1.heap.size w1 w2) : PhiBehind ad n c p t rest b1 b2 b3 R i v w2 := by
  unfold PhiBehind at h ⊢
  split <;> simp_all

set_option maxHeartbeats 4000000 in
theorem behind_any : ∀ (ps : List EP) {e2 : Option TypeId} (A : Option Addr) (n c : Nat) (t : Int) (w : World), SeesE w e2 A n ps → n ≤ c → n ≤ 1000000000 →
    Calls Try.prog 51 #[.slice A n c, .int .u64 t] w fun e w' => e = .returned (.bool (standB (es ps) t)) ∧ Below w.heap.size w w'
  | [], e2, A, n, c, t, w, hs, hnc, hn => by
    obtain rfl : n = 0 := hs.len.symm
    go_enter Try.func51, Try.ntmps51
    go_wp2
    go_ret
    exact ⟨rfl, Below.refl _ _⟩
  | p :: ps, e2, A, n, c, t, w, hs, hnc, hn => by
    have hn1 : n = ps.length + 1 := by have := hs.len; simp at this; omega
    have h0 : 0 < n := by omega
    obtain ⟨ad, p', rfl, hp, hd, hc0, hc1, hc2⟩ := hs.at_ h0
    obtain rfl : p = p' := by simpa using hp
    clear hp
    simp [Addr.add] at hc0 hc1 hc2
    have HW : Hid (wellB p.e.T p.e.K p.n = wellE p.e) := by unfold Hid wellE; rw [hd.len]
    have ht0 := hd.t0
    have hpn : p.n ≤ 9223372036854775807 := by have h1 := hd.nc; have h2 := hd.small; unfold maxLen at h2; omega
    have HR : Hid (SeesE w e2 (if c = 1 then some ad else some ⟨ad.block, ad.off + 3, none⟩) (n - 1) ps) := by
      unfold Hid
      have := hs.drop (k := 1) h0 hnc
      simpa [Addr.add] using this
    obtain ⟨b1, hb1⟩ : ∃ b1, b1 = wellE p.e := ⟨_, rfl⟩
    obtain ⟨b2, hb2⟩ : ∃ b2, b2 = (b1 && decide (t ≤ p.e.T)) := ⟨_, rfl⟩
    obtain ⟨R, hR⟩ : ∃ R, R = standB (es ps) p.e.T := ⟨_, rfl⟩
    obtain ⟨b3, hb3⟩ : ∃ b3, b3 = (b2 && R) := ⟨_, rfl⟩
    have HF : Hid (standB (es (p :: ps)) t = b3) := by unfold Hid; rw [hb3, hb2, hb1, hR]; rfl
    have HB1 := Lib.hid hb1
    have HB2 := Lib.hid hb2
    have HB3 := Lib.hid hb3
    have HRR := Lib.hid hR
    clear hb1 hb2 hb3 hR
    have hne : ((n : Int) == 0) = false := by simp; omega
    clear hn1
    go_enter Try.func51, Try.ntmps51
    go_upto_region 3 with fail
    refine wp_region_par_all 22 [8, 9, 10, 11, 12, 13, 14, 15, 16, 17, 18, 19, 20, 21, 22, 23, 24, 25, 26, 27, 28, 4] (fun _ => false) (PhiBehind ad n c p t (.slice (if c = 1 then some ad else some ⟨ad.block, ad.off + 3, none⟩) (n - 1) (c - 1)) b1 b2 b3 R) (by kernel_rfl) (by kernel_rfl) (phiBehind_stab _ _ _ _ _ _ _ _ _ _) ?steps ?fin
    case steps =>
      simp only [StepsPar]
      refine ⟨?_, ?_, ?_, ?_, ?_, ?_, ?_, ?_, ?_, ?_, ?_, ?_, ?_, ?_, ?_, ?_, ?_, ?_, ?_, ?_, ?_, ?_, trivial⟩
      all_goals
        intro x w1x hb hd K hK
        have c0 := (hb.cell (World.block_lt_of_cell? w _ hc0)).trans hc0
        have c1 := (hb.cell (World.block_lt_of_cell? w _ hc1)).trans hc1
        have c2 := (hb.cell (World.block_lt_of_cell? w _ hc2)).trans hc2
        simp only [frameOf, slots, Act.put, List.setIfInBounds_toArray, List.set_cons_zero, List.set_cons_succ] at hK ⊢
      · go_simp
        exact hK _ _ (rfl) (Below.refl _ _) (fun h => absurd h (by decide))
      · have e0 : x 0 = .slice (some ad) n c := hd ⟨0, .data⟩ (by simp) rfl
        simp only [e0] at hK ⊢
        go_simp
        exact hK _ _ (rfl) (Below.refl _ _) (fun h => absurd h (by decide))
      · have e1 : x 1 = .pointer (some ad) := hd ⟨1, .data⟩ (by simp) rfl
        simp only [e1] at hK ⊢
        go_simp
        exact hK _ _ (rfl) (Below.refl _ _) (fun h => absurd h (by decide))
      · have e2 : x 2 = .agg #[.int .u64 p.e.T, .int .i64 p.e.K, .slice p.A p.n p.c] := hd ⟨2, .data⟩ (by simp) rfl
        simp only [e2] at hK ⊢
        go_simp
        refine (rightEntry_any p.e.T p.e.K p.A p.n p.c w1x ht0 hpn).mono ?_
        rw [HW.out, ← HB1.out]
        rintro e w2x ⟨rfl, hb2⟩
        exact hK _ _ rfl hb2 (fun h => absurd h (by decide))
      · have e3 : x 3 = .bool b1 := hd ⟨3, .data⟩ (by simp) rfl
        simp only [e3] at hK ⊢
        go_simp
        exact hK _ _ (rfl) (Below.refl _ _) (fun h => absurd h (by decide))
      · have dg := hd ⟨4, .guard⟩ (by simp) rfl
        simp only [PhiBehind] at dg
        simp only [dg] at hK ⊢
        cases b1 with
        | false =>
          go_simp
          exact hK _ _ (fun h => absurd h (by decide)) (Below.refl _ _) (fun h => absurd h (by decide))
        | true =>
          go_simp
          exact hK _ _ (fun _ => rfl) (Below.refl _ _) (fun h => absurd h (by decide))
      · have dg := hd ⟨4, .guard⟩ (by simp) rfl
        simp only [PhiBehind] at dg
        simp only [dg] at hK ⊢
        cases b1 with
        | false =>
          go_simp
          exact hK _ _ (fun h => absurd h (by decide)) (Below.refl _ _) (fun h => absurd h (by decide))
        | true =>
          have e5 : x 5 = .slice (some ad) n c := hd ⟨5, .data⟩ (by simp) rfl rfl
          simp only [e5] at hK ⊢
          go_simp
          exact hK _ _ (fun _ => rfl) (Below.refl _ _) (fun h => absurd h (by decide))
      · have dg := hd ⟨4, .guard⟩ (by simp) rfl
        simp only [PhiBehind] at dg
        simp only [dg] at hK ⊢
        cases b1 with
        | false =>
          go_simp
          exact hK _ _ (fun h => absurd h (by decide)) (Below.refl _ _) (fun h => absurd h (by decide))
        | true =>
          have e6 : x 6 = .pointer (some ad) := hd ⟨6, .data⟩ (by simp) rfl rfl
          simp only [e6] at hK ⊢
          go_simp
          exact hK _ _ (fun _ => rfl) (Below.refl _ _) (fun h => absurd h (by decide))
      · have dg := hd ⟨4, .guard⟩ (by simp) rfl
        simp only [PhiBehind] at dg
        simp only [dg] at hK ⊢
        cases b1 with
        | false =>
          go_simp
          exact hK _ _ (fun h => absurd h (by decide)) (Below.refl _ _) (fun h => absurd h (by decide))
        | true =>
          have e7 : x 7 = .pointer (some ad) := hd ⟨7, .data⟩ (by simp) rfl rfl
          simp only [e7] at hK ⊢
          go_simp
          exact hK _ _ (fun _ => rfl) (Below.refl _ _) (fun h => absurd h (by decide))
      · have dg := hd ⟨4, .guard⟩ (by simp) rfl
        simp only [PhiBehind] at dg
        simp only [dg] at hK ⊢
        cases b1 with
        | false =>
          go_simp
          exact hK _ _ (fun h => absurd h (by decide)) (Below.refl _ _) (fun h => absurd h (by decide))
        | true =>
          go_simp
          exact hK _ _ (fun _ => rfl) (Below.refl _ _) (fun h => absurd h (by decide))
      · have dg := hd ⟨4, .guard⟩ (by simp) rfl
        simp only [PhiBehind] at dg
        simp only [dg] at hK ⊢
        cases b1 with
        | false =>
          go_simp
          exact hK _ _ (fun h => absurd h (by decide)) (Below.refl _ _) (fun h => absurd h (by decide))
        | true =>
          have e8 : x 8 = .int .u64 p.e.T := hd ⟨8, .data⟩ (by simp) rfl rfl
          have e9 : x 9 = .int .u64 t := hd ⟨9, .data⟩ (by simp) rfl rfl
          simp only [e8, e9] at hK ⊢
          go_simp
          exact hK _ _ (fun _ => rfl) (Below.refl _ _) (fun h => absurd h (by decide))
      · have e4 : x 4 = .bool b1 := hd ⟨4, .data⟩ (by simp) rfl
        simp only [e4] at hK ⊢
        cases b1 with
        | false =>
          go_simp
          exact hK _ _ (by simp [PhiBehind, HB2.out]) (Below.refl _ _) (fun h => absurd h (by decide))
        | true =>
          have e10 : x 10 = .bool (decide (t ≤ p.e.T)) := hd ⟨10, .data⟩ (by simp) rfl rfl
          simp only [e10] at hK ⊢
          go_simp
          exact hK _ _ (by simp [PhiBehind, HB2.out]) (Below.refl _ _) (fun h => absurd h (by decide))
      · have e11 : x 11 = .bool b2 := hd ⟨11, .data⟩ (by simp) rfl
        simp only [e11] at hK ⊢
        go_simp
        exact hK _ _ (rfl) (Below.refl _ _) (fun h => absurd h (by decide))
      · have dg := hd ⟨12, .guard⟩ (by simp) rfl
        simp only [PhiBehind] at dg
        simp only [dg] at hK ⊢
        cases b2 with
        | false =>
          go_simp
          exact hK _ _ (fun h => absurd h (by decide)) (Below.refl _ _) (fun h => absurd h (by decide))
        | true =>
          go_simp
          exact hK _ _ (fun _ => rfl) (Below.refl _ _) (fun h => absurd h (by decide))
      · have dg := hd ⟨12, .guard⟩ (by simp) rfl
        simp only [PhiBehind] at dg
        simp only [dg] at hK ⊢
        cases b2 with
        | false =>
          go_simp
          exact hK _ _ (fun h => absurd h (by decide)) (Below.refl _ _) (fun h => absurd h (by decide))
        | true =>
          have e13 : x 13 = .slice (some ad) n c := hd ⟨13, .data⟩ (by simp) rfl rfl
          simp only [e13] at hK ⊢
          have h1n : (1 : Int) ≤ (n : Int) := by omega
          go_simp
          try (rw [if_pos h1n]; go_simp)
          exact hK _ _ (fun _ => rfl) (Below.refl _ _) (fun h => absurd h (by decide))
      · have dg := hd ⟨12, .guard⟩ (by simp) rfl
        simp only [PhiBehind] at dg
        simp only [dg] at hK ⊢
        cases b2 with
        | false =>
          go_simp
          exact hK _ _ (fun h => absurd h (by decide)) (Below.refl _ _) (fun h => absurd h (by decide))
        | true =>
          go_simp
          exact hK _ _ (fun _ => rfl) (Below.refl _ _) (fun h => absurd h (by decide))
      · have dg := hd ⟨12, .guard⟩ (by simp) rfl
        simp only [PhiBehind] at dg
        simp only [dg] at hK ⊢
        cases b2 with
        | false =>
          go_simp
          exact hK _ _ (fun h => absurd h (by decide)) (Below.refl _ _) (fun h => absurd h (by decide))
        | true =>
          have e15 : x 15 = .slice (some ad) n c := hd ⟨15, .data⟩ (by simp) rfl rfl
          simp only [e15] at hK ⊢
          go_simp
          exact hK _ _ (fun _ => rfl) (Below.refl _ _) (fun h => absurd h (by decide))
      · have dg := hd ⟨12, .guard⟩ (by simp) rfl
        simp only [PhiBehind] at dg
        simp only [dg] at hK ⊢
        cases b2 with
        | false =>
          go_simp
          exact hK _ _ (fun h => absurd h (by decide)) (Below.refl _ _) (fun h => absurd h (by decide))
        | true =>
          have e16 : x 16 = .pointer (some ad) := hd ⟨16, .data⟩ (by simp) rfl rfl
          simp only [e16] at hK ⊢
          go_simp
          exact hK _ _ (fun _ => rfl) (Below.refl _ _) (fun h => absurd h (by decide))
      · have dg := hd ⟨12, .guard⟩ (by simp) rfl
        simp only [PhiBehind] at dg
        simp only [dg] at hK ⊢
        cases b2 with
        | false =>
          go_simp
          exact hK _ _ (fun h => absurd h (by decide)) (Below.refl _ _) (fun h => absurd h (by decide))
        | true =>
          have e17 : x 17 = .pointer (some ad) := hd ⟨17, .data⟩ (by simp) rfl rfl
          simp only [e17] at hK ⊢
          go_simp
          exact hK _ _ (fun _ => rfl) (Below.refl _ _) (fun h => absurd h (by decide))
      · have dg := hd ⟨12, .guard⟩ (by simp) rfl
        simp only [PhiBehind] at dg
        simp only [dg] at hK ⊢
        cases b2 with
        | false =>
          go_simp
          exact hK _ _ (fun h => absurd h (by decide)) (Below.refl _ _) (fun h => absurd h (by decide))
        | true =>
          have e14 : x 14 = .slice (if c = 1 then some ad else some ⟨ad.block, ad.off + 3, none⟩) (n - 1) (c - 1) := hd ⟨14, .data⟩ (by simp) rfl rfl
          have e18 : x 18 = .int .u64 p.e.T := hd ⟨18, .data⟩ (by simp) rfl rfl
          simp only [e14, e18] at hK ⊢
          go_simp
          refine (behind_any ps _ (n - 1) (c - 1) p.e.T w1x (HR.out.below hb) (by omega) (by omega)).mono ?_
          rw [← HRR.out]
          rintro e w2x ⟨rfl, hb2⟩
          exact hK _ _ (fun _ => rfl) hb2 (fun h => absurd h (by decide))
      · have e12 : x 12 = .bool b2 := hd ⟨12, .data⟩ (by simp) rfl
        simp only [e12] at hK ⊢
        cases b2 with
        | false =>
          go_simp
          exact hK _ _ (by simp [PhiBehind, HB3.out]) (Below.refl _ _) (fun h => absurd h (by decide))
        | true =>
          have e19 : x 19 = .bool R := hd ⟨19, .data⟩ (by simp) rfl rfl
          simp only [e19] at hK ⊢
          go_simp
          exact hK _ _ (by simp [PhiBehind, HB3.out]) (Below.refl _ _) (fun h => absurd h (by decide))
      · have e20 : x 20 = .bool b3 := hd ⟨20, .data⟩ (by simp) rfl
        simp only [e20] at hK ⊢
        go_simp
        exact hK _ _ (rfl) (Below.refl _ _) (fun h => absurd h (by decide))
    case fin =>
      intro x wl hb hx _
      have e21 : x 21 = .bool b3 := hx 21 (by omega)
      simp only [frameOf, slots, Act.put, List.setIfInBounds_toArray, List.set_cons_zero, List.set_cons_succ, e21]
      go_wp2
      go_ret
      exact ⟨(congrArg (fun b => Ending.returned (.bool b)) HF.out).symm, hb⟩
end Go.Proofs.Ytpckkajodpiiaaa

/- The walk of ConfMoves, which returns true. No condition. -/
import Derived.Test.YtonfbinkjhbpiaaRows
import Derived.Test.YtonfbinkjhbpiaaC22
import Derived.Test.YtonfbinkjhbpiaaRead2
import Derived.Test.YtonfbinkjhbpiaaC23
import Derived.Test.YtonfbinkjhbpiaaRead
import Derived.WalkKit
import Derived.BigQuiet
import Derived.Deep.QuietTactic
import Derived.Deep.RegionHeld3
import Derived.Deep.RegionWith
import Derived.Deep.CutRange
import Derived.Deep.CutBlock
import Derived.WalkLawsBesides
import Derived.Lib.Hide
namespace Go.Proofs.Ytonfbinkjhbpiaa.confMoves
open Go.RowKit
set_option linter.unusedVariables false


open Go.Proofs.Ytonfbinkjhbpiaa
theorem keep22 {wr w1 w2 : World} {a b : Addr} {v u : Value} (h : w1.cell? a = some v ∧ w1.cell? b = some u ∧ Below wr.heap.size wr w1) (hb : Below w1.heap.size w1 w2) : w2.cell? a = some v ∧ w2.cell? b = some u ∧ Below wr.heap.size wr w2 :=
  ⟨by rw [hb.cell (World.block_lt_of_cell? w1 _ h.1)]; exact h.1, by rw [hb.cell (World.block_lt_of_cell? w1 _ h.2.1)]; exact h.2.1, h.2.2.trans (hb.mono h.2.2.size)⟩
theorem snd3 {a b c : Prop} (h : a ∧ b ∧ c) : c := h.2.2

set_option maxRecDepth 100000 in
set_option maxHeartbeats 12000000 in
theorem walk (w : World) (A : Option Addr) (n c : Nat) (la : List Int) (w0 : Row w .i64 A n c la) (B : Option Addr) (m d : Nat) (lb : List Int) (w1 : Row w .i64 B m d lb)
    (C : Option Addr) (p f : Nat) (lm : List Int) (w2 : Row w .i64 C p f lm) :
    Calls Try.prog 5 #[.agg #[.slice A n c], .agg #[.slice B m d], .slice C p f] w fun e w' => e = .returned (.bool true) ∧ Below w.heap.size w w' := by
  have hpm : p ≤ 9223372036854775807 := by have h1 := w2.nc; have h2 := w2.small; unfold maxLen at h2; omega
  have HB := Lib.hid (((Below.refl _ w).alloc (Nat.le_refl _) (.cells #[.slice A n c] 27)).alloc (by simp) (.cells #[.slice B m d] 27))
  have k1 := (Blk.new w 27 #[.slice A n c]).alloc (.cells #[.slice B m d] 27)
  have k2 := Blk.new (w.alloc (.cells #[.slice A n c] 27)) 27 #[.slice B m d]
  simp only [World.size_alloc] at k2
  have HK1 := Lib.hid k1
  have HK2 := Lib.hid k2
  clear k1 k2
  go_enter Try.func5, Try.ntmps5
  go_wp2_with fail
  refine (wakes_any _).mono ?_
  rintro e x1 ⟨rfl, hb1⟩
  have k1 := HK1.out.below hb1
  have k2 := HK2.out.below hb1
  have HB1 := Lib.hid (HB.out.trans (hb1.mono HB.out.size))
  have sa := w0.sees.below HB1.out
  have sb := w1.sees.below HB1.out
  clear HB HK1 HK2 hb1
  have c1 := k1.cell 0
  have c2 := k2.cell 0
  simp at c1 c2
  have f1 := k1.frozen 0
  have f2 := k2.frozen 0
  go_wp2_with fail
  go_cut [3, 4] from 26 to 29 (fun s3 s4 wx => s3 = .pointer (some ⟨w.heap.size, 0, none⟩) ∧ s4 = .pointer (some ⟨w.heap.size + 1, 0, none⟩) ∧ ∃ (A4 : Option Addr) (n4 c4 : Nat) (A5 : Option Addr) (n5 c5 : Nat), Blk wx w.heap.size 27 #[.slice A4 n4 c4] ∧ Blk wx (w.heap.size + 1) 27 #[.slice A5 n5 c5] ∧ n4 ≤ c4 ∧ c4 ≤ maxLen ∧ n4 ≤ 30 ∧ n5 ≤ 30 ∧ Sees wx (some 3) 1 A4 n4 (ib .i64 (la.take 30)) ∧ Sees wx (some 3) 1 A5 n5 (ib .i64 (lb.take 30)) ∧ Below w.heap.size w wx)
  case first =>
    go_region_with (first
      | (go_at_call 12; refine (few_any A n c la _ sa.drew w0.nc w0.small).mono ?_; rintro e x4 ⟨A4, n4, c4, rfl, hn4, ho4, hb4⟩; have hb4' : Below x1.heap.size x1 x4 := ⟨hb4.os, hb4.tape, hb4.output, hb4.size, hb4.block⟩; have sb4 := sb.below hb4'; have k24 := k2.below hb4'; have c24 := k24.cell 0; have k14 := k1.below hb4')
      | (go_at_call 12; refine (few_any B m d lb _ sb4 w1.nc w1.small).mono ?_; rintro e x5 ⟨A5, n5, c5, rfl, hn5, ho5, hb5⟩; have k15 := k14.below hb5; have k25 := k24.below hb5; have c15 := k15.cell 0; have c25 := k25.cell 0; have f15 := k15.frozen 0; have f25 := k25.frozen 0))
    all_goals
      have s4 := (Sees.of_own ho4).below hb5
      have s5 := Sees.of_own ho5
      have nc4 := own_cap ho4
      have s4' := s4.far (p := ⟨w.heap.size, 0, none⟩) (k15.apart s4 (by decide)) (.slice A4 n4 c4)
      have s5' := s5.far (p := ⟨w.heap.size, 0, none⟩) (k15.apart s5 (by decide)) (.slice A4 n4 c4)
      have k25' := k25.far (p := ⟨w.heap.size, 0, none⟩) (by simp) (.slice A4 n4 c4)
      have k15' := (k15.put 0 (.slice A4 n4 c4)).far (p := ⟨w.heap.size + 1, 0, none⟩) (by simp) (.slice A5 n5 c5)
      have s4'' := s4'.far (p := ⟨w.heap.size + 1, 0, none⟩) (k25'.apart s4' (by decide)) (.slice A5 n5 c5)
      have s5'' := s5'.far (p := ⟨w.heap.size + 1, 0, none⟩) (k25'.apart s5' (by decide)) (.slice A5 n5 c5)
      have hBn := ((HB1.out.trans (hb4'.mono HB1.out.size)).trans (hb5.mono (Nat.le_trans HB1.out.size hb4'.size))).setCell (p := ⟨w.heap.size, 0, none⟩) (Nat.le_refl _) (.slice A4 n4 c4)
      have hBn' := hBn.setCell (p := ⟨w.heap.size + 1, 0, none⟩) (Nat.le_succ _) (.slice A5 n5 c5)
      have k25'' := k25'.put 0 (.slice A5 n5 c5)
      clear c15 c25 f15 f25 c24 c1 c2 f1 f2
      go_wp2_with fail
      go_meet
      exact ⟨rfl, rfl, A4, n4, c4, A5, n5, c5, k15', k25'', nc4.1, nc4.2, hn4, hn5, s4'', s5'', hBn'⟩
  case rest =>
    obtain ⟨rfl, rfl, A4, n4, c4, A5, n5, c5, y1, y2, nc4, hc4, hn4, hn5, s4, s5, hBc⟩ := hcut
    clear sa sb k1 k2 c1 c2 f1 f2 HB1
    obtain ⟨L4, hL4⟩ : ∃ L4, L4 = la.take 30 := ⟨_, rfl⟩
    obtain ⟨L5, hL5⟩ : ∃ L5, L5 = lb.take 30 := ⟨_, rfl⟩
    rw [← hL4] at s4
    rw [← hL5] at s5
    clear hL4 hL5
    have e0 := y1.cell 0
    have e1 := y2.cell 0
    simp at e0 e1
    have hS0 : wc.drew.cell? ⟨w.heap.size, 0, none⟩ = some (.slice A4 n4 c4) ∧ wc.drew.cell? ⟨w.heap.size + 1, 0, none⟩ = some (.slice A5 n5 c5) ∧ Below wc.heap.size wc wc.drew := ⟨e0, e1, (Below.refl _ _).drew⟩
    go_wp2_with fail
    go_region_held3 (fun w' => w'.cell? ⟨w.heap.size, 0, none⟩ = some (.slice A4 n4 c4) ∧ w'.cell? ⟨w.heap.size + 1, 0, none⟩ = some (.slice A5 n5 c5) ∧ Below wc.heap.size wc w') (assumption)
      (first
        | (go_at_call 13; with_reducible refine (rright_any A4 n4 c4 L4 _ (s4.below ?_) (by omega)).mono ?_; (exact snd3 ‹_ ∧ _ ∧ _›); rintro e x6 ⟨rfl, hb6⟩; have hS6 := keep22 ‹_ ∧ _› hb6)
        | (go_at_call 13; with_reducible refine (rright_any A5 n5 c5 L5 _ (s5.below ?_) (by omega)).mono ?_; (exact snd3 ‹_ ∧ _ ∧ _›); rintro e x7 ⟨rfl, hb7⟩; have hS7 := keep22 ‹_ ∧ _› hb7))
    have z1 := y1.below hS7.2.2
    have z2 := y2.below hS7.2.2
    have t4 := s4.below hS7.2.2
    have t5 := s5.below hS7.2.2
    have HB7 := Lib.hid (hBc.trans (hS7.2.2.mono hBc.size))
    clear hS7 hS6 hS0 y1 y2 s4 s5 hb6 hb7 hBc e0 e1
    have c1 := z1.cell 0
    have c2 := z2.cell 0
    simp at c1 c2
    go_upto_block 0 with fail
    go_cut [7, 8, 9] from 30 to 45 (fun s7 s8 s9 wx => s7 = .bool (rightB L4) ∧ s8 = .bool (rightB L5) ∧ s9 = .int .i64 (stepE L4 L5) ∧ Blk wx w.heap.size 27 #[.slice A4 n4 c4] ∧ Blk wx (w.heap.size + 1) 27 #[.slice A5 n5 c5] ∧ Sees wx (some 3) 1 A4 n4 (ib .i64 L4) ∧ Sees wx (some 3) 1 A5 n5 (ib .i64 L5) ∧ Below w.heap.size w wx)
    case first =>
      cases hl : rightB L4 with
      | false =>
        have HE : Hid (stepE L4 L5 = 180) := by unfold Hid stepE; rw [hl]; rfl
        have HL := Lib.hid hl
        clear hl
        go_wp2_with fail
        go_meet
        exact ⟨by rw [HL.out], rfl, by rw [HE.out], z1, z2, t4, t5, HB7.out⟩
      | true =>
        cases hr : rightB L5 with
        | false =>
          have HE : Hid (stepE L4 L5 = 180) := by unfold Hid stepE; rw [hl, hr]; rfl
          have HL := Lib.hid hl
          have HR := Lib.hid hr
          clear hl hr
          go_wp2_with fail
          go_meet
          exact ⟨by rw [HL.out], by rw [HR.out], by rw [HE.out], z1, z2, t4, t5, HB7.out⟩
        | true =>
          have HS := Lib.hid (step_law L4 L5)
          have HL := Lib.hid hl
          have HR := Lib.hid hr
          clear hl hr
          go_wp2_with fail
          refine (rfar_any A4 A5 n4 c4 n5 c5 L4 L5 _ t4 t5 (by omega) (by omega)).mono ?_
          rintro e x8 ⟨rfl, hb8⟩
          replace z1 := z1.below hb8
          replace z2 := z2.below hb8
          replace t4 := t4.below hb8
          replace t5 := t5.below hb8
          replace HB7 := Lib.hid (HB7.out.trans (hb8.mono HB7.out.size))
          clear c1 c2
          by_cases hf : 1 < farK L4 L5 5
          · have HE : Hid (stepE L4 L5 = 181) := by unfold Hid; rw [HS.out, HL.out, HR.out, if_neg (by simp), if_pos hf]
            go_wp2_with fail
            go_meet
            exact ⟨by rw [HL.out], by rw [HR.out], by rw [HE.out], z1, z2, t4, t5, HB7.out⟩
          · have HE : Hid (stepE L4 L5 = 0) := by unfold Hid; rw [HS.out, HL.out, HR.out, if_neg (by simp), if_neg hf]
            go_wp2_with fail
            go_meet
            exact ⟨by rw [HL.out], by rw [HR.out], by rw [HE.out], z1, z2, t4, t5, HB7.out⟩
    case rest =>
      clear z1 z2 t4 t5 HB7 c1 c2
      obtain ⟨rfl, rfl, rfl, z1, z2, t4, t5, hB7⟩ := hcut
      have HB7 := Lib.hid hB7
      clear hB7
      have c1 := z1.cell 0
      simp at c1
      have c2 := z2.cell 0
      simp at c2
      go_wp2_with fail
      refine (step_any A4 A5 n4 c4 n5 c5 L4 L5 _ t4 t5 (by omega) (by omega)).mono ?_
      rintro e x9 ⟨rfl, hb9⟩
      replace z1 := z1.below hb9
      replace z2 := z2.below hb9
      replace t4 := t4.below hb9
      replace t5 := t5.below hb9
      replace HB7 := Lib.hid (HB7.out.trans (hb9.mono HB7.out.size))
      clear c1 c2 hb9
      have hne : (stepE L4 L5 != stepE L4 L5) = false := by simp
      go_wp2_with fail
      clear hne
      have HX9 := Lib.hid z2.lt
      go_loopw [53] (fun i wr => ∃ k : Nat, k ≤ p ∧ i = .int .i64 k ∧ Below x9.heap.size x9 wr) (fun i _ => p - (intOf i).toNat)
      case atStart => exact ⟨0, by omega, rfl, Below.refl _ _⟩
      case round =>
        obtain ⟨k, hk, rfl, hbr⟩ := hrel
        have hbw := Lib.hid (HB7.out.trans (hbr.mono HB7.out.size))
        by_cases hlt : k < p
        · by_cases h12 : k = 12
          · obtain ⟨ad, u, rfl, hu, hc⟩ := (w2.sees.below hbw.out).at_ hlt
            obtain ⟨v, hv, rfl⟩ := ib_get hu
            subst h12
            simp [Addr.add] at hc
            clear hu hv
            go_wp2
            go_ret
            exact ⟨rfl, hbw.out⟩
          · have hk12 : ((k : Int) == 12) = false := by simp; omega
            obtain ⟨ad, u, rfl, hu, hc⟩ := (w2.sees.below hbw.out).at_ hlt
            obtain ⟨v, hv, rfl⟩ := ib_get hu
            clear hu hv h12
            have HWR := Lib.hid (show wr.heap.size = wr.heap.size from rfl)
            replace z1 := z1.below hbr
            replace z2 := z2.below hbr
            replace t4 := t4.below hbr
            replace HB7 := hbw
            have HL4 := Lib.hid t4.len
            clear hbw t5
            have HX := Lib.hid hbr
            clear hbr
            have c1 := z1.cell 0
            simp at c1
            go_wp2_with fail
            refine (few_any A4 n4 c4 L4 _ t4 nc4 hc4).mono ?_
            rintro e y1 ⟨A6, n6, c6, rfl, hn6, ho6, hb6⟩
            rw [take_all (by have := HL4.out; omega)] at ho6
            have s6 := Sees.of_own ho6
            clear ho6 c1
            replace z1 := z1.below hb6
            replace z2 := z2.below hb6
            replace t4 := t4.below hb6
            replace HB7 := Lib.hid (HB7.out.trans (hb6.mono HB7.out.size))
            replace HX := Lib.hid (HX.out.trans (hb6.mono HX.out.size))
            replace z1 := z1.alloc (.cells #[.slice A6 n6 c6] 27)
            replace z2 := z2.alloc (.cells #[.slice A6 n6 c6] 27)
            replace t4 := t4.alloc (.cells #[.slice A6 n6 c6] 27)
            replace HB7 := Lib.hid (HB7.out.alloc HB7.out.size (.cells #[.slice A6 n6 c6] 27))
            replace HX := Lib.hid (HX.out.alloc HX.out.size (.cells #[.slice A6 n6 c6] 27))
            replace s6 := s6.alloc (.cells #[.slice A6 n6 c6] 27)
            have k12 := Blk.new y1 27 #[.slice A6 n6 c6]
            obtain ⟨g12, hg12⟩ : ∃ g12, y1.heap.size = g12 := ⟨_, rfl⟩
            rw [hg12] at k12
            have HG12 := Lib.hid hg12
            clear hb6
            have l4 : ∀ ad, A4 = some ad → 0 < n4 → ad.block < (y1.alloc (.cells #[.slice A6 n6 c6] 27)).heap.size := fun ad h h0 => t4.lt h0 h
            have l6 : ∀ ad, A6 = some ad → 0 < n6 → ad.block < (y1.alloc (.cells #[.slice A6 n6 c6] 27)).heap.size := fun ad h h0 => s6.lt h0 h
            have q7ge : x9.heap.size ≤ (y1.alloc (.cells #[.slice A6 n6 c6] 27)).heap.size := HX.out.size
            obtain ⟨Q7, hq7⟩ : ∃ Q, (y1.alloc (.cells #[.slice A6 n6 c6] 27)).heap.size = Q := ⟨_, rfl⟩
            rw [hq7] at l4 l6 q7ge
            have HQ7 := Lib.hid hq7
            clear hq7
            replace l4 := Lib.hid l4
            replace l6 := Lib.hid l6
            have c1 := z1.cell 0
            simp at c1
            go_wp2_with fail
            clear hg12
            refine (add_any A4 n4 c4 L4 v _ t4 (by omega)).mono ?_
            rintro e y2 ⟨A7, n7, c7, rfl, ho7, hb7⟩
            rw [HQ7.out] at ho7
            clear c1 HQ7
            replace z1 := z1.below hb7
            replace z2 := z2.below hb7
            replace t4 := t4.below hb7
            replace HB7 := Lib.hid (HB7.out.trans (hb7.mono HB7.out.size))
            replace HX := Lib.hid (HX.out.trans (hb7.mono HX.out.size))
            replace s6 := s6.below hb7
            replace k12 := k12.below hb7
            replace z1 := z1.alloc (.cells #[.slice A7 n7 c7] 27)
            replace z2 := z2.alloc (.cells #[.slice A7 n7 c7] 27)
            replace t4 := t4.alloc (.cells #[.slice A7 n7 c7] 27)
            replace HB7 := Lib.hid (HB7.out.alloc HB7.out.size (.cells #[.slice A7 n7 c7] 27))
            replace HX := Lib.hid (HX.out.alloc HX.out.size (.cells #[.slice A7 n7 c7] 27))
            replace s6 := s6.alloc (.cells #[.slice A7 n7 c7] 27)
            replace k12 := k12.alloc (.cells #[.slice A7 n7 c7] 27)
            replace ho7 := ho7.alloc (.cells #[.slice A7 n7 c7] 27)
            have k13 := Blk.new y2 27 #[.slice A7 n7 c7]
            obtain ⟨g13, hg13⟩ : ∃ g13, y2.heap.size = g13 := ⟨_, rfl⟩
            rw [hg13] at k13
            clear hb7
            have l7 : ∀ ad, A7 = some ad → ad.block < (y2.alloc (.cells #[.slice A7 n7 c7] 27)).heap.size := fun ad h => (ho7.lt ad.block (by rw [h]; rfl)).2
            have q8ge : x9.heap.size ≤ (y2.alloc (.cells #[.slice A7 n7 c7] 27)).heap.size := HX.out.size
            obtain ⟨Q8, hq8⟩ : ∃ Q, (y2.alloc (.cells #[.slice A7 n7 c7] 27)).heap.size = Q := ⟨_, rfl⟩
            have l48 : ∀ ad, A4 = some ad → 0 < n4 → ad.block < (y2.alloc (.cells #[.slice A7 n7 c7] 27)).heap.size := fun ad h h0 => t4.lt h0 h
            have l68 : ∀ ad, A6 = some ad → 0 < n6 → ad.block < (y2.alloc (.cells #[.slice A7 n7 c7] 27)).heap.size := fun ad h h0 => s6.lt h0 h
            rw [hq8] at l7 q8ge l48 l68
            replace l48 := Lib.hid l48
            replace l68 := Lib.hid l68
            have HQ8 := Lib.hid hq8
            clear hq8
            replace l7 := Lib.hid l7
            have c1 := z1.cell 0
            simp at c1
            go_wp2_with fail
            clear hg13
            refine (drop_any A4 n4 c4 L4 v _ t4 (by omega)).mono ?_
            rintro e y3 ⟨A8, n8, c8, rfl, ho8, hb8⟩
            rw [HQ8.out] at ho8
            clear c1 HQ8
            replace z1 := z1.below hb8
            replace z2 := z2.below hb8
            replace t4 := t4.below hb8
            replace HB7 := Lib.hid (HB7.out.trans (hb8.mono HB7.out.size))
            replace HX := Lib.hid (HX.out.trans (hb8.mono HX.out.size))
            replace s6 := s6.below hb8
            replace k12 := k12.below hb8
            replace ho7 := own_below ho7 hb8
            replace k13 := k13.below hb8
            have g15ge := HX.out.size
            have g12lt := k12.lt
            have g13lt := k13.lt
            replace z1 := z1.alloc (.cells #[.slice A8 n8 c8] 27)
            replace z2 := z2.alloc (.cells #[.slice A8 n8 c8] 27)
            replace t4 := t4.alloc (.cells #[.slice A8 n8 c8] 27)
            replace HB7 := Lib.hid (HB7.out.alloc HB7.out.size (.cells #[.slice A8 n8 c8] 27))
            replace HX := Lib.hid (HX.out.alloc HX.out.size (.cells #[.slice A8 n8 c8] 27))
            replace s6 := s6.alloc (.cells #[.slice A8 n8 c8] 27)
            replace k12 := k12.alloc (.cells #[.slice A8 n8 c8] 27)
            replace ho7 := ho7.alloc (.cells #[.slice A8 n8 c8] 27)
            replace k13 := k13.alloc (.cells #[.slice A8 n8 c8] 27)
            replace ho8 := ho8.alloc (.cells #[.slice A8 n8 c8] 27)
            have k15 := Blk.new y3 27 #[.slice A8 n8 c8]
            replace z1 := z1.alloc (.cells #[.slice none 0 0] 27)
            replace z2 := z2.alloc (.cells #[.slice none 0 0] 27)
            replace t4 := t4.alloc (.cells #[.slice none 0 0] 27)
            replace HB7 := Lib.hid (HB7.out.alloc HB7.out.size (.cells #[.slice none 0 0] 27))
            replace HX := Lib.hid (HX.out.alloc HX.out.size (.cells #[.slice none 0 0] 27))
            replace s6 := s6.alloc (.cells #[.slice none 0 0] 27)
            replace k12 := k12.alloc (.cells #[.slice none 0 0] 27)
            replace ho7 := ho7.alloc (.cells #[.slice none 0 0] 27)
            replace k13 := k13.alloc (.cells #[.slice none 0 0] 27)
            replace ho8 := ho8.alloc (.cells #[.slice none 0 0] 27)
            replace k15 := k15.alloc (.cells #[.slice none 0 0] 27)
            have k17 := Blk.new (y3.alloc (.cells #[.slice A8 n8 c8] 27)) 27 #[.slice none 0 0]
            replace z1 := z1.alloc (.cells #[.slice none 0 0] 27)
            replace z2 := z2.alloc (.cells #[.slice none 0 0] 27)
            replace t4 := t4.alloc (.cells #[.slice none 0 0] 27)
            replace HB7 := Lib.hid (HB7.out.alloc HB7.out.size (.cells #[.slice none 0 0] 27))
            replace HX := Lib.hid (HX.out.alloc HX.out.size (.cells #[.slice none 0 0] 27))
            replace s6 := s6.alloc (.cells #[.slice none 0 0] 27)
            replace k12 := k12.alloc (.cells #[.slice none 0 0] 27)
            replace ho7 := ho7.alloc (.cells #[.slice none 0 0] 27)
            replace k13 := k13.alloc (.cells #[.slice none 0 0] 27)
            replace ho8 := ho8.alloc (.cells #[.slice none 0 0] 27)
            replace k15 := k15.alloc (.cells #[.slice none 0 0] 27)
            replace k17 := k17.alloc (.cells #[.slice none 0 0] 27)
            have k18 := Blk.new ((y3.alloc (.cells #[.slice A8 n8 c8] 27)).alloc (.cells #[.slice none 0 0] 27)) 27 #[.slice none 0 0]
            simp only [World.size_alloc] at k17 k18
            obtain ⟨g15, hg15⟩ : ∃ g15, y3.heap.size = g15 := ⟨_, rfl⟩
            rw [hg15] at k15 k17 k18 g15ge g12lt g13lt
            clear hb8
            have c1 := z1.cell 0
            simp at c1
            go_wp2_with fail
            clear hg15
            refine (rhas_any A4 n4 c4 L4 v _ t4 (by omega)).mono ?_
            rintro e y4 ⟨rfl, hb9⟩
            clear c1
            replace z1 := z1.below hb9
            replace z2 := z2.below hb9
            replace t4 := t4.below hb9
            replace HB7 := Lib.hid (HB7.out.trans (hb9.mono HB7.out.size))
            replace HX := Lib.hid (HX.out.trans (hb9.mono HX.out.size))
            replace s6 := s6.below hb9
            replace k12 := k12.below hb9
            replace ho7 := own_below ho7 hb9
            replace k13 := k13.below hb9
            replace ho8 := own_below ho8 hb9
            replace k15 := k15.below hb9
            replace k17 := k17.below hb9
            replace k18 := k18.below hb9
            clear hb9
            have c1 := z1.cell 0
            simp at c1
            have HA := Lib.hid (add_law L4 v)
            have HD := Lib.hid (drop_law L4 v)
            go_upto_block 3 with fail
            go_cut [7, 19, 20, 21] from 68 to 98 (fun s7 s19 s20 s21 wx => s7 = .bool (rightB L4) ∧ s19 = .int .i64 (addE L4 v) ∧ s20 = .int .i64 (dropE L4 v) ∧ ∃ (A9 : Option Addr) (n9 c9 : Nat) (A10 : Option Addr) (n10 c10 : Nat), n9 ≤ 1000000000000 ∧ n10 ≤ 1000000000000 ∧ Blk wx (g15 + 1) 27 #[.slice A9 n9 c9] ∧ Blk wx (g15 + 1 + 1) 27 #[.slice A10 n10 c10] ∧ Sees wx (some 3) 1 A9 n9 (ib .i64 (addL L4 v)) ∧ Sees wx (some 3) 1 A10 n10 (ib .i64 (dropL L4 v)) ∧ Blk wx w.heap.size 27 #[.slice A4 n4 c4] ∧ Blk wx g12 27 #[.slice A6 n6 c6] ∧ Blk wx g13 27 #[.slice A7 n7 c7] ∧ Blk wx g15 27 #[.slice A8 n8 c8] ∧ Sees wx (some 3) 1 A4 n4 (ib .i64 L4) ∧ Sees wx (some 3) 1 A6 n6 (ib .i64 L4) ∧ wx.ownsRow Q7 3 1 (.slice A7 n7 c7) n7 (ib .i64 (addL L4 v)) ∧ wx.ownsRow Q8 3 1 (.slice A8 n8 c8) n8 (ib .i64 (dropL L4 v)) ∧ Below w.heap.size w wx ∧ Below x9.heap.size x9 wx)
            case first =>
              cases hl : rightB L4 with
              | false =>
                have HE : Hid (addE L4 v = 180) := by unfold Hid; rw [HA.out.1]; simp [hl]
                have HEL : Hid (addL L4 v = []) := by unfold Hid; rw [HA.out.2]; simp [hl]
                have HF : Hid (dropE L4 v = 180) := by unfold Hid; rw [HD.out.1]; simp [hl]
                have HFL : Hid (dropL L4 v = []) := by unfold Hid; rw [HD.out.2]; simp [hl]
                have HL := Lib.hid hl
                clear hl
                go_wp2_with fail
                go_meet
                exact ⟨by rw [HL.out], by rw [HE.out], by rw [HF.out], none, 0, 0, none, 0, 0, by omega, by omega, k17, k18, by rw [HEL.out]; exact Sees.nil _ _ _, by rw [HFL.out]; exact Sees.nil _ _ _, z1, k12, k13, k15, t4, s6, ho7, ho8, HB7.out, HX.out⟩
              | true =>
                by_cases hm : v ∈ L4
                · have hd : decide (v ∈ L4) = true := by simp [hm]
                  rw [hd]
                  by_cases hn1 : 1 < n4
                  · have hlen : ¬ L4.length ≤ 1 := by have := HL4.out; omega
                    have hlen2 : 1 < L4.length := by omega
                    have HE : Hid (addE L4 v = 5) := by unfold Hid; rw [HA.out.1]; simp [hl, hm, hlen, hlen2]
                    have HEL : Hid (addL L4 v = []) := by unfold Hid; rw [HA.out.2]; simp [hl, hm, hlen, hlen2]
                    have HF : Hid (dropE L4 v = 0) := by unfold Hid; rw [HD.out.1]; simp [hl, hm, hlen, hlen2]
                    have HFL : Hid (dropL L4 v = butL L4 v) := by unfold Hid; rw [HD.out.2]; simp [hl, hm, hlen, hlen2]
                    have HL := Lib.hid hl
                    clear hl hm hd hlen hlen2
                    go_wp2_with fail
                    refine (rwithout_any A4 n4 c4 L4 v _ t4 (by omega)).mono ?_
                    rintro e y5 ⟨A10, n10, c10, rfl, hn10, ho10, hb10⟩
                    have s10 := Sees.of_own ho10
                    clear ho10
                    replace z1 := z1.below hb10
                    replace z2 := z2.below hb10
                    replace t4 := t4.below hb10
                    replace HB7 := Lib.hid (HB7.out.trans (hb10.mono HB7.out.size))
                    replace HX := Lib.hid (HX.out.trans (hb10.mono HX.out.size))
                    replace s6 := s6.below hb10
                    replace k12 := k12.below hb10
                    replace ho7 := own_below ho7 hb10
                    replace k13 := k13.below hb10
                    replace ho8 := own_below ho8 hb10
                    replace k15 := k15.below hb10
                    replace k17 := k17.below hb10
                    replace k18 := k18.below hb10
                    have c18 := k18.cell 0
                    have f18 := k18.frozen 0
                    clear hb10 c1
                    go_wp2_with fail
                    clear c18 f18
                    have apart_of := k18
                    replace z1 := z1.far (p := ⟨g15 + 1 + 1, 0, none⟩) (by have := HX9.out; first | (simp; done) | (simp; omega)) (.slice A10 n10 c10)
                    replace z2 := z2.far (p := ⟨g15 + 1 + 1, 0, none⟩) (by have := HX9.out; first | (simp; done) | (simp; omega)) (.slice A10 n10 c10)
                    replace t4 := t4.far (p := ⟨g15 + 1 + 1, 0, none⟩) (apart_of.apart t4 (by decide)) (.slice A10 n10 c10)
                    replace HB7 := Lib.hid (HB7.out.setCell (p := ⟨g15 + 1 + 1, 0, none⟩) (by have := HX9.out; show _ ≤ g15 + 1 + 1; omega) (.slice A10 n10 c10))
                    replace HX := Lib.hid (HX.out.setCell (p := ⟨g15 + 1 + 1, 0, none⟩) (by have := HX9.out; show _ ≤ g15 + 1 + 1; omega) (.slice A10 n10 c10))
                    replace s6 := s6.far (p := ⟨g15 + 1 + 1, 0, none⟩) (apart_of.apart s6 (by decide)) (.slice A10 n10 c10)
                    replace k12 := k12.far (p := ⟨g15 + 1 + 1, 0, none⟩) (by have := HX9.out; first | (simp; done) | (simp; omega)) (.slice A10 n10 c10)
                    replace ho7 := own_grown1 ho7 (grown_set _ (g15 + 1 + 1) 0 (.slice A10 n10 c10)) (own_apart ho7 apart_of (by decide))
                    replace k13 := k13.far (p := ⟨g15 + 1 + 1, 0, none⟩) (by have := HX9.out; first | (simp; done) | (simp; omega)) (.slice A10 n10 c10)
                    replace ho8 := own_grown1 ho8 (grown_set _ (g15 + 1 + 1) 0 (.slice A10 n10 c10)) (own_apart ho8 apart_of (by decide))
                    replace k15 := k15.far (p := ⟨g15 + 1 + 1, 0, none⟩) (by have := HX9.out; first | (simp; done) | (simp; omega)) (.slice A10 n10 c10)
                    replace k17 := k17.far (p := ⟨g15 + 1 + 1, 0, none⟩) (by have := HX9.out; first | (simp; done) | (simp; omega)) (.slice A10 n10 c10)
                    replace s10 := s10.far (p := ⟨g15 + 1 + 1, 0, none⟩) (apart_of.apart s10 (by decide)) (.slice A10 n10 c10)
                    replace k18 := k18.put 0 (.slice A10 n10 c10)
                    clear apart_of
                    go_meet
                    exact ⟨by rw [HL.out], by rw [HE.out], by rw [HF.out], none, 0, 0, A10, n10, c10, by omega, by omega, k17, k18, by rw [HEL.out]; exact Sees.nil _ _ _, by rw [HFL.out]; exact s10, z1, k12, k13, k15, t4, s6, ho7, ho8, HB7.out, HX.out⟩
                  · have hlen : L4.length ≤ 1 := by have := HL4.out; omega
                    have hlen2 : ¬ 1 < L4.length := by omega
                    have HE : Hid (addE L4 v = 5) := by unfold Hid; rw [HA.out.1]; simp [hl, hm, hlen, hlen2]
                    have HEL : Hid (addL L4 v = []) := by unfold Hid; rw [HA.out.2]; simp [hl, hm, hlen, hlen2]
                    have HF : Hid (dropE L4 v = 180) := by unfold Hid; rw [HD.out.1]; simp [hl, hm, hlen, hlen2]
                    have HFL : Hid (dropL L4 v = []) := by unfold Hid; rw [HD.out.2]; simp [hl, hm, hlen, hlen2]
                    have HL := Lib.hid hl
                    clear hl hm hd hlen hlen2
                    go_wp2_with fail
                    go_meet
                    exact ⟨by rw [HL.out], by rw [HE.out], by rw [HF.out], none, 0, 0, none, 0, 0, by omega, by omega, k17, k18, by rw [HEL.out]; exact Sees.nil _ _ _, by rw [HFL.out]; exact Sees.nil _ _ _, z1, k12, k13, k15, t4, s6, ho7, ho8, HB7.out, HX.out⟩
                · have hd : decide (v ∈ L4) = false := by simp [hm]
                  rw [hd]
                  by_cases ho : v < 1 ∨ 5 < v
                  · have HO := Lib.hid ho
                    have HE : Hid (addE L4 v = 2) := by unfold Hid; rw [HA.out.1]; simp [hl, hm, ho]
                    have HEL : Hid (addL L4 v = []) := by unfold Hid; rw [HA.out.2]; simp [hl, hm, ho]
                    have HF : Hid (dropE L4 v = 4) := by unfold Hid; rw [HD.out.1]; simp [hl, hm, ho]
                    have HFL : Hid (dropL L4 v = []) := by unfold Hid; rw [HD.out.2]; simp [hl, hm, ho]
                    have HL := Lib.hid hl
                    clear hl hm hd
                    rcases ho with ho | ho
                    · go_wp2_with fail
                      go_meet
                      exact ⟨by rw [HL.out], by rw [HE.out], by rw [HF.out], none, 0, 0, none, 0, 0, by omega, by omega, k17, k18, by rw [HEL.out]; exact Sees.nil _ _ _, by rw [HFL.out]; exact Sees.nil _ _ _, z1, k12, k13, k15, t4, s6, ho7, ho8, HB7.out, HX.out⟩
                    · have ho1 : ¬ v < 1 := by omega
                      go_wp2_with fail
                      go_meet
                      exact ⟨by rw [HL.out], by rw [HE.out], by rw [HF.out], none, 0, 0, none, 0, 0, by omega, by omega, k17, k18, by rw [HEL.out]; exact Sees.nil _ _ _, by rw [HFL.out]; exact Sees.nil _ _ _, z1, k12, k13, k15, t4, s6, ho7, ho8, HB7.out, HX.out⟩
                  · have ho1 : 1 ≤ v := by omega
                    have ho5 : v ≤ 5 := by omega
                    have HE : Hid (addE L4 v = 0) := by unfold Hid; rw [HA.out.1]; simp [hl, hm, ho]
                    have HEL : Hid (addL L4 v = ofM (L4 ++ [v])) := by unfold Hid; rw [HA.out.2]; simp [hl, hm, ho]
                    have HF : Hid (dropE L4 v = 4) := by unfold Hid; rw [HD.out.1]; simp [hl, hm, ho]
                    have HFL : Hid (dropL L4 v = []) := by unfold Hid; rw [HD.out.2]; simp [hl, hm, ho]
                    have HL := Lib.hid hl
                    clear hl hm hd ho
                    go_wp2_with fail
                    refine (rwith_any A4 n4 c4 L4 v _ t4 (by omega)).mono ?_
                    rintro e y5 ⟨A9, n9, c9, rfl, hn9, ho9, hb10⟩
                    have s9 := Sees.of_own ho9
                    clear ho9
                    replace z1 := z1.below hb10
                    replace z2 := z2.below hb10
                    replace t4 := t4.below hb10
                    replace HB7 := Lib.hid (HB7.out.trans (hb10.mono HB7.out.size))
                    replace HX := Lib.hid (HX.out.trans (hb10.mono HX.out.size))
                    replace s6 := s6.below hb10
                    replace k12 := k12.below hb10
                    replace ho7 := own_below ho7 hb10
                    replace k13 := k13.below hb10
                    replace ho8 := own_below ho8 hb10
                    replace k15 := k15.below hb10
                    replace k17 := k17.below hb10
                    replace k18 := k18.below hb10
                    have c18 := k17.cell 0
                    have f18 := k17.frozen 0
                    clear hb10 c1
                    go_wp2_with fail
                    clear c18 f18
                    have apart_of := k17
                    replace z1 := z1.far (p := ⟨g15 + 1, 0, none⟩) (by have := HX9.out; first | (simp; done) | (simp; omega)) (.slice A9 n9 c9)
                    replace z2 := z2.far (p := ⟨g15 + 1, 0, none⟩) (by have := HX9.out; first | (simp; done) | (simp; omega)) (.slice A9 n9 c9)
                    replace t4 := t4.far (p := ⟨g15 + 1, 0, none⟩) (apart_of.apart t4 (by decide)) (.slice A9 n9 c9)
                    replace HB7 := Lib.hid (HB7.out.setCell (p := ⟨g15 + 1, 0, none⟩) (by have := HX9.out; show _ ≤ g15 + 1; omega) (.slice A9 n9 c9))
                    replace HX := Lib.hid (HX.out.setCell (p := ⟨g15 + 1, 0, none⟩) (by have := HX9.out; show _ ≤ g15 + 1; omega) (.slice A9 n9 c9))
                    replace s6 := s6.far (p := ⟨g15 + 1, 0, none⟩) (apart_of.apart s6 (by decide)) (.slice A9 n9 c9)
                    replace k12 := k12.far (p := ⟨g15 + 1, 0, none⟩) (by have := HX9.out; first | (simp; done) | (simp; omega)) (.slice A9 n9 c9)
                    replace ho7 := own_grown1 ho7 (grown_set _ (g15 + 1) 0 (.slice A9 n9 c9)) (own_apart ho7 apart_of (by decide))
                    replace k13 := k13.far (p := ⟨g15 + 1, 0, none⟩) (by have := HX9.out; first | (simp; done) | (simp; omega)) (.slice A9 n9 c9)
                    replace ho8 := own_grown1 ho8 (grown_set _ (g15 + 1) 0 (.slice A9 n9 c9)) (own_apart ho8 apart_of (by decide))
                    replace k15 := k15.far (p := ⟨g15 + 1, 0, none⟩) (by have := HX9.out; first | (simp; done) | (simp; omega)) (.slice A9 n9 c9)
                    replace k18 := k18.far (p := ⟨g15 + 1, 0, none⟩) (by have := HX9.out; first | (simp; done) | (simp; omega)) (.slice A9 n9 c9)
                    replace s9 := s9.far (p := ⟨g15 + 1, 0, none⟩) (apart_of.apart s9 (by decide)) (.slice A9 n9 c9)
                    replace k17 := k17.put 0 (.slice A9 n9 c9)
                    clear apart_of
                    go_meet
                    exact ⟨by rw [HL.out], by rw [HE.out], by rw [HF.out], A9, n9, c9, none, 0, 0, by omega, by omega, k17, k18, by rw [HEL.out]; exact s9, by rw [HFL.out]; exact Sees.nil _ _ _, z1, k12, k13, k15, t4, s6, ho7, ho8, HB7.out, HX.out⟩
            case rest =>
              clear z1 z2 t4 s6 k12 k13 k15 k17 k18 ho7 ho8 HB7 HX c1 HA HD
              obtain ⟨rfl, rfl, rfl, A9, n9, c9, A10, n10, c10, hn9, hn10, k17, k18, s9, s10, z1, k12, k13, k15, t4, s6, ho7, ho8, hB7, hX⟩ := hcut
              have HB7 := Lib.hid hB7
              have HX := Lib.hid hX
              clear hB7 hX
              have hn7 : n7 ≤ 1000000000000 := by have h1 := own_len ho7; have h2 := s9.len; omega
              have hn8 : n8 ≤ 1000000000000 := by have h1 := own_len ho8; have h2 := s10.len; omega
              have c13 := k13.cell 0
              have c17 := k17.cell 0
              have c15 := k15.cell 0
              have c18 := k18.cell 0
              simp at c13 c17 c15 c18
              go_wp2_with fail
              refine (rsame_any A7 A9 n7 c7 n9 c9 _ _ _ (Sees.of_own ho7) s9 hn7).mono ?_
              rw [eqB_true rfl]
              rintro e y6 ⟨rfl, hb11⟩
              clear c13 c17 c15 c18
              replace z1 := z1.below hb11
              replace t4 := t4.below hb11
              replace s6 := s6.below hb11
              replace s10 := s10.below hb11
              replace k12 := k12.below hb11
              replace k13 := k13.below hb11
              replace k15 := k15.below hb11
              replace k18 := k18.below hb11
              replace ho7 := own_below ho7 hb11
              replace ho8 := own_below ho8 hb11
              replace HB7 := Lib.hid (HB7.out.trans (hb11.mono HB7.out.size))
              replace HX := Lib.hid (HX.out.trans (hb11.mono HX.out.size))
              clear k17 s9 hb11
              have c15 := k15.cell 0
              have c18 := k18.cell 0
              simp at c15 c18
              go_wp2_with fail
              refine (rsame_any A8 A10 n8 c8 n10 c10 _ _ _ (Sees.of_own ho8) s10 hn8).mono ?_
              rw [eqB_true rfl]
              rintro e y7 ⟨rfl, hb12⟩
              clear c15 c18
              replace z1 := z1.below hb12
              replace t4 := t4.below hb12
              replace s6 := s6.below hb12
              replace s10 := s10.below hb12
              replace k12 := k12.below hb12
              replace k13 := k13.below hb12
              replace k15 := k15.below hb12
              replace k18 := k18.below hb12
              replace ho7 := own_below ho7 hb12
              replace ho8 := own_below ho8 hb12
              replace HB7 := Lib.hid (HB7.out.trans (hb12.mono HB7.out.size))
              replace HX := Lib.hid (HX.out.trans (hb12.mono HX.out.size))
              clear s10 k18 hb12
              have c13 := k13.cell 0
              simp at c13
              go_wp2_with fail
              clear c13
              obtain ⟨wo, rfl⟩ : ∃ wo : World, wo = wr := ⟨_, rfl⟩
              go_loopw [122] (fun i wz => ∃ j : Nat, j ≤ n7 ∧ i = .int .i64 j ∧ Zeroed Q7 A7 n7 c7 y7 wz) (fun i _ => n7 - (intOf i).toNat)
              case atStart => exact ⟨0, by omega, rfl, World.grownBy.refl _ _, _, ho7⟩
              case round =>
                obtain ⟨wz, rfl⟩ : ∃ wz : World, wz = wr := ⟨_, rfl⟩
                obtain ⟨j, hj, rfl, hz⟩ := hrel
                by_cases hltj : j < n7
                · have q13 := hz.blk ho7 k13 (by decide)
                  have c13 := q13.cell 0
                  simp at c13
                  obtain ⟨hg, lz, hown⟩ := hz
                  obtain ⟨gz, uz, rfl, hbg, hlg, huz, hcz, hfz⟩ := own_at hown hltj
                  clear huz
                  go_wp2
                  go_roundw
                  case rel => exact ⟨j + 1, by omega, by go_num, grown_trans hg (grown_set _ gz j _), _, own_put hown j _⟩
                  case measure => simp [intOf]; omega
                · replace z1 := hz.blk ho7 z1 (by decide)
                  replace k12 := hz.blk ho7 k12 (by decide)
                  replace k15 := hz.blk ho7 k15 (by decide)
                  replace t4 := hz.sees ho7 t4 l4.out
                  replace s6 := hz.sees ho7 s6 l6.out
                  replace ho8 := hz.own ho7 ho8 l7.out
                  replace HB7 := Lib.hid (hz.below ho7 HB7.out HB7.out.size (by have := HX9.out; omega))
                  replace HX := Lib.hid (hz.below ho7 HX.out HX.out.size q7ge)
                  clear k13 hz ho7
                  have c15 := k15.cell 0
                  simp at c15
                  go_wp2_with fail
                  clear c15
                  go_loopw [133] (fun i wy => ∃ j : Nat, j ≤ n8 ∧ i = .int .i64 j ∧ Zeroed Q8 A8 n8 c8 wz wy) (fun i _ => n8 - (intOf i).toNat)
                  case atStart => exact ⟨0, by omega, rfl, World.grownBy.refl _ _, _, ho8⟩
                  case round =>
                    obtain ⟨j2, hj2, rfl, hz⟩ := hrel
                    by_cases hltj2 : j2 < n8
                    · have q15 := hz.blk ho8 k15 (by decide)
                      have c15 := q15.cell 0
                      simp at c15
                      obtain ⟨hg, lz, hown⟩ := hz
                      obtain ⟨gz, uz, rfl, hbg, hlg, huz, hcz, hfz⟩ := own_at hown hltj2
                      clear huz
                      go_wp2
                      go_roundw
                      case rel => exact ⟨j2 + 1, by omega, by go_num, grown_trans hg (grown_set _ gz j2 _), _, own_put hown j2 _⟩
                      case measure => simp [intOf]; omega
                    · replace z1 := hz.blk ho8 z1 (by decide)
                      replace k12 := hz.blk ho8 k12 (by decide)
                      replace t4 := hz.sees ho8 t4 l48.out
                      replace s6 := hz.sees ho8 s6 l68.out
                      replace HX := Lib.hid (hz.below ho8 HX.out HX.out.size q8ge)
                      clear k15 hz ho8
                      have c1 := z1.cell 0
                      have c12 := k12.cell 0
                      simp at c1 c12
                      go_wp2_with fail
                      refine (rsame_any A4 A6 n4 c4 n6 c6 _ _ _ t4 s6 (by omega)).mono ?_
                      rw [eqB_true rfl]
                      rintro e y8 ⟨rfl, hb13⟩
                      clear c1 c12
                      go_wp2
                      go_roundw
                      case rel => exact ⟨k + 1, by omega, by go_num, HX.out.trans (hb13.mono HX.out.size)⟩
                      case measure => simp [intOf]; omega
        · go_wp2
          go_ret
          exact ⟨rfl, hbw.out⟩
end Go.Proofs.Ytonfbinkjhbpiaa.confMoves

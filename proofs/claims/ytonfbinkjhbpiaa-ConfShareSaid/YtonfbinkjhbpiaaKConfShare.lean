/- The walk of ConfShare, which returns true. No condition. -/
import Derived.Test.YtonfbinkjhbpiaaRows
import Derived.Test.YtonfbinkjhbpiaaC13
import Derived.Test.YtonfbinkjhbpiaaRead2
import Derived.Test.YtonfbinkjhbpiaaRead
import Derived.WalkKit
import Derived.BigQuiet
import Derived.Deep.QuietTactic
import Derived.Deep.RegionHeld3
import Derived.Deep.RegionWith
import Derived.Deep.CutRange
import Derived.WalkLawsBesides
import Derived.Lib.Hide
namespace Go.Proofs.Ytonfbinkjhbpiaa.confShare
open Go.RowKit
set_option linter.unusedVariables false


open Go.Proofs.Ytonfbinkjhbpiaa
theorem keep22 {wr w1 w2 : World} {a b : Addr} {v u : Value} (h : w1.cell? a = some v ∧ w1.cell? b = some u ∧ Below wr.heap.size wr w1) (hb : Below w1.heap.size w1 w2) : w2.cell? a = some v ∧ w2.cell? b = some u ∧ Below wr.heap.size wr w2 :=
  ⟨by rw [hb.cell (World.block_lt_of_cell? w1 _ h.1)]; exact h.1, by rw [hb.cell (World.block_lt_of_cell? w1 _ h.2.1)]; exact h.2.1, h.2.2.trans (hb.mono h.2.2.size)⟩
theorem snd3 {a b c : Prop} (h : a ∧ b ∧ c) : c := h.2.2

set_option maxRecDepth 100000 in
set_option maxHeartbeats 12000000 in
theorem walk (w : World) (A : Option Addr) (n c : Nat) (la : List Int) (w0 : Row w .i64 A n c la) (B : Option Addr) (m d : Nat) (lb : List Int) (w1 : Row w .i64 B m d lb)
    (C : Option Addr) (p f : Nat) (lx : List Int) (D : Option Addr) (q g : Nat) (ly : List Int) (w2 : Row w .i64 C p f lx) (w3 : Row w .i64 D q g ly) :
    Calls Try.prog 7 #[.agg #[.slice A n c], .agg #[.slice B m d], .agg #[.slice C p f, .slice D q g]] w fun e w' => e = .returned (.bool true) ∧ Below w.heap.size w w' := by
  have HB := Lib.hid ((((Below.refl _ w).alloc (Nat.le_refl _) (.cells #[.slice A n c] 27)).alloc (by simp) (.cells #[.slice B m d] 27)).alloc (by simp; omega) (.cells #[.slice C p f, .slice D q g] 55))
  have k1 := ((Blk.new w 27 #[.slice A n c]).alloc (.cells #[.slice B m d] 27)).alloc (.cells #[.slice C p f, .slice D q g] 55)
  have k2 := (Blk.new (w.alloc (.cells #[.slice A n c] 27)) 27 #[.slice B m d]).alloc (.cells #[.slice C p f, .slice D q g] 55)
  have k3 := Blk.new ((w.alloc (.cells #[.slice A n c] 27)).alloc (.cells #[.slice B m d] 27)) 55 #[.slice C p f, .slice D q g]
  simp only [World.size_alloc] at k2 k3
  have HK1 := Lib.hid k1
  have HK2 := Lib.hid k2
  have HK3 := Lib.hid k3
  clear k1 k2 k3
  go_enter Try.func7, Try.ntmps7
  go_wp2_with fail
  refine (wakes_any _).mono ?_
  rintro e x1 ⟨rfl, hb1⟩
  have k1 := HK1.out.below hb1
  have k2 := HK2.out.below hb1
  have k3 := HK3.out.below hb1
  have HB1 := Lib.hid (HB.out.trans (hb1.mono HB.out.size))
  have sa := w0.sees.below HB1.out
  have sb := w1.sees.below HB1.out
  clear HB HK1 HK2 HK3 hb1
  have c1 := k1.cell 0
  have c2 := k2.cell 0
  simp at c1 c2
  have f1 := k1.frozen 0
  have f2 := k2.frozen 0
  go_wp2_with fail
  go_cut [3, 4, 5] from 13 to 16 (fun s3 s4 s5 wx => s3 = .pointer (some ⟨w.heap.size, 0, none⟩) ∧ s4 = .pointer (some ⟨w.heap.size + 1, 0, none⟩) ∧ s5 = .pointer (some ⟨w.heap.size + 1 + 1, 0, none⟩) ∧ ∃ (A4 : Option Addr) (n4 c4 : Nat) (A5 : Option Addr) (n5 c5 : Nat), Blk wx w.heap.size 27 #[.slice A4 n4 c4] ∧ Blk wx (w.heap.size + 1) 27 #[.slice A5 n5 c5] ∧ Blk wx (w.heap.size + 1 + 1) 55 #[.slice C p f, .slice D q g] ∧ n4 ≤ 30 ∧ n5 ≤ 30 ∧ Sees wx (some 3) 1 A4 n4 (ib .i64 (la.take 30)) ∧ Sees wx (some 3) 1 A5 n5 (ib .i64 (lb.take 30)) ∧ Below w.heap.size w wx)
  case first =>

    go_region_with (first
      | (go_at_call 12; refine (few_any A n c la _ sa.drew w0.nc w0.small).mono ?_; rintro e x4 ⟨A4, n4, c4, rfl, hn4, ho4, hb4⟩; have hb4' : Below x1.heap.size x1 x4 := ⟨hb4.os, hb4.tape, hb4.output, hb4.size, hb4.block⟩; have sb4 := sb.below hb4'; have k24 := k2.below hb4'; have c24 := k24.cell 0; have k14 := k1.below hb4')
      | (go_at_call 12; refine (few_any B m d lb _ sb4 w1.nc w1.small).mono ?_; rintro e x5 ⟨A5, n5, c5, rfl, hn5, ho5, hb5⟩; have k15 := k14.below hb5; have k25 := k24.below hb5; have c15 := k15.cell 0; have c25 := k25.cell 0; have f15 := k15.frozen 0; have f25 := k25.frozen 0))
    all_goals
      have s4 := (Sees.of_own ho4).below hb5
      have s5 := Sees.of_own ho5
      have k35 := (k3.below hb4').below hb5
      have s4' := s4.far (p := ⟨w.heap.size, 0, none⟩) (k15.apart s4 (by decide)) (.slice A4 n4 c4)
      have s5' := s5.far (p := ⟨w.heap.size, 0, none⟩) (k15.apart s5 (by decide)) (.slice A4 n4 c4)
      have k25' := k25.far (p := ⟨w.heap.size, 0, none⟩) (by simp) (.slice A4 n4 c4)
      have k35' := (k35.far (p := ⟨w.heap.size, 0, none⟩) (by simp; omega) (.slice A4 n4 c4)).far (p := ⟨w.heap.size + 1, 0, none⟩) (by simp) (.slice A5 n5 c5)
      have k15' := (k15.put 0 (.slice A4 n4 c4)).far (p := ⟨w.heap.size + 1, 0, none⟩) (by simp) (.slice A5 n5 c5)
      have s4'' := s4'.far (p := ⟨w.heap.size + 1, 0, none⟩) (k25'.apart s4' (by decide)) (.slice A5 n5 c5)
      have s5'' := s5'.far (p := ⟨w.heap.size + 1, 0, none⟩) (k25'.apart s5' (by decide)) (.slice A5 n5 c5)
      have hBn := ((HB1.out.trans (hb4'.mono HB1.out.size)).trans (hb5.mono (Nat.le_trans HB1.out.size hb4'.size))).setCell (p := ⟨w.heap.size, 0, none⟩) (Nat.le_refl _) (.slice A4 n4 c4)
      have hBn' := hBn.setCell (p := ⟨w.heap.size + 1, 0, none⟩) (Nat.le_succ _) (.slice A5 n5 c5)
      have k25'' := k25'.put 0 (.slice A5 n5 c5)
      clear c15 c25 f15 f25 c24 c1 c2 f1 f2
      go_wp2_with fail
      go_meet
      exact ⟨rfl, rfl, rfl, A4, n4, c4, A5, n5, c5, k15', k25'', k35', hn4, hn5, s4'', s5'', hBn'⟩
  case rest =>
    obtain ⟨rfl, rfl, rfl, A4, n4, c4, A5, n5, c5, y1, y2, y3, hn4, hn5, s4, s5, hBc⟩ := hcut
    clear sa sb k1 k2 k3 c1 c2 f1 f2 HB1
    have e0 := y3.cell 0
    have e1 := y3.cell 1
    simp at e0 e1
    have sC := w2.sees.below hBc
    have sD := w3.sees.below hBc
    have hS0 : wc.drew.cell? ⟨w.heap.size + 1 + 1, 0, none⟩ = some (.slice C p f) ∧ wc.drew.cell? ⟨w.heap.size + 1 + 1, 1, none⟩ = some (.slice D q g) ∧ Below wc.heap.size wc wc.drew := ⟨e0, e1, (Below.refl _ _).drew⟩
    go_wp2_with fail
    go_region_held3 (fun w' => w'.cell? ⟨w.heap.size + 1 + 1, 0, none⟩ = some (.slice C p f) ∧ w'.cell? ⟨w.heap.size + 1 + 1, 1, none⟩ = some (.slice D q g) ∧ Below wc.heap.size wc w') (assumption)
      (first
        | (go_at_call 11; refine (part_any C p f lx _ (sC.below ?_) w2.nc w2.small).mono ?_; (exact snd3 ‹_ ∧ _ ∧ _›); rintro e x6 ⟨A6, n6, c6, rfl, hn6, ho6, hb6⟩; have hS6 := keep22 ‹_ ∧ _› hb6)
        | (go_at_call 11; refine (part_any D q g ly _ (sD.below ?_) w3.nc w3.small).mono ?_; (exact snd3 ‹_ ∧ _ ∧ _›); rintro e x7 ⟨A7, n7, c7, rfl, hn7, ho7, hb7⟩; have hS7 := keep22 ‹_ ∧ _› hb7))
    have z1 := y1.below hS7.2.2
    have z2 := y2.below hS7.2.2
    have t4 := s4.below hS7.2.2
    have t5 := s5.below hS7.2.2
    have t6 := (Sees.of_own ho6).below hb7
    have t7 := Sees.of_own ho7
    have HB7 := Lib.hid (hBc.trans (hS7.2.2.mono hBc.size))
    clear hS7 hS6 hS0 y1 y2 y3 s4 s5 ho6 hb6 ho7 hb7 hBc sC sD e0 e1
    have c1 := z1.cell 0
    have c2 := z2.cell 0
    simp at c1 c2
    obtain ⟨L4, hL4⟩ : ∃ L4, L4 = la.take 30 := ⟨_, rfl⟩
    obtain ⟨L5, hL5⟩ : ∃ L5, L5 = lb.take 30 := ⟨_, rfl⟩
    obtain ⟨L6, hL6⟩ : ∃ L6, L6 = lx.take 30 := ⟨_, rfl⟩
    obtain ⟨L7, hL7⟩ : ∃ L7, L7 = ly.take 30 := ⟨_, rfl⟩
    rw [← hL4] at t4
    rw [← hL5] at t5
    rw [← hL6] at t6
    rw [← hL7] at t7
    clear hL4 hL5 hL6 hL7
    have HL6 := Lib.hid t6.len
    go_wp2_with fail
    refine (step_any A4 A5 n4 c4 n5 c5 L4 L5 _ t4 t5 (by omega) (by omega)).mono ?_
    rintro e x8 ⟨rfl, hb8⟩
    replace z1 := z1.below hb8
    replace z2 := z2.below hb8
    replace t4 := t4.below hb8
    replace t5 := t5.below hb8
    replace t6 := t6.below hb8
    replace t7 := t7.below hb8
    replace HB7 := Lib.hid (HB7.out.trans (hb8.mono HB7.out.size))
    clear c1 c2 hb8
    have c1 := z1.cell 0
    have c2 := z2.cell 0
    simp at c1 c2
    by_cases hst : stepE L4 L5 = 0
    · have HST := Lib.hid hst
      rw [hst]
      clear hst
      go_wp2_with fail
      refine (majority_any A4 A6 n4 c4 n6 c6 L4 L6 _ t4 t6 (by omega) (by omega)).mono ?_
      rintro e x9 ⟨rfl, hb9⟩
      replace z1 := z1.below hb9
      replace z2 := z2.below hb9
      replace t4 := t4.below hb9
      replace t5 := t5.below hb9
      replace t6 := t6.below hb9
      replace t7 := t7.below hb9
      replace HB7 := Lib.hid (HB7.out.trans (hb9.mono HB7.out.size))
      clear c1 c2 hb9
      have c1 := z1.cell 0
      have c2 := z2.cell 0
      simp at c1 c2
      cases hma : moreB (askX L4) (ofS L6) with
      | false =>
        go_wp2
        go_ret
        exact ⟨rfl, HB7.out⟩
      | true =>
        have HMA := Lib.hid hma
        clear hma
        go_wp2_with fail
        refine (majority_any A5 A7 n5 c5 n7 c7 L5 L7 _ t5 t7 (by omega) (by omega)).mono ?_
        rintro e x10 ⟨rfl, hb10⟩
        replace z1 := z1.below hb10
        replace z2 := z2.below hb10
        replace t4 := t4.below hb10
        replace t5 := t5.below hb10
        replace t6 := t6.below hb10
        replace t7 := t7.below hb10
        replace HB7 := Lib.hid (HB7.out.trans (hb10.mono HB7.out.size))
        clear c1 c2 hb10
        cases hmb : moreB (askX L5) (ofS L7) with
        | false =>
          go_wp2
          go_ret
          exact ⟨rfl, HB7.out⟩
        | true =>
          have HSH := Lib.hid (share_law L4 L5 L6 L7 HST.out HMA.out hmb)
          clear hmb HST HMA
          go_wp2_with fail
          go_loopw [41] (fun i wr => ∃ k : Nat, k ≤ n6 ∧ i = .int .i64 k ∧ Below x10.heap.size x10 wr ∧ Hid (∀ v ∈ L6.take k, ¬ (v ∈ L7 ∧ (hasB (askX L4) v || hasB (askX L5) v) = true))) (fun i _ => n6 - (intOf i).toNat)
          case atStart => exact ⟨0, by omega, rfl, Below.refl _ _, by simp [Hid]⟩
          case round =>
            obtain ⟨k, hk, rfl, hbr, HN⟩ := hrel
            by_cases hlt : k < n6
            · obtain ⟨ad, u, rfl, hu, hc⟩ := (t6.below hbr).at_ hlt
              obtain ⟨v, hv, rfl⟩ := ib_get hu
              have HV := Lib.hid hv
              have r1 := z1.below hbr
              have r2 := z2.below hbr
              have r4 := t4.below hbr
              have r5 := t5.below hbr
              have r7 := t7.below hbr
              have c1 := r1.cell 0
              simp at c1
              clear hu hv
              go_wp2_with fail
              refine (contains_any A7 n7 c7 L7 v _ r7 (by omega)).mono ?_
              rintro e x11 ⟨rfl, rfl⟩
              cases hin : decide (v ∈ L7) with
              | false =>
                have HI := Lib.hid (of_decide_eq_false hin)
                clear hin
                go_wp2
                go_roundw
                case rel => exact ⟨k + 1, by omega, by go_num, hbr, by unfold Hid; rw [take_snoc HV.out]; intro v' hv'; rcases List.mem_append.1 hv' with h | h; (exact HN.out v' h); (obtain rfl := List.mem_singleton.1 h; exact fun h => HI.out h.1)⟩
                case measure => simp [intOf]; omega
              | true =>
                clear hin
                go_wp2_with fail
                refine (has'_any A4 n4 c4 L4 v _ r4 (by omega)).mono ?_
                rintro e x12 ⟨rfl, hb12⟩
                cases ha : hasB (askX L4) v with
                | true =>
                  go_wp2
                  go_ret
                  exact ⟨rfl, (HB7.out.trans (hbr.mono HB7.out.size)).trans (hb12.mono (Nat.le_trans HB7.out.size hbr.size))⟩
                | false =>
                  have HA := Lib.hid ha
                  clear ha c1
                  have r2' := r2.below hb12
                  have c2 := r2'.cell 0
                  simp at c2
                  go_wp2_with fail
                  refine (has'_any A5 n5 c5 L5 v _ (r5.below hb12) (by omega)).mono ?_
                  rintro e x13 ⟨rfl, hb13⟩
                  have hbz : Below x10.heap.size x10 x13 := (hbr.trans (hb12.mono hbr.size)).trans (hb13.mono (Nat.le_trans hbr.size hb12.size))
                  cases hb : hasB (askX L5) v with
                  | true =>
                    clear c2
                    go_wp2
                    go_ret
                    exact ⟨rfl, HB7.out.trans (hbz.mono HB7.out.size)⟩
                  | false =>
                    have HBB := Lib.hid hb
                    clear hb c2
                    go_wp2
                    go_roundw
                    case rel => exact ⟨k + 1, by omega, by go_num, hbz, by unfold Hid; rw [take_snoc HV.out]; intro v' hv'; rcases List.mem_append.1 hv' with h | h; (exact HN.out v' h); (obtain rfl := List.mem_singleton.1 h; rintro ⟨_, h⟩; rw [HA.out, HBB.out] at h; cases h)⟩
                    case measure => simp [intOf]; omega
            · obtain ⟨v, hv, hvy, hvh⟩ := HSH.out
              have h := HN.out
              rw [take_all (by have := HL6.out; omega)] at h
              exact absurd ⟨hvy, hvh⟩ (h v hv)
    · have hne : (stepE L4 L5 != 0) = true := by simp [hst]
      clear hst
      go_wp2
      go_ret
      exact ⟨rfl, HB7.out⟩
end Go.Proofs.Ytonfbinkjhbpiaa.confShare

/- The walk of OctetPuts, which returns true. No condition. -/
import Derived.Test.YtnlgdcoeooppnaaRows
import Derived.Test.YtnlgdcoeooppnaaW6
import Derived.Test.YtnlgdcoeooppnaaRead
import Derived.WalkKit
import Derived.BigQuiet
import Derived.Deep.QuietTactic
import Derived.Deep.RegionHeld3
import Derived.WalkLawsBesides
import Derived.Lib.Hide
namespace Go.Proofs.Ytnlgdcoeooppnaa.octetPuts
open Go.RowKit
set_option linter.unusedVariables false


theorem ib_set (k : IntKind) (l : List Int) (j : Nat) (x : Int) : (ib k l).set j (.int k x) = ib k (l.set j x) := by simp [ib, List.map_set]
theorem ib_take' (k : IntKind) (l : List Int) (a : Nat) : (ib k l).take a = ib k (l.take a) := by simp [ib]
theorem ib_drop' (k : IntKind) (l : List Int) (a : Nat) : (ib k l).drop a = ib k (l.drop a) := by simp [ib]
theorem hi16 (x : Int) : hiT (x % 65536) 8 2 = hiT x 8 2 := by
  simp [hiT, List.range, List.range.loop]; omega
theorem hi32 (x : Int) : hiT (x % 4294967296) 24 4 = hiT x 24 4 := by
  simp [hiT, List.range, List.range.loop]; omega

set_option maxRecDepth 100000 in
set_option maxHeartbeats 3200000 in
theorem walk (w : World) (A : Option Addr) (n c : Nat) (l : List Int) (w0 : Row w .u8 A n c l) (B : Option Addr) (m d : Nat) (r : List Int) (w1 : Row w .u64 B m d r) :
    Calls Try.prog 4 #[.slice A n c, .slice B m d] w fun e w' => e = .returned (.bool true) ∧ Below w.heap.size w w' := by
  have hm : m ≤ 9223372036854775807 := by have h1 := w1.nc; have h2 := w1.small; unfold maxLen at h2; omega
  have hBl : isB (l.take 300) := isB.take (wf_u8 w0.wf) _
  go_enter Try.func4, Try.ntmps4
  go_wp2_with (go_at_call 11; refine (wakes_any w).mono ?_; rintro e x1 ⟨rfl, hb1⟩)
  refine (few_any A n c l x1 (w0.sees.below hb1) w0.nc w0.small).mono ?_
  rintro e x2 ⟨A2, n2, c2, rfl, hn2, ho2, hb2⟩
  have hB2 := hb1.trans (hb2.mono hb1.size)
  obtain ⟨b, Hb⟩ : ∃ b, Hid (b = l.take 300) := ⟨_, rfl⟩
  rw [← Hb.out] at ho2 hBl
  have h2 := Sees.of_own ho2
  have Hbl := Lib.hid h2.len
  clear ho2 hb1 hb2 w0
  go_wp2_with (at_make; refine Door.enter ?_)
  refine Door.leave (wl_make_blk ty_bytes (n := n2) (c := n2 + 16) rfl (by omega) (by omega) (by omega) rfl rfl rfl rfl rfl ?_)
  intro x3 hblk3 hb3 hs3
  go_wp2_with (with_reducible refine wl_copy_blk ty_bytes hblk3 (h2.below hb3) (Nat.le_refl _) (by simp) (ib_one _ _) rfl rfl rfl rfl ?_; intro x4 hblk4 hg4)
  obtain ⟨G, HG⟩ : ∃ G, Hid (G = x2.heap.size) := ⟨_, rfl⟩
  rw [← HG.out] at hblk4 hg4 ⊢
  have hb4 : Below x2.heap.size x2 x4 := hb3.trans (below_of_only hg4 (by rw [HG.out]; exact Nat.le_refl _) hb3.size)
  have hB4 := hB2.trans (hb4.mono hB2.size)
  have h4 := h2.below hb4
  have hroom : List.drop n2 (List.replicate (n2 + 16) (Value.int .u8 0)) = ib .u8 (List.replicate 16 0) := by
    rw [List.drop_replicate, show n2 + 16 - n2 = 16 by omega]; simp [ib]
  have hroom2 : ib .u8 b ++ List.drop n2 (List.replicate (n2 + 16) (Value.int .u8 0)) = ib .u8 (b ++ List.replicate 16 0) := by rw [hroom]; simp [ib]
  rw [hroom2] at hblk4
  clear hroom hroom2 hblk3 hb3 hs3 hg4 hb4 hB2 h2
  have hr4 : Sees x4 (some 5) 1 (some ⟨G, 0, none⟩) n2 (ib .u8 b) := by
    have := hblk4.sees (n := n2) (by simp [ib_length, Hbl.out])
    rwa [ib_take', List.take_append_of_le_length (by rw [Hbl.out]; exact Nat.le_refl _), List.take_of_length_le (by rw [Hbl.out]; exact Nat.le_refl _)] at this
  have hf4 := hblk4.sees (n := n2 + 16) (by simp [ib_length, Hbl.out])
  rw [List.take_of_length_le (by simp [ib_length, Hbl.out])] at hf4
  have hz4 := hf4.drop (k := n2) (cap := n2 + 16) (by omega) (Nat.le_refl _)
  rw [if_neg (by omega), Nat.mul_one, ib_drop', List.drop_left' Hbl.out, show n2 + 16 - n2 = 16 by omega] at hz4
  have hadd : (⟨G, 0, none⟩ : Addr).add n2 = ⟨G, n2, none⟩ := by unfold Addr.add; split <;> simp_all
  rw [Option.map_some, hadd] at hz4
  clear hadd
  have hGlt := hblk4.lt
  clear hf4 hblk4
  go_loopw [31] (fun i wr => ∃ k : Nat, k ≤ m ∧ i = .int .i64 k ∧ Below x4.heap.size x4 wr) (fun i _ => m - (intOf i).toNat)
  case atStart => exact ⟨0, by omega, rfl, Below.refl _ _⟩
  case round =>
    obtain ⟨k, hk, rfl, hbr⟩ := hrel
    obtain ⟨wo, hwo⟩ : ∃ wo : World, wo = wr := ⟨_, rfl⟩
    subst hwo
    have hBo := hB4.trans (hbr.mono hB4.size)
    by_cases hlt : k < m
    · by_cases h20 : k = 20
      · subst h20
        obtain ⟨ad, u, rfl, hu, hc⟩ := (w1.sees.below hBo).at_ hlt
        obtain ⟨x, hx, rfl⟩ := ib_get hu
        simp [Addr.add] at hc
        go_wp2
        go_ret
        exact ⟨rfl, hBo⟩
      · have hk20 : ((k : Int) == 20) = false := by simp; omega
        obtain ⟨ad, u, rfl, hu, hc⟩ := (w1.sees.below hBo).at_ hlt
        obtain ⟨x, hx, rfl⟩ := ib_get hu
        have hwx := w1.wf x (List.mem_of_getElem? hx)
        have hx0 : 0 ≤ x ∧ x < 18446744073709551616 := by
          simp [Lit.wf, IntKind.min, IntKind.max, IntKind.signed, IntKind.bits] at hwx
          omega
        obtain ⟨hx0, hx1⟩ := hx0
        clear h20 hu hx hwx
        have hro := hr4.below hbr
        have hbo := h4.below hbr
        go_wp2_with fail
        rw [IntKind.wrap_u16]
        refine (put16_any (some ⟨G, 0, none⟩) n2 (n2 + 16) b _ _ hro (by omega) (by omega) (by omega)).mono ?_
        rintro e x5 ⟨A5, c5, rfl, ho5, hb5⟩
        go_wp2_with fail
        try rw [IntKind.wrap_u32]
        refine (put32_any (some ⟨G, 0, none⟩) n2 (n2 + 16) b _ _ (hro.below hb5) (by omega) (by omega) (by omega)).mono ?_
        rintro e x6 ⟨A6, c6, rfl, ho6, hb6⟩
        go_wp2_with fail
        refine (put64_any (some ⟨G, 0, none⟩) n2 (n2 + 16) b _ _ ((hro.below hb5).below hb6) (by omega) (by omega) (by omega)).mono ?_
        rintro e x7 ⟨A7, c7, rfl, ho7, hb7⟩
        obtain ⟨g5, cap5, hv5, hg5, hl5⟩ := ho5.form (by omega)
        obtain ⟨g6, cap6, hv6, hg6, hl6⟩ := ho6.form (by omega)
        obtain ⟨g7, cap7, hv7, hg7, hl7⟩ := ho7.form (by omega)
        obtain rfl : A5 = some ⟨g5, 0, none⟩ := by injection hv5
        obtain rfl : A6 = some ⟨g6, 0, none⟩ := by injection hv6
        obtain rfl : A7 = some ⟨g7, 0, none⟩ := by injection hv7
        clear hv5 hv6 hv7
        have hb65 := hb6.size
        have hb55 := hb5.size
        have hb75 := hb7.size
        have ho5' := own_below (own_below ho5 hb6) hb7
        have ho6' := own_mono (own_below ho6 hb7) (base' := wo.heap.size) (by omega)
        have ho7' := own_mono ho7 (base' := wo.heap.size) (by omega)
        have hb7o : Below wo.heap.size wo x7 := (hb5.trans (hb6.mono (by omega))).trans (hb7.mono (by omega))
        have hb7b := hbo.below hb7o
        have hb7r := hro.below hb7o
        clear ho5 ho6 ho7 hb5 hb6 hb7 hbo hro
        have i0 : ∀ w, (Instr.index 34 (.agg #[.slice (some ⟨g5, 0, none⟩) (n2 + 2) c5, .slice (some ⟨g6, 0, none⟩) (n2 + 4) c6, .slice (some ⟨g7, 0, none⟩) (n2 + 8) c7]) (.int .i64 0)).run Try.prog w = .ok (.slice (some ⟨g5, 0, none⟩) (n2 + 2) c5) w := fun _ => by kernel_rfl
        have i1 : ∀ w, (Instr.index 34 (.agg #[.slice (some ⟨g5, 0, none⟩) (n2 + 2) c5, .slice (some ⟨g6, 0, none⟩) (n2 + 4) c6, .slice (some ⟨g7, 0, none⟩) (n2 + 8) c7]) (.int .i64 1)).run Try.prog w = .ok (.slice (some ⟨g6, 0, none⟩) (n2 + 4) c6) w := fun _ => by kernel_rfl
        have i2 : ∀ w, (Instr.index 34 (.agg #[.slice (some ⟨g5, 0, none⟩) (n2 + 2) c5, .slice (some ⟨g6, 0, none⟩) (n2 + 4) c6, .slice (some ⟨g7, 0, none⟩) (n2 + 8) c7]) (.int .i64 2)).run Try.prog w = .ok (.slice (some ⟨g7, 0, none⟩) (n2 + 8) c7) w := fun _ => by kernel_rfl
        have s5 := Sees.of_own ho5'
        have s6 := Sees.of_own ho6'
        have s7 := Sees.of_own ho7'
        rw [hi16] at s5
        rw [hi32] at s6
        go_wp2_with fail
        go_loopw [53] (fun i wr => (i = .int .i64 0 ∨ i = .int .i64 1 ∨ i = .int .i64 2 ∨ i = .int .i64 3) ∧ Below x7.heap.size x7 wr) (fun i _ => (3 - intOf i).toNat)
        case atStart => exact ⟨.inl rfl, Below.refl _ _⟩
        case round =>
          obtain ⟨hi, hb8⟩ := hrel
          rcases hi with rfl | rfl | rfl | rfl
          · go_wp2_with fail
            refine (high_any 2 x _ (by omega) (by omega) hx0 hx1).mono ?_
            rintro e y1 ⟨Ay1, cy1, rfl, hoy1, hby1⟩
            go_wp2_with fail
            refine (both_any A2 Ay1 n2 c2 2 cy1 b (hiT x 8 2) _ ((hb7b.below hb8).below hby1) (Sees.of_own hoy1) (by omega) (by omega)).mono ?_
            rintro e y2 ⟨Ay2, cy2, rfl, hoy2, hby2⟩
            go_wp2_with fail
            refine (same_any (some ⟨g5, 0, none⟩) Ay2 (n2 + 2) c5 (n2 + 2) cy2 _ _ _ (((s5.below hb8).below hby1).below hby2) (Sees.of_own hoy2) (by omega)).mono ?_
            rintro e y3 ⟨rfl, q3, rfl⟩
            rw [eqB_true rfl]
            have hb9 := below_drewN ((hb8.trans (hby1.mono hb8.size)).trans (hby2.mono (Nat.le_trans hb8.size hby1.size))) q3
            clear hb8 hoy1 hoy2 hby1 hby2
            go_wp2
            go_roundw
            case rel => exact ⟨.inr (.inl rfl), hb9⟩
            case measure => simp [intOf]
          · go_wp2_with fail
            refine (high_any 4 x _ (by omega) (by omega) hx0 hx1).mono ?_
            rintro e y1 ⟨Ay1, cy1, rfl, hoy1, hby1⟩
            go_wp2_with fail
            refine (both_any A2 Ay1 n2 c2 4 cy1 b (hiT x 24 4) _ ((hb7b.below hb8).below hby1) (Sees.of_own hoy1) (by omega) (by omega)).mono ?_
            rintro e y2 ⟨Ay2, cy2, rfl, hoy2, hby2⟩
            go_wp2_with fail
            refine (same_any (some ⟨g6, 0, none⟩) Ay2 (n2 + 4) c6 (n2 + 4) cy2 _ _ _ (((s6.below hb8).below hby1).below hby2) (Sees.of_own hoy2) (by omega)).mono ?_
            rintro e y3 ⟨rfl, q3, rfl⟩
            rw [eqB_true rfl]
            have hb9 := below_drewN ((hb8.trans (hby1.mono hb8.size)).trans (hby2.mono (Nat.le_trans hb8.size hby1.size))) q3
            clear hb8 hoy1 hoy2 hby1 hby2
            go_wp2
            go_roundw
            case rel => exact ⟨.inr (.inr (.inl rfl)), hb9⟩
            case measure => simp [intOf]
          · go_wp2_with fail
            refine (high_any 8 x _ (by omega) (by omega) hx0 hx1).mono ?_
            rintro e y1 ⟨Ay1, cy1, rfl, hoy1, hby1⟩
            go_wp2_with fail
            refine (both_any A2 Ay1 n2 c2 8 cy1 b (hiT x 56 8) _ ((hb7b.below hb8).below hby1) (Sees.of_own hoy1) (by omega) (by omega)).mono ?_
            rintro e y2 ⟨Ay2, cy2, rfl, hoy2, hby2⟩
            go_wp2_with fail
            refine (same_any (some ⟨g7, 0, none⟩) Ay2 (n2 + 8) c7 (n2 + 8) cy2 _ _ _ (((s7.below hb8).below hby1).below hby2) (Sees.of_own hoy2) (by omega)).mono ?_
            rintro e y3 ⟨rfl, q3, rfl⟩
            rw [eqB_true rfl]
            have hb9 := below_drewN ((hb8.trans (hby1.mono hb8.size)).trans (hby2.mono (Nat.le_trans hb8.size hby1.size))) q3
            clear hb8 hoy1 hoy2 hby1 hby2
            go_wp2
            go_roundw
            case rel => exact ⟨.inr (.inr (.inr rfl)), hb9⟩
            case measure => simp [intOf]
          · go_wp2_with fail
            clear s5 s6 s7 hb7b hb7r
            have hP5 := own_below ho5' hb8
            have hP6 := own_below ho6' hb8
            have hP7 := own_below ho7' hb8
            have hb8o := hb7o.trans (hb8.mono hb7o.size)
            clear ho5' ho6' ho7' hb8 hb7o
            go_loopw [71] (fun i wr => (i = .int .i64 0 ∨ i = .int .i64 1 ∨ i = .int .i64 2 ∨ i = .int .i64 3) ∧ Below wo.heap.size wo wr ∧
              (∃ l, wr.ownsRow wo.heap.size 5 1 (.slice (some ⟨g5, 0, none⟩) (n2 + 2) c5) (n2 + 2) (ib .u8 l)) ∧
              (∃ l, wr.ownsRow wo.heap.size 5 1 (.slice (some ⟨g6, 0, none⟩) (n2 + 4) c6) (n2 + 4) (ib .u8 l)) ∧
              (∃ l, wr.ownsRow wo.heap.size 5 1 (.slice (some ⟨g7, 0, none⟩) (n2 + 8) c7) (n2 + 8) (ib .u8 l))) (fun i _ => (3 - intOf i).toNat)
            case atStart => exact ⟨.inl rfl, hb8o, ⟨_, hP5⟩, ⟨_, hP6⟩, ⟨_, hP7⟩⟩
            case round =>
              clear hP5 hP6 hP7 hb8o
              obtain ⟨hi, hb9, hP5, hP6, hP7⟩ := hrel
              obtain ⟨wq, hwq⟩ : ∃ wq : World, wq = wr := ⟨_, rfl⟩
              subst hwq
              rcases hi with rfl | rfl | rfl | rfl
              · obtain ⟨l0, hown0⟩ := hP5
                go_wp2_with fail
                go_loopw [76] (fun i wr => ∃ (j : Nat) (l : List Int), j ≤ n2 + 2 ∧ i = .int .i64 j ∧ wr.ownsRow wo.heap.size 5 1 (.slice (some ⟨g5, 0, none⟩) (n2 + 2) c5) (n2 + 2) (ib .u8 l) ∧ wq.grownBy wr (some g5)) (fun i _ => n2 + 2 - (intOf i).toNat)
                case atStart => exact ⟨0, l0, by omega, rfl, hown0, World.grownBy.refl _ _⟩
                case round =>
                  obtain ⟨j, lj, hj, rfl, hoz, hgz⟩ := hrel
                  by_cases hjl : j < n2 + 2
                  · obtain ⟨gg, v, hgg, _, _, hv, hcz, hfz⟩ := own_at hoz hjl
                    obtain rfl : g5 = gg := by injection hgg with h; injection h
                    obtain ⟨z, hz, rfl⟩ := ib_get hv
                    have hput := own_put hoz j (.int .u8 (IntKind.u8.wrap (z + 1)))
                    rw [ib_set] at hput
                    have hgz2 := grown_trans hgz (grown_set wr g5 j (.int .u8 (IntKind.u8.wrap (z + 1))))
                    rw [IntKind.wrap_u8] at hput hgz2
                    clear hgg hv hz hown0 hoz hgz
                    go_wp2
                    go_roundw
                    case rel => exact ⟨j + 1, _, by omega, by go_num, by first | exact hput | (rw [IntKind.wrap_u8]; exact hput), by first | exact hgz2 | (rw [IntKind.wrap_u8]; exact hgz2)⟩
                    case measure => simp [intOf]; omega
                  · go_wp2
                    go_roundw
                    case rel => exact ⟨.inr (.inl rfl), hb9.trans (below_of_only hgz (by omega) hb9.size), ⟨_, hoz⟩, (hP6.imp fun _ h => h.kept hgz (.inr (by simp [Value.ownBlock]; omega))), (hP7.imp fun _ h => h.kept hgz (.inr (by simp [Value.ownBlock]; omega)))⟩
                    case measure => simp [intOf]
              · obtain ⟨l0, hown0⟩ := hP6
                go_wp2_with fail
                go_loopw [76] (fun i wr => ∃ (j : Nat) (l : List Int), j ≤ n2 + 4 ∧ i = .int .i64 j ∧ wr.ownsRow wo.heap.size 5 1 (.slice (some ⟨g6, 0, none⟩) (n2 + 4) c6) (n2 + 4) (ib .u8 l) ∧ wq.grownBy wr (some g6)) (fun i _ => n2 + 4 - (intOf i).toNat)
                case atStart => exact ⟨0, l0, by omega, rfl, hown0, World.grownBy.refl _ _⟩
                case round =>
                  obtain ⟨j, lj, hj, rfl, hoz, hgz⟩ := hrel
                  by_cases hjl : j < n2 + 4
                  · obtain ⟨gg, v, hgg, _, _, hv, hcz, hfz⟩ := own_at hoz hjl
                    obtain rfl : g6 = gg := by injection hgg with h; injection h
                    obtain ⟨z, hz, rfl⟩ := ib_get hv
                    have hput := own_put hoz j (.int .u8 (IntKind.u8.wrap (z + 1)))
                    rw [ib_set] at hput
                    have hgz2 := grown_trans hgz (grown_set wr g6 j (.int .u8 (IntKind.u8.wrap (z + 1))))
                    rw [IntKind.wrap_u8] at hput hgz2
                    clear hgg hv hz hown0 hoz hgz
                    go_wp2
                    go_roundw
                    case rel => exact ⟨j + 1, _, by omega, by go_num, by first | exact hput | (rw [IntKind.wrap_u8]; exact hput), by first | exact hgz2 | (rw [IntKind.wrap_u8]; exact hgz2)⟩
                    case measure => simp [intOf]; omega
                  · go_wp2
                    go_roundw
                    case rel => exact ⟨.inr (.inr (.inl rfl)), hb9.trans (below_of_only hgz (by omega) hb9.size), (hP5.imp fun _ h => h.kept hgz (.inr (by simp [Value.ownBlock]; omega))), ⟨_, hoz⟩, (hP7.imp fun _ h => h.kept hgz (.inr (by simp [Value.ownBlock]; omega)))⟩
                    case measure => simp [intOf]
              · obtain ⟨l0, hown0⟩ := hP7
                go_wp2_with fail
                go_loopw [76] (fun i wr => ∃ (j : Nat) (l : List Int), j ≤ n2 + 8 ∧ i = .int .i64 j ∧ wr.ownsRow wo.heap.size 5 1 (.slice (some ⟨g7, 0, none⟩) (n2 + 8) c7) (n2 + 8) (ib .u8 l) ∧ wq.grownBy wr (some g7)) (fun i _ => n2 + 8 - (intOf i).toNat)
                case atStart => exact ⟨0, l0, by omega, rfl, hown0, World.grownBy.refl _ _⟩
                case round =>
                  obtain ⟨j, lj, hj, rfl, hoz, hgz⟩ := hrel
                  by_cases hjl : j < n2 + 8
                  · obtain ⟨gg, v, hgg, _, _, hv, hcz, hfz⟩ := own_at hoz hjl
                    obtain rfl : g7 = gg := by injection hgg with h; injection h
                    obtain ⟨z, hz, rfl⟩ := ib_get hv
                    have hput := own_put hoz j (.int .u8 (IntKind.u8.wrap (z + 1)))
                    rw [ib_set] at hput
                    have hgz2 := grown_trans hgz (grown_set wr g7 j (.int .u8 (IntKind.u8.wrap (z + 1))))
                    rw [IntKind.wrap_u8] at hput hgz2
                    clear hgg hv hz hown0 hoz hgz
                    go_wp2
                    go_roundw
                    case rel => exact ⟨j + 1, _, by omega, by go_num, by first | exact hput | (rw [IntKind.wrap_u8]; exact hput), by first | exact hgz2 | (rw [IntKind.wrap_u8]; exact hgz2)⟩
                    case measure => simp [intOf]; omega
                  · go_wp2
                    go_roundw
                    case rel => exact ⟨.inr (.inr (.inr rfl)), hb9.trans (below_of_only hgz (by omega) hb9.size), (hP5.imp fun _ h => h.kept hgz (.inr (by simp [Value.ownBlock]; omega))), (hP6.imp fun _ h => h.kept hgz (.inr (by simp [Value.ownBlock]; omega))), ⟨_, hoz⟩⟩
                    case measure => simp [intOf]
              · have hrq := hr4.below (hbr.trans (hb9.mono hbr.size))
                have hbq := h4.below (hbr.trans (hb9.mono hbr.size))
                have hzq := hz4.below (hbr.trans (hb9.mono hbr.size))
                have hB9 := hbr.trans (hb9.mono hbr.size)
                clear hP5 hP6 hP7 hb9
                go_wp2_with fail
                refine (same_any (some ⟨G, 0, none⟩) A2 n2 (n2 + 16) n2 c2 _ _ _ hrq hbq (by omega)).mono ?_
                rintro e y1 ⟨rfl, q1, rfl⟩
                rw [eqB_true rfl]
                have hne : ¬ n2 + 16 = n2 := by omega
                go_wp2_with fail
                refine (count_any (some ⟨G, n2, none⟩) 16 16 (List.replicate 16 0) 0 _ (hzq.drewN _) (by omega)).mono ?_
                rintro e y2 ⟨rfl, rfl⟩
                rw [show List.count (0 : Int) (List.replicate 16 0) = 16 from by decide]
                go_wp2
                go_roundw
                case rel => exact ⟨k + 1, by omega, by go_num, below_drewN hB9 _⟩
                case measure => simp [intOf]; omega
    · go_wp2
      go_ret
      exact ⟨rfl, hBo⟩
end Go.Proofs.Ytnlgdcoeooppnaa.octetPuts

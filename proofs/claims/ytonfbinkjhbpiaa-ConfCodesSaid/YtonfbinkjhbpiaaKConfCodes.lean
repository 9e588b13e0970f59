/- The walk of ConfCodes, which returns true. No condition. -/
import Derived.Test.YtonfbinkjhbpiaaRows
import Derived.Test.YtonfbinkjhbpiaaC16
import Derived.Test.YtonfbinkjhbpiaaRead2
import Derived.Test.YtonfbinkjhbpiaaRead
import Derived.WalkKit
import Derived.BigQuiet
import Derived.Deep.QuietTactic
import Derived.Deep.RegionHeld3
import Derived.Deep.RegionWith
import Derived.Deep.CutRange
import Derived.WalkLawsBesides
import Derived.Lib.Hide
namespace Go.Proofs.Ytonfbinkjhbpiaa.confCodes
open Go.RowKit
set_option linter.unusedVariables false


open Go.Proofs.Ytonfbinkjhbpiaa

set_option maxRecDepth 100000 in
set_option maxHeartbeats 12000000 in
theorem walk (w : World) (A : Option Addr) (n c : Nat) (vs : List Value) (w0 : RowsOf w .i64 A n c vs) (B : Option Addr) (m d : Nat) (us : List Value) (w1 : RowsOf w .u8 B m d us) :
    Calls Try.prog 4 #[.slice A n c, .slice B m d] w fun e w' => e = .returned (.bool true) ∧ Below w.heap.size w w' := by
  have hnm : n ≤ 9223372036854775807 := by have h1 := w0.nc; have h2 := w0.small; unfold maxLen at h2; omega
  have hmm : m ≤ 9223372036854775807 := by have h1 := w1.nc; have h2 := w1.small; unfold maxLen at h2; omega
  go_enter Try.func4, Try.ntmps4
  go_wp2_with (go_at_call 10; refine (wakes_any w).mono ?_; rintro e x1 ⟨rfl, hb1⟩)
  go_loopw [21] (fun i wr => ∃ k : Nat, k ≤ n ∧ i = .int .i64 k ∧ Below w.heap.size w wr) (fun i _ => n - (intOf i).toNat)
  case atStart => exact ⟨0, by omega, rfl, hb1⟩
  case round =>
    obtain ⟨k, hk, rfl, hbr0⟩ := hrel
    by_cases hlt : k < n
    · by_cases h12 : k = 12
      · have hk12 : ((k : Int) == 12) = true := by simp; omega
        obtain ⟨ad, u, rfl, hu, hc⟩ := (w0.sees.below hbr0).at_ hlt
        obtain ⟨Au, nu, cu, lu, rfl, hru⟩ := w0.each u (List.mem_of_getElem? hu)
        clear h12
        have hbr := hbr0.alloc hbr0.size (.cells #[.slice Au nu cu] 27)
        go_wp2
        clear hc hru hu hlt hb1 hk12
        go_loopw [57] (fun i wq => ∃ k : Nat, k ≤ m ∧ i = .int .i64 k ∧ Below w.heap.size w wq) (fun i _ => m - (intOf i).toNat)
        case atStart => exact ⟨0, by omega, rfl, hbr⟩
        case round =>
          obtain ⟨k, hk, rfl, hbq⟩ := hrel
          by_cases hlt : k < m
          · by_cases h12 : k = 12
            · subst h12
              obtain ⟨ad, u, rfl, hu, hc⟩ := (w1.sees.below hbq).at_ hlt
              obtain ⟨Au, nu, cu, lu, rfl, hru⟩ := w1.each u (List.mem_of_getElem? hu)
              simp [Addr.add] at hc
              go_wp2
              go_ret
              exact ⟨rfl, hbq⟩
            · have hk12 : ((k : Int) == 12) = false := by simp; omega
              obtain ⟨ad, u, rfl, hu, hc⟩ := (w1.sees.below hbq).at_ hlt
              obtain ⟨Au, nu, cu, lu, rfl, hru⟩ := w1.each u (List.mem_of_getElem? hu)
              have hlu := hru.sees.below hbq
              have hnc := hru.nc
              have hsm := hru.small
              unfold maxLen at hsm
              have HLU := Lib.hid hlu.len
              have hwb0 := wf_u8 hru.wf
              clear h12 hu
              by_cases h300 : 300 < nu
              · have ht := hlu.head (m := 300) (by omega)
                have hwb : ∀ x ∈ lu.take 300, 0 ≤ x ∧ x < 256 := fun x hx => hwb0 x (List.mem_of_mem_take hx)
                have HLQ : Hid ((lu.take 300).length ≤ 300) := by unfold Hid; rw [List.length_take]; omega
                go_wp2_with (at_builtin; refine Door.enter ?_)
                refine Door.leave (wl_append ty_bytes (base := wr.heap.size) (World.ownsRow_lit wr #[] 0 (Nat.le_refl _) (by simp [maxLen]) (by simp)) (ht.alloc _) (Nat.zero_add _) (List.nil_append _) (ib_one _ _) (by omega) (by simp) rfl rfl rfl rfl ?_)
                intro A4 c4 x4 ho4 hb4 _ _
                have h4 := Sees.of_own ho4
                have nc4 := own_cap ho4
                have HB4 := Lib.hid (hbq.trans ((((Below.refl _ wr).alloc (Nat.le_refl _) _).trans hb4).mono hbq.size))
                clear ho4 hb4
                go_wp2_with fail
                refine (decode_any A4 300 c4 (lu.take 300) _ h4 nc4.1 nc4.2 (by omega) hwb).mono ?_
                rintro e x5 ⟨A5, n5, c5, rfl, ho5, hb5⟩
                have h5 := (Sees.of_own ho5).alloc (.cells #[.slice A5 n5 c5] 27)
                have k5 := Blk.new x5 27 #[.slice A5 n5 c5]
                have h4' := (h4.below hb5).alloc (.cells #[.slice A5 n5 c5] 27)
                have HB5 := Lib.hid ((HB4.out.trans (hb5.mono HB4.out.size)).alloc (Nat.le_trans HB4.out.size hb5.size) (.cells #[.slice A5 n5 c5] 27))
                have hl5 := Lib.hid (own_len ho5)
                clear ho5 hb5 h4
                go_wp2_with fail
                refine (rdecode_any A4 300 c4 (lu.take 300) _ h4' nc4.1 nc4.2 (by omega) hwb).mono ?_
                rintro e x6 ⟨A6, n6, c6, rfl, ho6, hb6⟩
                have h6 := (Sees.of_own ho6).alloc (.cells #[.slice A6 n6 c6] 27)
                have k6 := Blk.new x6 27 #[.slice A6 n6 c6]
                have h5' := (h5.below hb6).alloc (.cells #[.slice A6 n6 c6] 27)
                have k5' := (k5.below hb6).alloc (.cells #[.slice A6 n6 c6] 27)
                have HB6 := Lib.hid ((HB5.out.trans (hb6.mono HB5.out.size)).alloc (Nat.le_trans HB5.out.size hb6.size) (.cells #[.slice A6 n6 c6] 27))
                have hee : (decE (lu.take 300) != decE (lu.take 300)) = false := by simp
                have hn5 : n5 ≤ 1000000000000 := by have := hl5.out; have h7 : (decL (lu.take 300)).length ≤ (lu.take 300).length := (by unfold decL; split; (exact List.length_tail ▸ Nat.sub_le _ _); (exact Nat.zero_le _)); have h8 := HLQ.out; omega
                clear ho6 hb6 h5 k5 h4' nc4
                have c5c := k5'.cell 0
                have c6c := k6.cell 0
                simp at c5c c6c
                go_wp2_with fail
                refine (rsame_any A5 A6 n5 c5 n6 c6 _ _ _ h5' h6 hn5).mono ?_
                rintro e x7 ⟨rfl, hb7⟩
                rw [eqB_true rfl]
                have HB7 := Lib.hid (HB6.out.trans (hb7.mono HB6.out.size))
                clear h5' h6 k5' k6 c5c c6c hb7
                go_wp2
                go_roundw
                case rel => exact ⟨k + 1, by omega, by go_num, HB7.out⟩
                case measure => simp [intOf]; omega
              · have hwb := hwb0
                have HLQ : Hid (lu.length ≤ 300) := by unfold Hid; have := HLU.out; omega
                go_wp2_with (at_builtin; refine Door.enter ?_)
                refine Door.leave (wl_append ty_bytes (base := wr.heap.size) (World.ownsRow_lit wr #[] 0 (Nat.le_refl _) (by simp [maxLen]) (by simp)) (hlu.alloc _) (Nat.zero_add _) (List.nil_append _) (ib_one _ _) (by omega) (by simp) rfl rfl rfl rfl ?_)
                intro A4 c4 x4 ho4 hb4 _ _
                have h4 := Sees.of_own ho4
                have nc4 := own_cap ho4
                have HB4 := Lib.hid (hbq.trans ((((Below.refl _ wr).alloc (Nat.le_refl _) _).trans hb4).mono hbq.size))
                clear ho4 hb4
                go_wp2_with fail
                refine (decode_any A4 nu c4 (lu) _ h4 nc4.1 nc4.2 (by omega) hwb).mono ?_
                rintro e x5 ⟨A5, n5, c5, rfl, ho5, hb5⟩
                have h5 := (Sees.of_own ho5).alloc (.cells #[.slice A5 n5 c5] 27)
                have k5 := Blk.new x5 27 #[.slice A5 n5 c5]
                have h4' := (h4.below hb5).alloc (.cells #[.slice A5 n5 c5] 27)
                have HB5 := Lib.hid ((HB4.out.trans (hb5.mono HB4.out.size)).alloc (Nat.le_trans HB4.out.size hb5.size) (.cells #[.slice A5 n5 c5] 27))
                have hl5 := Lib.hid (own_len ho5)
                clear ho5 hb5 h4
                go_wp2_with fail
                refine (rdecode_any A4 nu c4 (lu) _ h4' nc4.1 nc4.2 (by omega) hwb).mono ?_
                rintro e x6 ⟨A6, n6, c6, rfl, ho6, hb6⟩
                have h6 := (Sees.of_own ho6).alloc (.cells #[.slice A6 n6 c6] 27)
                have k6 := Blk.new x6 27 #[.slice A6 n6 c6]
                have h5' := (h5.below hb6).alloc (.cells #[.slice A6 n6 c6] 27)
                have k5' := (k5.below hb6).alloc (.cells #[.slice A6 n6 c6] 27)
                have HB6 := Lib.hid ((HB5.out.trans (hb6.mono HB5.out.size)).alloc (Nat.le_trans HB5.out.size hb6.size) (.cells #[.slice A6 n6 c6] 27))
                have hee : (decE (lu) != decE (lu)) = false := by simp
                have hn5 : n5 ≤ 1000000000000 := by have := hl5.out; have h7 : (decL (lu)).length ≤ (lu).length := (by unfold decL; split; (exact List.length_tail ▸ Nat.sub_le _ _); (exact Nat.zero_le _)); have h8 := HLQ.out; omega
                clear ho6 hb6 h5 k5 h4' nc4
                have c5c := k5'.cell 0
                have c6c := k6.cell 0
                simp at c5c c6c
                go_wp2_with fail
                refine (rsame_any A5 A6 n5 c5 n6 c6 _ _ _ h5' h6 hn5).mono ?_
                rintro e x7 ⟨rfl, hb7⟩
                rw [eqB_true rfl]
                have HB7 := Lib.hid (HB6.out.trans (hb7.mono HB6.out.size))
                clear h5' h6 k5' k6 c5c c6c hb7
                go_wp2
                go_roundw
                case rel => exact ⟨k + 1, by omega, by go_num, HB7.out⟩
                case measure => simp [intOf]; omega
          · go_wp2
            go_ret
            exact ⟨rfl, hbq⟩
      · have hk12 : ((k : Int) == 12) = false := by simp; omega
        obtain ⟨ad, u, rfl, hu, hc⟩ := (w0.sees.below hbr0).at_ hlt
        obtain ⟨Au, nu, cu, lu, rfl, hru⟩ := w0.each u (List.mem_of_getElem? hu)
        have hlu := (hru.sees.below hbr0).alloc (.cells #[.slice Au nu cu] 27)
        have HB1 := Lib.hid (hbr0.alloc hbr0.size (.cells #[.slice Au nu cu] 27))
        clear h12 hu
        go_wp2_with fail
        refine (few_any Au nu cu lu _ hlu hru.nc hru.small).mono ?_
        rintro e x2 ⟨A2, n2, c2, rfl, hn2, ho2, hb2⟩
        have HL2 := Lib.hid (own_len ho2)
        have h2 := (Sees.of_own ho2).alloc (.cells #[.slice A2 n2 c2] 27)
        have k2 := Blk.new x2 27 #[.slice A2 n2 c2]
        have HB2 := Lib.hid ((HB1.out.trans (hb2.mono HB1.out.size)).alloc (Nat.le_trans HB1.out.size hb2.size) (.cells #[.slice A2 n2 c2] 27))
        obtain ⟨L, hL⟩ : ∃ L, L = lu.take 30 := ⟨_, rfl⟩
        rw [← hL] at h2 HL2
        clear hL ho2 hb2 hlu HB1
        go_wp2_with fail
        refine (encode_any A2 n2 c2 L _ h2 (by omega)).mono ?_
        rintro e x3 ⟨A3, n3, c3, rfl, ho3, hb3⟩
        have HL3 := Lib.hid (own_len ho3)
        have h3 := Sees.of_own ho3
        have h2' := h2.below hb3
        have k3 := k2.below hb3
        have HB3 := Lib.hid (HB2.out.trans (hb3.mono HB2.out.size))
        clear ho3 hb3 h2 k2 HB2
        have cc := k3.cell 0
        simp at cc
        go_wp2_with fail
        refine (rright_any A2 n2 c2 L _ h2' (by omega)).mono ?_
        rintro e x4 ⟨rfl, hb4⟩
        have h3' := h3.below hb4
        have h2'' := h2'.below hb4
        have k4 := k3.below hb4
        have HB4 := Lib.hid (HB3.out.trans (hb4.mono HB3.out.size))
        clear h3 h2' k3 HB3 cc hb4
        have cc := k4.cell 0
        simp at cc
        cases hr : rightB L with
        | false =>
          have h0 := HL3.out
          unfold encL at h0
          rw [hr] at h0
          have hn3 : n3 = 0 := h0.symm
          subst hn3
          rw [askE_wrong hr]
          clear hr h0 h3' h2'' k4 HL3
          go_wp2
          go_roundw
          case rel => exact ⟨k + 1, by omega, by go_num, HB4.out⟩
          case measure => simp [intOf]; omega
        | true =>
          have HE : Hid (encL L = (n2 : Int) :: L) := by
            unfold Hid encL
            rw [hr, if_pos rfl, right_size hr, ← (rightB_of hr).2, HL2.out]
          rw [askE_right hr]
          have HR := Lib.hid hr
          clear hr
          go_wp2_with fail
          refine (rbytes_any A2 n2 c2 L _ h2'' hn2 HR.out).mono ?_
          rintro e x5 ⟨A5, c5, rfl, ho5, hb5⟩
          have h5 := Sees.of_own ho5
          have h3'' := h3'.below hb5
          have HB5 := Lib.hid (HB4.out.trans (hb5.mono HB4.out.size))
          have hn3 : n3 ≤ 1000000000000 := by have h := HL3.out; rw [HE.out] at h; simp at h; have := HL2.out; omega
          clear ho5 hb5 h3' h2'' k4 cc HB4
          go_wp2_with fail
          refine (equalByte_any A3 A5 n3 c3 (n2 + 1) c5 _ _ _ h3'' h5 hn3).mono ?_
          rw [HE.out, eqB_true rfl]
          rintro e x6 ⟨rfl, q6, rfl⟩
          have HB6 := Lib.hid (below_drewN HB5.out q6)
          clear h3'' h5 HB5
          go_wp2
          go_roundw
          case rel => exact ⟨k + 1, by omega, by go_num, HB6.out⟩
          case measure => simp [intOf]; omega
    · have hbr := hbr0
      go_wp2
      clear hlt hb1 hbr0
      go_loopw [57] (fun i wq => ∃ k : Nat, k ≤ m ∧ i = .int .i64 k ∧ Below w.heap.size w wq) (fun i _ => m - (intOf i).toNat)
      case atStart => exact ⟨0, by omega, rfl, hbr⟩
      case round =>
        obtain ⟨k, hk, rfl, hbq⟩ := hrel
        by_cases hlt : k < m
        · by_cases h12 : k = 12
          · subst h12
            obtain ⟨ad, u, rfl, hu, hc⟩ := (w1.sees.below hbq).at_ hlt
            obtain ⟨Au, nu, cu, lu, rfl, hru⟩ := w1.each u (List.mem_of_getElem? hu)
            simp [Addr.add] at hc
            go_wp2
            go_ret
            exact ⟨rfl, hbq⟩
          · have hk12 : ((k : Int) == 12) = false := by simp; omega
            obtain ⟨ad, u, rfl, hu, hc⟩ := (w1.sees.below hbq).at_ hlt
            obtain ⟨Au, nu, cu, lu, rfl, hru⟩ := w1.each u (List.mem_of_getElem? hu)
            have hlu := hru.sees.below hbq
            have hnc := hru.nc
            have hsm := hru.small
            unfold maxLen at hsm
            have HLU := Lib.hid hlu.len
            have hwb0 := wf_u8 hru.wf
            clear h12 hu
            by_cases h300 : 300 < nu
            · have ht := hlu.head (m := 300) (by omega)
              have hwb : ∀ x ∈ lu.take 300, 0 ≤ x ∧ x < 256 := fun x hx => hwb0 x (List.mem_of_mem_take hx)
              have HLQ : Hid ((lu.take 300).length ≤ 300) := by unfold Hid; rw [List.length_take]; omega
              go_wp2_with (at_builtin; refine Door.enter ?_)
              refine Door.leave (wl_append ty_bytes (base := wr.heap.size) (World.ownsRow_lit wr #[] 0 (Nat.le_refl _) (by simp [maxLen]) (by simp)) (ht.alloc _) (Nat.zero_add _) (List.nil_append _) (ib_one _ _) (by omega) (by simp) rfl rfl rfl rfl ?_)
              intro A4 c4 x4 ho4 hb4 _ _
              have h4 := Sees.of_own ho4
              have nc4 := own_cap ho4
              have HB4 := Lib.hid (hbq.trans ((((Below.refl _ wr).alloc (Nat.le_refl _) _).trans hb4).mono hbq.size))
              clear ho4 hb4
              go_wp2_with fail
              refine (decode_any A4 300 c4 (lu.take 300) _ h4 nc4.1 nc4.2 (by omega) hwb).mono ?_
              rintro e x5 ⟨A5, n5, c5, rfl, ho5, hb5⟩
              have h5 := (Sees.of_own ho5).alloc (.cells #[.slice A5 n5 c5] 27)
              have k5 := Blk.new x5 27 #[.slice A5 n5 c5]
              have h4' := (h4.below hb5).alloc (.cells #[.slice A5 n5 c5] 27)
              have HB5 := Lib.hid ((HB4.out.trans (hb5.mono HB4.out.size)).alloc (Nat.le_trans HB4.out.size hb5.size) (.cells #[.slice A5 n5 c5] 27))
              have hl5 := Lib.hid (own_len ho5)
              clear ho5 hb5 h4
              go_wp2_with fail
              refine (rdecode_any A4 300 c4 (lu.take 300) _ h4' nc4.1 nc4.2 (by omega) hwb).mono ?_
              rintro e x6 ⟨A6, n6, c6, rfl, ho6, hb6⟩
              have h6 := (Sees.of_own ho6).alloc (.cells #[.slice A6 n6 c6] 27)
              have k6 := Blk.new x6 27 #[.slice A6 n6 c6]
              have h5' := (h5.below hb6).alloc (.cells #[.slice A6 n6 c6] 27)
              have k5' := (k5.below hb6).alloc (.cells #[.slice A6 n6 c6] 27)
              have HB6 := Lib.hid ((HB5.out.trans (hb6.mono HB5.out.size)).alloc (Nat.le_trans HB5.out.size hb6.size) (.cells #[.slice A6 n6 c6] 27))
              have hee : (decE (lu.take 300) != decE (lu.take 300)) = false := by simp
              have hn5 : n5 ≤ 1000000000000 := by have := hl5.out; have h7 : (decL (lu.take 300)).length ≤ (lu.take 300).length := (by unfold decL; split; (exact List.length_tail ▸ Nat.sub_le _ _); (exact Nat.zero_le _)); have h8 := HLQ.out; omega
              clear ho6 hb6 h5 k5 h4' nc4
              have c5c := k5'.cell 0
              have c6c := k6.cell 0
              simp at c5c c6c
              go_wp2_with fail
              refine (rsame_any A5 A6 n5 c5 n6 c6 _ _ _ h5' h6 hn5).mono ?_
              rintro e x7 ⟨rfl, hb7⟩
              rw [eqB_true rfl]
              have HB7 := Lib.hid (HB6.out.trans (hb7.mono HB6.out.size))
              clear h5' h6 k5' k6 c5c c6c hb7
              go_wp2
              go_roundw
              case rel => exact ⟨k + 1, by omega, by go_num, HB7.out⟩
              case measure => simp [intOf]; omega
            · have hwb := hwb0
              have HLQ : Hid (lu.length ≤ 300) := by unfold Hid; have := HLU.out; omega
              go_wp2_with (at_builtin; refine Door.enter ?_)
              refine Door.leave (wl_append ty_bytes (base := wr.heap.size) (World.ownsRow_lit wr #[] 0 (Nat.le_refl _) (by simp [maxLen]) (by simp)) (hlu.alloc _) (Nat.zero_add _) (List.nil_append _) (ib_one _ _) (by omega) (by simp) rfl rfl rfl rfl ?_)
              intro A4 c4 x4 ho4 hb4 _ _
              have h4 := Sees.of_own ho4
              have nc4 := own_cap ho4
              have HB4 := Lib.hid (hbq.trans ((((Below.refl _ wr).alloc (Nat.le_refl _) _).trans hb4).mono hbq.size))
              clear ho4 hb4
              go_wp2_with fail
              refine (decode_any A4 nu c4 (lu) _ h4 nc4.1 nc4.2 (by omega) hwb).mono ?_
              rintro e x5 ⟨A5, n5, c5, rfl, ho5, hb5⟩
              have h5 := (Sees.of_own ho5).alloc (.cells #[.slice A5 n5 c5] 27)
              have k5 := Blk.new x5 27 #[.slice A5 n5 c5]
              have h4' := (h4.below hb5).alloc (.cells #[.slice A5 n5 c5] 27)
              have HB5 := Lib.hid ((HB4.out.trans (hb5.mono HB4.out.size)).alloc (Nat.le_trans HB4.out.size hb5.size) (.cells #[.slice A5 n5 c5] 27))
              have hl5 := Lib.hid (own_len ho5)
              clear ho5 hb5 h4
              go_wp2_with fail
              refine (rdecode_any A4 nu c4 (lu) _ h4' nc4.1 nc4.2 (by omega) hwb).mono ?_
              rintro e x6 ⟨A6, n6, c6, rfl, ho6, hb6⟩
              have h6 := (Sees.of_own ho6).alloc (.cells #[.slice A6 n6 c6] 27)
              have k6 := Blk.new x6 27 #[.slice A6 n6 c6]
              have h5' := (h5.below hb6).alloc (.cells #[.slice A6 n6 c6] 27)
              have k5' := (k5.below hb6).alloc (.cells #[.slice A6 n6 c6] 27)
              have HB6 := Lib.hid ((HB5.out.trans (hb6.mono HB5.out.size)).alloc (Nat.le_trans HB5.out.size hb6.size) (.cells #[.slice A6 n6 c6] 27))
              have hee : (decE (lu) != decE (lu)) = false := by simp
              have hn5 : n5 ≤ 1000000000000 := by have := hl5.out; have h7 : (decL (lu)).length ≤ (lu).length := (by unfold decL; split; (exact List.length_tail ▸ Nat.sub_le _ _); (exact Nat.zero_le _)); have h8 := HLQ.out; omega
              clear ho6 hb6 h5 k5 h4' nc4
              have c5c := k5'.cell 0
              have c6c := k6.cell 0
              simp at c5c c6c
              go_wp2_with fail
              refine (rsame_any A5 A6 n5 c5 n6 c6 _ _ _ h5' h6 hn5).mono ?_
              rintro e x7 ⟨rfl, hb7⟩
              rw [eqB_true rfl]
              have HB7 := Lib.hid (HB6.out.trans (hb7.mono HB6.out.size))
              clear h5' h6 k5' k6 c5c c6c hb7
              go_wp2
              go_roundw
              case rel => exact ⟨k + 1, by omega, by go_num, HB7.out⟩
              case measure => simp [intOf]; omega
        · go_wp2
          go_ret
          exact ⟨rfl, hbq⟩
end Go.Proofs.Ytonfbinkjhbpiaa.confCodes

/- The walk of ConfReturns, which returns true. No condition. -/
import Derived.Test.YtonfbinkjhbpiaaRows
import Derived.Test.YtonfbinkjhbpiaaC24
import Derived.Test.YtonfbinkjhbpiaaRead2
import Derived.Test.YtonfbinkjhbpiaaRead
import Derived.WalkKit
import Derived.BigQuiet
import Derived.Deep.QuietTactic
import Derived.Deep.RegionHeld3
import Derived.Deep.RegionWith
import Derived.Deep.CutRange
import Derived.Deep.CutBlock
import Derived.WalkLawsBesides
import Derived.Lib.Hide
namespace Go.Proofs.Ytonfbinkjhbpiaa.confReturns
open Go.RowKit
set_option linter.unusedVariables false
set_option linter.unusedSimpArgs false


open Go.Proofs.Ytonfbinkjhbpiaa
set_option maxRecDepth 100000 in
set_option maxHeartbeats 12000000 in
theorem walk (w : World) (A : Option Addr) (n c : Nat) (la : List Int) (w0 : Row w .i64 A n c la) (m : Int) (wm : (Lit.int .i64 m).wf = true) (B : Option Addr) (d f : Nat) (raw : List Int) (w1 : Row w .u8 B d f raw) :
    Calls Try.prog 8 #[.agg #[.slice A n c], .int .i64 m, .slice B d f] w fun e w' => e = .returned (.bool true) ∧ Below w.heap.size w w' := by
  have hf : f ≤ maxLen := w1.small
  have hdf := w1.nc
  unfold maxLen at hf
  have hdm : d ≤ 9223372036854775807 := by omega
  have HB := Lib.hid ((Below.refl _ w).alloc (Nat.le_refl _) (.cells #[.slice A n c] 27))
  have k3 := Blk.new w 27 #[.slice A n c]
  have s0 := w0.sees.alloc (.cells #[.slice A n c] 27)
  have sr := w1.sees.alloc (.cells #[.slice A n c] 27)
  have KK := Lib.hid k3
  go_enter Try.func8, Try.ntmps8
  have c_k3 := k3.cell 0
  simp at c_k3
  have f_k3 := k3.frozen 0
  go_wp2_with fail
  clear c_k3 f_k3
  refine (wakes_any _).mono ?_
  rintro e x1 ⟨rfl, hb1⟩
  replace HB := Lib.hid (HB.out.trans (hb1.mono HB.out.size))
  replace k3 := k3.below hb1
  replace s0 := s0.below hb1
  replace sr := sr.below hb1
  clear hb1
  have c_k3 := k3.cell 0
  simp at c_k3
  have f_k3 := k3.frozen 0
  go_wp2_with fail
  clear c_k3 f_k3
  refine (few_any A n c la _ s0 w0.nc w0.small).mono ?_
  rintro e x2 ⟨A1, n1, c1, rfl, hn1, ho1, hb2⟩
  replace HB := Lib.hid (HB.out.trans (hb2.mono HB.out.size))
  replace k3 := k3.below hb2
  replace s0 := s0.below hb2
  replace sr := sr.below hb2
  have s1 := Sees.of_own ho1
  have nc1 := own_cap ho1
  clear ho1 hb2 s0
  obtain ⟨L, hL⟩ : ∃ L, L = la.take 30 := ⟨_, rfl⟩
  rw [← hL] at s1
  clear hL
  have c_k3 := k3.cell 0
  simp at c_k3
  have f_k3 := k3.frozen 0
  go_upto_region 4 with fail
  clear c_k3 f_k3
  clear sr
  have apart_of := k3
  replace HB := Lib.hid (HB.out.setCell (p := ⟨w.heap.size, 0, none⟩) (Nat.le_refl _) (.slice A1 n1 c1))
  replace s1 := s1.far (p := ⟨w.heap.size, 0, none⟩) (apart_of.apart s1 (by decide)) (.slice A1 n1 c1)
  replace k3 := k3.put 0 (.slice A1 n1 c1)
  clear apart_of
  have hb300 : ∀ x ∈ raw.take 300, 0 ≤ x ∧ x < 256 := fun x hx => wf_u8 w1.wf x (List.mem_of_mem_take hx)
  have sr := w1.sees.below HB.out
  have HR := Lib.hid sr.len
  obtain ⟨R, hR⟩ : ∃ R, R = raw.take 300 := ⟨_, rfl⟩
  have HRR := Lib.hid hR
  rw [← hR] at hb300
  clear hR
  go_cut [7, 8] from 25 to 33 (fun s7 s8 wx => ∃ (g7 : Nat) (A7 : Option Addr) (n7 c7 : Nat), s7 = .pointer (some ⟨g7, 0, none⟩) ∧ s8 = .int .i64 (decE R) ∧ Blk wx g7 27 #[.slice A7 n7 c7] ∧ Sees wx (some 3) 1 A7 n7 (ib .i64 (decL R)) ∧ Blk wx w.heap.size 27 #[.slice A1 n1 c1] ∧ Sees wx (some 3) 1 A1 n1 (ib .i64 L) ∧ Below w.heap.size w wx)
  case first =>
    by_cases h3 : 300 < d
    · have sr := w1.sees.below HB.out
      have sR := sr.head (m := 300) (by omega)
      rw [show raw.take 300 = R from HRR.out.symm] at sR
      go_wp2_with fail
      refine (decode_any B 300 f R _ sR (by omega) w1.small (by omega) hb300).mono ?_
      rintro e x3 ⟨A7, n7, c7, rfl, ho7, hb3⟩
      replace HB := Lib.hid (HB.out.trans (hb3.mono HB.out.size))
      replace k3 := k3.below hb3
      replace s1 := s1.below hb3
      have s7 := Sees.of_own ho7
      clear ho7 hb3 sR sr
      replace HB := Lib.hid (HB.out.alloc HB.out.size (.cells #[.slice A7 n7 c7] 27))
      replace k3 := k3.alloc (.cells #[.slice A7 n7 c7] 27)
      replace s1 := s1.alloc (.cells #[.slice A7 n7 c7] 27)
      replace s7 := s7.alloc (.cells #[.slice A7 n7 c7] 27)
      have k7 := Blk.new (x3) 27 #[.slice A7 n7 c7]
      obtain ⟨g7, hg7⟩ : ∃ g7, x3.heap.size = g7 := ⟨_, rfl⟩
      rw [hg7] at k7
      have c_k3 := k3.cell 0
      simp at c_k3
      have f_k3 := k3.frozen 0
      have c_k7 := k7.cell 0
      simp at c_k7
      have f_k7 := k7.frozen 0
      go_wp2_with fail
      clear c_k3 f_k3 c_k7 f_k7
      go_meet
      exact ⟨g7, A7, n7, c7, rfl, rfl, k7, s7, k3, s1, HB.out⟩
    · have sr := w1.sees.below HB.out
      have sR := sr.head (m := d) (by omega)
      rw [show raw.take d = R from (by rw [HRR.out, List.take_of_length_le (by have := HR.out; omega), List.take_of_length_le (by have := HR.out; omega)])] at sR
      go_wp2_with fail
      refine (decode_any B d f R _ sR (by omega) w1.small (by omega) hb300).mono ?_
      rintro e x3 ⟨A7, n7, c7, rfl, ho7, hb3⟩
      replace HB := Lib.hid (HB.out.trans (hb3.mono HB.out.size))
      replace k3 := k3.below hb3
      replace s1 := s1.below hb3
      have s7 := Sees.of_own ho7
      clear ho7 hb3 sR sr
      replace HB := Lib.hid (HB.out.alloc HB.out.size (.cells #[.slice A7 n7 c7] 27))
      replace k3 := k3.alloc (.cells #[.slice A7 n7 c7] 27)
      replace s1 := s1.alloc (.cells #[.slice A7 n7 c7] 27)
      replace s7 := s7.alloc (.cells #[.slice A7 n7 c7] 27)
      have k7 := Blk.new (x3) 27 #[.slice A7 n7 c7]
      obtain ⟨g7, hg7⟩ : ∃ g7, x3.heap.size = g7 := ⟨_, rfl⟩
      rw [hg7] at k7
      have c_k3 := k3.cell 0
      simp at c_k3
      have f_k3 := k3.frozen 0
      have c_k7 := k7.cell 0
      simp at c_k7
      have f_k7 := k7.frozen 0
      go_wp2_with fail
      clear c_k3 f_k3 c_k7 f_k7
      go_meet
      exact ⟨g7, A7, n7, c7, rfl, rfl, k7, s7, k3, s1, HB.out⟩
  case rest =>
    obtain ⟨g7, A7, n7, c7, rfl, rfl, k7, s7, k3, s1, hB⟩ := hcut
    have HB := Lib.hid hB
    clear hB
    have HL := Lib.hid s1.len
    go_upto_if 35 with fail
    go_cut [] from 34 to 53 (fun wx => Blk wx w.heap.size 27 #[.slice A1 n1 c1] ∧ Sees wx (some 3) 1 A1 n1 (ib .i64 L) ∧ Below w.heap.size w wx)
    case first =>
      by_cases hD : decE R = 0
      · have hDb : (decE R == 0) = true := by simp [hD]
        have hE := enc_dec hD
        have HE1 := Lib.hid hE.1
        have HE2 := Lib.hid hE.2
        have HT : Hid (R = raw) := by unfold Hid; rw [HRR.out] at hD ⊢; exact take_small (b := []) hD
        have h5 := (right_len hE.1).2
        have hn7 : n7 ≤ 5 := by have := s7.len; omega
        clear hD hE h5
        have c_k3 := k3.cell 0
        simp at c_k3
        have f_k3 := k3.frozen 0
        have c_k7 := k7.cell 0
        simp at c_k7
        have f_k7 := k7.frozen 0
        go_wp2_with fail
        clear c_k3 f_k3 c_k7 f_k7
        clear hDb
        refine (encode_any A7 n7 c7 _ _ s7 (by omega)).mono ?_
        rintro e x4 ⟨A9, n9, c9, rfl, ho9, hb4⟩
        rw [askE_right HE1.out]
        rw [HE2.out] at ho9
        have s9 := Sees.of_own ho9
        replace HB := Lib.hid (HB.out.trans (hb4.mono HB.out.size))
        replace k3 := k3.below hb4
        replace k7 := k7.below hb4
        replace s1 := s1.below hb4
        replace s7 := s7.below hb4
        clear hb4
        have hn9 : n9 ≤ 300 := by have h1 := s9.len; rw [HRR.out] at h1; simp at h1; omega
        clear ho9
        have c_k3 := k3.cell 0
        simp at c_k3
        have f_k3 := k3.frozen 0
        have c_k7 := k7.cell 0
        simp at c_k7
        have f_k7 := k7.frozen 0
        go_wp2_with fail
        clear c_k3 f_k3 c_k7 f_k7
        refine (check_any A7 n7 c7 _ _ s7 (by omega)).mono ?_
        rintro e x5 ⟨rfl, hb5⟩
        rw [askE_right HE1.out]
        replace HB := Lib.hid (HB.out.trans (hb5.mono HB.out.size))
        replace k3 := k3.below hb5
        replace k7 := k7.below hb5
        replace s1 := s1.below hb5
        replace s7 := s7.below hb5
        replace s9 := s9.below hb5
        clear hb5
        have c_k3 := k3.cell 0
        simp at c_k3
        have f_k3 := k3.frozen 0
        have c_k7 := k7.cell 0
        simp at c_k7
        have f_k7 := k7.frozen 0
        go_wp2_with fail
        clear c_k3 f_k3 c_k7 f_k7
        have sr := w1.sees.below HB.out
        refine (equalByte_any A9 B n9 c9 d f R raw _ s9 sr (by omega)).mono ?_
        rw [eqB_true HT.out]
        rintro e x6 ⟨rfl, q6, rfl⟩
        replace HB := Lib.hid (below_drewN HB.out q6)
        replace k3 := k3.drewN q6
        replace k7 := k7.drewN q6
        replace s1 := s1.drewN q6
        replace s7 := s7.drewN q6
        replace s9 := s9.drewN q6
        have c_k3 := k3.cell 0
        simp at c_k3
        have f_k3 := k3.frozen 0
        have c_k7 := k7.cell 0
        simp at c_k7
        have f_k7 := k7.frozen 0
        go_wp2_with fail
        clear c_k3 f_k3 c_k7 f_k7
        go_meet
        exact ⟨k3, s1, HB.out⟩
      · have hDb : (decE R == 0) = false := by simp [hD]
        go_wp2_with fail
        go_meet
        exact ⟨k3, s1, HB.out⟩
    case rest =>
      clear k3 s1 s7 k7 HB
      obtain ⟨k3, s1, hB⟩ := hcut
      have HB := Lib.hid hB
      clear hB
      have c_k3 := k3.cell 0
      simp at c_k3
      have f_k3 := k3.frozen 0
      go_wp2_with fail
      clear c_k3 f_k3
      refine (check_any A1 n1 c1 _ _ s1 (by omega)).mono ?_
      rintro e x7 ⟨rfl, hb7⟩
      replace HB := Lib.hid (HB.out.trans (hb7.mono HB.out.size))
      replace k3 := k3.below hb7
      replace s1 := s1.below hb7
      clear hb7
      cases hr : rightB L with
      | false =>
        rw [askE_wrong hr]
        clear hr
        go_wp2
        go_ret
        exact ⟨rfl, HB.out⟩
      | true =>
        rw [askE_right hr]
        have HRt := Lib.hid hr
        have hDE := dec_enc hr
        have HD1 := Lib.hid hDE.1
        have HD2 := Lib.hid hDE.2
        have heb := enc_bytes hr
        have HLL := Lib.hid s1.len
        have h5 := right_len hr
        clear hr hDE
        have c_k3 := k3.cell 0
        simp at c_k3
        have f_k3 := k3.frozen 0
        go_wp2_with fail
        clear c_k3 f_k3
        refine (encode_any A1 n1 c1 _ _ s1 (by omega)).mono ?_
        rintro e x8 ⟨A11, n11, c11, rfl, ho11, hb8⟩
        rw [askE_right HRt.out]
        have s11 := Sees.of_own ho11
        have nc11 := own_cap ho11
        have hn11 : n11 ≤ 6 := by have h1 := s11.len; rw [enc_right HRt.out] at h1; simp at h1; omega
        clear ho11
        replace HB := Lib.hid (HB.out.trans (hb8.mono HB.out.size))
        replace k3 := k3.below hb8
        replace s1 := s1.below hb8
        clear hb8
        have c_k3 := k3.cell 0
        simp at c_k3
        have f_k3 := k3.frozen 0
        go_wp2_with fail
        clear c_k3 f_k3
        refine (decode_any A11 n11 c11 _ _ s11 nc11.1 nc11.2 (by omega) heb).mono ?_
        rintro e x9 ⟨A13, n13, c13, rfl, ho13, hb9⟩
        rw [HD1.out]
        rw [HD2.out] at ho13
        have s13 := Sees.of_own ho13
        replace HB := Lib.hid (HB.out.trans (hb9.mono HB.out.size))
        replace k3 := k3.below hb9
        replace s1 := s1.below hb9
        replace s11 := s11.below hb9
        clear hb9
        clear ho13 s11 heb nc11
        replace HB := Lib.hid (HB.out.alloc HB.out.size (.cells #[.slice A13 n13 c13] 27))
        replace k3 := k3.alloc (.cells #[.slice A13 n13 c13] 27)
        replace s1 := s1.alloc (.cells #[.slice A13 n13 c13] 27)
        replace s13 := s13.alloc (.cells #[.slice A13 n13 c13] 27)
        have k13 := Blk.new (x9) 27 #[.slice A13 n13 c13]
        obtain ⟨g13, hg13⟩ : ∃ g13, x9.heap.size = g13 := ⟨_, rfl⟩
        rw [hg13] at k13
        have c_k3 := k3.cell 0
        simp at c_k3
        have f_k3 := k3.frozen 0
        have c_k13 := k13.cell 0
        simp at c_k13
        have f_k13 := k13.frozen 0
        go_wp2_with fail
        clear c_k3 f_k3 c_k13 f_k13
        refine (same_any A1 A13 n1 c1 n13 c13 _ _ _ s1 s13 (by omega)).mono ?_
        rintro e x10 ⟨rfl, hb10⟩
        rw [eqB_true rfl]
        replace HB := Lib.hid (HB.out.trans (hb10.mono HB.out.size))
        replace k3 := k3.below hb10
        replace s1 := s1.below hb10
        replace s13 := s13.below hb10
        replace k13 := k13.below hb10
        clear hb10
        clear s13 k13
        have c_k3 := k3.cell 0
        simp at c_k3
        have f_k3 := k3.frozen 0
        go_wp2_with fail
        clear c_k3 f_k3
        refine (has'_any A1 n1 c1 _ m _ s1 (by omega)).mono ?_
        rintro e x11 ⟨rfl, hb11⟩
        rw [has_law, HRt.out, Bool.true_and]
        replace HB := Lib.hid (HB.out.trans (hb11.mono HB.out.size))
        replace k3 := k3.below hb11
        replace s1 := s1.below hb11
        clear hb11
        by_cases hm : m ∈ L
        · have hd : decide (m ∈ L) = true := by simp [hm]
          rw [hd]
          clear hd
          have HM := Lib.hid hm
          clear hm
          by_cases hl1 : 1 < L.length
          · have hret := ret_drop HRt.out HM.out hl1
            have P1 := Lib.hid hret.1
            have P2 := Lib.hid hret.2.1
            have P3 := Lib.hid hret.2.2.1
            have P4 := Lib.hid hret.2.2.2.1
            have P5 := Lib.hid hret.2.2.2.2.1
            have P6 := Lib.hid hret.2.2.2.2.2.1
            have P7 := hret.2.2.2.2.2.2
            clear hret hl1
            have c_k3 := k3.cell 0
            simp at c_k3
            have f_k3 := k3.frozen 0
            go_wp2_with fail
            clear c_k3 f_k3
            refine (drop_any A1 n1 c1 _ m _ s1 (by omega)).mono ?_
            rintro e x12 ⟨A15, n15, c15, rfl, ho15, hb12⟩
            rw [P1.out]
            have s15 := Sees.of_own ho15
            have hn15 : n15 ≤ 5 := by have := s15.len; omega
            clear ho15
            replace HB := Lib.hid (HB.out.trans (hb12.mono HB.out.size))
            replace k3 := k3.below hb12
            replace s1 := s1.below hb12
            clear hb12
            replace HB := Lib.hid (HB.out.alloc HB.out.size (.cells #[.slice A15 n15 c15] 27))
            replace k3 := k3.alloc (.cells #[.slice A15 n15 c15] 27)
            replace s1 := s1.alloc (.cells #[.slice A15 n15 c15] 27)
            replace s15 := s15.alloc (.cells #[.slice A15 n15 c15] 27)
            have k15 := Blk.new (x12) 27 #[.slice A15 n15 c15]
            obtain ⟨g15, hg15⟩ : ∃ g15, x12.heap.size = g15 := ⟨_, rfl⟩
            rw [hg15] at k15
            have c_k3 := k3.cell 0
            simp at c_k3
            have f_k3 := k3.frozen 0
            have c_k15 := k15.cell 0
            simp at c_k15
            have f_k15 := k15.frozen 0
            go_wp2_with fail
            clear c_k3 f_k3 c_k15 f_k15
            clear hg15
            refine (add_any A15 n15 c15 _ m _ s15 (by omega)).mono ?_
            rintro e x13 ⟨A17, n17, c17, rfl, ho17, hb13⟩
            rw [P2.out]
            rw [P3.out] at ho17
            have s17 := Sees.of_own ho17
            clear ho17
            replace HB := Lib.hid (HB.out.trans (hb13.mono HB.out.size))
            replace k3 := k3.below hb13
            replace s1 := s1.below hb13
            replace s15 := s15.below hb13
            replace k15 := k15.below hb13
            clear hb13
            replace HB := Lib.hid (HB.out.alloc HB.out.size (.cells #[.slice A17 n17 c17] 27))
            replace k3 := k3.alloc (.cells #[.slice A17 n17 c17] 27)
            replace s1 := s1.alloc (.cells #[.slice A17 n17 c17] 27)
            replace s15 := s15.alloc (.cells #[.slice A17 n17 c17] 27)
            replace k15 := k15.alloc (.cells #[.slice A17 n17 c17] 27)
            replace s17 := s17.alloc (.cells #[.slice A17 n17 c17] 27)
            have k17 := Blk.new (x13) 27 #[.slice A17 n17 c17]
            obtain ⟨g17, hg17⟩ : ∃ g17, x13.heap.size = g17 := ⟨_, rfl⟩
            rw [hg17] at k17
            have hn17 : n17 ≤ 30 := by have h1 := s17.len; have h2 := s1.len; omega
            have c_k3 := k3.cell 0
            simp at c_k3
            have f_k3 := k3.frozen 0
            have c_k15 := k15.cell 0
            simp at c_k15
            have f_k15 := k15.frozen 0
            have c_k17 := k17.cell 0
            simp at c_k17
            have f_k17 := k17.frozen 0
            go_wp2_with fail
            clear c_k3 f_k3 c_k15 f_k15 c_k17 f_k17
            clear hg17
            refine (same_any A17 A1 n17 c17 n1 c1 _ _ _ s17 s1 (by omega)).mono ?_
            rintro e x14 ⟨rfl, hb14⟩
            rw [eqB_true rfl]
            replace HB := Lib.hid (HB.out.trans (hb14.mono HB.out.size))
            replace k3 := k3.below hb14
            replace s1 := s1.below hb14
            replace s15 := s15.below hb14
            replace k15 := k15.below hb14
            replace s17 := s17.below hb14
            replace k17 := k17.below hb14
            clear hb14
            have c_k3 := k3.cell 0
            simp at c_k3
            have f_k3 := k3.frozen 0
            have c_k15 := k15.cell 0
            simp at c_k15
            have f_k15 := k15.frozen 0
            have c_k17 := k17.cell 0
            simp at c_k17
            have f_k17 := k17.frozen 0
            go_wp2_with fail
            clear c_k3 f_k3 c_k15 f_k15 c_k17 f_k17
            refine (has'_any A15 n15 c15 _ m _ s15 (by omega)).mono ?_
            rintro e x15 ⟨rfl, hb15⟩
            rw [P4.out]
            replace HB := Lib.hid (HB.out.trans (hb15.mono HB.out.size))
            replace k3 := k3.below hb15
            replace s1 := s1.below hb15
            replace s15 := s15.below hb15
            replace k15 := k15.below hb15
            replace s17 := s17.below hb15
            replace k17 := k17.below hb15
            clear hb15
            have c_k3 := k3.cell 0
            simp at c_k3
            have f_k3 := k3.frozen 0
            have c_k15 := k15.cell 0
            simp at c_k15
            have f_k15 := k15.frozen 0
            have c_k17 := k17.cell 0
            simp at c_k17
            have f_k17 := k17.frozen 0
            go_wp2_with fail
            clear c_k3 f_k3 c_k15 f_k15 c_k17 f_k17
            refine (step_any A1 A15 n1 c1 n15 c15 _ _ _ s1 s15 (by omega) (by omega)).mono ?_
            rintro e x16 ⟨rfl, hb16⟩
            rw [P5.out]
            replace HB := Lib.hid (HB.out.trans (hb16.mono HB.out.size))
            replace k3 := k3.below hb16
            replace s1 := s1.below hb16
            replace s15 := s15.below hb16
            replace k15 := k15.below hb16
            replace s17 := s17.below hb16
            replace k17 := k17.below hb16
            clear hb16
            have c_k3 := k3.cell 0
            simp at c_k3
            have f_k3 := k3.frozen 0
            have c_k15 := k15.cell 0
            simp at c_k15
            have f_k15 := k15.frozen 0
            have c_k17 := k17.cell 0
            simp at c_k17
            have f_k17 := k17.frozen 0
            go_wp2_with fail
            clear c_k3 f_k3 c_k15 f_k15 c_k17 f_k17
            refine (step_any A15 A1 n15 c15 n1 c1 _ _ _ s15 s1 (by omega) (by omega)).mono ?_
            rintro e x17 ⟨rfl, hb17⟩
            rw [P6.out]
            replace HB := Lib.hid (HB.out.trans (hb17.mono HB.out.size))
            replace k3 := k3.below hb17
            replace s1 := s1.below hb17
            replace s15 := s15.below hb17
            replace k15 := k15.below hb17
            replace s17 := s17.below hb17
            replace k17 := k17.below hb17
            clear hb17
            go_wp2
            go_ret
            exact ⟨rfl, HB.out⟩
          · have hE : Hid (dropE L m = 180) := by unfold Hid; rw [(drop_law L m).1]; simp [HRt.out, HM.out, show L.length ≤ 1 by omega]
            have hn1 : n1 = 1 := by have h1 := HLL.out; have h2 := h5.1; omega
            have hn1b : ((n1 : Int) == 1) = true := by simp [hn1]
            have HN1 := Lib.hid hn1
            clear hn1
            have c_k3 := k3.cell 0
            simp at c_k3
            have f_k3 := k3.frozen 0
            go_wp2_with fail
            clear c_k3 f_k3
            refine (drop_any A1 n1 c1 _ m _ s1 (by omega)).mono ?_
            rintro e x12 ⟨A15, n15, c15, rfl, ho15, hb12⟩
            rw [hE.out]
            clear ho15
            replace HB := Lib.hid (HB.out.trans (hb12.mono HB.out.size))
            replace k3 := k3.below hb12
            replace s1 := s1.below hb12
            clear hb12
            replace HB := Lib.hid (HB.out.alloc HB.out.size (.cells #[.slice A15 n15 c15] 27))
            replace k3 := k3.alloc (.cells #[.slice A15 n15 c15] 27)
            replace s1 := s1.alloc (.cells #[.slice A15 n15 c15] 27)
            have c_k3 := k3.cell 0
            simp at c_k3
            go_wp2
            go_ret
            exact ⟨rfl, HB.out⟩
        · have hd : decide (m ∈ L) = false := by simp [hm]
          rw [hd]
          clear hd
          by_cases ho : 1 ≤ m ∧ m ≤ 5
          · have hret := ret_add HRt.out hm ho
            have P1 := Lib.hid hret.1
            have P2 := Lib.hid hret.2.1
            have P3 := Lib.hid hret.2.2.1
            have P4 := Lib.hid hret.2.2.2.1
            have P5 := Lib.hid hret.2.2.2.2.1
            have P6 := Lib.hid hret.2.2.2.2.2.1
            have P7 := hret.2.2.2.2.2.2
            clear hret hm ho
            have c_k3 := k3.cell 0
            simp at c_k3
            have f_k3 := k3.frozen 0
            go_wp2_with fail
            clear c_k3 f_k3
            refine (add_any A1 n1 c1 _ m _ s1 (by omega)).mono ?_
            rintro e x12 ⟨A15, n15, c15, rfl, ho15, hb12⟩
            rw [P1.out]
            have s15 := Sees.of_own ho15
            have hn15 : n15 ≤ 5 := by have := s15.len; omega
            clear ho15
            replace HB := Lib.hid (HB.out.trans (hb12.mono HB.out.size))
            replace k3 := k3.below hb12
            replace s1 := s1.below hb12
            clear hb12
            replace HB := Lib.hid (HB.out.alloc HB.out.size (.cells #[.slice A15 n15 c15] 27))
            replace k3 := k3.alloc (.cells #[.slice A15 n15 c15] 27)
            replace s1 := s1.alloc (.cells #[.slice A15 n15 c15] 27)
            replace s15 := s15.alloc (.cells #[.slice A15 n15 c15] 27)
            have k15 := Blk.new (x12) 27 #[.slice A15 n15 c15]
            obtain ⟨g15, hg15⟩ : ∃ g15, x12.heap.size = g15 := ⟨_, rfl⟩
            rw [hg15] at k15
            have c_k3 := k3.cell 0
            simp at c_k3
            have f_k3 := k3.frozen 0
            have c_k15 := k15.cell 0
            simp at c_k15
            have f_k15 := k15.frozen 0
            go_wp2_with fail
            clear c_k3 f_k3 c_k15 f_k15
            clear hg15
            refine (drop_any A15 n15 c15 _ m _ s15 (by omega)).mono ?_
            rintro e x13 ⟨A17, n17, c17, rfl, ho17, hb13⟩
            rw [P2.out]
            rw [P3.out] at ho17
            have s17 := Sees.of_own ho17
            clear ho17
            replace HB := Lib.hid (HB.out.trans (hb13.mono HB.out.size))
            replace k3 := k3.below hb13
            replace s1 := s1.below hb13
            replace s15 := s15.below hb13
            replace k15 := k15.below hb13
            clear hb13
            replace HB := Lib.hid (HB.out.alloc HB.out.size (.cells #[.slice A17 n17 c17] 27))
            replace k3 := k3.alloc (.cells #[.slice A17 n17 c17] 27)
            replace s1 := s1.alloc (.cells #[.slice A17 n17 c17] 27)
            replace s15 := s15.alloc (.cells #[.slice A17 n17 c17] 27)
            replace k15 := k15.alloc (.cells #[.slice A17 n17 c17] 27)
            replace s17 := s17.alloc (.cells #[.slice A17 n17 c17] 27)
            have k17 := Blk.new (x13) 27 #[.slice A17 n17 c17]
            obtain ⟨g17, hg17⟩ : ∃ g17, x13.heap.size = g17 := ⟨_, rfl⟩
            rw [hg17] at k17
            have hn17 : n17 ≤ 30 := by have h1 := s17.len; have h2 := s1.len; omega
            have c_k3 := k3.cell 0
            simp at c_k3
            have f_k3 := k3.frozen 0
            have c_k15 := k15.cell 0
            simp at c_k15
            have f_k15 := k15.frozen 0
            have c_k17 := k17.cell 0
            simp at c_k17
            have f_k17 := k17.frozen 0
            go_wp2_with fail
            clear c_k3 f_k3 c_k15 f_k15 c_k17 f_k17
            clear hg17
            refine (same_any A17 A1 n17 c17 n1 c1 _ _ _ s17 s1 (by omega)).mono ?_
            rintro e x14 ⟨rfl, hb14⟩
            rw [eqB_true rfl]
            replace HB := Lib.hid (HB.out.trans (hb14.mono HB.out.size))
            replace k3 := k3.below hb14
            replace s1 := s1.below hb14
            replace s15 := s15.below hb14
            replace k15 := k15.below hb14
            replace s17 := s17.below hb14
            replace k17 := k17.below hb14
            clear hb14
            have c_k3 := k3.cell 0
            simp at c_k3
            have f_k3 := k3.frozen 0
            have c_k15 := k15.cell 0
            simp at c_k15
            have f_k15 := k15.frozen 0
            have c_k17 := k17.cell 0
            simp at c_k17
            have f_k17 := k17.frozen 0
            go_wp2_with fail
            clear c_k3 f_k3 c_k15 f_k15 c_k17 f_k17
            refine (has'_any A15 n15 c15 _ m _ s15 (by omega)).mono ?_
            rintro e x15 ⟨rfl, hb15⟩
            rw [P4.out]
            replace HB := Lib.hid (HB.out.trans (hb15.mono HB.out.size))
            replace k3 := k3.below hb15
            replace s1 := s1.below hb15
            replace s15 := s15.below hb15
            replace k15 := k15.below hb15
            replace s17 := s17.below hb15
            replace k17 := k17.below hb15
            clear hb15
            have c_k3 := k3.cell 0
            simp at c_k3
            have f_k3 := k3.frozen 0
            have c_k15 := k15.cell 0
            simp at c_k15
            have f_k15 := k15.frozen 0
            have c_k17 := k17.cell 0
            simp at c_k17
            have f_k17 := k17.frozen 0
            go_wp2_with fail
            clear c_k3 f_k3 c_k15 f_k15 c_k17 f_k17
            refine (step_any A1 A15 n1 c1 n15 c15 _ _ _ s1 s15 (by omega) (by omega)).mono ?_
            rintro e x16 ⟨rfl, hb16⟩
            rw [P5.out]
            replace HB := Lib.hid (HB.out.trans (hb16.mono HB.out.size))
            replace k3 := k3.below hb16
            replace s1 := s1.below hb16
            replace s15 := s15.below hb16
            replace k15 := k15.below hb16
            replace s17 := s17.below hb16
            replace k17 := k17.below hb16
            clear hb16
            have c_k3 := k3.cell 0
            simp at c_k3
            have f_k3 := k3.frozen 0
            have c_k15 := k15.cell 0
            simp at c_k15
            have f_k15 := k15.frozen 0
            have c_k17 := k17.cell 0
            simp at c_k17
            have f_k17 := k17.frozen 0
            go_wp2_with fail
            clear c_k3 f_k3 c_k15 f_k15 c_k17 f_k17
            refine (step_any A15 A1 n15 c15 n1 c1 _ _ _ s15 s1 (by omega) (by omega)).mono ?_
            rintro e x17 ⟨rfl, hb17⟩
            rw [P6.out]
            replace HB := Lib.hid (HB.out.trans (hb17.mono HB.out.size))
            replace k3 := k3.below hb17
            replace s1 := s1.below hb17
            replace s15 := s15.below hb17
            replace k15 := k15.below hb17
            replace s17 := s17.below hb17
            replace k17 := k17.below hb17
            clear hb17
            go_wp2
            go_ret
            exact ⟨rfl, HB.out⟩
          · have hE : Hid (addE L m = 2) := by unfold Hid; rw [(add_law L m).1]; simp [HRt.out, hm, show m < 1 ∨ 5 < m by omega]
            clear hm
            have c_k3 := k3.cell 0
            simp at c_k3
            have f_k3 := k3.frozen 0
            go_wp2_with fail
            clear c_k3 f_k3
            refine (add_any A1 n1 c1 _ m _ s1 (by omega)).mono ?_
            rintro e x12 ⟨A15, n15, c15, rfl, ho15, hb12⟩
            rw [hE.out]
            clear ho15
            replace HB := Lib.hid (HB.out.trans (hb12.mono HB.out.size))
            replace k3 := k3.below hb12
            replace s1 := s1.below hb12
            clear hb12
            replace HB := Lib.hid (HB.out.alloc HB.out.size (.cells #[.slice A15 n15 c15] 27))
            replace k3 := k3.alloc (.cells #[.slice A15 n15 c15] 27)
            replace s1 := s1.alloc (.cells #[.slice A15 n15 c15] 27)
            by_cases hm1 : m < 1
            · go_wp2
              go_ret
              exact ⟨rfl, HB.out⟩
            · have hm5 : 5 < m := by omega
              have hm1b : 1 ≤ m := by omega
              go_wp2
              go_ret
              exact ⟨rfl, HB.out⟩
end Go.Proofs.Ytonfbinkjhbpiaa.confReturns

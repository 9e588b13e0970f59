/- The walk of OctetGoes, which returns true. No condition. -/
import Derived.Test.YtnlgdcoeooppnaaRows
import Derived.Test.YtnlgdcoeooppnaaW9
import Derived.Test.YtnlgdcoeooppnaaRead
import Derived.WalkKit
import Derived.BigQuiet
import Derived.Deep.QuietTactic
import Derived.Deep.RegionHeld3
import Derived.WalkLawsBesides
import Derived.Lib.Hide
namespace Go.Proofs.Ytnlgdcoeooppnaa.octetGoes
open Go.RowKit
set_option linter.unusedVariables false


set_option maxRecDepth 100000 in
set_option maxHeartbeats 1600000 in
theorem walk (w : World) (A : Option Addr) (n c : Nat) (l : List Int) (w0 : Row w .u8 A n c l) (on : Int) (w1 : (Lit.int .i64 on).wf = true) (m : Int) (w2 : (Lit.int .i64 m).wf = true) :
    Calls Try.prog 8 #[.slice A n c, .int .i64 on, .int .i64 m] w fun e w' => e = .returned (.bool true) ∧ Below w.heap.size w w' := by
  have hBl : isB (l.take 300) := isB.take (wf_u8 w0.wf) _
  go_enter Try.func8, Try.ntmps8
  go_wp2_with (go_at_call 11; refine (wakes_any w).mono ?_; rintro e x1 ⟨rfl, hb1⟩)
  refine (few_any A n c l x1 (w0.sees.below hb1) w0.nc w0.small).mono ?_
  rintro e x2 ⟨A2, n2, c2, rfl, hn2, ho2, hb2⟩
  have hB2 := hb1.trans (hb2.mono hb1.size)
  obtain ⟨b, Hb⟩ : ∃ b, Hid (b = l.take 300) := ⟨_, rfl⟩
  rw [← Hb.out] at ho2 hBl
  have h2 := Sees.of_own ho2
  have nc2 := own_cap ho2
  have Hbl := Lib.hid h2.len
  clear ho2 hb1 hb2 w0
  obtain ⟨o, HO, ho⟩ : ∃ o : Nat, Hid (wrap64 ((IntKind.u64.wrap on).tmod ((n2 : Int) + 1)) = (o : Int)) ∧ o ≤ n2 := by
    have h0 : 0 ≤ IntKind.u64.wrap on := by rw [IntKind.wrap_u64]; omega
    have h1 : 0 ≤ (IntKind.u64.wrap on).tmod ((n2 : Int) + 1) ∧ (IntKind.u64.wrap on).tmod ((n2 : Int) + 1) < (n2 : Int) + 1 := by
      rw [Int.tmod_eq_emod_of_nonneg h0]
      exact ⟨Int.emod_nonneg _ (by omega), Int.emod_lt_of_pos _ (by omega)⟩
    refine ⟨((IntKind.u64.wrap on).tmod ((n2 : Int) + 1)).toNat, ?_, by omega⟩
    unfold Hid wrap64
    omega
  obtain ⟨q, HQ, hq⟩ : ∃ q : Nat, Hid (wrap64 ((IntKind.u64.wrap m).tmod 400) = (q : Int)) ∧ q < 400 := by
    have h0 : 0 ≤ IntKind.u64.wrap m := by rw [IntKind.wrap_u64]; omega
    have h1 : 0 ≤ (IntKind.u64.wrap m).tmod 400 ∧ (IntKind.u64.wrap m).tmod 400 < 400 := by
      rw [Int.tmod_eq_emod_of_nonneg h0]
      exact ⟨Int.emod_nonneg _ (by omega), Int.emod_lt_of_pos _ (by omega)⟩
    refine ⟨((IntKind.u64.wrap m).tmod 400).toNat, ?_, by omega⟩
    unfold Hid wrap64
    omega
  have HG1 : Hid (goS b 0 0 (o : Int) = (o, 0)) := by
    unfold Hid goS
    have := Hbl.out
    rw [if_neg (by omega), if_neg (by omega)]
    simp
  have HG2 : Hid (goS b o 0 (-(o : Int)) = (0, 0)) := by
    unfold Hid goS
    have := Hbl.out
    rw [if_neg (by omega), if_neg (by omega)]
    simp
    omega
  clear w1 w2
  go_wp2_with fail
  rw [HO.out, HQ.out]
  refine (read_any (cap := c2) h2 nc2.1 (by omega)).mono ?_
  rintro e x3 ⟨g1, rfl, hg1, hR1, hb3⟩
  go_wp2_with fail
  refine (read_any (cap := c2) (h2.below hb3) nc2.1 (by omega)).mono ?_
  rintro e x4 ⟨g2, rfl, hg2, hR2, hb4⟩
  have hgl1 := hR1.blk.lt
  have hgl2 := hR2.blk.lt
  have hR1' := hR1.below hb4
  have hB4 := (hB2.trans (hb3.mono hB2.size)).trans (hb4.mono (Nat.le_trans hB2.size hb3.size))
  have hs2 := hB2.size
  have hs3 := hb3.size
  clear hR1 hb3 hb4 h2 hB2
  go_wp2_with fail
  refine (go_any hR1' (o : Int)).mono ?_
  rintro e x5 ⟨rfl, hR5, hg5⟩
  rw [HG1.out] at hR5
  have hS5 := hR2.keep hR1'.blk hg5 (by omega)
  have hB5 := hB4.trans (below_of_only hg5 (by omega) hB4.size)
  clear hR1' hR2 hg5 hB4
  go_wp2_with fail
  refine (go_any hR5 (-(o : Int))).mono ?_
  rintro e x6 ⟨rfl, hR6, hg6⟩
  rw [HG2.out] at hR6
  have hS6 := hS5.keep hR5.blk hg6 (by omega)
  have hB6 := hB5.trans (below_of_only hg6 (by omega) hB5.size)
  clear hR5 hS5 hg6 hB5
  go_wp2_with fail
  refine (raw_any hR6 (q : Int)).mono ?_
  rintro e x7 ⟨A7, n7, c7, rfl, hR7, ho7, hg7⟩
  have hS7 := hS6.keep hR6.blk hg7 (by omega)
  have hB7 := hB6.trans (below_of_only hg7 (by omega) hB6.size)
  have ho7b := Sees.of_own ho7
  have hbl7 := own_ne ho7 hR7.blk (by decide)
  clear hR6 hS6 hg7 hB6
  go_wp2_with fail
  refine (raw_any hS7 (q : Int)).mono ?_
  rintro e x8 ⟨A8, n8, c8, rfl, hS8, ho8, hg8⟩
  have hR8 := hR7.keep hS7.blk hg8 (by omega)
  have hB8 := hB7.trans (below_of_only hg8 (by omega) hB7.size)
  have ho8a := ho7b.grown hg8 (fun ad h0 h1 e => by injection e with e; exact hS7.blk.apart ho7b (by decide) ad h0 h1 e.symm)
  have ho8b := Sees.of_own ho8
  have hBo : isB (nextS b 0 0 (q : Int)).2.2 := nextS_isB hBl _ _ _
  clear hR7 hS7 hg8 hB7 ho7 ho7b ho8
  go_wp2_with fail
  refine (bytesEqual_any A7 A8 n7 c7 n8 c8 _ _ _ ho8a ho8b hBo hBo).mono ?_
  rintro e x9 ⟨rfl, rfl⟩
  rw [eqB_true rfl]
  clear ho8a ho8b hBo
  by_cases hqn : q ≤ n2
  · have HN : Hid (nextS b 0 0 (q : Int) = (q, 0, (b.drop 0).take q)) := by
      unfold Hid
      rw [nextS, if_neg (by simp), if_neg (by omega), if_neg (by rw [Hbl.out]; omega)]; simp
    have HG3 : Hid (goS b q 0 ((n2 : Int) + 1) = (q, 2)) := by
      unfold Hid
      simp [goS, Hbl.out]
      try omega
    have HG4 : Hid (goS b q 2 (-((q : Nat) : Int)) = (q, 2)) := by
      unfold Hid
      simp [goS]
    have HN5 : Hid (nextS b q 2 1 = (q, 2, [])) := by
      unfold Hid
      simp [nextS]
    have HN6 : Hid (nextS b q 2 0 = (q, 2, [])) := by
      unfold Hid
      simp [nextS]
    rw [HN.out] at hR8 hS8
    simp only at hR8 hS8
    go_wp2_with fail
    refine (at_any hR8).mono ?_
    rintro e x9 ⟨rfl, rfl⟩
    go_wp2_with fail
    refine (at_any hS8).mono ?_
    rintro e x9 ⟨rfl, rfl⟩
    go_wp2_with fail
    refine (err_any hR8).mono ?_
    rintro e x9 ⟨rfl, rfl⟩
    go_wp2_with fail
    refine (err_any hS8).mono ?_
    rintro e x9 ⟨rfl, rfl⟩
    go_wp2_with fail
    refine (at_any hR8).mono ?_
    rintro e x9 ⟨rfl, rfl⟩
    go_wp2_with fail
    refine (go_any hR8 _).mono ?_
    rintro e y1 ⟨rfl, hY1, hgy1⟩
    rw [HG3.out] at hY1
    have hC1 := hB8.trans (below_of_only hgy1 (by omega) hB8.size)
    clear hR8 hS8 hgy1 hB8
    go_wp2_with fail
    refine (err_any hY1).mono ?_
    rintro e x9 ⟨rfl, rfl⟩
    go_wp2_with fail
    refine (go_any hY1 (-((q : Nat) : Int))).mono ?_
    rintro e y2 ⟨rfl, hY2, hgy2⟩
    rw [HG4.out] at hY2
    have hC2 := hC1.trans (below_of_only hgy2 (by omega) hC1.size)
    clear hY1 hgy2 hC1
    go_wp2_with fail
    refine (at_any hY2).mono ?_
    rintro e x9 ⟨rfl, rfl⟩
    go_wp2_with fail
    refine (err_any hY2).mono ?_
    rintro e x9 ⟨rfl, rfl⟩
    go_wp2_with fail
    refine (u8_any hY2 hBl).mono ?_
    rintro e y3 ⟨rfl, hY3, hgy3⟩
    rw [HN5.out] at hY3 ⊢
    have hC3 := hC2.trans (below_of_only hgy3 (by omega) hC2.size)
    clear hY2 hgy3 hC2
    go_wp2_with fail
    refine (raw_any hY3 0).mono ?_
    rintro e y4 ⟨B4, m4, d4, rfl, hY4, hoy4, hgy4⟩
    rw [HN6.out] at hoy4
    obtain rfl : m4 = 0 := by have := (Sees.of_own hoy4).len; simpa using this.symm
    have hC4 := hC3.trans (below_of_only hgy4 (by omega) hC3.size)
    clear hY3 hY4 hoy4 hgy4 hC3
    go_wp2
    go_ret
    exact ⟨rfl, hC4⟩
  · have HN : Hid (nextS b 0 0 (q : Int) = (0, 7, [])) := by
      unfold Hid
      rw [nextS, if_neg (by simp), if_neg (by omega), if_pos (by rw [Hbl.out]; omega)]
    have HG3 : Hid (goS b 0 7 ((n2 : Int) + 1) = (0, 7)) := by
      unfold Hid
      simp [goS]
    have HG4 : Hid (goS b 0 7 (-((0 : Nat) : Int)) = (0, 7)) := by
      unfold Hid
      simp [goS]
    have HN5 : Hid (nextS b 0 7 1 = (0, 7, [])) := by
      unfold Hid
      simp [nextS]
    have HN6 : Hid (nextS b 0 7 0 = (0, 7, [])) := by
      unfold Hid
      simp [nextS]
    rw [HN.out] at hR8 hS8
    simp only at hR8 hS8
    go_wp2_with fail
    refine (at_any hR8).mono ?_
    rintro e x9 ⟨rfl, rfl⟩
    go_wp2_with fail
    refine (at_any hS8).mono ?_
    rintro e x9 ⟨rfl, rfl⟩
    go_wp2_with fail
    refine (err_any hR8).mono ?_
    rintro e x9 ⟨rfl, rfl⟩
    go_wp2_with fail
    refine (err_any hS8).mono ?_
    rintro e x9 ⟨rfl, rfl⟩
    go_wp2_with fail
    refine (at_any hR8).mono ?_
    rintro e x9 ⟨rfl, rfl⟩
    go_wp2_with fail
    refine (go_any hR8 _).mono ?_
    rintro e y1 ⟨rfl, hY1, hgy1⟩
    rw [HG3.out] at hY1
    have hC1 := hB8.trans (below_of_only hgy1 (by omega) hB8.size)
    clear hR8 hS8 hgy1 hB8
    go_wp2_with fail
    refine (err_any hY1).mono ?_
    rintro e x9 ⟨rfl, rfl⟩
    go_wp2_with fail
    refine (go_any hY1 (-((0 : Nat) : Int))).mono ?_
    rintro e y2 ⟨rfl, hY2, hgy2⟩
    rw [HG4.out] at hY2
    have hC2 := hC1.trans (below_of_only hgy2 (by omega) hC1.size)
    clear hY1 hgy2 hC1
    go_wp2_with fail
    refine (at_any hY2).mono ?_
    rintro e x9 ⟨rfl, rfl⟩
    go_wp2_with fail
    refine (err_any hY2).mono ?_
    rintro e x9 ⟨rfl, rfl⟩
    go_wp2_with fail
    refine (u8_any hY2 hBl).mono ?_
    rintro e y3 ⟨rfl, hY3, hgy3⟩
    rw [HN5.out] at hY3 ⊢
    have hC3 := hC2.trans (below_of_only hgy3 (by omega) hC2.size)
    clear hY2 hgy3 hC2
    go_wp2_with fail
    refine (raw_any hY3 0).mono ?_
    rintro e y4 ⟨B4, m4, d4, rfl, hY4, hoy4, hgy4⟩
    rw [HN6.out] at hoy4
    obtain rfl : m4 = 0 := by have := (Sees.of_own hoy4).len; simpa using this.symm
    have hC4 := hC3.trans (below_of_only hgy4 (by omega) hC3.size)
    clear hY3 hY4 hoy4 hgy4 hC3
    go_wp2
    go_ret
    exact ⟨rfl, hC4⟩
end Go.Proofs.Ytnlgdcoeooppnaa.octetGoes

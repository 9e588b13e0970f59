/- The walk of ConfReach, which returns true. No condition. -/
import Derived.Test.YtonfbinkjhbpiaaRows
import Derived.Test.YtonfbinkjhbpiaaA5
import Derived.Test.YtonfbinkjhbpiaaRead3
import Derived.Test.YtonfbinkjhbpiaaStep
import Derived.Test.YtonfbinkjhbpiaaRead
import Derived.WalkKit
import Derived.BigQuiet
import Derived.Deep.QuietTactic
import Derived.Deep.RegionHeld3
import Derived.Deep.RegionWith
import Derived.Deep.CutRange
import Derived.Deep.CutBlock
import Derived.WalkLawsBesides
import Derived.Lib.Hide
namespace Go.Proofs.Ytonfbinkjhbpiaa.confReach
open Go.RowKit
set_option linter.unusedVariables false
set_option linter.unusedSimpArgs false


open Go.Proofs.Ytonfbinkjhbpiaa
theorem ty_match : ElemTy Try.prog 51 60 (.agg #[.int .i64 0, .int .u64 0]) 2 16 := ⟨Try.underlying51, by kernel_rfl, rfl, by omega, by omega⟩

theorem pm_one (ps : List (Int × Int)) : ∀ u ∈ pm ps, u.oneCell' = true := by
  intro u hu
  unfold pm at hu
  rw [List.mem_flatMap] at hu
  obtain ⟨p, _, hp⟩ := hu
  simp at hp
  rcases hp with rfl | rfl <;> rfl
/-- What the last line's region knows of each of its slots. -/
def PhiReach (A1 : Option Addr) (n1 c1 : Nat) (L : List Int) (B : Option Addr) (q d : Nat) (P : List (Int × Int)) (want : Int) : Nat → Value → World → Prop
  | 0, v, _ => v = cf A1 n1 c1
  | 1, v, _ => ∃ g, v = .slice (some ⟨g, 0, none⟩) 0 0
  | 2, v, _ => v = .slice B q d
  | 3, v, w => ∃ A2 c2, v = .slice A2 q c2 ∧ Sees w (some 60) 2 A2 q (pm P)
  | 4, v, _ => v = .int .u64 want
  | 5, v, _ => v = .int .u64 want
  | 6, v, _ => v = .bool true
  | 7, v, _ => v = .bool true
  | _, _, _ => True
theorem phiReach_stab (A1 : Option Addr) (n1 c1 : Nat) (L : List Int) (B : Option Addr) (q d : Nat) (P : List (Int × Int)) (want : Int) (i : Nat) (v : Value) (w1 w2 : World)
    (h : PhiReach A1 n1 c1 L B q d P want i v w1) (hb : Below w1.heap.size w1 w2) : PhiReach A1 n1 c1 L B q d P want i v w2 := by
  by_cases h3 : i = 3
  · subst h3
    obtain ⟨A2, c2, e, s⟩ := h
    exact ⟨A2, c2, e, s.below hb⟩
  · unfold PhiReach at h ⊢
    split <;> simp_all

set_option maxRecDepth 100000 in
set_option maxHeartbeats 12000000 in
theorem walk (w : World) (A : Option Addr) (n c : Nat) (la : List Int) (w0 : Row w .i64 A n c la) (B : Option Addr) (m d : Nat) (ps : List (Int × Int)) (w1 : MatchesOf w B m d ps) :
    Calls Try.prog 6 #[.agg #[.slice A n c], .slice B m d] w fun e w' => e = .returned (.bool true) ∧ Below w.heap.size w w' := by
  have hd : d ≤ maxLen := w1.small
  have hmd := w1.nc
  unfold maxLen at hd
  have HB := Lib.hid ((Below.refl _ w).alloc (Nat.le_refl _) (.cells #[.slice A n c] 27))
  have k3 := Blk.new w 27 #[.slice A n c]
  have s0 := w0.sees.alloc (.cells #[.slice A n c] 27)
  go_enter Try.func6, Try.ntmps6
  have c_k3 := k3.cell 0
  simp at c_k3
  have f_k3 := k3.frozen 0
  go_wp2_with fail
  clear c_k3 f_k3
  refine (wakes_any _).mono ?_
  rintro e x1 ⟨rfl, hb1⟩
  replace HB := Lib.hid (HB.out.trans (hb1.mono HB.out.size))
  replace k3 := k3.below hb1
  replace s0 := s0.below hb1
  clear hb1
  have c_k3 := k3.cell 0
  simp at c_k3
  have f_k3 := k3.frozen 0
  go_wp2_with fail
  clear c_k3 f_k3
  refine (few_any A n c la _ s0 w0.nc w0.small).mono ?_
  rintro e x2 ⟨A1, n1, c1, rfl, hn1, ho1, hb2⟩
  replace HB := Lib.hid (HB.out.trans (hb2.mono HB.out.size))
  replace k3 := k3.below hb2
  replace s0 := s0.below hb2
  have s1 := Sees.of_own ho1
  clear ho1 hb2 s0
  obtain ⟨L, hL⟩ : ∃ L, L = la.take 30 := ⟨_, rfl⟩
  rw [← hL] at s1
  clear hL
  have c_k3 := k3.cell 0
  simp at c_k3
  have f_k3 := k3.frozen 0
  go_upto_region 4 with fail
  clear c_k3 f_k3
  have apart_of := k3
  replace HB := Lib.hid (HB.out.setCell (p := ⟨w.heap.size, 0, none⟩) (Nat.le_refl _) (.slice A1 n1 c1))
  replace s1 := s1.far (p := ⟨w.heap.size, 0, none⟩) (apart_of.apart s1 (by decide)) (.slice A1 n1 c1)
  replace k3 := k3.put 0 (.slice A1 n1 c1)
  clear apart_of
  have sp := w1.sees.below HB.out
  have HPL := Lib.hid (pm_len ps)
  have hpl := sp.1
  obtain ⟨P, hP⟩ : ∃ P, P = ps.take 60 := ⟨_, rfl⟩
  have HP := Lib.hid hP
  clear hP
  go_cut [1] from 10 to 13 (fun s1 wx => ∃ q : Nat, s1 = .slice B q d ∧ q ≤ 60 ∧ q ≤ d ∧ Sees wx none 2 B q (pm P) ∧ Blk wx w.heap.size 27 #[.slice A1 n1 c1] ∧ Sees wx (some 3) 1 A1 n1 (ib .i64 L) ∧ Below w.heap.size w wx)
  case first =>
    by_cases h6 : 60 < m
    · have sR := sp.take (k := 60) (by omega)
      rw [pm_take, show ps.take 60 = P from HP.out.symm] at sR
      go_wp2_with fail
      go_meet
      exact ⟨60, rfl, by omega, by omega, sR, k3, s1, HB.out⟩
    · have sR := sp.take (k := m) (by omega)
      rw [pm_take, show ps.take m = P from (by rw [HP.out, List.take_of_length_le (by have := HPL.out; omega), List.take_of_length_le (by have := HPL.out; omega)])] at sR
      go_wp2_with fail
      go_meet
      exact ⟨m, rfl, by omega, by omega, sR, k3, s1, HB.out⟩
  case rest =>
    clear k3 s1 sp HB
    obtain ⟨q, rfl, hq, hqd, sp, k3, s1, hB⟩ := hcut
    have HB := Lib.hid hB
    clear hB hpl
    have c_k3 := k3.cell 0
    simp at c_k3
    have f_k3 := k3.frozen 0
    go_wp2_with fail
    clear c_k3 f_k3
    refine (rright_any A1 n1 c1 L _ s1 (by omega)).mono ?_
    rintro e x3 ⟨rfl, hb3⟩
    replace HB := Lib.hid (HB.out.trans (hb3.mono HB.out.size))
    replace k3 := k3.below hb3
    replace s1 := s1.below hb3
    replace sp := sp.below hb3
    clear hb3
    have HA := Lib.hid (agreed_law L P)
    cases hr : rightB L with
    | true =>
      have HR := Lib.hid hr
      clear hr
      have c_k3 := k3.cell 0
      simp at c_k3
      have f_k3 := k3.frozen 0
      go_wp2_with fail
      clear c_k3 f_k3
      refine (ragreed_any A1 n1 c1 L B q d P _ s1 (by omega) sp (by omega)).mono ?_
      rintro e x4 ⟨rfl, hb4⟩
      replace HB := Lib.hid (HB.out.trans (hb4.mono HB.out.size))
      replace k3 := k3.below hb4
      replace s1 := s1.below hb4
      replace sp := sp.below hb4
      clear hb4
      have HE : Hid (agreedN (askX L) P = ragN L P L) := by unfold Hid; rw [HA.out, HR.out]; simp
      have kS := k3
      go_upto_region 8 with fail
      refine wp_region_par_all 8 [20, 21, 22, 23, 24, 25, 26, 4] (fun _ => false) (PhiReach A1 n1 c1 L B q d P (ragN L P L)) (by kernel_rfl) (by kernel_rfl) (phiReach_stab _ _ _ _ _ _ _ _ _) ?steps ?fin
      case steps =>
        simp only [StepsPar]
        refine ⟨?_, ?_, ?_, ?_, ?_, ?_, ?_, ?_, trivial⟩
        all_goals
          intro x w1x hb hd K hK
          simp only [frameOf, slots, Act.put, List.setIfInBounds_toArray, List.set_cons_zero, List.set_cons_succ] at hK ⊢
        · have c3 := (k3.below hb).cell 0
          simp at c3
          go_simp
          exact hK _ _ (rfl) (Below.refl _ _) (fun h => absurd h (by decide))
        · go_simp
          exact hK _ _ ⟨_, rfl⟩ ((Below.refl _ _).alloc (Nat.le_refl _) _) (fun h => absurd h (by decide))
        · go_simp
          exact hK _ _ (rfl) (Below.refl _ _) (fun h => absurd h (by decide))
        · have d1 := hd ⟨1, .data⟩ (by simp) rfl
          have e2 : x 2 = .slice B q d := hd ⟨2, .data⟩ (by simp) rfl
          simp only [e2] at hK ⊢
          obtain ⟨g, e1⟩ := d1
          simp only [e1] at hK ⊢
          rw [if_pos (by rfl)]
          refine wp_append_empty ty_match (sp.below hb) (pm_one _) (by omega) rfl rfl rfl rfl ?_
          intro A2 c2 w2x s2 hb2
          exact hK _ _ ⟨A2, c2, rfl, s2⟩ hb2 (fun h => absurd h (by decide))
        · have e0 : x 0 = cf A1 n1 c1 := hd ⟨0, .data⟩ (by simp) rfl
          have d3 := hd ⟨3, .data⟩ (by simp) rfl
          simp only [e0] at hK ⊢
          obtain ⟨A2, c2, e3, s2⟩ := d3
          simp only [e3] at hK ⊢
          go_simp
          refine (agreed_any A1 n1 c1 L A2 q c2 P w1x (s1.below hb) (by omega) s2 (by omega)).mono ?_
          rw [HE.out]
          rintro e w2x ⟨rfl, hb2⟩
          exact hK _ _ rfl hb2 (fun h => absurd h (by decide))
        · go_simp
          exact hK _ _ (rfl) (Below.refl _ _) (fun h => absurd h (by decide))
        · have e4 : x 4 = .int .u64 (ragN L P L) := hd ⟨4, .data⟩ (by simp) rfl
          have e5 : x 5 = .int .u64 (ragN L P L) := hd ⟨5, .data⟩ (by simp) rfl
          simp only [e4, e5] at hK ⊢
          go_simp
          exact hK _ _ (by simp [PhiReach]) (Below.refl _ _) (fun h => absurd h (by decide))
        · have e6 : x 6 = .bool true := hd ⟨6, .data⟩ (by simp) rfl
          simp only [e6] at hK ⊢
          go_simp
          exact hK _ _ (rfl) (Below.refl _ _) (fun h => absurd h (by decide))
      case fin =>
        intro x wg hb hx _
        have e7 : x 7 = .bool true := hx 7 (by omega)
        simp only [frameOf, slots, Act.put, List.setIfInBounds_toArray, List.set_cons_zero, List.set_cons_succ, e7]
        go_wp2
        go_ret
        exact ⟨rfl, HB.out.trans (hb.mono HB.out.size)⟩
    | false =>
      have HR := Lib.hid hr
      clear hr
      have HE : Hid (agreedN (askX L) P = 0) := by unfold Hid; rw [HA.out, HR.out]; simp
      have kS := k3
      go_upto_region 8 with fail
      refine wp_region_par_all 8 [20, 21, 22, 23, 24, 25, 26, 4] (fun _ => false) (PhiReach A1 n1 c1 L B q d P (0)) (by kernel_rfl) (by kernel_rfl) (phiReach_stab _ _ _ _ _ _ _ _ _) ?steps ?fin
      case steps =>
        simp only [StepsPar]
        refine ⟨?_, ?_, ?_, ?_, ?_, ?_, ?_, ?_, trivial⟩
        all_goals
          intro x w1x hb hd K hK
          simp only [frameOf, slots, Act.put, List.setIfInBounds_toArray, List.set_cons_zero, List.set_cons_succ] at hK ⊢
        · have c3 := (k3.below hb).cell 0
          simp at c3
          go_simp
          exact hK _ _ (rfl) (Below.refl _ _) (fun h => absurd h (by decide))
        · go_simp
          exact hK _ _ ⟨_, rfl⟩ ((Below.refl _ _).alloc (Nat.le_refl _) _) (fun h => absurd h (by decide))
        · go_simp
          exact hK _ _ (rfl) (Below.refl _ _) (fun h => absurd h (by decide))
        · have d1 := hd ⟨1, .data⟩ (by simp) rfl
          have e2 : x 2 = .slice B q d := hd ⟨2, .data⟩ (by simp) rfl
          simp only [e2] at hK ⊢
          obtain ⟨g, e1⟩ := d1
          simp only [e1] at hK ⊢
          rw [if_pos (by rfl)]
          refine wp_append_empty ty_match (sp.below hb) (pm_one _) (by omega) rfl rfl rfl rfl ?_
          intro A2 c2 w2x s2 hb2
          exact hK _ _ ⟨A2, c2, rfl, s2⟩ hb2 (fun h => absurd h (by decide))
        · have e0 : x 0 = cf A1 n1 c1 := hd ⟨0, .data⟩ (by simp) rfl
          have d3 := hd ⟨3, .data⟩ (by simp) rfl
          simp only [e0] at hK ⊢
          obtain ⟨A2, c2, e3, s2⟩ := d3
          simp only [e3] at hK ⊢
          go_simp
          refine (agreed_any A1 n1 c1 L A2 q c2 P w1x (s1.below hb) (by omega) s2 (by omega)).mono ?_
          rw [HE.out]
          rintro e w2x ⟨rfl, hb2⟩
          exact hK _ _ rfl hb2 (fun h => absurd h (by decide))
        · go_simp
          exact hK _ _ (rfl) (Below.refl _ _) (fun h => absurd h (by decide))
        · have e4 : x 4 = .int .u64 (0) := hd ⟨4, .data⟩ (by simp) rfl
          have e5 : x 5 = .int .u64 (0) := hd ⟨5, .data⟩ (by simp) rfl
          simp only [e4, e5] at hK ⊢
          go_simp
          exact hK _ _ (by simp [PhiReach]) (Below.refl _ _) (fun h => absurd h (by decide))
        · have e6 : x 6 = .bool true := hd ⟨6, .data⟩ (by simp) rfl
          simp only [e6] at hK ⊢
          go_simp
          exact hK _ _ (rfl) (Below.refl _ _) (fun h => absurd h (by decide))
      case fin =>
        intro x wg hb hx _
        have e7 : x 7 = .bool true := hx 7 (by omega)
        simp only [frameOf, slots, Act.put, List.setIfInBounds_toArray, List.set_cons_zero, List.set_cons_succ, e7]
        go_wp2
        go_ret
        exact ⟨rfl, HB.out.trans (hb.mono HB.out.size)⟩
end Go.Proofs.Ytonfbinkjhbpiaa.confReach

/- The walk of ConfGrows, which returns true. No condition. -/
import Derived.Test.YtonfbinkjhbpiaaRows
import Derived.Test.YtonfbinkjhbpiaaG5
import Derived.Test.YtonfbinkjhbpiaaRead4
import Derived.Test.YtonfbinkjhbpiaaStep
import Derived.Test.YtonfbinkjhbpiaaRead
import Derived.WalkKit
import Derived.BigQuiet
import Derived.Deep.QuietTactic
import Derived.Deep.RegionHeld3
import Derived.Deep.RegionWith
import Derived.Deep.CutRange
import Derived.Deep.CutBlock
import Derived.WalkLawsBesides
import Derived.Lib.Hide
namespace Go.Proofs.Ytonfbinkjhbpiaa.confGrows
open Go.RowKit
set_option linter.unusedVariables false
set_option linter.unusedSimpArgs false


open Go.Proofs.Ytonfbinkjhbpiaa
theorem pm_append (p q : List (Int × Int)) : pm p ++ pm q = pm (p ++ q) := by unfold pm; rw [List.flatMap_append]
/-- What the first region that draws knows of each of its slots. -/
def PhiFar (A1 : Option Addr) (n1 c1 : Nat) (F : Value) (P : List (Int × Int)) (N : Int) (b1 b2 : Bool) : Nat → Value → World → Prop
  | 0, v, _ => v = .int .u64 N
  | 1, v, _ => v = .bool b1
  | 2, v, _ => v = .bool b1
  | 3, v, _ => b1 = true → v = cf A1 n1 c1
  | 4, v, _ => b1 = true → v = F
  | 5, v, _ => b1 = true → v = .int .u64 N
  | 6, v, w => b1 = true → ∃ A n c, v = .slice A n c ∧ n ≤ 60 ∧ Sees w (some 3) 1 A n (ib .i64 (farS P N))
  | 7, v, _ => b1 = true → v = .bool true
  | 8, v, _ => b1 = true → v = .bool false
  | 9, v, _ => v = .bool false
  | 10, v, _ => v = .bool false
  | 11, v, _ => v = .int .u64 N
  | 12, v, _ => v = .bool b2
  | 13, v, _ => v = .bool b2
  | 14, v, _ => b2 = true → v = cf A1 n1 c1
  | 15, v, _ => b2 = true → v = F
  | 16, v, _ => b2 = true → v = .int .u64 N
  | 17, v, _ => b2 = true → v = .int .u64 (N + 1)
  | 18, v, w => b2 = true → ∃ A n c, v = .slice A n c ∧ n ≤ 60 ∧ Sees w (some 3) 1 A n (ib .i64 (farS P (N + 1)))
  | 19, v, _ => b2 = true → v = .bool false
  | 20, v, _ => v = .bool false
  | 21, v, _ => v = .bool false
  | _, _, _ => True
theorem phiFar_stab (A1 : Option Addr) (n1 c1 : Nat) (F : Value) (P : List (Int × Int)) (N : Int) (b1 b2 : Bool) (i : Nat) (v : Value) (w1 w2 : World)
    (h : PhiFar A1 n1 c1 F P N b1 b2 i v w1) (hb : Below w1.heap.size w1 w2) : PhiFar A1 n1 c1 F P N b1 b2 i v w2 := by
  by_cases h6 : i = 6
  · subst h6
    intro hh
    obtain ⟨A, n, c, e, hn, s⟩ := h hh
    exact ⟨A, n, c, e, hn, s.below hb⟩
  · by_cases h18 : i = 18
    · subst h18
      intro hh
      obtain ⟨A, n, c, e, hn, s⟩ := h hh
      exact ⟨A, n, c, e, hn, s.below hb⟩
    · unfold PhiFar at h ⊢
      split <;> simp_all

/-- What the region that appends the one match knows of each of its slots. -/
def PhiMore (A1 : Option Addr) (n1 c1 : Nat) (bx q c4 : Nat) (A4 : Option Addr) (a b : Int) (zs : List Value) (N2 : Int) : Nat → Value → World → Prop
  | 0, v, _ => v = cf A1 n1 c1
  | 1, v, _ => v = .slice A4 q c4
  | 2, v, _ => v = .agg #[.int .i64 a, .int .u64 b]
  | 3, v, w => ∃ g, v = .slice (some ⟨g, 0, none⟩) 1 1 ∧ Blk w g 60 #[.int .i64 a, .int .u64 b] ∧ Value.ownBlock (.slice A4 q c4) ≠ some g
  | 4, v, w => ∃ A' c', v = .slice A' (q + 1) c' ∧ AppR 60 2 bx q c4 (q + 1) A4 zs A' c' w
  | 5, v, _ => v = .int .u64 N2
  | 6, v, _ => v = .int .u64 N2
  | _, _, _ => True
theorem phiMore_stab (A1 : Option Addr) (n1 c1 : Nat) (bx q c4 : Nat) (A4 : Option Addr) (a b : Int) (xs zs : List Value) (N2 : Int) (i : Nat) (v : Value) (w1 w2 : World)
    (h : PhiMore A1 n1 c1 bx q c4 A4 a b zs N2 i v w1) (hr : RK 60 2 bx q c4 (q + 1) A4 xs zs w1 w2) : PhiMore A1 n1 c1 bx q c4 A4 a b zs N2 i v w2 := by
  by_cases h3 : i = 3
  · subst h3
    obtain ⟨g, e, k, hne⟩ := h
    exact ⟨g, e, k.grown hr.1 hne, hne⟩
  · by_cases h4 : i = 4
    · subst h4
      obtain ⟨A', c', e, hA⟩ := h
      exact ⟨A', c', e, hA.stab hr⟩
    · unfold PhiMore at h ⊢
      split <;> simp_all
/-- What the last region knows of each of its slots. -/
def PhiBack (A1 : Option Addr) (n1 c1 : Nat) (g5 : Nat) (bx q c5 : Nat) (A5 : Option Addr) (c4 : Nat) (A4 : Option Addr) (a : Int) (zs : List Value) (N N2 : Int) (hh : Bool) : Nat → Value → World → Prop
  | 0, v, _ => v = .int .u64 N2
  | 1, v, _ => v = .int .u64 N
  | 2, v, _ => v = .bool true
  | 3, v, _ => v = .bool true
  | 4, v, _ => v = cf A1 n1 c1
  | 5, v, _ => v = .pointer (some ⟨g5, 0, none⟩)
  | 6, v, _ => v = .int .i64 a
  | 7, v, _ => v = .bool hh
  | 8, v, _ => v = .bool hh
  | 9, v, _ => hh = false → v = .int .u64 N2
  | 10, v, _ => hh = false → v = .int .u64 N
  | 11, v, _ => hh = false → v = .bool true
  | 12, v, _ => v = .bool true
  | 13, v, _ => v = .bool true
  | 14, v, _ => v = .bool true
  | 15, v, _ => v = cf A1 n1 c1
  | 16, v, _ => v = .slice A5 q c5
  | 17, v, _ => v = .slice A4 q c4
  | 18, v, w => ∃ A' c', v = .slice A' (q + q) c' ∧ AppR 60 2 bx q c5 (q + q) A5 zs A' c' w
  | 19, v, _ => v = .int .u64 N
  | 20, v, _ => v = .int .u64 N
  | 21, v, _ => v = .bool true
  | 22, v, _ => v = .bool true
  | 23, v, _ => v = .bool true
  | _, _, _ => True
theorem phiBack_stab (A1 : Option Addr) (n1 c1 : Nat) (g5 : Nat) (bx q c5 : Nat) (A5 : Option Addr) (c4 : Nat) (A4 : Option Addr) (a : Int) (xs zs : List Value) (N N2 : Int) (hh : Bool) (i : Nat) (v : Value) (w1 w2 : World)
    (h : PhiBack A1 n1 c1 g5 bx q c5 A5 c4 A4 a zs N N2 hh i v w1) (hr : RK 60 2 bx q c5 (q + q) A5 xs zs w1 w2) : PhiBack A1 n1 c1 g5 bx q c5 A5 c4 A4 a zs N N2 hh i v w2 := by
  by_cases h4 : i = 18
  · subst h4
    obtain ⟨A', c', e, hA⟩ := h
    exact ⟨A', c', e, hA.stab hr⟩
  · unfold PhiBack at h ⊢
    split <;> simp_all

set_option maxRecDepth 100000 in
set_option maxHeartbeats 12000000 in
theorem walk (w : World) (A : Option Addr) (n c : Nat) (la : List Int) (w0 : Row w .i64 A n c la) (B : Option Addr) (m d : Nat) (ps : List (Int × Int)) (w1 : MatchesOf w B m d ps) (a b : Int) (w2 : (Lit.int .i64 a).wf = true ∧ (Lit.int .u64 b).wf = true) :
    Calls Try.prog 9 #[.agg #[.slice A n c], .slice B m d, .agg #[.int .i64 a, .int .u64 b]] w fun e w' => e = .returned (.bool true) ∧ Below w.heap.size w w' := by
  have hd : d ≤ maxLen := w1.small
  have hmd := w1.nc
  unfold maxLen at hd
  have HB := Lib.hid ((((Below.refl _ w).alloc (Nat.le_refl _) (.cells #[.slice A n c] 27)).alloc (by simp) (.cells #[.slice B m d] 51)).alloc (by simp; omega) (.cells #[.int .i64 a, .int .u64 b] 60))
  have k3 := ((Blk.new w 27 #[.slice A n c]).alloc (.cells #[.slice B m d] 51)).alloc (.cells #[.int .i64 a, .int .u64 b] 60)
  have k4 := (Blk.new (w.alloc (.cells #[.slice A n c] 27)) 51 #[.slice B m d]).alloc (.cells #[.int .i64 a, .int .u64 b] 60)
  have k5 := Blk.new ((w.alloc (.cells #[.slice A n c] 27)).alloc (.cells #[.slice B m d] 51)) 60 #[.int .i64 a, .int .u64 b]
  simp only [World.size_alloc] at k4 k5
  have s0 := ((w0.sees.alloc (.cells #[.slice A n c] 27)).alloc (.cells #[.slice B m d] 51)).alloc (.cells #[.int .i64 a, .int .u64 b] 60)
  go_enter Try.func9, Try.ntmps9
  have c_k3 := k3.cell 0
  simp at c_k3
  have f_k3 := k3.frozen 0
  have c_k4 := k4.cell 0
  simp at c_k4
  have f_k4 := k4.frozen 0
  have c_k5 := k5.cell 0
  simp at c_k5
  have f_k5 := k5.frozen 0
  go_wp2_with fail
  clear c_k3 f_k3 c_k4 f_k4 c_k5 f_k5
  refine (wakes_any _).mono ?_
  rintro e x1 ⟨rfl, hb1⟩
  replace HB := Lib.hid (HB.out.trans (hb1.mono HB.out.size))
  replace k3 := k3.below hb1
  replace k4 := k4.below hb1
  replace k5 := k5.below hb1
  replace s0 := s0.below hb1
  clear hb1
  have c_k3 := k3.cell 0
  simp at c_k3
  have f_k3 := k3.frozen 0
  have c_k4 := k4.cell 0
  simp at c_k4
  have f_k4 := k4.frozen 0
  have c_k5 := k5.cell 0
  simp at c_k5
  have f_k5 := k5.frozen 0
  go_wp2_with fail
  clear c_k3 f_k3 c_k4 f_k4 c_k5 f_k5
  refine (few_any A n c la _ s0 w0.nc w0.small).mono ?_
  rintro e x2 ⟨A1, n1, c1, rfl, hn1, ho1, hb2⟩
  replace HB := Lib.hid (HB.out.trans (hb2.mono HB.out.size))
  replace k3 := k3.below hb2
  replace k4 := k4.below hb2
  replace k5 := k5.below hb2
  replace s0 := s0.below hb2
  have s1 := Sees.of_own ho1
  clear ho1 hb2 s0
  obtain ⟨L, hL⟩ : ∃ L, L = la.take 30 := ⟨_, rfl⟩
  rw [← hL] at s1
  clear hL
  have c_k3 := k3.cell 0
  simp at c_k3
  have f_k3 := k3.frozen 0
  go_upto_region 4 with fail
  clear c_k3 f_k3
  have apart_of := k3
  replace HB := Lib.hid (HB.out.setCell (p := ⟨w.heap.size, 0, none⟩) (Nat.le_refl _) (.slice A1 n1 c1))
  replace k4 := k4.far (p := ⟨w.heap.size, 0, none⟩) (by first | (simp; done) | (simp; omega)) (.slice A1 n1 c1)
  replace k5 := k5.far (p := ⟨w.heap.size, 0, none⟩) (by first | (simp; done) | (simp; omega)) (.slice A1 n1 c1)
  replace s1 := s1.far (p := ⟨w.heap.size, 0, none⟩) (apart_of.apart s1 (by decide)) (.slice A1 n1 c1)
  replace k3 := k3.put 0 (.slice A1 n1 c1)
  clear apart_of
  obtain ⟨wq, hwq⟩ : ∃ wq, (x2.setCell ⟨w.heap.size, 0, none⟩ (.slice A1 n1 c1)) = wq := ⟨_, rfl⟩
  rw [hwq] at HB k3 k4 k5 s1
  simp only [hwq]
  clear hwq
  have sp := w1.sees.below HB.out
  have HPL := Lib.hid (pm_len ps)
  have hpl := sp.1
  obtain ⟨P, hP⟩ : ∃ P, P = ps.take 60 := ⟨_, rfl⟩
  have HP := Lib.hid hP
  clear hP
  obtain ⟨bx, hbx⟩ : ∃ bx, wq.heap.size = bx := ⟨_, rfl⟩
  have HX := Lib.hid hbx
  have hk5 := k5.lt
  have hA1 : ∀ ad, A1 = some ad → 0 < n1 → ad.block < bx := fun ad e h => by rw [← hbx]; exact s1.lt h e
  have h3x : w.heap.size + 2 < bx := by rw [← hbx]; exact hk5
  clear hbx hk5
  go_cut [] from 15 to 21 (fun wx => ∃ (A4 : Option Addr) (q c4 : Nat), q ≤ 60 ∧ bx ≤ wx.heap.size ∧ wx.ownsRow bx 60 2 (.slice A4 q c4) q (pm P) ∧ Blk wx w.heap.size 27 #[.slice A1 n1 c1] ∧ Blk wx (w.heap.size + 1) 51 #[.slice A4 q c4] ∧ Blk wx (w.heap.size + 1 + 1) 60 #[.int .i64 a, .int .u64 b] ∧ Sees wx (some 3) 1 A1 n1 (ib .i64 L) ∧ Below w.heap.size w wx)
  case first =>
    by_cases h6 : 60 < m
    · have sR := sp.take (k := 60) (by omega)
      rw [pm_take, show ps.take 60 = P from HP.out.symm] at sR
      have c4 := (k4.alloc (.cells #[] 60)).cell 0
      simp at c4
      have f4 := k4.frozen 0
      go_wp2_with (at_builtin; refine Door.enter ?_)
      refine Door.leave (wl_append ty_match (base := bx) (World.ownsRow_lit wq #[] 0 (by have := HX.out; omega) (by simp [maxLen]) (by simp)) (sR.alloc _) (Nat.zero_add _) (List.nil_append _) (pm_one _) (by omega) (by simp; have := HX.out; omega) rfl rfl rfl rfl ?_)
      intro A4 c4v w4 ho4 hb4 _ _
      have hb := ((Below.refl bx wq).alloc (by have := HX.out; omega) _).trans hb4
      replace k3 := k3.low hb (by omega)
      replace k4 := k4.low hb (by omega)
      replace k5 := k5.low hb (by omega)
      replace s1 := s1.low hb hA1
      replace HB := Lib.hid (HB.out.trans (hb.mono (by omega)))
      have hsz : bx ≤ w4.heap.size := by have := hb.size; have := HX.out; omega
      clear c4 f4 hb hb4 sp sR
      have HX4 := Lib.hid hsz
      clear hsz
      have c4 := k4.cell 0
      simp at c4
      have f4 := k4.frozen 0
      go_wp2_with fail
      go_meet
      have hap : ∀ ad, A4 = some ad → ad.block ≠ w.heap.size + 1 := fun ad e => by have := (ho4.lt ad.block (by rw [e]; rfl)).1; omega
      refine ⟨A4, 60, c4v, by omega, by simpa using HX4.out, own_grown1 ho4 (grown_set _ _ 0 _) hap, k3.far (by simp) _, k4.put 0 _, k5.far (by simp) _, s1.far (k4.apart s1 (by decide)) _, HB.out.setCell (by simp) _⟩
    · have sR := sp.take (k := m) (by omega)
      rw [pm_take, show ps.take m = P from (by rw [HP.out, List.take_of_length_le (by have := HPL.out; omega), List.take_of_length_le (by have := HPL.out; omega)])] at sR
      have c4 := (k4.alloc (.cells #[] 60)).cell 0
      simp at c4
      have f4 := k4.frozen 0
      go_wp2_with (at_builtin; refine Door.enter ?_)
      refine Door.leave (wl_append ty_match (base := bx) (World.ownsRow_lit wq #[] 0 (by have := HX.out; omega) (by simp [maxLen]) (by simp)) (sR.alloc _) (Nat.zero_add _) (List.nil_append _) (pm_one _) (by omega) (by simp; have := HX.out; omega) rfl rfl rfl rfl ?_)
      intro A4 c4v w4 ho4 hb4 _ _
      have hb := ((Below.refl bx wq).alloc (by have := HX.out; omega) _).trans hb4
      replace k3 := k3.low hb (by omega)
      replace k4 := k4.low hb (by omega)
      replace k5 := k5.low hb (by omega)
      replace s1 := s1.low hb hA1
      replace HB := Lib.hid (HB.out.trans (hb.mono (by omega)))
      have hsz : bx ≤ w4.heap.size := by have := hb.size; have := HX.out; omega
      clear c4 f4 hb hb4 sp sR
      have HX4 := Lib.hid hsz
      clear hsz
      have c4 := k4.cell 0
      simp at c4
      have f4 := k4.frozen 0
      go_wp2_with fail
      go_meet
      have hap : ∀ ad, A4 = some ad → ad.block ≠ w.heap.size + 1 := fun ad e => by have := (ho4.lt ad.block (by rw [e]; rfl)).1; omega
      refine ⟨A4, m, c4v, by omega, by simpa using HX4.out, own_grown1 ho4 (grown_set _ _ 0 _) hap, k3.far (by simp) _, k4.put 0 _, k5.far (by simp) _, s1.far (k4.apart s1 (by decide)) _, HB.out.setCell (by simp) _⟩
  case rest =>
    clear k3 k4 k5 s1 sp HB HX hpl
    obtain ⟨A4, q, c4, hq, hbs, ho, k3, k4, k5, s1, hB⟩ := hcut
    have HB := Lib.hid hB
    have HBS := Lib.hid hbs
    clear hB hbs
    have c_k3 := k3.cell 0
    simp at c_k3
    have f_k3 := k3.frozen 0
    have c_k4 := k4.cell 0
    simp at c_k4
    have f_k4 := k4.frozen 0
    have c_k5 := k5.cell 0
    simp at c_k5
    have f_k5 := k5.frozen 0
    go_wp2_with fail
    clear c_k3 f_k3 c_k4 f_k4 c_k5 f_k5
    refine (agreed_any A1 n1 c1 L A4 q c4 P _ s1 (by omega) (Sees.of_own ho) (by omega)).mono ?_
    rintro e x3 ⟨rfl, hb3⟩
    replace HBS := Lib.hid (Nat.le_trans HBS.out hb3.size)
    replace HB := Lib.hid (HB.out.trans (hb3.mono HB.out.size))
    replace k3 := k3.below hb3
    replace k4 := k4.below hb3
    replace k5 := k5.below hb3
    replace s1 := s1.below hb3
    replace ho := own_below ho hb3
    clear hb3
    have HA := Lib.hid (agreed_law L P)
    cases hr : rightB L with
    | true =>
      have HR := Lib.hid hr
      have HE := Lib.hid (askE_right hr)
      clear hr
      rw [show agreedN (askX L) P = ragN L P L from by rw [HA.out, HR.out]; simp]
      obtain ⟨N, hN⟩ : ∃ N, N = ragN L P L := ⟨_, rfl⟩
      have HN := Lib.hid hN
      rw [← hN]
      clear hN
      have c_k3 := k3.cell 0
      simp at c_k3
      have f_k3 := k3.frozen 0
      have c_k4 := k4.cell 0
      simp at c_k4
      have f_k4 := k4.frozen 0
      have c_k5 := k5.cell 0
      simp at c_k5
      have f_k5 := k5.frozen 0
      go_wp2_with fail
      clear c_k3 f_k3 c_k4 f_k4 c_k5 f_k5
      refine (check_any A1 n1 c1 L _ s1 (by omega)).mono ?_
      rintro e x4 ⟨rfl, hb4⟩
      rw [HE.out]
      replace HBS := Lib.hid (Nat.le_trans HBS.out hb4.size)
      replace HB := Lib.hid (HB.out.trans (hb4.mono HB.out.size))
      replace k3 := k3.below hb4
      replace k4 := k4.below hb4
      replace k5 := k5.below hb4
      replace s1 := s1.below hb4
      replace ho := own_below ho hb4
      clear hb4
      have HM1 : Hid (0 < N → moreB (askX L) (ofS (farS P N)) = true) := by
        unfold Hid
        intro h0
        rw [majority_law, HR.out, far_maj _ _ _ h0, Bool.true_and]
        exact (majV_iff _ _ _ h0).2 (by rw [HN.out]; exact Int.le_refl _)
      have HN0 : Hid (0 ≤ N) := by unfold Hid; rw [HN.out]; exact ragN_nonneg _ _
      have HM2 : Hid (moreB (askX L) (ofS (farS P (N + 1))) = false) := by
        have h0 := HN0.out
        unfold Hid
        rw [majority_law, HR.out, far_maj _ _ _ (by omega), Bool.true_and]
        cases h : majV L P (N + 1) with
        | false => rfl
        | true => have := (majV_iff _ _ _ (by omega)).1 h; have := HN.out; omega
      obtain ⟨b1, hb1⟩ : ∃ b1, b1 = decide (0 < N) := ⟨_, rfl⟩
      have HB1 := Lib.hid hb1
      clear hb1
      obtain ⟨b2, hb2⟩ : ∃ b2, b2 = decide (N < 18446744073709551615) := ⟨_, rfl⟩
      have HB2 := Lib.hid hb2
      clear hb2
      go_upto_region 9 with fail
      refine wp_region_par_all 22 [31, 32, 33, 34, 35, 36, 37, 38, 39, 40, 41, 42, 43, 44, 45, 46, 47, 48, 49, 50, 51, 52] (fun _ => false) (PhiFar A1 n1 c1 (.func (Fn.func 36) #[] #[.pointer (some ⟨w.heap.size + 1, 0, none⟩)]) P N b1 b2) (by kernel_rfl) (by kernel_rfl) (phiFar_stab _ _ _ _ _ _ _ _) ?steps ?fin
      case steps =>
        simp only [StepsPar]
        refine ⟨?_, ?_, ?_, ?_, ?_, ?_, ?_, ?_, ?_, ?_, ?_, ?_, ?_, ?_, ?_, ?_, ?_, ?_, ?_, ?_, ?_, ?_, trivial⟩
        all_goals
          intro x w1x hb hd K hK
          simp only [frameOf, slots, Act.put, List.setIfInBounds_toArray, List.set_cons_zero, List.set_cons_succ] at hK ⊢
        · go_simp
          exact hK _ _ (rfl) (Below.refl _ _) (fun h => absurd h (by decide))
        · have e0 : x 0 = .int .u64 N := hd ⟨0, .data⟩ (by simp) rfl
          simp only [e0] at hK ⊢
          go_simp
          exact hK _ _ (by simp [PhiFar, HB1.out]) (Below.refl _ _) (fun h => absurd h (by decide))
        · have e1 : x 1 = .bool b1 := hd ⟨1, .data⟩ (by simp) rfl
          simp only [e1] at hK ⊢
          go_simp
          exact hK _ _ (rfl) (Below.refl _ _) (fun h => absurd h (by decide))
        · have dg := hd ⟨2, .guard⟩ (by simp) rfl
          simp only [PhiFar] at dg
          simp only [dg] at hK ⊢
          cases b1 with
          | false =>
            go_simp
            exact hK _ _ (fun h => absurd h (by decide)) (Below.refl _ _) (fun h => absurd h (by decide))
          | true =>
            have c3 := (k3.below hb).cell 0
            simp at c3
            go_simp
            exact hK _ _ (fun _ => rfl) (Below.refl _ _) (fun h => absurd h (by decide))
        · have dg := hd ⟨2, .guard⟩ (by simp) rfl
          simp only [PhiFar] at dg
          simp only [dg] at hK ⊢
          cases b1 with
          | false =>
            go_simp
            exact hK _ _ (fun h => absurd h (by decide)) (Below.refl _ _) (fun h => absurd h (by decide))
          | true =>
            go_simp
            exact hK _ _ (fun _ => rfl) (Below.refl _ _) (fun h => absurd h (by decide))
        · have dg := hd ⟨2, .guard⟩ (by simp) rfl
          simp only [PhiFar] at dg
          simp only [dg] at hK ⊢
          cases b1 with
          | false =>
            go_simp
            exact hK _ _ (fun h => absurd h (by decide)) (Below.refl _ _) (fun h => absurd h (by decide))
          | true =>
            go_simp
            exact hK _ _ (fun _ => rfl) (Below.refl _ _) (fun h => absurd h (by decide))
        · have dg := hd ⟨2, .guard⟩ (by simp) rfl
          simp only [PhiFar] at dg
          simp only [dg] at hK ⊢
          cases b1 with
          | false =>
            go_simp
            exact hK _ _ (fun h => absurd h (by decide)) (Below.refl _ _) (fun h => absurd h (by decide))
          | true =>
            have e4 : x 4 = .func (Fn.func 36) #[] #[.pointer (some ⟨w.heap.size + 1, 0, none⟩)] := hd ⟨4, .data⟩ (by simp) rfl rfl
            have e5 : x 5 = .int .u64 N := hd ⟨5, .data⟩ (by simp) rfl rfl
            simp only [e4, e5] at hK ⊢
            go_simp
            refine (far_any (w.heap.size + 1) A4 q c4 P (N) w1x (by have := (k4.below hb).cell 0; simpa using this) ((Sees.of_own ho).below hb) (by omega)).mono ?_
            rintro e w2x ⟨A2, n2, c2, rfl, hn2, ho2, hb2⟩
            exact hK _ _ (fun _ => ⟨A2, n2, c2, rfl, by omega, Sees.of_own ho2⟩) hb2 (fun h => absurd h (by decide))
        · have dg := hd ⟨2, .guard⟩ (by simp) rfl
          simp only [PhiFar] at dg
          simp only [dg] at hK ⊢
          cases b1 with
          | false =>
            go_simp
            exact hK _ _ (fun h => absurd h (by decide)) (Below.refl _ _) (fun h => absurd h (by decide))
          | true =>
            have e3 : x 3 = cf A1 n1 c1 := hd ⟨3, .data⟩ (by simp) rfl rfl
            obtain ⟨A6x, n6x, c6x, e6, h6x, s6x⟩ := hd ⟨6, .data⟩ (by simp) rfl rfl
            simp only [e3, e6] at hK ⊢
            go_simp
            refine (majority_any A1 A6x n1 c1 n6x c6x L _ w1x (s1.below hb) s6x (by omega) (by omega)).mono ?_
            rw [HM1.out (by have := HB1.out; simpa using this)]
            rintro e w2x ⟨rfl, hb2⟩
            exact hK _ _ (fun _ => rfl) hb2 (fun h => absurd h (by decide))
        · have dg := hd ⟨2, .guard⟩ (by simp) rfl
          simp only [PhiFar] at dg
          simp only [dg] at hK ⊢
          cases b1 with
          | false =>
            go_simp
            exact hK _ _ (fun h => absurd h (by decide)) (Below.refl _ _) (fun h => absurd h (by decide))
          | true =>
            have e7 : x 7 = .bool true := hd ⟨7, .data⟩ (by simp) rfl rfl
            simp only [e7] at hK ⊢
            go_simp
            exact hK _ _ (fun _ => rfl) (Below.refl _ _) (fun h => absurd h (by decide))
        · have e2 : x 2 = .bool b1 := hd ⟨2, .data⟩ (by simp) rfl
          simp only [e2] at hK ⊢
          cases b1 with
          | false =>
            go_simp
            exact hK _ _ rfl (Below.refl _ _) (fun h => absurd h (by decide))
          | true =>
            have e8 : x 8 = .bool false := hd ⟨8, .data⟩ (by simp) rfl rfl
            simp only [e8] at hK ⊢
            go_simp
            exact hK _ _ rfl (Below.refl _ _) (fun h => absurd h (by decide))
        · have e9 : x 9 = .bool false := hd ⟨9, .data⟩ (by simp) rfl
          simp only [e9] at hK ⊢
          go_simp
          exact hK _ _ (rfl) (Below.refl _ _) (fun h => absurd h (by decide))
        · have e10 : x 10 = .bool false := hd ⟨10, .guard⟩ (by simp) rfl
          simp only [e10] at hK ⊢
          go_simp
          exact hK _ _ (rfl) (Below.refl _ _) (fun h => absurd h (by decide))
        · have e10 : x 10 = .bool false := hd ⟨10, .guard⟩ (by simp) rfl
          have e11 : x 11 = .int .u64 N := hd ⟨11, .data⟩ (by simp) rfl
          simp only [e10, e11] at hK ⊢
          go_simp
          exact hK _ _ (by simp [PhiFar, HB2.out]) (Below.refl _ _) (fun h => absurd h (by decide))
        · have e10 : x 10 = .bool false := hd ⟨10, .guard⟩ (by simp) rfl
          have e12 : x 12 = .bool b2 := hd ⟨12, .data⟩ (by simp) rfl
          simp only [e10, e12] at hK ⊢
          go_simp
          exact hK _ _ (rfl) (Below.refl _ _) (fun h => absurd h (by decide))
        · have dg := hd ⟨13, .guard⟩ (by simp) rfl
          simp only [PhiFar] at dg
          simp only [dg] at hK ⊢
          cases b2 with
          | false =>
            go_simp
            exact hK _ _ (fun h => absurd h (by decide)) (Below.refl _ _) (fun h => absurd h (by decide))
          | true =>
            have c3 := (k3.below hb).cell 0
            simp at c3
            go_simp
            exact hK _ _ (fun _ => rfl) (Below.refl _ _) (fun h => absurd h (by decide))
        · have dg := hd ⟨13, .guard⟩ (by simp) rfl
          simp only [PhiFar] at dg
          simp only [dg] at hK ⊢
          cases b2 with
          | false =>
            go_simp
            exact hK _ _ (fun h => absurd h (by decide)) (Below.refl _ _) (fun h => absurd h (by decide))
          | true =>
            go_simp
            exact hK _ _ (fun _ => rfl) (Below.refl _ _) (fun h => absurd h (by decide))
        · have dg := hd ⟨13, .guard⟩ (by simp) rfl
          simp only [PhiFar] at dg
          simp only [dg] at hK ⊢
          cases b2 with
          | false =>
            go_simp
            exact hK _ _ (fun h => absurd h (by decide)) (Below.refl _ _) (fun h => absurd h (by decide))
          | true =>
            go_simp
            exact hK _ _ (fun _ => rfl) (Below.refl _ _) (fun h => absurd h (by decide))
        · have dg := hd ⟨13, .guard⟩ (by simp) rfl
          simp only [PhiFar] at dg
          simp only [dg] at hK ⊢
          cases b2 with
          | false =>
            go_simp
            exact hK _ _ (fun h => absurd h (by decide)) (Below.refl _ _) (fun h => absurd h (by decide))
          | true =>
            have e16 : x 16 = .int .u64 N := hd ⟨16, .data⟩ (by simp) rfl rfl
            simp only [e16] at hK ⊢
            have hw : N < 18446744073709551615 := by have := HB2.out; simpa using this
            have hw0 := HN0.out
            go_simp
            exact hK _ _ (fun _ => congrArg (Value.int .u64) (by simp [IntKind.wrap, IntKind.bits, IntKind.signed]; omega)) (Below.refl _ _) (fun h => absurd h (by decide))
        · have dg := hd ⟨13, .guard⟩ (by simp) rfl
          simp only [PhiFar] at dg
          simp only [dg] at hK ⊢
          cases b2 with
          | false =>
            go_simp
            exact hK _ _ (fun h => absurd h (by decide)) (Below.refl _ _) (fun h => absurd h (by decide))
          | true =>
            have e15 : x 15 = .func (Fn.func 36) #[] #[.pointer (some ⟨w.heap.size + 1, 0, none⟩)] := hd ⟨15, .data⟩ (by simp) rfl rfl
            have e17 : x 17 = .int .u64 (N + 1) := hd ⟨17, .data⟩ (by simp) rfl rfl
            simp only [e15, e17] at hK ⊢
            go_simp
            refine (far_any (w.heap.size + 1) A4 q c4 P (N + 1) w1x (by have := (k4.below hb).cell 0; simpa using this) ((Sees.of_own ho).below hb) (by omega)).mono ?_
            rintro e w2x ⟨A2, n2, c2, rfl, hn2, ho2, hb2⟩
            exact hK _ _ (fun _ => ⟨A2, n2, c2, rfl, by omega, Sees.of_own ho2⟩) hb2 (fun h => absurd h (by decide))
        · have dg := hd ⟨13, .guard⟩ (by simp) rfl
          simp only [PhiFar] at dg
          simp only [dg] at hK ⊢
          cases b2 with
          | false =>
            go_simp
            exact hK _ _ (fun h => absurd h (by decide)) (Below.refl _ _) (fun h => absurd h (by decide))
          | true =>
            have e14 : x 14 = cf A1 n1 c1 := hd ⟨14, .data⟩ (by simp) rfl rfl
            obtain ⟨A18x, n18x, c18x, e18, h18x, s18x⟩ := hd ⟨18, .data⟩ (by simp) rfl rfl
            simp only [e14, e18] at hK ⊢
            go_simp
            refine (majority_any A1 A18x n1 c1 n18x c18x L _ w1x (s1.below hb) s18x (by omega) (by omega)).mono ?_
            rw [HM2.out]
            rintro e w2x ⟨rfl, hb2⟩
            exact hK _ _ (fun _ => rfl) hb2 (fun h => absurd h (by decide))
        · have e10 : x 10 = .bool false := hd ⟨10, .guard⟩ (by simp) rfl
          have e13 : x 13 = .bool b2 := hd ⟨13, .data⟩ (by simp) rfl
          simp only [e10, e13] at hK ⊢
          cases b2 with
          | false =>
            go_simp
            exact hK _ _ rfl (Below.refl _ _) (fun h => absurd h (by decide))
          | true =>
            have e19 : x 19 = .bool false := hd ⟨19, .data⟩ (by simp) rfl rfl
            simp only [e19] at hK ⊢
            go_simp
            exact hK _ _ rfl (Below.refl _ _) (fun h => absurd h (by decide))
        · have e10 : x 10 = .bool false := hd ⟨10, .data⟩ (by simp) rfl
          have e20 : x 20 = .bool false := hd ⟨20, .data⟩ (by simp) rfl
          simp only [e10, e20] at hK ⊢
          go_simp
          exact hK _ _ (rfl) (Below.refl _ _) (fun h => absurd h (by decide))
      case fin =>
        intro x wg hb hx _
        have e21 : x 21 = .bool false := hx 21 (by omega)
        simp only [frameOf, slots, Act.put, List.setIfInBounds_toArray, List.set_cons_zero, List.set_cons_succ, e21]
        clear hx e21
        replace HB := Lib.hid (HB.out.trans (hb.mono HB.out.size))
        replace k3 := k3.below hb
        replace k4 := k4.below hb
        replace k5 := k5.below hb
        replace s1 := s1.below hb
        replace ho := own_below ho hb
        replace HBS := Lib.hid (Nat.le_trans HBS.out hb.size)
        clear hb
        obtain ⟨N2, hN2⟩ : ∃ N2, N2 = agreedN (askX L) (P ++ [(a, b)]) := ⟨_, rfl⟩
        have HN2 := Lib.hid hN2
        clear hN2
        go_upto_region 11 with fail
        refine wp_region_parR_all (R := RK 60 2 bx q c4 (q + 1) A4 (pm P) (pm (P ++ [(a, b)]))) 7 [53, 54, 55, 56, 57, 58, 9] (fun _ => false) (PhiMore A1 n1 c1 bx q c4 A4 a b (pm (P ++ [(a, b)])) N2) RK.drew (fun _ _ _ => RK.trans) (fun _ _ => RK.size) (by kernel_rfl) (by kernel_rfl) (phiMore_stab _ _ _ _ _ _ _ _ _ _ _ _) ?steps ?fin
        case steps =>
          simp only [StepsParR]
          refine ⟨?_, ?_, ?_, ?_, ?_, ?_, ?_, trivial⟩
          all_goals
            intro x w1x hb hd K hK
            have hB := RK.low ho HBS.out hb
            have hbs := Nat.le_trans HBS.out hb.size
            have HBX := Lib.hid hbs
            clear hbs
            simp only [frameOf, slots, Act.put, List.setIfInBounds_toArray, List.set_cons_zero, List.set_cons_succ] at hK ⊢
          · have c3 := (k3.low hB (by omega)).cell 0
            simp at c3
            go_simp
            exact hK _ _ (rfl) (RK.below (Below.refl _ _)) (fun h => absurd h (by decide))
          · have c3 := (k4.low hB (by omega)).cell 0
            simp at c3
            go_simp
            exact hK _ _ (rfl) (RK.below (Below.refl _ _)) (fun h => absurd h (by decide))
          · have c3 := (k5.low hB (by omega)).cell 0
            have c31 := (k5.low hB (by omega)).cell 1
            simp at c3 c31
            go_simp
            exact hK _ _ (rfl) (RK.below (Below.refl _ _)) (fun h => absurd h (by decide))
          · have e2 : x 2 = .agg #[.int .i64 a, .int .u64 b] := hd ⟨2, .data⟩ (by simp) rfl
            simp only [e2] at hK ⊢
            go_simp
            exact hK _ _ ⟨_, rfl, Blk.new _ _ _, fun e => by have := ((hb.2.1 ho).lt _ e).2; omega⟩ (RK.below ((Below.refl _ _).alloc (Nat.le_refl _) _)) (fun h => absurd h (by decide))
          · have e1 : x 1 = .slice A4 q c4 := hd ⟨1, .data⟩ (by simp) rfl
            have d3 := hd ⟨3, .data⟩ (by simp) rfl
            simp only [e1] at hK ⊢
            obtain ⟨g, e3, kg, hne⟩ := d3
            simp only [e3] at hK ⊢
            rw [if_pos (by rfl)]
            refine wp_append_rk ty_match (hb.2.1 ho) (ys := pm [(a, b)]) (m := 1) (kg.seesN rfl) (pm_one _) rfl (pm_append _ _) (by omega) HBX.out rfl rfl rfl ?_
            intro A2 c2 w2x h2 hr2
            exact hK _ _ ⟨A2, c2, rfl, h2⟩ hr2 (fun h => absurd h (by decide))
          · have e0 : x 0 = cf A1 n1 c1 := hd ⟨0, .data⟩ (by simp) rfl
            have d4 := hd ⟨4, .data⟩ (by simp) rfl
            simp only [e0] at hK ⊢
            obtain ⟨A2, c2, e4, h2⟩ := d4
            simp only [e4] at hK ⊢
            go_simp
            refine (agreed_any A1 n1 c1 L A2 (q + 1) c2 (P ++ [(a, b)]) w1x (s1.low hB hA1) (by omega) h2.sees (by omega)).mono ?_
            rw [← HN2.out]
            rintro e w2x ⟨rfl, hb2⟩
            exact hK _ _ rfl (RK.below hb2) (fun h => absurd h (by decide))
          · have e5 : x 5 = .int .u64 N2 := hd ⟨5, .data⟩ (by simp) rfl
            simp only [e5] at hK ⊢
            go_simp
            exact hK _ _ (rfl) (RK.below (Below.refl _ _)) (fun h => absurd h (by decide))
        case fin =>
          intro x wg hb hx _
          have e6 : x 6 = .int .u64 N2 := hx 6 (by omega)
          simp only [frameOf, slots, Act.put, List.setIfInBounds_toArray, List.set_cons_zero, List.set_cons_succ, e6]
          clear hx e6
          have hB := RK.low ho HBS.out hb
          replace HBS := Lib.hid (Nat.le_trans HBS.out hb.size)
          replace ho := hb.2.1 ho
          replace k3 := k3.low hB (by omega)
          replace k4 := k4.low hB (by omega)
          replace k5 := k5.low hB (by omega)
          replace s1 := s1.low hB hA1
          replace HB := Lib.hid (HB.out.trans (hB.mono (by omega)))
          clear hb hB
          have c_k3 := k3.cell 0
          simp at c_k3
          have f_k3 := k3.frozen 0
          have c_k4 := k4.cell 0
          simp at c_k4
          have f_k4 := k4.frozen 0
          have c_k5 := k5.cell 0
          simp at c_k5
          have f_k5 := k5.frozen 0
          go_wp2_with fail
          clear c_k3 f_k3 c_k4 f_k4 c_k5 f_k5
          obtain ⟨bz, hbz⟩ : ∃ bz, wg.heap.size = bz := ⟨_, rfl⟩
          have hA1z : ∀ ad, A1 = some ad → 0 < n1 → ad.block < bz := fun ad e h => by rw [← hbz]; exact s1.lt h e
          have h5z : w.heap.size + 1 + 1 < bz := by rw [← hbz]; exact k5.lt
          have h4z : ∀ g, Value.ownBlock (.slice A4 q c4) = some g → g < bz := fun g e => by rw [← hbz]; exact (ho.lt g e).2
          refine (clone_any A4 q c4 P _ (Sees.of_own ho) (by omega)).mono ?_
          rintro e x5 ⟨A5, c5, rfl, ho5, hb5⟩
          have HZ : Hid (bz ≤ x5.heap.size) := by unfold Hid; rw [← hbz]; exact hb5.size
          rw [hbz] at ho5
          clear hbz
          replace HB := Lib.hid (HB.out.trans (hb5.mono HB.out.size))
          replace k3 := k3.below hb5
          replace k4 := k4.below hb5
          replace k5 := k5.below hb5
          replace s1 := s1.below hb5
          replace ho := own_below ho hb5
          clear hb5
          clear HBS
          have c_k3 := k3.cell 0
          simp at c_k3
          have f_k3 := k3.frozen 0
          have c_k4 := k4.cell 0
          simp at c_k4
          have f_k4 := k4.frozen 0
          have c_k5 := k5.cell 0
          simp at c_k5
          have f_k5 := k5.frozen 0
          go_wp2_with fail
          clear c_k3 f_k3 c_k4 f_k4 c_k5 f_k5
          refine (reverse_any bz A5 q c5 P _ ho5 (by omega)).mono ?_
          rintro e x6 ⟨rfl, ho6, hg6⟩
          have hB := below_of_grown ho5 hg6 HZ.out
          replace HZ := Lib.hid (Nat.le_trans HZ.out hB.size)
          replace k3 := k3.low hB (by omega)
          replace k4 := k4.low hB (by omega)
          replace k5 := k5.low hB (by omega)
          replace s1 := s1.low hB hA1z
          replace ho := own_lowB ho hB h4z
          replace HB := Lib.hid (HB.out.trans (hB.mono (by omega)))
          clear hB hg6 ho5
          have HG2 : Hid (N2 = ragN L (P ++ [(a, b)]) L) := by unfold Hid; rw [HN2.out, agreed_law, HR.out]; simp
          have HGE : Hid (N ≤ N2) := by unfold Hid; rw [HG2.out, HN.out]; exact ragN_more _ _ _
          obtain ⟨hh, hhh⟩ : ∃ hh, hh = hasB (askX L) a := ⟨_, rfl⟩
          have HH := Lib.hid hhh
          clear hhh
          have HEQ : Hid (hh = false → N2 = N) := by
            unfold Hid
            intro h0
            rw [HG2.out, HN.out]
            have h1 := HH.out
            rw [has_law, HR.out, h0] at h1
            exact ragN_other (by simpa using h1.symm)
          have HBK : Hid (agreedN (askX L) (P.reverse ++ P) = N) := by unfold Hid; rw [agreed_law, if_pos HR.out, HN.out]; exact ragN_back _ _
          go_upto_region 14 with fail
          refine wp_region_parR_all (R := RK 60 2 bz q c5 (q + q) A5 (pm P.reverse) (pm (P.reverse ++ P))) 24 [63, 64, 65, 66, 67, 68, 69, 70, 71, 72, 73, 74, 75, 76, 77, 78, 79, 80, 81, 82, 83, 84, 85, 6] (fun _ => false) (PhiBack A1 n1 c1 (w.heap.size + 1 + 1) bz q c5 A5 c4 A4 a (pm (P.reverse ++ P)) N N2 hh) RK.drew (fun _ _ _ => RK.trans) (fun _ _ => RK.size) (by kernel_rfl) (by kernel_rfl) (phiBack_stab _ _ _ _ _ _ _ _ _ _ _ _ _ _ _ _) ?steps ?fin
          case steps =>
            simp only [StepsParR]
            refine ⟨?_, ?_, ?_, ?_, ?_, ?_, ?_, ?_, ?_, ?_, ?_, ?_, ?_, ?_, ?_, ?_, ?_, ?_, ?_, ?_, ?_, ?_, ?_, ?_, trivial⟩
            all_goals
              intro x w1x hb hd K hK
              have hB := RK.low ho6 HZ.out hb
              have hbs := Nat.le_trans HZ.out hb.size
              have HBX := Lib.hid hbs
              clear hbs
              simp only [frameOf, slots, Act.put, List.setIfInBounds_toArray, List.set_cons_zero, List.set_cons_succ] at hK ⊢
            · go_simp
              exact hK _ _ (rfl) (RK.below (Below.refl _ _)) (fun h => absurd h (by decide))
            · go_simp
              exact hK _ _ (rfl) (RK.below (Below.refl _ _)) (fun h => absurd h (by decide))
            · have e0 : x 0 = .int .u64 N2 := hd ⟨0, .data⟩ (by simp) rfl
              have e1 : x 1 = .int .u64 N := hd ⟨1, .data⟩ (by simp) rfl
              simp only [e0, e1] at hK ⊢
              have hge := HGE.out
              go_simp
              exact hK _ _ (by simp [PhiBack]; try omega) (RK.below (Below.refl _ _)) (fun h => absurd h (by decide))
            · have e2 : x 2 = .bool true := hd ⟨2, .data⟩ (by simp) rfl
              simp only [e2] at hK ⊢
              go_simp
              exact hK _ _ (rfl) (RK.below (Below.refl _ _)) (fun h => absurd h (by decide))
            · have e3 : x 3 = .bool true := hd ⟨3, .guard⟩ (by simp) rfl
              simp only [e3] at hK ⊢
              have c3 := (k3.low hB (by omega)).cell 0
              simp at c3
              go_simp
              exact hK _ _ (rfl) (RK.below (Below.refl _ _)) (fun h => absurd h (by decide))
            · have e3 : x 3 = .bool true := hd ⟨3, .guard⟩ (by simp) rfl
              simp only [e3] at hK ⊢
              go_simp
              exact hK _ _ (rfl) (RK.below (Below.refl _ _)) (fun h => absurd h (by decide))
            · have e3 : x 3 = .bool true := hd ⟨3, .guard⟩ (by simp) rfl
              have e5 : x 5 = .pointer (some ⟨w.heap.size + 1 + 1, 0, none⟩) := hd ⟨5, .data⟩ (by simp) rfl
              simp only [e3, e5] at hK ⊢
              have c3 := (k5.low hB (by omega)).cell 0
              simp at c3
              go_simp
              exact hK _ _ (rfl) (RK.below (Below.refl _ _)) (fun h => absurd h (by decide))
            · have e3 : x 3 = .bool true := hd ⟨3, .guard⟩ (by simp) rfl
              have e4 : x 4 = cf A1 n1 c1 := hd ⟨4, .data⟩ (by simp) rfl
              have e6 : x 6 = .int .i64 a := hd ⟨6, .data⟩ (by simp) rfl
              simp only [e3, e4, e6] at hK ⊢
              go_simp
              refine (has'_any A1 n1 c1 L a w1x (s1.low hB hA1z) (by omega)).mono ?_
              rw [← HH.out]
              rintro e w2x ⟨rfl, hb2⟩
              exact hK _ _ rfl (RK.below hb2) (fun h => absurd h (by decide))
            · have e3 : x 3 = .bool true := hd ⟨3, .guard⟩ (by simp) rfl
              have e7 : x 7 = .bool hh := hd ⟨7, .data⟩ (by simp) rfl
              simp only [e3, e7] at hK ⊢
              go_simp
              exact hK _ _ (rfl) (RK.below (Below.refl _ _)) (fun h => absurd h (by decide))
            · have dg := hd ⟨8, .guard⟩ (by simp) rfl
              simp only [PhiBack] at dg
              simp only [dg] at hK ⊢
              cases hh with
              | true =>
                go_simp
                exact hK _ _ (fun h => absurd h (by decide)) (RK.below (Below.refl _ _)) (fun h => absurd h (by decide))
              | false =>
                go_simp
                exact hK _ _ (fun _ => rfl) (RK.below (Below.refl _ _)) (fun h => absurd h (by decide))
            · have dg := hd ⟨8, .guard⟩ (by simp) rfl
              simp only [PhiBack] at dg
              simp only [dg] at hK ⊢
              cases hh with
              | true =>
                go_simp
                exact hK _ _ (fun h => absurd h (by decide)) (RK.below (Below.refl _ _)) (fun h => absurd h (by decide))
              | false =>
                go_simp
                exact hK _ _ (fun _ => rfl) (RK.below (Below.refl _ _)) (fun h => absurd h (by decide))
            · have dg := hd ⟨8, .guard⟩ (by simp) rfl
              simp only [PhiBack] at dg
              simp only [dg] at hK ⊢
              cases hh with
              | true =>
                go_simp
                exact hK _ _ (fun h => absurd h (by decide)) (RK.below (Below.refl _ _)) (fun h => absurd h (by decide))
              | false =>
                have e9 : x 9 = .int .u64 N2 := hd ⟨9, .data⟩ (by simp) rfl rfl
                have e10 : x 10 = .int .u64 N := hd ⟨10, .data⟩ (by simp) rfl rfl
                simp only [e9, e10] at hK ⊢
                have heq := HEQ.out rfl
                subst heq
                go_simp
                first | exact hK _ _ (fun _ => rfl) (RK.below (Below.refl _ _)) (fun h => absurd h (by decide)) | exact hK _ _ (fun _ => by simp) (RK.below (Below.refl _ _)) (fun h => absurd h (by decide))
            · have e3 : x 3 = .bool true := hd ⟨3, .guard⟩ (by simp) rfl
              have e8 : x 8 = .bool hh := hd ⟨8, .data⟩ (by simp) rfl
              simp only [e3, e8] at hK ⊢
              cases hh with
              | true =>
                go_simp
                exact hK _ _ rfl (RK.below (Below.refl _ _)) (fun h => absurd h (by decide))
              | false =>
                have e11 : x 11 = .bool true := hd ⟨11, .data⟩ (by simp) rfl rfl
                simp only [e11] at hK ⊢
                go_simp
                exact hK _ _ rfl (RK.below (Below.refl _ _)) (fun h => absurd h (by decide))
            · have e3 : x 3 = .bool true := hd ⟨3, .data⟩ (by simp) rfl
              have e12 : x 12 = .bool true := hd ⟨12, .data⟩ (by simp) rfl
              simp only [e3, e12] at hK ⊢
              go_simp
              exact hK _ _ (rfl) (RK.below (Below.refl _ _)) (fun h => absurd h (by decide))
            · have e13 : x 13 = .bool true := hd ⟨13, .data⟩ (by simp) rfl
              simp only [e13] at hK ⊢
              go_simp
              exact hK _ _ (rfl) (RK.below (Below.refl _ _)) (fun h => absurd h (by decide))
            · have e14 : x 14 = .bool true := hd ⟨14, .guard⟩ (by simp) rfl
              simp only [e14] at hK ⊢
              have c3 := (k3.low hB (by omega)).cell 0
              simp at c3
              go_simp
              exact hK _ _ (rfl) (RK.below (Below.refl _ _)) (fun h => absurd h (by decide))
            · have e14 : x 14 = .bool true := hd ⟨14, .guard⟩ (by simp) rfl
              simp only [e14] at hK ⊢
              go_simp
              exact hK _ _ (rfl) (RK.below (Below.refl _ _)) (fun h => absurd h (by decide))
            · have e14 : x 14 = .bool true := hd ⟨14, .guard⟩ (by simp) rfl
              simp only [e14] at hK ⊢
              have c3 := (k4.low hB (by omega)).cell 0
              simp at c3
              go_simp
              exact hK _ _ (rfl) (RK.below (Below.refl _ _)) (fun h => absurd h (by decide))
            · have e14 : x 14 = .bool true := hd ⟨14, .guard⟩ (by simp) rfl
              have e16 : x 16 = .slice A5 q c5 := hd ⟨16, .data⟩ (by simp) rfl
              have e17 : x 17 = .slice A4 q c4 := hd ⟨17, .data⟩ (by simp) rfl
              simp only [e14, e16, e17] at hK ⊢
              rw [if_pos (by simp [Region.wanted, yielded])]
              refine wp_append_rk ty_match (hb.2.1 ho6) (Sees.of_own (own_lowB ho hB h4z)) (pm_one _) rfl (pm_append _ _) (by omega) HBX.out rfl rfl rfl ?_
              intro A2 c2 w2x h2 hr2
              exact hK _ _ ⟨A2, c2, rfl, h2⟩ hr2 (fun h => absurd h (by decide))
            · have e14 : x 14 = .bool true := hd ⟨14, .guard⟩ (by simp) rfl
              have e15 : x 15 = cf A1 n1 c1 := hd ⟨15, .data⟩ (by simp) rfl
              have d18 := hd ⟨18, .data⟩ (by simp) rfl
              simp only [e14, e15] at hK ⊢
              obtain ⟨A2, c2, e18, h2⟩ := d18
              simp only [e18] at hK ⊢
              go_simp
              refine (agreed_any A1 n1 c1 L A2 (q + q) c2 (P.reverse ++ P) w1x (s1.low hB hA1z) (by omega) h2.sees (by omega)).mono ?_
              rw [HBK.out]
              rintro e w2x ⟨rfl, hb2⟩
              exact hK _ _ rfl (RK.below hb2) (fun h => absurd h (by decide))
            · have e14 : x 14 = .bool true := hd ⟨14, .guard⟩ (by simp) rfl
              simp only [e14] at hK ⊢
              go_simp
              exact hK _ _ (rfl) (RK.below (Below.refl _ _)) (fun h => absurd h (by decide))
            · have e14 : x 14 = .bool true := hd ⟨14, .guard⟩ (by simp) rfl
              have e19 : x 19 = .int .u64 N := hd ⟨19, .data⟩ (by simp) rfl
              have e20 : x 20 = .int .u64 N := hd ⟨20, .data⟩ (by simp) rfl
              simp only [e14, e19, e20] at hK ⊢
              go_simp
              exact hK _ _ (by simp [PhiBack]) (RK.below (Below.refl _ _)) (fun h => absurd h (by decide))
            · have e14 : x 14 = .bool true := hd ⟨14, .data⟩ (by simp) rfl
              have e21 : x 21 = .bool true := hd ⟨21, .data⟩ (by simp) rfl
              simp only [e14, e21] at hK ⊢
              go_simp
              exact hK _ _ (rfl) (RK.below (Below.refl _ _)) (fun h => absurd h (by decide))
            · have e22 : x 22 = .bool true := hd ⟨22, .data⟩ (by simp) rfl
              simp only [e22] at hK ⊢
              go_simp
              exact hK _ _ (rfl) (RK.below (Below.refl _ _)) (fun h => absurd h (by decide))
          case fin =>
            intro x wl hb hx _
            have e23 : x 23 = .bool true := hx 23 (by omega)
            simp only [frameOf, slots, Act.put, List.setIfInBounds_toArray, List.set_cons_zero, List.set_cons_succ, e23]
            go_wp2
            go_ret
            exact ⟨rfl, HB.out.trans ((RK.low ho6 HZ.out hb).mono (by omega))⟩
    | false =>
      have HR := Lib.hid hr
      have HE := Lib.hid (askE_wrong hr)
      clear hr
      rw [show agreedN (askX L) P = 0 from by rw [HA.out, HR.out]; simp]
      have c_k3 := k3.cell 0
      simp at c_k3
      have f_k3 := k3.frozen 0
      have c_k4 := k4.cell 0
      simp at c_k4
      have f_k4 := k4.frozen 0
      have c_k5 := k5.cell 0
      simp at c_k5
      have f_k5 := k5.frozen 0
      go_wp2_with fail
      clear c_k3 f_k3 c_k4 f_k4 c_k5 f_k5
      refine (check_any A1 n1 c1 L _ s1 (by omega)).mono ?_
      rintro e x4 ⟨rfl, hb4⟩
      rw [HE.out]
      replace HB := Lib.hid (HB.out.trans (hb4.mono HB.out.size))
      replace k3 := k3.below hb4
      replace k4 := k4.below hb4
      replace k5 := k5.below hb4
      replace s1 := s1.below hb4
      replace ho := own_below ho hb4
      clear hb4
      go_wp2
      go_ret
      exact ⟨rfl, HB.out⟩
end Go.Proofs.Ytonfbinkjhbpiaa.confGrows

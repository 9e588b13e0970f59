/- The walk of ConfMay, which returns true. No condition. -/
import Derived.Test.YtonfbinkjhbpiaaRows
import Derived.Test.YtonfbinkjhbpiaaC12
import Derived.Test.YtonfbinkjhbpiaaRead2
import Derived.Test.YtonfbinkjhbpiaaPar
import Derived.Test.YtonfbinkjhbpiaaRead
import Derived.WalkKit
import Derived.BigQuiet
import Derived.Deep.QuietTactic
import Derived.Deep.RegionHeld3
import Derived.Deep.RegionWith
import Derived.Deep.CutRange
import Derived.Deep.CutBlock
import Derived.WalkLawsBesides
import Derived.Lib.Hide
namespace Go.Proofs.Ytonfbinkjhbpiaa.confMay
open Go.RowKit
set_option linter.unusedVariables false
set_option linter.unusedSimpArgs false


open Go.Proofs.Ytonfbinkjhbpiaa
theorem keep2 {wr w1 w2 : World} {a b : Addr} {v u : Value} (h : w1.cell? a = some v ∧ w1.cell? b = some u ∧ Below wr.heap.size wr w1) (hb : Below w1.heap.size w1 w2) : w2.cell? a = some v ∧ w2.cell? b = some u ∧ Below wr.heap.size wr w2 :=
  ⟨by rw [hb.cell (World.block_lt_of_cell? w1 _ h.1)]; exact h.1, by rw [hb.cell (World.block_lt_of_cell? w1 _ h.2.1)]; exact h.2.1, h.2.2.trans (hb.mono h.2.2.size)⟩
theorem keep2a {wr w1 : World} {a b : Addr} {v u : Value} (h : w1.cell? a = some v ∧ w1.cell? b = some u ∧ Below wr.heap.size wr w1) (o : Obj) : (w1.alloc o).cell? a = some v ∧ (w1.alloc o).cell? b = some u ∧ Below wr.heap.size wr (w1.alloc o) :=
  keep2 h ((Below.refl _ w1).alloc (Nat.le_refl _) o)
theorem keep2s {wr w1 : World} {a b p : Addr} {v u x : Value} (h : w1.cell? a = some v ∧ w1.cell? b = some u ∧ Below wr.heap.size wr w1) (ha : wr.cell? a = some v) (hb : wr.cell? b = some u) (hp : wr.heap.size ≤ p.block) :
    (w1.setCell p x).cell? a = some v ∧ (w1.setCell p x).cell? b = some u ∧ Below wr.heap.size wr (w1.setCell p x) := by
  have hB := h.2.2.setCell hp x
  exact ⟨(hB.cell (World.block_lt_of_cell? wr _ ha)).trans ha, (hB.cell (World.block_lt_of_cell? wr _ hb)).trans hb, hB⟩
theorem snd3 {a b c : Prop} (h : a ∧ b ∧ c) : c := h.2.2
/-- What the last test's region knows of each of its slots. -/
def PhiAll (A4 : Option Addr) (n4 c4 : Nat) (L4 : List Int) (A5 : Option Addr) (n5 c5 : Nat) (L5 : List Int) (C2 : Option Addr) (q2 f2 : Nat) (ST : List Int) : Nat → Value → World → Prop
  | 0, v, _ => v = cf A4 n4 c4
  | 1, v, _ => v = cf A5 n5 c5
  | 2, v, _ => v = .bool (eqB L4 L5)
  | 3, v, _ => v = cf A4 n4 c4
  | 4, v, _ => v = cf A5 n5 c5
  | 5, v, _ => v = .bool (eqB L4 L5)
  | 6, v, _ => v = .bool false
  | 7, v, _ => v = .bool false
  | 8, v, _ => v = cf A4 n4 c4
  | 9, v, _ => v = cf A4 n4 c4
  | 10, v, w => ∃ A n c, v = cf A n c ∧ n ≤ 30 ∧ Sees w (some 3) 1 A n (ib .i64 L4)
  | 11, v, _ => v = .bool true
  | 12, v, _ => v = .bool false
  | 13, v, _ => v = .bool false
  | 14, v, _ => v = .bool false
  | 15, v, _ => v = cf A4 n4 c4
  | 16, v, _ => v = .slice C2 q2 f2
  | 17, v, _ => v = .bool (moreB (askX L4) (ofS ST))
  | 18, v, _ => v = .bool (rightB L4)
  | 19, v, _ => v = .bool (rightB L4)
  | 20, v, _ => rightB L4 = true → v = cf A4 n4 c4
  | 21, v, _ => rightB L4 = true → v = .slice C2 q2 f2
  | 22, v, _ => rightB L4 = true → v = .bool (rmajB L4 ST)
  | 23, v, _ => v = .bool (moreB (askX L4) (ofS ST))
  | 24, v, _ => v = .bool false
  | 25, v, _ => v = .bool false
  | _, _, _ => True
theorem phiAll_stab (A4 : Option Addr) (n4 c4 : Nat) (L4 : List Int) (A5 : Option Addr) (n5 c5 : Nat) (L5 : List Int) (C2 : Option Addr) (q2 f2 : Nat) (ST : List Int) (i : Nat) (v : Value) (w1 w2 : World)
    (h : PhiAll A4 n4 c4 L4 A5 n5 c5 L5 C2 q2 f2 ST i v w1) (hb : Below w1.heap.size w1 w2) : PhiAll A4 n4 c4 L4 A5 n5 c5 L5 C2 q2 f2 ST i v w2 := by
  by_cases h10 : i = 10
  · subst h10
    obtain ⟨A, n, c, h1, h2, h3⟩ := h
    exact ⟨A, n, c, h1, h2, h3.below hb⟩
  · unfold PhiAll at h ⊢
    split <;> simp_all
/-- What the region that makes c and d knows of each of its slots. -/
def PhiMay (H : Nat) (Au : Option Addr) (nu cu : Nat) (lu : List Int) (Av : Option Addr) (nv cv : Nat) (lv : List Int) (A : Option Addr) (n c : Nat) : Nat → Value → World → Prop
  | 0, v, _ => v = cf Au nu cu
  | 1, v, w => ∃ A n c, v = cf A n c ∧ n ≤ 30 ∧ (n ≤ c ∧ c ≤ maxLen) ∧ Sees w (some 3) 1 A n (ib .i64 (lu.take 30))
  | 2, v, _ => v = .slice A n c
  | 3, v, _ => v = .pointer A
  | 4, v, _ => v = cf Av nv cv
  | 5, v, w => ∃ A n c, v = cf A n c ∧ n ≤ 30 ∧ Sees w (some 3) 1 A n (ib .i64 (lv.take 30))
  | 6, v, w => ∃ g, v = .pointer (some ⟨g, 0, none⟩) ∧ H ≤ g ∧ Blk w g 27 #[.slice none 0 0]
  | 7, v, w => ∃ g, v = .pointer (some ⟨g, 0, none⟩) ∧ H ≤ g ∧ Blk w g 27 #[.slice none 0 0]
  | _, _, _ => True
theorem phiMay_stab (H : Nat) (Au : Option Addr) (nu cu : Nat) (lu : List Int) (Av : Option Addr) (nv cv : Nat) (lv : List Int) (A : Option Addr) (n c : Nat) (i : Nat) (v : Value) (w1 w2 : World)
    (h : PhiMay H Au nu cu lu Av nv cv lv A n c i v w1) (hb : Below w1.heap.size w1 w2) : PhiMay H Au nu cu lu Av nv cv lv A n c i v w2 :=
  match i, h with
  | 0, h => h
  | 1, ⟨A, n, c, h1, h2, h4, h3⟩ => ⟨A, n, c, h1, h2, h4, h3.below hb⟩
  | 2, h => h
  | 3, h => h
  | 4, h => h
  | 5, ⟨A, n, c, h1, h2, h3⟩ => ⟨A, n, c, h1, h2, h3.below hb⟩
  | 6, ⟨g, h1, h2, h3⟩ => ⟨g, h1, h2, h3.below hb⟩
  | 7, ⟨g, h1, h2, h3⟩ => ⟨g, h1, h2, h3.below hb⟩
  | _ + 8, _ => trivial

set_option maxRecDepth 100000 in
set_option maxHeartbeats 1600000 in
theorem walk (w : World) (A : Option Addr) (n c : Nat) (vs : List Value) (w0 : RowsOf w .i64 A n c vs) (B : Option Addr) (m d : Nat) (mem : List Int) (w1 : Row w .i64 B m d mem) (C : Option Addr) (q f : Nat) (st : List Int) (w2 : Row w .i64 C q f st) :
    Calls Try.prog 3 #[.slice A n c, .slice B m d, .slice C q f] w fun e w' => e = .returned (.bool true) ∧ Below w.heap.size w w' := by
  have hnm : n ≤ 9223372036854775807 := by have h1 := w0.nc; have h2 := w0.small; unfold maxLen at h2; omega
  have hmm : m ≤ 9223372036854775807 := by have h1 := w1.nc; have h2 := w1.small; unfold maxLen at h2; omega
  go_enter Try.func3, Try.ntmps3
  go_wp2_with (first
    | (go_at_call 10; refine (wakes_any w).mono ?_; rintro e x1 ⟨rfl, hb1⟩)
    | (go_at_call 11; refine (part_any C q f st _ (w2.sees.below hb1) w2.nc w2.small).mono ?_; rintro e x2 ⟨C2, q2, f2, rfl, hq2, ho2, hb2⟩))
  have SC := Sees.of_own ho2
  have HB2 := hb1.trans (hb2.mono hb1.size)
  clear hb1 hb2 ho2
  go_loopw [21] (fun i wr => ∃ k : Nat, k ≤ n ∧ i = .int .i64 k ∧ Below w.heap.size w wr ∧ Below x2.heap.size x2 wr) (fun i _ => n - (intOf i).toNat)
  case atStart => exact ⟨0, by omega, rfl, HB2, Below.refl _ _⟩
  case round =>
    obtain ⟨k, hk, rfl, hbr, hbx⟩ := hrel
    by_cases hlt : k < n
    · by_cases h12 : k = 12
      · subst h12
        obtain ⟨ad, u, rfl, hu, hc⟩ := (w0.sees.below hbr).at_ hlt
        obtain ⟨Au, nu, cu, lu, rfl, hru⟩ := w0.each u (List.mem_of_getElem? hu)
        simp [Addr.add] at hc
        go_wp2
        go_ret
        exact ⟨rfl, hbr.alloc hbr.size _⟩
      · have hk12 : ((k : Int) == 12) = false := by simp; omega
        have h0 : 0 < n := by omega
        obtain ⟨ad, u, rfl, hu, hc⟩ := (w0.sees.below hbr).at_ hlt
        obtain ⟨Au, nu, cu, lu, rfl, hru⟩ := w0.each u (List.mem_of_getElem? hu)
        obtain ⟨ad0, v, had, hv, hcv⟩ := (w0.sees.below hbr).at_ h0
        obtain rfl := Option.some.inj had
        obtain ⟨Av, nv, cv, lv, rfl, hrv⟩ := w0.each v (List.mem_of_getElem? hv)
        simp [Addr.add] at hcv
        clear h12 hu hv had
        go_wp2_with fail
        have hbr' : Below w.heap.size w (wr.alloc (.cells #[.slice Au nu cu] 27)) := hbr.alloc hbr.size _
        have hbx' : Below x2.heap.size x2 (wr.alloc (.cells #[.slice Au nu cu] 27)) := hbx.alloc hbx.size _
        have kx := Blk.new wr 27 #[.slice Au nu cu]
        have hcv' : (wr.alloc (.cells #[.slice Au nu cu] 27)).cell? ad = some (.slice Av nv cv) := by rw [((Below.refl _ wr).alloc (Nat.le_refl _) _).cell (World.block_lt_of_cell? wr _ hcv)]; exact hcv
        obtain ⟨g0, hg0⟩ : ∃ g0, wr.heap.size = g0 := ⟨_, rfl⟩
        rw [hg0] at kx ⊢
        obtain ⟨wa, hwa⟩ : ∃ wa, wr.alloc (.cells #[.slice Au nu cu] 27) = wa := ⟨_, rfl⟩
        rw [hwa] at kx hbr' hbx' hcv' ⊢
        clear hwa hc hcv hg0 hbr hbx
        have hcx := kx.cell 0
        simp at hcx
        have hlu := hru.sees.below hbr'
        have hlv := hrv.sees.below hbr'
        have hg0 := kx.lt
        refine wp_region_par_tail 8 [28, 29, 30, 31, 32, 33, 9, 10] (fun i => i == 6 || i == 7) (PhiMay wa.heap.size Au nu cu lu Av nv cv lv (some ad) n c) (by kernel_rfl) (by kernel_rfl) (phiMay_stab _ _ _ _ _ _ _ _ _ _ _ _) ?steps ?fin
        case steps =>
          simp only [List.take_succ_cons, List.take_zero, StepsPar]
          refine ⟨?_, ?_, ?_, ?_, ?_, ?_, ?_, ?_, trivial⟩
          all_goals
            intro x w1 hb hd K hK
            simp only [frameOf, slots, Act.put, List.setIfInBounds_toArray, List.set_cons_zero, List.set_cons_succ] at hK ⊢
          · have hcx1 := (kx.below hb).cell 0
            simp at hcx1
            go_simp
            exact hK _ _ rfl (Below.refl _ _) (fun h => absurd h (by decide))
          · have e0 : x 0 = cf Au nu cu := hd ⟨0, .data⟩ (by simp) rfl
            simp only [e0] at hK ⊢
            go_simp
            refine (few_any Au nu cu lu w1 (hlu.below hb) hru.nc hru.small).mono ?_
            rintro e w2' ⟨A4, n4, c4, rfl, hn4, ho4, hb4⟩
            exact hK _ _ ⟨A4, n4, c4, rfl, hn4, own_cap ho4, Sees.of_own ho4⟩ hb4 (fun h => absurd h (by decide))
          · go_simp
            exact hK _ _ rfl (Below.refl _ _) (fun h => absurd h (by decide))
          · have e2 : x 2 = .slice (some ad) n c := hd ⟨2, .data⟩ (by simp) rfl
            simp only [e2] at hK ⊢
            go_simp
            exact hK _ _ rfl (Below.refl _ _) (fun h => absurd h (by decide))
          · have e3 : x 3 = .pointer (some ad) := hd ⟨3, .data⟩ (by simp) rfl
            have hc4 : w1.cell? ad = some (.slice Av nv cv) := (hb.cell (World.block_lt_of_cell? wa _ hcv')).trans hcv'
            simp only [e3] at hK ⊢
            go_simp
            exact hK _ _ rfl (Below.refl _ _) (fun h => absurd h (by decide))
          · have e4 : x 4 = cf Av nv cv := hd ⟨4, .data⟩ (by simp) rfl
            simp only [e4] at hK ⊢
            go_simp
            refine (few_any Av nv cv lv w1 (hlv.below hb) hrv.nc hrv.small).mono ?_
            rintro e w2' ⟨A4, n4, c4, rfl, hn4, ho4, hb4⟩
            exact hK _ _ ⟨A4, n4, c4, rfl, hn4, Sees.of_own ho4⟩ hb4 (fun h => absurd h (by decide))
          · go_simp
            exact hK _ _ ⟨_, rfl, hb.size, Blk.new _ _ _⟩ ((Below.refl _ _).alloc (Nat.le_refl _) _) (fun _ g hg => by simp [ptrBlock] at hg; subst hg; simp)
          · go_simp
            exact hK _ _ ⟨_, rfl, hb.size, Blk.new _ _ _⟩ ((Below.refl _ _).alloc (Nat.le_refl _) _) (fun _ g hg => by simp [ptrBlock] at hg; subst hg; simp)
        case fin =>
          intro x wf hb hx hne
          have e0 : x 0 = cf Au nu cu := hx 0 (by omega)
          obtain ⟨A4, n4, c4, e1, hn4, ncx, s4⟩ := hx 1 (by omega)
          have e2 : x 2 = .slice (some ad) n c := hx 2 (by omega)
          have e3 : x 3 = .pointer (some ad) := hx 3 (by omega)
          have e4 : x 4 = cf Av nv cv := hx 4 (by omega)
          obtain ⟨A5, n5, c5, e5, hn5, s5⟩ := hx 5 (by omega)
          obtain ⟨g9, e6, hg9, k9⟩ := hx 6 (by omega)
          obtain ⟨g10, e7, hg10, k10⟩ := hx 7 (by omega)
          have hgg : g9 ≠ g10 := fun h => hne 6 7 (by omega) (by omega) rfl rfl (by omega) g9 (by rw [e6]; rfl) (by rw [e7, h]; rfl)
          simp only [frameOf, slots, Act.put, List.setIfInBounds_toArray, List.set_cons_zero, List.set_cons_succ, List.drop_succ_cons, List.drop_zero, e0, e1, e2, e3, e4, e5, e6, e7]
          clear hx hne e0 e1 e2 e3 e4 e5 e6 e7
          have c9 := k9.cell 0
          have f9 := k9.frozen 0
          have c10 := k10.cell 0
          have f10 := k10.frozen 0
          simp at c9 c10
          have hgg' : g10 ≠ g9 := fun h => hgg h.symm
          go_upto_region 9 with fail
          clear c9 f9 c10 f10
          have HB := Lib.hid (hbr'.trans (hb.mono hbr'.size))
          have HX := Lib.hid (hbx'.trans (hb.mono hbx'.size))
          replace kx := kx.below hb
          replace SC := SC.below HX.out
          have hgb := hbr'.size
          have hgx := hbx'.size
          have apart_of := k9
          replace k10 := k10.far (p := ⟨g9, 0, none⟩) (by first | exact hgg | exact hgg') (.slice A4 n4 c4)
          replace kx := kx.far (p := ⟨g9, 0, none⟩) (by show g0 ≠ g9; omega) (.slice A4 n4 c4)
          replace s4 := s4.far (p := ⟨g9, 0, none⟩) (apart_of.apart s4 (by decide)) (.slice A4 n4 c4)
          replace s5 := s5.far (p := ⟨g9, 0, none⟩) (apart_of.apart s5 (by decide)) (.slice A4 n4 c4)
          replace SC := SC.far (p := ⟨g9, 0, none⟩) (apart_of.apart SC (by decide)) (.slice A4 n4 c4)
          replace HB := Lib.hid (HB.out.setCell (p := ⟨g9, 0, none⟩) (by show _ ≤ g9; omega) (.slice A4 n4 c4))
          replace HX := Lib.hid (HX.out.setCell (p := ⟨g9, 0, none⟩) (by show _ ≤ g9; omega) (.slice A4 n4 c4))
          replace k9 := k9.put 0 (.slice A4 n4 c4)
          clear apart_of
          have apart_of := k10
          replace k9 := k9.far (p := ⟨g10, 0, none⟩) (by first | exact hgg | exact hgg') (.slice A5 n5 c5)
          replace kx := kx.far (p := ⟨g10, 0, none⟩) (by show g0 ≠ g10; omega) (.slice A5 n5 c5)
          replace s4 := s4.far (p := ⟨g10, 0, none⟩) (apart_of.apart s4 (by decide)) (.slice A5 n5 c5)
          replace s5 := s5.far (p := ⟨g10, 0, none⟩) (apart_of.apart s5 (by decide)) (.slice A5 n5 c5)
          replace SC := SC.far (p := ⟨g10, 0, none⟩) (apart_of.apart SC (by decide)) (.slice A5 n5 c5)
          replace HB := Lib.hid (HB.out.setCell (p := ⟨g10, 0, none⟩) (by show _ ≤ g10; omega) (.slice A5 n5 c5))
          replace HX := Lib.hid (HX.out.setCell (p := ⟨g10, 0, none⟩) (by show _ ≤ g10; omega) (.slice A5 n5 c5))
          replace k10 := k10.put 0 (.slice A5 n5 c5)
          clear apart_of
          obtain ⟨L4, hL4⟩ : ∃ L4, L4 = lu.take 30 := ⟨_, rfl⟩
          obtain ⟨L5, hL5⟩ : ∃ L5, L5 = lv.take 30 := ⟨_, rfl⟩
          obtain ⟨ST, hST⟩ : ∃ ST, ST = st.take 30 := ⟨_, rfl⟩
          have HL4 := Lib.hid hL4
          rw [← hL4] at s4
          rw [← hL5] at s5
          rw [← hST] at SC
          clear hL4 hL5 hST hb hbr' hbx' hlu hlv hcx hcv'
          have c_k9 := k9.cell 0
          simp at c_k9
          have f_k9 := k9.frozen 0
          have c_k10 := k10.cell 0
          simp at c_k10
          have f_k10 := k10.frozen 0
          have c_kx := kx.cell 0
          simp at c_kx
          have f_kx := kx.frozen 0
          go_wp2_with fail
          clear c_k9 f_k9 c_k10 f_k10 c_kx f_kx
          refine (rright_any A4 n4 c4 L4 _ s4 (by omega)).mono ?_
          rintro e w4 ⟨rfl, hb4⟩
          replace k9 := k9.below hb4
          replace k10 := k10.below hb4
          replace s4 := s4.below hb4
          replace s5 := s5.below hb4
          replace SC := SC.below hb4
          replace HB := Lib.hid (HB.out.trans (hb4.mono HB.out.size))
          replace HX := Lib.hid (HX.out.trans (hb4.mono HX.out.size))
          replace kx := kx.below hb4
          clear hb4
          have c_k9 := k9.cell 0
          simp at c_k9
          have f_k9 := k9.frozen 0
          have c_k10 := k10.cell 0
          simp at c_k10
          have f_k10 := k10.frozen 0
          have c_kx := kx.cell 0
          simp at c_kx
          have f_kx := kx.frozen 0
          go_wp2_with fail
          clear c_k9 f_k9 c_k10 f_k10 c_kx f_kx
          refine (check_any A4 n4 c4 L4 _ s4 (by omega)).mono ?_
          rintro e w5 ⟨rfl, hb5⟩
          replace k9 := k9.below hb5
          replace k10 := k10.below hb5
          replace s4 := s4.below hb5
          replace s5 := s5.below hb5
          replace SC := SC.below hb5
          replace HB := Lib.hid (HB.out.trans (hb5.mono HB.out.size))
          replace HX := Lib.hid (HX.out.trans (hb5.mono HX.out.size))
          replace kx := kx.below hb5
          clear hb5
          go_upto_region 11 with fail
          go_cut [11, 12, 49] from 34 to 48 (fun s11 s12 s49 wx => s11 = .bool (rightB L4) ∧ s12 = .int .i64 (askE L4) ∧ s49 = .bool false ∧ Blk wx g9 27 #[.slice A4 n4 c4] ∧ Blk wx g10 27 #[.slice A5 n5 c5] ∧ Blk wx g0 27 #[.slice Au nu cu] ∧ Sees wx (some 3) 1 A4 n4 (ib .i64 L4) ∧ Sees wx (some 3) 1 A5 n5 (ib .i64 L5) ∧ Sees wx (some 3) 1 C2 q2 (ib .i64 ST) ∧ Below w.heap.size w wx ∧ Below x2.heap.size x2 wx)
          case first =>
            cases hr : rightB L4 with
            | true =>
              have HE : Hid (askE L4 = 0) := askE_right hr
              have HR := Lib.hid hr
              rw [HE.out]
              clear hr
              go_wp2_with fail
              go_meet
              exact ⟨by rw [HR.out], by rw [HE.out], rfl, k9, k10, kx, s4, s5, SC, HB.out, HX.out⟩
            | false =>
              have HE : Hid (askE L4 = 180) := askE_wrong hr
              have HR := Lib.hid hr
              rw [HE.out]
              clear hr
              go_wp2_with fail
              go_meet
              exact ⟨by rw [HR.out], by rw [HE.out], rfl, k9, k10, kx, s4, s5, SC, HB.out, HX.out⟩
          case rest =>
            clear k9 k10 kx s4 s5 SC HB HX
            obtain ⟨rfl, rfl, rfl, k9, k10, kx, s4, s5, SC, hB, hX⟩ := hcut
            have HB := Lib.hid hB
            have HX := Lib.hid hX
            clear hB hX
            have HLL := Lib.hid s4.len
            cases hr : rightB L4 with
            | true =>
              have HR := Lib.hid hr
              have HE := Lib.hid (has_law L4)
              clear hr
              go_wp2_with fail
              obtain ⟨wo, rfl⟩ : ∃ wo : World, wo = wr := ⟨_, rfl⟩
              obtain ⟨wd, rfl⟩ : ∃ wd : World, wd = wc := ⟨_, rfl⟩
              go_loopw [52] (fun i wr => ∃ j : Nat, j ≤ m ∧ i = .int .i64 j ∧ Below wd.heap.size wd wr) (fun i _ => m - (intOf i).toNat)
              case atStart => exact ⟨0, by omega, rfl, Below.refl _ _⟩
              case round =>
                obtain ⟨j, hj, rfl, hbi⟩ := hrel
                obtain ⟨wi, rfl⟩ : ∃ wi : World, wi = wr := ⟨_, rfl⟩
                by_cases hlj : j < m
                · have y9 := k9.below hbi
                  have t4 := s4.below hbi
                  obtain ⟨adm, um, rfl, hum, hcm⟩ := (w1.sees.below (HB.out.trans (hbi.mono HB.out.size))).at_ hlj
                  obtain ⟨v, hv, rfl⟩ := ib_get hum
                  clear hum hv
                  have c9 := y9.cell 0
                  simp at c9
                  by_cases hj12 : j < 12
                  · go_wp2_with fail
                    refine (has'_any A4 n4 c4 L4 v _ t4 (by omega)).mono ?_
                    rintro e w6 ⟨rfl, hb6⟩
                    replace y9 := y9.below hb6
                    replace t4 := t4.below hb6
                    have hbj := hbi.trans (hb6.mono hbi.size)
                    clear c9
                    have c9 := y9.cell 0
                    simp at c9
                    rw [show hasB (askX L4) v = decide (v ∈ L4) from by rw [HE.out, HR.out]; simp]
                    go_wp2_with fail
                    refine (rhas_any A4 n4 c4 L4 v _ t4 (by omega)).mono ?_
                    rintro e w7 ⟨rfl, hb7⟩
                    cases hd : decide (v ∈ L4)
                    all_goals
                      clear hd
                      go_wp2
                      go_roundw
                      case rel => exact ⟨j + 1, by omega, by go_num, hbj.trans (hb7.mono hbj.size)⟩
                      case measure => simp [intOf]; omega
                  · go_wp2
                    go_roundw
                    case rel => exact ⟨j + 1, by omega, by go_num, hbi⟩
                    case measure => simp [intOf]; omega
                · replace k9 := k9.below hbi
                  replace k10 := k10.below hbi
                  replace kx := kx.below hbi
                  replace s4 := s4.below hbi
                  replace s5 := s5.below hbi
                  replace SC := SC.below hbi
                  replace HB := Lib.hid (HB.out.trans (hbi.mono HB.out.size))
                  replace HX := Lib.hid (HX.out.trans (hbi.mono HX.out.size))
                  have nc4 := hn4
                  go_upto_region 19 with fail
                  refine wp_region_par_all 26 [72, 73, 74, 75, 76, 77, 78, 79, 80, 81, 82, 83, 84, 85, 86, 87, 88, 89, 90, 91, 92, 93, 94, 95, 96, 97] (fun _ => false) (PhiAll A4 n4 c4 L4 A5 n5 c5 L5 C2 q2 f2 ST) (by kernel_rfl) (by kernel_rfl) (phiAll_stab _ _ _ _ _ _ _ _ _ _ _ _) ?steps ?fin
                  case steps =>
                    simp only [StepsPar]
                    refine ⟨?_, ?_, ?_, ?_, ?_, ?_, ?_, ?_, ?_, ?_, ?_, ?_, ?_, ?_, ?_, ?_, ?_, ?_, ?_, ?_, ?_, ?_, ?_, ?_, ?_, ?_, trivial⟩
                    all_goals
                      intro x w1x hb hd K hK
                      simp only [frameOf, slots, Act.put, List.setIfInBounds_toArray, List.set_cons_zero, List.set_cons_succ] at hK ⊢
                    · have c9 := (k9.below hb).cell 0
                      simp at c9
                      go_simp
                      exact hK _ _ (rfl) (Below.refl _ _) (fun h => absurd h (by decide))
                    · have c9 := (k10.below hb).cell 0
                      simp at c9
                      go_simp
                      exact hK _ _ (rfl) (Below.refl _ _) (fun h => absurd h (by decide))
                    · have e0 : x 0 = cf A4 n4 c4 := hd ⟨0, .data⟩ (by simp) rfl
                      have e1 : x 1 = cf A5 n5 c5 := hd ⟨1, .data⟩ (by simp) rfl
                      simp only [e0, e1] at hK ⊢
                      go_simp
                      refine (same_any A4 A5 n4 c4 n5 c5 L4 L5 _ (s4.below hb) (s5.below hb) (by omega)).mono ?_
                      rintro e w2x ⟨rfl, hb2⟩
                      exact hK _ _ (rfl) hb2 (fun h => absurd h (by decide))
                    · have c9 := (k9.below hb).cell 0
                      simp at c9
                      go_simp
                      exact hK _ _ (rfl) (Below.refl _ _) (fun h => absurd h (by decide))
                    · have c9 := (k10.below hb).cell 0
                      simp at c9
                      go_simp
                      exact hK _ _ (rfl) (Below.refl _ _) (fun h => absurd h (by decide))
                    · have e3 : x 3 = cf A4 n4 c4 := hd ⟨3, .data⟩ (by simp) rfl
                      have e4 : x 4 = cf A5 n5 c5 := hd ⟨4, .data⟩ (by simp) rfl
                      simp only [e3, e4] at hK ⊢
                      go_simp
                      refine (rsame_any A4 A5 n4 c4 n5 c5 L4 L5 _ (s4.below hb) (s5.below hb) (by omega)).mono ?_
                      rintro e w2x ⟨rfl, hb2⟩
                      exact hK _ _ (rfl) hb2 (fun h => absurd h (by decide))
                    · have e2 : x 2 = .bool (eqB L4 L5) := hd ⟨2, .data⟩ (by simp) rfl
                      have e5 : x 5 = .bool (eqB L4 L5) := hd ⟨5, .data⟩ (by simp) rfl
                      simp only [e2, e5] at hK ⊢
                      go_simp
                      exact hK _ _ (by simp [PhiAll]) (Below.refl _ _) (fun h => absurd h (by decide))
                    · have e6 : x 6 = .bool false := hd ⟨6, .data⟩ (by simp) rfl
                      simp only [e6] at hK ⊢
                      go_simp
                      exact hK _ _ (rfl) (Below.refl _ _) (fun h => absurd h (by decide))
                    · have e7 : x 7 = .bool false := hd ⟨7, .guard⟩ (by simp) rfl
                      simp only [e7] at hK ⊢
                      have c9 := (k9.below hb).cell 0
                      simp at c9
                      go_simp
                      exact hK _ _ (rfl) (Below.refl _ _) (fun h => absurd h (by decide))
                    · have e7 : x 7 = .bool false := hd ⟨7, .guard⟩ (by simp) rfl
                      simp only [e7] at hK ⊢
                      have c9 := (k9.below hb).cell 0
                      simp at c9
                      go_simp
                      exact hK _ _ (rfl) (Below.refl _ _) (fun h => absurd h (by decide))
                    · have e9 : x 9 = cf A4 n4 c4 := hd ⟨9, .data⟩ (by simp) rfl
                      have e7 : x 7 = .bool false := hd ⟨7, .guard⟩ (by simp) rfl
                      simp only [e9, e7] at hK ⊢
                      go_simp
                      refine (few_any A4 n4 c4 L4 _ (s4.below hb) ncx.1 ncx.2).mono ?_
                      rintro e w2x ⟨A6, n6, c6, rfl, hn6, ho6, hb2⟩
                      rw [take_all (by have := HLL.out; omega)] at ho6
                      exact hK _ _ ⟨A6, n6, c6, rfl, hn6, Sees.of_own ho6⟩ hb2 (fun h => absurd h (by decide))
                    · have e8 : x 8 = cf A4 n4 c4 := hd ⟨8, .data⟩ (by simp) rfl
                      have d10 := hd ⟨10, .data⟩ (by simp) rfl
                      have e7 : x 7 = .bool false := hd ⟨7, .guard⟩ (by simp) rfl
                      simp only [e8, e7] at hK ⊢
                      obtain ⟨A6, n6, c6, e10, hn6, s6⟩ := d10
                      simp only [e10] at hK ⊢
                      go_simp
                      refine (same_any A4 A6 n4 c4 n6 c6 L4 L4 _ (s4.below hb) s6 (by omega)).mono ?_
                      rw [eqB_true rfl]
                      rintro e w2x ⟨rfl, hb2⟩
                      exact hK _ _ (rfl) hb2 (fun h => absurd h (by decide))
                    · have e11 : x 11 = .bool true := hd ⟨11, .data⟩ (by simp) rfl
                      have e7 : x 7 = .bool false := hd ⟨7, .guard⟩ (by simp) rfl
                      simp only [e11, e7] at hK ⊢
                      go_simp
                      exact hK _ _ (rfl) (Below.refl _ _) (fun h => absurd h (by decide))
                    · have e7 : x 7 = .bool false := hd ⟨7, .data⟩ (by simp) rfl
                      have e12 : x 12 = .bool false := hd ⟨12, .data⟩ (by simp) rfl
                      simp only [e7, e12] at hK ⊢
                      go_simp
                      exact hK _ _ (rfl) (Below.refl _ _) (fun h => absurd h (by decide))
                    · have e13 : x 13 = .bool false := hd ⟨13, .data⟩ (by simp) rfl
                      simp only [e13] at hK ⊢
                      go_simp
                      exact hK _ _ (rfl) (Below.refl _ _) (fun h => absurd h (by decide))
                    · have e14 : x 14 = .bool false := hd ⟨14, .guard⟩ (by simp) rfl
                      simp only [e14] at hK ⊢
                      have c9 := (k9.below hb).cell 0
                      simp at c9
                      go_simp
                      exact hK _ _ (rfl) (Below.refl _ _) (fun h => absurd h (by decide))
                    · have e14 : x 14 = .bool false := hd ⟨14, .guard⟩ (by simp) rfl
                      simp only [e14] at hK ⊢
                      go_simp
                      exact hK _ _ (rfl) (Below.refl _ _) (fun h => absurd h (by decide))
                    · have e15 : x 15 = cf A4 n4 c4 := hd ⟨15, .data⟩ (by simp) rfl
                      have e16 : x 16 = .slice C2 q2 f2 := hd ⟨16, .data⟩ (by simp) rfl
                      have e14 : x 14 = .bool false := hd ⟨14, .guard⟩ (by simp) rfl
                      simp only [e15, e16, e14] at hK ⊢
                      go_simp
                      refine (majority_any A4 C2 n4 c4 q2 f2 L4 ST _ (s4.below hb) (SC.below hb) (by omega) (by omega)).mono ?_
                      rintro e w2x ⟨rfl, hb2⟩
                      exact hK _ _ (rfl) hb2 (fun h => absurd h (by decide))
                    · have e14 : x 14 = .bool false := hd ⟨14, .guard⟩ (by simp) rfl
                      simp only [e14] at hK ⊢
                      go_simp
                      exact hK _ _ (by rw [← HR.out]; rfl) (Below.refl _ _) (fun h => absurd h (by decide))
                    · have e18 : x 18 = .bool (rightB L4) := hd ⟨18, .data⟩ (by simp) rfl
                      have e14 : x 14 = .bool false := hd ⟨14, .guard⟩ (by simp) rfl
                      simp only [e18, e14] at hK ⊢
                      go_simp
                      exact hK _ _ (rfl) (Below.refl _ _) (fun h => absurd h (by decide))
                    · have e19 : x 19 = .bool (rightB L4) := hd ⟨19, .guard⟩ (by simp) rfl
                      simp only [e19] at hK ⊢
                      simp only [HR.out] at hK ⊢
                      have c9 := (k9.below hb).cell 0
                      simp at c9
                      go_simp
                      exact hK _ _ (fun _ => rfl) (Below.refl _ _) (fun h => absurd h (by decide))
                    · have e19 : x 19 = .bool (rightB L4) := hd ⟨19, .guard⟩ (by simp) rfl
                      simp only [e19] at hK ⊢
                      simp only [HR.out] at hK ⊢
                      go_simp
                      exact hK _ _ (fun _ => rfl) (Below.refl _ _) (fun h => absurd h (by decide))
                    · have e19 : x 19 = .bool (rightB L4) := hd ⟨19, .guard⟩ (by simp) rfl
                      have d20 := hd ⟨20, .data⟩ (by simp) rfl
                      have d21 := hd ⟨21, .data⟩ (by simp) rfl
                      simp only [e19] at hK ⊢
                      have e20 := d20 HR.out
                      have e21 := d21 HR.out
                      simp only [e20, e21] at hK ⊢
                      simp only [HR.out] at hK ⊢
                      go_simp
                      refine (rmajority_any A4 C2 n4 c4 q2 f2 L4 ST _ (s4.below hb) (SC.below hb) (by omega) (by omega)).mono ?_
                      rintro e w2x ⟨rfl, hb2⟩
                      exact hK _ _ (fun _ => rfl) hb2 (fun h => absurd h (by decide))
                    · have e19 : x 19 = .bool (rightB L4) := hd ⟨19, .data⟩ (by simp) rfl
                      have d22 := hd ⟨22, .data⟩ (by simp) rfl
                      have e14 : x 14 = .bool false := hd ⟨14, .guard⟩ (by simp) rfl
                      simp only [e19, e14] at hK ⊢
                      have e22 := d22 HR.out
                      simp only [e22] at hK ⊢
                      simp only [HR.out] at hK ⊢
                      go_simp
                      exact hK _ _ (by show _ = _; rw [majority_law, HR.out]; rfl) (Below.refl _ _) (fun h => absurd h (by decide))
                    · have e17 : x 17 = .bool (moreB (askX L4) (ofS ST)) := hd ⟨17, .data⟩ (by simp) rfl
                      have e23 : x 23 = .bool (moreB (askX L4) (ofS ST)) := hd ⟨23, .data⟩ (by simp) rfl
                      have e14 : x 14 = .bool false := hd ⟨14, .guard⟩ (by simp) rfl
                      simp only [e17, e23, e14] at hK ⊢
                      go_simp
                      exact hK _ _ (by simp [PhiAll]) (Below.refl _ _) (fun h => absurd h (by decide))
                    · have e14 : x 14 = .bool false := hd ⟨14, .data⟩ (by simp) rfl
                      have e24 : x 24 = .bool false := hd ⟨24, .data⟩ (by simp) rfl
                      simp only [e14, e24] at hK ⊢
                      go_simp
                      exact hK _ _ (rfl) (Below.refl _ _) (fun h => absurd h (by decide))
                  case fin =>
                    intro x wg hb hx _
                    have z9 := k9.below hb
                    have zx := kx.below hb
                    have t4 := s4.below hb
                    have HBg := HB.out.trans (hb.mono HB.out.size)
                    have HXg := HX.out.trans (hb.mono HX.out.size)
                    have tu := (hru.sees.below HBg).head (m := n4) (by have h1 := HLL.out; have h2 := HL4.out; have h3 := hru.sees.len; rw [h2, List.length_take] at h1; omega)
                    rw [show lu.take n4 = L4 from by have h1 := HLL.out; have h2 := HL4.out; rw [h2] at h1 ⊢; rw [List.length_take] at h1; rw [← h1]; rw [List.take_eq_take_iff]; omega] at tu
                    have c9 := z9.cell 0
                    have cx := zx.cell 0
                    simp at c9 cx
                    have hncu : n4 ≤ cu := by have h1 := HLL.out; have h2 := HL4.out; have h3 := hru.sees.len; have h4 := hru.nc; rw [h2, List.length_take] at h1; omega
                    have hncI : (n4 : Int) ≤ (cu : Int) := by omega
                    have hn4I : (0 : Int) ≤ (n4 : Int) := by omega
                    have hcum : cu ≤ 9223372036854775807 := by have h2 := hru.small; unfold maxLen at h2; omega
                    have e25 : x 25 = .bool false := hx 25 (by omega)
                    simp only [frameOf, slots, Act.put, List.setIfInBounds_toArray, List.set_cons_zero, List.set_cons_succ, e25]
                    go_upto_region 21 with fail
                    go_quiet ((go_at_call 21; exact quietA (equalInt_any A4 Au n4 c4 n4 cu L4 L4 _ (t4.drewN _) (tu.drewN _) (by omega))))
                    have hee : eqB L4 L4 = true := eqB_true rfl
                    simp only [hee, Bool.not_true]
                    clear hee
                    clear c9 cx hncI hn4I
                    go_wp2
                    go_roundw
                    case rel => exact ⟨k + 1, by omega, by go_num, below_drewN HBg _, below_drewN HXg _⟩
                    case measure => simp [intOf]; omega
            | false =>
              have HR := Lib.hid hr
              have HE := Lib.hid (has_law L4)
              clear hr
              go_wp2_with fail
              obtain ⟨wo, rfl⟩ : ∃ wo : World, wo = wr := ⟨_, rfl⟩
              obtain ⟨wd, rfl⟩ : ∃ wd : World, wd = wc := ⟨_, rfl⟩
              go_loopw [52] (fun i wr => ∃ j : Nat, j ≤ m ∧ i = .int .i64 j ∧ Below wd.heap.size wd wr) (fun i _ => m - (intOf i).toNat)
              case atStart => exact ⟨0, by omega, rfl, Below.refl _ _⟩
              case round =>
                obtain ⟨j, hj, rfl, hbi⟩ := hrel
                obtain ⟨wi, rfl⟩ : ∃ wi : World, wi = wr := ⟨_, rfl⟩
                by_cases hlj : j < m
                · have y9 := k9.below hbi
                  have t4 := s4.below hbi
                  obtain ⟨adm, um, rfl, hum, hcm⟩ := (w1.sees.below (HB.out.trans (hbi.mono HB.out.size))).at_ hlj
                  obtain ⟨v, hv, rfl⟩ := ib_get hum
                  clear hum hv
                  have c9 := y9.cell 0
                  simp at c9
                  by_cases hj12 : j < 12
                  · go_wp2_with fail
                    refine (has'_any A4 n4 c4 L4 v _ t4 (by omega)).mono ?_
                    rintro e w6 ⟨rfl, hb6⟩
                    replace y9 := y9.below hb6
                    replace t4 := t4.below hb6
                    have hbj := hbi.trans (hb6.mono hbi.size)
                    clear c9
                    have c9 := y9.cell 0
                    simp at c9
                    rw [show hasB (askX L4) v = false from by rw [HE.out, HR.out]; simp]
                    go_wp2
                    go_roundw
                    case rel => exact ⟨j + 1, by omega, by go_num, hbj⟩
                    case measure => simp [intOf]; omega
                  · go_wp2
                    go_roundw
                    case rel => exact ⟨j + 1, by omega, by go_num, hbi⟩
                    case measure => simp [intOf]; omega
                · replace k9 := k9.below hbi
                  replace k10 := k10.below hbi
                  replace kx := kx.below hbi
                  replace s4 := s4.below hbi
                  replace s5 := s5.below hbi
                  replace SC := SC.below hbi
                  replace HB := Lib.hid (HB.out.trans (hbi.mono HB.out.size))
                  replace HX := Lib.hid (HX.out.trans (hbi.mono HX.out.size))
                  have nc4 := hn4
                  go_upto_region 19 with fail
                  refine wp_region_par_all 26 [72, 73, 74, 75, 76, 77, 78, 79, 80, 81, 82, 83, 84, 85, 86, 87, 88, 89, 90, 91, 92, 93, 94, 95, 96, 97] (fun _ => false) (PhiAll A4 n4 c4 L4 A5 n5 c5 L5 C2 q2 f2 ST) (by kernel_rfl) (by kernel_rfl) (phiAll_stab _ _ _ _ _ _ _ _ _ _ _ _) ?steps ?fin
                  case steps =>
                    simp only [StepsPar]
                    refine ⟨?_, ?_, ?_, ?_, ?_, ?_, ?_, ?_, ?_, ?_, ?_, ?_, ?_, ?_, ?_, ?_, ?_, ?_, ?_, ?_, ?_, ?_, ?_, ?_, ?_, ?_, trivial⟩
                    all_goals
                      intro x w1x hb hd K hK
                      simp only [frameOf, slots, Act.put, List.setIfInBounds_toArray, List.set_cons_zero, List.set_cons_succ] at hK ⊢
                    · have c9 := (k9.below hb).cell 0
                      simp at c9
                      go_simp
                      exact hK _ _ (rfl) (Below.refl _ _) (fun h => absurd h (by decide))
                    · have c9 := (k10.below hb).cell 0
                      simp at c9
                      go_simp
                      exact hK _ _ (rfl) (Below.refl _ _) (fun h => absurd h (by decide))
                    · have e0 : x 0 = cf A4 n4 c4 := hd ⟨0, .data⟩ (by simp) rfl
                      have e1 : x 1 = cf A5 n5 c5 := hd ⟨1, .data⟩ (by simp) rfl
                      simp only [e0, e1] at hK ⊢
                      go_simp
                      refine (same_any A4 A5 n4 c4 n5 c5 L4 L5 _ (s4.below hb) (s5.below hb) (by omega)).mono ?_
                      rintro e w2x ⟨rfl, hb2⟩
                      exact hK _ _ (rfl) hb2 (fun h => absurd h (by decide))
                    · have c9 := (k9.below hb).cell 0
                      simp at c9
                      go_simp
                      exact hK _ _ (rfl) (Below.refl _ _) (fun h => absurd h (by decide))
                    · have c9 := (k10.below hb).cell 0
                      simp at c9
                      go_simp
                      exact hK _ _ (rfl) (Below.refl _ _) (fun h => absurd h (by decide))
                    · have e3 : x 3 = cf A4 n4 c4 := hd ⟨3, .data⟩ (by simp) rfl
                      have e4 : x 4 = cf A5 n5 c5 := hd ⟨4, .data⟩ (by simp) rfl
                      simp only [e3, e4] at hK ⊢
                      go_simp
                      refine (rsame_any A4 A5 n4 c4 n5 c5 L4 L5 _ (s4.below hb) (s5.below hb) (by omega)).mono ?_
                      rintro e w2x ⟨rfl, hb2⟩
                      exact hK _ _ (rfl) hb2 (fun h => absurd h (by decide))
                    · have e2 : x 2 = .bool (eqB L4 L5) := hd ⟨2, .data⟩ (by simp) rfl
                      have e5 : x 5 = .bool (eqB L4 L5) := hd ⟨5, .data⟩ (by simp) rfl
                      simp only [e2, e5] at hK ⊢
                      go_simp
                      exact hK _ _ (by simp [PhiAll]) (Below.refl _ _) (fun h => absurd h (by decide))
                    · have e6 : x 6 = .bool false := hd ⟨6, .data⟩ (by simp) rfl
                      simp only [e6] at hK ⊢
                      go_simp
                      exact hK _ _ (rfl) (Below.refl _ _) (fun h => absurd h (by decide))
                    · have e7 : x 7 = .bool false := hd ⟨7, .guard⟩ (by simp) rfl
                      simp only [e7] at hK ⊢
                      have c9 := (k9.below hb).cell 0
                      simp at c9
                      go_simp
                      exact hK _ _ (rfl) (Below.refl _ _) (fun h => absurd h (by decide))
                    · have e7 : x 7 = .bool false := hd ⟨7, .guard⟩ (by simp) rfl
                      simp only [e7] at hK ⊢
                      have c9 := (k9.below hb).cell 0
                      simp at c9
                      go_simp
                      exact hK _ _ (rfl) (Below.refl _ _) (fun h => absurd h (by decide))
                    · have e9 : x 9 = cf A4 n4 c4 := hd ⟨9, .data⟩ (by simp) rfl
                      have e7 : x 7 = .bool false := hd ⟨7, .guard⟩ (by simp) rfl
                      simp only [e9, e7] at hK ⊢
                      go_simp
                      refine (few_any A4 n4 c4 L4 _ (s4.below hb) ncx.1 ncx.2).mono ?_
                      rintro e w2x ⟨A6, n6, c6, rfl, hn6, ho6, hb2⟩
                      rw [take_all (by have := HLL.out; omega)] at ho6
                      exact hK _ _ ⟨A6, n6, c6, rfl, hn6, Sees.of_own ho6⟩ hb2 (fun h => absurd h (by decide))
                    · have e8 : x 8 = cf A4 n4 c4 := hd ⟨8, .data⟩ (by simp) rfl
                      have d10 := hd ⟨10, .data⟩ (by simp) rfl
                      have e7 : x 7 = .bool false := hd ⟨7, .guard⟩ (by simp) rfl
                      simp only [e8, e7] at hK ⊢
                      obtain ⟨A6, n6, c6, e10, hn6, s6⟩ := d10
                      simp only [e10] at hK ⊢
                      go_simp
                      refine (same_any A4 A6 n4 c4 n6 c6 L4 L4 _ (s4.below hb) s6 (by omega)).mono ?_
                      rw [eqB_true rfl]
                      rintro e w2x ⟨rfl, hb2⟩
                      exact hK _ _ (rfl) hb2 (fun h => absurd h (by decide))
                    · have e11 : x 11 = .bool true := hd ⟨11, .data⟩ (by simp) rfl
                      have e7 : x 7 = .bool false := hd ⟨7, .guard⟩ (by simp) rfl
                      simp only [e11, e7] at hK ⊢
                      go_simp
                      exact hK _ _ (rfl) (Below.refl _ _) (fun h => absurd h (by decide))
                    · have e7 : x 7 = .bool false := hd ⟨7, .data⟩ (by simp) rfl
                      have e12 : x 12 = .bool false := hd ⟨12, .data⟩ (by simp) rfl
                      simp only [e7, e12] at hK ⊢
                      go_simp
                      exact hK _ _ (rfl) (Below.refl _ _) (fun h => absurd h (by decide))
                    · have e13 : x 13 = .bool false := hd ⟨13, .data⟩ (by simp) rfl
                      simp only [e13] at hK ⊢
                      go_simp
                      exact hK _ _ (rfl) (Below.refl _ _) (fun h => absurd h (by decide))
                    · have e14 : x 14 = .bool false := hd ⟨14, .guard⟩ (by simp) rfl
                      simp only [e14] at hK ⊢
                      have c9 := (k9.below hb).cell 0
                      simp at c9
                      go_simp
                      exact hK _ _ (rfl) (Below.refl _ _) (fun h => absurd h (by decide))
                    · have e14 : x 14 = .bool false := hd ⟨14, .guard⟩ (by simp) rfl
                      simp only [e14] at hK ⊢
                      go_simp
                      exact hK _ _ (rfl) (Below.refl _ _) (fun h => absurd h (by decide))
                    · have e15 : x 15 = cf A4 n4 c4 := hd ⟨15, .data⟩ (by simp) rfl
                      have e16 : x 16 = .slice C2 q2 f2 := hd ⟨16, .data⟩ (by simp) rfl
                      have e14 : x 14 = .bool false := hd ⟨14, .guard⟩ (by simp) rfl
                      simp only [e15, e16, e14] at hK ⊢
                      go_simp
                      refine (majority_any A4 C2 n4 c4 q2 f2 L4 ST _ (s4.below hb) (SC.below hb) (by omega) (by omega)).mono ?_
                      rintro e w2x ⟨rfl, hb2⟩
                      exact hK _ _ (rfl) hb2 (fun h => absurd h (by decide))
                    · have e14 : x 14 = .bool false := hd ⟨14, .guard⟩ (by simp) rfl
                      simp only [e14] at hK ⊢
                      go_simp
                      exact hK _ _ (by rw [← HR.out]; rfl) (Below.refl _ _) (fun h => absurd h (by decide))
                    · have e18 : x 18 = .bool (rightB L4) := hd ⟨18, .data⟩ (by simp) rfl
                      have e14 : x 14 = .bool false := hd ⟨14, .guard⟩ (by simp) rfl
                      simp only [e18, e14] at hK ⊢
                      go_simp
                      exact hK _ _ (rfl) (Below.refl _ _) (fun h => absurd h (by decide))
                    · have e19 : x 19 = .bool (rightB L4) := hd ⟨19, .guard⟩ (by simp) rfl
                      simp only [e19] at hK ⊢
                      simp only [HR.out] at hK ⊢
                      go_simp
                      exact hK _ _ (fun h => by rw [HR.out] at h; cases h) (Below.refl _ _) (fun h => absurd h (by decide))
                    · have e19 : x 19 = .bool (rightB L4) := hd ⟨19, .guard⟩ (by simp) rfl
                      simp only [e19] at hK ⊢
                      simp only [HR.out] at hK ⊢
                      go_simp
                      exact hK _ _ (fun h => by rw [HR.out] at h; cases h) (Below.refl _ _) (fun h => absurd h (by decide))
                    · have e19 : x 19 = .bool (rightB L4) := hd ⟨19, .guard⟩ (by simp) rfl
                      simp only [e19] at hK ⊢
                      simp only [HR.out] at hK ⊢
                      go_simp
                      exact hK _ _ (fun h => by rw [HR.out] at h; cases h) (Below.refl _ _) (fun h => absurd h (by decide))
                    · have e19 : x 19 = .bool (rightB L4) := hd ⟨19, .data⟩ (by simp) rfl
                      have e14 : x 14 = .bool false := hd ⟨14, .guard⟩ (by simp) rfl
                      simp only [e19, e14] at hK ⊢
                      simp only [HR.out] at hK ⊢
                      go_simp
                      exact hK _ _ (by show _ = _; rw [majority_law, HR.out]; rfl) (Below.refl _ _) (fun h => absurd h (by decide))
                    · have e17 : x 17 = .bool (moreB (askX L4) (ofS ST)) := hd ⟨17, .data⟩ (by simp) rfl
                      have e23 : x 23 = .bool (moreB (askX L4) (ofS ST)) := hd ⟨23, .data⟩ (by simp) rfl
                      have e14 : x 14 = .bool false := hd ⟨14, .guard⟩ (by simp) rfl
                      simp only [e17, e23, e14] at hK ⊢
                      go_simp
                      exact hK _ _ (by simp [PhiAll]) (Below.refl _ _) (fun h => absurd h (by decide))
                    · have e14 : x 14 = .bool false := hd ⟨14, .data⟩ (by simp) rfl
                      have e24 : x 24 = .bool false := hd ⟨24, .data⟩ (by simp) rfl
                      simp only [e14, e24] at hK ⊢
                      go_simp
                      exact hK _ _ (rfl) (Below.refl _ _) (fun h => absurd h (by decide))
                  case fin =>
                    intro x wg hb hx _
                    have z9 := k9.below hb
                    have zx := kx.below hb
                    have t4 := s4.below hb
                    have HBg := HB.out.trans (hb.mono HB.out.size)
                    have HXg := HX.out.trans (hb.mono HX.out.size)
                    have tu := (hru.sees.below HBg).head (m := n4) (by have h1 := HLL.out; have h2 := HL4.out; have h3 := hru.sees.len; rw [h2, List.length_take] at h1; omega)
                    rw [show lu.take n4 = L4 from by have h1 := HLL.out; have h2 := HL4.out; rw [h2] at h1 ⊢; rw [List.length_take] at h1; rw [← h1]; rw [List.take_eq_take_iff]; omega] at tu
                    have c9 := z9.cell 0
                    have cx := zx.cell 0
                    simp at c9 cx
                    have hncu : n4 ≤ cu := by have h1 := HLL.out; have h2 := HL4.out; have h3 := hru.sees.len; have h4 := hru.nc; rw [h2, List.length_take] at h1; omega
                    have hncI : (n4 : Int) ≤ (cu : Int) := by omega
                    have hn4I : (0 : Int) ≤ (n4 : Int) := by omega
                    have hcum : cu ≤ 9223372036854775807 := by have h2 := hru.small; unfold maxLen at h2; omega
                    have e25 : x 25 = .bool false := hx 25 (by omega)
                    simp only [frameOf, slots, Act.put, List.setIfInBounds_toArray, List.set_cons_zero, List.set_cons_succ, e25]
                    go_upto_region 21 with fail
                    go_quiet ((go_at_call 21; exact quietA (equalInt_any A4 Au n4 c4 n4 cu L4 L4 _ (t4.drewN _) (tu.drewN _) (by omega))))
                    have hee : eqB L4 L4 = true := eqB_true rfl
                    simp only [hee, Bool.not_true]
                    clear hee
                    clear c9 cx hncI hn4I
                    go_wp2
                    go_roundw
                    case rel => exact ⟨k + 1, by omega, by go_num, below_drewN HBg _, below_drewN HXg _⟩
                    case measure => simp [intOf]; omega
    · go_wp2
      go_ret
      exact ⟨rfl, hbr⟩
end Go.Proofs.Ytonfbinkjhbpiaa.confMay

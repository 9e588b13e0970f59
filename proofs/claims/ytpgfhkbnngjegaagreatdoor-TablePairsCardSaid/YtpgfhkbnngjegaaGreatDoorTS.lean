/- slices.SortFunc at a row of one's own whose elements are one cell each: the rule. No condition. -/
import Derived.Test.YtpgfhkbnngjegaaGreatDoorTD
import Derived.Test.YtpgfhkbnngjegaaGreatDoorParR
import Derived.Test.YtpgfhkbnngjegaaGreatDoorT1
import Derived.Sort.Grow
import Derived.Shelf.SlSortCmp.NoneTotal
import Derived.Test.YtpgfhkbnngjegaaGreatDoorTB
namespace Go.Proofs.YtpgfhkbnngjegaaGreatDoor
open Go.RowKit Go.Shelf Go.Sort
set_option linter.unusedVariables false
set_option linter.unusedSimpArgs false
set_option maxRecDepth 20000

/-- Blocks are made and orders are drawn; nothing else. -/
def GQ (a b : World) : Prop := ∃ q os, b = grow (a.drewN q) os
theorem binOp_gtrS (t : TypeId) (a b : ByteArray) : binOp .gtr t (.string a) (.string b) = pure (.bool !(Op.bytesLess a.toList b.toList || a.toList == b.toList)) := by simp [binOp, Op.stringOp]
section
variable {a b c w : World}
theorem GQ.refl (w : World) : GQ w w := ⟨0, #[], by rw [grow_empty]; rfl⟩
theorem GQ.drew : GQ w w.drew := ⟨1, #[], by rw [grow_empty]; rfl⟩
theorem GQ.drewN (w : World) (n : Nat) : GQ w (w.drewN n) := ⟨n, #[], by rw [grow_empty]⟩
theorem GQ.alloc (w : World) (o : Obj) : GQ w (w.alloc o) := ⟨0, #[o], alloc_eq_grow _ _⟩
theorem GQ.trans (h : GQ a b) (h2 : GQ b c) : GQ a c := by
  obtain ⟨q, os, rfl⟩ := h
  obtain ⟨q2, os2, rfl⟩ := h2
  refine ⟨q + q2, os ++ os2, ?_⟩
  rw [← grow_grow, ← World.drewN_drewN]
  rfl
theorem GQ.size (h : GQ a b) : a.heap.size ≤ b.heap.size := by
  obtain ⟨q, os, rfl⟩ := h
  simp [grow]
theorem GQ.below (h : GQ a b) : Below a.heap.size a b := by
  refine ⟨?_, ?_, ?_, h.size, fun k hk => ?_⟩ <;> obtain ⟨q, os, rfl⟩ := h
  · rfl
  · rfl
  · rfl
  · show (a.heap ++ os)[k]? = _
    rw [Array.getElem?_append_left hk]
end
attribute [local go_sem] binOp_gtrS

set_option maxHeartbeats 1000000 in
theorem nanQ_i (x : Int) (w : World) : Calls Tryz.prog 144 #[.int .i64 x] w fun e w' => e = .returned (.bool false) ∧ w' = w := by
  go_enter Tryz.func144, Tryz.ntmps144
  go_wp2
  go_ret
  simp
set_option maxHeartbeats 1000000 in
theorem cmpQ_i (x y : Int) (w : World) : Calls Tryz.prog 106 #[.int .i64 x, .int .i64 y] w fun e w' => e = .returned (.int .i64 (cmpI x y)) ∧ w' = w := by
  have hn := fun z W => nanQ_i z W
  go_enter Tryz.func106, Tryz.ntmps106
  go_wp2_with (go_at_call 144; refine (hn _ _).mono ?_; rintro e w' ⟨rfl, rfl⟩)
  all_goals (go_ret; simp_all [cmpI]; try omega)

set_option maxHeartbeats 1000000 in
theorem nanQ_j (x : Int) (w : World) : Calls Tryz.prog 145 #[.int .i64 x] w fun e w' => e = .returned (.bool false) ∧ w' = w := by
  go_enter Tryz.func145, Tryz.ntmps145
  go_wp2
  go_ret
  simp
set_option maxHeartbeats 1000000 in
theorem cmpQ_j (x y : Int) (w : World) : Calls Tryz.prog 107 #[.int .i64 x, .int .i64 y] w fun e w' => e = .returned (.int .i64 (cmpI x y)) ∧ w' = w := by
  have hn := fun z W => nanQ_j z W
  go_enter Tryz.func107, Tryz.ntmps107
  go_wp2_with (go_at_call 145; refine (hn _ _).mono ?_; rintro e w' ⟨rfl, rfl⟩)
  all_goals (go_ret; simp_all [cmpI]; try omega)

set_option maxHeartbeats 1000000 in
theorem nanQ_s (x : ByteArray) (w : World) : Calls Tryz.prog 146 #[.string x] w fun e w' => e = .returned (.bool false) ∧ w' = w := by
  go_enter Tryz.func146, Tryz.ntmps146
  go_wp2
  go_ret
  simp
set_option maxHeartbeats 1000000 in
theorem cmpQ_s (x y : ByteArray) (w : World) : Calls Tryz.prog 108 #[.string x, .string y] w fun e w' => e = .returned (.int .i64 (cmpS (bs x) (bs y))) ∧ w' = w := by
  have hn := fun z W => nanQ_s z W
  go_enter Tryz.func108, Tryz.ntmps108
  go_wp2_with (go_at_call 146; refine (hn _ _).mono ?_; rintro e w' ⟨rfl, rfl⟩)
  all_goals (go_ret; simp only [bs_eq] at *; unfold cmpS; simp_all)

/-- What stands in the slots of value.Compare's one region. -/
def PhiC (bx bY : Nat) (x y : Int × Int × ByteArray) (i : Nat) (v : Value) (w : World) : Prop := match i with
  | 0 => v = .pointer (some ⟨bx, 0, none⟩)
  | 1 => v = .int .i64 x.1
  | 2 => v = .pointer (some ⟨bY, 0, none⟩)
  | 3 => v = .int .i64 y.1
  | 4 => v = .int .i64 (cmpI x.1 y.1)
  | 5 => v = .pointer (some ⟨bx, 1, none⟩)
  | 6 => v = .int .i64 x.2.1
  | 7 => v = .pointer (some ⟨bY, 1, none⟩)
  | 8 => v = .int .i64 y.2.1
  | 9 => v = .int .i64 (cmpI x.2.1 y.2.1)
  | 10 => v = .pointer (some ⟨bx, 2, none⟩)
  | 11 => v = .string x.2.2
  | 12 => v = .pointer (some ⟨bY, 2, none⟩)
  | 13 => v = .string y.2.2
  | 14 => v = .int .i64 (cmpS (bs x.2.2) (bs y.2.2))
  | 15 => ∃ g, v = .slice (some ⟨g, 0, none⟩) 3 3 ∧ Blk w g 3 #[.int .i64 (cmpI x.1 y.1), .int .i64 (cmpI x.2.1 y.2.1), .int .i64 (cmpS (bs x.2.2) (bs y.2.2))]
  | 16 => v = .int .i64 (orN [cmpI x.1 y.1, cmpI x.2.1 y.2.1, cmpS (bs x.2.2) (bs y.2.2)])
  | _ => v = .int .i64 (orN [cmpI x.1 y.1, cmpI x.2.1 y.2.1, cmpS (bs x.2.2) (bs y.2.2)])
theorem phiC_stab (bx bY : Nat) (x y : Int × Int × ByteArray) : ∀ i v w1 w2, PhiC bx bY x y i v w1 → GQ w1 w2 → PhiC bx bY x y i v w2 := fun i v w1 w2 h hr => by
  unfold PhiC at h ⊢
  split at h <;> first | exact h | skip
  obtain ⟨g, h1, h2⟩ := h
  exact ⟨g, h1, h2.below hr.below⟩
set_option maxHeartbeats 1000000 in
theorem orQ (x y z : Int) (g : Nat) (w : World) (h : Blk w g 3 #[.int .i64 x, .int .i64 y, .int .i64 z]) : Calls Tryz.prog 105 #[.slice (some ⟨g, 0, none⟩) 3 3] w fun e w' => e = .returned (.int .i64 (orN [x, y, z])) ∧ ∃ q, w' = w.drewN q := by
  have c0 := h.cell 0
  have c1 := h.cell 1
  have c2 := h.cell 2
  simp at c0 c1 c2
  clear h
  go_enter Tryz.func105, Tryz.ntmps105
  go_wp2
  refine wp_loop_rounds 4 ?_
  rw [rounds_succ]
  go_wp2
  · go_ret
    exact ⟨by simp_all [orN], 0, rfl⟩
  rw [rounds_succ]
  go_wp2
  · go_ret
    exact ⟨by simp_all [orN], 0, rfl⟩
  rw [rounds_succ]
  go_wp2
  · go_ret
    exact ⟨by simp_all [orN], 0, rfl⟩
  rw [rounds_succ]
  go_wp2
  go_ret
  exact ⟨by simp_all [orN], 0, rfl⟩
set_option maxHeartbeats 2000000 in
theorem cmpQ_v (a1 a2 b1 b2 : Int) (a3 b3 : ByteArray) (w : World) : Calls Tryz.prog 59 #[.agg #[.int .i64 a1, .int .i64 a2, .string a3], .agg #[.int .i64 b1, .int .i64 b2, .string b3]] w fun e w' => e = .returned (.int .i64 (orN [cmpI a1 b1, cmpI a2 b2, cmpS (bs a3) (bs b3)])) ∧ GQ w w' := by
  go_enter Tryz.func59, Tryz.ntmps59
  go_upto_region 1 with fail
  obtain ⟨W, hW⟩ : ∃ W, (w.alloc (.cells #[.int .i64 a1, .int .i64 a2, .string a3] 42)).alloc (.cells #[.int .i64 b1, .int .i64 b2, .string b3] 42) = W := ⟨_, rfl⟩
  have kx : Blk W w.heap.size 42 #[.int .i64 a1, .int .i64 a2, .string a3] := by rw [← hW]; exact (Blk.new _ _ _).alloc _
  have ky : Blk W (w.heap.size + 1) 42 #[.int .i64 b1, .int .i64 b2, .string b3] := by
    rw [← hW]
    have := Blk.new (w.alloc (.cells #[.int .i64 a1, .int .i64 a2, .string a3] 42)) 42 #[.int .i64 b1, .int .i64 b2, .string b3]
    simpa using this
  have hGW : Hid (GQ w W) := by unfold Hid; rw [← hW]; exact (GQ.alloc _ _).trans (GQ.alloc _ _)
  simp only [World.size_alloc, hW]
  clear hW
  refine wp_region_parR_all (R := GQ) 18 [5, 6, 7, 8, 9, 10, 11, 12, 13, 14, 15, 16, 17, 18, 19, 20, 21, 4] (fun _ => false) (PhiC w.heap.size (w.heap.size + 1) (a1, a2, a3) (b1, b2, b3)) GQ.drew (fun _ _ _ => GQ.trans) (fun _ _ => GQ.size) (by kernel_rfl) (by kernel_rfl) (phiC_stab _ _ _ _) ?steps ?fin
  case steps =>
    simp only [StepsParR]
    refine ⟨?_, ?_, ?_, ?_, ?_, ?_, ?_, ?_, ?_, ?_, ?_, ?_, ?_, ?_, ?_, ?_, ?_, ?_, trivial⟩
    all_goals
      intro x w1x hb hd K hK
      simp only [frameOf, slots, Act.put, List.setIfInBounds_toArray, List.set_cons_zero, List.set_cons_succ] at hK ⊢
    · go_simp
      exact hK _ _ (rfl) (GQ.refl _) (fun h => absurd h (by decide))
    · have e0 : x 0 = .pointer (some ⟨w.heap.size, 0, none⟩) := hd ⟨0, .data⟩ (by simp) rfl
      simp only [e0] at hK ⊢
      have c0 := (kx.below hb.below).cell 0
      simp at c0
      go_simp
      exact hK _ _ (rfl) (GQ.refl _) (fun h => absurd h (by decide))
    · go_simp
      exact hK _ _ (rfl) (GQ.refl _) (fun h => absurd h (by decide))
    · have e2 : x 2 = .pointer (some ⟨w.heap.size + 1, 0, none⟩) := hd ⟨2, .data⟩ (by simp) rfl
      simp only [e2] at hK ⊢
      have c0 := (ky.below hb.below).cell 0
      simp at c0
      go_simp
      exact hK _ _ (rfl) (GQ.refl _) (fun h => absurd h (by decide))
    · have e1 : x 1 = .int .i64 a1 := hd ⟨1, .data⟩ (by simp) rfl
      have e3 : x 3 = .int .i64 b1 := hd ⟨3, .data⟩ (by simp) rfl
      simp only [e1, e3] at hK ⊢
      go_simp
      refine (cmpQ_i _ _ _).mono ?_
      rintro e w2x ⟨rfl, rfl⟩
      exact hK _ _ rfl (GQ.refl _) (fun h => absurd h (by decide))
    · go_simp
      exact hK _ _ (rfl) (GQ.refl _) (fun h => absurd h (by decide))
    · have e5 : x 5 = .pointer (some ⟨w.heap.size, 1, none⟩) := hd ⟨5, .data⟩ (by simp) rfl
      simp only [e5] at hK ⊢
      have c0 := (kx.below hb.below).cell 1
      simp at c0
      go_simp
      exact hK _ _ (rfl) (GQ.refl _) (fun h => absurd h (by decide))
    · go_simp
      exact hK _ _ (rfl) (GQ.refl _) (fun h => absurd h (by decide))
    · have e7 : x 7 = .pointer (some ⟨w.heap.size + 1, 1, none⟩) := hd ⟨7, .data⟩ (by simp) rfl
      simp only [e7] at hK ⊢
      have c0 := (ky.below hb.below).cell 1
      simp at c0
      go_simp
      exact hK _ _ (rfl) (GQ.refl _) (fun h => absurd h (by decide))
    · have e6 : x 6 = .int .i64 a2 := hd ⟨6, .data⟩ (by simp) rfl
      have e8 : x 8 = .int .i64 b2 := hd ⟨8, .data⟩ (by simp) rfl
      simp only [e6, e8] at hK ⊢
      go_simp
      refine (cmpQ_j _ _ _).mono ?_
      rintro e w2x ⟨rfl, rfl⟩
      exact hK _ _ rfl (GQ.refl _) (fun h => absurd h (by decide))
    · go_simp
      exact hK _ _ (rfl) (GQ.refl _) (fun h => absurd h (by decide))
    · have e10 : x 10 = .pointer (some ⟨w.heap.size, 2, none⟩) := hd ⟨10, .data⟩ (by simp) rfl
      simp only [e10] at hK ⊢
      have c0 := (kx.below hb.below).cell 2
      simp at c0
      go_simp
      exact hK _ _ (rfl) (GQ.refl _) (fun h => absurd h (by decide))
    · go_simp
      exact hK _ _ (rfl) (GQ.refl _) (fun h => absurd h (by decide))
    · have e12 : x 12 = .pointer (some ⟨w.heap.size + 1, 2, none⟩) := hd ⟨12, .data⟩ (by simp) rfl
      simp only [e12] at hK ⊢
      have c0 := (ky.below hb.below).cell 2
      simp at c0
      go_simp
      exact hK _ _ (rfl) (GQ.refl _) (fun h => absurd h (by decide))
    · have e11 : x 11 = .string a3 := hd ⟨11, .data⟩ (by simp) rfl
      have e13 : x 13 = .string b3 := hd ⟨13, .data⟩ (by simp) rfl
      simp only [e11, e13] at hK ⊢
      go_simp
      refine (cmpQ_s _ _ _).mono ?_
      rintro e w2x ⟨rfl, rfl⟩
      exact hK _ _ rfl (GQ.refl _) (fun h => absurd h (by decide))
    · have e4 : x 4 = .int .i64 (cmpI a1 b1) := hd ⟨4, .data⟩ (by simp) rfl
      have e9 : x 9 = .int .i64 (cmpI a2 b2) := hd ⟨9, .data⟩ (by simp) rfl
      have e14 : x 14 = .int .i64 (cmpS (bs a3) (bs b3)) := hd ⟨14, .data⟩ (by simp) rfl
      simp only [e4, e9, e14] at hK ⊢
      go_simp
      exact hK _ _ ⟨_, rfl, Blk.new _ _ _⟩ (GQ.alloc _ _) (fun h => absurd h (by decide))
    · have d15 := hd ⟨15, .data⟩ (by simp) rfl
      obtain ⟨g, e15, kg⟩ := d15
      simp only [e15] at hK ⊢
      go_simp
      refine (orQ _ _ _ _ _ kg).mono ?_
      rintro e w2x ⟨rfl, q, rfl⟩
      exact hK _ _ rfl (GQ.drewN _ _) (fun h => absurd h (by decide))
    · have e16 : x 16 = .int .i64 (orN [cmpI a1 b1, cmpI a2 b2, cmpS (bs a3) (bs b3)]) := hd ⟨16, .data⟩ (by simp) rfl
      simp only [e16] at hK ⊢
      go_simp
      exact hK _ _ (rfl) (GQ.refl _) (fun h => absurd h (by decide))
  case fin =>
    intro x wg hb hx _
    have e17 : x 17 = .int .i64 (orN [cmpI a1 b1, cmpI a2 b2, cmpS (bs a3) (bs b3)]) := hx 17 (by omega)
    simp only [frameOf, slots, Act.put, List.setIfInBounds_toArray, List.set_cons_zero, List.set_cons_succ, e17]
    clear hx e17
    have hq := hGW.out.trans hb
    clear hb
    go_wp2
    go_ret
    exact ⟨rfl, hq⟩
theorem dn_rowAt {C : Cx} {b : Bool} {x : List Val} {u : Value} {k : Nat} {v : Val} (h : Dn C (.sl b (x.map vlC)) u) (hk : x[k]? = some v) : ∃ ad c, u = .slice (some ad) x.length c ∧ C.w.cell? (ad.add (k * 3)) = some (.int .i64 v.k) ∧ C.w.cell? (ad.add (k * 3 + 1)) = some (.int .i64 v.n) ∧ C.w.cell? (ad.add (k * 3 + 2)) = some (.string v.t) := by
  simp only [Dn] at h
  obtain ⟨A, c, css, sz, r1, r2, r3, r4, r5, r6, r7⟩ := h
  have hkl := (List.getElem?_eq_some_iff.1 hk).1
  rcases A with _ | ad
  · have := r4 rfl
    rw [List.map_eq_nil_iff] at this
    subst this
    simp at hkl
  · obtain ⟨cv, r12, r13⟩ := r6.at_ k (vlC v) (by rw [List.getElem?_map, hk]; rfl)
    simp only [vlC, DnL, Dn] at r13
    obtain ⟨_, _, rfl, rfl, _, _, rfl, rfl, _, _, rfl, rfl, rfl⟩ := r13
    have hsz : sz = 3 := (r5 _ (List.mem_of_getElem? r12)).symm
    subst hsz
    have h3 := fun i u hi hu => (r7 ad rfl).2 (k * 3 + i) u (flat_at 3 css k i _ r5 r12 hi |>.trans hu)
    exact ⟨ad, c, by rw [r1, List.length_map], h3 0 _ (by omega) rfl, h3 1 _ (by omega) rfl, h3 2 _ (by omega) rfl⟩
def PhiB (gk : Nat) (key : Nat) (u v : Value) (au av : Addr) (x y : Val) (i : Nat) (z : Value) (w : World) : Prop := match i with
  | 0 => z = u
  | 1 => z = .int .i64 key
  | 2 => z = .pointer (some (au.add (key * 3)))
  | 3 => z = .agg #[.int .i64 x.k, .int .i64 x.n, .string x.t]
  | 4 => z = v
  | 5 => z = .int .i64 key
  | 6 => z = .pointer (some (av.add (key * 3)))
  | 7 => z = .agg #[.int .i64 y.k, .int .i64 y.n, .string y.t]
  | _ => z = .int .i64 (cmpV x y)
theorem phiB_stab (gk : Nat) (key : Nat) (u v : Value) (au av : Addr) (x y : Val) : ∀ i z w1 w2, PhiB gk key u v au av x y i z w1 → GQ w1 w2 → PhiB gk key u v au av x y i z w2 := fun i z w1 w2 h hr => h
set_option maxHeartbeats 2000000 in
theorem byQ (key : Nat) (C : Cx) (x y : List Val) (x0 y0 : Val) (u v : Value) (gk : Nat) (hx : x[key]? = some x0) (hy : y[key]? = some y0) (hu : Dn C (.sl true (x.map vlC)) u) (hv : Dn C (.sl true (y.map vlC)) v) (hk : C.w.cell? ⟨gk, 0, none⟩ = some (.int .i64 key)) :
    Calls Tryz.prog 126 #[u, v, .pointer (some ⟨gk, 0, none⟩)] C.w fun e w' => e = .returned (.int .i64 (cmpV x0 y0)) ∧ GQ C.w w' := by
  obtain ⟨au, cu, rfl, u0, u1, u2⟩ := dn_rowAt hu hx
  obtain ⟨av, cv, rfl, v0, v1, v2⟩ := dn_rowAt hv hy
  have hxl := (List.getElem?_eq_some_iff.1 hx).1
  have hyl := (List.getElem?_eq_some_iff.1 hy).1
  obtain ⟨w, hw⟩ : ∃ w, C.w = w := ⟨_, rfl⟩
  rw [hw] at hk u0 u1 u2 v0 v1 v2 ⊢
  clear hu hv hx hy hw
  have hcl : ∀ {w' : World}, GQ w w' → ∀ {a : Addr} {z : Value}, w.cell? a = some z → w'.cell? a = some z := fun h a z hz => by
    have hlt : a.block < w.heap.size := by
      unfold World.cell? at hz
      split at hz
      · rename_i hh; exact (Array.getElem?_eq_some_iff.1 hh).1
      · cases hz
    rw [h.below.cell hlt]; exact hz
  go_enter Tryz.func126, Tryz.ntmps126
  go_upto_region 1 with fail
  refine wp_region_parR_all (R := GQ) 10 [6, 7, 8, 9, 10, 11, 12, 13, 14, 5] (fun _ => false) (PhiB gk key (.slice (some au) x.length cu) (.slice (some av) y.length cv) au av x0 y0) GQ.drew (fun _ _ _ => GQ.trans) (fun _ _ => GQ.size) (by kernel_rfl) (by kernel_rfl) (phiB_stab _ _ _ _ _ _ _ _) ?steps ?fin
  case steps =>
    simp only [StepsParR]
    refine ⟨?_, ?_, ?_, ?_, ?_, ?_, ?_, ?_, ?_, ?_, trivial⟩
    all_goals
      intro x w1x hb hd K hK
      simp only [frameOf, slots, Act.put, List.setIfInBounds_toArray, List.set_cons_zero, List.set_cons_succ] at hK ⊢
    · go_simp
      exact hK _ _ (rfl) (GQ.refl _) (fun h => absurd h (by decide))
    · have c0 := hcl hb hk
      go_simp
      exact hK _ _ (rfl) (GQ.refl _) (fun h => absurd h (by decide))
    · have e0 : x 0 = .slice (some au) _ cu := hd ⟨0, .data⟩ (by simp) rfl
      have e1 : x 1 = .int .i64 key := hd ⟨1, .data⟩ (by simp) rfl
      simp only [e0, e1] at hK ⊢
      go_simp
      exact hK _ _ (rfl) (GQ.refl _) (fun h => absurd h (by decide))
    · have e2 : x 2 = .pointer (some (au.add (key * 3))) := hd ⟨2, .data⟩ (by simp) rfl
      simp only [e2] at hK ⊢
      have c0 := hcl hb u0
      have c1 : w1x.cell? ⟨(au.add (key * 3)).block, (au.add (key * 3)).off + 1, none⟩ = some (.int .i64 x0.n) := by have h9 := hcl hb u1; rw [← addr_add] at h9; exact h9
      have c2 : w1x.cell? ⟨(au.add (key * 3)).block, (au.add (key * 3)).off + 2, none⟩ = some (.string x0.t) := by have h9 := hcl hb u2; rw [← addr_add] at h9; exact h9
      go_simp
      exact hK _ _ (rfl) (GQ.refl _) (fun h => absurd h (by decide))
    · go_simp
      exact hK _ _ (rfl) (GQ.refl _) (fun h => absurd h (by decide))
    · have c0 := hcl hb hk
      go_simp
      exact hK _ _ (rfl) (GQ.refl _) (fun h => absurd h (by decide))
    · have e4 : x 4 = .slice (some av) _ cv := hd ⟨4, .data⟩ (by simp) rfl
      have e5 : x 5 = .int .i64 key := hd ⟨5, .data⟩ (by simp) rfl
      simp only [e4, e5] at hK ⊢
      go_simp
      exact hK _ _ (rfl) (GQ.refl _) (fun h => absurd h (by decide))
    · have e6 : x 6 = .pointer (some (av.add (key * 3))) := hd ⟨6, .data⟩ (by simp) rfl
      simp only [e6] at hK ⊢
      have c0 := hcl hb v0
      have c1 : w1x.cell? ⟨(av.add (key * 3)).block, (av.add (key * 3)).off + 1, none⟩ = some (.int .i64 y0.n) := by have h9 := hcl hb v1; rw [← addr_add] at h9; exact h9
      have c2 : w1x.cell? ⟨(av.add (key * 3)).block, (av.add (key * 3)).off + 2, none⟩ = some (.string y0.t) := by have h9 := hcl hb v2; rw [← addr_add] at h9; exact h9
      go_simp
      exact hK _ _ (rfl) (GQ.refl _) (fun h => absurd h (by decide))
    · have e3 : x 3 = .agg #[.int .i64 x0.k, .int .i64 x0.n, .string x0.t] := hd ⟨3, .data⟩ (by simp) rfl
      have e7 : x 7 = .agg #[.int .i64 y0.k, .int .i64 y0.n, .string y0.t] := hd ⟨7, .data⟩ (by simp) rfl
      simp only [e3, e7] at hK ⊢
      go_simp
      refine (cmpQ_v _ _ _ _ _ _ _).mono ?_
      rintro e w2x ⟨rfl, hq⟩
      exact hK _ _ rfl hq (fun h => absurd h (by decide))
    · have e8 : x 8 = .int .i64 (cmpV x0 y0) := hd ⟨8, .data⟩ (by simp) rfl
      simp only [e8] at hK ⊢
      go_simp
      exact hK _ _ (rfl) (GQ.refl _) (fun h => absurd h (by decide))
  case fin =>
    intro x wg hb hx _
    have e17 : x 9 = .int .i64 (cmpV x0 y0) := hx 9 (by omega)
    simp only [frameOf, slots, Act.put, List.setIfInBounds_toArray, List.set_cons_zero, List.set_cons_succ, e17]
    clear hx e17
    go_wp2
    go_ret
    exact ⟨rfl, hb⟩
end Go.Proofs.YtpgfhkbnngjegaaGreatDoor

namespace Go.Proofs.YtpgfhkbnngjegaaGreatDoor
open Go.RowKit Go.Shelf Go.Sort
set_option linter.unusedVariables false
set_option linter.unusedSimpArgs false
set_option maxRecDepth 20000

/-- What is asked of slices.SortFunc. -/
structure SortC (P : Program) (f : FuncId) : Prop where
  ent : entB P f = true
  sort : ∀ (α : Type) [Inhabited α] (enc : α → Value) (cf : α → α → Int) (g : Nat) (cb : Array Value) (blk cap : Nat) (d : Array α) (w : World), OneCell enc → SWO (ltOf cf) → (∀ args w, (callFunc g args).run P w = .ok (.enter g args) w) → CmpLays1 P g cb enc cf blk 0 d.size w → Holds enc w blk 0 d → blk < w.heap.size → d.size < 4611686018427387904 →
    Calls P f #[.slice (some ⟨blk, 0, none⟩) d.size cap, .func (.func g) #[] cb] w fun e w' => e = .returned (.tuple #[]) ∧ ∃ d' n os, PermIn 0 d.size d d' ∧ SortedIn (ltOf cf) 0 d.size d' ∧ w' = sortWorld enc w blk 0 n d' os
  none : ∀ (p : Option Addr) (cap : Nat) (fv : Value) (w : World), Calls P f #[.slice p 0 cap, fv] w fun e w' => e = .returned (.tuple #[]) ∧ w' = w
section
variable {α : Type} [Inhabited α] {enc : α → Value} {w : World} {g n : Nat} {d : Array α} {os : Array Obj}
theorem sw_heap : (sortWorld enc w g 0 n d os).heap = w.heap.modify g (onCells (putCells enc 0 d)) ++ os := rfl
theorem sw_grown : w.grownBy (sortWorld enc w g 0 n d os) (some g) := by
  refine ⟨rfl, rfl, rfl, ?_, fun k hk hne => ?_⟩
  · rw [sw_heap, Array.size_append, Array.size_modify]; omega
  · rw [sw_heap, Array.getElem?_append_left (by rw [Array.size_modify]; exact hk), Array.getElem?_modify, if_neg (fun e => hne (by rw [e]))]
theorem sw_at {cur : Array Value} {ty : TypeId} {fr : Nat × Nat} (h : w.heap[g]? = some (.cells cur ty fr)) : (sortWorld enc w g 0 n d os).heap[g]? = some (.cells (putCells enc 0 d cur) ty fr) := by
  have hlt := (Array.getElem?_eq_some_iff.1 h).1
  rw [sw_heap, Array.getElem?_append_left (by rw [Array.size_modify]; exact hlt), Array.getElem?_modify, if_pos rfl, h]
  rfl
theorem putCells_take {cur : Array Value} (h : d.size ≤ cur.size) : (putCells enc 0 d cur).toList.take d.size = d.toList.map enc := by
  apply List.ext_getElem?
  intro k
  rw [List.getElem?_take, List.getElem?_map]
  by_cases hk : k < d.size
  · rw [if_pos hk]
    have h1 : d.toList[k]? = some d[k] := by rw [Array.getElem?_toList]; exact Array.getElem?_eq_getElem hk
    rw [h1]
    have hk2 : k < cur.size := by omega
    unfold putCells
    rw [Array.getElem?_toList, Array.getElem?_mapIdx, Array.getElem?_eq_getElem hk2]
    simp [hk]
  · rw [if_neg hk, Array.getElem?_toList, Array.getElem?_eq_none (by omega)]
    rfl
theorem putCells_size {cur : Array Value} : (putCells enc 0 d cur).size = cur.size := by simp [putCells]
theorem sw_own {base : Nat} {e : TypeId} {m c : Nat} {xs : List Value} (h : w.ownsRow base e 1 (.slice (some ⟨g, 0, none⟩) m c) m xs) (hd : d.size = m) : (sortWorld enc w g 0 n d os).ownsRow base e 1 (.slice (some ⟨g, 0, none⟩) m c) m (d.toList.map enc) := by
  refine ⟨by simp [hd], ?_⟩
  rcases h.2 with ⟨hv, _⟩ | ⟨g', cap, cur, hv, h1, h2, h3, h4, h5, h6⟩
  · cases hv
  · injection hv with hv1 _ hv2
    injection hv1 with hv1
    injection hv1 with hv1
    subst hv1 hv2
    refine .inr ⟨g, c, _, rfl, h1, sw_at h2, h3, h4, by rw [putCells_size]; exact h5, ?_⟩
    subst hd
    rw [Nat.mul_one]
    exact putCells_take (by rw [h5]; omega)
end
/-- A value that reads as an element of a list. -/
abbrev SortA (C : Cx) {β : Type} (t : β → TV) (L : List β) := {p : Value × β // Dn C (t p.2) p.1 ∧ p.2 ∈ L}
theorem dnll_pairs {C : Cx} {β : Type} {t : β → TV} {L : List β} : ∀ {l : List β} {css : List (List Value)}, (∀ x ∈ l, x ∈ L) → DnLL C (l.map fun x => [t x]) css → ∃ ps : List (SortA C t L), css = ps.map (fun a => [a.1.1]) ∧ ps.map (fun a => a.1.2) = l
  | [], css, _, h => by
    simp only [List.map_nil, DnLL] at h
    exact ⟨[], by simp [h], rfl⟩
  | x :: l, css, hm, h => by
    simp only [List.map_cons, DnLL, DnL] at h
    obtain ⟨u, us, rfl, ⟨v, vs, rfl, h1, rfl⟩, h2⟩ := h
    obtain ⟨ps, rfl, h4⟩ := dnll_pairs (l := l) (fun y hy => hm y (by simp [hy])) h2
    exact ⟨⟨(v, x), h1, hm x (by simp)⟩ :: ps, rfl, by simp [h4]⟩
theorem pairs_dnll {C C' : Cx} {β : Type} {t : β → TV} {L : List β} (K : Keeps C C') : ∀ (ps : List (SortA C t L)), DnLL C' ((ps.map fun a => a.1.2).map fun x => [t x]) (ps.map fun a => [a.1.1])
  | [] => by simp [DnLL]
  | a :: ps => by
    simp only [List.map_cons, DnLL, DnL]
    exact ⟨_, _, rfl, ⟨_, _, rfl, Dn.keep K _ _ a.2.1, rfl⟩, pairs_dnll K ps⟩
theorem flat_one {β : Type} (f : β → Value) : ∀ l : List β, (l.map fun a => [f a]).flatten = l.map f
  | [] => rfl
  | a :: l => by simp [flat_one f l]
theorem swo_of {α β : Type} {cf : β → β → Int} (h : SWO (ltOf cf)) (p : α → β) : SWO (ltOf fun a b : α => cf (p a) (p b)) := ⟨fun x => h.irrefl _, fun x y z => h.trans _ _ _, fun x y z => h.ntrans _ _ _⟩
theorem perm_in {α : Type} [Inhabited α] {d d' : Array α} (h : PermIn 0 d.size d d') : d'.size = d.size ∧ d'.toList.Perm d.toList := by
  obtain ⟨h1, _, h3⟩ := h
  refine ⟨h1, ?_⟩
  rw [Array.extract_size, ← h1, Array.extract_size] at h3
  exact h3
theorem sorted_in {α : Type} [Inhabited α] {lt : α → α → Bool} {d : Array α} {m : Nat} (hm : d.size = m) (h : SortedIn lt 0 m d) : d.toList.Pairwise fun a b => lt b a = false := by
  rw [List.pairwise_iff_getElem]
  intro i j hi hj hij
  have hi' : i < d.size := by simpa using hi
  have hj' : j < d.size := by simpa using hj
  have := h i j (Nat.zero_le _) hij (by omega)
  rw [getElem!_pos d i hi', getElem!_pos d j hj'] at this
  simpa using this
section
variable {P : Program} {B : Nat} {w0 : World} {T : Tab} {n : Nat} {e : Env} {h : List XLB} {gs : Frames}
set_option maxHeartbeats 1000000 in
theorem WCall.sort {f : FuncId} (hC : SortC P f) {i j : Nat} {e0 : TypeId} {β : Type} {t : β → TV} {l : List β} {hp : NlLL (l.map fun x => [t x])} {g : FuncId} {tk : TypeId} {kv : Value} {hkv : Nl (.v kv)} {cf : β → β → Int} {dst : Option Tmp} {K : KK}
    (hgE : ∀ args w, (callFunc g args).run P w = .ok (.enter g args) w) (hO : SWO (ltOf cf)) (hi : hget h i = .row e0 1 (l.map fun x => [t x]) hp) (hj : hget h j = .cells tk [.p (.v kv) hkv]) (hn : l.length ≤ 1000000) (h1 : ∀ x ∈ l, (t x).one = true) (hl : ∀ x, Nl (t x))
    (hcmp : ∀ (C : Cx) (x y : β) (u v : Value) (gk : Nat), x ∈ l → y ∈ l → Dn C (t x) u → Dn C (t y) v → C.w.cell? ⟨gk, 0, none⟩ = some kv → Calls P g #[u, v, .pointer (some ⟨gk, 0, none⟩)] C.w fun e w' => e = .returned (.int .i64 (cf x y)) ∧ GQ C.w w')
    (hx : ∀ l' : List β, l'.Perm l → l'.Pairwise (fun a b => ¬ cf b a < 0) → setK h i (.row e0 1 (l'.map fun x => [t x]) (.map fun x _ => .cons (hl x) .nil)) fun h' => putK n e dst .any fun e' => K e' h' gs) :
    WCall P B w0 f [.row i, .fu (.func g) [.ptr j 0]] n e h gs dst K := ⟨by
  intro gh Q ops rest o cl fop cvs hg ho hcl hf hvs hdst hK ρ a w hr
  subst hdst
  have hi2 : Go.Proofs.YtpgfhkbnngjegaaGreatDoor.hf (h.map XLB.den) i = .row e0 1 (l.map fun x => [t x]) := by rw [← hget_den, hi]; rfl
  have hj2 : Go.Proofs.YtpgfhkbnngjegaaGreatDoor.hf (h.map XLB.den) j = .cells tk [.v kv] := by rw [← hget_den, hj]; rfl
  have HR : Rel B w0 ρ (Go.Proofs.YtpgfhkbnngjegaaGreatDoor.hf (h.map XLB.den)) w := hr.rel
  refine wpList_plain hg fun K0 hK0 => ?_
  have e1 : XV.denL [XV.row i, .fu (.func g) [.ptr j 0]] = cl.args.toList.map (tev (toL n e)) ++ XV.denL cvs := by rw [hvs, denL_map (_ ++ _), List.map_append, ← denL_map, ← denL_map, evL_den]
  have g1 := tev_dn hr.slots fop
  rw [show (xst n e h gs).s = toL n e from rfl, hf] at g1
  simp only [Dn] at g1
  obtain ⟨cv, g2, g3⟩ := g1
  have g4 : DnL (cxOf B ρ (Go.Proofs.YtpgfhkbnngjegaaGreatDoor.hf (h.map XLB.den)) w) (cl.args.toList.map (tev (toL n e)) ++ XV.denL cvs) (cl.args.toList.map a.eval ++ cv) := (eval_list _ fun x _ => tev_dn hr.slots x).append g3
  rw [← e1] at g4
  simp only [XV.denL, XV.den, DnL, Dn] at g4
  obtain ⟨u0, us0, e2, ⟨_, rfl⟩, u1, us1, rfl, ⟨vs1, rfl, u2, us2, rfl, ⟨_, gk, hgk, rfl⟩, rfl⟩, rfl⟩ := g4
  obtain ⟨A, c, css, r1, r2, r3, r4⟩ := HR.row i _ _ _ hi2
  obtain ⟨gk2, kvs, k1, k2, k3, k4⟩ := HR.blk j _ _ hj2
  have hgk2 : gk2 = gk := by
    have hgk' : blkOf (ρ j) = some gk := hgk
    rw [k1] at hgk'
    injection hgk'
  subst hgk2
  simp only [DnL, Dn] at k4
  obtain ⟨_, _, rfl, rfl, rfl⟩ := k4
  rw [show (cxOf B ρ (Go.Proofs.YtpgfhkbnngjegaaGreatDoor.hf (h.map XLB.den)) w).ρ i = ρ i from rfl] at e2
  unfold Oper.wp
  rw [call_run ho hcl g2 hC.ent]
  unfold Oper.upon
  rw [List.length_map] at r1 r2
  have e3 : (cl.args.map a.eval ++ cv.toArray) = #[.slice A l.length c, .func (.func g) #[] #[.pointer (some ⟨gk2, 0, none⟩)]] := by
    apply Array.ext'
    rw [r1] at e2
    simpa using e2
  rw [e3]
  by_cases hne : l = []
  · subst hne
    refine (hC.none _ _ _ _).mono ?_
    rintro e' w' ⟨rfl, rfl⟩
    have hh := hx [] (.refl _) .nil
    have hh := setK_ok hh
    obtain ⟨e'', he', hh⟩ := putK_ok hh
    refine hK0 _ _ (hK _ _ _ hh ρ _ _ ?_)
    have hhs : (h.set i (.row e0 1 (([] : List β).map fun x => [t x]) (.map fun x _ => .cons (hl x) .nil))).map XLB.den = h.map XLB.den := by
      rw [hset_den (by rw [hi])]
    have e4 : xst n e'' (h.set i (.row e0 1 (([] : List β).map fun x => [t x]) (.map fun x _ => .cons (hl x) .nil))) gs = ⟨putO (toL n e) o.dst .any, h.map XLB.den, denG gs⟩ := by
      simp only [xst, he', hhs, XV.den]
    rw [e4]
    refine ⟨?_, hr.ghost, HR, by rw [put_defers]; exact hr.defers⟩
    exact put_dn hr.slots (by simp [Dn])
  · obtain ⟨g0, hA⟩ : ∃ g0, A = some ⟨g0, 0, none⟩ := by
      rw [r1] at r2
      rcases r2.2 with ⟨_, h0⟩ | ⟨g', cap, cur, hv, _⟩
      · exact absurd (List.eq_nil_of_length_eq_zero h0) hne
      · injection hv with hv; exact ⟨g', hv⟩
    subst hA
    have R2 := r2
    rw [r1] at R2
    have hgb : blkOf (ρ i) = some g0 := by rw [r1]; rfl
    have hih : (Go.Proofs.YtpgfhkbnngjegaaGreatDoor.hf (h.map XLB.den) i).here := by rw [hi2]; trivial
    have hjh : (Go.Proofs.YtpgfhkbnngjegaaGreatDoor.hf (h.map XLB.den) j).here := by rw [hj2]; trivial
    have hgkne : gk2 ≠ g0 := fun e => by
      subst e
      have := HR.sep i j gk2 hih hjh hgb (by rw [k1]; rfl)
      subst this
      rw [hi2] at hj2
      cases hj2
    have hBg : B ≤ g0 := by
      rcases R2.2 with ⟨hv, _⟩ | ⟨g', cap, cur, hv, hb, _⟩
      · cases hv
      · injection hv with hv; injection hv with hv; injection hv with hv; rw [hv]; exact hb
    have hlt := HR.inj i g0 hih hgb
    obtain ⟨ps, rfl, hps⟩ := dnll_pairs (L := l) (fun x hx => hx) r4
    have : Inhabited (SortA (cxOf B ρ (Go.Proofs.YtpgfhkbnngjegaaGreatDoor.hf (h.map XLB.den)) w) t l) := by
      cases ps with
      | nil => exact absurd hps.symm hne
      | cons a _ => exact ⟨a⟩
    have hpl : ps.toArray.size = l.length := by
      have := congrArg List.length hps
      simpa using this
    rw [flat_one (fun a : SortA (cxOf B ρ (Go.Proofs.YtpgfhkbnngjegaaGreatDoor.hf (h.map XLB.den)) w) t l => a.1.1)] at R2 r2
    have hKw : ∀ {w2 : World}, w.grownBy w2 (some g0) → Keeps (cxOf B ρ (Go.Proofs.YtpgfhkbnngjegaaGreatDoor.hf (h.map XLB.den)) w) (cxOf B ρ (updf (Go.Proofs.YtpgfhkbnngjegaaGreatDoor.hf (h.map XLB.den)) i (Go.Proofs.YtpgfhkbnngjegaaGreatDoor.hf (h.map XLB.den) i)) w2) := fun hg2 => .put hih hih hgb hg2 (by rw [hi2]; trivial)
    have hupd : updf (Go.Proofs.YtpgfhkbnngjegaaGreatDoor.hf (h.map XLB.den)) i (Go.Proofs.YtpgfhkbnngjegaaGreatDoor.hf (h.map XLB.den) i) = Go.Proofs.YtpgfhkbnngjegaaGreatDoor.hf (h.map XLB.den) := by
      funext k
      by_cases hk : k = i
      · subst hk; rw [updf_same]
      · rw [updf_ne _ _ hk]
    rw [hupd] at hKw
    have hraw := hC.sort (SortA (cxOf B ρ (Go.Proofs.YtpgfhkbnngjegaaGreatDoor.hf (h.map XLB.den)) w) t l) (fun a => a.1.1) (fun a b => cf a.1.2 b.1.2) g #[.pointer (some ⟨gk2, 0, none⟩)] g0 c ps.toArray w
      (fun a => HR.one a.2.1 (h1 _ a.2.2)) (swo_of hO fun a : SortA (cxOf B ρ (Go.Proofs.YtpgfhkbnngjegaaGreatDoor.hf (h.map XLB.den)) w) t l => a.1.2) hgE
      (fun m os dk hdk x y => by
        have hgw : w.grownBy (sortWorld (fun a : SortA (cxOf B ρ (Go.Proofs.YtpgfhkbnngjegaaGreatDoor.hf (h.map XLB.den)) w) t l => a.1.1) w g0 0 m dk os) (some g0) := sw_grown
        have hkk := (k2.grown hgw (fun e => hgkne (by injection e with e; exact e.symm))).cell 0
        refine (hcmp (cxOf B ρ (Go.Proofs.YtpgfhkbnngjegaaGreatDoor.hf (h.map XLB.den)) _) x.1.2 y.1.2 x.1.1 y.1.1 gk2 x.2.2 y.2.2 (Dn.keep (hKw hgw) _ _ x.2.1) (Dn.keep (hKw hgw) _ _ y.2.1) hkk).mono ?_
        rintro e' w' ⟨rfl, q, os', hq⟩
        exact ⟨rfl, q, os', hq⟩)
      (fun k hk => by
        have hk' : k < l.length := by rw [← hpl]; exact hk
        rcases R2.2 with ⟨hv, _⟩ | ⟨g', cap, cur, hv, hb, hcur, hq1, hq2, hq3, hq4⟩
        · cases hv
        injection hv with hv1 _ hv2
        injection hv1 with hv1
        injection hv1 with hv1
        subst hv1 hv2
        rw [Nat.mul_one] at hq4
        have hB : Blk w g0 e0 cur := hcur
        refine ⟨?_, by rw [Nat.zero_add]; exact hB.frozen k⟩
        rw [Nat.zero_add, hB.cell k]
        have hpk : k < ps.length := by simpa using hk
        have e5 : (cur.toList.take l.length)[k]? = some (ps[k].1.1) := by rw [hq4, List.getElem?_map, List.getElem?_eq_getElem hpk]; rfl
        rw [List.getElem?_take, if_pos hk', Array.getElem?_toList] at e5
        rw [e5, getElem!_pos ps.toArray k hk]
        simp)
      hlt (by rw [hpl]; omega)
    rw [hpl] at hraw
    refine hraw.mono ?_
    rintro e' w' ⟨rfl, d', n', os, hpm, hsd, rfl⟩
    rw [← hpl] at hpm
    obtain ⟨hsz, hperm⟩ := perm_in hpm
    have hsort := sorted_in (by rw [hsz, hpl]) hsd
    have hh := hx (d'.toList.map fun a => a.1.2) ((hperm.map _).trans (List.Perm.of_eq hps)) (by
      rw [List.pairwise_map]
      refine hsort.imp fun {a b} hab => ?_
      unfold ltOf at hab
      simpa using hab)
    have hh := setK_ok hh
    obtain ⟨e'', he', hh⟩ := putK_ok hh
    have hgw : w.grownBy (sortWorld (fun a : SortA (cxOf B ρ (Go.Proofs.YtpgfhkbnngjegaaGreatDoor.hf (h.map XLB.den)) w) t l => a.1.1) w g0 0 n' d' os) (some g0) := sw_grown
    have hdl : d'.toList.length = l.length := by rw [← hpl, ← hsz]; simp
    have hil : i < (h.map XLB.den).length := hf_lt hi2 (by simp)
    have KK : Keeps (cxOf B ρ (Go.Proofs.YtpgfhkbnngjegaaGreatDoor.hf (h.map XLB.den)) w) (cxOf B ρ (updf (Go.Proofs.YtpgfhkbnngjegaaGreatDoor.hf (h.map XLB.den)) i (.row e0 1 ((d'.toList.map fun a => a.1.2).map fun x => [t x]))) (sortWorld (fun a : SortA (cxOf B ρ (Go.Proofs.YtpgfhkbnngjegaaGreatDoor.hf (h.map XLB.den)) w) t l => a.1.1) w g0 0 n' d' os)) := .put hih trivial hgb hgw
    refine hK0 _ _ (hK _ _ _ hh ρ _ _ ?_)
    have e4 : xst n e'' (h.set i (.row e0 1 ((d'.toList.map fun a => a.1.2).map fun x => [t x]) (.map fun x _ => .cons (hl x) .nil))) gs = ⟨putO (toL n e) o.dst .any, (h.map XLB.den).set i (.row e0 1 ((d'.toList.map fun a => a.1.2).map fun x => [t x])), denG gs⟩ := by
      simp only [xst, he', List.map_set]
      rfl
    rw [e4]
    refine ⟨?_, ?_, ?_, by rw [put_defers]; exact hr.defers⟩
    · simp only [hf_set hil]
      exact put_dn (DnL.keep KK _ _ hr.slots) (by simp [Dn])
    · simp only [hf_set hil]
      exact DnL.keep KK _ _ hr.ghost
    · simp only [hf_set hil]
      refine HR.put hih trivial hgb hBg hgw (fun t cs e => by cases e) (fun e sz els e5 => ?_)
      injection e5 with e5 e6 e7
      subst e5 e6 e7
      refine ⟨some ⟨g0, 0, none⟩, c, d'.toList.map fun a => [a.1.1], by rw [r1]; simp only [List.length_map, hdl], ?_, fun x hx => by obtain ⟨y, _, rfl⟩ := List.mem_map.1 hx; rfl, pairs_dnll KK _⟩
      rw [r1, flat_one (fun a : SortA (cxOf B ρ (Go.Proofs.YtpgfhkbnngjegaaGreatDoor.hf (h.map XLB.den)) w) t l => a.1.1)]
      simp only [List.length_map, hdl]
      exact sw_own R2 (by rw [hsz, hpl])⟩
end
end Go.Proofs.YtpgfhkbnngjegaaGreatDoor

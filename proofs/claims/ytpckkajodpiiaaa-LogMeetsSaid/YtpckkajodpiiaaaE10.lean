/- The log of the entries between two spots. No condition. -/
import Derived.Test.YtpckkajodpiiaaaE9
namespace Go.Proofs.Ytpckkajodpiiaaa
open Go.RowKit
set_option linter.unusedVariables false
set_option linter.unusedSimpArgs false

theorem OwnE.mono {w : World} {base base' n c : Nat} {A : Option Addr} {ps : List EP} (h : OwnE w base A n c ps) (hb : base' ≤ base) : OwnE w base' A n c ps := ⟨own_mono h.1 hb, fun p hp => ⟨(h.2 p hp).1, (h.2 p hp).2.1, fun ad ha => ⟨Nat.le_trans hb ((h.2 p hp).2.2 ad ha).1, ((h.2 p hp).2.2 ad ha).2⟩⟩⟩
theorem OwnE.far {w : World} {base n c g : Nat} {A : Option Addr} {ps : List EP} {t : TypeId} {cs : Array Value} (h : OwnE w base A n c ps) (hk : Blk w g t cs) (h1 : 46 ≠ t) (h2 : 5 ≠ t) (i : Nat) (u : Value) : OwnE (w.setCell ⟨g, i, none⟩ u) base A n c ps :=
  ⟨own_grown1 h.1 (grown_set _ g i u) (own_apart h.1 hk h1), fun p hp => (h.2 p hp).far (hk.apart (h.2 p hp).2.1 h2) u⟩
/-- What the region of part knows of each of its slots. -/
def PhiPart (i t : Int) (A : Option Addr) (n c : Nat) (ps : List EP) (f u g base : Nat) (sl : Value) : Nat → Value → World → Prop
  | 0, v, _ => v = logV i t A n c
  | 1, v, _ => v = .int .i64 f
  | 2, v, _ => v = atV (spotN i t (es ps) f)
  | 3, v, _ => v = .pointer (some ⟨g, 0, none⟩)
  | 4, v, _ => v = .pointer (some ⟨g, 2, none⟩)
  | 5, v, _ => v = .slice A n c
  | 6, v, _ => v = .int .i64 f
  | 7, v, _ => v = .int .i64 u
  | 8, v, _ => v = .int .i64 u
  | 9, v, _ => v = sl
  | 10, v, w => ∃ A' c' qs, v = .slice A' (u - f) c' ∧ es qs = es ((ps.take u).drop f) ∧ OwnE w base A' (u - f) c' qs
  | 11, v, w => ∃ A' c' qs, v = logV (spotN i t (es ps) f).1 (spotN i t (es ps) f).2 A' (u - f) c' ∧ es qs = es ((ps.take u).drop f) ∧ OwnE w base A' (u - f) c' qs
  | 12, v, w => ∃ A' c' qs, v = logV (spotN i t (es ps) f).1 (spotN i t (es ps) f).2 A' (u - f) c' ∧ es qs = es ((ps.take u).drop f) ∧ OwnE w base A' (u - f) c' qs
  | _, _, _ => True
theorem phiPart_stab (i t : Int) (A : Option Addr) (n c : Nat) (ps : List EP) (f u g base : Nat) (sl : Value) (j : Nat) (v : Value) (w1 w2 : World)
    (h : PhiPart i t A n c ps f u g base sl j v w1) (hb : Below w1.heap.size w1 w2) : PhiPart i t A n c ps f u g base sl j v w2 := by
  by_cases h1 : j = 10 ∨ j = 11 ∨ j = 12
  · rcases h1 with rfl | rfl | rfl <;>
    · obtain ⟨A', c', qs, e, h2, h3⟩ := h
      exact ⟨A', c', qs, e, h2, h3.below hb⟩
  · unfold PhiPart at h ⊢
    split <;> simp_all

set_option maxRecDepth 20000 in
set_option maxHeartbeats 4000000 in
theorem part_any {e2 : Option TypeId} (i t : Int) (A : Option Addr) (n c : Nat) (ps : List EP) (f u : Nat) (w : World) (hs : SeesE w e2 A n ps) (hnc : n ≤ c) (hn : n ≤ 1000000000) (hft : f ≤ u) (hun : u ≤ n) (hi0 : 0 ≤ i) (hi1 : i < 18446744073709551616) (hdl : ∀ p ∈ ps, p.n ≤ 1000000000000) :
    Calls Try.prog 49 #[logV i t A n c, .int .i64 f, .int .i64 u] w fun e w' => ∃ A' c' qs, e = .returned (logV (spotN i t (es ps) f).1 (spotN i t (es ps) f).2 A' (u - f) c') ∧ es qs = es ((ps.take u).drop f) ∧ OwnE w' w.heap.size A' (u - f) c' qs ∧ Below w.heap.size w w' := by
  have HB := Lib.hid (((Below.refl _ w).alloc (Nat.le_refl _) (.cells #[.int .u64 i, .int .u64 t, .slice A n c] 79)).alloc (by simp) (.cells #[.int .u64 0, .int .u64 0, .slice none 0 0] 79))
  have hs' := (hs.alloc (.cells #[.int .u64 i, .int .u64 t, .slice A n c] 79)).alloc (.cells #[.int .u64 0, .int .u64 0, .slice none 0 0] 79)
  have k3 := (Blk.new w 79 #[.int .u64 i, .int .u64 t, .slice A n c]).alloc (.cells #[.int .u64 0, .int .u64 0, .slice none 0 0] 79)
  have k6 := Blk.new (w.alloc (.cells #[.int .u64 i, .int .u64 t, .slice A n c] 79)) 79 #[.int .u64 0, .int .u64 0, .slice none 0 0]
  simp only [World.size_alloc] at k6
  have HSP := fun w hs' => @spot_any e2 i t A n c ps f w hs' hn (Nat.le_trans hft hun) hi0 hi1
  unfold logV at HSP
  unfold logV
  have HSL : Hid (SeesE w e2 (if u = f then A else A.map (·.add (f * 3))) (u - f) ((ps.take u).drop f)) := (hs.take hun).drop hft (Nat.le_refl _)
  go_enter Try.func49, Try.ntmps49
  go_upto_region 1 with fail
  refine wp_region_par_tail 13 [7, 8, 9, 10, 11, 12, 13, 14, 15, 16, 17, 18, 19] (fun _ => false) (PhiPart i t A n c ps f u w.heap.size w.heap.size (.slice (if u = f then A else A.map (·.add (f * 3))) (u - f) (u - f))) (by kernel_rfl) (by kernel_rfl) (phiPart_stab _ _ _ _ _ _ _ _ _ _ _) ?steps ?fin
  case steps =>
    simp only [List.take_succ_cons, List.take_zero, StepsPar]
    refine ⟨?_, ?_, ?_, ?_, ?_, ?_, ?_, ?_, ?_, ?_, ?_, ?_, ?_, trivial⟩
    all_goals
      intro x w1x hb hd K hK
      simp only [frameOf, slots, Act.put, List.setIfInBounds_toArray, List.set_cons_zero, List.set_cons_succ] at hK ⊢
    · have k := k3.below hb
      have c0 := k.cell 0
      have c1 := k.cell 1
      have c2 := k.cell 2
      simp at c0 c1 c2
      clear k
      go_simp
      exact hK _ _ (rfl) (Below.refl _ _) (fun h => absurd h (by decide))
    · go_simp
      exact hK _ _ (rfl) (Below.refl _ _) (fun h => absurd h (by decide))
    · have e0 : x 0 = .agg #[.int .u64 i, .int .u64 t, .slice A n c] := hd ⟨0, .data⟩ (by simp) rfl
      have e1 : x 1 = .int .i64 f := hd ⟨1, .data⟩ (by simp) rfl
      simp only [e0, e1] at hK ⊢
      go_simp
      refine (HSP w1x (hs'.below hb)).mono ?_
      rintro e w2x ⟨rfl, hb2⟩
      exact hK _ _ rfl hb2 (fun h => absurd h (by decide))
    · go_simp
      exact hK _ _ (rfl) (Below.refl _ _) (fun h => absurd h (by decide))
    · have e3 : x 3 = .pointer (some ⟨w.heap.size, 0, none⟩) := hd ⟨3, .data⟩ (by simp) rfl
      simp only [e3] at hK ⊢
      go_simp
      exact hK _ _ (rfl) (Below.refl _ _) (fun h => absurd h (by decide))
    · have e4 : x 4 = .pointer (some ⟨w.heap.size, 2, none⟩) := hd ⟨4, .data⟩ (by simp) rfl
      simp only [e4] at hK ⊢
      have k := k3.below hb
      have c0 := k.cell 0
      have c1 := k.cell 1
      have c2 := k.cell 2
      simp at c0 c1 c2
      clear k
      go_simp
      exact hK _ _ (rfl) (Below.refl _ _) (fun h => absurd h (by decide))
    · go_simp
      exact hK _ _ (rfl) (Below.refl _ _) (fun h => absurd h (by decide))
    · go_simp
      exact hK _ _ (rfl) (Below.refl _ _) (fun h => absurd h (by decide))
    · go_simp
      exact hK _ _ (rfl) (Below.refl _ _) (fun h => absurd h (by decide))
    · have e5 : x 5 = .slice A n c := hd ⟨5, .data⟩ (by simp) rfl
      have e6 : x 6 = .int .i64 f := hd ⟨6, .data⟩ (by simp) rfl
      have e7 : x 7 = .int .i64 u := hd ⟨7, .data⟩ (by simp) rfl
      have e8 : x 8 = .int .i64 u := hd ⟨8, .data⟩ (by simp) rfl
      simp only [e5, e6, e7, e8] at hK ⊢
      have huc : u ≤ c := by omega
      go_simp
      exact hK _ _ rfl (Below.refl _ _) (fun h => absurd h (by decide))
    · have e9 : x 9 = .slice (if u = f then A else A.map (·.add (f * 3))) (u - f) (u - f) := hd ⟨9, .data⟩ (by simp) rfl
      simp only [e9] at hK ⊢
      go_simp
      refine (cloned_any _ (u - f) (u - f) ((ps.take u).drop f) w1x (HSL.out.below (HB.out.trans (hb.mono HB.out.size))) (by omega) (fun p hp => hdl p (List.mem_of_mem_take (List.mem_of_mem_drop hp)))).mono ?_
      rintro e w2x ⟨A2, c2, qs, rfl, h1, h2, hb2⟩
      exact hK _ _ ⟨A2, c2, qs, rfl, h1, h2.mono (by have := hb.size; simp at this; omega)⟩ hb2 (fun h => absurd h (by decide))
    · have e2 : x 2 = atV (spotN i t (es ps) f) := hd ⟨2, .data⟩ (by simp) rfl
      have d10 := hd ⟨10, .data⟩ (by simp) rfl
      simp only [e2] at hK ⊢
      obtain ⟨A2, c2, qs, e10, h1, h2⟩ := d10
      simp only [e10] at hK ⊢
      unfold atV at hK ⊢
      go_simp
      exact hK _ _ ⟨A2, c2, qs, rfl, h1, h2⟩ (Below.refl _ _) (fun h => absurd h (by decide))
    · have d11 := hd ⟨11, .data⟩ (by simp) rfl
      obtain ⟨A2, c2, qs, e11, h1, h2⟩ := d11
      simp only [e11, logV] at hK ⊢
      go_simp
      exact hK _ _ ⟨A2, c2, qs, rfl, h1, h2⟩ (Below.refl _ _) (fun h => absurd h (by decide))
  case fin =>
    intro x wg hb hx _
    obtain ⟨A2, c2, qs, e12, h1, h2⟩ := hx 12 (by omega)
    simp only [frameOf, slots, Act.put, List.setIfInBounds_toArray, List.set_cons_zero, List.set_cons_succ, List.drop_succ_cons, List.drop_zero, e12, logV]
    clear hx e12
    have k := k6.below hb
    have c0 := k.cell 0
    have c1 := k.cell 1
    have c2x := k.cell 2
    have f0 := k.frozen 0
    have f1 := k.frozen 1
    have f2 := k.frozen 2
    simp at c0 c1 c2x
    replace HB := Lib.hid (HB.out.trans (hb.mono HB.out.size))
    obtain ⟨sp, hsp⟩ : ∃ sp, spotN i t (es ps) f = sp := ⟨_, rfl⟩
    have HE := Lib.hid hsp
    rw [hsp]
    clear hsp hb HSP HSL
    go_wp2
    have ka := k.put 0 (.int .u64 sp.1)
    have kb := ka.put 1 (.int .u64 sp.2)
    have kc := kb.put 2 (.slice A2 (u - f) c2)
    have r0 := kc.cell 0
    have r1 := kc.cell 1
    have r2 := kc.cell 2
    simp at r0 r1 r2
    refine bodyPost_ret (v := .agg #[.int .u64 sp.1, .int .u64 sp.2, .slice A2 (u - f) c2]) (by simp [results, Try.results49, go_sem, r0, r1, r2]) rfl ?_
    exact ⟨A2, c2, qs, by rw [HE.out], h1, ((h2.far k (by decide) (by decide) _ _).far ka (by decide) (by decide) _ _).far kb (by decide) (by decide) _ _, ((HB.out.setCell (by simp) _).setCell (by simp) _).setCell (by simp) _⟩
end Go.Proofs.Ytpckkajodpiiaaa

/- A log's end; Check and Last. No condition. -/
import Derived.Test.YtpckkajodpiiaaaE6
namespace Go.Proofs.Ytpckkajodpiiaaa
open Go.RowKit
set_option linter.unusedVariables false
set_option linter.unusedSimpArgs false

set_option maxHeartbeats 1600000 in
theorem end_any {e2 : Option TypeId} (i t : Int) (A : Option Addr) (n c : Nat) (ps : List EP) (w : World) (hs : SeesE w e2 A n ps) (hn : n ≤ 1000000000) (hi0 : 0 ≤ i) (hi1 : i < 18446744073709551616) :
    Calls Try.prog 47 #[logV i t A n c] w fun e w' => e = .returned (atV (spotN i t (es ps) n)) ∧ Below w.heap.size w w' := by
  have HB := Lib.hid (((Below.refl _ w).alloc (Nat.le_refl _) (.cells #[.int .u64 i, .int .u64 t, .slice A n c] 79)).alloc (by simp) (.cells #[.int .u64 0, .int .u64 0] 24))
  have hs' := (hs.alloc (.cells #[.int .u64 i, .int .u64 t, .slice A n c] 79)).alloc (.cells #[.int .u64 0, .int .u64 0] 24)
  have k2 := Blk.new (w.alloc (.cells #[.int .u64 i, .int .u64 t, .slice A n c] 79)) 24 #[.int .u64 0, .int .u64 0]
  simp only [World.size_alloc] at k2
  have HSP := @spot_any e2 i t A n c ps n
  unfold logV at HSP ⊢
  go_enter Try.func47, Try.ntmps47
  go_wp2_with fail
  refine (HSP _ hs' hn (Nat.le_refl _) hi0 hi1).mono ?_
  rintro e x1 ⟨rfl, hb1⟩
  clear HSP
  replace HB := Lib.hid (HB.out.trans (hb1.mono HB.out.size))
  have k3 := k2.below hb1
  obtain ⟨sp, hsp⟩ : ∃ sp, spotN i t (es ps) n = sp := ⟨_, rfl⟩
  rw [hsp]
  have HE := Lib.hid hsp
  clear hsp
  unfold atV
  have f0 := k3.frozen 0
  have f1 := k3.frozen 1
  have c0 := k3.cell 0
  have c1 := k3.cell 1
  simp at c0 c1
  go_wp2
  have k4 := (k3.put 0 (.int .u64 sp.1)).put 1 (.int .u64 sp.2)
  have r0 := k4.cell 0
  have r1 := k4.cell 1
  simp at r0 r1
  refine bodyPost_ret (v := .agg #[.int .u64 sp.1, .int .u64 sp.2]) (by simp [results, Try.results47, go_sem, r0, r1]) rfl ?_
  exact ⟨by rw [HE.out]; rfl, (HB.out.setCell (by simp) _).setCell (by simp) _⟩

def lastT (t : Int) (l : List Ent) : Int := (spotN 0 t l l.length).2
/-- What Check says. -/
def lcheckE (i t : Int) (l : List Ent) (top : Int) : Int := if mayB i t l = true then (if top < (spotN i t l l.length).2 then 2 else 0) else 160

theorem lcheck_any {e2 : Option TypeId} (i t : Int) (A : Option Addr) (n c : Nat) (ps : List EP) (top : Int) (w : World) (hs : SeesE w e2 A n ps) (hn : n ≤ 1000000000) (hi0 : 0 ≤ i) (hi1 : i < 18446744073709551616) :
    Calls Try.prog 29 #[logV i t A n c, .int .u64 top] w fun e w' => e = .returned (.int .i64 (lcheckE i t (es ps) top)) ∧ Below w.heap.size w w' := by
  have hel : (es ps).length = n := by unfold es; rw [List.length_map]; exact hs.len
  have HL : Hid (lcheckE i t (es ps) top = if mayB i t (es ps) = true then (if top < (spotN i t (es ps) n).2 then 2 else 0) else 160) := by unfold Hid lcheckE; rw [hel]
  clear hel
  have HM := fun w hs' => @may_any e2 i t A n c ps w hs' hn hi0 hi1
  have HE := fun w hs' => @end_any e2 i t A n c ps w hs' hn hi0 hi1
  unfold logV at HM HE ⊢
  go_enter Try.func29, Try.ntmps29
  have HB := Lib.hid (((Below.refl _ w).alloc (Nat.le_refl _) (.cells #[.int .u64 i, .int .u64 t, .slice A n c] 27)).alloc (by simp) (.cells #[.int .u64 i, .int .u64 t, .slice A n c] 79))
  have s1 := (hs.alloc (.cells #[.int .u64 i, .int .u64 t, .slice A n c] 27)).alloc (.cells #[.int .u64 i, .int .u64 t, .slice A n c] 79)
  have k5 := Blk.new (w.alloc (.cells #[.int .u64 i, .int .u64 t, .slice A n c] 27)) 79 #[.int .u64 i, .int .u64 t, .slice A n c]
  simp only [World.size_alloc] at k5
  go_wp2_with fail
  refine (HM _ s1).mono ?_
  rintro e x1 ⟨rfl, hb1⟩
  replace k5 := k5.below hb1
  replace s1 := s1.below hb1
  replace HB := Lib.hid (HB.out.trans (hb1.mono HB.out.size))
  clear hb1 HM
  have c0 := k5.cell 0
  have c1 := k5.cell 1
  have c2 := k5.cell 2
  simp at c0 c1 c2
  cases hm : mayB i t (es ps) with
  | false =>
    have HF : Hid (lcheckE i t (es ps) top = 160) := by unfold Hid; rw [HL.out, hm]; rfl
    clear hm
    go_wp2
    go_ret
    exact ⟨(congrArg (fun b => Ending.returned (.int .i64 b)) HF.out).symm, HB.out⟩
  | true =>
    have HF : Hid (lcheckE i t (es ps) top = if top < (spotN i t (es ps) n).2 then 2 else 0) := by unfold Hid; rw [HL.out, hm]; rfl
    clear hm
    go_wp2_with fail
    refine (HE _ s1).mono ?_
    rintro e x2 ⟨rfl, hb2⟩
    replace HB := Lib.hid (HB.out.trans (hb2.mono HB.out.size))
    clear hb2 HE c0 c1 c2
    obtain ⟨sp, hsp⟩ : ∃ sp, spotN i t (es ps) n = sp := ⟨_, rfl⟩
    rw [hsp] at HF ⊢
    clear hsp
    unfold atV
    have hfd : ∀ w : World, (Instr.field 24 (.agg #[.int .u64 sp.1, .int .u64 sp.2]) 1).run Try.prog w = .ok (.int .u64 sp.2) w := fun _ => by kernel_rfl
    by_cases hlt : top < sp.2
    · have HG : Hid (lcheckE i t (es ps) top = 2) := by unfold Hid; rw [HF.out, if_pos hlt]
      go_wp2
      go_ret
      exact ⟨(congrArg (fun b => Ending.returned (.int .i64 b)) HG.out).symm, HB.out⟩
    · have HG : Hid (lcheckE i t (es ps) top = 0) := by unfold Hid; rw [HF.out, if_neg hlt]
      go_wp2
      go_ret
      exact ⟨(congrArg (fun b => Ending.returned (.int .i64 b)) HG.out).symm, HB.out⟩
end Go.Proofs.Ytpckkajodpiiaaa

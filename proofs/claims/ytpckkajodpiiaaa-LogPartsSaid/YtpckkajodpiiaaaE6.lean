/- A log's spots by their number; its end. No condition. -/
import Derived.Test.YtpckkajodpiiaaaE5
import Derived.RegionTactic
import Derived.ChangeAlike
namespace Go.Proofs.Ytpckkajodpiiaaa
open Go.RowKit
set_option linter.unusedVariables false
set_option linter.unusedSimpArgs false

def atV (x : Int × Int) : Value := .agg #[.int .u64 x.1, .int .u64 x.2]
/-- The k-th spot: its index, its term; the 0th is the base. -/
def spotN (i t : Int) (l : List Ent) (k : Nat) : Int × Int := ((i + k) % 18446744073709551616, match k with | 0 => t | k + 1 => (l[k]?.map (·.T)).getD 0)

set_option maxHeartbeats 1600000 in
theorem spot_any {e2 : Option TypeId} (i t : Int) (A : Option Addr) (n c : Nat) (ps : List EP) (k : Nat) (w : World) (hs : SeesE w e2 A n ps) (hn : n ≤ 1000000000) (hk : k ≤ n) (hi0 : 0 ≤ i) (hi1 : i < 18446744073709551616) :
    Calls Try.prog 62 #[logV i t A n c, .int .i64 k] w fun e w' => e = .returned (atV (spotN i t (es ps) k)) ∧ Below w.heap.size w w' := by
  have HPL := Lib.hid hs.len
  have HB := Lib.hid (((Below.refl _ w).alloc (Nat.le_refl _) (.cells #[.int .u64 i, .int .u64 t, .slice A n c] 79)).alloc (by simp) (.cells #[.int .u64 0, .int .u64 0] 24))
  have hs' := (hs.alloc (.cells #[.int .u64 i, .int .u64 t, .slice A n c] 79)).alloc (.cells #[.int .u64 0, .int .u64 0] 24)
  unfold logV
  rcases Nat.eq_zero_or_pos k with h0 | h0
  · subst h0
    have HI : Hid (spotN i t (es ps) 0 = (i, t)) := by
      unfold Hid spotN
      simp
      omega
    go_enter Try.func62, Try.ntmps62
    go_wp2
    have HB1 : Below w.heap.size w ((w.alloc (.cells #[.int .u64 i, .int .u64 t, .slice A n c] 79)).alloc (.cells #[.int .u64 i, .int .u64 t] 24)) := ((Below.refl _ w).alloc (Nat.le_refl _) _).alloc (by simp) _
    have k4 := Blk.new (w.alloc (.cells #[.int .u64 i, .int .u64 t, .slice A n c] 79)) 24 #[.int .u64 i, .int .u64 t]
    simp only [World.size_alloc] at k4
    have r0 := k4.cell 0
    have r1 := k4.cell 1
    simp at r0 r1
    refine bodyPost_ret (v := atV (i, t)) (by simp [results, Try.results62, go_sem, r0, r1, atV]) rfl ?_
    exact ⟨by rw [HI.out], HB1⟩
  · obtain ⟨j, rfl⟩ : ∃ j, k = j + 1 := ⟨k - 1, by omega⟩
    obtain ⟨ad, p, rfl, hpk, hd, hc0, hc1, hc2⟩ := hs'.at_ (show j < n by omega)
    have HI : Hid (spotN i t (es ps) (j + 1) = (IntKind.u64.wrap (i + (j + 1)), p.e.T)) := by
      unfold Hid spotN
      simp [es, hpk, IntKind.wrap, IntKind.bits, IntKind.signed]
    clear hpk
    go_enter Try.func62, Try.ntmps62
    go_wp2
    go_region
    go_wp2
    have HB1 : Below w.heap.size w ((w.alloc (.cells #[.int .u64 i, .int .u64 t, .slice (some ad) n c] 79)).alloc (.cells #[.int .u64 (IntKind.u64.wrap (i + (j + 1))), .int .u64 p.e.T] 24)).drew := by
      have h := ((Below.refl _ w).alloc (Nat.le_refl _) (.cells #[.int .u64 i, .int .u64 t, .slice (some ad) n c] 79)).alloc (by simp) (.cells #[.int .u64 (IntKind.u64.wrap (i + (j + 1))), .int .u64 p.e.T] 24)
      exact ⟨h.os, h.tape, h.output, h.size, h.block⟩
    have k4 := (Blk.new (w.alloc (.cells #[.int .u64 i, .int .u64 t, .slice (some ad) n c] 79)) 24 #[.int .u64 (IntKind.u64.wrap (i + (j + 1))), .int .u64 p.e.T]).drew
    simp only [World.size_alloc] at k4
    have r0 := k4.cell 0
    have r1 := k4.cell 1
    simp at r0 r1
    refine bodyPost_ret (v := atV (IntKind.u64.wrap (i + (j + 1)), p.e.T)) (by simp [results, Try.results62, go_sem, r0, r1, atV]) rfl ?_
    exact ⟨by rw [HI.out], HB1⟩
end Go.Proofs.Ytpckkajodpiiaaa

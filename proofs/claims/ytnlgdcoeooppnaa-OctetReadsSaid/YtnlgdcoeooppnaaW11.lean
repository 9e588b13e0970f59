/- The walks of what a step reads, and of what the document says of it. Conditions: those of Rd. -/
import Derived.Test.YtnlgdcoeooppnaaW10
import Derived.Deep.RegionHeld3
namespace Go.Proofs.Ytnlgdcoeooppnaa
open Go.RowKit
set_option linter.unusedVariables false

/-- What a step does: the place, the error, the number, the bytes. -/
def stepS (l : List Int) (at_ : Nat) (err q N : Int) : Nat × Int × Int × List Int :=
  if q < 4 then ((nextS l at_ err (2 ^ q.toNat)).1, (nextS l at_ err (2 ^ q.toNat)).2.1, numS (nextS l at_ err (2 ^ q.toNat)).2.2, [])
  else if q < 6 then ((nextS l at_ err N).1, (nextS l at_ err N).2.1, 0, (nextS l at_ err N).2.2)
  else ((goS l at_ err N).1, (goS l at_ err N).2, 0, [])

def ReadsR (w : World) (g : Nat) (A : Option Addr) (n cap : Nat) (l : List Int) (at_ : Nat) (err q N : Int) (e : Ending) (w' : World) : Prop := ∃ B m c,
  e = .returned (.tuple #[.int .u64 (stepS l at_ err q N).2.2.1, .slice B m c]) ∧ Rd w' g A n cap l (stepS l at_ err q N).1 (stepS l at_ err q N).2.1 ∧
  w'.ownsRow w.heap.size 5 1 (.slice B m c) m (ib .u8 (stepS l at_ err q N).2.2.2) ∧ w.grownBy w' (some g)
def SaysR (w : World) (A : Option Addr) (n cap : Nat) (l : List Int) (at_ : Nat) (err q N : Int) (e : Ending) (w' : World) : Prop := ∃ B m c,
  e = .returned (.tuple #[.agg #[.slice A n cap, .int .i64 (stepS l at_ err q N).1, .int .i64 (stepS l at_ err q N).2.1], .int .u64 (stepS l at_ err q N).2.2.1, .slice B m c]) ∧
  Sees w' (some 5) 1 B m (ib .u8 (stepS l at_ err q N).2.2.2) ∧ Below w.heap.size w w'

theorem new_cell {X : World} {cs : Array Value} {t : TypeId} {g i : Nat} {v : Value} (hg : X.heap.size = g) (hv : cs[i]? = some v) : (X.alloc (.cells cs t)).drew.cell? ⟨g, i, none⟩ = some v := by
  subst hg
  exact ((Blk.new X t cs).cell i).trans hv

theorem below3 (w : World) (a b c : Obj) : Below w.heap.size w (((w.alloc a).alloc b).alloc c) :=
  (((Below.refl w.heap.size w).alloc (Nat.le_refl _) a).alloc (by simp) b).alloc (by simp; omega) c

theorem numS_small {l : List Int} {k b : Nat} (h : isB l) (hl : l.length ≤ k) (hb : 256 ^ k ≤ b) : 0 ≤ numS l ∧ numS l < (b : Int) := by
  have h0 := numS_bd_aux _ l rfl h
  have h1 := Nat.pow_le_pow_right (show 0 < 256 by omega) hl
  have h2 : ((256 ^ l.length : Nat) : Int) ≤ b := by omega
  refine ⟨h0.1, Int.lt_of_lt_of_le h0.2 ?_⟩
  simpa using h2

section
variable {w : World} {g : Nat} {A : Option Addr} {n cap at_ : Nat} {l : List Int} {err : Int}

set_option maxHeartbeats 1600000 in
theorem reads_any (h : Rd w g A n cap l at_ err) (hB : isB l) (K N : Int) :
    Calls Try.prog 21 #[.agg #[.int .i64 K, .int .i64 N], .pointer (some ⟨g, 0, none⟩)] w (ReadsR w g A n cap l at_ err ((IntKind.u64.wrap K).tmod 8) N) := by
  have h1 := h.below ((Below.refl w.heap.size w).alloc (Nat.le_refl _) (.cells #[.int .i64 K, .int .i64 N] 45))
  have hg1 : w.grownBy (w.alloc (.cells #[.int .i64 K, .int .i64 N] 45)) (some g) := World.grownBy_alloc _ _ _
  obtain ⟨q, hk, hq⟩ := kinds K
  rcases hq with rfl | rfl | rfl | rfl | rfl | rfl | rfl | rfl
  · have hbd : 0 ≤ numS (nextS l at_ err 1).2.2 ∧ numS (nextS l at_ err 1).2.2 < 256 := numS_small (nextS_isB hB _ _ _) (nextS_len l at_ err 1) (b := 256) (by decide)
    obtain ⟨hbd0, hbd1⟩ := hbd
    have HS : Hid (stepS l at_ err 0 N = ((nextS l at_ err 1).1, (nextS l at_ err 1).2.1, numS (nextS l at_ err 1).2.2, [])) := rfl
    go_enter Try.func21, Try.ntmps21
    go_wp2_with (go_at_call 31; refine (u8_any h1 hB).mono ?_; rintro e w1 ⟨rfl, hR, hg⟩)
    go_ret2
    unfold ReadsR
    rw [hk, HS.out]
    exact ⟨none, 0, 0, rfl, hR, World.ownsRow_nil _ _ _ _, grown_trans hg1 hg⟩
  · have hbd : 0 ≤ numS (nextS l at_ err 2).2.2 ∧ numS (nextS l at_ err 2).2.2 < 65536 := numS_small (nextS_isB hB _ _ _) (nextS_len l at_ err 2) (b := 65536) (by decide)
    obtain ⟨hbd0, hbd1⟩ := hbd
    have HS : Hid (stepS l at_ err 1 N = ((nextS l at_ err 2).1, (nextS l at_ err 2).2.1, numS (nextS l at_ err 2).2.2, [])) := rfl
    go_enter Try.func21, Try.ntmps21
    go_wp2_with (go_at_call 32; refine (u16_any h1 hB).mono ?_; rintro e w1 ⟨rfl, hR, hg⟩)
    go_ret2
    unfold ReadsR
    rw [hk, HS.out]
    exact ⟨none, 0, 0, rfl, hR, World.ownsRow_nil _ _ _ _, grown_trans hg1 hg⟩
  · have hbd : 0 ≤ numS (nextS l at_ err 4).2.2 ∧ numS (nextS l at_ err 4).2.2 < 4294967296 := numS_small (nextS_isB hB _ _ _) (nextS_len l at_ err 4) (b := 4294967296) (by decide)
    obtain ⟨hbd0, hbd1⟩ := hbd
    have HS : Hid (stepS l at_ err 2 N = ((nextS l at_ err 4).1, (nextS l at_ err 4).2.1, numS (nextS l at_ err 4).2.2, [])) := rfl
    go_enter Try.func21, Try.ntmps21
    go_wp2_with (go_at_call 33; refine (u32_any h1 hB).mono ?_; rintro e w1 ⟨rfl, hR, hg⟩)
    go_ret2
    unfold ReadsR
    rw [hk, HS.out]
    exact ⟨none, 0, 0, rfl, hR, World.ownsRow_nil _ _ _ _, grown_trans hg1 hg⟩
  · have hbd : 0 ≤ numS (nextS l at_ err 8).2.2 ∧ numS (nextS l at_ err 8).2.2 < 18446744073709551616 := numS_small (nextS_isB hB _ _ _) (nextS_len l at_ err 8) (b := 18446744073709551616) (by decide)
    obtain ⟨hbd0, hbd1⟩ := hbd
    have HS : Hid (stepS l at_ err 3 N = ((nextS l at_ err 8).1, (nextS l at_ err 8).2.1, numS (nextS l at_ err 8).2.2, [])) := rfl
    go_enter Try.func21, Try.ntmps21
    go_wp2_with (go_at_call 34; refine (u64_any h1 hB).mono ?_; rintro e w1 ⟨rfl, hR, hg⟩)
    go_ret2
    unfold ReadsR
    rw [hk, HS.out]
    exact ⟨none, 0, 0, rfl, hR, World.ownsRow_nil _ _ _ _, grown_trans hg1 hg⟩
  · have HS : Hid (stepS l at_ err 4 N = ((nextS l at_ err N).1, (nextS l at_ err N).2.1, 0, (nextS l at_ err N).2.2)) := rfl
    go_enter Try.func21, Try.ntmps21
    go_wp2_with (go_at_call 29; refine (raw_any h1 N).mono ?_; rintro e w1 ⟨B, m, c, rfl, hR, ho, hg⟩)
    go_ret2
    unfold ReadsR
    rw [hk, HS.out]
    exact ⟨B, m, c, rfl, hR, own_mono ho (by simp), grown_trans hg1 hg⟩
  · have HS : Hid (stepS l at_ err 5 N = ((nextS l at_ err N).1, (nextS l at_ err N).2.1, 0, (nextS l at_ err N).2.2)) := rfl
    go_enter Try.func21, Try.ntmps21
    go_wp2_with (go_at_call 29; refine (raw_any h1 N).mono ?_; rintro e w1 ⟨B, m, c, rfl, hR, ho, hg⟩)
    go_ret2
    unfold ReadsR
    rw [hk, HS.out]
    exact ⟨B, m, c, rfl, hR, own_mono ho (by simp), grown_trans hg1 hg⟩
  · have HS : Hid (stepS l at_ err 6 N = ((goS l at_ err N).1, (goS l at_ err N).2, 0, [])) := rfl
    go_enter Try.func21, Try.ntmps21
    go_wp2_with (go_at_call 28; refine (go_any h1 N).mono ?_; rintro e w1 ⟨rfl, hR, hg⟩)
    go_ret2
    unfold ReadsR
    rw [hk, HS.out]
    exact ⟨none, 0, 0, rfl, hR, World.ownsRow_nil _ _ _ _, grown_trans hg1 hg⟩
  · have HS : Hid (stepS l at_ err 7 N = ((goS l at_ err N).1, (goS l at_ err N).2, 0, [])) := rfl
    go_enter Try.func21, Try.ntmps21
    go_wp2_with (go_at_call 28; refine (go_any h1 N).mono ?_; rintro e w1 ⟨rfl, hR, hg⟩)
    go_ret2
    unfold ReadsR
    rw [hk, HS.out]
    exact ⟨none, 0, 0, rfl, hR, World.ownsRow_nil _ _ _ _, grown_trans hg1 hg⟩

set_option maxHeartbeats 1600000 in
theorem says_any (hs : Sees w (some 5) 1 A n (ib .u8 l)) (hB : isB l) (hnc : n ≤ cap) (hat : at_ ≤ n) (hn : n ≤ 1000000000000) (K N : Int) :
    Calls Try.prog 22 #[.agg #[.int .i64 K, .int .i64 N], .agg #[.slice A n cap, .int .i64 at_, .int .i64 err]] w (SaysR w A n cap l at_ err ((IntKind.u64.wrap K).tmod 8) N) := by
  have hlen := hs.len
  obtain ⟨q, hk, hq⟩ := kinds K
  rcases hq with rfl | rfl | rfl | rfl | rfl | rfl | rfl | rfl
  · go_enter Try.func22, Try.ntmps22
    go_wp2_with fail
    refine (rnext_any (hs.below ((((Below.refl _ _).alloc (Nat.le_refl _) _).alloc (by simp) _).alloc (by simp; omega) _)) hnc hat hn 1).mono ?_
    rintro e w1 ⟨B, m, c, rfl, hs1, hb1⟩
    obtain ⟨a2, e2, o2, HN⟩ : ∃ a2 e2 o2, Hid (nextS l at_ err 1 = (a2, e2, o2)) := ⟨_, _, _, rfl⟩
    have hO : isB o2 := by have := nextS_isB hB at_ err 1; rwa [HN.out] at this
    have hO1 : o2.length ≤ 1 := by have := nextS_len l at_ err 1; simp only [Int.cast_ofNat_Int] at this; rwa [HN.out] at this
    rw [HN.out] at hs1 ⊢
    simp only at hs1 ⊢
    have hblk : Blk w1 (w.heap.size + 1 + 1) 43 #[.slice none 0 0, .int .i64 0, .int .i64 0] := by
      have := (Blk.new ((w.alloc (.cells #[.int .i64 K, .int .i64 N] 45)).alloc (.cells #[.slice A n cap, .int .i64 at_, .int .i64 err] 43)) 43 #[.slice none 0 0, .int .i64 0, .int .i64 0]).below hb1
      simpa using this
    have c0 := hblk.cell 0
    have c1 := hblk.cell 1
    have c2 := hblk.cell 2
    simp at c0 c1 c2
    have f0 := hblk.frozen 0
    have f1 := hblk.frozen 1
    have f2 := hblk.frozen 2
    have hlt := hblk.lt
    have hm : m ≤ 8 := by have := hs1.len; omega
    go_wp2_with fail
    go_region_held3 (fun w' => w'.cell? ⟨w1.heap.size, 0, none⟩ = some (Value.slice A n cap) ∧ w'.cell? ⟨w1.heap.size, 1, none⟩ = some (Value.int .i64 a2) ∧ w'.cell? ⟨w1.heap.size, 2, none⟩ = some (Value.int .i64 e2)) (first | (go_keep; done) | (exact ⟨new_cell (by simp [World.setCell]) rfl, new_cell (by simp [World.setCell]) rfl, new_cell (by simp [World.setCell]) rfl⟩))
      (first | (go_at_call 44; refine (number_any B m c o2 _ (hs1.alloc _).drew hO hm).mono ?_; rintro e w2 ⟨rfl, rfl⟩))
    have hW1 : Below w.heap.size w w1 := (below3 w _ _ _).trans (hb1.mono (below3 w _ _ _).size)
    have HS : Hid (stepS l at_ err 0 N = (a2, e2, numS o2, [])) := by
      have : stepS l at_ err 0 N = ((nextS l at_ err 1).1, (nextS l at_ err 1).2.1, numS (nextS l at_ err 1).2.2, []) := rfl
      unfold Hid
      rw [this, HN.out]
    have hfin := ((((hblk.put 0 (.slice A n cap)).put 1 (.int .i64 a2)).put 2 (.int .i64 e2)).alloc (.cells #[.slice A n cap, .int .i64 a2, .int .i64 e2] 43)).drew
    have r0 := hfin.cell 0
    have r1 := hfin.cell 1
    have r2 := hfin.cell 2
    have k0 : ((#[Value.slice none 0 0, .int .i64 0, .int .i64 0].setIfInBounds 0 (.slice A n cap)).setIfInBounds 1 (.int .i64 a2)).setIfInBounds 2 (.int .i64 e2) = #[.slice A n cap, .int .i64 a2, .int .i64 e2] := rfl
    rw [k0] at r0 r1 r2
    clear hfin k0
    simp only [List.getElem?_toArray, List.getElem?_cons_zero, List.getElem?_cons_succ] at r0 r1 r2
    go_wp2
    refine bodyPost_ret (v := .tuple #[.agg #[.slice A n cap, .int .i64 a2, .int .i64 e2], .int .u64 (numS o2), .slice none 0 0]) (by simp [results, Try.results22, go_sem, r0, r1, r2]) rfl ?_
    unfold SaysR
    rw [hk, HS.out]
    refine ⟨none, 0, 0, rfl, Sees.nil _ _ _, ?_⟩
    repeat (first | exact Below.refl _ _ | refine Below.drew ?_ | refine Below.alloc ?_ (by first | exact Nat.le_refl _ | (simp; done) | (simp; omega) | (simp [World.setCell]; done) | (simp [World.setCell]; omega)) _ | refine Below.setCell ?_ (by first | exact Nat.le_refl _ | (simp; done) | (simp; omega)) _ | exact hW1)
  · go_enter Try.func22, Try.ntmps22
    go_wp2_with fail
    refine (rnext_any (hs.below ((((Below.refl _ _).alloc (Nat.le_refl _) _).alloc (by simp) _).alloc (by simp; omega) _)) hnc hat hn 2).mono ?_
    rintro e w1 ⟨B, m, c, rfl, hs1, hb1⟩
    obtain ⟨a2, e2, o2, HN⟩ : ∃ a2 e2 o2, Hid (nextS l at_ err 2 = (a2, e2, o2)) := ⟨_, _, _, rfl⟩
    have hO : isB o2 := by have := nextS_isB hB at_ err 2; rwa [HN.out] at this
    have hO1 : o2.length ≤ 2 := by have := nextS_len l at_ err 2; simp only [Int.cast_ofNat_Int] at this; rwa [HN.out] at this
    rw [HN.out] at hs1 ⊢
    simp only at hs1 ⊢
    have hblk : Blk w1 (w.heap.size + 1 + 1) 43 #[.slice none 0 0, .int .i64 0, .int .i64 0] := by
      have := (Blk.new ((w.alloc (.cells #[.int .i64 K, .int .i64 N] 45)).alloc (.cells #[.slice A n cap, .int .i64 at_, .int .i64 err] 43)) 43 #[.slice none 0 0, .int .i64 0, .int .i64 0]).below hb1
      simpa using this
    have c0 := hblk.cell 0
    have c1 := hblk.cell 1
    have c2 := hblk.cell 2
    simp at c0 c1 c2
    have f0 := hblk.frozen 0
    have f1 := hblk.frozen 1
    have f2 := hblk.frozen 2
    have hlt := hblk.lt
    have hm : m ≤ 8 := by have := hs1.len; omega
    go_wp2_with fail
    go_region_held3 (fun w' => w'.cell? ⟨w1.heap.size, 0, none⟩ = some (Value.slice A n cap) ∧ w'.cell? ⟨w1.heap.size, 1, none⟩ = some (Value.int .i64 a2) ∧ w'.cell? ⟨w1.heap.size, 2, none⟩ = some (Value.int .i64 e2)) (first | (go_keep; done) | (exact ⟨new_cell (by simp [World.setCell]) rfl, new_cell (by simp [World.setCell]) rfl, new_cell (by simp [World.setCell]) rfl⟩))
      (first | (go_at_call 44; refine (number_any B m c o2 _ (hs1.alloc _).drew hO hm).mono ?_; rintro e w2 ⟨rfl, rfl⟩))
    have hW1 : Below w.heap.size w w1 := (below3 w _ _ _).trans (hb1.mono (below3 w _ _ _).size)
    have HS : Hid (stepS l at_ err 1 N = (a2, e2, numS o2, [])) := by
      have : stepS l at_ err 1 N = ((nextS l at_ err 2).1, (nextS l at_ err 2).2.1, numS (nextS l at_ err 2).2.2, []) := rfl
      unfold Hid
      rw [this, HN.out]
    have hfin := ((((hblk.put 0 (.slice A n cap)).put 1 (.int .i64 a2)).put 2 (.int .i64 e2)).alloc (.cells #[.slice A n cap, .int .i64 a2, .int .i64 e2] 43)).drew
    have r0 := hfin.cell 0
    have r1 := hfin.cell 1
    have r2 := hfin.cell 2
    have k0 : ((#[Value.slice none 0 0, .int .i64 0, .int .i64 0].setIfInBounds 0 (.slice A n cap)).setIfInBounds 1 (.int .i64 a2)).setIfInBounds 2 (.int .i64 e2) = #[.slice A n cap, .int .i64 a2, .int .i64 e2] := rfl
    rw [k0] at r0 r1 r2
    clear hfin k0
    simp only [List.getElem?_toArray, List.getElem?_cons_zero, List.getElem?_cons_succ] at r0 r1 r2
    go_wp2
    refine bodyPost_ret (v := .tuple #[.agg #[.slice A n cap, .int .i64 a2, .int .i64 e2], .int .u64 (numS o2), .slice none 0 0]) (by simp [results, Try.results22, go_sem, r0, r1, r2]) rfl ?_
    unfold SaysR
    rw [hk, HS.out]
    refine ⟨none, 0, 0, rfl, Sees.nil _ _ _, ?_⟩
    repeat (first | exact Below.refl _ _ | refine Below.drew ?_ | refine Below.alloc ?_ (by first | exact Nat.le_refl _ | (simp; done) | (simp; omega) | (simp [World.setCell]; done) | (simp [World.setCell]; omega)) _ | refine Below.setCell ?_ (by first | exact Nat.le_refl _ | (simp; done) | (simp; omega)) _ | exact hW1)
  · go_enter Try.func22, Try.ntmps22
    go_wp2_with fail
    refine (rnext_any (hs.below ((((Below.refl _ _).alloc (Nat.le_refl _) _).alloc (by simp) _).alloc (by simp; omega) _)) hnc hat hn 4).mono ?_
    rintro e w1 ⟨B, m, c, rfl, hs1, hb1⟩
    obtain ⟨a2, e2, o2, HN⟩ : ∃ a2 e2 o2, Hid (nextS l at_ err 4 = (a2, e2, o2)) := ⟨_, _, _, rfl⟩
    have hO : isB o2 := by have := nextS_isB hB at_ err 4; rwa [HN.out] at this
    have hO1 : o2.length ≤ 4 := by have := nextS_len l at_ err 4; simp only [Int.cast_ofNat_Int] at this; rwa [HN.out] at this
    rw [HN.out] at hs1 ⊢
    simp only at hs1 ⊢
    have hblk : Blk w1 (w.heap.size + 1 + 1) 43 #[.slice none 0 0, .int .i64 0, .int .i64 0] := by
      have := (Blk.new ((w.alloc (.cells #[.int .i64 K, .int .i64 N] 45)).alloc (.cells #[.slice A n cap, .int .i64 at_, .int .i64 err] 43)) 43 #[.slice none 0 0, .int .i64 0, .int .i64 0]).below hb1
      simpa using this
    have c0 := hblk.cell 0
    have c1 := hblk.cell 1
    have c2 := hblk.cell 2
    simp at c0 c1 c2
    have f0 := hblk.frozen 0
    have f1 := hblk.frozen 1
    have f2 := hblk.frozen 2
    have hlt := hblk.lt
    have hm : m ≤ 8 := by have := hs1.len; omega
    go_wp2_with fail
    go_region_held3 (fun w' => w'.cell? ⟨w1.heap.size, 0, none⟩ = some (Value.slice A n cap) ∧ w'.cell? ⟨w1.heap.size, 1, none⟩ = some (Value.int .i64 a2) ∧ w'.cell? ⟨w1.heap.size, 2, none⟩ = some (Value.int .i64 e2)) (first | (go_keep; done) | (exact ⟨new_cell (by simp [World.setCell]) rfl, new_cell (by simp [World.setCell]) rfl, new_cell (by simp [World.setCell]) rfl⟩))
      (first | (go_at_call 44; refine (number_any B m c o2 _ (hs1.alloc _).drew hO hm).mono ?_; rintro e w2 ⟨rfl, rfl⟩))
    have hW1 : Below w.heap.size w w1 := (below3 w _ _ _).trans (hb1.mono (below3 w _ _ _).size)
    have HS : Hid (stepS l at_ err 2 N = (a2, e2, numS o2, [])) := by
      have : stepS l at_ err 2 N = ((nextS l at_ err 4).1, (nextS l at_ err 4).2.1, numS (nextS l at_ err 4).2.2, []) := rfl
      unfold Hid
      rw [this, HN.out]
    have hfin := ((((hblk.put 0 (.slice A n cap)).put 1 (.int .i64 a2)).put 2 (.int .i64 e2)).alloc (.cells #[.slice A n cap, .int .i64 a2, .int .i64 e2] 43)).drew
    have r0 := hfin.cell 0
    have r1 := hfin.cell 1
    have r2 := hfin.cell 2
    have k0 : ((#[Value.slice none 0 0, .int .i64 0, .int .i64 0].setIfInBounds 0 (.slice A n cap)).setIfInBounds 1 (.int .i64 a2)).setIfInBounds 2 (.int .i64 e2) = #[.slice A n cap, .int .i64 a2, .int .i64 e2] := rfl
    rw [k0] at r0 r1 r2
    clear hfin k0
    simp only [List.getElem?_toArray, List.getElem?_cons_zero, List.getElem?_cons_succ] at r0 r1 r2
    go_wp2
    refine bodyPost_ret (v := .tuple #[.agg #[.slice A n cap, .int .i64 a2, .int .i64 e2], .int .u64 (numS o2), .slice none 0 0]) (by simp [results, Try.results22, go_sem, r0, r1, r2]) rfl ?_
    unfold SaysR
    rw [hk, HS.out]
    refine ⟨none, 0, 0, rfl, Sees.nil _ _ _, ?_⟩
    repeat (first | exact Below.refl _ _ | refine Below.drew ?_ | refine Below.alloc ?_ (by first | exact Nat.le_refl _ | (simp; done) | (simp; omega) | (simp [World.setCell]; done) | (simp [World.setCell]; omega)) _ | refine Below.setCell ?_ (by first | exact Nat.le_refl _ | (simp; done) | (simp; omega)) _ | exact hW1)
  · go_enter Try.func22, Try.ntmps22
    go_wp2_with fail
    refine (rnext_any (hs.below ((((Below.refl _ _).alloc (Nat.le_refl _) _).alloc (by simp) _).alloc (by simp; omega) _)) hnc hat hn 8).mono ?_
    rintro e w1 ⟨B, m, c, rfl, hs1, hb1⟩
    obtain ⟨a2, e2, o2, HN⟩ : ∃ a2 e2 o2, Hid (nextS l at_ err 8 = (a2, e2, o2)) := ⟨_, _, _, rfl⟩
    have hO : isB o2 := by have := nextS_isB hB at_ err 8; rwa [HN.out] at this
    have hO1 : o2.length ≤ 8 := by have := nextS_len l at_ err 8; simp only [Int.cast_ofNat_Int] at this; rwa [HN.out] at this
    rw [HN.out] at hs1 ⊢
    simp only at hs1 ⊢
    have hblk : Blk w1 (w.heap.size + 1 + 1) 43 #[.slice none 0 0, .int .i64 0, .int .i64 0] := by
      have := (Blk.new ((w.alloc (.cells #[.int .i64 K, .int .i64 N] 45)).alloc (.cells #[.slice A n cap, .int .i64 at_, .int .i64 err] 43)) 43 #[.slice none 0 0, .int .i64 0, .int .i64 0]).below hb1
      simpa using this
    have c0 := hblk.cell 0
    have c1 := hblk.cell 1
    have c2 := hblk.cell 2
    simp at c0 c1 c2
    have f0 := hblk.frozen 0
    have f1 := hblk.frozen 1
    have f2 := hblk.frozen 2
    have hlt := hblk.lt
    have hm : m ≤ 8 := by have := hs1.len; omega
    go_wp2_with fail
    go_region_held3 (fun w' => w'.cell? ⟨w1.heap.size, 0, none⟩ = some (Value.slice A n cap) ∧ w'.cell? ⟨w1.heap.size, 1, none⟩ = some (Value.int .i64 a2) ∧ w'.cell? ⟨w1.heap.size, 2, none⟩ = some (Value.int .i64 e2)) (first | (go_keep; done) | (exact ⟨new_cell (by simp [World.setCell]) rfl, new_cell (by simp [World.setCell]) rfl, new_cell (by simp [World.setCell]) rfl⟩))
      (first | (go_at_call 44; refine (number_any B m c o2 _ (hs1.alloc _).drew hO hm).mono ?_; rintro e w2 ⟨rfl, rfl⟩))
    have hW1 : Below w.heap.size w w1 := (below3 w _ _ _).trans (hb1.mono (below3 w _ _ _).size)
    have HS : Hid (stepS l at_ err 3 N = (a2, e2, numS o2, [])) := by
      have : stepS l at_ err 3 N = ((nextS l at_ err 8).1, (nextS l at_ err 8).2.1, numS (nextS l at_ err 8).2.2, []) := rfl
      unfold Hid
      rw [this, HN.out]
    have hfin := ((((hblk.put 0 (.slice A n cap)).put 1 (.int .i64 a2)).put 2 (.int .i64 e2)).alloc (.cells #[.slice A n cap, .int .i64 a2, .int .i64 e2] 43)).drew
    have r0 := hfin.cell 0
    have r1 := hfin.cell 1
    have r2 := hfin.cell 2
    have k0 : ((#[Value.slice none 0 0, .int .i64 0, .int .i64 0].setIfInBounds 0 (.slice A n cap)).setIfInBounds 1 (.int .i64 a2)).setIfInBounds 2 (.int .i64 e2) = #[.slice A n cap, .int .i64 a2, .int .i64 e2] := rfl
    rw [k0] at r0 r1 r2
    clear hfin k0
    simp only [List.getElem?_toArray, List.getElem?_cons_zero, List.getElem?_cons_succ] at r0 r1 r2
    go_wp2
    refine bodyPost_ret (v := .tuple #[.agg #[.slice A n cap, .int .i64 a2, .int .i64 e2], .int .u64 (numS o2), .slice none 0 0]) (by simp [results, Try.results22, go_sem, r0, r1, r2]) rfl ?_
    unfold SaysR
    rw [hk, HS.out]
    refine ⟨none, 0, 0, rfl, Sees.nil _ _ _, ?_⟩
    repeat (first | exact Below.refl _ _ | refine Below.drew ?_ | refine Below.alloc ?_ (by first | exact Nat.le_refl _ | (simp; done) | (simp; omega) | (simp [World.setCell]; done) | (simp [World.setCell]; omega)) _ | refine Below.setCell ?_ (by first | exact Nat.le_refl _ | (simp; done) | (simp; omega)) _ | exact hW1)
  · go_enter Try.func22, Try.ntmps22
    go_wp2_with fail
    refine (rnext_any (hs.below ((((Below.refl _ _).alloc (Nat.le_refl _) _).alloc (by simp) _).alloc (by simp; omega) _)) hnc hat hn N).mono ?_
    rintro e w1 ⟨B, m, c, rfl, hs1, hb1⟩
    obtain ⟨a2, e2, o2, HN⟩ : ∃ a2 e2 o2, Hid (nextS l at_ err N = (a2, e2, o2)) := ⟨_, _, _, rfl⟩
    rw [HN.out] at hs1 ⊢
    simp only at hs1 ⊢
    have hblk : Blk w1 (w.heap.size + 1 + 1) 43 #[.slice none 0 0, .int .i64 0, .int .i64 0] := by
      have := (Blk.new ((w.alloc (.cells #[.int .i64 K, .int .i64 N] 45)).alloc (.cells #[.slice A n cap, .int .i64 at_, .int .i64 err] 43)) 43 #[.slice none 0 0, .int .i64 0, .int .i64 0]).below hb1
      simpa using this
    have c0 := hblk.cell 0
    have c1 := hblk.cell 1
    have c2 := hblk.cell 2
    simp at c0 c1 c2
    have f0 := hblk.frozen 0
    have f1 := hblk.frozen 1
    have f2 := hblk.frozen 2
    have hlt := hblk.lt
    have hW1 : Below w.heap.size w w1 := (below3 w _ _ _).trans (hb1.mono (below3 w _ _ _).size)
    have HS : Hid (stepS l at_ err 4 N = (a2, e2, 0, o2)) := by
      have : stepS l at_ err 4 N = ((nextS l at_ err N).1, (nextS l at_ err N).2.1, 0, (nextS l at_ err N).2.2) := rfl
      unfold Hid
      rw [this, HN.out]
    have hfin := ((((hblk.put 0 (.slice A n cap)).put 1 (.int .i64 a2)).put 2 (.int .i64 e2)).alloc (.cells #[.slice A n cap, .int .i64 a2, .int .i64 e2] 43))
    have r0 := hfin.cell 0
    have r1 := hfin.cell 1
    have r2 := hfin.cell 2
    have k0 : ((#[Value.slice none 0 0, .int .i64 0, .int .i64 0].setIfInBounds 0 (.slice A n cap)).setIfInBounds 1 (.int .i64 a2)).setIfInBounds 2 (.int .i64 e2) = #[.slice A n cap, .int .i64 a2, .int .i64 e2] := rfl
    rw [k0] at r0 r1 r2
    clear hfin k0
    simp only [List.getElem?_toArray, List.getElem?_cons_zero, List.getElem?_cons_succ] at r0 r1 r2
    go_wp2
    refine bodyPost_ret (v := .tuple #[.agg #[.slice A n cap, .int .i64 a2, .int .i64 e2], .int .u64 0, .slice B m c]) (by simp [results, Try.results22, go_sem, r0, r1, r2]) rfl ?_
    unfold SaysR
    rw [hk, HS.out]
    refine ⟨B, m, c, rfl, ?_, ?_⟩
    · have hne := hblk.apart hs1 (by decide)
      exact (((hs1.far hne _).far hne _).far hne _).alloc _
    · repeat (first | exact Below.refl _ _ | refine Below.drew ?_ | refine Below.alloc ?_ (by first | exact Nat.le_refl _ | (simp; done) | (simp; omega) | (simp [World.setCell]; done) | (simp [World.setCell]; omega)) _ | refine Below.setCell ?_ (by first | exact Nat.le_refl _ | (simp; done) | (simp; omega)) _ | exact hW1)
  · go_enter Try.func22, Try.ntmps22
    go_wp2_with fail
    refine (rnext_any (hs.below ((((Below.refl _ _).alloc (Nat.le_refl _) _).alloc (by simp) _).alloc (by simp; omega) _)) hnc hat hn N).mono ?_
    rintro e w1 ⟨B, m, c, rfl, hs1, hb1⟩
    obtain ⟨a2, e2, o2, HN⟩ : ∃ a2 e2 o2, Hid (nextS l at_ err N = (a2, e2, o2)) := ⟨_, _, _, rfl⟩
    rw [HN.out] at hs1 ⊢
    simp only at hs1 ⊢
    have hblk : Blk w1 (w.heap.size + 1 + 1) 43 #[.slice none 0 0, .int .i64 0, .int .i64 0] := by
      have := (Blk.new ((w.alloc (.cells #[.int .i64 K, .int .i64 N] 45)).alloc (.cells #[.slice A n cap, .int .i64 at_, .int .i64 err] 43)) 43 #[.slice none 0 0, .int .i64 0, .int .i64 0]).below hb1
      simpa using this
    have c0 := hblk.cell 0
    have c1 := hblk.cell 1
    have c2 := hblk.cell 2
    simp at c0 c1 c2
    have f0 := hblk.frozen 0
    have f1 := hblk.frozen 1
    have f2 := hblk.frozen 2
    have hlt := hblk.lt
    have hW1 : Below w.heap.size w w1 := (below3 w _ _ _).trans (hb1.mono (below3 w _ _ _).size)
    have HS : Hid (stepS l at_ err 5 N = (a2, e2, 0, o2)) := by
      have : stepS l at_ err 5 N = ((nextS l at_ err N).1, (nextS l at_ err N).2.1, 0, (nextS l at_ err N).2.2) := rfl
      unfold Hid
      rw [this, HN.out]
    have hfin := ((((hblk.put 0 (.slice A n cap)).put 1 (.int .i64 a2)).put 2 (.int .i64 e2)).alloc (.cells #[.slice A n cap, .int .i64 a2, .int .i64 e2] 43))
    have r0 := hfin.cell 0
    have r1 := hfin.cell 1
    have r2 := hfin.cell 2
    have k0 : ((#[Value.slice none 0 0, .int .i64 0, .int .i64 0].setIfInBounds 0 (.slice A n cap)).setIfInBounds 1 (.int .i64 a2)).setIfInBounds 2 (.int .i64 e2) = #[.slice A n cap, .int .i64 a2, .int .i64 e2] := rfl
    rw [k0] at r0 r1 r2
    clear hfin k0
    simp only [List.getElem?_toArray, List.getElem?_cons_zero, List.getElem?_cons_succ] at r0 r1 r2
    go_wp2
    refine bodyPost_ret (v := .tuple #[.agg #[.slice A n cap, .int .i64 a2, .int .i64 e2], .int .u64 0, .slice B m c]) (by simp [results, Try.results22, go_sem, r0, r1, r2]) rfl ?_
    unfold SaysR
    rw [hk, HS.out]
    refine ⟨B, m, c, rfl, ?_, ?_⟩
    · have hne := hblk.apart hs1 (by decide)
      exact (((hs1.far hne _).far hne _).far hne _).alloc _
    · repeat (first | exact Below.refl _ _ | refine Below.drew ?_ | refine Below.alloc ?_ (by first | exact Nat.le_refl _ | (simp; done) | (simp; omega) | (simp [World.setCell]; done) | (simp [World.setCell]; omega)) _ | refine Below.setCell ?_ (by first | exact Nat.le_refl _ | (simp; done) | (simp; omega)) _ | exact hW1)
  · go_enter Try.func22, Try.ntmps22
    go_wp2_with fail
    refine (rgo_any hlen hat hn N).mono ?_
    rintro e w1 ⟨rfl, hb1⟩
    obtain ⟨a2, e2, HN⟩ : ∃ a2 e2, Hid (goS l at_ err N = (a2, e2)) := ⟨_, _, rfl⟩
    rw [HN.out]
    simp only
    have hblk : Blk w1 (w.heap.size + 1 + 1) 43 #[.slice none 0 0, .int .i64 0, .int .i64 0] := by
      have := (Blk.new ((w.alloc (.cells #[.int .i64 K, .int .i64 N] 45)).alloc (.cells #[.slice A n cap, .int .i64 at_, .int .i64 err] 43)) 43 #[.slice none 0 0, .int .i64 0, .int .i64 0]).below hb1
      simpa using this
    have c0 := hblk.cell 0
    have c1 := hblk.cell 1
    have c2 := hblk.cell 2
    simp at c0 c1 c2
    have f0 := hblk.frozen 0
    have f1 := hblk.frozen 1
    have f2 := hblk.frozen 2
    have hlt := hblk.lt
    have hW1 : Below w.heap.size w w1 := (below3 w _ _ _).trans (hb1.mono (below3 w _ _ _).size)
    have HS : Hid (stepS l at_ err 6 N = (a2, e2, 0, [])) := by
      have : stepS l at_ err 6 N = ((goS l at_ err N).1, (goS l at_ err N).2, 0, []) := rfl
      unfold Hid
      rw [this, HN.out]
    have hfin := (((hblk.put 0 (.slice A n cap)).put 1 (.int .i64 a2)).put 2 (.int .i64 e2))
    have r0 := hfin.cell 0
    have r1 := hfin.cell 1
    have r2 := hfin.cell 2
    have k0 : ((#[Value.slice none 0 0, .int .i64 0, .int .i64 0].setIfInBounds 0 (.slice A n cap)).setIfInBounds 1 (.int .i64 a2)).setIfInBounds 2 (.int .i64 e2) = #[.slice A n cap, .int .i64 a2, .int .i64 e2] := rfl
    rw [k0] at r0 r1 r2
    clear hfin k0
    simp only [List.getElem?_toArray, List.getElem?_cons_zero, List.getElem?_cons_succ] at r0 r1 r2
    go_wp2
    refine bodyPost_ret (v := .tuple #[.agg #[.slice A n cap, .int .i64 a2, .int .i64 e2], .int .u64 0, .slice none 0 0]) (by simp [results, Try.results22, go_sem, r0, r1, r2]) rfl ?_
    unfold SaysR
    rw [hk, HS.out]
    refine ⟨none, 0, 0, rfl, Sees.nil _ _ _, ?_⟩
    repeat (first | exact Below.refl _ _ | refine Below.drew ?_ | refine Below.alloc ?_ (by first | exact Nat.le_refl _ | (simp; done) | (simp; omega) | (simp [World.setCell]; done) | (simp [World.setCell]; omega)) _ | refine Below.setCell ?_ (by first | exact Nat.le_refl _ | (simp; done) | (simp; omega)) _ | exact hW1)
  · go_enter Try.func22, Try.ntmps22
    go_wp2_with fail
    refine (rgo_any hlen hat hn N).mono ?_
    rintro e w1 ⟨rfl, hb1⟩
    obtain ⟨a2, e2, HN⟩ : ∃ a2 e2, Hid (goS l at_ err N = (a2, e2)) := ⟨_, _, rfl⟩
    rw [HN.out]
    simp only
    have hblk : Blk w1 (w.heap.size + 1 + 1) 43 #[.slice none 0 0, .int .i64 0, .int .i64 0] := by
      have := (Blk.new ((w.alloc (.cells #[.int .i64 K, .int .i64 N] 45)).alloc (.cells #[.slice A n cap, .int .i64 at_, .int .i64 err] 43)) 43 #[.slice none 0 0, .int .i64 0, .int .i64 0]).below hb1
      simpa using this
    have c0 := hblk.cell 0
    have c1 := hblk.cell 1
    have c2 := hblk.cell 2
    simp at c0 c1 c2
    have f0 := hblk.frozen 0
    have f1 := hblk.frozen 1
    have f2 := hblk.frozen 2
    have hlt := hblk.lt
    have hW1 : Below w.heap.size w w1 := (below3 w _ _ _).trans (hb1.mono (below3 w _ _ _).size)
    have HS : Hid (stepS l at_ err 7 N = (a2, e2, 0, [])) := by
      have : stepS l at_ err 7 N = ((goS l at_ err N).1, (goS l at_ err N).2, 0, []) := rfl
      unfold Hid
      rw [this, HN.out]
    have hfin := (((hblk.put 0 (.slice A n cap)).put 1 (.int .i64 a2)).put 2 (.int .i64 e2))
    have r0 := hfin.cell 0
    have r1 := hfin.cell 1
    have r2 := hfin.cell 2
    have k0 : ((#[Value.slice none 0 0, .int .i64 0, .int .i64 0].setIfInBounds 0 (.slice A n cap)).setIfInBounds 1 (.int .i64 a2)).setIfInBounds 2 (.int .i64 e2) = #[.slice A n cap, .int .i64 a2, .int .i64 e2] := rfl
    rw [k0] at r0 r1 r2
    clear hfin k0
    simp only [List.getElem?_toArray, List.getElem?_cons_zero, List.getElem?_cons_succ] at r0 r1 r2
    go_wp2
    refine bodyPost_ret (v := .tuple #[.agg #[.slice A n cap, .int .i64 a2, .int .i64 e2], .int .u64 0, .slice none 0 0]) (by simp [results, Try.results22, go_sem, r0, r1, r2]) rfl ?_
    unfold SaysR
    rw [hk, HS.out]
    refine ⟨none, 0, 0, rfl, Sees.nil _ _ _, ?_⟩
    repeat (first | exact Below.refl _ _ | refine Below.drew ?_ | refine Below.alloc ?_ (by first | exact Nat.le_refl _ | (simp; done) | (simp; omega) | (simp [World.setCell]; done) | (simp [World.setCell]; omega)) _ | refine Below.setCell ?_ (by first | exact Nat.le_refl _ | (simp; done) | (simp; omega)) _ | exact hW1)
end
end Go.Proofs.Ytnlgdcoeooppnaa

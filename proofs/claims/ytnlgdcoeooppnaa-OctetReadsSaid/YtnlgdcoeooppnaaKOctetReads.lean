/- The walk of OctetReads, which returns true. No condition. -/
import Derived.Test.YtnlgdcoeooppnaaRows
import Derived.Test.YtnlgdcoeooppnaaW11
import Derived.Test.YtnlgdcoeooppnaaRead
import Derived.WalkKit
import Derived.BigQuiet
import Derived.Deep.QuietTactic
import Derived.Deep.RegionHeld3
import Derived.WalkLawsBesides
import Derived.Lib.Hide
namespace Go.Proofs.Ytnlgdcoeooppnaa.octetReads
open Go.RowKit
set_option linter.unusedVariables false


theorem quietA {P : Program} {f : FuncId} {args : Array Value} {w : World} {n : Nat} {v : Value} (h : Calls P f args (w.drewN n) fun e w' => e = .returned v ∧ ∃ nq, w' = (w.drewN n).drewN nq) :
    Calls P f args (w.drewN n) fun e w' => e = .returned v ∧ ∃ nq, w' = w.drewN nq :=
  h.mono fun _ _ ⟨he, m, hm⟩ => ⟨he, n + m, by rw [hm, World.drewN_drewN]⟩
theorem quietB {P : Program} {f : FuncId} {args : Array Value} {w : World} {n : Nat} {v : Value} (h : Calls P f args (w.drewN n) fun e w' => e = .returned v ∧ w.drewN n = w') :
    Calls P f args (w.drewN n) fun e w' => e = .returned v ∧ ∃ nq, w' = w.drewN nq :=
  h.mono fun _ _ ⟨he, hm⟩ => ⟨he, n, hm.symm⟩

theorem rd_low {w w' : World} {B g : Nat} {A : Option Addr} {n cap at_ : Nat} {l : List Int} {err : Int} (h : Rd w g A n cap l at_ err) (hb : Below B w w') (hg : g < B) (hA : ∀ ad, A = some ad → 0 < n → ad.block < B) : Rd w' g A n cap l at_ err :=
  ⟨(hb.block g hg).trans h.blk, h.sees.keep fun k hk hh => by obtain ⟨ad, h0, rfl, h1⟩ := hh; exact hb.block _ (hA ad h0 h1), h.nc, h.le, h.small⟩
theorem ib_set' (k : IntKind) (l : List Int) (j : Nat) (x : Int) : (ib k l).set j (.int k x) = ib k (l.set j x) := by simp [ib, List.map_set]
theorem nextS_le (l : List Int) (at_ : Nat) (err k : Int) : (nextS l at_ err k).2.2.length ≤ l.length := by
  unfold nextS
  split
  · simp
  · split
    · simp
    · split
      · simp
      · simp; omega
theorem stepS_le (l : List Int) (at_ : Nat) (err q N : Int) : (stepS l at_ err q N).2.2.2.length ≤ l.length := by
  unfold stepS
  split
  · simp
  · split
    · exact nextS_le _ _ _ _
    · simp

theorem same_true {A B : Option Addr} {n c m d : Nat} {l : List Int} {w : World} {e1 e2 : Option TypeId} (hs : Sees w e1 1 A n (ib .u8 l)) (hr : Sees w e2 1 B m (ib .u8 l)) (hn : n ≤ 1000000000000) :
    Calls Try.prog 17 #[.slice A n c, .slice B m d] w fun e w' => e = .returned (.bool true) ∧ ∃ nq, w' = w.drewN nq := by
  have := same_any A B n c m d l l w hs hr hn
  rwa [eqB_true rfl] at this

set_option maxRecDepth 100000 in
set_option maxHeartbeats 3200000 in
theorem walk (w : World) (A : Option Addr) (n c : Nat) (l : List Int) (w0 : Row w .u8 A n c l) (B : Option Addr) (m d : Nat) (ps : List (Int × Int)) (w1 : PairsOf w .i64 B m d ps) :
    Calls Try.prog 5 #[.slice A n c, .slice B m d] w fun e w' => e = .returned (.bool true) ∧ Below w.heap.size w w' := by
  have hmm : m ≤ 9223372036854775807 := by have h1 := w1.nc; have h2 := w1.small; unfold maxLen at h2; omega
  have hBl : isB (l.take 300) := isB.take (wf_u8 w0.wf) _
  go_enter Try.func5, Try.ntmps5
  go_wp2_with (go_at_call 11; refine (wakes_any w).mono ?_; rintro e x1 ⟨rfl, hb1⟩)
  refine (few_any A n c l x1 (w0.sees.below hb1) w0.nc w0.small).mono ?_
  rintro e x2 ⟨A2, n2, c2, rfl, hn2, ho2, hb2⟩
  have hB2 := hb1.trans (hb2.mono hb1.size)
  have nc2 := own_cap ho2
  have h2 := Sees.of_own ho2
  go_wp2_with fail
  refine (read_any (cap := c2) h2 nc2.1 (by omega)).mono ?_
  rintro e x3 ⟨g, rfl, hg, hR3, hb3⟩
  have hB3 := hB2.trans (hb3.mono hB2.size)
  go_wp2_with fail
  refine (few_any A n c l x3 (w0.sees.below hB3) w0.nc w0.small).mono ?_
  rintro e x4 ⟨A4, n4, c4, rfl, hn4, ho4, hb4⟩
  have hB4 := hB3.trans (hb4.mono hB3.size)
  have hR4 := hR3.below hb4
  have h4 := Sees.of_own ho4
  have nc4 := own_cap ho4
  obtain ⟨b, Hb⟩ : ∃ b, Hid (b = l.take 300) := ⟨_, rfl⟩
  rw [← Hb.out] at hBl hR4 h4
  have hgw : w.heap.size ≤ g := Nat.le_trans hB2.size hg
  clear w0 hb1 ho2 hb2 h2 hR3 hb3 ho4 hb4 hB2 hB3
  go_wp2_with fail
  obtain ⟨gm, Hgm⟩ : ∃ gm, Hid (gm = x4.heap.size) := ⟨_, rfl⟩
  have hblk0 : Blk (x4.alloc (.cells #[.slice A4 n4 c4, .int .i64 0, .int .i64 0] 43)) gm 43 #[.slice A4 n4 c4, .int .i64 ((0 : Nat) : Int), .int .i64 0] := by
    rw [Hgm.out]; exact Blk.new _ _ _
  have hgm : w.heap.size ≤ gm := by rw [Hgm.out]; exact hB4.size
  have hggm : g ≠ gm := by have := hR4.blk.lt; rw [Hgm.out]; omega
  rw [← Hgm.out]
  have hR5 := hR4.below ((Below.refl _ _).alloc (Nat.le_refl _) (.cells #[.slice A4 n4 c4, .int .i64 0, .int .i64 0] 43))
  have h5 := h4.alloc (.cells #[.slice A4 n4 c4, .int .i64 0, .int .i64 0] 43)
  have hB5 := hB4.alloc hB4.size (.cells #[.slice A4 n4 c4, .int .i64 0, .int .i64 0] 43)
  clear hR4 h4 hB4
  go_loopw [27] (fun i wr => ∃ (k at_ : Nat) (err : Int), k ≤ m ∧ i = .int .i64 k ∧ Rd wr g A2 n2 c2 b at_ err ∧ Blk wr gm 43 #[.slice A4 n4 c4, .int .i64 at_, .int .i64 err] ∧
    Sees wr (some 5) 1 A4 n4 (ib .u8 b) ∧ Below w.heap.size w wr) (fun i _ => m - (intOf i).toNat)
  case atStart => exact ⟨0, 0, 0, by omega, rfl, hR5, hblk0, h5, hB5⟩
  case round =>
    clear hR5 hblk0 h5 hB5
    obtain ⟨k, at_, err, hk, rfl, hR, hM, hs, hB⟩ := hrel
    obtain ⟨wo, hwq⟩ : ∃ wo : World, wo = wr := ⟨_, rfl⟩
    subst hwq
    by_cases hlt : k < m
    · by_cases h60 : k = 60
      · subst h60
        obtain ⟨ad, p, rfl, hp, hc0, hc1⟩ := w1.at_ hB hlt
        simp [Addr.add] at hc0 hc1
        go_wp2
        go_ret
        exact ⟨rfl, hB.alloc hB.size _⟩
      · have hk60 : ((k : Int) == 60) = false := by simp; omega
        obtain ⟨ad, p, rfl, hp, hc0, hc1⟩ := w1.at_ hB hlt
        clear h60 hp
        go_wp2_with fail
        have hRa := hR.below ((Below.refl _ _).alloc (Nat.le_refl _) (.cells #[.int .i64 p.1, .int .i64 p.2] 45))
        have hMa := hM.alloc (.cells #[.int .i64 p.1, .int .i64 p.2] 45)
        have hsa := hs.alloc (.cells #[.int .i64 p.1, .int .i64 p.2] 45)
        have hBa := hB.alloc hB.size (.cells #[.int .i64 p.1, .int .i64 p.2] 45)
        have hSa := Blk.new wo 45 #[.int .i64 p.1, .int .i64 p.2]
        have hgo := hR.blk.lt
        have hgmo := hM.lt
        have hAo : ∀ ad, A2 = some ad → 0 < n2 → ad.block < wo.heap.size := fun ad h0 h1 => hR.sees.lt h1 h0
        have hA4o : ∀ ad, A4 = some ad → 0 < n4 → ad.block < wo.heap.size := fun ad h0 h1 => hs.lt h1 h0
        refine (reads_any hRa hBl p.1 p.2).mono ?_
        rintro e y1 ⟨A6, n6, c6, rfl, hRb, ho6, hg6⟩
        have hMb := hMa.grown hg6 (fun e => hggm (by injection e))
        have hsb := hsa.grown hg6 (fun ad h0 h1 e => by injection e with e; exact hRa.blk.apart hsa (by decide) ad h0 h1 e.symm)
        have hBb := hBa.trans (below_of_only hg6 hgw hBa.size)
        have hSb := hSa.grown hg6 (fun e => by injection e; omega)
        have hs6 := hg6.size
        simp only [World.size_alloc] at hs6
        obtain ⟨at2, e2, xx, oo, HST⟩ : ∃ at2 e2 xx oo, Hid (stepS b at_ err ((IntKind.u64.wrap p.1).tmod 8) p.2 = (at2, e2, xx, oo)) := ⟨_, _, _, _, rfl⟩
        have hat := hR.le
        have hoo : oo.length ≤ 300 := by have h1 := stepS_le b at_ err ((IntKind.u64.wrap p.1).tmod 8) p.2; rw [HST.out] at h1; have := hR.sees.len; simp only at h1; omega
        rw [HST.out] at hRb ho6 ⊢
        simp only at hRb ho6 ⊢
        have m0 := hMb.cell 0
        have m1 := hMb.cell 1
        have m2 := hMb.cell 2
        have t0 := hSb.cell 0
        have t1 := hSb.cell 1
        simp at m0 m1 m2 t0 t1
        have HN42 : Hid (n4 = n2) := by unfold Hid; rw [← hs.len, ← hR.sees.len]
        have ho6' := own_mono ho6 (base' := wo.heap.size) (by simp)
        have h6le : n6 ≤ 300 := by have := (Sees.of_own ho6').len; omega
        clear hoo
        have hwo := hB.size
        clear hRa hMa hsa hBa hSa hg6 hR hM hs hB ho6
        go_wp2_with fail
        refine (says_any hsb hBl nc4.1 (by rw [HN42.out]; exact hat) (by omega) p.1 p.2).mono ?_
        rintro e y2 ⟨A7, n7, c7, rfl, hs7, hb7⟩
        rw [HST.out] at hs7 ⊢
        simp only at hs7 ⊢
        have hRc := hRb.below hb7
        have hMc := hMb.below hb7
        have hsc := hsb.below hb7
        have hBc := hBb.trans (hb7.mono hBb.size)
        have ho7 := own_below ho6' hb7
        have hs27 := hb7.size
        have q0 := hMc.cell 0
        have q1 := hMc.cell 1
        have q2 := hMc.cell 2
        simp at q0 q1 q2
        have f0 := hMc.frozen 0
        have f1 := hMc.frozen 1
        have f2 := hMc.frozen 2
        have hgm2 := hMc.lt
        clear hRb hMb hsb hBb ho6' hb7 hSb m0 m1 m2 t0 t1
        go_wp2_with fail
        have hgX : y2.grownBy ((((y2.setCell ⟨gm, 0, none⟩ (.slice A4 n4 c4)).setCell ⟨gm, 1, none⟩ (.int .i64 at2)).setCell ⟨gm, 2, none⟩ (.int .i64 e2)).alloc (.cells #[.slice A4 n4 c4, .int .i64 at2, .int .i64 e2] 43)) (some gm) :=
          grown_trans (grown_trans (grown_trans (grown_set _ _ _ _) (grown_set _ _ _ _)) (grown_set _ _ _ _)) (World.grownBy_alloc _ _ _)
        have hMX := (((hMc.put 0 (.slice A4 n4 c4)).put 1 (.int .i64 at2)).put 2 (.int .i64 e2)).alloc (.cells #[.slice A4 n4 c4, .int .i64 at2, .int .i64 e2] 43)
        have k0 : ((#[Value.slice A4 n4 c4, .int .i64 at_, .int .i64 err].setIfInBounds 0 (.slice A4 n4 c4)).setIfInBounds 1 (.int .i64 at2)).setIfInBounds 2 (.int .i64 e2) = #[.slice A4 n4 c4, .int .i64 at2, .int .i64 e2] := rfl
        rw [k0] at hMX
        clear k0
        generalize ((((y2.setCell ⟨gm, 0, none⟩ (.slice A4 n4 c4)).setCell ⟨gm, 1, none⟩ (.int .i64 at2)).setCell ⟨gm, 2, none⟩ (.int .i64 e2)).alloc (.cells #[.slice A4 n4 c4, .int .i64 at2, .int .i64 e2] 43)) = y3 at hgX hMX ⊢
        have hRX := hRc.grown hgX hggm (hMc.apart hRc.sees (by decide))
        have hsX := hsc.grown1 hgX (hMc.apart hsc (by decide))
        have hs7X := hs7.grown1 hgX (hMc.apart hs7 (by decide))
        have ho7X := own_grown1 ho7 hgX (own_apart ho7 hMc (by decide))
        have hBX := hBc.trans (below_of_only hgX hgm hBc.size)
        have m0 := hMX.cell 0
        have m1 := hMX.cell 1
        have m2 := hMX.cell 2
        simp at m0 m1 m2
        have hs37 := hgX.size
        have hl7 : ((n4 : Int) - at2 != (n2 : Int) - at2) = false := by rw [HN42.out]; simp
        have hl8 : ((n2 : Int) - at2 != (n4 : Int) - at2) = false := by rw [HN42.out]; simp
        have hat2 := hRX.le
        clear hRc hMc hsc hs7 ho7 hBc hgX q0 q1 q2 f0 f1 f2
        go_quiet ((first
          | (go_at_call 17; exact quietA (same_true ((Sees.of_own ho7X).drewN _) (hs7X.drewN _) (by omega)))
          | (go_at_call 23; exact quietB (at_any (hRX.drewN _)))
          | (go_at_call 24; exact quietA (left_any (hRX.drewN _)))
          | (go_at_call 25; exact quietB (err_any (hRX.drewN _)))))
        go_wp2_with fail
        have hb0 : Below wo.heap.size y3 (y3.drewN nq) := below_drewN (Below.refl _ _) _
        have ho0 : (y3.drewN nq).ownsRow wo.heap.size 5 1 (.slice A6 n6 c6) n6 (ib .u8 oo) := ho7X
        go_loopw [84] (fun i wr => ∃ (j : Nat) (lj : List Int), j ≤ n6 ∧ i = .int .i64 j ∧ wr.ownsRow wo.heap.size 5 1 (.slice A6 n6 c6) n6 (ib .u8 lj) ∧ Below wo.heap.size y3 wr) (fun i _ => n6 - (intOf i).toNat)
        case atStart => exact ⟨0, oo, by omega, rfl, ho0, hb0⟩
        case round =>
          clear ho0 hb0
          obtain ⟨j, lj, hj, rfl, hoz, hbz⟩ := hrel
          by_cases hjl : j < n6
          · obtain ⟨gg, v, rfl, hgg, _, hv, hcz, hfz⟩ := own_at hoz hjl
            obtain ⟨z, hz, rfl⟩ := ib_get hv
            have hput := own_put hoz j (.int .u8 (IntKind.u8.wrap (z + 1)))
            rw [ib_set'] at hput
            have hbz2 := hbz.setCell (p := ⟨gg, j, none⟩) hgg (.int .u8 (IntKind.u8.wrap (z + 1)))
            rw [IntKind.wrap_u8] at hput hbz2
            clear hv hz hoz hbz
            go_wp2
            go_roundw
            case rel => exact ⟨j + 1, _, by omega, by go_num, hput, hbz2⟩
            case measure => simp [intOf]; omega
          · have hRz := rd_low hRX hbz hgo hAo
            have hMz : Blk wr gm 43 #[.slice A4 n4 c4, .int .i64 at2, .int .i64 e2] := (hbz.block gm hgmo).trans hMX
            have hsz := hsX.keep (w' := wr) fun k hk hh => by obtain ⟨ad, h0, rfl, h1⟩ := hh; exact hbz.block _ (hA4o ad h0 h1)
            have hBz := hBX.trans (hbz.mono hwo)
            have z0 := hMz.cell 0
            simp at z0
            clear hoz hbz
            go_wp2_with fail
            refine (same_true hRz.sees hsz (by omega)).mono ?_
            rintro e y5 ⟨rfl, q5, rfl⟩
            go_wp2
            go_roundw
            case rel => exact ⟨k + 1, at2, e2, by omega, by go_num, hRz.drewN _, hMz, hsz, below_drewN hBz _⟩
            case measure => simp [intOf]; omega
    · go_wp2
      go_ret
      exact ⟨rfl, hB⟩
end Go.Proofs.Ytnlgdcoeooppnaa.octetReads

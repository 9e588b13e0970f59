/- The walks of the conf layer: members of bytes by the reference. No condition. -/
import Derived.Test.YtonfbinkjhbpiaaC15
namespace Go.Proofs.Ytonfbinkjhbpiaa
open Go.RowKit Go.Shelf
set_option linter.unusedVariables false
set_option linter.unusedSimpArgs false

theorem fill_set2 {l : List Int} {n k : Nat} {y : Int} (hl : l.length = n) (hy : l[k]? = some y) :
    ((l.take k ++ List.replicate (n - k) 0).set k y) = l.take (k + 1) ++ List.replicate (n - (k + 1)) 0 := by
  have hk : k < l.length := (List.getElem?_eq_some_iff.1 hy).1
  have hlen : (l.take k).length = k := by rw [List.length_take]; omega
  rw [List.set_append_right _ _ (by omega), hlen, Nat.sub_self, take_snoc hy]
  have : n - k = (n - (k + 1)) + 1 := by omega
  rw [this, List.replicate_succ, List.set_cons_zero, List.append_assoc]
  rfl

theorem keepD {wr w1 w2 : World} {a b : Addr} {v u : Value} (h : w1.cell? a = some v ∧ w1.cell? b = some u ∧ Below wr.heap.size wr w1) (hb : Below w1.heap.size w1 w2) : w2.cell? a = some v ∧ w2.cell? b = some u ∧ Below wr.heap.size wr w2 :=
  ⟨by rw [hb.cell (World.block_lt_of_cell? w1 _ h.1)]; exact h.1, by rw [hb.cell (World.block_lt_of_cell? w1 _ h.2.1)]; exact h.2.1, h.2.2.trans (hb.mono h.2.2.size)⟩

set_option maxHeartbeats 1600000 in
theorem rdecode_any {e1 : Option TypeId} (A : Option Addr) (n c : Nat) (b : List Int) (w : World) (hs : Sees w e1 1 A n (ib .u8 b)) (hnc : n ≤ c) (hc : c ≤ maxLen) (hn : n ≤ 1000000) (hb : ∀ x ∈ b, 0 ≤ x ∧ x < 256) :
    Calls Try.prog 26 #[.slice A n c] w (MadeC w (decL b) (decE b)) := by
  have HL := Lib.hid hs.len
  unfold maxLen at hc
  have hB1 := Lib.hid ((Below.refl _ w).alloc (Nat.le_refl _) (.cells #[.slice none 0 0] 27))
  have HK1 := Lib.hid (Blk.new w 27 #[.slice none 0 0])
  have hs1 := hs.alloc (.cells #[.slice none 0 0] 27)
  cases b with
  | nil =>
    have hn0 : n = 0 := HL.out.symm
    subst hn0
    go_enter Try.func26, Try.ntmps26
    go_wp2
    have r0 := HK1.out.cell 0
    simp at r0
    refine bodyPost_ret (v := .tuple #[cf none 0 0, .int .i64 7]) (by simp [results, Try.results26, go_sem, r0]) rfl ?_
    exact madeC_none hB1.out
  | cons x l =>
    have hx := hb x (List.mem_cons_self ..)
    have hx0 := hx.1
    have hx1 := hx.2
    have hln : l.length + 1 = n := HL.out
    have h0 : 0 < n := by omega
    obtain ⟨ad, u, rfl, hu, hcu⟩ := hs1.at_ h0
    obtain ⟨y, hy, rfl⟩ := ib_get hu
    simp at hy
    subst hy
    simp [Addr.add] at hcu
    clear hu hx
    have hn0 : ((n : Int) == 0) = false := by simp; omega
    by_cases hle : (n : Int) ≤ x
    · have HE : Hid (decE (x :: l) = 7) := by unfold Hid decE; simp only; rw [if_pos (by omega)]
      have HLL : Hid (decL (x :: l) = []) := by unfold Hid decL; rw [HE.out]; rfl
      have hgt : (n : Int) - 1 < x := by omega
      clear hln
      go_enter Try.func26, Try.ntmps26
      go_wp2
      have r0 := HK1.out.cell 0
      simp at r0
      refine bodyPost_ret (v := .tuple #[cf none 0 0, .int .i64 7]) (by simp [results, Try.results26, go_sem, r0]) rfl ?_
      rw [HE.out, HLL.out]
      exact madeC_none hB1.out
    · have hgt : ¬ (n : Int) - 1 < x := by omega
      have HLN := Lib.hid hln
      have HZ : Hid ((w.alloc (.cells #[.slice none 0 0] 27)).heap.size = w.heap.size + 1) := by simp [Hid]
      clear hln
      go_enter Try.func26, Try.ntmps26
      go_wp2_with (at_make; refine Door.enter ?_)
      refine Door.leave (wl_make ty_ints (base := w.heap.size + 1) (n := n - 1) (c := n - 1) (by omega) (by omega) (by omega) (by omega) (Nat.le_of_eq HZ.out.symm) rfl rfl rfl rfl rfl ?_)
      intro A1 w1 hown1 hb1 _
      have k1 := HK1.out.below hb1
      have hl1 := hb1.size
      go_wp2
      have HB1' := Lib.hid (hB1.out.trans (hb1.mono (by rw [HZ.out]; exact Nat.le_succ _)))
      have hsz1 : w.heap.size + 1 ≤ w1.heap.size := by rw [← HZ.out]; exact hl1
      have kb := Blk.new w1 27 #[.slice A1 (n - 1) (n - 1)]
      have k1' := k1.alloc (.cells #[.slice A1 (n - 1) (n - 1)] 27)
      have hown2 := hown1.alloc (.cells #[.slice A1 (n - 1) (n - 1)] 27)
      have hB2 : Below (w.heap.size + 1) w1 (w1.alloc (.cells #[.slice A1 (n - 1) (n - 1)] 27)) := (Below.refl _ w1).alloc hsz1 _
      have hwsz : w1.heap.size < (w1.alloc (.cells #[.slice A1 (n - 1) (n - 1)] 27)).heap.size := by simp
      have hl1n : l.length = n - 1 := by have := HLN.out; omega
      clear hown1 hl1 hb1 k1' hs1 hcu hB1 HK1
      obtain ⟨N, HN⟩ : ∃ N, N = n - 1 := ⟨_, rfl⟩
      have hNI : ((N : Nat) : Int) = (n : Int) - 1 := by omega
      have hN1 : N + 1 = n := by omega
      rw [← HN] at kb hown2 hB2 hwsz hl1n ⊢
      have HNI := Lib.hid hNI
      have HN1 := Lib.hid hN1
      have HLL := Lib.hid hl1n
      have hN : N ≤ 1000000 := by omega
      clear HN hNI hN1 hl1n
      obtain ⟨w2, hw2⟩ : ∃ w2, w1.alloc (.cells #[.slice A1 N N] 27) = w2 := ⟨_, rfl⟩
      rw [hw2] at kb hown2 hB2 hwsz ⊢
      clear hw2
      have hown3 : w2.ownsRow (w.heap.size + 1) 3 1 (.slice A1 N N) N (ib .i64 (l.take 0 ++ List.replicate (N - 0) 0)) := by simpa [ib] using hown2
      clear hown2
      go_loopw [28] (fun p wr => ∃ k : Nat, k ≤ N ∧ p = .int .i64 k ∧ wr.ownsRow (w.heap.size + 1) 3 1 (.slice A1 N N) N (ib .i64 (l.take k ++ List.replicate (N - k) 0)) ∧ Below (w.heap.size + 1) w1 wr ∧ Blk wr w1.heap.size 27 #[.slice A1 N N])
        (fun p _ => N - (intOf p).toNat)
      case atStart => exact ⟨0, by omega, rfl, hown3, hB2, kb⟩
      case round =>
        obtain ⟨k, hk, rfl, hown, hbr, hkb⟩ := hrel
        have hsr := hs.below (HB1'.out.trans (hbr.mono (Nat.le_succ _)))
        by_cases hlt : k < N
        · obtain ⟨ad2, v, had, hv, hc3⟩ := hsr.at_ (k := 1 + k) (by have := HN1.out; omega)
          obtain rfl := Option.some.inj had
          obtain ⟨y, hy, rfl⟩ := ib_get hv
          have hyl : l[k]? = some y := by rw [Nat.add_comm] at hy; simpa using hy
          have hyb := hb y (List.mem_cons_of_mem _ (List.mem_of_getElem? hyl))
          have hy0 := hyb.1
          have hy1 := hyb.2
          have HS := Lib.hid (fill_set2 HLL.out hyl)
          obtain ⟨g, u2, rfl, hbg, hglt, _, hcell, hfz⟩ := own_at hown (k := k) hlt
          have c4 := hkb.cell 0
          simp at c4
          have hkI : (k : Int) < (N : Int) := by omega
          have hkJ : 1 + (k : Int) < (n : Int) := by have := HN1.out; omega
          have hne := own_apart hown hkb (by decide) _ rfl
          clear hyb hy hv hyl had
          go_wp2_with fail
          go_region
          all_goals
            go_wp2
            go_roundw
            case rel => exact ⟨k + 1, by omega, by go_num, by have := own_put (w := wr.drew) hown k (.int .i64 y); rw [ib_set, HS.out] at this; exact this, (hbr.trans (Below.refl _ wr).drew).setCell hbg _, hkb.drew.far (p := ⟨g, k, none⟩) (fun e => hne e.symm) _⟩
            case measure => simp [intOf]; omega
        · obtain rfl : k = N := by omega
          rw [take_all (by have := HLL.out; omega), Nat.sub_self, List.replicate_zero, List.append_nil] at hown
          obtain ⟨ad2, v, had, hv, hc3⟩ := hsr.at_ h0
          obtain rfl := Option.some.inj had
          obtain ⟨y, hy, rfl⟩ := ib_get hv
          simp at hy
          subst hy
          simp [Addr.add] at hc3
          have c4 := hkb.cell 0
          simp at c4
          have q := k1.low hbr (Nat.lt_succ_self _)
          have HBR := Lib.hid (HB1'.out.trans (hbr.mono (Nat.le_succ _)))
          have sl := Sees.of_own hown
          clear hv had hlt
          by_cases hxN : x < (k : Int)
          · have HE : Hid (decE (x :: l) = 180) := by unfold Hid decE; simp only; rw [if_neg (by have := HLN.out; omega), if_neg (fun h => by have := HLL.out; omega)]
            have HLD : Hid (decL (x :: l) = []) := by unfold Hid decL; rw [HE.out]; rfl
            go_wp2_with fail
            go_quiet (fail)
            have qf := q.frozen 0
            have qc := q.cell 0
            simp at qc
            go_wp2
            have r0 := ((q.drewN nq).put 0 (.slice none 0 0)).cell 0
            simp at r0
            refine bodyPost_ret (v := .tuple #[cf none 0 0, .int .i64 180]) (by simp [results, Try.results26, go_sem, r0]) rfl ?_
            rw [HE.out, HLD.out]
            exact madeC_none ((below_drewN HBR.out _).setCell (Nat.le_refl _) _)
          · have hxk := Lib.hid (show x = (k : Int) by have := HNI.out; omega)
            go_wp2_with fail
            have hw : IntKind.i64.wrap x = x := by rw [IntKind.wrap_i64]; omega
            have hd2 : decide (IntKind.i64.wrap x < (k : Int)) = false := decide_eq_false (by rw [hw, hxk.out]; omega)
            have hd : decide (x < (k : Int)) = false := decide_eq_false (by rw [hxk.out]; omega)
            have hS0 : wr.drew.cell? ⟨w1.heap.size, 0, none⟩ = some (.slice A1 k k) ∧ wr.drew.cell? ad = some (.int .u8 x) ∧ Below wr.heap.size wr wr.drew := ⟨c4, hc3, (Below.refl _ _).drew⟩
            go_region_held3 (fun w' => w'.cell? ⟨w1.heap.size, 0, none⟩ = some (.slice A1 k k) ∧ w'.cell? ad = some (.int .u8 x) ∧ Below wr.heap.size wr w') (assumption)
              (first
                | (go_at_call 13; refine (rright_any A1 k k l _ (sl.below ?_) (by omega)).mono ?_; (exact (fun h : _ ∧ _ ∧ _ => h.2.2) ‹_ ∧ _ ∧ _›); rintro e x6 ⟨rfl, hb6⟩; have hS6 := keepD ‹_ ∧ _› hb6))
            have q6 := q.below hS6.2.2
            have qf := q6.frozen 0
            have qc := q6.cell 0
            simp at qc
            have HB6 := Lib.hid (HBR.out.trans (hS6.2.2.mono HBR.out.size))
            have own6 := own_below hown hS6.2.2
            have hxe : (l.length : Int) = x := by have := HLL.out; have := HN1.out; omega
            cases hr : rightB l with
            | false =>
              have HE : Hid (decE (x :: l) = 180) := by unfold Hid decE; simp only; rw [if_neg (by omega), if_neg (by rw [hr]; simp)]
              have HLD : Hid (decL (x :: l) = []) := by unfold Hid decL; rw [HE.out]; rfl
              clear hr hxe
              go_wp2
              have r0 := (q6.put 0 (.slice none 0 0)).cell 0
              simp at r0
              refine bodyPost_ret (v := .tuple #[cf none 0 0, .int .i64 180]) (by simp [results, Try.results26, go_sem, r0]) rfl ?_
              rw [HE.out, HLD.out]
              exact madeC_none (HB6.out.setCell (Nat.le_refl _) _)
            | true =>
              have HE : Hid (decE (x :: l) = 0) := by unfold Hid decE; simp only; rw [if_neg (by omega), if_pos ⟨hr, hxe⟩]
              have HLD : Hid (decL (x :: l) = l) := by unfold Hid decL; rw [HE.out]; rfl
              have c6 := hS6.1
              clear hr hxe
              go_wp2
              have r0 := (q6.put 0 (.slice A1 k k)).cell 0
              simp at r0
              refine bodyPost_ret (v := .tuple #[cf A1 k k, .int .i64 0]) (by simp [results, Try.results26, go_sem, r0]) rfl ?_
              rw [HE.out, HLD.out]
              exact ⟨A1, k, k, rfl, own_mono (own_set_low own6 (Nat.lt_succ_self _)) (Nat.le_succ _), HB6.out.setCell (Nat.le_refl _) _⟩
end Go.Proofs.Ytonfbinkjhbpiaa

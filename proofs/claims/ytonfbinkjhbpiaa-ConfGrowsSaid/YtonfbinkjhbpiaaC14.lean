/- The walks of the conf layer: members of bytes. No condition. -/
import Derived.Test.YtonfbinkjhbpiaaC13
namespace Go.Proofs.Ytonfbinkjhbpiaa
open Go.RowKit Go.Shelf
set_option linter.unusedVariables false
set_option linter.unusedSimpArgs false

/-- What decoding says, and the members then. -/
def decE (b : List Int) : Int := match b with
  | [] => 7
  | x :: l => if ((l.length : Int) < x) then 7 else if rightB l = true ∧ (l.length : Int) = x then 0 else 180
def decL (b : List Int) : List Int := if decE b = 0 then b.tail else []
theorem right_size {l : List Int} (h : rightB l = true) : sizeN (ofS l) = l.length := by
  have := (rightB_of h).2
  unfold sizeN
  rw [← this]

set_option maxHeartbeats 600000 in
theorem decode_any {e1 : Option TypeId} (A : Option Addr) (n c : Nat) (b : List Int) (w : World) (hs : Sees w e1 1 A n (ib .u8 b)) (hnc : n ≤ c) (hc : c ≤ maxLen) (hn : n ≤ 1000000) (hb : ∀ x ∈ b, 0 ≤ x ∧ x < 256) :
    Calls Try.prog 25 #[.slice A n c] w (MadeC w (decL b) (decE b)) := by
  have HL := Lib.hid hs.len
  unfold maxLen at hc
  have hB1 := Lib.hid ((Below.refl _ w).alloc (Nat.le_refl _) (.cells #[.slice none 0 0] 27))
  have HK1 := Lib.hid (Blk.new w 27 #[.slice none 0 0])
  have hs1 := hs.alloc (.cells #[.slice none 0 0] 27)
  cases b with
  | nil =>
    have hn0 : n = 0 := HL.out.symm
    subst hn0
    go_enter Try.func25, Try.ntmps25
    go_wp2
    have r := HK1.out
    have r0 := r.cell 0
    simp at r0
    refine bodyPost_ret (v := .tuple #[cf none 0 0, .int .i64 7]) (by simp [results, Try.results25, go_sem, r0]) rfl ?_
    exact madeC_none hB1.out
  | cons x l =>
    have hx := hb x (List.mem_cons_self ..)
    have hx0 := hx.1
    have hx1 := hx.2
    have hln : l.length + 1 = n := HL.out
    have h0 : 0 < n := by omega
    obtain ⟨ad, u, rfl, hu, hcu⟩ := hs1.at_ h0
    obtain ⟨y, hy, rfl⟩ := ib_get hu
    simp at hy
    subst hy
    simp [Addr.add] at hcu
    clear hu hx
    have hn0 : ((n : Int) == 0) = false := by simp; omega
    by_cases hle : (n : Int) ≤ x
    · have HE : Hid (decE (x :: l) = 7) := by unfold Hid decE; simp only; rw [if_pos (by omega)]
      have HLL : Hid (decL (x :: l) = []) := by unfold Hid decL; rw [HE.out]; rfl
      go_enter Try.func25, Try.ntmps25
      go_wp2
      have r := HK1.out
      have r0 := r.cell 0
      simp at r0
      refine bodyPost_ret (v := .tuple #[cf none 0 0, .int .i64 7]) (by simp [results, Try.results25, go_sem, r0]) rfl ?_
      rw [HE.out, HLL.out]
      exact madeC_none hB1.out
    · have hBB := Lib.hid (hB1.out.alloc (by simp) (.cells #[.slice none 0 0] 27))
      have KK1 := Lib.hid (HK1.out.alloc (.cells #[.slice none 0 0] 27))
      have KK2 : Hid (Blk ((w.alloc (.cells #[.slice none 0 0] 27)).alloc (.cells #[.slice none 0 0] 27)) (w.heap.size + 1) 27 #[.slice none 0 0]) := by
        have := Blk.new (w.alloc (.cells #[.slice none 0 0] 27)) 27 #[.slice none 0 0]
        simp only [World.size_alloc] at this
        exact this
      have HZ : Hid (((w.alloc (.cells #[.slice none 0 0] 27)).alloc (.cells #[.slice none 0 0] 27)).heap.size = w.heap.size + 2) := by simp [Hid]
      have hcz : Hid (((w.alloc (.cells #[.slice none 0 0] 27)).alloc (.cells #[.slice none 0 0] 27)).cell? ad = some (.int .u8 x)) :=
        (((Below.refl _ _).alloc (Nat.le_refl _) _).cell (World.block_lt_of_cell? _ _ hcu)).trans hcu
      have hadl : ad.block < w.heap.size + 1 := by have := World.block_lt_of_cell? _ _ hcu; simpa using this
      by_cases hc1 : c = 1
      · have HC1 := Lib.hid hc1
        have hlow : ∀ a0, some ad = some a0 → a0.block < w.heap.size + 1 := by intro a0 h; injection h with h; rw [← h]; exact hadl
        subst hc1

        have hS : Sees ((w.alloc (.cells #[.slice none 0 0] 27)).alloc (.cells #[.slice none 0 0] 27)) e1 1 (some ad) (n - 1) (ib .u8 l) := by
          have h := (hs1.alloc (.cells #[.slice none 0 0] 27)).cut (a := 1) (m := n - 1) hnc (by omega) (Nat.le_refl _)
          rw [if_pos rfl] at h
          have e : ((x :: l).drop 1).take (n - 1) = l := by rw [List.drop_one, List.tail_cons]; exact take_all (by omega)
          rw [e] at h
          simpa [Addr.add] using h
        have HLN := Lib.hid hln
        clear hln
        go_enter Try.func25, Try.ntmps25
        go_wp2
        obtain ⟨w2, hw2⟩ : ∃ w2, (w.alloc (.cells #[.slice none 0 0] 27)).alloc (.cells #[.slice none 0 0] 27) = w2 := ⟨_, rfl⟩
        rw [hw2] at hBB KK1 KK2 hS HZ hcz ⊢
        clear hw2
        go_loopw [25] (fun p wr => ∃ (k : Nat) (A' : Option Addr) (c' : Nat), k ≤ n - 1 ∧ p = .int .i64 k ∧ Blk wr (w.heap.size + 1) 27 #[.slice A' k c'] ∧ wr.ownsRow (w.heap.size + 2) 3 1 (.slice A' k c') k (ib .i64 (l.take k)) ∧ Below (w.heap.size + 1) w2 wr ∧ w.heap.size + 2 ≤ wr.heap.size)
          (fun p _ => n - (intOf p).toNat)
        case atStart => exact ⟨0, none, 0, by omega, rfl, KK2.out, World.ownsRow_nil _ _ _ _, Below.refl _ _, by rw [HZ.out]; exact Nat.le_refl _⟩
        case round =>
          obtain ⟨k, A', c', hk, rfl, hk3, hown, hbr, hsz⟩ := hrel
          by_cases hlt : k < n - 1
          · exact absurd hlt (by omega)
          · obtain rfl : k = n - 1 := by omega
            rw [take_all (by have := HLN.out; omega)] at hown
            obtain ⟨N, HN⟩ : ∃ N, N = n - 1 := ⟨_, rfl⟩
            rw [← HN] at hown hk3 ⊢
            have hN : N ≤ 1000000 := by omega
            have HN' := Lib.hid HN
            clear HN
            have c1 := hk3.cell 0
            go_wp2_with fail
            refine (asked_any A' N c' l _ (Sees.of_own hown) (by omega)).mono ?_
            rintro e w9 ⟨rfl, hb9⟩
            have hk9 := hk3.below hb9
            have hown9 := own_below hown hb9
            have q9 := (KK1.out.low hbr (by omega)).below hb9
            have hc9 : w9.cell? ad = some (.int .u8 x) := by
              have h1 := (hbr.cell (p := ad) hadl).trans hcz.out
              exact (hb9.cell (World.block_lt_of_cell? _ _ h1)).trans h1
            have HB9 := Lib.hid ((hBB.out.trans (hbr.mono (by omega))).trans (hb9.mono (by omega)))
            clear c1 hk3 hown hbr hb9 hcz hcu hS
            have c9 := hk9.cell 0
            simp at c9
            have q9f := q9.frozen 0
            have q9c := q9.cell 0
            simp at q9c
            cases hr : rightB l with
            | false =>
              rw [askE_wrong hr, askX_wrong hr]
              have HE : Hid (decE (x :: l) = 180) := by unfold Hid decE; simp only; rw [if_neg (by have := HLN.out; omega), if_neg (by rw [hr]; simp)]
              have HLL : Hid (decL (x :: l) = []) := by unfold Hid decL; rw [HE.out]; rfl
              clear hr
              go_wp2_with fail
              go_quiet (fail)
              go_wp2
              have r := (q9.drewN nq).put 0 (.slice none 0 0)
              have r0 := r.cell 0
              simp at r0
              refine bodyPost_ret (v := .tuple #[cf none 0 0, .int .i64 180]) (by simp [results, Try.results25, go_sem, r0]) rfl ?_
              rw [HE.out, HLL.out]
              exact madeC_none ((below_drewN HB9.out _).setCell (Nat.le_refl _) _)
            | true =>
              rw [askE_right hr, askX_right hr]
              have HSZ := Lib.hid (right_size hr)
              by_cases hxx : (l.length : Int) = x
              · have HE : Hid (decE (x :: l) = 0) := by unfold Hid decE; simp only; rw [if_neg (by have := HLN.out; omega), if_pos ⟨hr, hxx⟩]
                have HLL : Hid (decL (x :: l) = l) := by unfold Hid decL; rw [HE.out]; rfl
                have hbx : ((sizeN (ofS l) : Int) != x) = false := by rw [HSZ.out, hxx]; simp
                clear hr hxx
                go_wp2_with fail
                go_quiet ((go_at_call 44; exact quietB (size_any _ (ofS_lt l) (ofS_even l) _)))
                go_wp2
                have r := (q9.drewN nq).put 0 (.slice A' N c')
                have r0 := r.cell 0
                simp at r0
                refine bodyPost_ret (v := .tuple #[cf A' N c', .int .i64 0]) (by simp [results, Try.results25, go_sem, r0]) rfl ?_
                rw [HE.out, HLL.out]
                exact ⟨A', _, c', rfl, own_mono (own_set_low (w := w9.drewN nq) hown9 (by omega)) (by omega), (below_drewN HB9.out _).setCell (Nat.le_refl _) _⟩
              · have HE : Hid (decE (x :: l) = 180) := by unfold Hid decE; simp only; rw [if_neg (by have := HLN.out; omega), if_neg (fun h => hxx h.2)]
                have HLL : Hid (decL (x :: l) = []) := by unfold Hid decL; rw [HE.out]; rfl
                have hbx : ((sizeN (ofS l) : Int) != x) = true := by rw [HSZ.out]; simp [hxx]
                clear hr hxx
                go_wp2_with fail
                go_quiet ((go_at_call 44; exact quietB (size_any _ (ofS_lt l) (ofS_even l) _)))
                go_wp2
                have r := (q9.drewN nq).put 0 (.slice none 0 0)
                have r0 := r.cell 0
                simp at r0
                refine bodyPost_ret (v := .tuple #[cf none 0 0, .int .i64 180]) (by simp [results, Try.results25, go_sem, r0]) rfl ?_
                rw [HE.out, HLL.out]
                exact madeC_none ((below_drewN HB9.out _).setCell (Nat.le_refl _) _)
      · have HC1 := Lib.hid hc1
        have hlow : ∀ a0, some (⟨ad.block, ad.off + 1, none⟩ : Addr) = some a0 → a0.block < w.heap.size + 1 := by intro a0 h; injection h with h; rw [← h]; exact hadl

        have hS : Sees ((w.alloc (.cells #[.slice none 0 0] 27)).alloc (.cells #[.slice none 0 0] 27)) e1 1 (some (⟨ad.block, ad.off + 1, none⟩ : Addr)) (n - 1) (ib .u8 l) := by
          have h := (hs1.alloc (.cells #[.slice none 0 0] 27)).cut (a := 1) (m := n - 1) hnc (by omega) (Nat.le_refl _)
          rw [if_neg HC1.out] at h
          have e : ((x :: l).drop 1).take (n - 1) = l := by rw [List.drop_one, List.tail_cons]; exact take_all (by omega)
          rw [e] at h
          simpa [Addr.add] using h
        have HLN := Lib.hid hln
        clear hln
        go_enter Try.func25, Try.ntmps25
        go_wp2
        obtain ⟨w2, hw2⟩ : ∃ w2, (w.alloc (.cells #[.slice none 0 0] 27)).alloc (.cells #[.slice none 0 0] 27) = w2 := ⟨_, rfl⟩
        rw [hw2] at hBB KK1 KK2 hS HZ hcz ⊢
        clear hw2
        go_loopw [25] (fun p wr => ∃ (k : Nat) (A' : Option Addr) (c' : Nat), k ≤ n - 1 ∧ p = .int .i64 k ∧ Blk wr (w.heap.size + 1) 27 #[.slice A' k c'] ∧ wr.ownsRow (w.heap.size + 2) 3 1 (.slice A' k c') k (ib .i64 (l.take k)) ∧ Below (w.heap.size + 1) w2 wr ∧ w.heap.size + 2 ≤ wr.heap.size)
          (fun p _ => n - (intOf p).toNat)
        case atStart => exact ⟨0, none, 0, by omega, rfl, KK2.out, World.ownsRow_nil _ _ _ _, Below.refl _ _, by rw [HZ.out]; exact Nat.le_refl _⟩
        case round =>
          obtain ⟨k, A', c', hk, rfl, hk3, hown, hbr, hsz⟩ := hrel
          by_cases hlt : k < n - 1
          · have hkI : (k : Int) < ((n - 1 : Nat) : Int) := by omega
            obtain ⟨ad3, u, had, hu, hc3⟩ := (hS.keep fun g hg hh => hbr.block g (by obtain ⟨a0, h0, rfl, _⟩ := hh; exact hlow a0 h0)).at_ hlt
            obtain rfl := Option.some.inj had
            obtain ⟨y, hy, rfl⟩ := ib_get hu
            have hyb := hb y (List.mem_cons_of_mem _ (List.mem_of_getElem? hy))
            have hy0 := hyb.1
            have hy1 := hyb.2
            have HS := Lib.hid (take_snoc hy)
            have c1 := hk3.cell 0
            have hc3' : wr.cell? ⟨ad.block, ad.off + 1 + k, none⟩ = some (.int .u8 y) := by rw [← hc3]; congr 1; unfold Addr.add; split <;> simp_all
            clear hyb hy hu had
            go_wp2_with (at_builtin; refine Door.enter ?_)
            refine Door.leave (wl_append_lit ty_ints hown (m := 1) (k := k + 1) rfl rfl (ib_snoc _ _ _) (by simp [Value.oneCell']) (by omega) hsz rfl rfl rfl rfl ?_)
            intro A3 c3' w3 hown3 hb3 hg3 _
            have hk33 := hk3.low hb3 (by omega)
            have c33 := hk33.cell 0
            have f33 := hk33.frozen 0
            go_wp2
            go_roundw
            case rel => exact ⟨k + 1, A3, c3', by omega, by go_num, hk33.put 0 _, by rw [HS.out]; exact own_set_low hown3 (by omega), (hbr.trans (hb3.mono (by omega))).setCell (Nat.le_refl _) _, by have := Nat.le_trans hsz hb3.size; simpa [World.setCell] using this⟩
            case measure => simp [intOf]; omega
          · obtain rfl : k = n - 1 := by omega
            rw [take_all (by have := HLN.out; omega)] at hown
            obtain ⟨N, HN⟩ : ∃ N, N = n - 1 := ⟨_, rfl⟩
            rw [← HN] at hown hk3 ⊢
            have hN : N ≤ 1000000 := by omega
            have HN' := Lib.hid HN
            clear HN
            have c1 := hk3.cell 0
            go_wp2_with fail
            refine (asked_any A' N c' l _ (Sees.of_own hown) (by omega)).mono ?_
            rintro e w9 ⟨rfl, hb9⟩
            have hk9 := hk3.below hb9
            have hown9 := own_below hown hb9
            have q9 := (KK1.out.low hbr (by omega)).below hb9
            have hc9 : w9.cell? ad = some (.int .u8 x) := by
              have h1 := (hbr.cell (p := ad) hadl).trans hcz.out
              exact (hb9.cell (World.block_lt_of_cell? _ _ h1)).trans h1
            have HB9 := Lib.hid ((hBB.out.trans (hbr.mono (by omega))).trans (hb9.mono (by omega)))
            clear c1 hk3 hown hbr hb9 hcz hcu hS
            have c9 := hk9.cell 0
            simp at c9
            have q9f := q9.frozen 0
            have q9c := q9.cell 0
            simp at q9c
            cases hr : rightB l with
            | false =>
              rw [askE_wrong hr, askX_wrong hr]
              have HE : Hid (decE (x :: l) = 180) := by unfold Hid decE; simp only; rw [if_neg (by have := HLN.out; omega), if_neg (by rw [hr]; simp)]
              have HLL : Hid (decL (x :: l) = []) := by unfold Hid decL; rw [HE.out]; rfl
              clear hr
              go_wp2_with fail
              go_quiet (fail)
              go_wp2
              have r := (q9.drewN nq).put 0 (.slice none 0 0)
              have r0 := r.cell 0
              simp at r0
              refine bodyPost_ret (v := .tuple #[cf none 0 0, .int .i64 180]) (by simp [results, Try.results25, go_sem, r0]) rfl ?_
              rw [HE.out, HLL.out]
              exact madeC_none ((below_drewN HB9.out _).setCell (Nat.le_refl _) _)
            | true =>
              rw [askE_right hr, askX_right hr]
              have HSZ := Lib.hid (right_size hr)
              by_cases hxx : (l.length : Int) = x
              · have HE : Hid (decE (x :: l) = 0) := by unfold Hid decE; simp only; rw [if_neg (by have := HLN.out; omega), if_pos ⟨hr, hxx⟩]
                have HLL : Hid (decL (x :: l) = l) := by unfold Hid decL; rw [HE.out]; rfl
                have hbx : ((sizeN (ofS l) : Int) != x) = false := by rw [HSZ.out, hxx]; simp
                clear hr hxx
                go_wp2_with fail
                go_quiet ((go_at_call 44; exact quietB (size_any _ (ofS_lt l) (ofS_even l) _)))
                go_wp2
                have r := (q9.drewN nq).put 0 (.slice A' N c')
                have r0 := r.cell 0
                simp at r0
                refine bodyPost_ret (v := .tuple #[cf A' N c', .int .i64 0]) (by simp [results, Try.results25, go_sem, r0]) rfl ?_
                rw [HE.out, HLL.out]
                exact ⟨A', _, c', rfl, own_mono (own_set_low (w := w9.drewN nq) hown9 (by omega)) (by omega), (below_drewN HB9.out _).setCell (Nat.le_refl _) _⟩
              · have HE : Hid (decE (x :: l) = 180) := by unfold Hid decE; simp only; rw [if_neg (by have := HLN.out; omega), if_neg (fun h => hxx h.2)]
                have HLL : Hid (decL (x :: l) = []) := by unfold Hid decL; rw [HE.out]; rfl
                have hbx : ((sizeN (ofS l) : Int) != x) = true := by rw [HSZ.out]; simp [hxx]
                clear hr hxx
                go_wp2_with fail
                go_quiet ((go_at_call 44; exact quietB (size_any _ (ofS_lt l) (ofS_even l) _)))
                go_wp2
                have r := (q9.drewN nq).put 0 (.slice none 0 0)
                have r0 := r.cell 0
                simp at r0
                refine bodyPost_ret (v := .tuple #[cf none 0 0, .int .i64 180]) (by simp [results, Try.results25, go_sem, r0]) rfl ?_
                rw [HE.out, HLL.out]
                exact madeC_none ((below_drewN HB9.out _).setCell (Nat.le_refl _) _)

end Go.Proofs.Ytonfbinkjhbpiaa

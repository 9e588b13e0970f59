/- The walks of the conf layer: the references Same, of, Right, Majority. No condition. -/
import Derived.Test.YtonfbinkjhbpiaaC9
namespace Go.Proofs.Ytonfbinkjhbpiaa
open Go.RowKit Go.Shelf
set_option linter.unusedVariables false

theorem ty_ints : ElemTy Try.prog 23 3 (.int .i64 0) 1 8 := ⟨Try.underlying23, by kernel_rfl, rfl, by omega, by omega⟩
theorem Blk.low {w w' : World} {g B : Nat} {t : TypeId} {cs : Array Value} (h : Blk w g t cs) (hb : Below B w w') (hg : g < B) : Blk w' g t cs := (hb.block g hg).trans h

/-- Of the numbers from 1 on, k of them, those that are among l. -/
def ofK (l : List Int) (k : Nat) : List Int := ((List.range k).map fun i : Nat => (i : Int) + 1).filter fun m => decide (m ∈ l)
theorem ofK_hit (l : List Int) (k : Nat) (h : decide ((k : Int) + 1 ∈ l) = true) : ofK l (k + 1) = ofK l k ++ [(k : Int) + 1] := by
  unfold ofK
  rw [List.range_succ, List.map_append, List.filter_append]
  simp only [List.map_cons, List.map_nil]
  rw [List.filter_cons_of_pos (p := fun m => decide (m ∈ l)) h, List.filter_nil]
theorem ofK_miss (l : List Int) (k : Nat) (h : decide ((k : Int) + 1 ∈ l) = false) : ofK l (k + 1) = ofK l k := by
  unfold ofK
  rw [List.range_succ, List.map_append, List.filter_append]
  simp only [List.map_cons, List.map_nil]
  rw [List.filter_cons_of_neg (p := fun m => decide (m ∈ l)) (by rw [h]; simp), List.filter_nil, List.append_nil]
theorem ofK_five (l : List Int) : ofK l 5 = ofM l := rfl

set_option maxHeartbeats 1000000 in
theorem rof_any {e1 : Option TypeId} (A : Option Addr) (n c : Nat) (l : List Int) (w : World) (hs : Sees w e1 1 A n (ib .i64 l)) (hn : n ≤ 1000000000000) :
    Calls Try.prog 39 #[cf A n c] w fun e w' => ∃ A' m c', e = .returned (cf A' m c') ∧ m ≤ 5 ∧ w'.ownsRow w.heap.size 3 1 (.slice A' m c') m (ib .i64 (ofM l)) ∧ Below w.heap.size w w' := by
  have hB0 := (((Below.refl _ w).alloc (Nat.le_refl _) (.cells #[.slice A n c] 27)).alloc (by simp) (.cells #[.slice none 0 0] 27)).alloc (by simp; omega) (.cells #[.slice none 0 0] 27)
  have hs0 := ((hs.alloc (.cells #[.slice A n c] 27)).alloc (.cells #[.slice none 0 0] 27)).alloc (.cells #[.slice none 0 0] 27)
  have k1 := ((Blk.new w 27 #[.slice A n c]).alloc (.cells #[.slice none 0 0] 27)).alloc (.cells #[.slice none 0 0] 27)
  have k2 := (Blk.new (w.alloc (.cells #[.slice A n c] 27)) 27 #[.slice none 0 0]).alloc (.cells #[.slice none 0 0] 27)
  have k3 := Blk.new ((w.alloc (.cells #[.slice A n c] 27)).alloc (.cells #[.slice none 0 0] 27)) 27 #[.slice none 0 0]
  have hz : (((w.alloc (.cells #[.slice A n c] 27)).alloc (.cells #[.slice none 0 0] 27)).alloc (.cells #[.slice none 0 0] 27)).heap.size = w.heap.size + 3 := by simp
  simp only [World.size_alloc] at k2 k3
  have HB0 := Lib.hid hB0
  have HS0 := Lib.hid hs0
  have HK1 := Lib.hid k1
  have HK2 := Lib.hid k2
  have HK3 := Lib.hid k3
  have HZ := Lib.hid hz
  clear hB0 hs0 k1 k2 k3 hz
  go_enter Try.func39, Try.ntmps39
  go_wp2
  obtain ⟨w1, hw1⟩ : ∃ w1, ((w.alloc (.cells #[.slice A n c] 27)).alloc (.cells #[.slice none 0 0] 27)).alloc (.cells #[.slice none 0 0] 27) = w1 := ⟨_, rfl⟩
  rw [hw1] at HB0 HS0 HK1 HK2 HK3 HZ ⊢
  clear hw1
  go_loopw [4] (fun p wr => ∃ (k : Nat) (A' : Option Addr) (m c' : Nat), k ≤ 5 ∧ p = .int .i64 ((k : Int) + 1) ∧ m ≤ k ∧ Blk wr (w.heap.size + 1 + 1) 27 #[.slice A' m c'] ∧ wr.ownsRow (w.heap.size + 3) 3 1 (.slice A' m c') m (ib .i64 (ofK l k)) ∧ Below (w.heap.size + 2) w1 wr ∧ w.heap.size + 3 ≤ wr.heap.size)
    (fun p _ => 7 - (intOf p).toNat)
  case atStart => exact ⟨0, none, 0, 0, by omega, rfl, by omega, HK3.out, World.ownsRow_nil _ _ _ _, Below.refl _ _, by rw [HZ.out]; exact Nat.le_refl _⟩
  case round =>
    obtain ⟨k, A', m, c', hk, rfl, hm, hk3, hown, hbr, hsz⟩ := hrel
    have q1 := HK1.out.low hbr (by omega)
    have q2 := HK2.out.low hbr (by omega)
    have c1 := q1.cell 0
    by_cases hlt : k < 5
    · have hsr : Sees wr e1 1 A n (ib .i64 l) := hs.below ((HB0.out).trans (hbr.mono (by omega)))
      cases hd : decide ((k : Int) + 1 ∈ l) with
      | false =>
        have HD := Lib.hid hd
        clear hd
        go_wp2_with (go_at_call 16; refine (rhas_any A n c l ((k : Int) + 1) _ hsr hn).mono ?_; rw [HD.out]; rintro e w2 ⟨rfl, hb2⟩)
        go_roundw
        case rel => exact ⟨k + 1, A', m, c', by omega, by go_num, by omega, hk3.below hb2, by rw [ofK_miss l k HD.out]; exact own_below hown hb2, hbr.trans (hb2.mono (by omega)), Nat.le_trans hsz hb2.size⟩
        case measure => simp [intOf]; omega
      | true =>
        have HD := Lib.hid hd
        clear hd
        go_wp2_with (first | (go_at_call 16; refine (rhas_any A n c l ((k : Int) + 1) _ hsr hn).mono ?_; rw [HD.out]; rintro e w2 ⟨rfl, hb2⟩; have hown2 := own_below hown hb2; have hk32 := hk3.below hb2; have c3 := hk32.cell 0; have hsz2 := Nat.le_trans hsz hb2.size) | (at_builtin; refine Door.enter ?_))
        refine Door.leave (wl_append_lit ty_ints hown2 (m := 1) (k := m + 1) rfl rfl (ib_snoc _ _ _) (by simp [Value.oneCell']) (by omega) hsz2 rfl rfl rfl rfl ?_)
        intro A3 c3' w3 hown3 hb3 hg3 _
        have hk33 := hk32.low hb3 (by omega)
        have c33 := hk33.cell 0
        have f33 := hk33.frozen 0
        go_wp2
        go_roundw
        case rel => exact ⟨k + 1, A3, m + 1, c3', by omega, by go_num, by omega, hk33.put 0 _, by rw [ofK_hit l k HD.out]; exact own_set_low hown3 (by omega), ((hbr.trans (hb2.mono (by omega))).trans (hb3.mono (by omega))).setCell (Nat.le_refl _) _, by have := Nat.le_trans hsz2 hb3.size; simpa [World.setCell] using this⟩
        case measure => simp [intOf]; omega
    · have c2 := q2.cell 0
      have f2 := q2.frozen 0
      have c3 := hk3.cell 0
      obtain rfl : k = 5 := by omega
      go_wp2
      have r := q2.put 0 (.slice A' m c')
      have r0 := r.cell 0
      simp at r0
      refine bodyPost_ret (v := cf A' m c') (by simp [results, Try.results39, go_sem, r0]) rfl ?_
      exact ⟨A', m, c', rfl, hm, own_mono (own_set_low hown (by omega)) (by omega), (HB0.out.trans (hbr.mono (by omega))).setCell (by simp) _⟩

set_option maxHeartbeats 400000 in
theorem rsame_any (A B : Option Addr) (n c m d : Nat) (l r : List Int) (w : World) {e1 : Option TypeId} (hs : Sees w e1 1 A n (ib .i64 l)) {e2 : Option TypeId} (hr : Sees w e2 1 B m (ib .i64 r)) (hn : n ≤ 1000000000000) :
    Calls Try.prog 18 #[cf A n c, cf B m d] w fun e w' => e = .returned (.bool (eqB l r)) ∧ Below w.heap.size w w' := by
  have HL := Lib.hid hs.len
  have HR := Lib.hid hr.len
  have hs1 := (hs.alloc (.cells #[.slice A n c] 27)).alloc (.cells #[.slice B m d] 27)
  have hr1 := (hr.alloc (.cells #[.slice A n c] 27)).alloc (.cells #[.slice B m d] 27)
  have hB := Lib.hid (((Below.refl _ w).alloc (Nat.le_refl _) (.cells #[.slice A n c] 27)).alloc (by simp) (.cells #[.slice B m d] 27))
  have k2 := (Blk.new (w.alloc (.cells #[.slice A n c] 27)) 27 #[.slice B m d])
  simp only [World.size_alloc] at k2
  have HK := Lib.hid k2
  clear k2
  by_cases hnm : n = m
  · subst hnm
    go_enter Try.func18, Try.ntmps18
    go_wp2
    obtain ⟨w1, hw1⟩ : ∃ w1, (w.alloc (.cells #[.slice A n c] 27)).alloc (.cells #[.slice B n d] 27) = w1 := ⟨_, rfl⟩
    rw [hw1] at hs1 hr1 hB HK ⊢
    clear hw1
    have c2 := HK.out.cell 0
    go_loop [17] (fun i => ∃ k : Nat, k ≤ n ∧ i = .int .i64 k ∧ Hid (l.take k = r.take k)) (fun i => n - (intOf i).toNat)
    case atStart => exact ⟨0, by omega, rfl, by simp [Hid]⟩
    case round =>
      obtain ⟨k, hk, rfl, HT⟩ := hrel
      by_cases hlt : k < n
      · obtain ⟨ad, u, rfl, hu, hc⟩ := hs1.at_ hlt
        obtain ⟨x, hx, rfl⟩ := ib_get hu
        obtain ⟨ad2, u2, rfl, hu2, hc2⟩ := hr1.at_ hlt
        obtain ⟨y, hy, rfl⟩ := ib_get hu2
        have HX := Lib.hid hx
        have HY := Lib.hid hy
        clear hx hy hu hu2
        have hkI : (k : Int) < n := by omega
        by_cases hxy : x = y
        · subst hxy
          go_wp2
          go_round
          case rel => exact ⟨k + 1, by omega, by go_num, by unfold Hid; rw [take_snoc HX.out, take_snoc HY.out, HT.out]⟩
          case measure => simp [intOf]; omega
        · have hb : (y == x) = false := by simp; exact fun e => hxy e.symm
          have hb2 : (y != x) = true := by simp; exact fun e => hxy e.symm
          go_wp2
          go_ret
          refine ⟨ret_bool (eqB_false fun e => ?_).symm, hB.out⟩
          subst e
          exact hxy (Option.some.inj (HX.out.symm.trans HY.out))
      · go_wp2
        go_ret
        obtain rfl : k = n := by omega
        refine ⟨ret_bool (eqB_true ?_).symm, hB.out⟩
        have h := HT.out
        rwa [List.take_of_length_le (by have := HL.out; omega), List.take_of_length_le (by have := HR.out; omega)] at h
  · have hb : ((n : Int) == (m : Int)) = false := by simp; omega
    have hb2 : ((n : Int) != (m : Int)) = true := by simp; omega
    go_enter Try.func18, Try.ntmps18
    go_wp2
    go_ret
    refine ⟨ret_bool (eqB_false fun e => ?_).symm, hB.out⟩
    subst e
    exact hnm (HL.out.symm.trans HR.out)

/-- Of how many of l are in r? -/
def inN (l r : List Int) : Nat := (l.filter fun m => decide (m ∈ r)).length
theorem inN_snoc (l r : List Int) (x : Int) : inN (l ++ [x]) r = inN l r + if decide (x ∈ r) = true then 1 else 0 := by
  unfold inN
  rw [List.filter_append, List.length_append]
  by_cases h : decide (x ∈ r) = true
  · rw [List.filter_cons_of_pos (p := fun m => decide (m ∈ r)) h, if_pos h]; rfl
  · rw [List.filter_cons_of_neg (p := fun m => decide (m ∈ r)) h, if_neg h]; rfl
/-- Are more than half of l in r? -/
def rmajB (l r : List Int) : Bool := decide (l.length < 2 * inN l r)

set_option maxHeartbeats 400000 in
theorem rmajority_any (A B : Option Addr) (n c m d : Nat) (l r : List Int) (w : World) {e1 : Option TypeId} (hs : Sees w e1 1 A n (ib .i64 l)) {e2 : Option TypeId} (hr : Sees w e2 1 B m (ib .i64 r)) (hn : n ≤ 1000000000000) (hm : m ≤ 1000000000000) :
    Calls Try.prog 20 #[cf A n c, .slice B m d] w fun e w' => e = .returned (.bool (rmajB l r)) ∧ Below w.heap.size w w' := by
  have HL := Lib.hid hs.len
  have hs1 := hs.alloc (.cells #[.slice A n c] 27)
  have hr1 := hr.alloc (.cells #[.slice A n c] 27)
  have hB := Lib.hid ((Below.refl _ w).alloc (Nat.le_refl _) (.cells #[.slice A n c] 27))
  go_enter Try.func20, Try.ntmps20
  go_wp2
  obtain ⟨w1, hw1⟩ : ∃ w1, w.alloc (.cells #[.slice A n c] 27) = w1 := ⟨_, rfl⟩
  rw [hw1] at hs1 hr1 hB ⊢
  clear hw1
  go_loopw [5, 14] (fun s i wr => ∃ k q : Nat, k ≤ n ∧ i = .int .i64 k ∧ s = .int .i64 ((n : Int) - 2 * q) ∧ q ≤ k ∧ Hid (q = inN (l.take k) r) ∧ Below w1.heap.size w1 wr) (fun _ i _ => n - (intOf i).toNat)
  case atStart => exact ⟨0, 0, Nat.zero_le _, rfl, by simp, Nat.le_refl _, rfl, Below.refl _ _⟩
  case round =>
    obtain ⟨k, q, hk, rfl, rfl, hq, HQ, hbr⟩ := hrel
    by_cases hlt : k < n
    · obtain ⟨ad, u, rfl, hu, hc⟩ := (hs1.below hbr).at_ hlt
      obtain ⟨x, hx, rfl⟩ := ib_get hu
      have HS := Lib.hid (take_snoc hx)
      have hrr := hr1.below hbr
      clear hx hu
      cases hd : decide (x ∈ r) with
      | true =>
        have HD := Lib.hid hd
        clear hd
        go_wp2_with (go_at_call 16; refine (rhas_any B m d r x _ hrr hm).mono ?_; rw [HD.out]; rintro e w2 ⟨rfl, hb2⟩)
        go_roundw
        case rel => exact ⟨k + 1, q + 1, by omega, by go_num, by first | (go_num; omega) | (congr 1; omega) | (simp; omega), by omega, by unfold Hid; rw [HS.out, inN_snoc, ← HQ.out, if_pos HD.out], hbr.trans (hb2.mono hbr.size)⟩
        case measure => simp [intOf]; omega
      | false =>
        have HD := Lib.hid hd
        clear hd
        go_wp2_with (go_at_call 16; refine (rhas_any B m d r x _ hrr hm).mono ?_; rw [HD.out]; rintro e w2 ⟨rfl, hb2⟩)
        go_roundw
        case rel => exact ⟨k + 1, q, by omega, by go_num, rfl, by omega, by unfold Hid; rw [HS.out, inN_snoc, ← HQ.out, if_neg (by rw [HD.out]; simp)]; rfl, hbr.trans (hb2.mono hbr.size)⟩
        case measure => simp [intOf]; omega
    · go_wp2
      go_ret
      refine ⟨ret_bool ?_, hB.out.trans (hbr.mono hB.out.size)⟩
      have hl := HL.out
      have h := HQ.out
      rw [take_all (by omega)] at h
      subst h
      unfold rmajB
      rw [decide_eq_decide]
      omega
end Go.Proofs.Ytonfbinkjhbpiaa

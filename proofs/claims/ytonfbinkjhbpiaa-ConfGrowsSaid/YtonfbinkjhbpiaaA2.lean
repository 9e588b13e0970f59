/- The walk of conf.Agreed: how far more than half are. No condition. -/
import Derived.Test.YtonfbinkjhbpiaaA3
import Derived.Test.YtonfbinkjhbpiaaParIn
import Derived.Laws.EntriesVeiled
import Derived.Shelf.RegionOpen
namespace Go.Proofs.Ytonfbinkjhbpiaa
open Go.RowKit Go.Shelf
set_option linter.unusedVariables false
set_option linter.unusedSimpArgs false

attribute [local go_sem] Oper.semAt_some

theorem Sees.pair {w : World} {e : Option TypeId} {A : Option Addr} {n : Nat} {ps : List (Int × Int)} (h : Sees w e 2 A n (pm ps)) {k : Nat} (hk : k < n) :
    ∃ ad p, A = some ad ∧ ps[k]? = some p ∧ w.cell? (ad.add (k * 2)) = some (.int .i64 p.1) ∧ w.cell? ⟨(ad.add (k * 2)).block, (ad.add (k * 2)).off + 1, none⟩ = some (.int .u64 p.2) := by
  obtain ⟨ad, rfl⟩ := h.addr (by omega)
  have hl : k < ps.length := by have := h.1; rw [pm_len] at this; omega
  obtain ⟨h1, h2⟩ := pm_get ps k _ (List.getElem?_eq_getElem hl)
  exact ⟨ad, _, rfl, List.getElem?_eq_getElem hl, (h.2.2 ad rfl).2 _ _ h1, by have := (h.2.2 ad rfl).2 _ _ h2; rwa [← addr_add] at this⟩

theorem keepsFrom_below {B : Nat} {W W' : World} (h : Below W.heap.size W W') : KeepsFrom B W W' := ⟨h.size, fun k o _ hk _ => (h.block k (Array.getElem?_eq_some_iff.1 hk).1).trans hk⟩
theorem max_if (x y : Int) : (if y > x then y else x) = max x y := by split <;> omega
/-- What the region that hears of one more knows of its slots. -/
def PhiFar (gm g7 : Nat) (M I V : Int) : Nat → Value → World → Prop
  | 0, v, _ => v = .pointer (some ⟨gm, 0, none⟩)
  | 1, v, _ => v = .int .i64 M
  | 2, v, _ => v = .pointer (some ⟨gm, 0, none⟩)
  | 3, v, _ => v = .int .i64 M
  | 4, v, _ => v = .pointer (some ⟨g7, M.toNat, none⟩)
  | 5, v, _ => v = .int .u64 V
  | 6, v, _ => v = .pointer (some ⟨gm, 1, none⟩)
  | 7, v, _ => v = .int .u64 I
  | 8, v, _ => v = .int .u64 (max V I)
  | 9, v, _ => v = .pointer (some ⟨g7, M.toNat, none⟩)
  | _, _, _ => True
theorem phiFar_stab (gm g7 : Nat) (M I V : Int) (i : Nat) (v : Value) (w1 w2 : World) (h : PhiFar gm g7 M I V i v w1) (hb : Below w1.heap.size w1 w2) : PhiFar gm g7 M I V i v w2 := by
  unfold PhiFar at h ⊢
  split <;> simp_all

/-- What the test of two of the far knows of its slots. -/
def PhiTest (g7 : Nat) (M L V W : Int) : Nat → Value → World → Prop
  | 0, v, _ => v = .int .i64 M
  | 1, v, _ => v = .pointer (some ⟨g7, M.toNat, none⟩)
  | 2, v, _ => v = .int .u64 V
  | 3, v, _ => v = .int .i64 L
  | 4, v, _ => v = .pointer (some ⟨g7, L.toNat, none⟩)
  | 5, v, _ => v = .int .u64 W
  | 6, v, _ => v = .bool (decide (W ≤ V))
  | _, _, _ => True
theorem phiTest_stab (g7 : Nat) (M L V W : Int) (i : Nat) (v : Value) (w1 w2 : World) (h : PhiTest g7 M L V W i v w1) (hb : Below w1.heap.size w1 w2) : PhiTest g7 M L V W i v w2 := by
  unfold PhiTest at h ⊢
  split <;> simp_all
/-- What it knows who goes on to the best. -/
def PhiBest (g7 : Nat) (b L V : Int) : Nat → Value → World → Prop
  | 0, v, _ => v = .int .u64 b
  | 1, v, _ => v = .int .i64 L
  | 2, v, _ => v = .pointer (some ⟨g7, L.toNat, none⟩)
  | 3, v, _ => v = .int .u64 V
  | 4, v, _ => v = .int .u64 (max b V)
  | _, _, _ => True
theorem phiBest_stab (g7 : Nat) (b L V : Int) (i : Nat) (v : Value) (w1 w2 : World) (h : PhiBest g7 b L V i v w1) (hb : Below w1.heap.size w1 w2) : PhiBest g7 b L V i v w2 := by
  unfold PhiBest at h ⊢
  split <;> simp_all
/-- What it knows who takes one more in. -/
def PhiOne (a y : Int) (o z : Int) : Nat → Value → World → Prop
  | 0, v, _ => v = .int .u64 a
  | 1, v, _ => v = .int .i64 y
  | 2, v, _ => v = .int .u64 o
  | 3, v, _ => v = .int .u64 z
  | _, _, _ => True
theorem phiOne_stab (a y o z : Int) (i : Nat) (v : Value) (w1 w2 : World) (h : PhiOne a y o z i v w1) (hb : Below w1.heap.size w1 w2) : PhiOne a y o z i v w2 := by
  unfold PhiOne at h ⊢
  split <;> simp_all

set_option maxRecDepth 100000 in
set_option maxHeartbeats 8000000 in
theorem agreed_right {e1 e2 : Option TypeId} (A : Option Addr) (n c : Nat) (l : List Int) (B : Option Addr) (m d : Nat) (ps : List (Int × Int)) (w : World) (hs : Sees w e1 1 A n (ib .i64 l)) (hn : n ≤ 1000000000000)
    (hp : Sees w e2 2 B m (pm ps)) (hm : m ≤ 1000000000000) (hr : rightB l = true) :
    Calls Try.prog 34 #[cf A n c, .slice B m d] w fun e w' => e = .returned (.int .u64 (agreedN (askX l) ps)) ∧ Below w.heap.size w w' := by
  have hX0 := askX_lt l
  have h20 := askX_even l
  have hE := Lib.hid (askE_right hr)
  have HPL := Lib.hid (pm_len ps)
  obtain ⟨X, HX⟩ : ∃ X, X = askX l := ⟨_, rfl⟩
  have HXX := Lib.hid HX
  rw [← HX] at hX0 h20 ⊢
  have hX := hX0
  have H20 := Lib.hid h20
  clear hr HX hX0 h20
  have HB := Lib.hid ((Below.refl _ w).alloc (Nat.le_refl _) (.cells #[.slice A n c] 27))
  have hs1 := hs.alloc (.cells #[.slice A n c] 27)
  refine (callsIn_wide (n := 8)).1 ?_
  refine callsIn_of_wp_marks Try.func34 rfl trivial ?_ rfl
  simp only [Try.ntmps34, List.size_toArray, List.length_cons, List.length_nil, Nat.reduceAdd, Nat.reduceSub, Array.replicate_succ, Array.replicate_zero, List.push_toArray, List.append_toArray, List.nil_append, List.cons_append]
  refine wpIn_wide.2 ?_
  go_wp2_with fail
  refine (asked_any A n c l _ hs1 hn).mono ?_
  rw [hE.out, ← HXX.out]
  rintro e w1 ⟨rfl, hb1⟩
  have HB1 := Lib.hid (((HB.out.trans (hb1.mono HB.out.size)).alloc (Nat.le_trans HB.out.size hb1.size) (.cells #[.int .u64 X] 66)).alloc (by have := Nat.le_trans HB.out.size hb1.size; simp; omega) (.cells #[.int .u64 0, .int .u64 0, .int .u64 0, .int .u64 0, .int .u64 0, .int .u64 0] 79))
  have k5 := (Blk.new w1 66 #[.int .u64 X]).alloc (.cells #[.int .u64 0, .int .u64 0, .int .u64 0, .int .u64 0, .int .u64 0, .int .u64 0] 79)
  have k7 : Blk _ _ 79 (farC (farF X (ps.take 0))) := Blk.new (w1.alloc (.cells #[.int .u64 X] 66)) 79 #[.int .u64 0, .int .u64 0, .int .u64 0, .int .u64 0, .int .u64 0, .int .u64 0]
  simp only [World.size_alloc] at k7
  have hg5 := Nat.le_trans HB.out.size hb1.size
  obtain ⟨g5, hgg⟩ : ∃ g5, w1.heap.size = g5 := ⟨_, rfl⟩
  rw [hgg] at k5 k7 hg5
  clear hb1 HB hs1 hs
  have c5 := k5.cell 0
  simp at c5
  go_wp2_with fail
  obtain ⟨w2, hw2⟩ : ∃ w2, (w1.alloc (.cells #[.int .u64 X] 66)).alloc (.cells #[.int .u64 0, .int .u64 0, .int .u64 0, .int .u64 0, .int .u64 0, .int .u64 0] 79) = w2 := ⟨_, rfl⟩
  rw [hw2] at HB1 k5 k7 ⊢
  clear hw2 c5 hgg
  go_loopw [24] (fun i wr => ∃ k : Nat, k ≤ m ∧ i = .int .i64 k ∧ Blk wr g5 66 #[.int .u64 X] ∧ Blk wr (g5 + 1) 79 (farC (farF X (ps.take k))) ∧ Below w.heap.size w wr) (fun i _ => m - (intOf i).toNat)
  case atStart => exact ⟨0, by omega, rfl, k5, k7, HB1.out⟩
  case round =>
    clear k5 k7 HB1
    obtain ⟨k, hk, rfl, k5, k7, hB⟩ := hrel
    by_cases hlt : k < m
    · obtain ⟨ad, p, rfl, hpk, hc0, hc1⟩ := (hp.below hB).pair hlt
      have HS := Lib.hid (take_snoc hpk)
      clear hpk
      have q5 := k5.alloc (.cells #[.int .i64 p.1, .int .u64 p.2] 60)
      have q7 := k7.alloc (.cells #[.int .i64 p.1, .int .u64 p.2] 60)
      have q9 := Blk.new wr 60 #[.int .i64 p.1, .int .u64 p.2]
      have hB' := hB.alloc hB.size (.cells #[.int .i64 p.1, .int .u64 p.2] 60)
      have c5 := q5.cell 0
      have c9 := q9.cell 0
      have c91 := q9.cell 1
      simp at c5 c9 c91
      obtain ⟨F, hF⟩ : ∃ F, F = farF X (ps.take k) := ⟨_, rfl⟩
      have HF := Lib.hid hF
      rw [← hF] at q7
      clear hF
      have h79 := Nat.ne_of_lt k7.lt
      cases hh : hasB X p.1 with
      | false =>
        have HH := Lib.hid hh
        clear hh
        go_wp2_with (go_at_call 41; refine (has_any X hX p.1 _).mono ?_; rw [HH.out]; rintro e w3 ⟨rfl, rfl⟩)
        go_roundw
        case rel => exact ⟨k + 1, by omega, by go_num, q5, by rw [HS.out, farF_snoc, HH.out, if_neg (by simp), ← HF.out]; exact q7, hB'⟩
        case measure => simp [intOf]; omega
      | true =>
        have HH := Lib.hid hh
        have h15 := hasB_range hh
        clear hh
        have hp0 : 0 ≤ p.1 := by omega
        have hp6 : p.1 < 6 := by omega
        have c7 := (q7.cell p.1.toNat).trans (farC_get F p.1 (by omega))
        have f7 := q7.frozen p.1.toNat
        go_wp2_with (go_at_call 41; refine (has_any X hX p.1 _).mono ?_; rw [HH.out]; rintro e w3 ⟨rfl, rfl⟩)
        refine wp_region_par_tail 10 [32, 33, 34, 35, 36, 37, 38, 39, 40, 41] (fun _ => false) (PhiFar wr.heap.size (g5 + 1) p.1 p.2 (F p.1)) (by kernel_rfl) (by kernel_rfl) (phiFar_stab _ _ _ _ _) ?steps ?fin
        case steps =>
          clear c9 c91 c7 f7 c5
          simp only [List.take_succ_cons, List.take_zero, StepsPar]
          refine ⟨?_, ?_, ?_, ?_, ?_, ?_, ?_, ?_, ?_, ?_, trivial⟩
          all_goals
            intro x1 w1x hb hd K hK
            simp only [frameOf, slots, Act.put, List.setIfInBounds_toArray, List.set_cons_zero, List.set_cons_succ] at hK ⊢
          · go_simp
            exact hK _ _ (rfl) (Below.refl _ _) (fun h => absurd h (by decide))
          · have e0 : x1 0 = .pointer (some ⟨wr.heap.size, 0, none⟩) := hd ⟨0, .data⟩ (by simp) rfl
            simp only [e0] at hK ⊢
            have c9x := (q9.below hb).cell 0
            have c91x := (q9.below hb).cell 1
            simp at c9x c91x
            go_simp
            exact hK _ _ (rfl) (Below.refl _ _) (fun h => absurd h (by decide))
          · go_simp
            exact hK _ _ (rfl) (Below.refl _ _) (fun h => absurd h (by decide))
          · have e2 : x1 2 = .pointer (some ⟨wr.heap.size, 0, none⟩) := hd ⟨2, .data⟩ (by simp) rfl
            simp only [e2] at hK ⊢
            have c9x := (q9.below hb).cell 0
            have c91x := (q9.below hb).cell 1
            simp at c9x c91x
            go_simp
            exact hK _ _ (rfl) (Below.refl _ _) (fun h => absurd h (by decide))
          · have e3 : x1 3 = .int .i64 p.1 := hd ⟨3, .data⟩ (by simp) rfl
            simp only [e3] at hK ⊢
            go_simp
            exact hK _ _ (rfl) (Below.refl _ _) (fun h => absurd h (by decide))
          · have e4 : x1 4 = .pointer (some ⟨g5 + 1, p.1.toNat, none⟩) := hd ⟨4, .data⟩ (by simp) rfl
            simp only [e4] at hK ⊢
            have c7x := ((q7.below hb).cell p.1.toNat).trans (farC_get F p.1 (by omega))
            go_simp
            exact hK _ _ (rfl) (Below.refl _ _) (fun h => absurd h (by decide))
          · go_simp
            exact hK _ _ (rfl) (Below.refl _ _) (fun h => absurd h (by decide))
          · have e6 : x1 6 = .pointer (some ⟨wr.heap.size, 1, none⟩) := hd ⟨6, .data⟩ (by simp) rfl
            simp only [e6] at hK ⊢
            have c9x := (q9.below hb).cell 0
            have c91x := (q9.below hb).cell 1
            simp at c9x c91x
            go_simp
            exact hK _ _ (rfl) (Below.refl _ _) (fun h => absurd h (by decide))
          · have e5 : x1 5 = .int .u64 (F p.1) := hd ⟨5, .data⟩ (by simp) rfl
            have e7 : x1 7 = .int .u64 p.2 := hd ⟨7, .data⟩ (by simp) rfl
            simp only [e5, e7] at hK ⊢
            go_simp
            exact hK _ _ (congrArg (Value.int .u64) (max_if _ _)) (Below.refl _ _) (fun h => absurd h (by decide))
          · have e1 : x1 1 = .int .i64 p.1 := hd ⟨1, .data⟩ (by simp) rfl
            simp only [e1] at hK ⊢
            go_simp
            exact hK _ _ (rfl) (Below.refl _ _) (fun h => absurd h (by decide))
        case fin =>
          intro x1 wf hb hx _
          have e8 : x1 8 = .int .u64 (max (F p.1) p.2) := hx 8 (by omega)
          have e9 : x1 9 = .pointer (some ⟨g5 + 1, p.1.toNat, none⟩) := hx 9 (by omega)
          simp only [frameOf, slots, Act.put, List.setIfInBounds_toArray, List.set_cons_zero, List.set_cons_succ, List.drop_succ_cons, List.drop_zero, e8, e9]
          clear e8 e9 hx c9 c91 c7 f7 c5
          replace q5 := q5.below hb
          replace q7 := q7.below hb
          have hB2 := hB'.trans (hb.mono hB'.size)
          have c7 := (q7.cell p.1.toNat).trans (farC_get F p.1 (by omega))
          have f7 := q7.frozen p.1.toNat
          go_wp2
          go_roundw
          case rel => exact ⟨k + 1, by omega, by go_num, q5.far (p := ⟨g5 + 1, p.1.toNat, none⟩) (by simp) _, by rw [HS.out, farF_snoc, HH.out, if_pos rfl, ← HF.out, ← farC_set F p.1 p.2 (by omega)]; exact q7.put _ _, hB2.setCell (p := ⟨g5 + 1, p.1.toNat, none⟩) (by show _ ≤ g5 + 1; omega) _⟩
          case measure => simp [intOf]; omega
    · obtain rfl : k = m := by omega
      obtain ⟨F, hF⟩ : ∃ F, F = farF X ps := ⟨_, rfl⟩
      have HF := Lib.hid hF
      rw [take_all (by have h1 := hp.1; have h2 := HPL.out; omega), ← hF] at k7
      clear hF
      have q5 := ((k5.alloc (.cells #[.int .u64 0] 52)).alloc (.cells #[.func (.func 42) #[.int .u64 X] #[]] 70))
      have q7 := ((k7.alloc (.cells #[.int .u64 0] 52)).alloc (.cells #[.func (.func 42) #[.int .u64 X] #[]] 70))
      have qB := (Blk.new wr 52 #[.int .u64 0]).alloc (.cells #[.func (.func 42) #[.int .u64 X] #[]] 70)
      have qM := Blk.new (wr.alloc (.cells #[.int .u64 0] 52)) 70 #[.func (.func 42) #[.int .u64 X] #[]]
      have qX := Blk.new ((wr.alloc (.cells #[.int .u64 0] 52)).alloc (.cells #[.func (.func 42) #[.int .u64 X] #[]] 70)) 66 #[.int .u64 X]
      have hB0 := ((hB.alloc hB.size (.cells #[.int .u64 0] 52)).alloc (by have := hB.size; simp; omega) (.cells #[.func (.func 42) #[.int .u64 X] #[]] 70)).alloc (by have := hB.size; simp; omega) (.cells #[.int .u64 X] 66)
      replace q5 := q5.alloc (.cells #[.int .u64 X] 66)
      replace q7 := q7.alloc (.cells #[.int .u64 X] 66)
      replace qB := qB.alloc (.cells #[.int .u64 X] 66)
      replace qM := qM.alloc (.cells #[.int .u64 X] 66)
      simp only [World.size_alloc] at qM qX
      have c5a := (k5.alloc (.cells #[.int .u64 0] 52)).cell 0
      have c5b := ((k5.alloc (.cells #[.int .u64 0] 52)).alloc (.cells #[.func (.func 42) #[.int .u64 X] #[]] 70)).cell 0
      simp at c5a c5b
      go_wp2_with (go_at_call 45; refine (numbers_any X _).mono ?_; rintro e w3 ⟨rfl, rfl⟩)
      obtain ⟨gB, hgB⟩ : ∃ gB, wr.heap.size = gB := ⟨_, rfl⟩
      have h7g := k7.lt
      have h5g := k5.lt
      rw [hgB] at qB qM qX h7g h5g
      have hsz : (((wr.alloc (.cells #[.int .u64 0] 52)).alloc (.cells #[.func (.func 42) #[.int .u64 X] #[]] 70)).alloc (.cells #[.int .u64 X] 66)).heap.size = gB + 3 := by simp [hgB]
      rw [hgB]
      clear hgB c5a c5b k5 k7 hB
      obtain ⟨W0, hW0⟩ : ∃ W0, (((wr.alloc (.cells #[.int .u64 0] 52)).alloc (.cells #[.func (.func 42) #[.int .u64 X] #[]] 70)).alloc (.cells #[.int .u64 X] 66)) = W0 := ⟨_, rfl⟩
      rw [hW0] at q5 q7 qB qM qX hsz hB0 ⊢
      clear hW0
      have b5 : Boxed W0 g5 66 (.int .u64 X) := q5
      have bB : Boxed W0 gB 52 (.int .u64 0) := qB
      have bM : Boxed W0 (gB + 1) 70 (.func (.func 42) #[.int .u64 X] #[]) := qM
      have bX : Boxed W0 (gB + 1 + 1) 66 (.int .u64 X) := qX
      clear q5 qB qM qX
      refine (wpIn_wide (n := 8)).1 ?_
      refine wpIn_rangeFunc_ownH rfl (by omega) (gf := 51) (lb := #[.pointer (some ⟨gB + 1 + 1, 0, none⟩)]) rfl trivial (enters_of Try.func51 (by kernel_rfl) rfl)
        (numbers2_stops 7 (by omega) (gB + 1 + 1) X hX W0 (by omega) bX.cell) keepC_t keepC_b (Below.refl _ _) (fun _ => rfl)
        (fun pre W => (Boxed W gB 52 (.int .u64 (bestX F X (vals pre))) ∧ Boxed W g5 66 (.int .u64 X) ∧ Boxed W (gB + 1) 70 (.func (.func 42) #[.int .u64 X] #[]) ∧ Blk W (g5 + 1) 79 (farC F) ∧ Boxed W (gB + 1 + 1) 66 (.int .u64 X)) ∧ Below w.heap.size w W)
        (fun _ _ _ => False)
        (OwnFrom.and (OwnFrom.and (Own.from (boxed_own _ _ _) _) (OwnFrom.and (Own.from (boxed_own _ _ (fun _ => Value.int .u64 X)) _) (OwnFrom.and (Own.from (boxed_own _ _ (fun _ => .func (.func 42) #[.int .u64 X] #[])) _) (OwnFrom.and (Own.from (blk_own _ _ (fun _ => farC F)) _) (Own.from (boxed_own _ _ (fun _ => Value.int .u64 X)) _))))) (ownFrom_below (Nat.le_refl _) (by omega)))
        (fun _ _ _ _ _ hs _ _ => hs)
        ⟨⟨bB, b5, bM, q7, bX⟩, hB0⟩
        (fun x a' W => ∃ Bx, gB + 1 + 1 < Bx ∧ Boxed W Bx 3 (.int .i64 x.1) ∧ a' = { tmps := #[cf A n c, .slice B k d, .pointer (some ⟨w.heap.size, 0, none⟩), undef, .int .u64 0, .pointer (some ⟨g5, 0, none⟩), .int .i64 0, .pointer (some ⟨g5 + 1, 0, none⟩), undef, u9, .pointer (some ⟨gB, 0, none⟩), .pointer (some ⟨gB + 1, 0, none⟩), .pointer (some ⟨Bx, 0, none⟩), undef, undef, .tuple #[.int .u64 X, .int .i64 0], .agg #[.slice A n c], .tuple #[.int .u64 X, .int .i64 0], .int .u64 X, .int .i64 0, .int .i64 0, .bool false, .slice B k d, .int .i64 k, .int .i64 k, .bool false, u26, u27, u28, u29, u30, u31, u32, u33, u34, u35, u36, u37, u38, u39, u40, u41, u42, .int .u64 X, .func (.func 42) #[.int .u64 X] #[], .int .u64 X, .func (.func 51) #[] #[.pointer (some ⟨gB + 1 + 1, 0, none⟩)], .int .i64 x.1, undef, undef, undef, undef, undef, undef, undef, undef, undef, undef, undef, undef, undef, undef, undef, undef, undef, undef, undef, undef, undef, undef, undef], defers := [] })
        (fun x a' _ X Y row hs hg hr => by obtain ⟨Bx, h1, h2, h3⟩ := hs; exact ⟨Bx, h1, boxed_own Bx 3 (fun (_ : Unit) => Value.int .i64 x.1) () X Y row h2 hg (fun r e => (hr r e).2), h3⟩)
        ?assign ?body ?done ?stop
      case assign =>
        rintro l pre x W K ⟨⟨b1, b2, b3, b4, b5⟩, hB1⟩ hK
        gi_wp2
        exact hK _ _ ((KeepsOthers.alloc _ _).from _) (fun h => (b5.alloc _).cell) ⟨⟨b1.alloc _, b2.alloc _, b3.alloc _, b4.alloc _, b5.alloc _⟩, hB1.alloc hB1.size _⟩ ⟨W.heap.size, b5.lt, Boxed.new W 3 _, rfl⟩
      case body =>
        rintro l pre x a' W hl ⟨r, hr⟩ ⟨⟨b1, b2, b3, b4, b5⟩, hB1⟩ ⟨Bx, hBx, bx, rfl⟩ hlt
        have c5 := (b2.alloc (.cells #[.int .u64 0] 66)).cell
        have h1' : 1 ≤ 8 - 1 - 1 := by omega
        have hF1 : Fence.wide.fn 45 := trivial
        have hF2 : Fence.wide.fn 46 := trivial
        have hF3 : Fence.wide.fn 42 := trivial
        gi_wp2_with (gi_at_call 45; refine (CallsIn.inRound l (callsIn_wide.2 (numbers_any X _))).mono ?_; rintro e w' ⟨rfl, rfl⟩)
        have hsW := hB1.size
        have bA := (Boxed.new W 66 (.int .u64 0)).alloc (.cells #[.int .u64 X] 66)
        have bN := Boxed.new (W.alloc (.cells #[.int .u64 0] 66)) 66 (.int .u64 X)
        simp only [World.size_alloc] at bN
        have hr' : ((W.alloc (.cells #[.int .u64 0] 66)).alloc (.cells #[.int .u64 X] 66)).heap[l]? = some (.loop r) :=
          (Below.heap_alloc _ _ l (Array.getElem?_eq_some_iff.1 ((Below.heap_alloc W _ l (Array.getElem?_eq_some_iff.1 hr).1).trans hr)).1).trans ((Below.heap_alloc W _ l (Array.getElem?_eq_some_iff.1 hr).1).trans hr)
        refine wpIn_rangeFunc_ownN (l₀ := l) (r₀ := r) rfl hr' h1' (gf := 51) (lb := #[.pointer (some ⟨W.heap.size + 1, 0, none⟩)]) rfl trivial (enters_of Try.func51 (by kernel_rfl) rfl)
          ((numbers2_stops (8 - 1 - 1 - 1) (by omega) (W.heap.size + 1) X hX _ (by simp) bN.cell).inRound l) keepC_t keepC_b (Below.refl _ _) (fun _ => rfl)
          (fun pre' W' => (Boxed W' W.heap.size 66 (.int .u64 (asX F x.1 (vals pre'))) ∧ Boxed W' (W.heap.size + 1) 66 (.int .u64 X)) ∧ (Below W.heap.size W W' ∧ KeepsFrom W0.heap.size W W'))
          (fun _ _ _ => False)
          (OwnFrom.and (OwnFrom.and (Own.from (boxed_own _ _ _) _) (Own.from (boxed_own _ _ (fun _ => Value.int .u64 X)) _)) (OwnFrom.and (ownFrom_below (Nat.le_refl _) (by simp; omega)) (ownFrom_keepsFrom (by simp; omega))))
          (fun _ _ _ _ _ hs _ _ => hs)
          ⟨⟨bA, bN⟩, ((Below.refl _ W).alloc (Nat.le_refl _) _).alloc (by simp) _, ((KeepsOthers.alloc _ _).trans (KeepsOthers.alloc _ _)).from _⟩
          (fun y a'' _ => a'' = { tmps := #[cf A n c, .slice B k d, .pointer (some ⟨w.heap.size, 0, none⟩), undef, .int .u64 0, .pointer (some ⟨g5, 0, none⟩), .int .i64 0, .pointer (some ⟨g5 + 1, 0, none⟩), undef, u9, .pointer (some ⟨gB, 0, none⟩), .pointer (some ⟨gB + 1, 0, none⟩), .pointer (some ⟨Bx, 0, none⟩), .pointer (some ⟨W.heap.size, 0, none⟩), .int .i64 y.1, .tuple #[.int .u64 X, .int .i64 0], .agg #[.slice A n c], .tuple #[.int .u64 X, .int .i64 0], .int .u64 X, .int .i64 0, .int .i64 0, .bool false, .slice B k d, .int .i64 k, .int .i64 k, .bool false, u26, u27, u28, u29, u30, u31, u32, u33, u34, u35, u36, u37, u38, u39, u40, u41, u42, .int .u64 X, .func (.func 42) #[.int .u64 X] #[], .int .u64 X, .func (.func 51) #[] #[.pointer (some ⟨gB + 1 + 1, 0, none⟩)], .int .i64 x.1, .int .u64 X, .func (.func 51) #[] #[.pointer (some ⟨W.heap.size + 1, 0, none⟩)], .int .i64 y.1, undef, undef, undef, undef, undef, undef, undef, undef, undef, undef, undef, undef, undef, undef, undef, undef, undef, undef, undef, undef], defers := [] })
          (fun _ _ _ _ _ _ hs _ _ => hs)
          ?assign2 ?body2 ?done2 ?stop2
        case assign2 =>
          intro l2 pre' y W' K hi hK
          gi_wp2
          exact hK _ _ (KeepsFrom.refl _ _) (fun h => h) hi rfl
        case body2 =>
          rintro l2 pre' y a'' W' _ _ ⟨⟨bA2, bN2⟩, hBW, hKF⟩ rfl _
          clear hsz
          have f4 := b4.low hBW b4.lt
          have cX : W'.cell? ⟨Bx, 0, none⟩ = some (.int .i64 x.1) := (Blk.low (cs := #[.int .i64 x.1]) bx hBW bx.lt).cell 0
          have cA := bA2.cell
          have fA := bA2.frozen
          have hy1 := y.2.1
          have hy5 := y.2.2
          have hx1 := x.2.1
          have hx5 := x.2.2
          have cy := (f4.cell y.1.toNat).trans (farC_get F y.1 (by omega))
          have cz := (f4.cell x.1.toNat).trans (farC_get F x.1 (by omega))
          have hy0 : 0 ≤ y.1 := by omega
          have hy6 : y.1 < 6 := by omega
          have hx0 : 0 ≤ x.1 := by omega
          have hx6 : x.1 < 6 := by omega
          have HA := Lib.hid (asX_snoc F x.1 (vals pre') y.1)
          have hbits := Lib.hid (bits_or (asX F x.1 (vals pre')) (oneN y.1) (asX_lt _ _ _) (oneN_lt _))
          have h12 : 1 ≤ 8 - 1 - 1 - 1 - 1 := by omega
          gi_wp2
          refine wpIn_region_par_all 7 [51, 52, 53, 54, 55, 56, 57] (fun _ => false) (PhiTest (g5 + 1) y.1 x.1 (F y.1) (F x.1)) (by kernel_rfl) (by kernel_rfl) (phiTest_stab _ _ _ _ _) ?steps18 ?fin18
          case steps18 =>
            clear cA fA
            simp only [StepsParIn]
            refine ⟨?_, ?_, ?_, ?_, ?_, ?_, ?_, trivial⟩
            all_goals
              intro x1 w1x hb hd K hK
              simp only [frameOf, slots, Act.put, List.setIfInBounds_toArray, List.set_cons_zero, List.set_cons_succ] at hK ⊢
            · go_simp
              exact hK _ _ (rfl) (Below.refl _ _) (fun h => absurd h (by decide))
            · have e0 : x1 0 = .int .i64 y.1 := hd ⟨0, .data⟩ (by simp) rfl
              simp only [e0] at hK ⊢
              go_simp
              exact hK _ _ (rfl) (Below.refl _ _) (fun h => absurd h (by decide))
            · have e1 : x1 1 = .pointer (some ⟨g5 + 1, y.1.toNat, none⟩) := hd ⟨1, .data⟩ (by simp) rfl
              simp only [e1] at hK ⊢
              have cyx := ((f4.below hb).cell y.1.toNat).trans (farC_get F y.1 (by omega))
              go_simp
              exact hK _ _ (rfl) (Below.refl _ _) (fun h => absurd h (by decide))
            · have cXx : w1x.cell? ⟨Bx, 0, none⟩ = some (.int .i64 x.1) := (hb.cell (World.block_lt_of_cell? _ _ cX)).trans cX
              go_simp
              exact hK _ _ (rfl) (Below.refl _ _) (fun h => absurd h (by decide))
            · have e3 : x1 3 = .int .i64 x.1 := hd ⟨3, .data⟩ (by simp) rfl
              simp only [e3] at hK ⊢
              go_simp
              exact hK _ _ (rfl) (Below.refl _ _) (fun h => absurd h (by decide))
            · have e4 : x1 4 = .pointer (some ⟨g5 + 1, x.1.toNat, none⟩) := hd ⟨4, .data⟩ (by simp) rfl
              simp only [e4] at hK ⊢
              have czx := ((f4.below hb).cell x.1.toNat).trans (farC_get F x.1 (by omega))
              go_simp
              exact hK _ _ (rfl) (Below.refl _ _) (fun h => absurd h (by decide))
            · have e2 : x1 2 = .int .u64 (F y.1) := hd ⟨2, .data⟩ (by simp) rfl
              have e5 : x1 5 = .int .u64 (F x.1) := hd ⟨5, .data⟩ (by simp) rfl
              simp only [e2, e5] at hK ⊢
              go_simp
              exact hK _ _ (rfl) (Below.refl _ _) (fun h => absurd h (by decide))
          case fin18 =>
            intro x1 wf hb hx _
            have e6 : x1 6 = .bool (decide (F x.1 ≤ F y.1)) := hx 6 (by omega)
            by_cases hge : F x.1 ≤ F y.1
            · rw [decide_eq_true hge] at e6
              simp only [frameOf, slots, Act.put, List.setIfInBounds_toArray, List.set_cons_zero, List.set_cons_succ]
              simp only [e6]
              clear cA fA cX cy cz e6 hx
              replace bA2 : Boxed wf _ _ _ := Blk.below (cs := #[_]) bA2 hb
              replace bN2 : Boxed wf _ _ _ := Blk.below (cs := #[_]) bN2 hb
              have cA := bA2.cell
              have fA := bA2.frozen
              gi_wp2
              refine wpIn_region_par_tail 4 [58, 59, 60, 61] (fun _ => false) (PhiOne (asX F x.1 (vals pre')) y.1 (oneN y.1) ((asX F x.1 (vals pre') ||| oneN y.1 : Nat) : Int)) (by kernel_rfl) (by kernel_rfl) (phiOne_stab _ _ _ _) ?steps19 ?fin19
              case steps19 =>
                simp only [List.take_succ_cons, List.take_zero, StepsParIn]
                refine ⟨?_, ?_, ?_, ?_, trivial⟩
                all_goals
                  intro x1 w1x hb hd K hK
                  simp only [frameOf, slots, Act.put, List.setIfInBounds_toArray, List.set_cons_zero, List.set_cons_succ] at hK ⊢
                · have cAx : w1x.cell? ⟨W.heap.size, 0, none⟩ = some (.int .u64 (asX F x.1 (vals pre'))) := (hb.cell (World.block_lt_of_cell? _ _ cA)).trans cA
                  go_simp
                  exact hK _ _ (rfl) (Below.refl _ _) (fun h => absurd h (by decide))
                · go_simp
                  exact hK _ _ (rfl) (Below.refl _ _) (fun h => absurd h (by decide))
                · have e1 : x1 1 = .int .i64 y.1 := hd ⟨1, .data⟩ (by simp) rfl
                  simp only [e1] at hK ⊢
                  go_simp
                  refine (CallsIn.inRound l2 (CallsIn.inRound l (callsIn_wide.2 (one_any y.1 _)))).mono ?_
                  rintro e w2x ⟨rfl, rfl⟩
                  exact hK _ _ rfl (Below.refl _ _) (fun h => absurd h (by decide))
                · have e0 : x1 0 = .int .u64 (asX F x.1 (vals pre')) := hd ⟨0, .data⟩ (by simp) rfl
                  have e2 : x1 2 = .int .u64 (oneN y.1) := hd ⟨2, .data⟩ (by simp) rfl
                  simp only [e0, e2] at hK ⊢
                  have hbb := hbits.out
                  go_simp
                  exact hK _ _ rfl (Below.refl _ _) (fun h => absurd h (by decide))
              case fin19 =>
                intro x1 wg hb2 hx _
                have e3 : x1 3 = .int .u64 ((asX F x.1 (vals pre') ||| oneN y.1 : Nat) : Int) := hx 3 (by omega)
                simp only [frameOf, slots, Act.put, List.setIfInBounds_toArray, List.set_cons_zero, List.set_cons_succ, List.drop_succ_cons, List.drop_zero, e3]
                clear cA fA hx e3
                replace bA2 : Boxed wg _ _ _ := Blk.below (cs := #[_]) bA2 hb2
                replace bN2 : Boxed wg _ _ _ := Blk.below (cs := #[_]) bN2 hb2
                have cA := bA2.cell
                have fA := bA2.frozen
                gi_wp2
                have hbw : Below W'.heap.size W' wg := hb.trans (hb2.mono hb.size)
                have hBg := hBW.trans (hbw.mono hBW.size)
                refine ⟨((keepsFrom_below hbw).trans ((KeepsOthers.setCell _ _ _).from _)), fun _ => (bN2.other (by simp) _).cell, ⟨⟨?_, bN2.other (by simp) _⟩, hBg.setCell (p := ⟨W.heap.size, 0, none⟩) (Nat.le_refl _) _, hKF.trans ((keepsFrom_below hbw).trans ((KeepsOthers.setCell _ _ _).from _))⟩⟩
                have hv : vals (pre' ++ [y]) = vals pre' ++ [y.1] := by simp [vals]
                rw [hv, HA.out, if_pos hge]
                exact bA2.set _
            · rw [decide_eq_false hge] at e6
              simp only [frameOf, slots, Act.put, List.setIfInBounds_toArray, List.set_cons_zero, List.set_cons_succ]
              simp only [e6]
              clear cA fA cX cy cz e6 hx
              gi_wp2
              have hBg := hBW.trans (hb.mono hBW.size)
              have bA3 : Boxed wf _ _ _ := Blk.below (cs := #[_]) bA2 hb
              have bN3 : Boxed wf _ _ _ := Blk.below (cs := #[_]) bN2 hb
              refine ⟨keepsFrom_below hb, fun _ => bN3.cell, ⟨⟨?_, bN3⟩, hBg, hKF.trans (keepsFrom_below hb)⟩⟩
              have hv : vals (pre' ++ [y]) = vals pre' ++ [y.1] := by simp [vals]
              rw [hv, HA.out, if_neg (by omega)]
              exact bA3
        case done2 =>
          rintro ys' W' hys ⟨⟨bA2, bN2⟩, hBW, hKF⟩
          clear hsz
          rw [hys] at bA2
          have d1 : Boxed W' gB _ _ := Blk.low (cs := #[_]) b1 hBW b1.lt
          have d2 : Boxed W' g5 _ _ := Blk.low (cs := #[_]) b2 hBW b2.lt
          have d3 : Boxed W' (gB + 1) _ _ := Blk.low (cs := #[_]) b3 hBW b3.lt
          have d4 := b4.low hBW b4.lt
          have d5 : Boxed W' (gB + 1 + 1) _ _ := Blk.low (cs := #[_]) b5 hBW b5.lt
          have dx : Boxed W' Bx _ _ := Blk.low (cs := #[_]) bx hBW bx.lt
          have cM := d3.cell
          have cA := bA2.cell
          have hBW2 : Below w.heap.size W W' := hBW.mono hB1.size
          have hv : Hid (vals (pre ++ [x]) = vals pre ++ [x.1]) := by unfold Hid; simp [vals]
          have HBX := Lib.hid (bestX_snoc F X (vals pre) x.1)
          cases hmo : moreB X (asX F x.1 (memS X)) with
          | false =>
            have HMO := Lib.hid hmo
            clear hmo
            gi_wp2_with (gi_at_call 42; refine (CallsIn.inRound l (callsIn_wide.2 (more_any X (asX F x.1 (memS X)) hX H20.out (asX_lt _ _ _) _))).mono ?_; rw [HMO.out]; rintro e w' ⟨rfl, rfl⟩)
            refine ⟨hKF, fun _ => d5.cell, ⟨?_, d2, d3, d4, d5⟩, hB1.trans hBW2⟩
            rw [hv.out, HBX.out, HMO.out, if_neg (by simp)]
            exact d1
          | true =>
            have HMO := Lib.hid hmo
            clear hmo
            gi_wp2_with (gi_at_call 42; refine (CallsIn.inRound l (callsIn_wide.2 (more_any X (asX F x.1 (memS X)) hX H20.out (asX_lt _ _ _) _))).mono ?_; rw [HMO.out]; rintro e w' ⟨rfl, rfl⟩)
            have cB := d1.cell
            have cX := dx.cell
            have hx1 := x.2.1
            have hx5 := x.2.2
            have hx0 : 0 ≤ x.1 := by omega
            have hx6 : x.1 < 6 := by omega
            refine wpIn_region_par_tail 5 [65, 66, 67, 68, 69] (fun _ => false) (PhiBest (g5 + 1) (bestX F X (vals pre)) x.1 (F x.1)) (by kernel_rfl) (by kernel_rfl) (phiBest_stab _ _ _ _) ?steps21 ?fin21
            case steps21 =>
              clear cA cM
              simp only [List.take_succ_cons, List.take_zero, StepsParIn]
              refine ⟨?_, ?_, ?_, ?_, ?_, trivial⟩
              all_goals
                intro x1 w1x hb hd K hK
                simp only [frameOf, slots, Act.put, List.setIfInBounds_toArray, List.set_cons_zero, List.set_cons_succ] at hK ⊢
              · have cBx : w1x.cell? ⟨gB, 0, none⟩ = some (.int .u64 (bestX F X (vals pre))) := (hb.cell (World.block_lt_of_cell? _ _ cB)).trans cB
                go_simp
                exact hK _ _ (rfl) (Below.refl _ _) (fun h => absurd h (by decide))
              · have cXx : w1x.cell? ⟨Bx, 0, none⟩ = some (.int .i64 x.1) := (hb.cell (World.block_lt_of_cell? _ _ cX)).trans cX
                go_simp
                exact hK _ _ (rfl) (Below.refl _ _) (fun h => absurd h (by decide))
              · have e1 : x1 1 = .int .i64 x.1 := hd ⟨1, .data⟩ (by simp) rfl
                simp only [e1] at hK ⊢
                go_simp
                exact hK _ _ (rfl) (Below.refl _ _) (fun h => absurd h (by decide))
              · have e2 : x1 2 = .pointer (some ⟨g5 + 1, x.1.toNat, none⟩) := hd ⟨2, .data⟩ (by simp) rfl
                simp only [e2] at hK ⊢
                have czx := ((d4.below hb).cell x.1.toNat).trans (farC_get F x.1 (by omega))
                go_simp
                exact hK _ _ (rfl) (Below.refl _ _) (fun h => absurd h (by decide))
              · have e0 : x1 0 = .int .u64 (bestX F X (vals pre)) := hd ⟨0, .data⟩ (by simp) rfl
                have e3 : x1 3 = .int .u64 (F x.1) := hd ⟨3, .data⟩ (by simp) rfl
                simp only [e0, e3] at hK ⊢
                go_simp
                exact hK _ _ (congrArg (Value.int .u64) (max_if _ _)) (Below.refl _ _) (fun h => absurd h (by decide))
            case fin21 =>
              intro x1 wg hb hx _
              have e4 : x1 4 = .int .u64 (max (bestX F X (vals pre)) (F x.1)) := hx 4 (by omega)
              simp only [frameOf, slots, Act.put, List.setIfInBounds_toArray, List.set_cons_zero, List.set_cons_succ, List.drop_succ_cons, List.drop_zero, e4]
              clear cA cM cB cX hx e4
              have f1 : Boxed wg gB _ _ := Blk.below (cs := #[_]) d1 hb
              have f2 : Boxed wg g5 _ _ := Blk.below (cs := #[_]) d2 hb
              have f3 : Boxed wg (gB + 1) _ _ := Blk.below (cs := #[_]) d3 hb
              have f4 := d4.below hb
              have f5 : Boxed wg (gB + 1 + 1) _ _ := Blk.below (cs := #[_]) d5 hb
              have cB := f1.cell
              have fB := f1.frozen
              gi_wp2
              have hBg : Below w.heap.size W wg := hBW2.trans (hb.mono (by have h1 := hB1.size; have h2 := hBW.size; omega))
              have hgB : w.heap.size ≤ gB := by omega
              refine ⟨(hKF.trans (keepsFrom_below hb)).trans ((KeepsOthers.setCell _ _ _).from _), fun _ => (f5.other (by omega) _).cell, ⟨?_, f2.other (by omega) _, f3.other (by omega) _, f4.far (p := ⟨gB, 0, none⟩) (by show g5 + 1 ≠ gB; omega) _, f5.other (by omega) _⟩, (hB1.trans hBg).setCell (p := ⟨gB, 0, none⟩) hgB _⟩
              rw [hv.out, HBX.out, HMO.out, if_pos rfl]
              exact f1.set _
        case stop2 =>
          rintro c pre' W' _ h
          exact h.elim
      case done =>
        rintro D zs W hD hzs ⟨⟨b1, b2, b3, b4, b5⟩, hB1⟩ hK
        have cB := b1.cell
        go_wp2
        refine ⟨by simp, .inl ⟨_, _, rfl, run_takeDeferred hK, ?_⟩⟩
        refine ⟨_, results_tmp rfl _ _ _, (by show Ending.returned (.int .u64 (bestX F X (memS X))) = .returned (.int .u64 (agreedN X ps)); exact ret_int (by unfold agreedN; rw [← HF.out])), hB1.trans (belowK_b (w := w) (Nat.le_refl _) W D _ _ (by have := hB0.size; omega) hK rfl rfl)⟩
      case stop =>
        rintro D c pre W _ _ h _
        exact h.elim
end Go.Proofs.Ytonfbinkjhbpiaa

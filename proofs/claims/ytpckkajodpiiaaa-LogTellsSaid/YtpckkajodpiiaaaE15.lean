/- The last entry up to an index that says who is a member. No condition. -/
import Derived.Test.YtpckkajodpiiaaaE14
import Derived.Test.YtpckkajodpiiaaaParIn
namespace Go.Proofs.Ytpckkajodpiiaaa
open Go.RowKit Go.Shelf
set_option linter.unusedVariables false
set_option linter.unusedSimpArgs false

attribute [local go_sem] Oper.semAt_some

/-- Does the m-th spot from the end on stand behind an entry that is meant? -/
def hitC (i t x : Int) (es : List Ent) (N m : Nat) : Bool := match N - m with
  | 0 => false
  | k + 1 => decide ((spotN i t es (k + 1)).1 ≤ x) && decide (es[k]?.map (·.K) = some 3)
/-- Among the first entries the last that is meant. -/
def cfR (i t x : Int) (es : List Ent) : Nat → Int × List Int × Bool
  | 0 => (0, [], false)
  | k + 1 => match es[k]? with
    | some e => if e.K = 3 ∧ (spotN i t es (k + 1)).1 ≤ x then ((spotN i t es (k + 1)).1, e.D, true) else cfR i t x es k
    | none => cfR i t x es k
theorem cfR_n {i t x : Int} {es : List Ent} {k : Nat} (h : hitC i t x es (k + 1) 0 = false) : cfR i t x es (k + 1) = cfR i t x es k := by
  unfold hitC at h
  simp only [Nat.sub_zero] at h
  show (match es[k]? with
    | some e => if e.K = 3 ∧ (spotN i t es (k + 1)).1 ≤ x then ((spotN i t es (k + 1)).1, e.D, true) else cfR i t x es k
    | none => cfR i t x es k) = _
  cases he : es[k]? with
  | none => rfl
  | some e =>
    simp only
    rw [he] at h
    split
    · rename_i hc
      simp [hc.1, hc.2] at h
    · rfl
theorem hitC_sub (i t x : Int) (es : List Ent) (N m : Nat) : hitC i t x es N m = hitC i t x es (N - m) 0 := by simp [hitC]
theorem cfR_down {i t x : Int} {es : List Ent} : ∀ {N m : Nat}, m ≤ N → (∀ j, j < m → hitC i t x es N j = false) → cfR i t x es N = cfR i t x es (N - m)
  | N, 0, _, _ => rfl
  | N, m + 1, hm, h => by
    rw [cfR_down (by omega : m ≤ N) fun j hj => h j (by omega), show N - m = N - (m + 1) + 1 by omega]
    refine cfR_n ?_
    have := h m (by omega)
    rw [hitC_sub] at this
    rwa [show N - m = N - (m + 1) + 1 by omega] at this
theorem cfR_none {i t x : Int} {es : List Ent} {N : Nat} (h : ∀ j, j < N → hitC i t x es N j = false) : cfR i t x es N = (0, [], false) := by
  rw [cfR_down (Nat.le_refl N) h, Nat.sub_self]; rfl
theorem cfR_hit {i t x : Int} {es : List Ent} {N m : Nat} {e : Ent} (hm : m < N) (he : es[N - m - 1]? = some e) (h3 : e.K = 3) (hx : (spotN i t es (N - m)).1 ≤ x) (h : ∀ j, j < m → hitC i t x es N j = false) : cfR i t x es N = ((spotN i t es (N - m)).1, e.D, true) := by
  rw [cfR_down (by omega) h]
  obtain ⟨k, hk⟩ : ∃ k, N - m = k + 1 := ⟨N - m - 1, by omega⟩
  rw [hk] at hx ⊢
  rw [show N - m - 1 = k by omega] at he
  show (match es[k]? with
    | some e => if e.K = 3 ∧ (spotN i t es (k + 1)).1 ≤ x then ((spotN i t es (k + 1)).1, e.D, true) else cfR i t x es k
    | none => cfR i t x es k) = _
  rw [he]
  simp only
  rw [if_pos ⟨h3, hx⟩]
def confR (i t x : Int) (es : List Ent) : Int × List Int × Bool := if mayB i t es = true then cfR i t x es es.length else (0, [], false)

theorem ownR_own {β : Type} (base : Nat) (e : TypeId) (size n c : Nat) (A : Option Addr) (xs : List Value) : Own (fun (_ : β) W => W.ownsRow base e size (.slice A n c) n xs) := fun s X Y row hs hg hrow => by
  rcases A with _ | ad
  · exact hs.kept hg (.inl rfl)
  · refine hs.kept hg (.inr ?_)
    intro e
    obtain ⟨o, ho, hw⟩ := hrow ad.block e.symm
    rcases hs.2 with ⟨hv, _⟩ | ⟨g, cap, cur, hv, _, hg', _⟩
    · cases hv
    · injection hv with hA
      injection hA with hA
      subst hA
      rw [ho] at hg'
      cases hg'
      cases hw
/-- What the region that hands on knows of each of its slots. -/
def PhiConf (sp : Int) (g9 g7 : Nat) (A : Option Addr) (N c : Nat) (k : Nat) (ad : Addr) (p : EP) (base : Nat) : Nat → Value → World → Prop
  | 0, v, _ => v = .pointer (some ⟨g9, 0, none⟩)
  | 1, v, _ => v = .int .u64 sp
  | 2, v, _ => v = .pointer (some ⟨g7, 0, none⟩)
  | 3, v, _ => v = .pointer (some ⟨g7, 2, none⟩)
  | 4, v, _ => v = .slice A N c
  | 5, v, _ => v = .int .i64 ((k : Int) + 1)
  | 6, v, _ => v = .int .i64 k
  | 7, v, _ => v = .pointer (some (ad.add (k * 3)))
  | 8, v, _ => v = .pointer (some ⟨(ad.add (k * 3)).block, (ad.add (k * 3)).off + 2, none⟩)
  | 9, v, _ => v = .slice p.A p.n p.c
  | 10, v, w => ∃ A' c', v = .slice A' p.n c' ∧ w.ownsRow base 5 1 (.slice A' p.n c') p.n (ib .u8 p.e.D)
  | _, _, _ => True
theorem phiConf_stab (k : Int) (g9 g7 : Nat) (A : Option Addr) (N c : Nat) (m : Nat) (ad : Addr) (p : EP) (base : Nat) : ∀ j v w1 w2, PhiConf k g9 g7 A N c m ad p base j v w1 → Below w1.heap.size w1 w2 → PhiConf k g9 g7 A N c m ad p base j v w2 := by
  intro j v w1 w2 h hb
  unfold PhiConf at h ⊢
  split <;> first | exact h | trivial | skip
  simp only at h
  obtain ⟨A', c', rfl, h⟩ := h
  exact ⟨A', c', rfl, own_below h hb⟩
/-- What a round that hands on leaves. -/
def ConfX (i t x : Int) (ps : List EP) (N s : Nat) (pre : List Nat) (W : World) : Prop := ∃ pre' m p A' c', pre = pre' ++ [m] ∧ (∀ j ∈ pre', hitC i t x (es ps) N j = false) ∧ m < N ∧ ps[N - m - 1]? = some p ∧ p.e.K = 3 ∧ (spotN i t (es ps) (N - m)).1 ≤ x ∧
  Blk W (s + 1 + 1) 22 #[.int .u64 (spotN i t (es ps) (N - m)).1] ∧ Blk W (s + 1 + 1 + 1) 44 #[.slice A' p.n c'] ∧ Blk W (s + 1 + 1 + 1 + 1) 4 #[.bool true] ∧ W.ownsRow s 5 1 (.slice A' p.n c') p.n (ib .u8 p.e.D)
theorem confX_own (i t x : Int) (ps : List EP) (N s : Nat) : Own (fun pre W => ConfX i t x ps N s pre W) := fun pre X Y row hs hg hr => by
  obtain ⟨pre', m, p, A', c', h1, h2, h3, h4, h5, h6, h7, h8, h9, h10⟩ := hs
  exact ⟨pre', m, p, A', c', h1, h2, h3, h4, h5, h6, blkL_own _ _ (fun (_ : Unit) => _) () X Y row h7 hg hr, blkL_own _ _ (fun (_ : Unit) => _) () X Y row h8 hg hr, blkL_own _ _ (fun (_ : Unit) => _) () X Y row h9 hg hr, ownR_own (β := Unit) _ _ _ _ _ _ _ () X Y row h10 hg hr⟩
/-- Three boxes that are stored into, one behind the other. -/
theorem three {W : World} {g4 g5 g6 : Nat} {t4 t5 t6 : TypeId} {x4 x5 x6 : Value} (v4 v5 v6 : Value) (q4 : Blk W g4 t4 #[x4]) (q5 : Blk W g5 t5 #[x5]) (q6 : Blk W g6 t6 #[x6]) (h45 : g4 ≠ g5) (h46 : g4 ≠ g6) (h56 : g5 ≠ g6) :
    Blk (((W.setCell ⟨g4, 0, none⟩ v4).setCell ⟨g5, 0, none⟩ v5).setCell ⟨g6, 0, none⟩ v6) g4 t4 #[v4] ∧ Blk (((W.setCell ⟨g4, 0, none⟩ v4).setCell ⟨g5, 0, none⟩ v5).setCell ⟨g6, 0, none⟩ v6) g5 t5 #[v5] ∧ Blk (((W.setCell ⟨g4, 0, none⟩ v4).setCell ⟨g5, 0, none⟩ v5).setCell ⟨g6, 0, none⟩ v6) g6 t6 #[v6] :=
  ⟨((q4.put 0 v4).far h45 v5).far h46 v6, ((q5.far (p := ⟨g4, 0, none⟩) h45.symm v4).put 0 v5).far h56 v6, ((q6.far (p := ⟨g4, 0, none⟩) h46.symm v4).far (p := ⟨g5, 0, none⟩) h56.symm v5).put 0 v6⟩
theorem below_three {n : Nat} {w W : World} (h : Below n w W) {g4 g5 g6 : Nat} (v4 v5 v6 : Value) (h4 : n ≤ g4) (h5 : n ≤ g5) (h6 : n ≤ g6) : Below n w (((W.setCell ⟨g4, 0, none⟩ v4).setCell ⟨g5, 0, none⟩ v5).setCell ⟨g6, 0, none⟩ v6) :=
  ((h.setCell (p := ⟨g4, 0, none⟩) h4 _).setCell (p := ⟨g5, 0, none⟩) h5 _).setCell (p := ⟨g6, 0, none⟩) h6 _

set_option maxRecDepth 100000 in
set_option maxHeartbeats 8000000 in
theorem conf_any {e2 : Option TypeId} (i t : Int) (A : Option Addr) (N c : Nat) (ps : List EP) (x : Int) (w : World) (hs : SeesE w e2 A N ps) (hc : N ≤ c) (hN : N ≤ 1000000000) (hi0 : 0 ≤ i) (hi1 : i < 18446744073709551616) (hps : ∀ p ∈ ps, p.n ≤ 1000000000000) :
    Calls Try.prog 36 #[logV i t A N c, .int .u64 x] w fun e w' => ∃ A' n' c', e = .returned (.tuple #[.int .u64 (confR i t x (es ps)).1, .slice A' n' c', .bool (confR i t x (es ps)).2.2]) ∧ w'.ownsRow w.heap.size 5 1 (.slice A' n' c') n' (ib .u8 (confR i t x (es ps)).2.1) ∧ Below w.heap.size w w' := by
  have HPL := Lib.hid hs.len
  have HSP := fun w => spots_any i t A N c w
  have HMY := fun w hs => may_any (e2 := e2) i t A N c ps w hs hN hi0 hi1
  unfold logV at HSP HMY ⊢
  refine (callsIn_wide (n := 8)).1 ?_
  refine callsIn_of_wp_marks Try.func36 rfl trivial ?_ rfl
  simp only [Try.ntmps36, List.size_toArray, List.length_cons, List.length_nil, Nat.reduceAdd, Nat.reduceSub, Array.replicate_succ, Array.replicate_zero, List.push_toArray, List.append_toArray, List.nil_append, List.cons_append]
  refine wpIn_wide.2 ?_
  go_wp2_with fail
  have q2 := ((((((Blk.new w 27 #[.int .u64 i, .int .u64 t, .slice A N c]).alloc (.cells #[.int .u64 x] 22)).alloc (.cells #[.int .u64 0] 22)).alloc (.cells #[.slice none 0 0] 44)).alloc (.cells #[.bool false] 4)).alloc (.cells #[.int .u64 i, .int .u64 t, .slice A N c] 79))
  have q3 := (((((Blk.new (w.alloc (.cells #[.int .u64 i, .int .u64 t, .slice A N c] 27)) 22 #[.int .u64 x]).alloc (.cells #[.int .u64 0] 22)).alloc (.cells #[.slice none 0 0] 44)).alloc (.cells #[.bool false] 4)).alloc (.cells #[.int .u64 i, .int .u64 t, .slice A N c] 79))
  have q4 := ((((Blk.new ((w.alloc (.cells #[.int .u64 i, .int .u64 t, .slice A N c] 27)).alloc (.cells #[.int .u64 x] 22)) 22 #[.int .u64 0]).alloc (.cells #[.slice none 0 0] 44)).alloc (.cells #[.bool false] 4)).alloc (.cells #[.int .u64 i, .int .u64 t, .slice A N c] 79))
  have q5 := (((Blk.new (((w.alloc (.cells #[.int .u64 i, .int .u64 t, .slice A N c] 27)).alloc (.cells #[.int .u64 x] 22)).alloc (.cells #[.int .u64 0] 22)) 44 #[.slice none 0 0]).alloc (.cells #[.bool false] 4)).alloc (.cells #[.int .u64 i, .int .u64 t, .slice A N c] 79))
  have q6 := ((Blk.new ((((w.alloc (.cells #[.int .u64 i, .int .u64 t, .slice A N c] 27)).alloc (.cells #[.int .u64 x] 22)).alloc (.cells #[.int .u64 0] 22)).alloc (.cells #[.slice none 0 0] 44)) 4 #[.bool false]).alloc (.cells #[.int .u64 i, .int .u64 t, .slice A N c] 79))
  have q7 := (Blk.new (((((w.alloc (.cells #[.int .u64 i, .int .u64 t, .slice A N c] 27)).alloc (.cells #[.int .u64 x] 22)).alloc (.cells #[.int .u64 0] 22)).alloc (.cells #[.slice none 0 0] 44)).alloc (.cells #[.bool false] 4)) 79 #[.int .u64 i, .int .u64 t, .slice A N c])
  have hs0 := (((((hs.alloc (.cells #[.int .u64 i, .int .u64 t, .slice A N c] 27)).alloc (.cells #[.int .u64 x] 22)).alloc (.cells #[.int .u64 0] 22)).alloc (.cells #[.slice none 0 0] 44)).alloc (.cells #[.bool false] 4)).alloc (.cells #[.int .u64 i, .int .u64 t, .slice A N c] 79)
  have HB0 := ((((((Below.refl _ w).alloc (Nat.le_refl _) (.cells #[.int .u64 i, .int .u64 t, .slice A N c] 27)).alloc (by simp) (.cells #[.int .u64 x] 22)).alloc (by simp; omega) (.cells #[.int .u64 0] 22)).alloc (by simp; omega) (.cells #[.slice none 0 0] 44)).alloc (by simp; omega) (.cells #[.bool false] 4)).alloc (by simp; omega) (.cells #[.int .u64 i, .int .u64 t, .slice A N c] 79)
  simp only [World.size_alloc] at q2 q3 q4 q5 q6 q7
  refine (HMY _ hs0).mono ?_
  rintro e W0 ⟨rfl, hb⟩
  replace q2 := q2.below hb
  replace q3 := q3.below hb
  replace q4 := q4.below hb
  replace q5 := q5.below hb
  replace q6 := q6.below hb
  replace q7 := q7.below hb
  replace hs0 := hs0.below hb
  replace HB0 := HB0.trans (hb.mono HB0.size)
  clear hb HMY
  have c4 := q4.cell 0
  have c5 := q5.cell 0
  have c6 := q6.cell 0
  have c7 := q7.cell 0
  have c71 := q7.cell 1
  have c72 := q7.cell 2
  have f4 := q4.frozen 0
  have f5 := q5.frozen 0
  have f6 := q6.frozen 0
  simp at c4 c5 c6 c7 c71 c72
  cases hm : mayB i t (es ps) with
  | false =>
    have HR : Hid (confR i t x (es ps) = (0, [], false)) := by unfold Hid confR; rw [hm]; rfl
    clear hm
    simp only [HR.out]
    go_wp2
    obtain ⟨r4, r5, r6⟩ := three (.int .u64 0) (.slice none 0 0) (.bool false) q4 q5 q6 (by omega) (by omega) (by omega)
    have HB1 := below_three HB0 (.int .u64 0) (.slice none 0 0) (.bool false) (g4 := w.heap.size + 1 + 1) (g5 := w.heap.size + 1 + 1 + 1) (g6 := w.heap.size + 1 + 1 + 1 + 1) (by omega) (by omega) (by omega)
    replace r4 := r4.cell 0
    replace r5 := r5.cell 0
    replace r6 := r6.cell 0
    simp at r4 r5 r6
    refine ⟨_, by simp [results, Try.results36, go_sem, r4, r5, r6]; rfl, none, 0, 0, ?_, ?_, HB1⟩
    · rw [HR.out]
    · rw [HR.out]; exact World.ownsRow_nil _ _ _ _
  | true =>
    have HR : Hid (confR i t x (es ps) = cfR i t x (es ps) N) := by unfold Hid confR; rw [hm, if_pos rfl]; simp only [es, List.length_map]; rw [HPL.out]
    clear hm
    go_wp2_with fail
    refine (HSP _).mono ?_
    rintro e W1 ⟨rfl, hW1⟩
    clear HSP c4 c5 c6 f4 f5 f6
    have bL := Blk.new W0 79 #[.int .u64 i, .int .u64 t, .slice A N c]
    replace q2 := q2.alloc (.cells #[.int .u64 i, .int .u64 t, .slice A N c] 79)
    replace q3 := q3.alloc (.cells #[.int .u64 i, .int .u64 t, .slice A N c] 79)
    replace q4 := q4.alloc (.cells #[.int .u64 i, .int .u64 t, .slice A N c] 79)
    replace q5 := q5.alloc (.cells #[.int .u64 i, .int .u64 t, .slice A N c] 79)
    replace q6 := q6.alloc (.cells #[.int .u64 i, .int .u64 t, .slice A N c] 79)
    replace q7 := q7.alloc (.cells #[.int .u64 i, .int .u64 t, .slice A N c] 79)
    replace hs0 := hs0.alloc (.cells #[.int .u64 i, .int .u64 t, .slice A N c] 79)
    replace HB0 := HB0.alloc HB0.size (.cells #[.int .u64 i, .int .u64 t, .slice A N c] 79)
    rw [← hW1] at bL q2 q3 q4 q5 q6 q7 hs0 HB0
    have hsz : W1.heap.size = W0.heap.size + 1 := by rw [hW1]; simp
    have hs6 := q7.lt
    generalize hBn : W0.heap.size = Bn at *
    clear hW1 c7 c71 c72
    go_wp2_with fail
    refine (wpIn_wide (n := 8)).1 ?_
    refine wpIn_rangeFunc_ownH rfl (by omega) (gf := 71) (lb := #[.pointer (some ⟨Bn, 0, none⟩)]) rfl trivial (enters_of Try.func71 (by kernel_rfl) rfl)
      (spots_stops 7 (by omega) Bn i t A N c ps hN hi0 hi1 W1 ⟨bL, hs0⟩) keepL_t keepL_b (Below.refl _ _) (fun _ => rfl)
      (fun pre W => ((Blk W Bn 79 #[.int .u64 i, .int .u64 t, .slice A N c] ∧ SeesE W e2 A N ps) ∧ (Blk W (w.heap.size + 1) 22 #[.int .u64 x] ∧ Blk W (w.heap.size + 1 + 1) 22 #[.int .u64 0]) ∧ (Blk W (w.heap.size + 1 + 1 + 1) 44 #[.slice none 0 0] ∧ Blk W (w.heap.size + 1 + 1 + 1 + 1) 4 #[.bool false]) ∧ Blk W (w.heap.size + 1 + 1 + 1 + 1 + 1) 79 #[.int .u64 i, .int .u64 t, .slice A N c]) ∧ ((∀ m ∈ pre, hitC i t x (es ps) N m = false) ∧ Below w.heap.size w W))
      (fun c pre W => (c = Code.ret ∧ ConfX i t x ps N w.heap.size pre W) ∧ Below w.heap.size w W)
      (OwnFrom.and (OwnFrom.and (OwnFrom.and (Own.from (blkL_own _ _ (fun _ => _)) _) (Own.from (seesE_own _ _ _ _) _)) (OwnFrom.and (OwnFrom.and (Own.from (blkL_own _ _ (fun _ => _)) _) (Own.from (blkL_own _ _ (fun _ => _)) _)) (OwnFrom.and (OwnFrom.and (Own.from (blkL_own _ _ (fun _ => _)) _) (Own.from (blkL_own _ _ (fun _ => _)) _)) (Own.from (blkL_own _ _ (fun _ => _)) _)))) (OwnFrom.and (ownFrom_pure _ _) (ownFrom_below (by omega) (by omega))))
      ?own2 ⟨⟨⟨bL, hs0⟩, ⟨q3, q4⟩, ⟨q5, q6⟩, q7⟩, by simp, HB0⟩
      (fun m a' W => ∃ Bx, Blk W Bx 24 #[.int .u64 (spotN i t (es ps) (N - m)).1, .int .u64 (spotN i t (es ps) (N - m)).2] ∧ a' = { tmps := #[.agg #[.int .u64 i, .int .u64 t, .slice A N c], .int .u64 x, .pointer (some ⟨w.heap.size, 0, none⟩), .pointer (some ⟨w.heap.size + 1, 0, none⟩), .pointer (some ⟨w.heap.size + 1 + 1, 0, none⟩), .pointer (some ⟨w.heap.size + 1 + 1 + 1, 0, none⟩), .pointer (some ⟨w.heap.size + 1 + 1 + 1 + 1, 0, none⟩), .pointer (some ⟨w.heap.size + 1 + 1 + 1 + 1 + 1, 0, none⟩), .int .i64 ((N : Int) - m), .pointer (some ⟨Bx, 0, none⟩), .agg #[.int .u64 i, .int .u64 t, .slice A N c], .agg #[.int .u64 i, .int .u64 t, .slice A N c], .agg #[.int .u64 i, .int .u64 t, .slice A N c], .bool true, .bool false, .agg #[.int .u64 i, .int .u64 t, .slice A N c], .func (.func 71) #[] #[.pointer (some ⟨Bn, 0, none⟩)], .int .i64 ((N : Int) - m), atV (spotN i t (es ps) (N - m)), undef, undef, undef, undef, undef, undef, undef, undef, undef, undef, undef, undef, undef, undef, undef, undef, undef, undef, undef, undef, undef, undef, undef, undef, undef, undef, undef, undef, undef, undef], defers := [] })
      (fun m a' _ X Y row hs hg hr => by obtain ⟨Bx, h1, h2⟩ := hs; exact ⟨Bx, blkL_own Bx 24 (fun (_ : Unit) => _) () X Y row h1 hg (fun r e => (hr r e).2), h2⟩)
      ?assign ?body ?done ?stop
    case own2 =>
      intro c s X Y row hs hg hr
      exact ⟨⟨hs.1.1, confX_own _ _ _ _ _ _ s X Y row hs.1.2 hg (fun r e => (hr r e).2)⟩, (show OwnFrom W1.heap.size (fun (_ : Unit) W => Below w.heap.size w W) from ownFrom_below (by omega) (by omega)) () X Y row hs.2 hg hr⟩
    case assign =>
      rintro l pre m W K ⟨⟨⟨b1, b2⟩, ⟨b3, b4⟩, ⟨b5, b6⟩, b7⟩, b8, hB⟩ hK
      simp only [spotEnc, atV]
      gi_wp2
      exact hK _ _ ((KeepsOthers.alloc _ _).from _) (fun h => ⟨h.1.alloc _, h.2.alloc _⟩) ⟨⟨⟨b1.alloc _, b2.alloc _⟩, ⟨b3.alloc _, b4.alloc _⟩, ⟨b5.alloc _, b6.alloc _⟩, b7.alloc _⟩, b8, hB.alloc hB.size _⟩ ⟨W.heap.size, Blk.new _ _ _, rfl⟩
    case body =>
      rintro l pre m a' W hl - ⟨⟨⟨b1, b2⟩, ⟨b3, b4⟩, ⟨b5, b6⟩, b7⟩, b8, hB⟩ ⟨Bx, bx, rfl⟩ hlt
      have cx := b3.cell 0
      have c0 := bx.cell 0
      have c7 := b7.cell 0
      have c71 := b7.cell 1
      have c72 := b7.cell 2
      simp at cx c0 c7 c71 c72
      have stay : ∀ W' : World, W' = W → hitC i t x (es ps) N m = false → ownPostG (Bn + 1) (KeepL e2 Bn i t A N c ps)
          (fun pre W => ((Blk W Bn 79 #[.int .u64 i, .int .u64 t, .slice A N c] ∧ SeesE W e2 A N ps) ∧ (Blk W (w.heap.size + 1) 22 #[.int .u64 x] ∧ Blk W (w.heap.size + 1 + 1) 22 #[.int .u64 0]) ∧ (Blk W (w.heap.size + 1 + 1 + 1) 44 #[.slice none 0 0] ∧ Blk W (w.heap.size + 1 + 1 + 1 + 1) 4 #[.bool false]) ∧ Blk W (w.heap.size + 1 + 1 + 1 + 1 + 1) 79 #[.int .u64 i, .int .u64 t, .slice A N c]) ∧ ((∀ m ∈ pre, hitC i t x (es ps) N m = false) ∧ Below w.heap.size w W))
          (fun c pre W => (c = Code.ret ∧ ConfX i t x ps N w.heap.size pre W) ∧ Below w.heap.size w W) (pre ++ [m]) W .normal { tmps := #[], defers := [] } W' := fun W' e h => by
        subst e
        exact ⟨KeepsFrom.refl _ _, fun h => h, ⟨⟨b1, b2⟩, ⟨b3, b4⟩, ⟨b5, b6⟩, b7⟩, fun y hy => by rcases List.mem_append.1 hy with hy | hy; exact b8 y hy; rw [List.mem_singleton.1 hy]; exact h, hB⟩
      have stay := fun h => Lib.hid (stay W rfl h)
      by_cases hmN : m < N
      · obtain ⟨k, hk⟩ : ∃ k, N - m = k + 1 := ⟨N - m - 1, by omega⟩
        obtain ⟨ad, p, hA, hpk, hd, hc0, hc1, hc2⟩ := b2.at_ (show k < N by omega)
        subst hA
        have hNm : (N : Int) - m = (k : Int) + 1 := by omega
        rw [hk] at c0
        simp only [hNm, hk]
        have HH : Hid (hitC i t x (es ps) N m = (decide ((spotN i t (es ps) (k + 1)).1 ≤ x) && decide (p.e.K = 3))) := by
          unfold Hid hitC; rw [hk]; simp [es, hpk]
        have HP := Lib.hid hpk
        have hpl := hps p (List.mem_of_getElem? hpk)
        clear hpk
        have HQ := Lib.hid b8
        have hkN : k < N := by omega
        have hki : (k : Int) ≤ 1000000000 := by omega
        generalize hsp : (spotN i t (es ps) (k + 1)).1 = sp at *
        have HSQ := Lib.hid hsp
        clear hsp b8
        by_cases hx : sp ≤ x
        · by_cases h3 : p.e.K = 3
          · gi_wp2
            have hst : 0 = 0 := rfl
            refine wpIn_region_par_tail 11 [38, 39, 40, 41, 42, 43, 44, 45, 46, 47, 48] (fun _ => false) (PhiConf sp Bx (w.heap.size + 1 + 1 + 1 + 1 + 1) (some ad) N c k ad p w.heap.size) (by kernel_rfl) (by kernel_rfl) (phiConf_stab _ _ _ _ _ _ _ _ _ _) ?steps8 ?fin8
            case steps8 =>
              simp only [List.take_succ_cons, List.take_zero, StepsParIn]
              refine ⟨?_, ?_, ?_, ?_, ?_, ?_, ?_, ?_, ?_, ?_, ?_, trivial⟩
              all_goals
                intro x1 w1x hb hd1 K hK
                simp only [frameOf, slots, Act.put, List.setIfInBounds_toArray, List.set_cons_zero, List.set_cons_succ] at hK ⊢
              · go_simp
                exact hK _ _ rfl (Below.refl _ _) (fun h => absurd h (by decide))
              · have e0 : x1 0 = .pointer (some ⟨Bx, 0, none⟩) := hd1 ⟨0, .data⟩ (by simp) rfl
                simp only [e0] at hK ⊢
                have cc : w1x.cell? ⟨Bx, 0, none⟩ = some (.int .u64 sp) := (hb.cell (World.block_lt_of_cell? _ _ c0)).trans c0
                go_simp
                exact hK _ _ rfl (Below.refl _ _) (fun h => absurd h (by decide))
              · go_simp
                exact hK _ _ rfl (Below.refl _ _) (fun h => absurd h (by decide))
              · have e2 : x1 2 = .pointer (some ⟨w.heap.size + 1 + 1 + 1 + 1 + 1, 0, none⟩) := hd1 ⟨2, .data⟩ (by simp) rfl
                simp only [e2] at hK ⊢
                go_simp
                exact hK _ _ rfl (Below.refl _ _) (fun h => absurd h (by decide))
              · have e3 : x1 3 = .pointer (some ⟨w.heap.size + 1 + 1 + 1 + 1 + 1, 2, none⟩) := hd1 ⟨3, .data⟩ (by simp) rfl
                simp only [e3] at hK ⊢
                have cc : w1x.cell? ⟨w.heap.size + 1 + 1 + 1 + 1 + 1, 2, none⟩ = some (.slice (some ad) N c) := (hb.cell (World.block_lt_of_cell? _ _ c72)).trans c72
                go_simp
                exact hK _ _ rfl (Below.refl _ _) (fun h => absurd h (by decide))
              · go_simp
                exact hK _ _ rfl (Below.refl _ _) (fun h => absurd h (by decide))
              · have e5 : x1 5 = .int .i64 ((k : Int) + 1) := hd1 ⟨5, .data⟩ (by simp) rfl
                simp only [e5] at hK ⊢
                go_simp
                exact hK _ _ (by show Value.int .i64 (IntKind.i64.wrap (k:Int)) = Value.int .i64 (k:Int); congr 1; simp [IntKind.wrap, IntKind.bits, IntKind.signed]; omega) (Below.refl _ _) (fun h => absurd h (by decide))
              · have e4 : x1 4 = .slice (some ad) N c := hd1 ⟨4, .data⟩ (by simp) rfl
                have e6 : x1 6 = .int .i64 k := hd1 ⟨6, .data⟩ (by simp) rfl
                simp only [e4, e6] at hK ⊢
                go_simp
                exact hK _ _ rfl (Below.refl _ _) (fun h => absurd h (by decide))
              · have e7 : x1 7 = .pointer (some (ad.add (k * 3))) := hd1 ⟨7, .data⟩ (by simp) rfl
                simp only [e7] at hK ⊢
                go_simp
                exact hK _ _ rfl (Below.refl _ _) (fun h => absurd h (by decide))
              · have e8 : x1 8 = .pointer (some ⟨(ad.add (k * 3)).block, (ad.add (k * 3)).off + 2, none⟩) := hd1 ⟨8, .data⟩ (by simp) rfl
                simp only [e8] at hK ⊢
                have cc : w1x.cell? ⟨(ad.add (k * 3)).block, (ad.add (k * 3)).off + 2, none⟩ = some (.slice p.A p.n p.c) := (hb.cell (World.block_lt_of_cell? _ _ hc2)).trans hc2
                go_simp
                exact hK _ _ rfl (Below.refl _ _) (fun h => absurd h (by decide))
              · have e9 : x1 9 = .slice p.A p.n p.c := hd1 ⟨9, .data⟩ (by simp) rfl
                simp only [e9] at hK ⊢
                go_simp
                refine ⟨trivial, (CallsIn.inRound l (callsIn_wide.2 (bclone_any p.A p.n p.c p.e.D _ (hd.below hb).sees hpl))).mono ?_⟩
                rintro e w2x ⟨A', c', rfl, ho, hb2⟩
                exact hK _ _ ⟨A', c', rfl, own_mono ho (Nat.le_trans hB.size hb.size)⟩ hb2 (fun h => absurd h (by decide))
            case fin8 =>
              intro x1 wg hb2 hxx _
              have e1 : x1 1 = .int .u64 sp := hxx 1 (by omega)
              obtain ⟨A', c', e10, ho⟩ : ∃ A' c', x1 10 = .slice A' p.n c' ∧ wg.ownsRow w.heap.size 5 1 (.slice A' p.n c') p.n (ib .u8 p.e.D) := hxx 10 (by omega)
              simp only [frameOf, slots, Act.put, List.setIfInBounds_toArray, List.set_cons_zero, List.set_cons_succ, List.drop_succ_cons, List.drop_zero, e1, e10]
              clear hxx e1 e10 c0 cx c7 c71 c72 hc0 hc1 hc2 hst
              replace b4 := b4.below hb2
              replace b5 := b5.below hb2
              replace b6 := b6.below hb2
              have f4 := b4.frozen 0
              have f5 := b5.frozen 0
              have f6 := b6.frozen 0
              have c4 := b4.cell 0
              have c5 := b5.cell 0
              have c6 := b6.cell 0
              simp at c4 c5 c6
              have KF : KeepsFrom W1.heap.size W (((wg.setCell ⟨w.heap.size + 1 + 1, 0, none⟩ (.int .u64 sp)).setCell ⟨w.heap.size + 1 + 1 + 1, 0, none⟩ (.slice A' p.n c')).setCell ⟨w.heap.size + 1 + 1 + 1 + 1, 0, none⟩ (.bool true)) :=
                (keepsFrom_below hb2).trans (((KeepsOthers.setCell _ _ _).from _).trans (((KeepsOthers.setCell _ _ _).from _).trans ((KeepsOthers.setCell _ _ _).from _)))
              obtain ⟨r4, r5, r6⟩ := three (.int .u64 sp) (.slice A' p.n c') (.bool true) b4 b5 b6 (by omega) (by omega) (by omega)
              have HB1 := below_three (hB.trans (hb2.mono hB.size)) (.int .u64 sp) (.slice A' p.n c') (.bool true) (g4 := w.heap.size + 1 + 1) (g5 := w.heap.size + 1 + 1 + 1) (g6 := w.heap.size + 1 + 1 + 1 + 1) (by omega) (by omega) (by omega)
              have ho1 := own_grown1 (own_grown1 (own_grown1 ho (grown_set _ (w.heap.size + 1 + 1) 0 (.int .u64 sp)) (own_apart ho b4 (by decide))) (grown_set _ (w.heap.size + 1 + 1 + 1) 0 (.slice A' p.n c')) (own_apart ho b5 (by decide))) (grown_set _ (w.heap.size + 1 + 1 + 1 + 1) 0 (.bool true)) (own_apart ho b6 (by decide))
              have HC : ConfX i t x ps N w.heap.size (pre ++ [m]) (((wg.setCell ⟨w.heap.size + 1 + 1, 0, none⟩ (.int .u64 sp)).setCell ⟨w.heap.size + 1 + 1 + 1, 0, none⟩ (.slice A' p.n c')).setCell ⟨w.heap.size + 1 + 1 + 1 + 1, 0, none⟩ (.bool true)) :=
                ⟨pre, m, p, A', c', rfl, HQ.out, hmN, by rw [show N - m - 1 = k by omega]; exact HP.out, h3, by rw [hk, HSQ.out]; exact hx, by rw [hk, HSQ.out]; exact r4, r5, r6, ho1⟩
              clear r4 r5 r6 ho1 ho
              gi_wp2
              have hz := hsz
              first | exact ⟨KF, ⟨rfl, HC⟩, HB1⟩ | (rw [hsz] at KF; exact ⟨KF, ⟨rfl, HC⟩, HB1⟩)
          · have hst := stay (by rw [HH.out]; simp [h3])
            gi_wp2
            first | exact hst.out | (have h := hst.out; rw [← hsz] at h; exact h)
        · have hst := stay (by rw [HH.out]; simp [hx])
          gi_wp2
          first | exact hst.out | (have h := hst.out; rw [← hsz] at h; exact h)
      · have hz : N - m = 0 := by omega
        have hst := stay (by unfold hitC; rw [hz])
        have hle : (N : Int) - m ≤ 0 := by omega
        generalize (N : Int) - m = y at *
        rw [hz] at c0
        simp only [hz]
        gi_wp2
        first | exact hst.out | (have h := hst.out; rw [← hsz] at h; exact h)
    case done =>
      rintro D ys W hD rfl ⟨⟨⟨b1, b2⟩, ⟨b3, b4⟩, ⟨b5, b6⟩, b7⟩, b8, hB⟩ hK
      have HF : Hid (confR i t x (es ps) = (0, [], false)) := by
        unfold Hid
        rw [HR.out]
        exact cfR_none fun j hj => b8 j (List.mem_range.2 (by omega))
      have f4 := b4.frozen 0
      have f5 := b5.frozen 0
      have f6 := b6.frozen 0
      have c4 := b4.cell 0
      have c5 := b5.cell 0
      have c6 := b6.cell 0
      simp at c4 c5 c6
      obtain ⟨r4, r5, r6⟩ := three (.int .u64 0) (.slice none 0 0) (.bool false) b4 b5 b6 (by omega) (by omega) (by omega)
      have HB1 := below_three hB (.int .u64 0) (.slice none 0 0) (.bool false) (g4 := w.heap.size + 1 + 1) (g5 := w.heap.size + 1 + 1 + 1) (g6 := w.heap.size + 1 + 1 + 1 + 1) (by omega) (by omega) (by omega)
      have hK' : (((W.setCell ⟨w.heap.size + 1 + 1, 0, none⟩ (.int .u64 0)).setCell ⟨w.heap.size + 1 + 1 + 1, 0, none⟩ (.slice none 0 0)).setCell ⟨w.heap.size + 1 + 1 + 1 + 1, 0, none⟩ (.bool false)).heap[D]? = some (.deferred (some [])) :=
        (Below.heap_setCell _ _ _ D (by show D ≠ w.heap.size + 1 + 1 + 1 + 1; omega)).trans ((Below.heap_setCell _ _ _ D (by show D ≠ w.heap.size + 1 + 1 + 1; omega)).trans ((Below.heap_setCell _ _ _ D (by show D ≠ w.heap.size + 1 + 1; omega)).trans hK))
      go_wp2
      refine ⟨by simp, .inl ⟨_, _, rfl, run_takeDeferred hK', ?_⟩⟩
      replace r4 := (r4.putObj (o' := .deferred none) hK' rfl).cell 0
      replace r5 := (r5.putObj (o' := .deferred none) hK' rfl).cell 0
      replace r6 := (r6.putObj (o' := .deferred none) hK' rfl).cell 0
      simp at r4 r5 r6
      refine ⟨_, by simp [results, Try.results36, go_sem, r4, r5, r6]; rfl, none, 0, 0, ?_, ?_, HB1.grown (grownBy_putObj' _ D _) (by have := hB.size; simpa using this) (fun k hk => by injection hk with hk; omega)⟩
      · rw [HF.out]
      · rw [HF.out]; exact World.ownsRow_nil _ _ _ _
    case stop =>
      rintro D c pre W hD ⟨m, hm, rfl⟩ ⟨⟨rfl, pre', m', p, A', c', h1, h2, h3, h4, h5, h6, b4, b5, b6, b7⟩, hB⟩ hK
      rw [List.range_succ] at h1
      obtain ⟨e1, e2⟩ := List.append_inj' h1 rfl
      injection e2 with e2
      subst e1 e2
      have HF : Hid (confR i t x (es ps) = ((spotN i t (es ps) (N - m)).1, p.e.D, true)) := by
        unfold Hid
        rw [HR.out]
        exact cfR_hit (e := p.e) h3 (by simp [es, h4]) h5 h6 fun j hj => h2 j (List.mem_range.2 hj)
      have r4 := (b4.putObj (o' := .deferred none) hK rfl).cell 0
      have r5 := (b5.putObj (o' := .deferred none) hK rfl).cell 0
      have r6 := (b6.putObj (o' := .deferred none) hK rfl).cell 0
      simp at r4 r5 r6
      have r7 := (show OwnFrom 0 (fun (_ : Unit) W => W.ownsRow w.heap.size 5 1 (.slice A' p.n c') p.n (ib .u8 p.e.D)) from Own.from (ownR_own _ _ _ _ _ _ _) 0).putObj (s := ()) (.deferred none) b7 (Nat.zero_le _) hK rfl
      refine (wpIn_wide (n := 8)).2 ?_
      go_wp2
      refine ⟨by simp, .inl ⟨_, _, rfl, run_takeDeferred hK, ?_⟩⟩
      refine ⟨_, by simp [results, Try.results36, go_sem, r4, r5, r6]; rfl, A', p.n, c', ?_, ?_, hB.grown (grownBy_putObj' _ D _) hB.size (fun k hk => by injection hk with hk; omega)⟩
      · rw [HF.out]
      · rw [HF.out]; exact r7
end Go.Proofs.Ytpckkajodpiiaaa

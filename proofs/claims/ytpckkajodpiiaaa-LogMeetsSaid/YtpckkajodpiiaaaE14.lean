/- The number of the spot of an index. No condition. -/
import Derived.Test.YtpckkajodpiiaaaE13
namespace Go.Proofs.Ytpckkajodpiiaaa
open Go.RowKit Go.Shelf
set_option linter.unusedVariables false
set_option linter.unusedSimpArgs false

attribute [local go_sem] Oper.semAt_some

/-- Is the m-th spot from the end on that of an index? -/
def hitB (i x : Int) (N m : Nat) : Bool := decide ((i + ((N - m : Nat) : Int)) % 18446744073709551616 = x)
def ofN (i x : Int) (N : Nat) : Int := match (List.range (N + 1)).find? (hitB i x N) with | some m => (N : Int) - m | none => -1

theorem seesE_own {β : Type} (e : Option TypeId) (A : Option Addr) (n : Nat) (ps : List EP) : Own (fun (_ : β) W => SeesE W e A n ps) := fun s X Y row hs hg hrow => by
  have key : ∀ {e' : Option TypeId} {s' n' : Nat} {A' : Option Addr} {xs : List Value}, Sees X e' s' A' n' xs → Sees Y e' s' A' n' xs := fun h => h.grown hg fun ad ha h0 e => by
    obtain ⟨o, ho, hw⟩ := hrow _ e
    obtain ⟨cur, t, fz, hc, _⟩ := (h.2.2 ad ha).1 h0
    rw [hc] at ho
    cases ho
    cases hw
  exact ⟨key hs.1, fun p hp => ⟨key (hs.2 p hp).sees, (hs.2 p hp).nc, (hs.2 p hp).small, (hs.2 p hp).t0, (hs.2 p hp).t1⟩⟩

theorem blkL_own {β : Type} (g : Nat) (t : TypeId) (cs : β → Array Value) : Own (fun (s : β) W => Blk W g t (cs s)) := fun s X Y row hs hg hrow => by
  refine Blk.grown hs hg (fun e => ?_)
  obtain ⟨o, ho, hw⟩ := hrow _ e
  unfold Blk at hs
  rw [hs] at ho
  cases ho
  cases hw

set_option maxRecDepth 100000 in
set_option maxHeartbeats 4000000 in
theorem of_any {e2 : Option TypeId} (i t : Int) (A : Option Addr) (N c : Nat) (ps : List EP) (x : Int) (w : World) (hs : SeesE w e2 A N ps) (hN : N ≤ 1000000000) (hi0 : 0 ≤ i) (hi1 : i < 18446744073709551616) :
    Calls Try.prog 50 #[logV i t A N c, .int .u64 x] w fun e w' => e = .returned (.int .i64 (ofN i x N)) ∧ Below w.heap.size w w' := by
  have HSP := fun w => spots_any i t A N c w
  unfold logV at HSP ⊢
  refine (callsIn_wide (n := 8)).1 ?_
  refine callsIn_of_wp_marks Try.func50 rfl trivial ?_ rfl
  simp only [Try.ntmps50, List.size_toArray, List.length_cons, List.length_nil, Nat.reduceAdd, Nat.reduceSub, Array.replicate_succ, Array.replicate_zero, List.push_toArray, List.append_toArray, List.nil_append, List.cons_append]
  refine wpIn_wide.2 ?_
  go_wp2_with fail
  refine (HSP _).mono ?_
  rintro e W0 ⟨rfl, hW0⟩
  clear HSP
  have hs0 := (((hs.alloc (.cells #[.int .u64 i, .int .u64 t, .slice A N c] 79)).alloc (.cells #[.int .u64 x] 22)).alloc (.cells #[.int .i64 0] 3)).alloc (.cells #[.int .u64 i, .int .u64 t, .slice A N c] 79)
  have HB0 := ((((Below.refl _ w).alloc (Nat.le_refl _) (.cells #[.int .u64 i, .int .u64 t, .slice A N c] 79)).alloc (by simp) (.cells #[.int .u64 x] 22)).alloc (by simp; omega) (.cells #[.int .i64 0] 3)).alloc (by simp; omega) (.cells #[.int .u64 i, .int .u64 t, .slice A N c] 79)
  have bX := ((Blk.new (w.alloc (.cells #[.int .u64 i, .int .u64 t, .slice A N c] 79)) 22 #[.int .u64 x]).alloc (.cells #[.int .i64 0] 3)).alloc (.cells #[.int .u64 i, .int .u64 t, .slice A N c] 79)
  have bR := (Blk.new ((w.alloc (.cells #[.int .u64 i, .int .u64 t, .slice A N c] 79)).alloc (.cells #[.int .u64 x] 22)) 3 #[.int .i64 0]).alloc (.cells #[.int .u64 i, .int .u64 t, .slice A N c] 79)
  have bL := Blk.new (((w.alloc (.cells #[.int .u64 i, .int .u64 t, .slice A N c] 79)).alloc (.cells #[.int .u64 x] 22)).alloc (.cells #[.int .i64 0] 3)) 79 #[.int .u64 i, .int .u64 t, .slice A N c]
  simp only [World.size_alloc] at bX bR bL
  rw [← hW0] at hs0 HB0 bX bR bL
  simp only [World.size_alloc]
  clear hW0
  have hgL := bL.lt
  go_wp2_with fail
  refine (wpIn_wide (n := 8)).1 ?_
  refine wpIn_rangeFunc_ownH rfl (by omega) (gf := 71) (lb := #[.pointer (some ⟨w.heap.size + 1 + 1 + 1, 0, none⟩)]) rfl trivial (enters_of Try.func71 (by kernel_rfl) rfl)
    (spots_stops 7 (by omega) (w.heap.size + 1 + 1 + 1) i t A N c ps hN hi0 hi1 W0 ⟨bL, hs0⟩) keepL_t keepL_b (Below.refl _ _) (fun _ => rfl)
    (fun pre W => ((Blk W (w.heap.size + 1 + 1 + 1) 79 #[.int .u64 i, .int .u64 t, .slice A N c] ∧ SeesE W e2 A N ps) ∧ (Blk W (w.heap.size + 1) 22 #[.int .u64 x] ∧ Blk W (w.heap.size + 1 + 1) 3 #[.int .i64 0])) ∧ ((∀ m ∈ pre, hitB i x N m = false) ∧ Below w.heap.size w W))
    (fun c pre W => (c = Code.ret ∧ ∃ pre' m, pre = pre' ++ [m] ∧ (∀ m ∈ pre', hitB i x N m = false) ∧ hitB i x N m = true ∧ Blk W (w.heap.size + 1 + 1) 3 #[.int .i64 ((N : Int) - m)]) ∧ Below w.heap.size w W)
    (OwnFrom.and (OwnFrom.and (OwnFrom.and (Own.from (blkL_own _ _ (fun _ => _)) _) (Own.from (seesE_own _ _ _ _) _)) (OwnFrom.and (Own.from (blkL_own _ _ (fun _ => _)) _) (Own.from (blkL_own _ _ (fun _ => _)) _))) (OwnFrom.and (ownFrom_pure _ _) (ownFrom_below (by omega) (by omega))))
    ?own2 ⟨⟨⟨bL, hs0⟩, bX, bR⟩, by simp, HB0⟩
    (fun m a' W => ∃ Bx, Blk W Bx 24 #[.int .u64 (spotN i t (es ps) (N - m)).1, .int .u64 (spotN i t (es ps) (N - m)).2] ∧ a' = { tmps := #[.agg #[.int .u64 i, .int .u64 t, .slice A N c], .int .u64 x, .pointer (some ⟨w.heap.size, 0, none⟩), .pointer (some ⟨w.heap.size + 1, 0, none⟩), .pointer (some ⟨w.heap.size + 1 + 1, 0, none⟩), .int .i64 ((N : Int) - m), .pointer (some ⟨Bx, 0, none⟩), .agg #[.int .u64 i, .int .u64 t, .slice A N c], .func (.func 71) #[] #[.pointer (some ⟨w.heap.size + 1 + 1 + 1, 0, none⟩)], .int .i64 ((N : Int) - m), atV (spotN i t (es ps) (N - m)), undef, undef, undef, undef, undef], defers := [] })
    (fun m a' _ X Y row hs hg hr => by obtain ⟨Bx, h1, h2⟩ := hs; exact ⟨Bx, blkL_own Bx 24 (fun (_ : Unit) => _) () X Y row h1 hg (fun r e => (hr r e).2), h2⟩)
    ?assign ?body ?done ?stop
  case own2 =>
    intro c s X Y row hs hg hr
    obtain ⟨⟨hc, pre', m, h1, h2, h3, h4⟩, hB⟩ := hs
    exact ⟨⟨hc, pre', m, h1, h2, h3, blkL_own _ _ (fun (_ : Unit) => _) () X Y row h4 hg (fun r e => (hr r e).2)⟩, (show OwnFrom W0.heap.size (fun (_ : Unit) W => Below w.heap.size w W) from ownFrom_below (by omega) (by omega)) () X Y row hB hg hr⟩
  case assign =>
    rintro l pre m W K ⟨⟨⟨b1, b2⟩, b3, b4⟩, b5, hB⟩ hK
    simp only [spotEnc, atV]
    gi_wp2
    exact hK _ _ ((KeepsOthers.alloc _ _).from _) (fun h => ⟨h.1.alloc _, h.2.alloc _⟩) ⟨⟨⟨b1.alloc _, b2.alloc _⟩, b3.alloc _, b4.alloc _⟩, b5, hB.alloc hB.size _⟩ ⟨W.heap.size, Blk.new _ _ _, rfl⟩
  case body =>
    rintro l pre m a' W hl - ⟨⟨⟨b1, b2⟩, b3, b4⟩, b5, hB⟩ ⟨Bx, bx, rfl⟩ hlt
    have c0 := bx.cell 0
    have cx := b3.cell 0
    have c4 := b4.cell 0
    have f4 := b4.frozen 0
    simp at c0 cx c4
    cases hh : hitB i x N m with
    | false =>
      have hq : ((spotN i t (es ps) (N - m)).1 == x) = false := hh
      have HH := Lib.hid hh
      clear hh
      gi_wp2
      exact ⟨KeepsFrom.refl _ _, fun h => h, ⟨⟨b1, b2⟩, b3, b4⟩, fun y hy => by rcases List.mem_append.1 hy with hy | hy; exact b5 y hy; rw [List.mem_singleton.1 hy]; exact HH.out, hB⟩
    | true =>
      have hq : ((spotN i t (es ps) (N - m)).1 == x) = true := hh
      have HH := Lib.hid hh
      clear hh
      gi_wp2
      exact ⟨(KeepsOthers.setCell _ _ _).from _, ⟨rfl, pre, m, rfl, b5, HH.out, b4.put 0 _⟩, hB.setCell (by simp; omega) _⟩
  case done =>
    rintro D ys W hD rfl ⟨⟨⟨b1, b2⟩, b3, b4⟩, b5, hB⟩ hK
    have HF : Hid (ofN i x N = -1) := by unfold Hid ofN; rw [List.find?_eq_none.2 (fun m hm => by rw [b5 m hm]; simp)]
    have c4 := b4.cell 0
    have f4 := b4.frozen 0
    simp at c4
    have hK' : (W.setCell ⟨w.heap.size + 1 + 1, 0, none⟩ (.int .i64 (-1))).heap[D]? = some (.deferred (some [])) := (Below.heap_setCell W _ _ D (by show D ≠ w.heap.size + 1 + 1; omega)).trans hK
    go_wp2
    refine ⟨by simp, .inl ⟨_, _, rfl, run_takeDeferred hK', ?_⟩⟩
    have r := (b4.put 0 (.int .i64 (-1))).putObj (o' := .deferred none) hK' rfl
    have r0 := r.cell 0
    simp at r0
    refine ⟨_, by simp [results, Try.results50, go_sem, r0]; rfl, ?_⟩
    exact ⟨(congrArg (fun b => Ending.returned (.int .i64 b)) HF.out).symm, (hB.setCell (p := ⟨w.heap.size + 1 + 1, 0, none⟩) (by show w.heap.size ≤ w.heap.size + 1 + 1; omega) _).grown (grownBy_putObj' _ D _) (by have := hB.size; simpa using this) (fun k hk => by injection hk with hk; omega)⟩
  case stop =>
    rintro D c pre W hD ⟨m, hm, rfl⟩ ⟨⟨rfl, pre', m', h1, h2, h3, h4⟩, hB⟩ hK
    rw [List.range_succ] at h1
    obtain ⟨e1, e2⟩ := List.append_inj' h1 rfl
    injection e2 with e2
    subst e1 e2
    have HF : Hid (ofN i x N = (N : Int) - m) := by
      unfold Hid ofN
      have : (List.range (N + 1)).find? (hitB i x N) = some m := by
        rw [List.find?_eq_some_iff_append]
        refine ⟨h3, List.range m, (List.range (N + 1)).drop (m + 1), ?_, fun y hy => by rw [h2 y hy]; rfl⟩
        have h := (List.take_append_drop (m + 1) (List.range (N + 1))).symm
        rw [List.take_range, show min (m + 1) (N + 1) = m + 1 by omega, show List.range (m + 1) = List.range m ++ [m] from List.range_succ, List.append_assoc] at h
        exact h
      rw [this]
    have r := h4.putObj (o' := .deferred none) hK rfl
    have r0 := r.cell 0
    simp at r0
    refine (wpIn_wide (n := 8)).2 ?_
    go_wp2
    refine ⟨by simp, .inl ⟨_, _, rfl, run_takeDeferred hK, ?_⟩⟩
    refine ⟨_, by simp [results, Try.results50, go_sem, r0]; rfl, ?_⟩
    exact ⟨(congrArg (fun b => Ending.returned (.int .i64 b)) HF.out).symm, hB.grown (grownBy_putObj' _ D _) hB.size (fun k hk => by injection hk with hk; omega)⟩
end Go.Proofs.Ytpckkajodpiiaaa

/- Calls that write numbers over numbers in what was made behind a mark: what is left known. No condition. -/
import Derived.Test.YtmhmldpccccjbaaU8
namespace Go.Proofs.Ytmhmldpccccjbaa
open Go.RowKit
set_option linter.unusedVariables false
set_option linter.unusedSimpArgs false

/-- A cell holds some number. -/
def ICell (w : World) (a : Addr) (k : IntKind) : Prop := ∃ x, w.cell? a = some (.int k x)
theorem ICell.set {w : World} {a q : Addr} {k k' : IntKind} (h : ICell w a k) (hq : ICell w q k') (y : Int) : ICell (w.setCell q (.int k' y)) a k := by
  obtain ⟨x, hx⟩ := h
  obtain ⟨z, hz⟩ := hq
  by_cases e : q = a
  · subst e
    rw [hx] at hz
    injection hz with hz
    injection hz with h1 h2
    subst h1
    exact ⟨y, World.cell?_setCell_same w q _ hx⟩
  · exact ⟨x, (World.cell?_setCell_other w q a _ e).trans hx⟩
theorem cell_set {w : World} {a q : Addr} {k' : IntKind} {A : Option Addr} {n c : Nat} (h : w.cell? a = some (.slice A n c)) (hq : ICell w q k') (y : Int) : (w.setCell q (.int k' y)).cell? a = some (.slice A n c) := by
  obtain ⟨z, hz⟩ := hq
  by_cases e : q = a
  · subst e
    rw [h] at hz
    cases hz
  · exact (World.cell?_setCell_other w q a _ e).trans h
theorem Unf.set {w : World} {k : Nat} (h : Unf w k) (q : Addr) (u : Value) : Unf (w.setCell q u) k := by
  obtain ⟨cur, ty, h⟩ := h
  by_cases e : k = q.block
  · subst e
    refine ⟨if q.spot.isSome then cur else cur.setIfInBounds q.off u, ty, ?_⟩
    unfold World.setCell
    simp only [Array.getElem?_modify, if_true, h, Option.map_some]
  · exact ⟨cur, ty, by rw [Below.heap_setCell w q u k e]; exact h⟩
theorem Unf.frozen {w : World} {a : Addr} (h : Unf w a.block) : w.frozen? a = false := by
  obtain ⟨cur, ty, h⟩ := h
  unfold World.frozen?
  rw [h]
  simp
theorem ICell.grow {w w' : World} {a : Addr} {k : IntKind} (h : ICell w a k) (hb : Below w.heap.size w w') : ICell w' a k := by
  obtain ⟨x, hx⟩ := h
  exact ⟨x, (hb.cell (World.block_lt_of_cell? w a hx)).trans hx⟩
theorem Unf.lt_ {w : World} {k : Nat} (h : Unf w k) : k < w.heap.size := by
  obtain ⟨cur, ty, h⟩ := h
  exact (Array.getElem?_eq_some_iff.1 h).1
theorem Unf.grow {w w' : World} {k : Nat} (h : Unf w k) (hb : Below w.heap.size w w') : Unf w' k := by
  unfold Unf
  rw [hb.block k h.lt_]
  exact h
/-- Numbers are written over numbers, and nothing else, in what was made behind a mark. -/
structure Shp (M : Nat) (w w' : World) : Prop where
  below : Below M w w'
  oth : Oth w w'
  cell : ∀ a v, w.cell? a = some v → w'.cell? a = some v ∨ ∃ k x y, v = .int k x ∧ w'.cell? a = some (.int k y)
  unf : ∀ k, Unf w k → Unf w' k
theorem Shp.refl (M : Nat) (w : World) : Shp M w w := ⟨Below.refl _ _, Oth.refl _, fun _ _ h => .inl h, fun _ h => h⟩
theorem Shp.grow {M : Nat} {w w' w2 : World} (h : Shp M w w') (hM : M ≤ w'.heap.size) (hb : Below w'.heap.size w' w2) : Shp M w w2 where
  below := h.below.trans (hb.mono hM)
  oth := h.oth.trans (.below hb)
  cell a v hv := by
    have key : ∀ u, w'.cell? a = some u → w2.cell? a = some u := fun u hu => (hb.cell (World.block_lt_of_cell? w' a hu)).trans hu
    rcases h.cell a v hv with h1 | ⟨k, x, y, h1, h2⟩
    · exact .inl (key _ h1)
    · exact .inr ⟨k, x, y, h1, key _ h2⟩
  unf k hk := (h.unf k hk).grow hb
theorem Shp.set {M : Nat} {w w' : World} (h : Shp M w w') {q : Addr} (hq : M ≤ q.block) {k : IntKind} (hc : ICell w' q k) (y : Int) : Shp M w (w'.setCell q (.int k y)) where
  below := h.below.setCell hq _
  oth := h.oth.trans (.setCell _ _ _)
  cell a v hv := by
    obtain ⟨z, hz⟩ := hc
    by_cases e : q = a
    · subst e
      rcases h.cell q v hv with h1 | ⟨k', x, y', h1, h2⟩
      · rw [hz] at h1
        injection h1 with h1
        exact .inr ⟨k, z, y, h1.symm, World.cell?_setCell_same w' q _ hz⟩
      · rw [hz] at h2
        injection h2 with h2
        injection h2 with h2 h3
        subst h2
        exact .inr ⟨k, x, y, h1, World.cell?_setCell_same w' q _ hz⟩
    · rcases h.cell a v hv with h1 | ⟨k', x, y', h1, h2⟩
      · exact .inl ((World.cell?_setCell_other w' q a _ e).trans h1)
      · exact .inr ⟨k', x, y', h1, (World.cell?_setCell_other w' q a _ e).trans h2⟩
  unf k' hk := (h.unf k' hk).set q _
/-- A function that writes numbers over numbers in what was made behind a mark. -/
def SpB (P : Program) (f : FuncId) (ts : List TV) : Prop := entB P f = true ∧ ∀ (C : Cx) (vals : List Value), C.B ≤ C.w.heap.size → DnL C ts vals → Calls P f vals.toArray C.w fun e w' => e = .returned (.tuple #[]) ∧ Shp C.B C.w w'
theorem SpB.sp {P : Program} {f : FuncId} {ts : List TV} (h : SpB P f ts) : SpM P f ts := ⟨h.1, fun C vals hB hd => (h.2 C vals hB hd).mono fun e w' hh => ⟨hh.1, ⟨hh.2.below, hh.2.oth⟩⟩⟩
section
variable {P : Program} {B : Nat} {w0 : World} {T : Tab} {n : Nat} {e : Env} {h : List XLB} {gs : Frames} {K : XQ} {c : Code}
/-- Nothing is known of local blocks any more. -/
theorem XT.clear (hx : forceE (mapE (lowX 0) e) fun e' => XT P B w0 n c e' [] (mapG (lowX 0) gs) K) : XT P B w0 n c e h gs K := ⟨fun gh Q hq => by
  have hx := forceE_ok (k := fun e' => XT P B w0 n c e' [] (mapG (lowX 0) gs) K) hx
  refine TW.le (hx.ok gh Q hq) ?_
  have key : ∀ (m : Nat) (e : Env), toL m (mapE (lowX 0) e) = kpL (low 0) (toL m e) := fun m e => by
    rw [kpL_map]
    simp only [toL, List.map_map]
    exact List.map_congr_left fun d _ => by simp only [Function.comp, look_map (f := lowX 0) rfl, lowX_den]
  have key2 : ∀ gs : Frames, denG (mapG (lowX 0) gs) = kpL (low 0) (denG gs) := by
    intro gs
    induction gs with
    | nil => rfl
    | cons f r ih => simp only [mapG, denG, key, ih, kpL_map, List.map_append]
  have lr : ∀ l : List TV, LeL l l := fun l => leL_of rfl fun i t t' h1 h2 => by rw [h1] at h2; injection h2 with h2; exact .inr (.inl h2)
  refine SLe.back (σ := xst n e h gs) 0 ?_ (by simp [xst, LeB]) ?_
  · show LeL _ (toL n (mapE (lowX 0) e))
    rw [key]; exact lr _
  · show LeL _ (denG (mapG (lowX 0) gs))
    rw [key2]; exact lr _⟩
def keepE (e : Env) : List Nat → Env
  | [] => []
  | k :: r => (k, lowX 0 (look e k)) :: keepE e r
end
end Go.Proofs.Ytmhmldpccccjbaa

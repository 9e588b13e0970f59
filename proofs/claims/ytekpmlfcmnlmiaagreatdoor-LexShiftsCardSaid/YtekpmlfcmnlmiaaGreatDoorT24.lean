/- What a function that ranges over a function makes. No condition. -/
import Derived.Test.YtekpmlfcmnlmiaaGreatDoorT18
namespace Go.Proofs.YtekpmlfcmnlmiaaGreatDoor
open Go.RowKit
set_option linter.unusedVariables false
set_option linter.unusedSimpArgs false

/-- What a turn of blocks that are no cells keeps. -/
structure KeepsC (C C' : Cx) : Prop where
  blk : ∀ k, C.S k → k < C.w.heap.size → C'.S k ∧ k < C'.w.heap.size
  cel : ∀ (k : Nat) (cs : Array Value) (ty : TypeId) (fr : Nat × Nat), C.w.heap[k]? = some (Obj.cells cs ty fr) → C'.w.heap[k]? = some (Obj.cells cs ty fr)
  base : C'.B ≤ C.B
  loc : ∀ i, C.pres i → C'.pres i ∧ C'.ρ i = C.ρ i
  own : ∀ u e sz n xs, C.ow u e sz n xs → C'.ow u e sz n xs
theorem KeepsC.cell {C C' : Cx} (K : KeepsC C C') {a : Addr} {x : Value} (h : C.w.cell? a = some x) : C'.w.cell? a = some x := by
  cases hb : C.w.heap[a.block]? with
  | none => simp [World.cell?, hb] at h
  | some o =>
    cases o with
    | cells cs ty fr => exact cell_keep (by rw [hb]; exact K.cel _ _ _ _ hb) h
    | _ => simp [World.cell?, hb] at h
mutual
theorem Dn.turn {C C' : Cx} (K : KeepsC C C') : ∀ (t : TV) (u : Value), Dn C t u → Dn C' t u
  | .any, _, _ => by simp [Dn]
  | .v x, u, h => by simp only [Dn] at h ⊢; exact h
  | .nil_, u, h => by simp only [Dn] at h ⊢; exact h
  | .agg ts, u, h => by
    simp only [Dn] at h ⊢
    obtain ⟨vs, h1, h2⟩ := h
    exact ⟨vs, h1, DnL.turn K ts vs h2⟩
  | .tup ts, u, h => by
    simp only [Dn] at h ⊢
    obtain ⟨vs, h1, h2⟩ := h
    exact ⟨vs, h1, DnL.turn K ts vs h2⟩
  | .fn f ts, u, h => by
    simp only [Dn] at h ⊢
    obtain ⟨vs, h1, h2⟩ := h
    exact ⟨vs, h1, DnL.turn K ts vs h2⟩
  | .ptr i off, u, h => by
    simp only [Dn] at h ⊢
    obtain ⟨h1, g, h2, h3⟩ := h
    exact ⟨(K.loc i h1).1, g, by rw [(K.loc i h1).2]; exact h2, h3⟩
  | .row i, u, h => by
    simp only [Dn] at h ⊢
    exact ⟨(K.loc i h.1).1, by rw [(K.loc i h.1).2]; exact h.2⟩
  | .sl b els, u, h => by
    simp only [Dn] at h ⊢
    obtain ⟨A, c, css, sz, h1, h2, h3, h4, h5, h6, h7⟩ := h
    refine ⟨A, c, css, sz, h1, h2, h3, h4, h5, DnLL.turn K els css h6, fun ad ha => ?_⟩
    obtain ⟨h8, h9⟩ := h7 ad ha
    refine ⟨fun hne => ?_, fun j x hx => K.cell (h9 j x hx)⟩
    obtain ⟨h10, h11, h12⟩ := h8 hne
    obtain ⟨h14, h15⟩ := K.blk _ h10 h11
    refine ⟨h14, h15, fun hb => ⟨Nat.le_trans K.base (h12 hb).1, ?_⟩⟩
    obtain ⟨cur, ty, h16⟩ := (h12 hb).2
    exact ⟨cur, ty, K.cel _ _ _ _ h16⟩
  | .eptr ts, u, h => by
    simp only [Dn] at h ⊢
    obtain ⟨ad, vs, h1, h2, h3, h4, h5⟩ := h
    obtain ⟨h14, h15⟩ := K.blk _ h2 h3
    exact ⟨ad, vs, h1, h14, h15, DnL.turn K ts vs h4, fun j x hx => K.cell (h5 j x hx)⟩
  | .osl e sz els, u, h => by
    simp only [Dn] at h ⊢
    obtain ⟨A, c, css, h1, h2, h3, h4⟩ := h
    exact ⟨A, c, css, h1, K.own _ _ _ _ _ h2, h3, DnLL.turn K els css h4⟩
theorem DnL.turn {C C' : Cx} (K : KeepsC C C') : ∀ (ts : List TV) (us : List Value), DnL C ts us → DnL C' ts us
  | [], us, h => by simp only [DnL] at h ⊢; exact h
  | t :: ts, us, h => by
    simp only [DnL] at h ⊢
    obtain ⟨u, us', h1, h2, h3⟩ := h
    exact ⟨u, us', h1, Dn.turn K t u h2, DnL.turn K ts us' h3⟩
theorem DnLL.turn {C C' : Cx} (K : KeepsC C C') : ∀ (ts : List (List TV)) (us : List (List Value)), DnLL C ts us → DnLL C' ts us
  | [], us, h => by simp only [DnLL] at h ⊢; exact h
  | t :: ts, us, h => by
    simp only [DnLL] at h ⊢
    obtain ⟨u, us', h1, h2, h3⟩ := h
    exact ⟨u, us', h1, DnL.turn K t u h2, DnLL.turn K ts us' h3⟩
end
section
variable {B : Nat} {w0 w w' : World} {ρ : Nat → Value} {h : Nat → LB}
theorem KeepsC.of_grown {row : Option Nat} (hg : w.grownBy w' row) (hr : ∀ r, row = some r → ∃ o : Obj, w.heap[r]? = some o ∧ o.isCells = false) : KeepsC (cxOf B ρ h w) (cxOf B ρ h w') where
  blk k hS hk := ⟨hS, Nat.lt_of_lt_of_le hk hg.size⟩
  cel k cs ty fr hk := (hg.block k (Array.getElem?_eq_some_iff.1 hk).1 fun e => by
    obtain ⟨o, h1, h2⟩ := hr k e.symm
    have hk' : w.heap[k]? = some (.cells cs ty fr) := hk
    rw [hk'] at h1
    injection h1 with h1
    subst h1
    cases h2).trans hk
  base := Nat.le_refl _
  loc i hi := ⟨hi, rfl⟩
  own _ _ _ _ _ ho := ho
/-- What is told stays told where a block that is no cells turns, and was made since w0. -/
theorem Rel.turn (R : Rel B w0 ρ h w) {row : Option Nat} (hg : w.grownBy w' row) (hr : ∀ r, row = some r → w0.heap.size ≤ r ∧ B ≤ r ∧ ∃ o : Obj, w.heap[r]? = some o ∧ o.isCells = false) : Rel B w0 ρ h w' where
  below := R.below.trans ⟨hg.os, hg.tape, hg.output, hg.size, fun k hk => hg.block k (Nat.lt_of_lt_of_le hk R.size) fun e => by have := (hr k e.symm).2.1; omega⟩
  gl0 := R.gl0
  size := Nat.le_trans R.size hg.size
  blk i t cs hi := by
    obtain ⟨g, vs, h1, h2, h3, h4⟩ := R.blk i t cs hi
    exact ⟨g, vs, h1, (KeepsC.of_grown (B := B) (ρ := ρ) (h := h) hg fun r e => (hr r e).2.2).cel _ _ _ _ h2, h3, DnL.turn (.of_grown hg fun r e => (hr r e).2.2) _ _ h4⟩
  row i e sz els hi := by
    obtain ⟨A, c, css, h1, h2, h3, h4⟩ := R.row i e sz els hi
    refine ⟨A, c, css, h1, ?_, h3, DnLL.turn (.of_grown hg fun r e => (hr r e).2.2) _ _ h4⟩
    rw [h1] at h2 ⊢
    rcases A with _ | ad
    · exact h2.kept hg (.inl rfl)
    · refine h2.kept hg (.inr fun e => ?_)
      obtain ⟨o, h5, h6⟩ := (hr ad.block e.symm).2.2
      rcases h2.2 with ⟨hv, _⟩ | ⟨g, cap, cur, hv, _, h7, _⟩
      · cases hv
      · injection hv with hA
        injection hA with hA
        subst hA
        have h7' : w.heap[g]? = _ := h7
        rw [h5] at h7'
        injection h7' with h7'
        subst h7'
        cases h6
  sep := R.sep
  inj i g hi hgi := Nat.lt_of_lt_of_le (R.inj i g hi hgi) hg.size
  oth k o hk ho := (hg.block k (Array.getElem?_eq_some_iff.1 (R.oth k o hk ho)).1 fun e => by
    have h1 := (hr k e.symm).1
    have h2 := (Array.getElem?_eq_some_iff.1 hk).1
    omega).trans (R.oth k o hk ho)
/-- The same told from a world in between. -/
theorem Rel.rebase (R : Rel B w0 ρ h w) : Rel B w ρ h w where
  below := Below.refl _ _
  gl0 := ⟨fun g vs hg => by
      obtain ⟨h1, h2⟩ := R.gl0.at_ g vs hg
      exact ⟨h1, fun j x hx => cell_keep (a := ⟨g, j, none⟩) (R.below.block g h1) (h2 j x hx)⟩,
    fun g cs hg => by
      obtain ⟨h1, ty, fr, h2⟩ := R.gl0.obj g cs hg
      exact ⟨h1, ty, fr, (R.below.block g h1).trans h2⟩,
    fun g hg => by
      obtain ⟨h1, v, h2, h3⟩ := R.gl0.ifc g hg
      exact ⟨h1, v, cell_keep (a := ⟨g, 0, none⟩) (R.below.block g h1) h2, h3⟩⟩
  size := R.size
  blk := R.blk
  row := R.row
  sep := R.sep
  inj := R.inj
  oth := Oth.refl _
theorem Rel.back {ρ2 : Nat → Value} {h2 : Nat → LB} (R0 : Rel B w0 ρ h w) (R : Rel B w ρ2 h2 w') : Rel B w0 ρ2 h2 w' where
  below := R0.below.trans R.below
  gl0 := R0.gl0
  size := R.size
  blk := R.blk
  row := R.row
  sep := R.sep
  inj := R.inj
  oth := R0.oth.trans R.oth
variable {gh : List Value} {σ σ2 : St} {a a2 : Act} {ρ2 : Nat → Value}
theorem RelS.turn (R : RelS B w0 gh ρ σ a w) {row : Option Nat} (hg : w.grownBy w' row) (hr : ∀ r, row = some r → w0.heap.size ≤ r ∧ B ≤ r ∧ ∃ o : Obj, w.heap[r]? = some o ∧ o.isCells = false) : RelS B w0 gh ρ σ a w' :=
  ⟨DnL.turn (.of_grown hg fun r e => (hr r e).2.2) _ _ R.slots, DnL.turn (.of_grown hg fun r e => (hr r e).2.2) _ _ R.ghost, R.rel.turn hg hr, R.defers⟩
theorem RelS.rebase (R : RelS B w0 gh ρ σ a w) : RelS B w gh ρ σ a w := ⟨R.slots, R.ghost, R.rel.rebase, R.defers⟩
theorem RelS.back {gh2 : List Value} (R0 : RelS B w0 gh ρ σ a w) (R : RelS B w gh2 ρ2 σ2 a2 w') : RelS B w0 gh2 ρ2 σ2 a2 w' := ⟨R.slots, R.ghost, R0.rel.back R.rel, R.defers⟩
end

theorem keepsFrom_oth {B : Nat} {W W' : World} (hs : W.heap.size ≤ W'.heap.size) (h : Oth W W') : KeepsFrom B W W' := ⟨hs, fun k o _ hk ho => h k o hk (by cases o <;> simp_all [Obj.isCells, noCells])⟩

section
variable {P : Program}
/-- A range over a function, where what is assigned and the body are walked in one. -/
theorem wpIn_range {α : Type} {g : Operand} {ps : Array Tmp} {assign body : Code} {Q : Exit → Act → World → Prop} {a : Act} {w : World} {gf : Nat} {lb : Array Value}
    (hg : a.eval g = .func (.func gf) #[] lb) (eg : ∀ args w, (callFunc gf args).run P w = .ok (.enter gf args) w)
    {encs : α → Array Value} {Kp : World → World → Prop} {S Sp : List α → Prop} {N : Nat} (hseq : SeqStopsK Fence.wide 7 P gf lb encs Kp S Sp N w)
    (hKt : ∀ {A B C : World}, Kp A B → Kp B C → Kp A C) (hKb : ∀ (W : World) (l : Nat) (o o' : Obj), W.heap[l]? = some o → o.isCells = false → Kp W (W.putObj l o')) (hps : ∀ x, (encs x).size = ps.size)
    (I : List α → World → Prop) (Ix : Code → List α → World → Prop) (hI : OwnFrom w.heap.size I) (hIx : ∀ c, OwnFrom w.heap.size (Ix c)) (h0 : I [] w)
    (hround : ∀ (l : Nat) (pre : List α) (x : α) (W : World), w.heap.size ≤ l → I pre W → pre.length < N →
      assign.wpIn (FR l) 6 P (Exit.then (fun a' Wa => KeepsFrom w.heap.size W Wa ∧ Kp W Wa ∧ ∀ o o' : Obj, Wa.heap[l]? = some o → o.isCells = false →
        body.wpIn (FR l) 6 P (ownPostG w.heap.size Kp I Ix (pre ++ [x]) (Wa.putObj l o')) a' (Wa.putObj l o')) (fun _ _ _ => False)) { tmps := (ps.zip (encs x)).foldl (fun t (p, v) => t.setIfInBounds p v) a.tmps, defers := [] } W)
    (hdone : ∀ (D : Nat) (xs : List α) (W : World), w.heap.size ≤ D → S xs → I xs W → W.heap[D]? = some (.deferred (some [])) → Q .normal { a with defers := { target := .collected D, args := #[] } :: a.defers } W)
    (hstop : ∀ (D : Nat) (c : Code) (pre : List α) (W : World), w.heap.size ≤ D → Sp pre → Ix c pre W → W.heap[D]? = some (.deferred (some [])) → c.wpIn Fence.wide 8 P Q { a with defers := { target := .collected D, args := #[] } :: a.defers } W) :
    (Code.rangeFunc g ps assign body).wpIn Fence.wide 8 P Q a w := by
  refine wpIn_rangeFunc fun fn hfn => ?_
  rw [show Fence.wide.round = none from rfl]
  obtain ⟨rec, hrec⟩ : ∃ rec : LoopState → Option Code → Loop, rec = fun st pe => { state := st, pending := pe, fn, tmps := a.tmps, params := ps, assign, body, defers := w.heap.size } := ⟨_, rfl⟩
  obtain ⟨D, hD⟩ : ∃ D, w.heap.size = D := ⟨_, rfl⟩
  obtain ⟨W1, hW1⟩ : ∃ W1, (w.alloc (.deferred (some []))).alloc (.loop (rec .ready none)) = W1 := ⟨_, rfl⟩
  have hL1 : W1.heap[D + 1]? = some (.loop (rec .ready none)) := by
    rw [← hW1, ← hD]
    have := World.alloc_heap_new (w.alloc (.deferred (some []))) (.loop (rec .ready none))
    rwa [World.size_alloc] at this
  have hK1 : W1.heap[D]? = some (.deferred (some [])) := by
    rw [← hW1, ← hD]
    exact (Below.heap_alloc _ _ _ (by simp)).trans (World.alloc_heap_new w _)
  have hI1 : I [] W1 := by rw [← hW1]; exact hI.alloc _ (hI.alloc _ h0)
  have hb1 : Below w.heap.size w W1 := by rw [← hW1]; exact ((Below.refl _ w).alloc (Nat.le_refl _) _).alloc (by simp) _
  have hs1 : D + 2 ≤ W1.heap.size := by rw [← hW1, ← hD]; simp
  refine ⟨D + 1, [{ target := .collected D, args := #[] }], W1, { target := .fn (.func gf) lb, args := #[.func (.yield (D + 1)) #[] #[]] }, W1, gf, #[.func (.yield (D + 1)) #[] #[]] ++ lb, W1, ?_, ?_, fun _ _ => trivial, ?_, fun e => (by cases e), ?_⟩
  · rw [← hW1, hrec, ← hD]; exact run_enterLoop_outer _ _ _ _ _
  · simp only [resolve, hg]
    simp [go_sem]
  · simp [invoke, go_sem, eg]
  · have turn : ∀ {A B : World} {row : Option Nat}, (∀ r, row = some r → W1.heap.size ≤ r ∧ ∃ o : Obj, A.heap[r]? = some o ∧ o.isWalk = true) → (∀ r, row = some r → w.heap.size ≤ r ∧ ∃ o : Obj, A.heap[r]? = some o ∧ o.isCells = false) :=
      fun hr r e => by obtain ⟨h1, o, h2, h3⟩ := hr r e; exact ⟨by omega, o, h2, Obj.not_cells_of_walk h3⟩
    refine (hseq (D + 1) (fun pre W => I pre W ∧ W.heap[D + 1]? = some (.loop (rec .ready none)) ∧ W.heap[D]? = some (.deferred (some [])))
      (fun pre W => ∃ c, Ix c pre W ∧ W.heap[D + 1]? = some (.loop (rec .done (some c))) ∧ W.heap[D]? = some (.deferred (some []))) W1 hb1
      (fun s A B row hs hg' hr => ⟨hI s A B row hs.1 hg' (turn (B := B) hr), (grownBy_keeps hg' (fun r e => (hr r e).2) hs.2.1 rfl).trans hs.2.1, (grownBy_keeps hg' (fun r e => (hr r e).2) hs.2.2 rfl).trans hs.2.2⟩)
      (fun s A B row hs hg' hr => by
        obtain ⟨c, hc, hl, hk⟩ := hs
        exact ⟨c, hIx c s A B row hc hg' (turn (B := B) hr), (grownBy_keeps hg' (fun r e => (hr r e).2) hl rfl).trans hl, (grownBy_keeps hg' (fun r e => (hr r e).2) hk rfl).trans hk⟩)
      ?_ ⟨hI1, hL1, hK1⟩).mono ?_
    · rintro pre x W ⟨hi, hl, hk⟩ hlen
      have hy := run_yield (P := P) (args := encs x) hl (by rw [hrec]; exact hps x)
      rw [hrec] at hy
      refine ⟨fn, _, assign, body, hy, roundIn_of_wpIn hfn (wpIn_mono (hround (D + 1) pre x W (by omega) hi hlen) ?_)⟩
      clear hy
      intro e a' Wa hh
      cases e <;> try exact hh.elim
      obtain ⟨hkf, hkp, hbody⟩ := hh
      have hla := hkf.same _ _ (by omega) hl rfl
      have hka := hkf.same _ _ (by omega) hk rfl
      have hlt : D + 1 < Wa.heap.size := (Array.getElem?_eq_some_iff.1 hla).1
      refine ⟨_, run_beginRound hla (by rw [hrec]), wpIn_mono (hbody _ _ hla rfl) ?_⟩
      have hl2 : (Wa.putObj (D + 1) (.loop { rec .ready none with state := .busy })).heap[D + 1]? = some (.loop { rec .ready none with state := .busy }) := World.putObj_heap_same hlt
      have hk2 : (Wa.putObj (D + 1) (.loop { rec .ready none with state := .busy })).heap[D]? = some (.deferred (some [])) := (World.putObj_heap_other (by omega)).trans hka
      have fin : ∀ (jump : Option Code) (W3 : World), KeepsFrom w.heap.size (Wa.putObj (D + 1) (.loop { rec .ready none with state := .busy })) W3 →
          (Instr.endRound (D + 1) jump).run P W3 = .ok (.bool jump.isNone) (W3.putObj (D + 1) (.loop (rec (if jump.isNone then .ready else .done) jump))) ∧
          W3.heap[D + 1]? = some (.loop { rec .ready none with state := .busy }) ∧
          (W3.putObj (D + 1) (.loop (rec (if jump.isNone then .ready else .done) jump))).heap[D + 1]? = some (.loop (rec (if jump.isNone then .ready else .done) jump)) ∧
          (W3.putObj (D + 1) (.loop (rec (if jump.isNone then .ready else .done) jump))).heap[D]? = some (.deferred (some [])) := fun jump W3 hk3 => by
        have hl3 := hk3.same _ _ (by omega) hl2 rfl
        have := run_endRound (P := P) jump hl3
        rw [hrec] at this ⊢
        exact ⟨this, by rw [hrec] at hl3; exact hl3, World.putObj_heap_same (Array.getElem?_eq_some_iff.1 hl3).1, (World.putObj_heap_other (by omega)).trans (hk3.same _ _ (by omega) hk2 rfl)⟩
      rintro e a3 W3 hp
      have leave : ∀ c, KeepsFrom w.heap.size (Wa.putObj (D + 1) (.loop { rec .ready none with state := .busy })) W3 ∧ Ix c (pre ++ [x]) W3 → _ := fun c hp => by
        obtain ⟨hk3, hi3⟩ := hp
        obtain ⟨hr, hl3, hl4, hk4⟩ := fin (some c) W3 hk3
        exact (⟨_, _, hr, .inr ⟨rfl, c, (hIx _).putObj _ hi3 (by omega) hl3 rfl, hl4, hk4⟩⟩ : ∃ v w', (Instr.endRound (D + 1) (some c)).run P W3 = .ok v w' ∧ ((Ending.returned v = .returned (.bool true) ∧ (I (pre ++ [x]) w' ∧ w'.heap[D + 1]? = some (.loop (rec .ready none)) ∧ w'.heap[D]? = some (.deferred (some []))) ∧ Kp W w') ∨ (Ending.returned v = .returned (.bool false) ∧ ∃ c, Ix c (pre ++ [x]) w' ∧ w'.heap[D + 1]? = some (.loop (rec .done (some c))) ∧ w'.heap[D]? = some (.deferred (some [])))))
      cases e with
      | normal =>
        obtain ⟨hk3, hkp3, hi3⟩ := hp
        obtain ⟨hr, hl3, hl4, hk4⟩ := fin none W3 hk3
        exact ⟨_, _, hr, .inl ⟨rfl, ⟨hI.putObj _ hi3 (by omega) hl3 rfl, hl4, hk4⟩, hKt hkp (hKt (hKb _ _ _ _ hla rfl) (hKt hkp3 (hKb _ _ _ _ hl3 rfl)))⟩⟩
      | ret => exact leave .ret hp
      | exit id => exact leave (.exit id) hp
      | goto t => exact leave (.goto t) hp
      | panic ch => exact hp.elim
      | outgrown => exact hp.elim
    · rintro e W2 ⟨⟨v, rfl⟩, (⟨xs, hS, hi, hl, hk⟩ | ⟨pre, hSp, c, hi, hl, hk⟩)⟩
      · exact ⟨none, _, by have := run_endLoop (P := P) hl (by rw [hrec]; simp); rw [hrec] at this; exact this, hdone D xs _ (by omega) hS (hI.putObj _ hi (by omega) hl rfl) ((World.putObj_heap_other (by omega)).trans hk)⟩
      · exact ⟨some c, _, by have := run_endLoop (P := P) hl (by rw [hrec]; simp); rw [hrec] at this; exact this, hstop D c pre _ (by omega) hSp ((hIx c).putObj _ hi (by omega) hl rfl) ((World.putObj_heap_other (by omega)).trans hk)⟩
end
end Go.Proofs.YtekpmlfcmnlmiaaGreatDoor

namespace Go.Proofs.YtekpmlfcmnlmiaaGreatDoor
open Go.RowKit
set_option linter.unusedVariables false
set_option linter.unusedSimpArgs false

section
variable {P : Program}
theorem calls_some {f : FuncId} {args : Array Value} {w : World} {R : Ending → World → Prop} (h : Calls P f args w R) : ∃ e w', R e w' := by
  obtain ⟨e, w', fr, hR, _⟩ := h []
  exact ⟨e, w', hR⟩
theorem rows_some {row : String} {args : Array Value} {w : World} {R : Value → World → Prop} (h : Rows P row args w R) : ∃ v w', R v w' := by
  obtain ⟨v, w', hR, _⟩ := h default []
  exact ⟨v, w', hR⟩
theorem put_df (a : Act) (d : Option Tmp) (v : Value) : ({ a with defers := [] } : Act).put d v = { a.put d v with defers := [] } := by cases d <;> rfl
/-- Who ends without deferred calls began without them. -/
theorem op_cl {o : Oper} {a : Act} {w : World} {next : Act → World → Prop} {Q : Exit → Act → World → Prop} (hQ : ∀ e a w, Q e a w → a.defers = []) (hL : ¬ LetsOut Q) (hn : ∀ a w, next a w → a.defers = []) (h : o.wp P a w next Q) : a.defers = [] := by
  unfold Oper.wp at h
  revert h
  generalize (execOp a.eval o).run P w = r
  intro h
  unfold Oper.upon at h
  split at h
  · have := hn _ _ h; rwa [put_defers] at this
  · have := hn _ _ h; rwa [put_defers] at this
  · have := hn _ _ h; rw [put_defers] at this; cases this
  · obtain ⟨e, w', hR⟩ := calls_some h
    cases e with
    | returned v => have := hn _ _ hR; rwa [put_defers] at this
    | panicked c => exact hQ _ _ _ hR
    | outgrown => exact (hL hR).elim
  · obtain ⟨v, w', hR⟩ := rows_some h
    have := hn _ _ hR; rwa [put_defers] at this
  · exact hQ _ _ _ h
  · exact h.elim
theorem wpList_cl {ops : Array Oper} {Q : Exit → Act → World → Prop} (hQ : ∀ e a w, Q e a w → a.defers = []) (hL : ¬ LetsOut Q) : ∀ (r : List Oper) (a : Act) (w : World), wpList P ops Q r a w → a.defers = []
  | [], a, w, h => hQ _ _ _ h
  | o :: r, a, w, h => by
    unfold wpList at h
    split at h
    · rcases h with h | h
      · exact op_cl hQ hL (wpList_cl hQ hL r) h
      · exact (hL h.2).elim
    · have := wpList_cl hQ hL r _ _ h; rwa [put_defers] at this
theorem wpOp_cl {ops : Array Oper} {Q : Exit → Act → World → Prop} (hQ : ∀ e a w, Q e a w → a.defers = []) (hL : ¬ LetsOut Q) {i : Nat} {K : Act → World → Prop} {a : Act} {w : World} (hK : ∀ a w, K a w → a.defers = []) (h : wpOp P ops Q i K a w) : a.defers = [] := by
  unfold wpOp at h
  split at h
  · exact hK _ _ h
  · split at h
    · rcases h with h | h
      · exact op_cl hQ hL hK h
      · exact (hL h.2).elim
    · have := hK _ _ h; rwa [put_defers] at this
theorem wpAny_cl {ops : Array Oper} {md : Region.Mode} {Q : Exit → Act → World → Prop} (hQ : ∀ e a w, Q e a w → a.defers = []) (hL : ¬ LetsOut Q) : ∀ (fuel : Nat) (listed : Array Bool) (a : Act) (w : World), wpAny P md ops Q fuel listed a w → a.defers = []
  | 0, listed, a, w, h => hQ _ _ _ h.2
  | fuel + 1, listed, a, w, h => by
    unfold wpAny at h
    cases hr : Region.ready md ops listed with
    | nil => exact hQ _ _ _ (h.1 hr)
    | cons i r => exact wpOp_cl hQ hL (fun a w hh => wpAny_cl hQ hL fuel _ a w hh) (h.2 i (by rw [hr]; exact List.mem_cons_self ..))
/-- An operation looks at no deferred calls. -/
theorem op_df {df : List Deferred} {o : Oper} {a : Act} {w : World} {next next' : Act → World → Prop} {Q Q' : Exit → Act → World → Prop} (hq : ∀ e a w, a.defers = df → Q e { a with defers := [] } w → Q' e a w) (hL : ¬ LetsOut Q) (hcl : ∀ a w, next a w → a.defers = [])
    (hn : ∀ a w, a.defers = df → next { a with defers := [] } w → next' a w) (ha : a.defers = df) (h : o.wp P { a with defers := [] } w next Q) : o.wp P a w next' Q' := by
  unfold Oper.wp at h ⊢
  rw [show ({ a with defers := [] } : Act).eval = a.eval from rfl] at h
  revert h
  generalize (execOp a.eval o).run P w = r
  intro h
  unfold Oper.upon at h ⊢
  split at h
  · exact hn _ _ (by rw [put_defers]; exact ha) (by rw [← put_df]; exact h)
  · exact hn _ _ (by rw [put_defers]; exact ha) (by rw [← put_df]; exact h)
  · have := hcl _ _ h; rw [put_defers] at this; cases this
  · exact h.mono fun e w' hh => by
      cases e with
      | returned v => exact hn _ _ (by rw [put_defers]; exact ha) (by rw [← put_df]; exact hh)
      | panicked c => exact hq _ _ _ ha hh
      | outgrown => exact (hL hh).elim
  · exact h.mono fun v w' hh => hn _ _ (by rw [put_defers]; exact ha) (by rw [← put_df]; exact hh)
  · exact hq _ _ _ ha h
  · exact h.elim
theorem wpList_df {df : List Deferred} {ops : Array Oper} {Q Q' : Exit → Act → World → Prop} (hq : ∀ e a w, a.defers = df → Q e { a with defers := [] } w → Q' e a w) (hQ : ∀ e a w, Q e a w → a.defers = []) (hL : ¬ LetsOut Q) : ∀ (r : List Oper) (a : Act) (w : World), a.defers = df → wpList P ops Q r { a with defers := [] } w → wpList P ops Q' r a w
  | [], a, w, ha, h => hq _ _ _ ha h
  | o :: r, a, w, ha, h => by
    unfold wpList at h ⊢
    rw [show ({ a with defers := [] } : Act).tmps = a.tmps from rfl] at h
    split
    · rename_i hw
      rw [if_pos hw] at h
      rcases h with h | h
      · exact .inl (op_df hq hL (wpList_cl hQ hL r) (fun a w ha hh => wpList_df hq hQ hL r a w ha hh) ha h)
      · exact (hL h.2).elim
    · rename_i hw
      rw [if_neg hw, put_df] at h
      exact wpList_df hq hQ hL r _ _ (by rw [put_defers]; exact ha) h
theorem wpAny_df {df : List Deferred} {ops : Array Oper} {md : Region.Mode} {Q Q' : Exit → Act → World → Prop} (hq : ∀ e a w, a.defers = df → Q e { a with defers := [] } w → Q' e a w) (hQ : ∀ e a w, Q e a w → a.defers = []) (hL : ¬ LetsOut Q) : ∀ (fuel : Nat) (listed : Array Bool) (a : Act) (w : World), a.defers = df → wpAny P md ops Q fuel listed { a with defers := [] } w → wpAny P md ops Q' fuel listed a w
  | 0, listed, a, w, ha, h => ⟨h.1, hq _ _ _ ha h.2⟩
  | fuel + 1, listed, a, w, ha, h => by
    unfold wpAny at h ⊢
    refine ⟨fun hr => hq _ _ _ ha (h.1 hr), fun i hi => ?_⟩
    have h := h.2 i hi
    unfold wpOp at h ⊢
    rw [show ({ a with defers := [] } : Act).tmps = a.tmps from rfl] at h
    split
    · rename_i ho
      rw [ho] at h
      exact wpAny_df hq hQ hL fuel _ a w ha h
    · rename_i o ho
      rw [ho] at h
      simp only at h
      split
      · rename_i hw
        rw [if_pos hw] at h
        rcases h with h | h
        · exact .inl (op_df hq hL (wpAny_cl hQ hL fuel _) (fun a w ha hh => wpAny_df hq hQ hL fuel _ a w ha hh) ha h)
        · exact (hL h.2).elim
      · rename_i hw
        rw [if_neg hw, put_df] at h
        exact wpAny_df hq hQ hL fuel _ _ _ (by rw [put_defers]; exact ha) h
end

def markD (D : Nat) : List Deferred := [{ target := .collected D, args := #[] }]
/-- A state of a function: false: ahead of its range over a function; true: behind it, seen from the world w1 in which the range ended. -/
def RelF (b : Bool) (B : Nat) (w0 : World) (gh : List Value) (w1 : World) (ρ : Nat → Value) (σ : St) (a : Act) (w : World) : Prop := match b with
  | false => w1 = w0 ∧ RelS B w0 gh ρ σ a w
  | true => ∃ D, RelS B w1 gh ρ σ { a with defers := [] } w ∧ a.defers = markD D ∧ w1.heap[D]? = some (.deferred (some [])) ∧ Below B w0 w1 ∧ Oth w0 w1 ∧ B ≤ D
abbrev QF := Bool → World → Exit → St → Prop
def liftF (B : Nat) (w0 : World) (gh : List Value) (Q : QF) : Exit → Act → World → Prop := fun e a w => ∃ b w1 σ ρ, Q b w1 e σ ∧ RelF b B w0 gh w1 ρ σ a w
def TF (P : Program) (b : Bool) (B : Nat) (w0 w1 : World) (gh : List Value) (c : Code) (σ : St) (Q : QF) : Prop := ∀ ρ a w, RelF b B w0 gh w1 ρ σ a w → c.wpIn Fence.wide 8 P (liftF B w0 gh Q) a w
section
variable {P : Program} {B : Nat} {w0 w1 : World} {gh : List Value} {σ : St} {Q : QF} {b : Bool} {ops : Array Oper}
theorem TF.seq {x y : Code} (h : TF P b B w0 w1 gh x σ fun b w1 e σ => match e with
    | .normal => TF P b B w0 w1 gh y σ Q
    | e => Q b w1 e σ) : TF P b B w0 w1 gh (.seq x y) σ Q := fun ρ a w hr =>
  wpIn_seq (wpIn_mono (h ρ a w hr) fun e a w ⟨b, w1, σ, ρ, h1, h2⟩ => by
    cases e <;> first | exact h1 ρ a w h2 | exact ⟨b, w1, σ, ρ, h1, h2⟩)
theorem TF.skip (h : Q b w1 .normal σ) : TF P b B w0 w1 gh .skip σ Q := fun ρ a w hr => wpIn_skip ⟨b, w1, σ, ρ, h, hr⟩
theorem TF.exit {id : Nat} (h : Q b w1 (.exit id) σ) : TF P b B w0 w1 gh (.exit id) σ Q := fun ρ a w hr => wpIn_exit ⟨b, w1, σ, ρ, h, hr⟩
theorem TF.ret (h : Q b w1 .ret σ) : TF P b B w0 w1 gh .ret σ Q := fun ρ a w hr => wpIn_ret ⟨b, w1, σ, ρ, h, hr⟩
theorem RelF.slots {ρ : Nat → Value} {a : Act} {w : World} (hr : RelF b B w0 gh w1 ρ σ a w) : DnL (cxOf B ρ (hf σ.h) w) σ.s a.tmps.toList := by
  cases b with
  | false => exact hr.2.slots
  | true => obtain ⟨D, h, _⟩ := hr; exact h.slots
theorem TF.cond {c : Operand} {x y : Code} {v : Bool} (hc : tev σ.s c = .v (.bool v)) (ht : v = true → TF P b B w0 w1 gh x σ Q) (hf : v = false → TF P b B w0 w1 gh y σ Q) : TF P b B w0 w1 gh (.cond c x y) σ Q := fun ρ a w hr => by
  have h1 := tev_dn hr.slots c
  rw [hc] at h1
  simp only [Dn] at h1
  exact wpIn_cond_split h1 (fun hb => ht hb ρ a w hr) (fun hb => hf hb ρ a w hr)
theorem TF.block {id : Nat} {c : Code} (h : TF P b B w0 w1 gh c σ fun b w1 e σ => match e with
    | .exit id' => if id' = id then Q b w1 .normal σ else Q b w1 (.exit id') σ
    | e => Q b w1 e σ) : TF P b B w0 w1 gh (.block id c) σ Q := fun ρ a w hr =>
  wpIn_block (wpIn_mono (h ρ a w hr) fun e a w ⟨b, w1, σ, ρ, h1, h2⟩ => by
    cases e <;> simp only [Exit.inBlock] at h1 ⊢ <;> first | exact ⟨b, w1, σ, ρ, h1, h2⟩ | (split at h1 <;> (rename_i hh; simp only [hh, if_true, if_false] ; exact ⟨b, w1, σ, ρ, h1, h2⟩)))
/-- What holds of code elsewhere holds ahead of the range. -/
theorem TF.of {c : Code} (h : TW P B w0 gh c σ (Q false w0)) : TF P false B w0 w1 gh c σ Q := fun ρ a w ⟨h1, hr⟩ => by
  subst h1
  exact wpIn_wide.2 (wp_mono (h ρ a w hr) fun e a w ⟨σ, ρ, h1, h2⟩ => ⟨false, _, σ, ρ, h1, rfl, h2⟩)
theorem liftQ_cl {w1 : World} {Q : Exit → St → Prop} : ∀ e a w, liftQ B w1 gh Q e a w → a.defers = [] := fun _ _ _ ⟨_, _, _, h⟩ => h.defers
theorem liftQ_df {D : Nat} (hD : w1.heap[D]? = some (.deferred (some []))) (hb : Below B w0 w1) (ho : Oth w0 w1) (hBD : B ≤ D) : ∀ e a w, a.defers = markD D → liftQ B w1 gh (Q true w1) e { a with defers := [] } w → liftF B w0 gh Q e a w := fun e a w ha ⟨σ, ρ, h1, h2⟩ => ⟨true, w1, σ, ρ, h1, D, h2, ha, hD, hb, ho, hBD⟩
/-- What holds of operations elsewhere holds behind the range. -/
theorem TF.region {id : Nat} (h : TL P B w1 gh ops ops.toList σ (Q b w1)) (hL : ∀ σ, ¬ Q true w1 .outgrown σ) : TF P b B w0 w1 gh (.region id ops false) σ Q := by
  cases b with
  | false =>
      intro ρ a w hr
      obtain ⟨h1, h2⟩ := hr
      subst h1
      exact (TF.of (.region h)) ρ a w ⟨rfl, h2⟩
  | true =>
      intro ρ a w hr
      obtain ⟨D, h1, h2, h3, h4, h5, h6⟩ := hr
      exact wpIn_wide.2 (wp_region_list (wpList_df (liftQ_df h3 h4 h5 h6) liftQ_cl (noOut hL) _ _ _ h2 (h ρ _ w h1)))
theorem TF.regionA {id : Nat} (hm : P.follows .mixedOrders = true) (h : TA P B w1 gh ops σ (Q b w1)) (hL : ∀ σ, ¬ Q true w1 .outgrown σ) : TF P b B w0 w1 gh (.region id ops true) σ Q := by
  cases b with
  | false =>
      intro ρ a w hr
      obtain ⟨h1, h2⟩ := hr
      subst h1
      exact (TF.of (h.tw hm)) ρ a w ⟨rfl, h2⟩
  | true =>
      intro ρ a w hr
      obtain ⟨D, h1, h2, h3, h4, h5, h6⟩ := hr
      exact wpIn_wide.2 (wp_region_any hm (wpAny_df (liftQ_df h3 h4 h5 h6) liftQ_cl (noOut hL) _ _ _ _ h2 (h ρ _ w h1)))
end

/-- All of memory, as it may be read. -/
def CxT (w : World) : Cx := ⟨w, fun _ => True, 0, fun _ => .nilFunc, fun _ => False, fun _ _ _ _ _ => False⟩
/-- What is told of what an iterator has captured is told again. -/
def KpT (caps : List TV) (vals : List Value) (W W' : World) : Prop := DnL (CxT W) caps vals ∧ GlB W.heap.size W → DnL (CxT W') caps vals ∧ GlB W'.heap.size W'
/-- An iterator, of what it has captured: what it yields. -/
def SeqX (P : Program) (gf : FuncId) (caps : List TV) {α : Type} (encv : α → Array Value) (S Sp : List α → Prop) (N : Nat) : Prop :=
  entB P gf = true ∧ ∀ (w : World) (vals : List Value), GlB w.heap.size w → DnL (CxT w) caps vals → SeqStopsK Fence.wide 7 P gf vals.toArray encv (KpT caps vals) S Sp N w
/-- One telling of captured values is no more than another. -/
def CapLe (ts caps : List TV) : Prop := ∀ (C : Cx) (vals : List Value), DnL C ts vals → DnL (CxT C.w) caps vals
mutual
theorem Dn.open_ {C : Cx} : ∀ (t : TV) (u : Value), Pu t → Dn C t u → Dn (CxT C.w) t u
  | .any, _, _, _ => by simp [Dn]
  | .v x, u, _, h => by simp only [Dn] at h ⊢; exact h
  | .nil_, u, _, h => by simp only [Dn] at h ⊢; exact h
  | .agg ts, u, p, h => by
    simp only [Dn, Pu] at h p ⊢
    obtain ⟨vs, h1, h2⟩ := h
    exact ⟨vs, h1, DnL.open_ ts vs p h2⟩
  | .tup ts, u, p, h => by
    simp only [Dn, Pu] at h p ⊢
    obtain ⟨vs, h1, h2⟩ := h
    exact ⟨vs, h1, DnL.open_ ts vs p h2⟩
  | .fn f ts, u, p, h => by
    simp only [Dn, Pu] at h p ⊢
    obtain ⟨vs, h1, h2⟩ := h
    exact ⟨vs, h1, DnL.open_ ts vs p h2⟩
  | .ptr i off, u, p, _ => by simp only [Pu] at p
  | .row i, u, p, _ => by simp only [Pu] at p
  | .eptr ts, u, p, h => by
    simp only [Dn, Pu] at h p ⊢
    obtain ⟨ad, vs, h2, h3, h4, h5, h6⟩ := h
    exact ⟨ad, vs, h2, trivial, h4, DnL.open_ ts vs p h5, h6⟩
  | .osl e sz els, u, p, _ => by simp only [Pu] at p
  | .sl b els, u, p, h => by
    simp only [Dn, Pu] at h p ⊢
    obtain ⟨A, c, css, sz, h1, h2, h3, h4, h5, h6, h7⟩ := h
    refine ⟨A, c, css, sz, h1, h2, h3, h4, h5, DnLL.open_ els css p h6, fun ad ha => ?_⟩
    obtain ⟨h8, h9⟩ := h7 ad ha
    refine ⟨fun hne => ?_, h9⟩
    obtain ⟨h10, h11, h12⟩ := h8 hne
    exact ⟨trivial, h11, fun hb => ⟨Nat.zero_le _, (h12 hb).2⟩⟩
theorem DnL.open_ {C : Cx} : ∀ (ts : List TV) (us : List Value), PuL ts → DnL C ts us → DnL (CxT C.w) ts us
  | [], us, _, h => by simp only [DnL] at h ⊢; exact h
  | t :: ts, us, p, h => by
    simp only [DnL, PuL] at h p ⊢
    obtain ⟨u, us', h1, h2, h3⟩ := h
    exact ⟨u, us', h1, Dn.open_ t u p.1 h2, DnL.open_ ts us' p.2 h3⟩
theorem DnLL.open_ {C : Cx} : ∀ (ts : List (List TV)) (us : List (List Value)), PuLL ts → DnLL C ts us → DnLL (CxT C.w) ts us
  | [], us, _, h => by simp only [DnLL] at h ⊢; exact h
  | t :: ts, us, p, h => by
    simp only [DnLL, PuLL] at h p ⊢
    obtain ⟨u, us', h1, h2, h3⟩ := h
    exact ⟨u, us', h1, DnL.open_ t u p.1 h2, DnLL.open_ ts us' p.2 h3⟩
end
theorem CapLe.pu {ts : List TV} (h : PuL ts) : CapLe ts ts := fun C vals hd => DnL.open_ ts vals h hd
/-- What an iterator has captured is told in a state. -/
def CapSt (g : Operand) (gf : FuncId) (caps : List TV) (s : List TV) (h : List LB) : Prop := ∃ gc ts, tev s g = .fn (.func gf) gc ∧ argPL h gc = some ts ∧ CapLe ts caps
/-- Slots that are set, one behind the other. -/
def setsT : List TV → List (Tmp × TV) → List TV
  | s, [] => s
  | s, p :: r => setsT (s.set p.1 p.2) r
/-- How a round may end. -/
def roundT {α : Type} (n : Nat) (g : Operand) (gf : FuncId) (caps : List TV) (J : List α → St → Prop) (Jx : Code → List α → St → Prop) (xs : List α) : Exit → St → Prop := fun e σ => match e with
  | .normal => ∃ σ3, J xs σ3 ∧ CapSt g gf caps σ3.s σ3.h ∧ ∀ B W gh, SLe B W gh ⟨σ.g.take n, σ.h, σ.g.drop n⟩ σ3
  | .ret => ∃ σ3, Jx .ret xs σ3 ∧ ∀ B W gh, SLe B W gh ⟨σ.g.take n, σ.h, σ.g.drop n⟩ σ3
  | .exit id => ∃ σ3, Jx (.exit id) xs σ3 ∧ ∀ B W gh, SLe B W gh ⟨σ.g.take n, σ.h, σ.g.drop n⟩ σ3
  | _ => False
section
variable {P : Program} {B : Nat} {w0 : World} {gh : List Value} {σ : St} {Q : QF}
theorem sets_arr : ∀ (l : List (Tmp × Value)) (t : Array Value), (l.foldl (fun t (p : Tmp × Value) => t.setIfInBounds p.1 p.2) t).toList = l.foldl (fun (t : List Value) (p : Tmp × Value) => t.set p.1 p.2) t.toList
  | [], t => rfl
  | p :: l, t => by rw [List.foldl_cons, List.foldl_cons, sets_arr l]; simp
theorem sets_dn {C : Cx} : ∀ (ps : List Tmp) (ts : List TV) (us : List Value) (s : List TV) (v : List Value), DnL C ts us → DnL C s v → DnL C (setsT s (ps.zip ts)) ((ps.zip us).foldl (fun (t : List Value) (p : Tmp × Value) => t.set p.1 p.2) v)
  | [], ts, us, s, v, h, hs => by simpa [setsT] using hs
  | p :: ps, [], us, s, v, h, hs => by simp only [DnL] at h; subst h; simpa [setsT] using hs
  | p :: ps, t :: ts, us, s, v, h, hs => by
    simp only [DnL] at h
    obtain ⟨u, us', rfl, h1, h2⟩ := h
    simp only [List.zip_cons_cons, List.foldl_cons, setsT]
    exact sets_dn ps ts us' _ _ h2 (hs.set p h1)
theorem foldl_zip_arr (ps : Array Tmp) (us : Array Value) (t : Array Value) : ((ps.zip us).foldl (fun t (p, v) => t.setIfInBounds p v) t).toList = (ps.toList.zip us.toList).foldl (fun (t : List Value) (p : Tmp × Value) => t.set p.1 p.2) t.toList := by
  rw [← sets_arr, ← Array.toList_zip, Array.foldl_toList]
theorem kpT_t {caps : List TV} {vals : List Value} {X Y Z : World} (h : KpT caps vals X Y) (k : KpT caps vals Y Z) : KpT caps vals X Z := fun hd => k (h hd)
theorem GlB.turn {W W' : World} (hs : W.heap.size ≤ W'.heap.size) (hc : ∀ (k : Nat) (cs : Array Value) (ty : TypeId) (fr : Nat × Nat), W.heap[k]? = some (Obj.cells cs ty fr) → W'.heap[k]? = some (Obj.cells cs ty fr)) (h : GlB W.heap.size W) : GlB W'.heap.size W' := by
  have cell : ∀ {a : Addr} {x : Value}, W.cell? a = some x → W'.cell? a = some x := fun {a x} hx => by
    cases hb : W.heap[a.block]? with
    | none => simp [World.cell?, hb] at hx
    | some o =>
      cases o with
      | cells cs ty fr => exact cell_keep (by rw [hb]; exact hc _ _ _ _ hb) hx
      | _ => simp [World.cell?, hb] at hx
  exact ⟨fun g vs hg => ⟨Nat.lt_of_lt_of_le (h.at_ g vs hg).1 hs, fun j x hx => cell ((h.at_ g vs hg).2 j x hx)⟩,
    fun g cs hg => by
      obtain ⟨h1, ty, fr, h2⟩ := h.obj g cs hg
      exact ⟨Nat.lt_of_lt_of_le h1 hs, ty, fr, hc _ _ _ _ h2⟩,
    fun g hg => by
      obtain ⟨h1, v, h2, h3⟩ := h.ifc g hg
      exact ⟨Nat.lt_of_lt_of_le h1 hs, v, cell h2, h3⟩⟩
theorem GlB.below {W W' : World} (hb : Below W.heap.size W W') (h : GlB W.heap.size W) : GlB W'.heap.size W' := h.turn hb.size fun k cs ty fr hk => (hb.block k (Array.getElem?_eq_some_iff.1 hk).1).trans hk
theorem put_cells {W : World} {l : Nat} {o o' : Obj} (h : W.heap[l]? = some o) (ho : o.isCells = false) (k : Nat) (cs : Array Value) (ty : TypeId) (fr : Nat × Nat) (hk : W.heap[k]? = some (Obj.cells cs ty fr)) : (W.putObj l o').heap[k]? = some (Obj.cells cs ty fr) :=
  ((grownBy_putObj' W l o').block k (Array.getElem?_eq_some_iff.1 hk).1 (fun e => by
    injection e with e
    subst e
    rw [hk] at h
    injection h with h
    subst h
    cases ho)).trans hk
theorem kpT_b {caps : List TV} {vals : List Value} (W : World) (l : Nat) (o o' : Obj) (h : W.heap[l]? = some o) (ho : o.isCells = false) : KpT caps vals W (W.putObj l o') := fun ⟨hd, hgl⟩ =>
  ⟨DnL.turn (C := CxT W) (C' := CxT (W.putObj l o')) ⟨fun k _ hk => ⟨trivial, Nat.lt_of_lt_of_le hk (grownBy_putObj' W l o').size⟩, put_cells h ho, Nat.le_refl _, fun i hi => hi.elim, fun _ _ _ _ _ h => h.elim⟩ _ _ hd, hgl.turn (grownBy_putObj' W l o').size (put_cells h ho)⟩
theorem CapSt.dn {g : Operand} {gf : FuncId} {caps : List TV} {s : List TV} {h : List LB} {ρ : Nat → Value} {a : Act} {w : World} (hc : CapSt g gf caps s h) (R : Rel B w0 ρ (hf h) w) (hs : DnL (cxOf B ρ (hf h) w) s a.tmps.toList) : ∃ cv : List Value, a.eval g = .func (.func gf) #[] cv.toArray ∧ DnL (CxT w) caps cv := by
  obtain ⟨gc, ts, h1, h2, h3⟩ := hc
  have e1 := tev_dn hs g
  rw [h1] at e1
  simp only [Dn] at e1
  obtain ⟨cv, h4, h5⟩ := e1
  exact ⟨cv, h4, h3 _ _ (argPL_dn (fun i _ => .inr rfl) R _ _ _ h2 h5)⟩
/-- A range over a function whose captured values are told. -/
theorem TF.range {α : Type} {g : Operand} {ps : Array Tmp} {assign body : Code} {gf : FuncId} {caps : List TV} {enct : α → List TV} {encv : α → Array Value} {S Sp : List α → Prop} {N : Nat} (hseq : SeqX P gf caps encv S Sp N)
    (hen : ∀ (C : Cx) x, DnL C (enct x) (encv x).toList) (hps : ∀ x, (encv x).size = ps.size) (J : List α → St → Prop) (Jx : Code → List α → St → Prop) (n : Nat) (hn : ∀ pre σ, J pre σ → σ.s.length = n) (h0 : J [] σ) (hc0 : CapSt g gf caps σ.s σ.h)
    (hround : ∀ pre x σ' W gh', J pre σ' → pre.length < N → TQ P B W gh' assign ⟨setsT σ'.s (ps.toList.zip (enct x)), σ'.h, σ'.s ++ σ'.g⟩ fun e σ2 => e = .normal ∧ CapSt g gf caps (σ2.g.take n) σ2.h ∧
      ∀ W2, TQ P B W2 gh' body σ2 (roundT n g gf caps J Jx (pre ++ [x])))
    (hdone : ∀ xs σ' w1, S xs → J xs σ' → Q true w1 .normal σ') (hret : ∀ pre σ' w1, Sp pre → Jx .ret pre σ' → Q true w1 .ret σ') (hexit : ∀ id pre σ' w1, Sp pre → Jx (.exit id) pre σ' → Q true w1 (.exit id) σ') (hother : ∀ c pre σ', Jx c pre σ' → c = .ret ∨ ∃ id, c = .exit id) :
    TF P false B w0 w0 gh (.rangeFunc g ps assign body) σ Q := fun ρ a w ⟨_, hr⟩ => by
  obtain ⟨cv, hg, hcv⟩ := hc0.dn hr.rel hr.slots
  have hdf := hr.defers
  have hact : ∀ {a' : Act} {W : World} {ρ' : Nat → Value} {w0 : World} {σ' : St}, RelS B w0 gh ρ' σ' a W → RelS B w0 gh ρ' σ' { a with defers := [] } W := fun h => by
    rw [show ({ a with defers := [] } : Act) = a by cases a; simp only at hdf; subst hdf; rfl]; exact h
  have hsz : w0.heap.size ≤ w.heap.size := hr.rel.below.size
  have habs : ∀ (K : List α → St → Prop), OwnFrom w.heap.size (fun pre W => ∃ σ' ρ', K pre σ' ∧ RelS B w0 gh ρ' σ' a W) := fun K s A C row ⟨σ', ρ', h1, h2⟩ hg hrow =>
    ⟨σ', ρ', h1, h2.turn hg fun r e => ⟨by have := (hrow r e).1; omega, Nat.le_trans hr.rel.size (hrow r e).1, (hrow r e).2⟩⟩
  refine wpIn_range hg (fun args w => callFunc_run hseq.1 args w) (hseq.2 w cv hr.rel.glb hcv) kpT_t kpT_b hps (fun pre W => ∃ σ' ρ', J pre σ' ∧ RelS B w0 gh ρ' σ' a W) (fun c pre W => ∃ σ' ρ', Jx c pre σ' ∧ RelS B w0 gh ρ' σ' a W) (habs J) (fun c => habs (Jx c)) ⟨σ, ρ, h0, hr⟩ ?_ ?_ ?_
  · rintro l pre x W hl ⟨σ', ρ', hj, R⟩ hlen
    have Rb := R.rebase
    have hsl : σ'.s.length = n := hn _ _ hj
    have hal : a.tmps.toList.length = n := by rw [R.slots.len]; exact hsl
    have R0 : RelS B W (a.tmps.toList ++ gh) ρ' ⟨setsT σ'.s (ps.toList.zip (enct x)), σ'.h, σ'.s ++ σ'.g⟩ { tmps := (ps.zip (encv x)).foldl (fun t (p, v) => t.setIfInBounds p v) a.tmps, defers := [] } W := by
      refine ⟨?_, Rb.slots.append Rb.ghost, Rb.rel, rfl⟩
      show DnL _ _ (Array.toList _)
      rw [foldl_zip_arr]
      exact sets_dn _ _ _ _ _ (hen _ x) Rb.slots
    refine wpIn_mono (hround pre x σ' W (a.tmps.toList ++ gh) hj hlen l 6 ρ' _ _ R0) ?_
    rintro e a' Wa ⟨σ2, ρ2, ⟨rfl, hc2, hb2⟩, R2⟩
    have outer : ∀ {W3 : World} {ρ3 : Nat → Value} {σ3 : St} {a3 : Act} {w0 : World}, RelS B w0 (a.tmps.toList ++ gh) ρ3 σ3 a3 W3 → RelS B w0 gh ρ3 ⟨σ3.g.take n, σ3.h, σ3.g.drop n⟩ a W3 := fun R3 => by
      refine ⟨?_, ?_, R3.rel, hdf⟩
      · have := R3.ghost.take n
        rwa [← hal, List.take_left, hal] at this
      · have := R3.ghost.drop n
        rwa [← hal, List.drop_left, hal] at this
    have cap : ∀ {W3 : World} {ρ3 : Nat → Value} {σ3 : St} {w0 : World}, RelS B w0 gh ρ3 σ3 a W3 → CapSt g gf caps σ3.s σ3.h → DnL (CxT W3) caps cv := fun R3 hc => by
      obtain ⟨cv', h1, h2⟩ := hc.dn R3.rel R3.slots
      rw [hg] at h1
      injection h1 with _ _ h1
      have : cv = cv' := by simpa using congrArg Array.toList h1
      rw [this]; exact h2
    refine ⟨keepsFrom_oth R2.rel.below.size R2.rel.oth, fun _ => ⟨cap (outer R2) hc2, R2.rel.glb⟩, fun o o' ho hoc => ?_⟩
    have R3 := (R.back R2).turn (grownBy_putObj' Wa l o') (fun r e => by injection e with e; subst e; exact ⟨by omega, Nat.le_trans hr.rel.size hl, o, ho, hoc⟩)
    refine wpIn_mono (hb2 _ l 6 ρ2 _ _ R3.rebase) ?_
    rintro e a3 W3 ⟨σ3, ρ3, h4, R4⟩
    have R5 := outer (R3.back R4)
    have hk : KeepsFrom w.heap.size (Wa.putObj l o') W3 := keepsFrom_oth R4.rel.below.size R4.rel.oth
    cases e <;> try exact h4.elim
    · obtain ⟨σ4, h5, h6, h7⟩ := h4
      obtain ⟨ρ6, R6⟩ := h7 _ _ _ _ _ _ R5
      exact ⟨hk, fun _ => ⟨cap R6 h6, R6.rel.glb⟩, σ4, ρ6, h5, R6⟩
    · obtain ⟨σ4, h5, h7⟩ := h4
      obtain ⟨ρ6, R6⟩ := h7 _ _ _ _ _ _ R5
      exact ⟨hk, σ4, ρ6, h5, R6⟩
    · obtain ⟨σ4, h5, h7⟩ := h4
      obtain ⟨ρ6, R6⟩ := h7 _ _ _ _ _ _ R5
      exact ⟨hk, σ4, ρ6, h5, R6⟩
  · rintro D xs W hD hS ⟨σ', ρ', hj, R⟩ hK
    exact ⟨true, W, σ', ρ', hdone xs σ' W hS hj, D, hact (a' := a) R.rebase, by rw [hdf]; rfl, hK, R.rel.below, R.rel.oth, Nat.le_trans hr.rel.size hD⟩
  · rintro D c pre W hD hS ⟨σ', ρ', hj, R⟩ hK
    rcases hother _ _ _ hj with rfl | ⟨id, rfl⟩
    · exact wpIn_ret ⟨true, W, σ', ρ', hret pre σ' W hS hj, D, hact (a' := a) R.rebase, by rw [hdf]; rfl, hK, R.rel.below, R.rel.oth, Nat.le_trans hr.rel.size hD⟩
    · exact wpIn_exit ⟨true, W, σ', ρ', hexit id pre σ' W hS hj, D, hact (a' := a) R.rebase, by rw [hdf]; rfl, hK, R.rel.below, R.rel.oth, Nat.le_trans hr.rel.size hD⟩
end
end Go.Proofs.YtekpmlfcmnlmiaaGreatDoor

namespace Go.Proofs.YtekpmlfcmnlmiaaGreatDoor
open Go.RowKit
set_option linter.unusedVariables false
set_option linter.unusedSimpArgs false

section
variable {P : Program} {B : Nat} {w0 w1 w w' : World} {ρ : Nat → Value} {h : Nat → LB}
theorem Rel.backTo (hb : Below B w0 w1) (ho : Oth w0 w1) (hg : GlB B w0) (R : Rel B w1 ρ h w) : Rel B w0 ρ h w where
  below := hb.trans R.below
  gl0 := hg
  size := R.size
  blk := R.blk
  row := R.row
  sep := R.sep
  inj := R.inj
  oth := ho.trans R.oth
variable {fn : Func} {C : Cx} {σ : St} {a : Act} {r : TV}
/-- How a function's results are read. -/
theorem end_reads {gh : List Value} (hr : RelS C.w.heap.size C.w gh ρ σ a w) {e : Exit} (he : endT P fn r e σ) : ∃ v, (results fn a.tmps).run P w = .ok v w ∧ (∃ u ov, Ending.returned v = .returned u ∧ Below C.w.heap.size C.w w ∧ (∀ g, blkOf ov = some g → C.w.heap.size ≤ g ∧ g < w.heap.size) ∧ Dn (rsCx C.w.heap.size w ov) r u) := by
  obtain ⟨_, tv, q, h1, h2, h3⟩ := he
  obtain ⟨u, h4, h5⟩ := resT_run hr h1
  refine ⟨u, h4, u, ovOf ρ q, rfl, hr.rel.below, fun g hg => ?_, out_dn hr.rel h3 _ _ _ h2 h5⟩
  cases q with
  | none => cases hg
  | some i =>
    refine ⟨?_, hr.rel.inj i g (h3 i rfl) hg⟩
    have hi := h3 i rfl
    cases hh : hf σ.h i with
    | none => rw [hh] at hi; exact hi.elim
    | cells t cs =>
      obtain ⟨vs, _, h7, _⟩ := hr.rel.cells_at hh hg
      exact h7
    | row e sz els =>
      obtain ⟨A, c, css, r1, r2, _⟩ := hr.rel.row i _ _ _ hh
      have hg' : blkOf (ρ i) = some g := hg
      rw [r1] at r2 hg'
      rcases r2.2 with ⟨hv, _⟩ | ⟨g', cap, cur, hv, hb, _⟩
      · rw [hv] at hg'; cases hg'
      · rw [hv] at hg'
        simp only [blkOf, Option.some.injEq] at hg'
        omega
theorem TMeets.of_TF {f : FuncId} {c : Code} {args : List TV} (hfn : P.funcs[f]? = some fn) (hb : fn.body = some c) (hp : PuL args)
    (h : ∀ B w0, TF P false B w0 w0 [] c ⟨untagL args ++ List.replicate (fn.ntmps - args.length) .any, [], []⟩ (fun _ _ => endT P fn r)) : TMeets P f args r := by
  intro C vals hgl hd
  refine (callsIn_wide (n := 8)).1 (callsIn_of_wp_marks hfn hb trivial ?_ rfl)
  have hlen := hd.len
  have hh : ∀ i, hf [] i = .none := fun i => by simp [hf]
  have R0 : RelS C.w.heap.size C.w [] (fun _ => .nilFunc) ⟨untagL args ++ List.replicate (fn.ntmps - args.length) .any, [], []⟩ { tmps := vals.toArray ++ Array.replicate (fn.ntmps - vals.toArray.size) undef, defers := [] } C.w := by
    refine ⟨?_, DnL.nil, ⟨Below.refl _ _, hgl, Nat.le_refl _, fun i t cs e => (by rw [hh i] at e; cases e), fun i e sz els e' => (by rw [hh i] at e'; cases e'), fun i j g e => (by rw [hh i] at e; exact e.elim), fun i g e => (by rw [hh i] at e; exact e.elim), Oth.refl _⟩, rfl⟩
    have h1 : DnL (cxOf C.w.heap.size (fun _ => .nilFunc) (hf []) C.w) (untagL args) vals := DnL.pu (C := C) (C' := cxOf C.w.heap.size (fun _ => .nilFunc) (hf []) C.w) rfl (fun k _ i hi => by rw [hh i] at hi; exact hi.elim) _ _ hp hd
    have h2 := h1.append (DnL.anys (C := cxOf C.w.heap.size (fun _ => .nilFunc) (hf []) C.w) (fn.ntmps - args.length) (List.replicate (fn.ntmps - args.length) undef) (by simp))
    simpa [hlen] using h2
  refine wpIn_mono (h C.w.heap.size C.w _ _ _ ⟨rfl, R0⟩) fun e a w' ⟨b, w1, σ, ρ, he, hr⟩ => ?_
  have key : ∀ (u : FrameMode), u = .returning → LeavesInM Fence.wide 8 P fn a.tmps (fun e w' => ∃ u ov, e = .returned u ∧ Below C.w.heap.size C.w w' ∧ (∀ g, blkOf ov = some g → C.w.heap.size ≤ g ∧ g < w'.heap.size) ∧ Dn (rsCx C.w.heap.size w' ov) r u) a.defers u w' := by
    rintro u rfl
    cases b with
    | false =>
      obtain ⟨_, hr⟩ := hr
      rw [hr.defers]
      exact end_reads hr he
    | true =>
      obtain ⟨D, h1, h2, h3, h4, h5, h6⟩ := hr
      rw [h2]
      have hD := h1.rel.oth D _ h3 rfl
      refine ⟨by simp, .inl ⟨D, w'.putObj D (.deferred none), rfl, run_takeDeferred hD, ?_⟩⟩
      have R1 : RelS C.w.heap.size C.w [] ρ σ { a with defers := [] } w' := ⟨h1.slots, h1.ghost, h1.rel.backTo h4 h5 hgl, h1.defers⟩
      have := end_reads (R1.turn (grownBy_putObj' w' D (.deferred none)) fun r e => by injection e with e; subst e; exact ⟨h6, h6, _, hD, rfl⟩) he
      exact this
  rcases he.1 with rfl | rfl
  · exact key _ rfl
  · exact key _ rfl
end
end Go.Proofs.YtekpmlfcmnlmiaaGreatDoor

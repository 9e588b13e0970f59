/- Local blocks and how they change: memory grows, a block is new, a block is written, a row is renewed by append, a row is only read from now on. No condition. -/
import Derived.Test.YtekpmlfcmnlmiaaGreatDoorGl
import Derived.Test.YtekpmlfcmnlmiaaGreatDoorBase
namespace Go.Proofs.YtekpmlfcmnlmiaaGreatDoor
open Go.RowKit
set_option linter.unusedVariables false
set_option linter.unusedSimpArgs false

/-- A value as a tree. any: nothing is known; v: just this value; nil_: the nil slice; ptr i off: a place in the local block i; row i: the slice of the local row i; sl: a slice that is only read, by its elements' cells (true: it lies in memory that was made since the function began); eptr: an address in memory that is only read, by the cells from there on; osl: a slice in memory of its own (a result). -/
inductive TV where
  | any
  | v (x : Value)
  | nil_
  | agg (ts : List TV)
  | tup (ts : List TV)
  | fn (f : Fn) (ts : List TV)
  | ptr (i off : Nat)
  | row (i : Nat)
  | sl (b : Bool) (els : List (List TV))
  | eptr (ts : List TV)
  | osl (e : TypeId) (sz : Nat) (els : List (List TV))
  deriving Inhabited

structure Cx where
  w : World
  S : Nat → Prop
  B : Nat
  ρ : Nat → Value
  pres : Nat → Prop
  ow : Value → TypeId → Nat → Nat → List Value → Prop

def blkOf : Value → Option Nat
  | .pointer (some a) => some a.block
  | .slice (some a) _ _ => some a.block
  | _ => none

mutual
def Dn (C : Cx) : TV → Value → Prop
  | .any, _ => True
  | .v x, u => u = x
  | .nil_, u => u = .slice none 0 0
  | .agg ts, u => ∃ vs : List Value, u = .agg vs.toArray ∧ DnL C ts vs
  | .tup ts, u => ∃ vs : List Value, u = .tuple vs.toArray ∧ DnL C ts vs
  | .fn f ts, u => ∃ vs : List Value, u = .func f #[] vs.toArray ∧ DnL C ts vs
  | .ptr i off, u => C.pres i ∧ ∃ g, blkOf (C.ρ i) = some g ∧ u = .pointer (some ⟨g, off, none⟩)
  | .row i, u => C.pres i ∧ u = C.ρ i
  | .sl b els, u => ∃ (A : Option Addr) (c : Nat) (css : List (List Value)) (sz : Nat), u = .slice A els.length c ∧ els.length ≤ c ∧ c ≤ maxLen ∧ (A = none → els = []) ∧ (∀ x ∈ css, x.length = sz) ∧ DnLL C els css ∧
      ∀ ad, A = some ad → (els ≠ [] → C.S ad.block ∧ ad.block < C.w.heap.size ∧ (b = true → C.B ≤ ad.block ∧ Unf C.w ad.block)) ∧ ∀ j x, css.flatten[j]? = some x → C.w.cell? (ad.add j) = some x
  | .eptr ts, u => ∃ (ad : Addr) (vs : List Value), u = .pointer (some ad) ∧ C.S ad.block ∧ ad.block < C.w.heap.size ∧ DnL C ts vs ∧ ∀ j x, vs[j]? = some x → C.w.cell? (ad.add j) = some x
  | .osl e sz els, u => ∃ (A : Option Addr) (c : Nat) (css : List (List Value)), u = .slice A els.length c ∧ C.ow u e sz els.length css.flatten ∧ (∀ x ∈ css, x.length = sz) ∧ DnLL C els css
def DnL (C : Cx) : List TV → List Value → Prop
  | [], us => us = []
  | t :: ts, us => ∃ u us', us = u :: us' ∧ Dn C t u ∧ DnL C ts us'
def DnLL (C : Cx) : List (List TV) → List (List Value) → Prop
  | [], us => us = []
  | t :: ts, us => ∃ u us', us = u :: us' ∧ DnL C t u ∧ DnLL C ts us'
end

/-- What the step from one state to another must keep. -/
structure Keeps (C C' : Cx) : Prop where
  blk : ∀ k, C.S k → k < C.w.heap.size → C'.w.heap[k]? = C.w.heap[k]? ∧ C'.S k ∧ k < C'.w.heap.size
  base : C'.B ≤ C.B
  loc : ∀ i, C.pres i → C'.pres i ∧ C'.ρ i = C.ρ i
  own : ∀ u e sz n xs, C.ow u e sz n xs → C'.ow u e sz n xs

theorem cell_keep {w w' : World} {a : Addr} {x : Value} (h : w'.heap[a.block]? = w.heap[a.block]?) (hc : w.cell? a = some x) : w'.cell? a = some x := by
  rw [World.cell?_of_block h]; exact hc

mutual
theorem Dn.keep {C C' : Cx} (K : Keeps C C') : ∀ (t : TV) (u : Value), Dn C t u → Dn C' t u
  | .any, _, _ => by simp [Dn]
  | .v x, u, h => by simp only [Dn] at h ⊢; exact h
  | .nil_, u, h => by simp only [Dn] at h ⊢; exact h
  | .agg ts, u, h => by
    simp only [Dn] at h ⊢
    obtain ⟨vs, h1, h2⟩ := h
    exact ⟨vs, h1, DnL.keep K ts vs h2⟩
  | .tup ts, u, h => by
    simp only [Dn] at h ⊢
    obtain ⟨vs, h1, h2⟩ := h
    exact ⟨vs, h1, DnL.keep K ts vs h2⟩
  | .fn f ts, u, h => by
    simp only [Dn] at h ⊢
    obtain ⟨vs, h1, h2⟩ := h
    exact ⟨vs, h1, DnL.keep K ts vs h2⟩
  | .ptr i off, u, h => by
    simp only [Dn] at h ⊢
    obtain ⟨h1, g, h2, h3⟩ := h
    exact ⟨(K.loc i h1).1, g, by rw [(K.loc i h1).2]; exact h2, h3⟩
  | .row i, u, h => by
    simp only [Dn] at h ⊢
    exact ⟨(K.loc i h.1).1, by rw [(K.loc i h.1).2]; exact h.2⟩
  | .sl b els, u, h => by
    simp only [Dn] at h ⊢
    obtain ⟨A, c, css, sz, h1, h2, h3, h4, h5, h6, h7⟩ := h
    refine ⟨A, c, css, sz, h1, h2, h3, h4, h5, DnLL.keep K els css h6, fun ad ha => ?_⟩
    obtain ⟨h8, h9⟩ := h7 ad ha
    refine ⟨fun hne => ?_, fun j x hx => ?_⟩
    · obtain ⟨h10, h11, h12⟩ := h8 hne
      obtain ⟨h13, h14, h15⟩ := K.blk _ h10 h11
      exact ⟨h14, h15, fun hb => ⟨Nat.le_trans K.base (h12 hb).1, by unfold Unf; rw [h13]; exact (h12 hb).2⟩⟩
    · have hne : els ≠ [] := by
        rintro rfl
        simp only [DnLL] at h6
        subst h6
        simp at hx
      obtain ⟨h10, h11, h12⟩ := h8 hne
      exact cell_keep (by rw [addr_block]; exact (K.blk _ h10 h11).1) (h9 j x hx)
  | .eptr ts, u, h => by
    simp only [Dn] at h ⊢
    obtain ⟨ad, vs, h1, h2, h3, h4, h5⟩ := h
    obtain ⟨h13, h14, h15⟩ := K.blk _ h2 h3
    exact ⟨ad, vs, h1, h14, h15, DnL.keep K ts vs h4, fun j x hx => cell_keep (by rw [addr_block]; exact h13) (h5 j x hx)⟩
  | .osl e sz els, u, h => by
    simp only [Dn] at h ⊢
    obtain ⟨A, c, css, h1, h2, h3, h4⟩ := h
    exact ⟨A, c, css, h1, K.own _ _ _ _ _ h2, h3, DnLL.keep K els css h4⟩
theorem DnL.keep {C C' : Cx} (K : Keeps C C') : ∀ (ts : List TV) (us : List Value), DnL C ts us → DnL C' ts us
  | [], us, h => by simp only [DnL] at h ⊢; exact h
  | t :: ts, us, h => by
    simp only [DnL] at h ⊢
    obtain ⟨u, us', h1, h2, h3⟩ := h
    exact ⟨u, us', h1, Dn.keep K t u h2, DnL.keep K ts us' h3⟩
theorem DnLL.keep {C C' : Cx} (K : Keeps C C') : ∀ (ts : List (List TV)) (us : List (List Value)), DnLL C ts us → DnLL C' ts us
  | [], us, h => by simp only [DnLL] at h ⊢; exact h
  | t :: ts, us, h => by
    simp only [DnLL] at h ⊢
    obtain ⟨u, us', h1, h2, h3⟩ := h
    exact ⟨u, us', h1, DnL.keep K t u h2, DnLL.keep K ts us' h3⟩
end

section
variable {C : Cx}
theorem DnL.len : ∀ {ts : List TV} {us : List Value}, DnL C ts us → us.length = ts.length
  | [], us, h => by simp only [DnL] at h; subst h; rfl
  | t :: ts, us, h => by
    simp only [DnL] at h
    obtain ⟨u, us', rfl, h2, h3⟩ := h
    simp [DnL.len h3]
theorem DnLL.len : ∀ {ts : List (List TV)} {us : List (List Value)}, DnLL C ts us → us.length = ts.length
  | [], us, h => by simp only [DnLL] at h; subst h; rfl
  | t :: ts, us, h => by
    simp only [DnLL] at h
    obtain ⟨u, us', rfl, h2, h3⟩ := h
    simp [DnLL.len h3]
theorem DnL.at_ : ∀ {ts : List TV} {us : List Value}, DnL C ts us → ∀ (i : Nat) (t : TV), ts[i]? = some t → ∃ u, us[i]? = some u ∧ Dn C t u
  | [], us, h, i, t, hi => by simp at hi
  | t :: ts, us, h, i, t', hi => by
    simp only [DnL] at h
    obtain ⟨u, us', rfl, h2, h3⟩ := h
    cases i with
    | zero => simp only [List.getElem?_cons_zero, Option.some.injEq] at hi ⊢; subst hi; exact ⟨u, rfl, h2⟩
    | succ i => simp only [List.getElem?_cons_succ] at hi ⊢; exact DnL.at_ h3 i t' hi
theorem DnLL.at_ : ∀ {ts : List (List TV)} {us : List (List Value)}, DnLL C ts us → ∀ (i : Nat) (t : List TV), ts[i]? = some t → ∃ u, us[i]? = some u ∧ DnL C t u
  | [], us, h, i, t, hi => by simp at hi
  | t :: ts, us, h, i, t', hi => by
    simp only [DnLL] at h
    obtain ⟨u, us', rfl, h2, h3⟩ := h
    cases i with
    | zero => simp only [List.getElem?_cons_zero, Option.some.injEq] at hi ⊢; subst hi; exact ⟨u, rfl, h2⟩
    | succ i => simp only [List.getElem?_cons_succ] at hi ⊢; exact DnLL.at_ h3 i t' hi
theorem DnL.cons {t : TV} {ts : List TV} {u : Value} {us : List Value} (h : Dn C t u) (h2 : DnL C ts us) : DnL C (t :: ts) (u :: us) := by
  simp only [DnL]; exact ⟨u, us, rfl, h, h2⟩
theorem DnLL.cons {t : List TV} {ts : List (List TV)} {u : List Value} {us : List (List Value)} (h : DnL C t u) (h2 : DnLL C ts us) : DnLL C (t :: ts) (u :: us) := by
  simp only [DnLL]; exact ⟨u, us, rfl, h, h2⟩
theorem DnL.nil : DnL C [] [] := by simp [DnL]
theorem DnLL.nil : DnLL C [] [] := by simp [DnLL]
theorem DnL.append : ∀ {ts ts' : List TV} {us us' : List Value}, DnL C ts us → DnL C ts' us' → DnL C (ts ++ ts') (us ++ us')
  | [], ts', us, us', h, h' => by simp only [DnL] at h; subst h; exact h'
  | t :: ts, ts', us, us', h, h' => by
    simp only [DnL] at h
    obtain ⟨u, us2, rfl, h2, h3⟩ := h
    exact DnL.cons h2 (DnL.append h3 h')
theorem DnLL.append : ∀ {ts ts' : List (List TV)} {us us' : List (List Value)}, DnLL C ts us → DnLL C ts' us' → DnLL C (ts ++ ts') (us ++ us')
  | [], ts', us, us', h, h' => by simp only [DnLL] at h; subst h; exact h'
  | t :: ts, ts', us, us', h, h' => by
    simp only [DnLL] at h
    obtain ⟨u, us2, rfl, h2, h3⟩ := h
    exact DnLL.cons h2 (DnLL.append h3 h')
theorem DnL.take : ∀ {ts : List TV} {us : List Value} (k : Nat), DnL C ts us → DnL C (ts.take k) (us.take k)
  | [], us, k, h => by simp only [DnL] at h; subst h; simp [DnL]
  | t :: ts, us, k, h => by
    simp only [DnL] at h
    obtain ⟨u, us2, rfl, h2, h3⟩ := h
    cases k with
    | zero => simp [DnL]
    | succ k => exact DnL.cons h2 (DnL.take k h3)
theorem DnL.drop : ∀ {ts : List TV} {us : List Value} (k : Nat), DnL C ts us → DnL C (ts.drop k) (us.drop k)
  | [], us, k, h => by simp only [DnL] at h; subst h; simp [DnL]
  | t :: ts, us, k, h => by
    cases k with
    | zero => exact h
    | succ k =>
      simp only [DnL] at h
      obtain ⟨u, us2, rfl, h2, h3⟩ := h
      exact DnL.drop k h3
theorem DnLL.take : ∀ {ts : List (List TV)} {us : List (List Value)} (k : Nat), DnLL C ts us → DnLL C (ts.take k) (us.take k)
  | [], us, k, h => by simp only [DnLL] at h; subst h; simp [DnLL]
  | t :: ts, us, k, h => by
    simp only [DnLL] at h
    obtain ⟨u, us2, rfl, h2, h3⟩ := h
    cases k with
    | zero => simp [DnLL]
    | succ k => exact DnLL.cons h2 (DnLL.take k h3)
theorem DnLL.drop : ∀ {ts : List (List TV)} {us : List (List Value)} (k : Nat), DnLL C ts us → DnLL C (ts.drop k) (us.drop k)
  | [], us, k, h => by simp only [DnLL] at h; subst h; simp [DnLL]
  | t :: ts, us, k, h => by
    cases k with
    | zero => exact h
    | succ k =>
      simp only [DnLL] at h
      obtain ⟨u, us2, rfl, h2, h3⟩ := h
      exact DnLL.drop k h3
theorem DnL.set : ∀ {ts : List TV} {us : List Value} (k : Nat) {t : TV} {u : Value}, DnL C ts us → Dn C t u → DnL C (ts.set k t) (us.set k u)
  | [], us, k, t, u, h, h' => by simp only [DnL] at h; subst h; simp [DnL]
  | t0 :: ts, us, k, t, u, h, h' => by
    simp only [DnL] at h
    obtain ⟨u0, us2, rfl, h2, h3⟩ := h
    cases k with
    | zero => exact DnL.cons h' h3
    | succ k => exact DnL.cons h2 (DnL.set k h3 h')
theorem DnLL.set : ∀ {ts : List (List TV)} {us : List (List Value)} (k : Nat) {t : List TV} {u : List Value}, DnLL C ts us → DnL C t u → DnLL C (ts.set k t) (us.set k u)
  | [], us, k, t, u, h, h' => by simp only [DnLL] at h; subst h; simp [DnLL]
  | t0 :: ts, us, k, t, u, h, h' => by
    simp only [DnLL] at h
    obtain ⟨u0, us2, rfl, h2, h3⟩ := h
    cases k with
    | zero => exact DnLL.cons h' h3
    | succ k => exact DnLL.cons h2 (DnLL.set k h3 h')
theorem DnL.anys (n : Nat) (us : List Value) (h : us.length = n) : DnL C (List.replicate n .any) us := by
  induction n generalizing us with
  | zero => simp only [List.replicate_zero, DnL]; exact List.eq_nil_of_length_eq_zero h
  | succ n ih =>
    cases us with
    | nil => simp at h
    | cons u us => rw [List.replicate_succ]; exact DnL.cons (by simp [Dn]) (ih us (by simpa using h))
end

/-- A local block. -/
inductive LB where
  | none
  | cells (t : TypeId) (cs : List TV)
  | row (e : TypeId) (sz : Nat) (els : List (List TV))
  deriving Inhabited

def LB.here : LB → Prop
  | .none => False
  | _ => True

def cxOf (B : Nat) (ρ : Nat → Value) (h : Nat → LB) (w : World) : Cx :=
  ⟨w, fun k => ∀ i, (h i).here → blkOf (ρ i) ≠ some k, B, ρ, fun i => (h i).here, fun _ _ _ _ _ => True⟩

/-- The package-level variables that are only read hold what is told of them. -/
structure GlB (B : Nat) (w : World) : Prop where
  at_ : ∀ g vs, gl g = some vs → g < B ∧ ∀ j x, vs[j]? = some x → w.cell? ⟨g, j, none⟩ = some x
  obj : ∀ g cs, glO g = some cs → g < B ∧ ∃ ty fr, w.heap[g]? = some (.cells cs ty fr)
  ifc : ∀ g, glI g = true → g < B ∧ ∃ v, w.cell? ⟨g, 0, none⟩ = some v ∧ (v = .nilIface ∨ ∃ te pe, v = .iface te pe)
/-- Whatever is no cells lies as it lay. -/
def noCells : Obj → Bool
  | .cells _ _ _ => false
  | _ => true
def Oth (w w' : World) : Prop := ∀ (k : Nat) (o : Obj), w.heap[k]? = some o → noCells o = true → w'.heap[k]? = some o
theorem Oth.refl (w : World) : Oth w w := fun _ _ h _ => h
theorem Oth.trans {a b c : World} (h : Oth a b) (h2 : Oth b c) : Oth a c := fun k o hk ho => h2 k o (h k o hk ho) ho
theorem Oth.below {w w' : World} (hb : Below w.heap.size w w') : Oth w w' := fun k o hk _ => (hb.block k (Array.getElem?_eq_some_iff.1 hk).1).trans hk
theorem Oth.setCell (w : World) (a : Addr) (v : Value) : Oth w (w.setCell a v) := fun k o hk ho => by
  by_cases e : k = a.block
  · subst e
    obtain ⟨hlt, hk'⟩ := Array.getElem?_eq_some_iff.1 hk
    show (w.heap.modify a.block _)[a.block]? = some o
    rw [Array.getElem?_eq_getElem (by rw [Array.size_modify]; exact hlt), Array.getElem_modify_self, hk']
    cases o <;> first | rfl | (simp [noCells] at ho)
  · exact (Below.heap_setCell w a v k e).trans hk
theorem Oth.grown {w w' : World} {g : Option Nat} (hg : w.grownBy w' g) (h : ∀ k, g = some k → ∃ cs ty fr, w.heap[k]? = some (.cells cs ty fr)) : Oth w w' := fun k o hk ho => by
  refine (hg.block k (Array.getElem?_eq_some_iff.1 hk).1 fun e => ?_).trans hk
  obtain ⟨cs, ty, fr, h1⟩ := h k e.symm
  rw [hk] at h1
  injection h1 with h1
  subst h1
  cases ho
/-- The local blocks as they lie in memory, apart from one another. -/
structure Rel (B : Nat) (w0 : World) (ρ : Nat → Value) (h : Nat → LB) (w : World) : Prop where
  below : Below B w0 w
  gl0 : GlB B w0
  size : B ≤ w.heap.size
  blk : ∀ i t cs, h i = .cells t cs → ∃ g vs, ρ i = .pointer (some ⟨g, 0, Option.none⟩) ∧ Blk w g t vs.toArray ∧ B ≤ g ∧ DnL (cxOf B ρ h w) cs vs
  row : ∀ i e sz els, h i = .row e sz els → ∃ A c css, ρ i = .slice A els.length c ∧ w.ownsRow B e sz (ρ i) els.length css.flatten ∧ (∀ x ∈ css, x.length = sz) ∧ DnLL (cxOf B ρ h w) els css
  sep : ∀ i j g, (h i).here → (h j).here → blkOf (ρ i) = some g → blkOf (ρ j) = some g → i = j
  inj : ∀ i g, (h i).here → blkOf (ρ i) = some g → g < w.heap.size
  oth : Oth w0 w

/-- A state: the slots, the local blocks, and the slots of those who wait for a call's end. -/
structure St where
  s : List TV
  h : List LB
  g : List TV

def hf (l : List LB) : Nat → LB := fun i => l.getD i .none

structure RelS (B : Nat) (w0 : World) (gh : List Value) (ρ : Nat → Value) (σ : St) (a : Act) (w : World) : Prop where
  slots : DnL (cxOf B ρ (hf σ.h) w) σ.s a.tmps.toList
  ghost : DnL (cxOf B ρ (hf σ.h) w) σ.g gh
  rel : Rel B w0 ρ (hf σ.h) w
  defers : a.defers = []
end Go.Proofs.YtekpmlfcmnlmiaaGreatDoor

namespace Go.Proofs.YtekpmlfcmnlmiaaGreatDoor
open Go.RowKit
set_option linter.unusedVariables false
set_option linter.unusedSimpArgs false

def updf {α : Type} (f : Nat → α) (n : Nat) (x : α) : Nat → α := fun j => if j = n then x else f j
theorem updf_same {α : Type} (f : Nat → α) (n : Nat) (x : α) : updf f n x n = x := by simp [updf]
theorem updf_ne {α : Type} (f : Nat → α) {n j : Nat} (x : α) (h : j ≠ n) : updf f n x j = f j := by simp [updf, h]

section
variable {B : Nat} {w0 w w' : World} {ρ : Nat → Value} {h : Nat → LB}

/-- Memory grows: nothing that was there has changed. -/
theorem Keeps.grow (hb : Below w.heap.size w w') : Keeps (cxOf B ρ h w) (cxOf B ρ h w') where
  blk k hS hk := ⟨hb.block k hk, hS, Nat.lt_of_lt_of_le hk hb.size⟩
  base := Nat.le_refl _
  loc i hi := ⟨hi, rfl⟩
  own _ _ _ _ _ ho := ho

theorem Rel.isC {n g : Nat} (R : Rel B w0 ρ h w) (hn : (h n).here) (hg : blkOf (ρ n) = some g) : ∃ cs ty fr, w.heap[g]? = some (.cells cs ty fr) := by
  cases hh : h n with
  | none => rw [hh] at hn; exact hn.elim
  | cells t cs =>
    obtain ⟨g', vs, h1, h2, _⟩ := R.blk n t cs hh
    rw [h1] at hg
    simp only [blkOf, Option.some.injEq] at hg
    subst hg
    exact ⟨_, _, _, h2⟩
  | row e sz els =>
    obtain ⟨A, c, css, h1, h2, _⟩ := R.row n e sz els hh
    rw [h1] at h2 hg
    rcases h2.2 with ⟨hv, _⟩ | ⟨g', cap, cur, hv, _, h3, _⟩
    · rw [hv] at hg; cases hg
    · rw [hv] at hg
      simp only [blkOf, Option.some.injEq] at hg
      subst hg
      exact ⟨_, _, _, h3⟩
theorem Rel.glb (R : Rel B w0 ρ h w) : GlB w.heap.size w where
  at_ g vs hg := by
    obtain ⟨h1, h2⟩ := R.gl0.at_ g vs hg
    exact ⟨Nat.lt_of_lt_of_le h1 R.size, fun j x hx => cell_keep (a := ⟨g, j, none⟩) (R.below.block g h1) (h2 j x hx)⟩
  obj g cs hg := by
    obtain ⟨h1, ty, fr, h2⟩ := R.gl0.obj g cs hg
    exact ⟨Nat.lt_of_lt_of_le h1 R.size, ty, fr, (R.below.block g h1).trans h2⟩
  ifc g hg := by
    obtain ⟨h1, v, h2, h3⟩ := R.gl0.ifc g hg
    exact ⟨Nat.lt_of_lt_of_le h1 R.size, v, cell_keep (a := ⟨g, 0, none⟩) (R.below.block g h1) h2, h3⟩
theorem Rel.grow (R : Rel B w0 ρ h w) (hb : Below w.heap.size w w') : Rel B w0 ρ h w' where
  below := R.below.trans (hb.mono R.size)
  gl0 := R.gl0
  size := Nat.le_trans R.size hb.size
  blk i t cs hi := by
    obtain ⟨g, vs, h1, h2, h3, h4⟩ := R.blk i t cs hi
    exact ⟨g, vs, h1, h2.below hb, h3, DnL.keep (.grow hb) _ _ h4⟩
  row i e sz els hi := by
    obtain ⟨A, c, css, h1, h2, h3, h4⟩ := R.row i e sz els hi
    exact ⟨A, c, css, h1, own_below h2 hb, h3, DnLL.keep (.grow hb) _ _ h4⟩
  sep := R.sep
  inj i g hi hg := Nat.lt_of_lt_of_le (R.inj i g hi hg) hb.size
  oth := R.oth.trans (.below hb)

/-- A new block. -/
theorem Keeps.add {n : Nat} {r : Value} {lb : LB} (hn : h n = .none) (hb : Below w.heap.size w w') (hr : ∀ g, blkOf r = some g → w.heap.size ≤ g ∧ g < w'.heap.size) :
    Keeps (cxOf B ρ h w) (cxOf B (updf ρ n r) (updf h n lb) w') where
  blk k hS hk := ⟨hb.block k hk, fun i hi => by
    by_cases hin : i = n
    · subst hin
      rw [updf_same]
      intro he
      have := (hr _ he).1
      have hk' : k < w.heap.size := hk
      omega
    · rw [updf_ne _ _ hin] at hi ⊢
      exact hS i hi, Nat.lt_of_lt_of_le hk hb.size⟩
  base := Nat.le_refl _
  loc i hi := by
    have hin : i ≠ n := by
      rintro rfl
      have hi' : (h i).here := hi
      rw [hn] at hi'
      exact hi'
    exact ⟨by show (updf h n lb i).here; rw [updf_ne _ _ hin]; exact hi, by show updf ρ n r i = ρ i; rw [updf_ne _ _ hin]⟩
  own _ _ _ _ _ ho := ho

theorem Rel.add {n : Nat} {r : Value} {lb : LB} (R : Rel B w0 ρ h w) (hn : h n = .none) (hb : Below w.heap.size w w') (hr : ∀ g, blkOf r = some g → w.heap.size ≤ g ∧ g < w'.heap.size)
    (hc : ∀ t cs, lb = .cells t cs → ∃ g vs, r = .pointer (some ⟨g, 0, none⟩) ∧ Blk w' g t vs.toArray ∧ B ≤ g ∧ DnL (cxOf B (updf ρ n r) (updf h n lb) w') cs vs)
    (ho : ∀ e sz els, lb = .row e sz els → ∃ A c css, r = .slice A els.length c ∧ w'.ownsRow B e sz r els.length css.flatten ∧ (∀ x ∈ css, x.length = sz) ∧ DnLL (cxOf B (updf ρ n r) (updf h n lb) w') els css) :
    Rel B w0 (updf ρ n r) (updf h n lb) w' where
  below := R.below.trans (hb.mono R.size)
  gl0 := R.gl0
  size := Nat.le_trans R.size hb.size
  blk i t cs hi := by
    by_cases hin : i = n
    · subst hin
      rw [updf_same] at hi ⊢
      exact hc t cs hi
    · rw [updf_ne _ _ hin] at hi ⊢
      obtain ⟨g, vs, h1, h2, h3, h4⟩ := R.blk i t cs hi
      exact ⟨g, vs, h1, h2.below hb, h3, DnL.keep (.add hn hb hr) _ _ h4⟩
  row i e sz els hi := by
    by_cases hin : i = n
    · subst hin
      rw [updf_same] at hi ⊢
      exact ho e sz els hi
    · rw [updf_ne _ _ hin] at hi ⊢
      obtain ⟨A, c, css, h1, h2, h3, h4⟩ := R.row i e sz els hi
      exact ⟨A, c, css, h1, own_below h2 hb, h3, DnLL.keep (.add hn hb hr) _ _ h4⟩
  sep i j g hi hj hgi hgj := by
    by_cases hin : i = n <;> by_cases hjn : j = n
    · rw [hin, hjn]
    · subst hin
      rw [updf_same] at hgi
      rw [updf_ne _ _ hjn] at hj hgj
      have h1 := hr g hgi
      have h2 := R.inj j g hj hgj
      omega
    · subst hjn
      rw [updf_same] at hgj
      rw [updf_ne _ _ hin] at hi hgi
      have h1 := hr g hgj
      have h2 := R.inj i g hi hgi
      omega
    · rw [updf_ne _ _ hin] at hi hgi
      rw [updf_ne _ _ hjn] at hj hgj
      exact R.sep i j g hi hj hgi hgj
  inj i g hi hg := by
    by_cases hin : i = n
    · subst hin
      rw [updf_same] at hg
      exact (hr g hg).2
    · rw [updf_ne _ _ hin] at hi hg
      exact Nat.lt_of_lt_of_le (R.inj i g hi hg) hb.size
  oth := R.oth.trans (.below hb)

/-- A block is written. -/
theorem Keeps.put {n g : Nat} {lb : LB} (hn : (h n).here) (hl : lb.here) (hg : blkOf (ρ n) = some g) (hw : w.grownBy w' (some g)) :
    Keeps (cxOf B ρ h w) (cxOf B ρ (updf h n lb) w') where
  blk k hS hk := ⟨hw.block k hk (fun e => hS n hn (by rw [hg]; exact e.symm)), fun i hi => by
    by_cases hin : i = n
    · subst hin
      exact hS i hn
    · rw [updf_ne _ _ hin] at hi
      exact hS i hi, Nat.lt_of_lt_of_le hk hw.size⟩
  base := Nat.le_refl _
  loc i hi := by
    refine ⟨?_, rfl⟩
    show (updf h n lb i).here
    by_cases hin : i = n
    · subst hin; rw [updf_same]; exact hl
    · rw [updf_ne _ _ hin]; exact hi
  own _ _ _ _ _ ho := ho

theorem Rel.put {n g : Nat} {lb : LB} (R : Rel B w0 ρ h w) (hn : (h n).here) (hl : lb.here) (hg : blkOf (ρ n) = some g) (hB : B ≤ g) (hw : w.grownBy w' (some g))
    (hc : ∀ t cs, lb = .cells t cs → ∃ g vs, ρ n = .pointer (some ⟨g, 0, none⟩) ∧ Blk w' g t vs.toArray ∧ B ≤ g ∧ DnL (cxOf B ρ (updf h n lb) w') cs vs)
    (ho : ∀ e sz els, lb = .row e sz els → ∃ A c css, ρ n = .slice A els.length c ∧ w'.ownsRow B e sz (ρ n) els.length css.flatten ∧ (∀ x ∈ css, x.length = sz) ∧ DnLL (cxOf B ρ (updf h n lb) w') els css) :
    Rel B w0 ρ (updf h n lb) w' where
  below := R.below.trans (below_of_only hw hB R.size)
  gl0 := R.gl0
  size := Nat.le_trans R.size hw.size
  blk i t cs hi := by
    by_cases hin : i = n
    · subst hin
      rw [updf_same] at hi
      exact hc t cs hi
    · rw [updf_ne _ _ hin] at hi
      obtain ⟨g', vs, h1, h2, h3, h4⟩ := R.blk i t cs hi
      refine ⟨g', vs, h1, h2.grown hw (fun e => ?_), h3, DnL.keep (.put hn hl hg hw) _ _ h4⟩
      injection e with e
      subst e
      exact hin (R.sep i n g (by rw [hi]; trivial) hn (by rw [h1]; rfl) hg)
  row i e sz els hi := by
    by_cases hin : i = n
    · subst hin
      rw [updf_same] at hi
      exact ho e sz els hi
    · rw [updf_ne _ _ hin] at hi
      obtain ⟨A, c, css, h1, h2, h3, h4⟩ := R.row i e sz els hi
      refine ⟨A, c, css, h1, ?_, h3, DnLL.keep (.put hn hl hg hw) _ _ h4⟩
      rw [h1] at h2 ⊢
      refine own_grown1 h2 hw (fun ad ha hblk => hin (R.sep i n g (by rw [hi]; trivial) hn (by rw [h1, ha]; simp [blkOf, hblk]) hg))
  sep i j g' hi hj hgi hgj := by
    have hh : ∀ i, (updf h n lb i).here → (h i).here := fun i hi => by
      by_cases hin : i = n
      · subst hin; exact hn
      · rwa [updf_ne _ _ hin] at hi
    exact R.sep i j g' (hh i hi) (hh j hj) hgi hgj
  inj i g' hi hg' := by
    have hh : (h i).here := by
      by_cases hin : i = n
      · subst hin; exact hn
      · rwa [updf_ne _ _ hin] at hi
    exact Nat.lt_of_lt_of_le (R.inj i g' hh hg') hw.size
  oth := R.oth.trans (.grown hw fun k e => by injection e with e; subst e; exact R.isC hn hg)
end

mutual
/-- A tree that speaks no longer of other blocks than those of p. -/
def kp (p : Nat → Bool) : TV → TV
  | .agg ts => .agg (kpL p ts)
  | .tup ts => .tup (kpL p ts)
  | .fn f ts => .fn f (kpL p ts)
  | .ptr i off => if p i then .ptr i off else .any
  | .row i => if p i then .row i else .any
  | .sl b els => .sl b (kpLL p els)
  | .eptr ts => .eptr (kpL p ts)
  | .osl e sz els => .osl e sz (kpLL p els)
  | .any => .any
  | .v x => .v x
  | .nil_ => .nil_
def kpL (p : Nat → Bool) : List TV → List TV
  | [] => []
  | t :: ts => kp p t :: kpL p ts
def kpLL (p : Nat → Bool) : List (List TV) → List (List TV)
  | [] => []
  | t :: ts => kpL p t :: kpLL p ts
end
theorem kpLL_len (p : Nat → Bool) : ∀ els : List (List TV), (kpLL p els).length = els.length
  | [] => rfl
  | t :: ts => by simp [kpLL, kpLL_len p ts]
theorem kpLL_nil {p : Nat → Bool} {els : List (List TV)} (h : kpLL p els ≠ []) : els ≠ [] := by
  rintro rfl
  exact h rfl

def Cx.less (C : Cx) (p : Nat → Bool) : Cx := { C with pres := fun i => C.pres i ∧ p i = true }
mutual
theorem Dn.kp {C : Cx} (p : Nat → Bool) : ∀ (t : TV) (u : Value), Dn C t u → Dn (C.less p) (kp p t) u
  | .any, u, h => by simp [Dn, Go.Proofs.YtekpmlfcmnlmiaaGreatDoor.kp]
  | .v x, u, h => by simp only [Dn, Go.Proofs.YtekpmlfcmnlmiaaGreatDoor.kp] at h ⊢; exact h
  | .nil_, u, h => by simp only [Dn, Go.Proofs.YtekpmlfcmnlmiaaGreatDoor.kp] at h ⊢; exact h
  | .agg ts, u, h => by
    simp only [Dn, Go.Proofs.YtekpmlfcmnlmiaaGreatDoor.kp] at h ⊢
    obtain ⟨vs, h1, h2⟩ := h
    exact ⟨vs, h1, DnL.kp p ts vs h2⟩
  | .tup ts, u, h => by
    simp only [Dn, Go.Proofs.YtekpmlfcmnlmiaaGreatDoor.kp] at h ⊢
    obtain ⟨vs, h1, h2⟩ := h
    exact ⟨vs, h1, DnL.kp p ts vs h2⟩
  | .fn f ts, u, h => by
    simp only [Dn, Go.Proofs.YtekpmlfcmnlmiaaGreatDoor.kp] at h ⊢
    obtain ⟨vs, h1, h2⟩ := h
    exact ⟨vs, h1, DnL.kp p ts vs h2⟩
  | .ptr i off, u, h => by
    simp only [Go.Proofs.YtekpmlfcmnlmiaaGreatDoor.kp]
    split
    · simp only [Dn] at h ⊢
      exact ⟨⟨h.1, by assumption⟩, h.2⟩
    · simp [Dn]
  | .row i, u, h => by
    simp only [Go.Proofs.YtekpmlfcmnlmiaaGreatDoor.kp]
    split
    · simp only [Dn] at h ⊢
      exact ⟨⟨h.1, by assumption⟩, h.2⟩
    · simp [Dn]
  | .sl b els, u, h => by
    simp only [Dn, Go.Proofs.YtekpmlfcmnlmiaaGreatDoor.kp] at h ⊢
    obtain ⟨A, c, css, sz, h1, h2, h3, h4, h5, h6, h7⟩ := h
    rw [kpLL_len]
    exact ⟨A, c, css, sz, h1, h2, h3, fun ha => by rw [h4 ha]; rfl, h5, DnLL.kp p els css h6, fun ad ha => ⟨fun hne => (h7 ad ha).1 (kpLL_nil hne), (h7 ad ha).2⟩⟩
  | .eptr ts, u, h => by
    simp only [Dn, Go.Proofs.YtekpmlfcmnlmiaaGreatDoor.kp] at h ⊢
    obtain ⟨ad, vs, h1, h2, h3, h4, h5⟩ := h
    exact ⟨ad, vs, h1, h2, h3, DnL.kp p ts vs h4, h5⟩
  | .osl e sz els, u, h => by
    simp only [Dn, Go.Proofs.YtekpmlfcmnlmiaaGreatDoor.kp] at h ⊢
    obtain ⟨A, c, css, h1, h2, h3, h4⟩ := h
    rw [kpLL_len]
    exact ⟨A, c, css, h1, h2, h3, DnLL.kp p els css h4⟩
theorem DnL.kp {C : Cx} (p : Nat → Bool) : ∀ (ts : List TV) (us : List Value), DnL C ts us → DnL (C.less p) (kpL p ts) us
  | [], us, h => by simp only [DnL, kpL] at h ⊢; exact h
  | t :: ts, us, h => by
    simp only [DnL, kpL] at h ⊢
    obtain ⟨u, us', h1, h2, h3⟩ := h
    exact ⟨u, us', h1, Dn.kp p t u h2, DnL.kp p ts us' h3⟩
theorem DnLL.kp {C : Cx} (p : Nat → Bool) : ∀ (ts : List (List TV)) (us : List (List Value)), DnLL C ts us → DnLL (C.less p) (kpLL p ts) us
  | [], us, h => by simp only [DnLL, kpLL] at h ⊢; exact h
  | t :: ts, us, h => by
    simp only [DnLL, kpLL] at h ⊢
    obtain ⟨u, us', h1, h2, h3⟩ := h
    exact ⟨u, us', h1, DnL.kp p t u h2, DnLL.kp p ts us' h3⟩
end

def LB.kp (p : Nat → Bool) : LB → LB
  | .none => .none
  | .cells t cs => .cells t (kpL p cs)
  | .row e sz els => .row e sz (kpLL p els)
theorem LB.kp_here {p : Nat → Bool} {b : LB} : (b.kp p).here ↔ b.here := by cases b <;> simp [LB.kp, LB.here]
/-- All but n. -/
def bar (n : Nat) : Nat → Bool := fun i => decide (i ≠ n)

section
variable {B : Nat} {w0 w w' : World} {ρ : Nat → Value} {h : Nat → LB}
/-- A block that has a new place, or none: who speaks of it no longer does. -/
theorem Keeps.renew {n : Nat} {r : Value} {lb : LB} (hn : (h n).here) (hw : w.grownBy w' (blkOf (ρ n))) (hr : ∀ g, blkOf r = some g → blkOf (ρ n) = some g ∨ w.heap.size ≤ g) :
    Keeps ((cxOf B ρ h w).less (bar n)) (cxOf B (updf ρ n r) (updf (fun i => (h i).kp (bar n)) n lb) w') where
  blk k hS hk := ⟨hw.block k hk (fun e => hS n hn e.symm), fun i hi => by
    by_cases hin : i = n
    · subst hin
      rw [updf_same]
      intro he
      rcases hr _ he with h1 | h1
      · exact hS i hn h1
      · have hk' : k < w.heap.size := hk
        omega
    · rw [updf_ne _ _ hin] at hi ⊢
      exact hS i (LB.kp_here.1 hi), Nat.lt_of_lt_of_le hk hw.size⟩
  base := Nat.le_refl _
  loc i hi := by
    obtain ⟨h1, h2'⟩ : (h i).here ∧ bar n i = true := hi
    have h2 : i ≠ n := by simpa [bar] using h2'
    exact ⟨by show (updf (fun i => (h i).kp (bar n)) n lb i).here; rw [updf_ne _ _ h2]; exact LB.kp_here.2 h1, by show updf ρ n r i = ρ i; rw [updf_ne _ _ h2]⟩
  own _ _ _ _ _ ho := ho

theorem Rel.renew {n : Nat} {r : Value} {lb : LB} (R : Rel B w0 ρ h w) (hn : (h n).here) (hw : w.grownBy w' (blkOf (ρ n))) (hBn : ∀ g, blkOf (ρ n) = some g → B ≤ g)
    (hr : ∀ g, blkOf r = some g → g < w'.heap.size ∧ (blkOf (ρ n) = some g ∨ w.heap.size ≤ g))
    (hc : ∀ t cs, lb = .cells t cs → ∃ g vs, r = .pointer (some ⟨g, 0, none⟩) ∧ Blk w' g t vs.toArray ∧ B ≤ g ∧ DnL (cxOf B (updf ρ n r) (updf (fun i => (h i).kp (bar n)) n lb) w') cs vs)
    (ho : ∀ e sz els, lb = .row e sz els → ∃ A c css, r = .slice A els.length c ∧ w'.ownsRow B e sz r els.length css.flatten ∧ (∀ x ∈ css, x.length = sz) ∧ DnLL (cxOf B (updf ρ n r) (updf (fun i => (h i).kp (bar n)) n lb) w') els css) :
    Rel B w0 (updf ρ n r) (updf (fun i => (h i).kp (bar n)) n lb) w' where
  gl0 := R.gl0
  below := R.below.trans (by
    refine ⟨hw.os, hw.tape, hw.output, hw.size, fun k hk => hw.block k (Nat.lt_of_lt_of_le hk R.size) (fun e => ?_)⟩
    have := hBn k e.symm
    omega)
  size := Nat.le_trans R.size hw.size
  blk i t cs hi := by
    by_cases hin : i = n
    · subst hin
      rw [updf_same] at hi ⊢
      exact hc t cs hi
    · rw [updf_ne _ _ hin] at hi ⊢
      cases hh : h i with
      | none => rw [hh] at hi; cases hi
      | row e sz els => rw [hh] at hi; cases hi
      | cells t' cs' =>
        rw [hh] at hi
        simp only [LB.kp, LB.cells.injEq] at hi
        obtain ⟨rfl, rfl⟩ := hi
        obtain ⟨g, vs, h1, h2, h3, h4⟩ := R.blk i _ _ hh
        refine ⟨g, vs, h1, h2.grown hw (fun e => ?_), h3, DnL.keep (.renew hn hw (fun g hg => (hr g hg).2)) _ _ (DnL.kp (bar n) _ _ h4)⟩
        exact hin (R.sep i n g (by rw [hh]; trivial) hn (by rw [h1]; rfl) e)
  row i e sz els hi := by
    by_cases hin : i = n
    · subst hin
      rw [updf_same] at hi ⊢
      exact ho e sz els hi
    · rw [updf_ne _ _ hin] at hi ⊢
      cases hh : h i with
      | none => rw [hh] at hi; cases hi
      | cells t' cs' => rw [hh] at hi; cases hi
      | row e' sz' els' =>
        rw [hh] at hi
        simp only [LB.kp, LB.row.injEq] at hi
        obtain ⟨rfl, rfl, rfl⟩ := hi
        obtain ⟨A, c, css, h1, h2, h3, h4⟩ := R.row i _ _ _ hh
        rw [kpLL_len]
        refine ⟨A, c, css, h1, ?_, h3, DnLL.keep (.renew hn hw (fun g hg => (hr g hg).2)) _ _ (DnLL.kp (bar n) _ _ h4)⟩
        rw [h1] at h2 ⊢
        rcases hA : A with _ | ad
        · subst hA; exact h2.kept hw (.inl rfl)
        · subst hA
          refine h2.kept hw (.inr (fun e => hin ?_))
          simp only [Value.ownBlock] at e
          exact R.sep i n ad.block (by rw [hh]; trivial) hn (by rw [h1]; rfl) e.symm
  sep i j g hi hj hgi hgj := by
    by_cases hin : i = n <;> by_cases hjn : j = n
    · rw [hin, hjn]
    · subst hin
      rw [updf_same] at hgi
      rw [updf_ne _ _ hjn] at hj hgj
      rcases (hr g hgi).2 with h1 | h1
      · exact R.sep i j g hn (LB.kp_here.1 hj) h1 hgj
      · have h2 := R.inj j g (LB.kp_here.1 hj) hgj
        omega
    · subst hjn
      rw [updf_same] at hgj
      rw [updf_ne _ _ hin] at hi hgi
      rcases (hr g hgj).2 with h1 | h1
      · exact R.sep i j g (LB.kp_here.1 hi) hn hgi h1
      · have h2 := R.inj i g (LB.kp_here.1 hi) hgi
        omega
    · rw [updf_ne _ _ hin] at hi hgi
      rw [updf_ne _ _ hjn] at hj hgj
      exact R.sep i j g (LB.kp_here.1 hi) (LB.kp_here.1 hj) hgi hgj
  inj i g hi hg := by
    by_cases hin : i = n
    · subst hin
      rw [updf_same] at hg
      exact (hr g hg).1
    · rw [updf_ne _ _ hin] at hi hg
      exact Nat.lt_of_lt_of_le (R.inj i g (LB.kp_here.1 hi) hg) hw.size
  oth := R.oth.trans (.grown hw fun k e => R.isC hn e)
end
end Go.Proofs.YtekpmlfcmnlmiaaGreatDoor

/- Words that every walk of this seat uses: lists of integers as cells, what is equal, what a walk ends with. No condition. -/
import Derived.Test.YtpgfhkbnngjegaaGreatDoorGl
import Derived.Test.YtpgfhkbnngjegaaGreatDoorRows
import Derived.WalkKit
import Derived.BigQuiet
import Derived.WalkLawsBesides
import Derived.Lib.Hide
import Derived.WalkSpells
import Derived.Deep.QuietTactic
import Derived.Deep.RegionHeld3
namespace Go.Proofs.YtpgfhkbnngjegaaGreatDoor
open Go.RowKit
set_option linter.unusedVariables false
set_option linter.unusedSimpArgs false

/-- A value as a tree. any: nothing is known; v: just this value; nil_: the nil slice; ptr i off: a place in the local block i; row i: the slice of the local row i; sl: a slice that is only read, by its elements' cells (true: it lies in memory that was made since the function began); eptr: an address in memory that is only read, by the cells from there on; osl: a slice in memory of its own (a result); z i t: a tree that lies all in the blocks that the local block i takes; win i k sz: the local row i from element k on. -/
inductive TV where
  | any
  | v (x : Value)
  | nil_
  | agg (ts : List TV)
  | tup (ts : List TV)
  | fn (f : Fn) (ts : List TV)
  | ptr (i off : Nat)
  | row (i : Nat)
  | sl (b : Bool) (els : List (List TV))
  | eptr (ts : List TV)
  | osl (e : TypeId) (sz : Nat) (els : List (List TV))
  | z (i : Nat) (t : TV)
  | win (i k sz : Nat)
  deriving Inhabited

structure Cx where
  w : World
  S : Nat → Prop
  B : Nat
  ρ : Nat → Value
  pres : Nat → Prop
  ow : Value → TypeId → Nat → Nat → List Value → Prop
  Z : Nat → Nat → Prop

def blkOf : Value → Option Nat
  | .pointer (some a) => some a.block
  | .slice (some a) _ _ => some a.block
  | _ => none

mutual
/-- A tree that lies in some blocks, all of it. -/
def DnZ (w : World) (S : Nat → Prop) (B : Nat) : TV → Value → Prop
  | .any, _ => True
  | .v x, u => u = x
  | .nil_, u => u = .slice none 0 0
  | .agg ts, u => ∃ vs : List Value, u = .agg vs.toArray ∧ DnZL w S B ts vs
  | .tup ts, u => ∃ vs : List Value, u = .tuple vs.toArray ∧ DnZL w S B ts vs
  | .fn f ts, u => ∃ vs : List Value, u = .func f #[] vs.toArray ∧ DnZL w S B ts vs
  | .sl b els, u => ∃ (A : Option Addr) (c : Nat) (css : List (List Value)) (sz : Nat), u = .slice A els.length c ∧ els.length ≤ c ∧ c ≤ maxLen ∧ (A = none → els = []) ∧ (∀ x ∈ css, x.length = sz) ∧ DnZLL w S B els css ∧
      ∀ ad, A = some ad → (els ≠ [] → S ad.block ∧ ad.block < w.heap.size ∧ (b = true → B ≤ ad.block ∧ Unf w ad.block)) ∧ ∀ j x, css.flatten[j]? = some x → w.cell? (ad.add j) = some x
  | .eptr ts, u => ∃ (ad : Addr) (vs : List Value), u = .pointer (some ad) ∧ S ad.block ∧ ad.block < w.heap.size ∧ DnZL w S B ts vs ∧ ∀ j x, vs[j]? = some x → w.cell? (ad.add j) = some x
  | .ptr _ _, _ => False
  | .row _, _ => False
  | .osl _ _ _, _ => False
  | .z _ _, _ => False
  | .win _ _ _, _ => False
def DnZL (w : World) (S : Nat → Prop) (B : Nat) : List TV → List Value → Prop
  | [], us => us = []
  | t :: ts, us => ∃ u us', us = u :: us' ∧ DnZ w S B t u ∧ DnZL w S B ts us'
def DnZLL (w : World) (S : Nat → Prop) (B : Nat) : List (List TV) → List (List Value) → Prop
  | [], us => us = []
  | t :: ts, us => ∃ u us', us = u :: us' ∧ DnZL w S B t u ∧ DnZLL w S B ts us'
end

/-- Where a row's slice from element k on leads. -/
def WinA (A A' : Option Addr) (k c sz : Nat) : Prop := k < c → ∃ ad, A = some ad ∧ A' = some ⟨ad.block, ad.off + k * sz, none⟩
mutual
def Dn (C : Cx) : TV → Value → Prop
  | .any, _ => True
  | .v x, u => u = x
  | .nil_, u => u = .slice none 0 0
  | .agg ts, u => ∃ vs : List Value, u = .agg vs.toArray ∧ DnL C ts vs
  | .tup ts, u => ∃ vs : List Value, u = .tuple vs.toArray ∧ DnL C ts vs
  | .fn f ts, u => ∃ vs : List Value, u = .func f #[] vs.toArray ∧ DnL C ts vs
  | .ptr i off, u => C.pres i ∧ ∃ g, blkOf (C.ρ i) = some g ∧ u = .pointer (some ⟨g, off, none⟩)
  | .row i, u => C.pres i ∧ u = C.ρ i
  | .sl b els, u => ∃ (A : Option Addr) (c : Nat) (css : List (List Value)) (sz : Nat), u = .slice A els.length c ∧ els.length ≤ c ∧ c ≤ maxLen ∧ (A = none → els = []) ∧ (∀ x ∈ css, x.length = sz) ∧ DnLL C els css ∧
      ∀ ad, A = some ad → (els ≠ [] → C.S ad.block ∧ ad.block < C.w.heap.size ∧ (b = true → C.B ≤ ad.block ∧ Unf C.w ad.block)) ∧ ∀ j x, css.flatten[j]? = some x → C.w.cell? (ad.add j) = some x
  | .eptr ts, u => ∃ (ad : Addr) (vs : List Value), u = .pointer (some ad) ∧ C.S ad.block ∧ ad.block < C.w.heap.size ∧ DnL C ts vs ∧ ∀ j x, vs[j]? = some x → C.w.cell? (ad.add j) = some x
  | .osl e sz els, u => ∃ (A : Option Addr) (c : Nat) (css : List (List Value)), u = .slice A els.length c ∧ C.ow u e sz els.length css.flatten ∧ (∀ x ∈ css, x.length = sz) ∧ DnLL C els css
  | .z i t, u => C.pres i ∧ DnZ C.w (C.Z i) C.B t u
  | .win i k sz, u => C.pres i ∧ ∃ A n c, C.ρ i = .slice A n c ∧ k ≤ n ∧ ∃ A', u = .slice A' (n - k) (c - k) ∧ WinA A A' k c sz
def DnL (C : Cx) : List TV → List Value → Prop
  | [], us => us = []
  | t :: ts, us => ∃ u us', us = u :: us' ∧ Dn C t u ∧ DnL C ts us'
def DnLL (C : Cx) : List (List TV) → List (List Value) → Prop
  | [], us => us = []
  | t :: ts, us => ∃ u us', us = u :: us' ∧ DnL C t u ∧ DnLL C ts us'
end

/-- What the step from one state to another must keep. -/
structure Keeps (C C' : Cx) : Prop where
  blk : ∀ k, C.S k → k < C.w.heap.size → C'.w.heap[k]? = C.w.heap[k]? ∧ C'.S k ∧ k < C'.w.heap.size
  base : C'.B ≤ C.B
  loc : ∀ i, C.pres i → C'.pres i ∧ C'.ρ i = C.ρ i
  own : ∀ u e sz n xs, C.ow u e sz n xs → C'.ow u e sz n xs
  zn : ∀ i k, C.pres i → C.Z i k → k < C.w.heap.size → C'.w.heap[k]? = C.w.heap[k]? ∧ C'.Z i k ∧ k < C'.w.heap.size

theorem cell_keep {w w' : World} {a : Addr} {x : Value} (h : w'.heap[a.block]? = w.heap[a.block]?) (hc : w.cell? a = some x) : w'.cell? a = some x := by
  rw [World.cell?_of_block h]; exact hc

theorem cell_keepC {w w' : World} {a : Addr} {x : Value} (h : ∀ (cs : Array Value) (ty : TypeId) (fr : Nat × Nat), w.heap[a.block]? = some (Obj.cells cs ty fr) → w'.heap[a.block]? = some (Obj.cells cs ty fr)) (hc : w.cell? a = some x) : w'.cell? a = some x := by
  cases hb : w.heap[a.block]? with
  | none => simp [World.cell?, hb] at hc
  | some o =>
    cases o with
    | cells cs ty fr => exact cell_keep (by rw [hb]; exact h _ _ _ hb) hc
    | _ => simp [World.cell?, hb] at hc
mutual
theorem DnZ.keep {w w' : World} {S S' : Nat → Prop} {B B' : Nat} (K : ∀ k, S k → k < w.heap.size → (∀ (cs : Array Value) (ty : TypeId) (fr : Nat × Nat), w.heap[k]? = some (Obj.cells cs ty fr) → w'.heap[k]? = some (Obj.cells cs ty fr)) ∧ S' k ∧ k < w'.heap.size) (hB : B' ≤ B) : ∀ (t : TV) (u : Value), DnZ w S B t u → DnZ w' S' B' t u
  | .any, _, _ => by simp [DnZ]
  | .v x, u, h => by simp only [DnZ] at h ⊢; exact h
  | .nil_, u, h => by simp only [DnZ] at h ⊢; exact h
  | .agg ts, u, h => by
    simp only [DnZ] at h ⊢
    obtain ⟨vs, h1, h2⟩ := h
    exact ⟨vs, h1, DnZL.keep K hB ts vs h2⟩
  | .tup ts, u, h => by
    simp only [DnZ] at h ⊢
    obtain ⟨vs, h1, h2⟩ := h
    exact ⟨vs, h1, DnZL.keep K hB ts vs h2⟩
  | .fn f ts, u, h => by
    simp only [DnZ] at h ⊢
    obtain ⟨vs, h1, h2⟩ := h
    exact ⟨vs, h1, DnZL.keep K hB ts vs h2⟩
  | .sl b els, u, h => by
    simp only [DnZ] at h ⊢
    obtain ⟨A, c, css, sz, h1, h2, h3, h4, h5, h6, h7⟩ := h
    refine ⟨A, c, css, sz, h1, h2, h3, h4, h5, DnZLL.keep K hB els css h6, fun ad ha => ?_⟩
    obtain ⟨h8, h9⟩ := h7 ad ha
    refine ⟨fun hne => ?_, fun j x hx => ?_⟩
    · obtain ⟨h10, h11, h12⟩ := h8 hne
      obtain ⟨h13, h14, h15⟩ := K _ h10 h11
      refine ⟨h14, h15, fun hb => ⟨Nat.le_trans hB (h12 hb).1, ?_⟩⟩
      obtain ⟨cur, ty, h16⟩ := (h12 hb).2
      exact ⟨cur, ty, h13 _ _ _ h16⟩
    · have hne : els ≠ [] := by
        rintro rfl
        simp only [DnZLL] at h6
        subst h6
        simp at hx
      obtain ⟨h10, h11, h12⟩ := h8 hne
      exact cell_keepC (by rw [addr_block]; exact (K _ h10 h11).1) (h9 j x hx)
  | .eptr ts, u, h => by
    simp only [DnZ] at h ⊢
    obtain ⟨ad, vs, h1, h2, h3, h4, h5⟩ := h
    obtain ⟨h13, h14, h15⟩ := K _ h2 h3
    exact ⟨ad, vs, h1, h14, h15, DnZL.keep K hB ts vs h4, fun j x hx => cell_keepC (by rw [addr_block]; exact h13) (h5 j x hx)⟩
  | .ptr _ _, _, h | .row _, _, h | .osl _ _ _, _, h | .z _ _, _, h | .win _ _ _, _, h => by simp only [DnZ] at h
theorem DnZL.keep {w w' : World} {S S' : Nat → Prop} {B B' : Nat} (K : ∀ k, S k → k < w.heap.size → (∀ (cs : Array Value) (ty : TypeId) (fr : Nat × Nat), w.heap[k]? = some (Obj.cells cs ty fr) → w'.heap[k]? = some (Obj.cells cs ty fr)) ∧ S' k ∧ k < w'.heap.size) (hB : B' ≤ B) : ∀ (ts : List TV) (us : List Value), DnZL w S B ts us → DnZL w' S' B' ts us
  | [], us, h => by simp only [DnZL] at h ⊢; exact h
  | t :: ts, us, h => by
    simp only [DnZL] at h ⊢
    obtain ⟨u, us', h1, h2, h3⟩ := h
    exact ⟨u, us', h1, DnZ.keep K hB t u h2, DnZL.keep K hB ts us' h3⟩
theorem DnZLL.keep {w w' : World} {S S' : Nat → Prop} {B B' : Nat} (K : ∀ k, S k → k < w.heap.size → (∀ (cs : Array Value) (ty : TypeId) (fr : Nat × Nat), w.heap[k]? = some (Obj.cells cs ty fr) → w'.heap[k]? = some (Obj.cells cs ty fr)) ∧ S' k ∧ k < w'.heap.size) (hB : B' ≤ B) : ∀ (ts : List (List TV)) (us : List (List Value)), DnZLL w S B ts us → DnZLL w' S' B' ts us
  | [], us, h => by simp only [DnZLL] at h ⊢; exact h
  | t :: ts, us, h => by
    simp only [DnZLL] at h ⊢
    obtain ⟨u, us', h1, h2, h3⟩ := h
    exact ⟨u, us', h1, DnZL.keep K hB t u h2, DnZLL.keep K hB ts us' h3⟩
end
mutual
/-- What lies in some blocks is read where these may be read. -/
theorem DnZ.dn {C : Cx} {S : Nat → Prop} {B : Nat} (hS : ∀ k, S k → k < C.w.heap.size → C.S k) (hB : C.B ≤ B) : ∀ (t : TV) (u : Value), DnZ C.w S B t u → Dn C t u
  | .any, _, _ => by simp [Dn]
  | .v x, u, h => by simp only [DnZ, Dn] at h ⊢; exact h
  | .nil_, u, h => by simp only [DnZ, Dn] at h ⊢; exact h
  | .agg ts, u, h => by
    simp only [DnZ, Dn] at h ⊢
    obtain ⟨vs, h1, h2⟩ := h
    exact ⟨vs, h1, DnZL.dn hS hB ts vs h2⟩
  | .tup ts, u, h => by
    simp only [DnZ, Dn] at h ⊢
    obtain ⟨vs, h1, h2⟩ := h
    exact ⟨vs, h1, DnZL.dn hS hB ts vs h2⟩
  | .fn f ts, u, h => by
    simp only [DnZ, Dn] at h ⊢
    obtain ⟨vs, h1, h2⟩ := h
    exact ⟨vs, h1, DnZL.dn hS hB ts vs h2⟩
  | .sl b els, u, h => by
    simp only [DnZ, Dn] at h ⊢
    obtain ⟨A, c, css, sz, h1, h2, h3, h4, h5, h6, h7⟩ := h
    refine ⟨A, c, css, sz, h1, h2, h3, h4, h5, DnZLL.dn hS hB els css h6, fun ad ha => ⟨fun hne => ?_, (h7 ad ha).2⟩⟩
    obtain ⟨h10, h11, h12⟩ := (h7 ad ha).1 hne
    exact ⟨hS _ h10 h11, h11, fun hb => ⟨Nat.le_trans hB (h12 hb).1, (h12 hb).2⟩⟩
  | .eptr ts, u, h => by
    simp only [DnZ, Dn] at h ⊢
    obtain ⟨ad, vs, h1, h2, h3, h4, h5⟩ := h
    exact ⟨ad, vs, h1, hS _ h2 h3, h3, DnZL.dn hS hB ts vs h4, h5⟩
  | .ptr _ _, _, h | .row _, _, h | .osl _ _ _, _, h | .z _ _, _, h | .win _ _ _, _, h => by simp only [DnZ] at h
theorem DnZL.dn {C : Cx} {S : Nat → Prop} {B : Nat} (hS : ∀ k, S k → k < C.w.heap.size → C.S k) (hB : C.B ≤ B) : ∀ (ts : List TV) (us : List Value), DnZL C.w S B ts us → DnL C ts us
  | [], us, h => by simp only [DnZL, DnL] at h ⊢; exact h
  | t :: ts, us, h => by
    simp only [DnZL, DnL] at h ⊢
    obtain ⟨u, us', h1, h2, h3⟩ := h
    exact ⟨u, us', h1, DnZ.dn hS hB t u h2, DnZL.dn hS hB ts us' h3⟩
theorem DnZLL.dn {C : Cx} {S : Nat → Prop} {B : Nat} (hS : ∀ k, S k → k < C.w.heap.size → C.S k) (hB : C.B ≤ B) : ∀ (ts : List (List TV)) (us : List (List Value)), DnZLL C.w S B ts us → DnLL C ts us
  | [], us, h => by simp only [DnZLL, DnLL] at h ⊢; exact h
  | t :: ts, us, h => by
    simp only [DnZLL, DnLL] at h ⊢
    obtain ⟨u, us', h1, h2, h3⟩ := h
    exact ⟨u, us', h1, DnZL.dn hS hB t u h2, DnZLL.dn hS hB ts us' h3⟩
end

mutual
theorem Dn.keep {C C' : Cx} (K : Keeps C C') : ∀ (t : TV) (u : Value), Dn C t u → Dn C' t u
  | .any, _, _ => by simp [Dn]
  | .v x, u, h => by simp only [Dn] at h ⊢; exact h
  | .nil_, u, h => by simp only [Dn] at h ⊢; exact h
  | .agg ts, u, h => by
    simp only [Dn] at h ⊢
    obtain ⟨vs, h1, h2⟩ := h
    exact ⟨vs, h1, DnL.keep K ts vs h2⟩
  | .tup ts, u, h => by
    simp only [Dn] at h ⊢
    obtain ⟨vs, h1, h2⟩ := h
    exact ⟨vs, h1, DnL.keep K ts vs h2⟩
  | .fn f ts, u, h => by
    simp only [Dn] at h ⊢
    obtain ⟨vs, h1, h2⟩ := h
    exact ⟨vs, h1, DnL.keep K ts vs h2⟩
  | .ptr i off, u, h => by
    simp only [Dn] at h ⊢
    obtain ⟨h1, g, h2, h3⟩ := h
    exact ⟨(K.loc i h1).1, g, by rw [(K.loc i h1).2]; exact h2, h3⟩
  | .row i, u, h => by
    simp only [Dn] at h ⊢
    exact ⟨(K.loc i h.1).1, by rw [(K.loc i h.1).2]; exact h.2⟩
  | .sl b els, u, h => by
    simp only [Dn] at h ⊢
    obtain ⟨A, c, css, sz, h1, h2, h3, h4, h5, h6, h7⟩ := h
    refine ⟨A, c, css, sz, h1, h2, h3, h4, h5, DnLL.keep K els css h6, fun ad ha => ?_⟩
    obtain ⟨h8, h9⟩ := h7 ad ha
    refine ⟨fun hne => ?_, fun j x hx => ?_⟩
    · obtain ⟨h10, h11, h12⟩ := h8 hne
      obtain ⟨h13, h14, h15⟩ := K.blk _ h10 h11
      exact ⟨h14, h15, fun hb => ⟨Nat.le_trans K.base (h12 hb).1, by unfold Unf; rw [h13]; exact (h12 hb).2⟩⟩
    · have hne : els ≠ [] := by
        rintro rfl
        simp only [DnLL] at h6
        subst h6
        simp at hx
      obtain ⟨h10, h11, h12⟩ := h8 hne
      exact cell_keep (by rw [addr_block]; exact (K.blk _ h10 h11).1) (h9 j x hx)
  | .eptr ts, u, h => by
    simp only [Dn] at h ⊢
    obtain ⟨ad, vs, h1, h2, h3, h4, h5⟩ := h
    obtain ⟨h13, h14, h15⟩ := K.blk _ h2 h3
    exact ⟨ad, vs, h1, h14, h15, DnL.keep K ts vs h4, fun j x hx => cell_keep (by rw [addr_block]; exact h13) (h5 j x hx)⟩
  | .osl e sz els, u, h => by
    simp only [Dn] at h ⊢
    obtain ⟨A, c, css, h1, h2, h3, h4⟩ := h
    exact ⟨A, c, css, h1, K.own _ _ _ _ _ h2, h3, DnLL.keep K els css h4⟩
  | .z i t, u, h => by
    simp only [Dn] at h ⊢
    exact ⟨(K.loc i h.1).1, DnZ.keep (fun k hk hl => by obtain ⟨a, b, c⟩ := K.zn i k h.1 hk hl; exact ⟨fun _ _ _ e => a.trans e, b, c⟩) K.base t u h.2⟩
  | .win i k sz, u, h => by
    simp only [Dn] at h ⊢
    obtain ⟨h1, g, n, c, h2, h3⟩ := h
    exact ⟨(K.loc i h1).1, g, n, c, by rw [(K.loc i h1).2]; exact h2, h3⟩
theorem DnL.keep {C C' : Cx} (K : Keeps C C') : ∀ (ts : List TV) (us : List Value), DnL C ts us → DnL C' ts us
  | [], us, h => by simp only [DnL] at h ⊢; exact h
  | t :: ts, us, h => by
    simp only [DnL] at h ⊢
    obtain ⟨u, us', h1, h2, h3⟩ := h
    exact ⟨u, us', h1, Dn.keep K t u h2, DnL.keep K ts us' h3⟩
theorem DnLL.keep {C C' : Cx} (K : Keeps C C') : ∀ (ts : List (List TV)) (us : List (List Value)), DnLL C ts us → DnLL C' ts us
  | [], us, h => by simp only [DnLL] at h ⊢; exact h
  | t :: ts, us, h => by
    simp only [DnLL] at h ⊢
    obtain ⟨u, us', h1, h2, h3⟩ := h
    exact ⟨u, us', h1, DnL.keep K t u h2, DnLL.keep K ts us' h3⟩
end

section
variable {C : Cx}
theorem DnL.len : ∀ {ts : List TV} {us : List Value}, DnL C ts us → us.length = ts.length
  | [], us, h => by simp only [DnL] at h; subst h; rfl
  | t :: ts, us, h => by
    simp only [DnL] at h
    obtain ⟨u, us', rfl, h2, h3⟩ := h
    simp [DnL.len h3]
theorem DnLL.len : ∀ {ts : List (List TV)} {us : List (List Value)}, DnLL C ts us → us.length = ts.length
  | [], us, h => by simp only [DnLL] at h; subst h; rfl
  | t :: ts, us, h => by
    simp only [DnLL] at h
    obtain ⟨u, us', rfl, h2, h3⟩ := h
    simp [DnLL.len h3]
theorem DnL.at_ : ∀ {ts : List TV} {us : List Value}, DnL C ts us → ∀ (i : Nat) (t : TV), ts[i]? = some t → ∃ u, us[i]? = some u ∧ Dn C t u
  | [], us, h, i, t, hi => by simp at hi
  | t :: ts, us, h, i, t', hi => by
    simp only [DnL] at h
    obtain ⟨u, us', rfl, h2, h3⟩ := h
    cases i with
    | zero => simp only [List.getElem?_cons_zero, Option.some.injEq] at hi ⊢; subst hi; exact ⟨u, rfl, h2⟩
    | succ i => simp only [List.getElem?_cons_succ] at hi ⊢; exact DnL.at_ h3 i t' hi
theorem DnLL.at_ : ∀ {ts : List (List TV)} {us : List (List Value)}, DnLL C ts us → ∀ (i : Nat) (t : List TV), ts[i]? = some t → ∃ u, us[i]? = some u ∧ DnL C t u
  | [], us, h, i, t, hi => by simp at hi
  | t :: ts, us, h, i, t', hi => by
    simp only [DnLL] at h
    obtain ⟨u, us', rfl, h2, h3⟩ := h
    cases i with
    | zero => simp only [List.getElem?_cons_zero, Option.some.injEq] at hi ⊢; subst hi; exact ⟨u, rfl, h2⟩
    | succ i => simp only [List.getElem?_cons_succ] at hi ⊢; exact DnLL.at_ h3 i t' hi
theorem DnL.cons {t : TV} {ts : List TV} {u : Value} {us : List Value} (h : Dn C t u) (h2 : DnL C ts us) : DnL C (t :: ts) (u :: us) := by
  simp only [DnL]; exact ⟨u, us, rfl, h, h2⟩
theorem DnLL.cons {t : List TV} {ts : List (List TV)} {u : List Value} {us : List (List Value)} (h : DnL C t u) (h2 : DnLL C ts us) : DnLL C (t :: ts) (u :: us) := by
  simp only [DnLL]; exact ⟨u, us, rfl, h, h2⟩
theorem DnL.nil : DnL C [] [] := by simp [DnL]
theorem DnLL.nil : DnLL C [] [] := by simp [DnLL]
theorem DnL.append : ∀ {ts ts' : List TV} {us us' : List Value}, DnL C ts us → DnL C ts' us' → DnL C (ts ++ ts') (us ++ us')
  | [], ts', us, us', h, h' => by simp only [DnL] at h; subst h; exact h'
  | t :: ts, ts', us, us', h, h' => by
    simp only [DnL] at h
    obtain ⟨u, us2, rfl, h2, h3⟩ := h
    exact DnL.cons h2 (DnL.append h3 h')
theorem DnLL.append : ∀ {ts ts' : List (List TV)} {us us' : List (List Value)}, DnLL C ts us → DnLL C ts' us' → DnLL C (ts ++ ts') (us ++ us')
  | [], ts', us, us', h, h' => by simp only [DnLL] at h; subst h; exact h'
  | t :: ts, ts', us, us', h, h' => by
    simp only [DnLL] at h
    obtain ⟨u, us2, rfl, h2, h3⟩ := h
    exact DnLL.cons h2 (DnLL.append h3 h')
theorem DnL.take : ∀ {ts : List TV} {us : List Value} (k : Nat), DnL C ts us → DnL C (ts.take k) (us.take k)
  | [], us, k, h => by simp only [DnL] at h; subst h; simp [DnL]
  | t :: ts, us, k, h => by
    simp only [DnL] at h
    obtain ⟨u, us2, rfl, h2, h3⟩ := h
    cases k with
    | zero => simp [DnL]
    | succ k => exact DnL.cons h2 (DnL.take k h3)
theorem DnL.drop : ∀ {ts : List TV} {us : List Value} (k : Nat), DnL C ts us → DnL C (ts.drop k) (us.drop k)
  | [], us, k, h => by simp only [DnL] at h; subst h; simp [DnL]
  | t :: ts, us, k, h => by
    cases k with
    | zero => exact h
    | succ k =>
      simp only [DnL] at h
      obtain ⟨u, us2, rfl, h2, h3⟩ := h
      exact DnL.drop k h3
theorem DnLL.take : ∀ {ts : List (List TV)} {us : List (List Value)} (k : Nat), DnLL C ts us → DnLL C (ts.take k) (us.take k)
  | [], us, k, h => by simp only [DnLL] at h; subst h; simp [DnLL]
  | t :: ts, us, k, h => by
    simp only [DnLL] at h
    obtain ⟨u, us2, rfl, h2, h3⟩ := h
    cases k with
    | zero => simp [DnLL]
    | succ k => exact DnLL.cons h2 (DnLL.take k h3)
theorem DnLL.drop : ∀ {ts : List (List TV)} {us : List (List Value)} (k : Nat), DnLL C ts us → DnLL C (ts.drop k) (us.drop k)
  | [], us, k, h => by simp only [DnLL] at h; subst h; simp [DnLL]
  | t :: ts, us, k, h => by
    cases k with
    | zero => exact h
    | succ k =>
      simp only [DnLL] at h
      obtain ⟨u, us2, rfl, h2, h3⟩ := h
      exact DnLL.drop k h3
theorem DnL.set : ∀ {ts : List TV} {us : List Value} (k : Nat) {t : TV} {u : Value}, DnL C ts us → Dn C t u → DnL C (ts.set k t) (us.set k u)
  | [], us, k, t, u, h, h' => by simp only [DnL] at h; subst h; simp [DnL]
  | t0 :: ts, us, k, t, u, h, h' => by
    simp only [DnL] at h
    obtain ⟨u0, us2, rfl, h2, h3⟩ := h
    cases k with
    | zero => exact DnL.cons h' h3
    | succ k => exact DnL.cons h2 (DnL.set k h3 h')
theorem DnLL.set : ∀ {ts : List (List TV)} {us : List (List Value)} (k : Nat) {t : List TV} {u : List Value}, DnLL C ts us → DnL C t u → DnLL C (ts.set k t) (us.set k u)
  | [], us, k, t, u, h, h' => by simp only [DnLL] at h; subst h; simp [DnLL]
  | t0 :: ts, us, k, t, u, h, h' => by
    simp only [DnLL] at h
    obtain ⟨u0, us2, rfl, h2, h3⟩ := h
    cases k with
    | zero => exact DnLL.cons h' h3
    | succ k => exact DnLL.cons h2 (DnLL.set k h3 h')
theorem DnL.anys (n : Nat) (us : List Value) (h : us.length = n) : DnL C (List.replicate n .any) us := by
  induction n generalizing us with
  | zero => simp only [List.replicate_zero, DnL]; exact List.eq_nil_of_length_eq_zero h
  | succ n ih =>
    cases us with
    | nil => simp at h
    | cons u us => rw [List.replicate_succ]; exact DnL.cons (by simp [Dn]) (ih us (by simpa using h))
end

/-- Blocks that are taken together: which, and what is known of them. -/
structure Ext where
  p : Value → Nat → Prop
  Q : Value → World → Prop
  st : ∀ (v : Value) (w w' : World), Q v w → (∀ k, p v k → w'.heap[k]? = w.heap[k]?) → Q v w'
  z : Bool := false
/-- A local block. -/
inductive LB where
  | none
  | cells (t : TypeId) (cs : List TV)
  | row (e : TypeId) (sz : Nat) (els : List (List TV))
  | ext (x : Ext)
  deriving Inhabited
/-- The blocks that a local block takes but for its own. -/
def LB.ps : LB → Value → Nat → Prop
  | .ext x, v, k => x.p v k
  | _, _, _ => False
/-- Those of them of which trees may speak. -/
def LB.zs : LB → Value → Nat → Prop
  | .ext x, v, k => x.z = true ∧ x.p v k
  | _, _, _ => False
theorem LB.zs_of {b : LB} {v : Value} {k : Nat} (h : b.zs v k) : ∃ x, b = .ext x ∧ x.p v k ∧ x.z = true := by
  cases b <;> first | exact h.elim | exact ⟨_, rfl, h.2, h.1⟩
/-- It takes no other blocks. -/
def LB.nx : LB → Prop
  | .ext _ => False
  | _ => True
theorem LB.nx_ps {b : LB} (h : b.nx) {v : Value} {k : Nat} : ¬ b.ps v k := by cases b <;> first | exact fun e => e | exact h.elim
theorem LB.ps_of {b : LB} {v : Value} {k : Nat} (h : b.ps v k) : ∃ x, b = .ext x ∧ x.p v k := by
  cases b <;> first | exact h.elim | exact ⟨_, rfl, h⟩

def LB.here : LB → Prop
  | .none => False
  | _ => True

def cxOf (B : Nat) (ρ : Nat → Value) (h : Nat → LB) (w : World) : Cx :=
  ⟨w, fun k => (∀ i, (h i).here → blkOf (ρ i) ≠ some k) ∧ ∀ i, ¬ (h i).ps (ρ i) k, B, ρ, fun i => (h i).here, fun _ _ _ _ _ => True, fun i k => blkOf (ρ i) = none ∧ (h i).zs (ρ i) k ∧ (∀ j, (h j).here → blkOf (ρ j) ≠ some k) ∧ ∀ j, j ≠ i → ¬ (h j).ps (ρ j) k⟩

/-- The package-level variables that are only read hold what is told of them. -/
structure GlB (B : Nat) (w : World) : Prop where
  at_ : ∀ g vs, gl g = some vs → g < B ∧ ∀ j x, vs[j]? = some x → w.cell? ⟨g, j, none⟩ = some x
  obj : ∀ g cs, glO g = some cs → g < B ∧ ∃ ty fr, w.heap[g]? = some (.cells cs ty fr)
  ifc : ∀ g, glI g = true → g < B ∧ ∃ v, w.cell? ⟨g, 0, none⟩ = some v ∧ (v = .nilIface ∨ ∃ te pe, v = .iface te pe)
/-- Whatever is no cells lies as it lay. -/
def noCells : Obj → Bool
  | .cells _ _ _ => false
  | _ => true
def Oth (w w' : World) : Prop := ∀ (k : Nat) (o : Obj), w.heap[k]? = some o → noCells o = true → w'.heap[k]? = some o
theorem Oth.refl (w : World) : Oth w w := fun _ _ h _ => h
theorem Oth.trans {a b c : World} (h : Oth a b) (h2 : Oth b c) : Oth a c := fun k o hk ho => h2 k o (h k o hk ho) ho
theorem Oth.below {w w' : World} (hb : Below w.heap.size w w') : Oth w w' := fun k o hk _ => (hb.block k (Array.getElem?_eq_some_iff.1 hk).1).trans hk
theorem Oth.grown {w w' : World} {g : Option Nat} (hg : w.grownBy w' g) (h : ∀ k, g = some k → ∃ cs ty fr, w.heap[k]? = some (.cells cs ty fr)) : Oth w w' := fun k o hk ho => by
  refine (hg.block k (Array.getElem?_eq_some_iff.1 hk).1 fun e => ?_).trans hk
  obtain ⟨cs, ty, fr, h1⟩ := h k e.symm
  rw [hk] at h1
  injection h1 with h1
  subst h1
  cases ho
/-- What is known of blocks that are taken together. -/
structure ExtOk (B : Nat) (w0 : World) (ρ : Nat → Value) (h : Nat → LB) (w : World) (i : Nat) (x : Ext) : Prop where
  q : x.Q (ρ i) w
  at_ : ∀ k, x.p (ρ i) k → B ≤ k ∧ k < w.heap.size ∧ (x.z = false → w0.heap.size ≤ k)
  no : blkOf (ρ i) = Option.none
  one : (ρ i).oneCell' = true
  apart : ∀ j g, (h j).here → blkOf (ρ j) = some g → ¬ x.p (ρ i) g
  two : ∀ j k, j ≠ i → x.p (ρ i) k → ¬ (h j).ps (ρ j) k
theorem ExtOk.keep {B : Nat} {w0 w w' : World} {ρ : Nat → Value} {h : Nat → LB} {i : Nat} {x : Ext} (E : ExtOk B w0 ρ h w i x) (hs : w.heap.size ≤ w'.heap.size) (hb : ∀ k, x.p (ρ i) k → w'.heap[k]? = w.heap[k]?) : ExtOk B w0 ρ h w' i x where
  q := x.st _ _ _ E.q hb
  at_ k hk := by have := E.at_ k hk; exact ⟨this.1, by omega, this.2.2⟩
  no := E.no
  one := E.one
  apart := E.apart
  two := E.two
/-- The local blocks as they lie in memory, apart from one another. -/
structure Rel (B : Nat) (w0 : World) (ρ : Nat → Value) (h : Nat → LB) (w : World) : Prop where
  below : Below B w0 w
  gl0 : GlB B w0
  size : B ≤ w.heap.size
  blk : ∀ i t cs, h i = .cells t cs → ∃ g vs, ρ i = .pointer (some ⟨g, 0, Option.none⟩) ∧ Blk w g t vs.toArray ∧ B ≤ g ∧ DnL (cxOf B ρ h w) cs vs
  row : ∀ i e sz els, h i = .row e sz els → ∃ A c css, ρ i = .slice A els.length c ∧ w.ownsRow B e sz (ρ i) els.length css.flatten ∧ (∀ x ∈ css, x.length = sz) ∧ DnLL (cxOf B ρ h w) els css
  sep : ∀ i j g, (h i).here → (h j).here → blkOf (ρ i) = some g → blkOf (ρ j) = some g → i = j
  inj : ∀ i g, (h i).here → blkOf (ρ i) = some g → g < w.heap.size
  oth : Oth w0 w
  ext : ∀ i x, h i = .ext x → ExtOk B w0 ρ h w i x

/-- A state: the slots, the local blocks, and the slots of those who wait for a call's end. -/
structure St where
  s : List TV
  h : List LB
  g : List TV

def hf (l : List LB) : Nat → LB := fun i => l.getD i .none

structure RelS (B : Nat) (w0 : World) (gh : List Value) (ρ : Nat → Value) (σ : St) (a : Act) (w : World) : Prop where
  slots : DnL (cxOf B ρ (hf σ.h) w) σ.s a.tmps.toList
  ghost : DnL (cxOf B ρ (hf σ.h) w) σ.g gh
  rel : Rel B w0 ρ (hf σ.h) w
  defers : a.defers = []
end Go.Proofs.YtpgfhkbnngjegaaGreatDoor

namespace Go.Proofs.YtpgfhkbnngjegaaGreatDoor
open Go.RowKit
set_option linter.unusedVariables false

theorem own_mono {w : World} {base base' : Nat} {e : TypeId} {size : Nat} {v : Value} {n : Nat} {xs : List Value} (h : w.ownsRow base e size v n xs) (hb : base' ≤ base) : w.ownsRow base' e size v n xs := by
  obtain ⟨h1, h2⟩ := h
  rcases h2 with h2 | ⟨g, cap, cur, hv, hg, r⟩
  · exact ⟨h1, .inl h2⟩
  · exact ⟨h1, .inr ⟨g, cap, cur, hv, by omega, r⟩⟩
theorem own_grown1 {w w' : World} {base g : Nat} {e : TypeId} {size n c : Nat} {A : Option Addr} {xs : List Value} (h : w.ownsRow base e size (.slice A n c) n xs) (hg : w.grownBy w' (some g)) (hA : ∀ ad, A = some ad → ad.block ≠ g) : w'.ownsRow base e size (.slice A n c) n xs := by
  rcases A with _ | ad
  · exact h.kept hg (.inl rfl)
  · exact h.kept hg (.inr (by simp only [Value.ownBlock]; intro e; injection e with e; exact hA ad rfl e))

end Go.Proofs.YtpgfhkbnngjegaaGreatDoor

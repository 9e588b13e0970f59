/- Nil slices as slices of nothing. No condition. -/
import Derived.Test.YtmhmldpccccjbaaT13
namespace Go.Proofs.Ytmhmldpccccjbaa
open Go.RowKit
set_option linter.unusedVariables false
set_option linter.unusedSimpArgs false

/- Nil slices as slices of nothing. -/
mutual
def nz : TV → TV
  | .agg ts => .agg (nzL ts)
  | .tup ts => .tup (nzL ts)
  | .fn f ts => .fn f (nzL ts)
  | .ptr i off => .ptr i off
  | .row i => .row i
  | .sl b els => .sl b (nzLL els)
  | .eptr ts => .eptr (nzL ts)
  | .osl e sz els => .osl e sz (nzLL els)
  | .z i t => .z i t
  | .win i k sz => .win i k sz
  | .any => .any
  | .nil_ => .sl true []
  | .v u => .v u
def nzL : List TV → List TV
  | [] => []
  | t :: ts => nz t :: nzL ts
def nzLL : List (List TV) → List (List TV)
  | [] => []
  | t :: ts => nzL t :: nzLL ts
end
theorem nzLL_len : ∀ els : List (List TV), (nzLL els).length = els.length
  | [] => rfl
  | t :: ts => by simp [nzLL, nzLL_len ts]
theorem nzLL_nil {els : List (List TV)} (h : nzLL els ≠ []) : els ≠ [] := by
  rintro rfl
  exact h rfl
section
variable {C : Cx}
mutual
theorem Dn.nz {C' : Cx} (K : Keeps C C') : ∀ (t : TV) (u : Value), Dn C t u → Dn C' (nz t) u
  | .any, u, h => by simp [Dn, Go.Proofs.Ytmhmldpccccjbaa.nz]
  | .v _, u, h => by simp only [Dn, Go.Proofs.Ytmhmldpccccjbaa.nz] at h ⊢; exact h
  | .nil_, u, h => by
    simp only [Dn, Go.Proofs.Ytmhmldpccccjbaa.nz] at h ⊢
    exact ⟨none, 0, [], 0, h, Nat.le_refl _, by simp [maxLen], by simp, by simp, by simp [DnLL], fun ad ha => by cases ha⟩
  | .agg ts, u, h => by
    simp only [Dn, Go.Proofs.Ytmhmldpccccjbaa.nz] at h ⊢
    obtain ⟨vs, h1, h2⟩ := h
    exact ⟨vs, h1, DnL.nz K ts vs h2⟩
  | .tup ts, u, h => by
    simp only [Dn, Go.Proofs.Ytmhmldpccccjbaa.nz] at h ⊢
    obtain ⟨vs, h1, h2⟩ := h
    exact ⟨vs, h1, DnL.nz K ts vs h2⟩
  | .fn f ts, u, h => by
    simp only [Dn, Go.Proofs.Ytmhmldpccccjbaa.nz] at h ⊢
    obtain ⟨vs, h1, h2⟩ := h
    exact ⟨vs, h1, DnL.nz K ts vs h2⟩
  | .ptr i off, u, h => by simp only [Go.Proofs.Ytmhmldpccccjbaa.nz]; exact Dn.keep K _ _ h
  | .row i, u, h => by simp only [Go.Proofs.Ytmhmldpccccjbaa.nz]; exact Dn.keep K _ _ h
  | .sl b els, u, h => by
    simp only [Dn, Go.Proofs.Ytmhmldpccccjbaa.nz] at h ⊢
    obtain ⟨A, c, css, sz, h1, h2, h3, h4, h5, h6, h7⟩ := h
    rw [nzLL_len]
    refine ⟨A, c, css, sz, h1, h2, h3, fun ha => by rw [h4 ha]; rfl, h5, DnLL.nz K els css h6, fun ad ha => ?_⟩
    obtain ⟨h8, h9⟩ := h7 ad ha
    refine ⟨fun hne => ?_, fun i y hy => ?_⟩
    · obtain ⟨h10, h11, h12⟩ := h8 (nzLL_nil hne)
      obtain ⟨h13, h14, h15⟩ := K.blk _ h10 h11
      exact ⟨h14, h15, fun hb => ⟨Nat.le_trans K.base (h12 hb).1, by unfold Unf; rw [h13]; exact (h12 hb).2⟩⟩
    · have hne : els ≠ [] := by
        rintro rfl
        simp only [DnLL] at h6
        subst h6
        simp at hy
      obtain ⟨h10, h11, h12⟩ := h8 hne
      exact cell_keep (by rw [addr_block]; exact (K.blk _ h10 h11).1) (h9 i y hy)
  | .eptr ts, u, h => by
    simp only [Dn, Go.Proofs.Ytmhmldpccccjbaa.nz] at h ⊢
    obtain ⟨ad, vs, h1, h2, h3, h4, h5⟩ := h
    obtain ⟨h13, h14, h15⟩ := K.blk _ h2 h3
    exact ⟨ad, vs, h1, h14, h15, DnL.nz K ts vs h4, fun i y hy => cell_keep (by rw [addr_block]; exact h13) (h5 i y hy)⟩
  | .osl e sz els, u, h => by
    simp only [Dn, Go.Proofs.Ytmhmldpccccjbaa.nz] at h ⊢
    obtain ⟨A, c, css, h1, h2, h3, h4⟩ := h
    rw [nzLL_len]
    exact ⟨A, c, css, h1, K.own _ _ _ _ _ h2, h3, DnLL.nz K els css h4⟩
  | .z i t, u, h => by simp only [Go.Proofs.Ytmhmldpccccjbaa.nz]; exact Dn.keep K _ _ h
  | .win i k sz, u, h => by simp only [Go.Proofs.Ytmhmldpccccjbaa.nz]; exact Dn.keep K _ _ h
theorem DnL.nz {C' : Cx} (K : Keeps C C') : ∀ (ts : List TV) (us : List Value), DnL C ts us → DnL C' (nzL ts) us
  | [], us, h => by simp only [DnL, nzL] at h ⊢; exact h
  | t :: ts, us, h => by
    simp only [DnL, nzL] at h ⊢
    obtain ⟨u, us', h1, h2, h3⟩ := h
    exact ⟨u, us', h1, Dn.nz K t u h2, DnL.nz K ts us' h3⟩
theorem DnLL.nz {C' : Cx} (K : Keeps C C') : ∀ (ts : List (List TV)) (us : List (List Value)), DnLL C ts us → DnLL C' (nzLL ts) us
  | [], us, h => by simp only [DnLL, nzLL] at h ⊢; exact h
  | t :: ts, us, h => by
    simp only [DnLL, nzLL] at h ⊢
    obtain ⟨u, us', h1, h2, h3⟩ := h
    exact ⟨u, us', h1, DnL.nz K t u h2, DnLL.nz K ts us' h3⟩
end
end
def LB.nz : LB → LB
  | .none => .none
  | .cells t cs => .cells t (nzL cs)
  | .row e sz els => .row e sz (nzLL els)
  | .ext y => .ext y
theorem LB.nz_ext {b : LB} {y : Ext} (h : b.nz = .ext y) : b = .ext y := by cases b <;> cases h <;> rfl
theorem LB.nz_here {b : LB} : (b.nz).here ↔ b.here := by cases b <;> simp [LB.nz, LB.here]
section
variable {P : Program} {B : Nat} {w0 : World} {gh : List Value} {Q : Exit → St → Prop} {σ : St} {ops : Array Oper} {o : Oper} {rest : List Oper}
theorem SLe.nz : SLe B w0 gh σ ⟨nzL σ.s, σ.h.map LB.nz, nzL σ.g⟩ := fun ρ a w hr => by
  have R := hr.rel
  have ee : ∀ i, hf (σ.h.map LB.nz) i = (hf σ.h i).nz := fun i => by
    unfold hf
    rw [List.getD_eq_getElem?_getD, List.getD_eq_getElem?_getD, List.getElem?_map]
    cases σ.h[i]? <;> simp [LB.nz]
  have hhere : ∀ i, (hf (σ.h.map LB.nz) i).here ↔ (hf σ.h i).here := fun i => by rw [ee, LB.nz_here]
  have hext : ∀ i y, hf (σ.h.map LB.nz) i = .ext y → hf σ.h i = .ext y := fun i y he => LB.nz_ext (by rw [← ee]; exact he)
  generalize hH : hf (σ.h.map LB.nz) = H at ee hhere hext
  have KK : Keeps (cxOf B ρ (hf σ.h) w) (cxOf B ρ H w) := ⟨fun k hS hk => ⟨rfl, ⟨fun i hi => hS.1 i ((hhere i).1 hi), ps_no hext hS.2⟩, hk⟩, Nat.le_refl _, fun i hi => ⟨(hhere i).2 hi, rfl⟩, fun _ _ _ _ _ h => h, fun i k _ hz hk => ⟨rfl, Z_of (fun j hj => (hhere j).1 hj) hext (fun x e => by rw [ee, e]; rfl) hz, hk⟩⟩
  refine ⟨ρ, ?_, ?_, ?_, hr.defers⟩
  · rw [hH]; exact DnL.nz KK _ _ hr.slots
  · rw [hH]; exact DnL.nz KK _ _ hr.ghost
  · rw [hH]
    refine ⟨R.below, R.gl0, R.size, fun i t cs hi => ?_, fun i e' sz' els' hi => ?_, fun i k g hi hk => R.sep i k g ((hhere i).1 hi) ((hhere k).1 hk), fun i g hi => R.inj i g ((hhere i).1 hi), R.oth, R.ext_of (fun i hi => (hhere i).1 hi) hext⟩
    · rw [ee] at hi
      cases hh : hf σ.h i with
      | none => rw [hh] at hi; cases hi
      | ext _ => rw [hh] at hi; cases hi
      | row _ _ _ => rw [hh] at hi; cases hi
      | cells t' cs' =>
        rw [hh] at hi
        simp only [LB.nz, LB.cells.injEq] at hi
        obtain ⟨rfl, rfl⟩ := hi
        obtain ⟨g, vs, r1, r2, r3, r4⟩ := R.blk i _ _ hh
        exact ⟨g, vs, r1, r2, r3, DnL.nz KK _ _ r4⟩
    · rw [ee] at hi
      cases hh : hf σ.h i with
      | none => rw [hh] at hi; cases hi
      | ext _ => rw [hh] at hi; cases hi
      | cells _ _ => rw [hh] at hi; cases hi
      | row e2 sz2 els2 =>
        rw [hh] at hi
        simp only [LB.nz, LB.row.injEq] at hi
        obtain ⟨rfl, rfl, rfl⟩ := hi
        obtain ⟨A, c, css, r1, r2, r3, r4⟩ := R.row i _ _ _ hh
        rw [nzLL_len]
        exact ⟨A, c, css, r1, r2, r3, DnLL.nz KK _ _ r4⟩
theorem TL.nz {l : List Oper} (h : ∀ σ', σ' = (⟨nzL σ.s, σ.h.map LB.nz, nzL σ.g⟩ : St) → TL P B w0 gh ops l σ' Q) : TL P B w0 gh ops l σ Q := .le .nz (h _ rfl)
theorem TW.nz {c : Code} (h : ∀ σ', σ' = (⟨nzL σ.s, σ.h.map LB.nz, nzL σ.g⟩ : St) → TW P B w0 gh c σ' Q) : TW P B w0 gh c σ Q := .le (h _ rfl) .nz
end
end Go.Proofs.Ytmhmldpccccjbaa

/- A local row that is written no more is a slice that is only read. No condition. -/
import Derived.Test.YtmhmldpccccjbaaT11
namespace Go.Proofs.Ytmhmldpccccjbaa
open Go.RowKit
set_option linter.unusedVariables false
set_option linter.unusedSimpArgs false

/- In place of the row j stands x; what points into it is forgotten. -/
mutual
def fz (j : Nat) (x : TV) : TV → TV
  | .agg ts => .agg (fzL j x ts)
  | .tup ts => .tup (fzL j x ts)
  | .fn f ts => .fn f (fzL j x ts)
  | .ptr i off => if i = j then .any else .ptr i off
  | .row i => if i = j then x else .row i
  | .sl b els => .sl b (fzLL j x els)
  | .eptr ts => .eptr (fzL j x ts)
  | .osl e sz els => .osl e sz (fzLL j x els)
  | .z i t => if i = j then .any else .z i t
  | .win i k sz => if i = j then .any else .win i k sz
  | .any => .any
  | .nil_ => .nil_
  | .v u => .v u
def fzL (j : Nat) (x : TV) : List TV → List TV
  | [] => []
  | t :: ts => fz j x t :: fzL j x ts
def fzLL (j : Nat) (x : TV) : List (List TV) → List (List TV)
  | [] => []
  | t :: ts => fzL j x t :: fzLL j x ts
end
theorem fzLL_len (j : Nat) (x : TV) : ∀ els : List (List TV), (fzLL j x els).length = els.length
  | [] => rfl
  | t :: ts => by simp [fzLL, fzLL_len j x ts]
theorem fzLL_nil {j : Nat} {x : TV} {els : List (List TV)} (h : fzLL j x els ≠ []) : els ≠ [] := by
  rintro rfl
  exact h rfl
section
variable {C : Cx} {j : Nat} {x : TV}
mutual
theorem Dn.fz {C' : Cx} (K : Keeps (C.less (bar j)) C') (hx : C.pres j → Dn C' x (C.ρ j)) : ∀ (t : TV) (u : Value), Dn C t u → Dn C' (fz j x t) u
  | .any, u, h => by simp [Dn, Go.Proofs.Ytmhmldpccccjbaa.fz]
  | .v _, u, h => by simp only [Dn, Go.Proofs.Ytmhmldpccccjbaa.fz] at h ⊢; exact h
  | .nil_, u, h => by simp only [Dn, Go.Proofs.Ytmhmldpccccjbaa.fz] at h ⊢; exact h
  | .agg ts, u, h => by
    simp only [Dn, Go.Proofs.Ytmhmldpccccjbaa.fz] at h ⊢
    obtain ⟨vs, h1, h2⟩ := h
    exact ⟨vs, h1, DnL.fz K hx ts vs h2⟩
  | .tup ts, u, h => by
    simp only [Dn, Go.Proofs.Ytmhmldpccccjbaa.fz] at h ⊢
    obtain ⟨vs, h1, h2⟩ := h
    exact ⟨vs, h1, DnL.fz K hx ts vs h2⟩
  | .fn f ts, u, h => by
    simp only [Dn, Go.Proofs.Ytmhmldpccccjbaa.fz] at h ⊢
    obtain ⟨vs, h1, h2⟩ := h
    exact ⟨vs, h1, DnL.fz K hx ts vs h2⟩
  | .ptr i off, u, h => by
    simp only [Go.Proofs.Ytmhmldpccccjbaa.fz]
    by_cases hij : i = j
    · subst hij; simp [Dn]
    · rw [if_neg hij]
      have h1 : Dn (C.less (bar j)) (.ptr i off) u := by
        simp only [Dn] at h ⊢
        exact ⟨⟨h.1, by simp [bar, hij]⟩, h.2⟩
      exact Dn.keep K _ _ h1
  | .row i, u, h => by
    simp only [Go.Proofs.Ytmhmldpccccjbaa.fz]
    by_cases hij : i = j
    · subst hij
      simp only [Dn] at h
      rw [if_pos rfl, h.2]
      exact hx h.1
    · rw [if_neg hij]
      have h1 : Dn (C.less (bar j)) (.row i) u := by
        simp only [Dn] at h ⊢
        exact ⟨⟨h.1, by simp [bar, hij]⟩, h.2⟩
      exact Dn.keep K _ _ h1
  | .sl b els, u, h => by
    simp only [Dn, Go.Proofs.Ytmhmldpccccjbaa.fz] at h ⊢
    obtain ⟨A, c, css, sz, h1, h2, h3, h4, h5, h6, h7⟩ := h
    rw [fzLL_len]
    refine ⟨A, c, css, sz, h1, h2, h3, fun ha => by rw [h4 ha]; rfl, h5, DnLL.fz K hx els css h6, fun ad ha => ?_⟩
    obtain ⟨h8, h9⟩ := h7 ad ha
    refine ⟨fun hne => ?_, fun i y hy => ?_⟩
    · obtain ⟨h10, h11, h12⟩ := h8 (fzLL_nil hne)
      obtain ⟨h13, h14, h15⟩ := K.blk _ h10 h11
      exact ⟨h14, h15, fun hb => ⟨Nat.le_trans K.base (h12 hb).1, by unfold Unf; rw [h13]; exact (h12 hb).2⟩⟩
    · have hne : els ≠ [] := by
        rintro rfl
        simp only [DnLL] at h6
        subst h6
        simp at hy
      obtain ⟨h10, h11, h12⟩ := h8 hne
      exact cell_keep (by rw [addr_block]; exact (K.blk _ h10 h11).1) (h9 i y hy)
  | .eptr ts, u, h => by
    simp only [Dn, Go.Proofs.Ytmhmldpccccjbaa.fz] at h ⊢
    obtain ⟨ad, vs, h1, h2, h3, h4, h5⟩ := h
    obtain ⟨h13, h14, h15⟩ := K.blk _ h2 h3
    exact ⟨ad, vs, h1, h14, h15, DnL.fz K hx ts vs h4, fun i y hy => cell_keep (by rw [addr_block]; exact h13) (h5 i y hy)⟩
  | .osl e sz els, u, h => by
    simp only [Dn, Go.Proofs.Ytmhmldpccccjbaa.fz] at h ⊢
    obtain ⟨A, c, css, h1, h2, h3, h4⟩ := h
    rw [fzLL_len]
    exact ⟨A, c, css, h1, K.own _ _ _ _ _ h2, h3, DnLL.fz K hx els css h4⟩
  | .z i t, u, h => by
    simp only [Go.Proofs.Ytmhmldpccccjbaa.fz]
    by_cases hij : i = j
    · subst hij; simp [Dn]
    · rw [if_neg hij]
      have h1 : Dn (C.less (bar j)) (.z i t) u := by
        simp only [Dn] at h ⊢
        exact ⟨⟨h.1, by simp [bar, hij]⟩, h.2⟩
      exact Dn.keep K _ _ h1
  | .win i k sz, u, h => by
    simp only [Go.Proofs.Ytmhmldpccccjbaa.fz]
    by_cases hij : i = j
    · subst hij; simp [Dn]
    · rw [if_neg hij]
      have h1 : Dn (C.less (bar j)) (.win i k sz) u := by
        simp only [Dn] at h ⊢
        exact ⟨⟨h.1, by simp [bar, hij]⟩, h.2⟩
      exact Dn.keep K _ _ h1
theorem DnL.fz {C' : Cx} (K : Keeps (C.less (bar j)) C') (hx : C.pres j → Dn C' x (C.ρ j)) : ∀ (ts : List TV) (us : List Value), DnL C ts us → DnL C' (fzL j x ts) us
  | [], us, h => by simp only [DnL, fzL] at h ⊢; exact h
  | t :: ts, us, h => by
    simp only [DnL, fzL] at h ⊢
    obtain ⟨u, us', h1, h2, h3⟩ := h
    exact ⟨u, us', h1, Dn.fz K hx t u h2, DnL.fz K hx ts us' h3⟩
theorem DnLL.fz {C' : Cx} (K : Keeps (C.less (bar j)) C') (hx : C.pres j → Dn C' x (C.ρ j)) : ∀ (ts : List (List TV)) (us : List (List Value)), DnLL C ts us → DnLL C' (fzLL j x ts) us
  | [], us, h => by simp only [DnLL, fzLL] at h ⊢; exact h
  | t :: ts, us, h => by
    simp only [DnLL, fzLL] at h ⊢
    obtain ⟨u, us', h1, h2, h3⟩ := h
    exact ⟨u, us', h1, DnL.fz K hx t u h2, DnLL.fz K hx ts us' h3⟩
end
end
def LB.fz (j : Nat) (x : TV) : LB → LB
  | .none => .none
  | .cells t cs => .cells t (fzL j x cs)
  | .row e sz els => .row e sz (fzLL j x els)
  | .ext y => .ext y
theorem LB.fz_ext {j : Nat} {x : TV} {b : LB} {y : Ext} (h : b.fz j x = .ext y) : b = .ext y := by cases b <;> cases h <;> rfl
theorem LB.fz_here {j : Nat} {x : TV} {b : LB} : (b.fz j x).here ↔ b.here := by cases b <;> simp [LB.fz, LB.here]
section
variable {P : Program} {B : Nat} {w0 : World} {gh : List Value} {Q : Exit → St → Prop} {σ : St} {ops : Array Oper} {o : Oper} {rest : List Oper}
theorem SLe.freeze (j : Nat) {e : TypeId} {sz : Nat} {els : List (List TV)} (hj : hf σ.h j = .row e sz els) :
    SLe B w0 gh σ ⟨fzL j (.sl true (kpLL (bar j) els)) σ.s, (σ.h.map (LB.fz j (.sl true (kpLL (bar j) els)))).set j .none, fzL j (.sl true (kpLL (bar j) els)) σ.g⟩ := fun ρ a w hr => by
  have R := hr.rel
  have hjl : j < σ.h.length := hf_lt hj (by simp)
  have ee : ∀ i, hf ((σ.h.map (LB.fz j (.sl true (kpLL (bar j) els)))).set j .none) i = if i = j then .none else (hf σ.h i).fz j (.sl true (kpLL (bar j) els)) := fun i => by
    unfold hf
    rw [List.getD_eq_getElem?_getD, List.getD_eq_getElem?_getD, List.getElem?_set]
    by_cases hij : i = j
    · subst hij
      simp [hjl]
    · rw [if_neg (fun h => hij h.symm), if_neg hij, List.getElem?_map]
      cases σ.h[i]? <;> simp [LB.fz]
  have hhere : ∀ i, (hf ((σ.h.map (LB.fz j (.sl true (kpLL (bar j) els)))).set j .none) i).here ↔ i ≠ j ∧ (hf σ.h i).here := fun i => by
    rw [ee]
    split
    · rename_i hij
      exact ⟨fun h => h.elim, fun h => absurd hij h.1⟩
    · rename_i hij
      rw [LB.fz_here]
      exact ⟨fun h => ⟨hij, h⟩, fun h => h.2⟩
  have hext : ∀ i y, hf ((σ.h.map (LB.fz j (.sl true (kpLL (bar j) els)))).set j .none) i = .ext y → hf σ.h i = .ext y := fun i y he => by
    rw [ee] at he
    split at he
    · cases he
    · exact LB.fz_ext he
  generalize hH : hf ((σ.h.map (LB.fz j (.sl true (kpLL (bar j) els)))).set j .none) = H at ee hhere hext
  have hjh : (hf σ.h j).here := by rw [hj]; trivial
  have KK : Keeps ((cxOf B ρ (hf σ.h) w).less (bar j)) (cxOf B ρ H w) := ⟨fun k hS hk => ⟨rfl, ⟨fun i hi => hS.1 i ((hhere i).1 hi).2, ps_no hext hS.2⟩, hk⟩, Nat.le_refl _, fun i hi => ⟨(hhere i).2 ⟨by have := hi.2; simpa [bar] using this, hi.1⟩, rfl⟩, fun _ _ _ _ _ h => h, fun i k hi hz hk => ⟨rfl, Z_of (B := B) (w := w) (fun j hj => ((hhere j).1 hj).2) hext (fun x ex => by
    have hij : i ≠ j := by have := hi.2; simpa [bar] using this
    rw [ee, if_neg hij, ex]; rfl) hz, hk⟩⟩
  have hx : (cxOf B ρ (hf σ.h) w).pres j → Dn (cxOf B ρ H w) (.sl true (kpLL (bar j) els)) ((cxOf B ρ (hf σ.h) w).ρ j) := fun _ => by
    obtain ⟨A, c, css, r1, r2, r3, r4⟩ := R.row j _ _ _ hj
    show Dn _ _ (ρ j)
    rw [r1] at r2 ⊢
    rw [← kpLL_len (bar j) els] at r2 ⊢
    refine row_sl (C := cxOf B ρ H w) r2 r3 (DnLL.keep KK _ _ (DnLL.kp (bar j) _ _ r4)) (fun ad ha => ⟨fun i hi hb => ?_, fun i hp => ?_⟩) (fun _ => Nat.le_refl _)
    · exact ((hhere i).1 hi).1 (R.sep i j _ ((hhere i).1 hi).2 hjh hb (by rw [r1, ha]; rfl))
    · obtain ⟨y, e1, h1⟩ := LB.ps_of hp
      exact (R.ext i y (hext i y e1)).apart j _ hjh (by rw [r1, ha]; rfl) h1
  refine ⟨ρ, ?_, ?_, ?_, hr.defers⟩
  · rw [hH]; exact DnL.fz KK hx _ _ hr.slots
  · rw [hH]; exact DnL.fz KK hx _ _ hr.ghost
  · rw [hH]
    refine ⟨R.below, R.gl0, R.size, fun i t cs hi => ?_, fun i e' sz' els' hi => ?_, fun i k g hi hk => R.sep i k g ((hhere i).1 hi).2 ((hhere k).1 hk).2, fun i g hi => R.inj i g ((hhere i).1 hi).2, R.oth, R.ext_of (fun i hi => ((hhere i).1 hi).2) hext⟩
    · rw [ee] at hi
      split at hi
      · cases hi
      · cases hh : hf σ.h i with
        | none => rw [hh] at hi; cases hi
        | ext _ => rw [hh] at hi; cases hi
        | row _ _ _ => rw [hh] at hi; cases hi
        | cells t' cs' =>
          rw [hh] at hi
          simp only [LB.fz, LB.cells.injEq] at hi
          obtain ⟨rfl, rfl⟩ := hi
          obtain ⟨g, vs, r1, r2, r3, r4⟩ := R.blk i _ _ hh
          exact ⟨g, vs, r1, r2, r3, DnL.fz KK hx _ _ r4⟩
    · rw [ee] at hi
      split at hi
      · cases hi
      · cases hh : hf σ.h i with
        | none => rw [hh] at hi; cases hi
        | ext _ => rw [hh] at hi; cases hi
        | cells _ _ => rw [hh] at hi; cases hi
        | row e2 sz2 els2 =>
          rw [hh] at hi
          simp only [LB.fz, LB.row.injEq] at hi
          obtain ⟨rfl, rfl, rfl⟩ := hi
          obtain ⟨A, c, css, r1, r2, r3, r4⟩ := R.row i _ _ _ hh
          rw [fzLL_len]
          exact ⟨A, c, css, r1, r2, r3, DnLL.fz KK hx _ _ r4⟩
theorem TL.le {l : List Oper} {σ' : St} (hl : SLe B w0 gh σ σ') (h : TL P B w0 gh ops l σ' Q) : TL P B w0 gh ops l σ Q := fun ρ a w hr => by
  obtain ⟨ρ', h'⟩ := hl ρ a w hr
  exact h ρ' a w h'
/-- A row is closed, within a list of operations, and ahead of code. -/
theorem TL.frz (j : Nat) {e : TypeId} {sz : Nat} {els : List (List TV)} {l : List Oper} (hj : hf σ.h j = .row e sz els)
    (h : ∀ σ', σ' = (⟨fzL j (.sl true (kpLL (bar j) els)) σ.s, (σ.h.map (LB.fz j (.sl true (kpLL (bar j) els)))).set j .none, fzL j (.sl true (kpLL (bar j) els)) σ.g⟩ : St) → TL P B w0 gh ops l σ' Q) : TL P B w0 gh ops l σ Q := .le (.freeze j hj) (h _ rfl)
theorem TW.frz (j : Nat) {e : TypeId} {sz : Nat} {els : List (List TV)} {c : Code} (hj : hf σ.h j = .row e sz els)
    (h : ∀ σ', σ' = (⟨fzL j (.sl true (kpLL (bar j) els)) σ.s, (σ.h.map (LB.fz j (.sl true (kpLL (bar j) els)))).set j .none, fzL j (.sl true (kpLL (bar j) els)) σ.g⟩ : St) → TW P B w0 gh c σ' Q) : TW P B w0 gh c σ Q := .le (h _ rfl) (.freeze j hj)
/-- A nil slice in a slot becomes a local row, ahead of code. -/
theorem TW.nilr (k : Nat) (e : TypeId) (sz : Nat) {c : Code} (hk : σ.s[k]? = some .nil_) (h : ∀ σ', σ' = (⟨σ.s.set k (.row σ.h.length), σ.h ++ [.row e sz []], σ.g⟩ : St) → TW P B w0 gh c σ' Q) : TW P B w0 gh c σ Q := .le (h _ rfl) (.nilrow e sz hk)
end
end Go.Proofs.Ytmhmldpccccjbaa

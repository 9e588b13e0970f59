/- copy into a local row of one-cell elements. Condition: what the program's table says of types. -/
import Derived.Test.YtekpmlfcmnlmiaaGreatDoorT13
namespace Go.Proofs.YtekpmlfcmnlmiaaGreatDoor
open Go.RowKit
set_option linter.unusedVariables false
set_option linter.unusedSimpArgs false

/- Nil slices as slices of nothing. -/
mutual
def nz : TV → TV
  | .agg ts => .agg (nzL ts)
  | .tup ts => .tup (nzL ts)
  | .fn f ts => .fn f (nzL ts)
  | .ptr i off => .ptr i off
  | .row i => .row i
  | .sl b els => .sl b (nzLL els)
  | .eptr ts => .eptr (nzL ts)
  | .osl e sz els => .osl e sz (nzLL els)
  | .any => .any
  | .nil_ => .sl true []
  | .v u => .v u
def nzL : List TV → List TV
  | [] => []
  | t :: ts => nz t :: nzL ts
def nzLL : List (List TV) → List (List TV)
  | [] => []
  | t :: ts => nzL t :: nzLL ts
end
theorem nzLL_len : ∀ els : List (List TV), (nzLL els).length = els.length
  | [] => rfl
  | t :: ts => by simp [nzLL, nzLL_len ts]
theorem nzLL_nil {els : List (List TV)} (h : nzLL els ≠ []) : els ≠ [] := by
  rintro rfl
  exact h rfl
section
variable {C : Cx}
mutual
theorem Dn.nz {C' : Cx} (K : Keeps C C') : ∀ (t : TV) (u : Value), Dn C t u → Dn C' (nz t) u
  | .any, u, h => by simp [Dn, Go.Proofs.YtekpmlfcmnlmiaaGreatDoor.nz]
  | .v _, u, h => by simp only [Dn, Go.Proofs.YtekpmlfcmnlmiaaGreatDoor.nz] at h ⊢; exact h
  | .nil_, u, h => by
    simp only [Dn, Go.Proofs.YtekpmlfcmnlmiaaGreatDoor.nz] at h ⊢
    exact ⟨none, 0, [], 0, h, Nat.le_refl _, by simp [maxLen], by simp, by simp, by simp [DnLL], fun ad ha => by cases ha⟩
  | .agg ts, u, h => by
    simp only [Dn, Go.Proofs.YtekpmlfcmnlmiaaGreatDoor.nz] at h ⊢
    obtain ⟨vs, h1, h2⟩ := h
    exact ⟨vs, h1, DnL.nz K ts vs h2⟩
  | .tup ts, u, h => by
    simp only [Dn, Go.Proofs.YtekpmlfcmnlmiaaGreatDoor.nz] at h ⊢
    obtain ⟨vs, h1, h2⟩ := h
    exact ⟨vs, h1, DnL.nz K ts vs h2⟩
  | .fn f ts, u, h => by
    simp only [Dn, Go.Proofs.YtekpmlfcmnlmiaaGreatDoor.nz] at h ⊢
    obtain ⟨vs, h1, h2⟩ := h
    exact ⟨vs, h1, DnL.nz K ts vs h2⟩
  | .ptr i off, u, h => by simp only [Go.Proofs.YtekpmlfcmnlmiaaGreatDoor.nz]; exact Dn.keep K _ _ h
  | .row i, u, h => by simp only [Go.Proofs.YtekpmlfcmnlmiaaGreatDoor.nz]; exact Dn.keep K _ _ h
  | .sl b els, u, h => by
    simp only [Dn, Go.Proofs.YtekpmlfcmnlmiaaGreatDoor.nz] at h ⊢
    obtain ⟨A, c, css, sz, h1, h2, h3, h4, h5, h6, h7⟩ := h
    rw [nzLL_len]
    refine ⟨A, c, css, sz, h1, h2, h3, fun ha => by rw [h4 ha]; rfl, h5, DnLL.nz K els css h6, fun ad ha => ?_⟩
    obtain ⟨h8, h9⟩ := h7 ad ha
    refine ⟨fun hne => ?_, fun i y hy => ?_⟩
    · obtain ⟨h10, h11, h12⟩ := h8 (nzLL_nil hne)
      obtain ⟨h13, h14, h15⟩ := K.blk _ h10 h11
      exact ⟨h14, h15, fun hb => ⟨Nat.le_trans K.base (h12 hb).1, by unfold Unf; rw [h13]; exact (h12 hb).2⟩⟩
    · have hne : els ≠ [] := by
        rintro rfl
        simp only [DnLL] at h6
        subst h6
        simp at hy
      obtain ⟨h10, h11, h12⟩ := h8 hne
      exact cell_keep (by rw [addr_block]; exact (K.blk _ h10 h11).1) (h9 i y hy)
  | .eptr ts, u, h => by
    simp only [Dn, Go.Proofs.YtekpmlfcmnlmiaaGreatDoor.nz] at h ⊢
    obtain ⟨ad, vs, h1, h2, h3, h4, h5⟩ := h
    obtain ⟨h13, h14, h15⟩ := K.blk _ h2 h3
    exact ⟨ad, vs, h1, h14, h15, DnL.nz K ts vs h4, fun i y hy => cell_keep (by rw [addr_block]; exact h13) (h5 i y hy)⟩
  | .osl e sz els, u, h => by
    simp only [Dn, Go.Proofs.YtekpmlfcmnlmiaaGreatDoor.nz] at h ⊢
    obtain ⟨A, c, css, h1, h2, h3, h4⟩ := h
    rw [nzLL_len]
    exact ⟨A, c, css, h1, K.own _ _ _ _ _ h2, h3, DnLL.nz K els css h4⟩
theorem DnL.nz {C' : Cx} (K : Keeps C C') : ∀ (ts : List TV) (us : List Value), DnL C ts us → DnL C' (nzL ts) us
  | [], us, h => by simp only [DnL, nzL] at h ⊢; exact h
  | t :: ts, us, h => by
    simp only [DnL, nzL] at h ⊢
    obtain ⟨u, us', h1, h2, h3⟩ := h
    exact ⟨u, us', h1, Dn.nz K t u h2, DnL.nz K ts us' h3⟩
theorem DnLL.nz {C' : Cx} (K : Keeps C C') : ∀ (ts : List (List TV)) (us : List (List Value)), DnLL C ts us → DnLL C' (nzLL ts) us
  | [], us, h => by simp only [DnLL, nzLL] at h ⊢; exact h
  | t :: ts, us, h => by
    simp only [DnLL, nzLL] at h ⊢
    obtain ⟨u, us', h1, h2, h3⟩ := h
    exact ⟨u, us', h1, DnL.nz K t u h2, DnLL.nz K ts us' h3⟩
end
end
def LB.nz : LB → LB
  | .none => .none
  | .cells t cs => .cells t (nzL cs)
  | .row e sz els => .row e sz (nzLL els)
theorem LB.nz_here {b : LB} : (b.nz).here ↔ b.here := by cases b <;> simp [LB.nz, LB.here]
section
variable {P : Program} {B : Nat} {w0 : World} {gh : List Value} {Q : Exit → St → Prop} {σ : St} {ops : Array Oper} {o : Oper} {rest : List Oper}
theorem SLe.nz : SLe B w0 gh σ ⟨nzL σ.s, σ.h.map LB.nz, nzL σ.g⟩ := fun ρ a w hr => by
  have R := hr.rel
  have ee : ∀ i, hf (σ.h.map LB.nz) i = (hf σ.h i).nz := fun i => by
    unfold hf
    rw [List.getD_eq_getElem?_getD, List.getD_eq_getElem?_getD, List.getElem?_map]
    cases σ.h[i]? <;> simp [LB.nz]
  have hhere : ∀ i, (hf (σ.h.map LB.nz) i).here ↔ (hf σ.h i).here := fun i => by rw [ee, LB.nz_here]
  generalize hH : hf (σ.h.map LB.nz) = H at ee hhere
  have KK : Keeps (cxOf B ρ (hf σ.h) w) (cxOf B ρ H w) := ⟨fun k hS hk => ⟨rfl, fun i hi => hS i ((hhere i).1 hi), hk⟩, Nat.le_refl _, fun i hi => ⟨(hhere i).2 hi, rfl⟩, fun _ _ _ _ _ h => h⟩
  refine ⟨ρ, ?_, ?_, ?_, hr.defers⟩
  · rw [hH]; exact DnL.nz KK _ _ hr.slots
  · rw [hH]; exact DnL.nz KK _ _ hr.ghost
  · rw [hH]
    refine ⟨R.below, R.gl0, R.size, fun i t cs hi => ?_, fun i e' sz' els' hi => ?_, fun i k g hi hk => R.sep i k g ((hhere i).1 hi) ((hhere k).1 hk), fun i g hi => R.inj i g ((hhere i).1 hi), R.oth⟩
    · rw [ee] at hi
      cases hh : hf σ.h i with
      | none => rw [hh] at hi; cases hi
      | row _ _ _ => rw [hh] at hi; cases hi
      | cells t' cs' =>
        rw [hh] at hi
        simp only [LB.nz, LB.cells.injEq] at hi
        obtain ⟨rfl, rfl⟩ := hi
        obtain ⟨g, vs, r1, r2, r3, r4⟩ := R.blk i _ _ hh
        exact ⟨g, vs, r1, r2, r3, DnL.nz KK _ _ r4⟩
    · rw [ee] at hi
      cases hh : hf σ.h i with
      | none => rw [hh] at hi; cases hi
      | cells _ _ => rw [hh] at hi; cases hi
      | row e2 sz2 els2 =>
        rw [hh] at hi
        simp only [LB.nz, LB.row.injEq] at hi
        obtain ⟨rfl, rfl, rfl⟩ := hi
        obtain ⟨A, c, css, r1, r2, r3, r4⟩ := R.row i _ _ _ hh
        rw [nzLL_len]
        exact ⟨A, c, css, r1, r2, r3, DnLL.nz KK _ _ r4⟩
theorem TL.nz {l : List Oper} (h : ∀ σ', σ' = (⟨nzL σ.s, σ.h.map LB.nz, nzL σ.g⟩ : St) → TL P B w0 gh ops l σ' Q) : TL P B w0 gh ops l σ Q := .le .nz (h _ rfl)
theorem TW.nz {c : Code} (h : ∀ σ', σ' = (⟨nzL σ.s, σ.h.map LB.nz, nzL σ.g⟩ : St) → TW P B w0 gh c σ' Q) : TW P B w0 gh c σ Q := .le (h _ rfl) .nz
end
end Go.Proofs.YtekpmlfcmnlmiaaGreatDoor

namespace Go.Proofs.YtekpmlfcmnlmiaaGreatDoor
open Go.RowKit
set_option linter.unusedVariables false
set_option linter.unusedSimpArgs false

end Go.Proofs.YtekpmlfcmnlmiaaGreatDoor

namespace Go.Proofs.YtekpmlfcmnlmiaaGreatDoor
open Go.RowKit
set_option linter.unusedVariables false
set_option linter.unusedSimpArgs false

section
variable {P : Program} {B : Nat} {w0 : World} {gh : List Value} {σ : St}
theorem TL.copy {Q : Exit → St → Prop} {ops : Array Oper} {o : Oper} {rest : List Oper} {cl : Call} {s x : Operand} {t tx : TypeId} {i : Nat} {els ys : List (List TV)} {ti te : TI} (hg : o.guard = none) (ho : o.op = .call cl) (hcl : cl = { callee := .builtin .copy, args := #[s, x], argTypes := #[t, tx] })
    (T : ApTy P t ti te) (ht1 : te.n = 1) (hs : tev σ.s s = .row i) (hi : hf σ.h i = .row ti.el te.n els) (hx : Elems σ x ys) (hlen : ∀ c ∈ ys, c.length = te.n) (hone : ∀ c ∈ ys, c.all TV.one = true) (hle : ys.length ≤ els.length)
    (h : TL P B w0 gh ops rest ⟨match o.dst with | some d => σ.s.set d (.v (.int .i64 ys.length)) | none => σ.s, σ.h.set i (.row ti.el te.n (ys ++ els.drop ys.length)), σ.g⟩ Q) : TL P B w0 gh ops (o :: rest) σ Q := fun ρ a w hr => by
  have R := hr.rel
  have e1 := tev_dn hr.slots s
  rw [hs] at e1
  simp only [Dn] at e1
  obtain ⟨A, c, css, r1, r2, r3, r4⟩ := R.row i _ _ _ hi
  have hu : a.eval s = .slice A els.length c := e1.2.trans r1
  rw [r1] at r2
  obtain ⟨A2, c2, css2, s1, s2, s3, s4⟩ := elems_sees hr hx hlen T.hn
  obtain ⟨z, E⟩ := T.elem
  have hil : i < σ.h.length := hf_lt hi (by simp)
  have hhere : (hf σ.h i).here := by rw [hi]; trivial
  have hfl : css2.flatten ++ css.flatten.drop ys.length = (css2 ++ css.drop ys.length).flatten := by
    have e3 : ys.length = css2.length := s3.len.symm
    have e2 : css.flatten.drop ys.length = (css.drop ys.length).flatten := by
      have key : ∀ (k : Nat) (l : List (List Value)), (∀ x ∈ l, x.length = 1) → l.flatten.drop k = (l.drop k).flatten := by
        intro k
        induction k with
        | zero => intro l _; simp
        | succ k ih =>
          intro l hl
          cases l with
          | nil => simp
          | cons y l =>
            have hy := hl y (List.mem_cons_self ..)
            match y, hy with
            | [v], _ => simp [ih l fun x hx => hl x (List.mem_cons_of_mem _ hx)]
      exact key _ _ (by rw [← ht1]; exact r3)
    rw [e2, List.flatten_append]
  have hlen2 : (ys ++ els.drop ys.length).length = els.length := by simp; omega
  rw [ht1] at E r2 s2
  refine wl_copy E r2 s2 hle (elems_one R s3 hone) hg (by rw [ho, hcl]) hu s1 fun w' hown hbel hgr => ?_
  rw [hfl] at hown
  have hown1 : w'.ownsRow B ti.el te.n (ρ i) (ys ++ els.drop ys.length).length (css2 ++ css.drop ys.length).flatten := by rw [hlen2, r1, ht1]; exact hown
  have hsz : ∀ x ∈ css2 ++ css.drop ys.length, x.length = te.n := fun x hx => by
    rcases List.mem_append.1 hx with hx | hx
    · exact s4 x hx
    · exact r3 x (List.mem_of_mem_drop hx)
  have fin : ∀ {h' : Nat → LB} (hh : h' = hf (σ.h.set i (.row ti.el te.n (ys ++ els.drop ys.length)))), Keeps (cxOf B ρ (hf σ.h) w) (cxOf B ρ h' w') → Rel B w0 ρ h' w' → wpList P ops (liftQ B w0 gh Q) rest (a.put o.dst (goInt ys.length)) w' := fun hh KK R' => by
    subst hh
    refine h ρ _ _ ⟨?_, DnL.keep KK _ _ hr.ghost, R', by rw [put_defers]; exact hr.defers⟩
    exact put_dn (DnL.keep KK _ _ hr.slots) (by simp only [Dn]; rfl)
  have hh : updf (hf σ.h) i (.row ti.el te.n (ys ++ els.drop ys.length)) = hf (σ.h.set i (.row ti.el te.n (ys ++ els.drop ys.length))) := (hf_set hil _).symm
  cases A with
  | some ad =>
    have hblk : blkOf (ρ i) = some ad.block := by rw [r1]; rfl
    have hob : Value.ownBlock (.slice (some ad) els.length c) = some ad.block := rfl
    rw [hob] at hgr
    have hB : B ≤ ad.block := (r2.lt ad.block hob).1
    have KK : Keeps (cxOf B ρ (hf σ.h) w) (cxOf B ρ (updf (hf σ.h) i (.row ti.el te.n (ys ++ els.drop ys.length))) w') := .put hhere trivial hblk hgr
    refine fin hh KK (R.put hhere trivial hblk hB hgr (fun t cs e => by cases e) (fun e sz els' e' => ?_))
    injection e' with e2 e3 e4
    subst e2 e3 e4
    refine ⟨some ad, c, css2 ++ css.drop ys.length, by rw [hlen2]; exact r1, hown1, hsz, ?_⟩
    exact (DnLL.keep KK _ _ s3).append (DnLL.keep KK _ _ (r4.drop _))
  | none =>
    have hob : Value.ownBlock (.slice none els.length c) = none := rfl
    rw [hob] at hgr
    have hbw : Below w.heap.size w w' := ⟨hgr.os, hgr.tape, hgr.output, hgr.size, fun k hk => hgr.block k hk (by simp)⟩
    have hnil : els = [] := by
      rcases r2.2 with ⟨_, h0⟩ | ⟨g, cap, cur, hv, _⟩
      · exact List.eq_nil_of_length_eq_zero h0
      · cases hv
    have hy : ys = [] := by
      subst hnil
      exact List.eq_nil_of_length_eq_zero (by simpa using hle)
    have hsame : hf σ.h = hf (σ.h.set i (.row ti.el te.n (ys ++ els.drop ys.length))) := by
      rw [← hh]
      funext j
      unfold updf
      by_cases hj : j = i
      · subst hj; simp [hi, hnil, hy]
      · simp [hj]
    exact fin hsame (.grow hbw) (R.grow hbw)
end
end Go.Proofs.YtekpmlfcmnlmiaaGreatDoor

/- Nil slices as slices of nothing. No condition. -/
import Derived.Test.YtpgfhkbnngjegaaGreatDoorT13
namespace Go.Proofs.YtpgfhkbnngjegaaGreatDoor
open Go.RowKit
set_option linter.unusedVariables false
set_option linter.unusedSimpArgs false

/- Nil slices as slices of nothing. -/
mutual
def nz : TV → TV
  | .agg ts => .agg (nzL ts)
  | .tup ts => .tup (nzL ts)
  | .fn f ts => .fn f (nzL ts)
  | .ptr i off => .ptr i off
  | .row i => .row i
  | .sl b els => .sl b (nzLL els)
  | .eptr ts => .eptr (nzL ts)
  | .osl e sz els => .osl e sz (nzLL els)
  | .z i t => .z i t
  | .win i k sz => .win i k sz
  | .any => .any
  | .nil_ => .sl true []
  | .v u => .v u
def nzL : List TV → List TV
  | [] => []
  | t :: ts => nz t :: nzL ts
def nzLL : List (List TV) → List (List TV)
  | [] => []
  | t :: ts => nzL t :: nzLL ts
end
theorem nzLL_len : ∀ els : List (List TV), (nzLL els).length = els.length
  | [] => rfl
  | t :: ts => by simp [nzLL, nzLL_len ts]
theorem nzLL_nil {els : List (List TV)} (h : nzLL els ≠ []) : els ≠ [] := by
  rintro rfl
  exact h rfl
section
variable {C : Cx}
mutual
theorem Dn.nz {C' : Cx} (K : Keeps C C') : ∀ (t : TV) (u : Value), Dn C t u → Dn C' (nz t) u
  | .any, u, h => by simp [Dn, Go.Proofs.YtpgfhkbnngjegaaGreatDoor.nz]
  | .v _, u, h => by simp only [Dn, Go.Proofs.YtpgfhkbnngjegaaGreatDoor.nz] at h ⊢; exact h
  | .nil_, u, h => by
    simp only [Dn, Go.Proofs.YtpgfhkbnngjegaaGreatDoor.nz] at h ⊢
    exact ⟨none, 0, [], 0, h, Nat.le_refl _, by simp [maxLen], by simp, by simp, by simp [DnLL], fun ad ha => by cases ha⟩
  | .agg ts, u, h => by
    simp only [Dn, Go.Proofs.YtpgfhkbnngjegaaGreatDoor.nz] at h ⊢
    obtain ⟨vs, h1, h2⟩ := h
    exact ⟨vs, h1, DnL.nz K ts vs h2⟩
  | .tup ts, u, h => by
    simp only [Dn, Go.Proofs.YtpgfhkbnngjegaaGreatDoor.nz] at h ⊢
    obtain ⟨vs, h1, h2⟩ := h
    exact ⟨vs, h1, DnL.nz K ts vs h2⟩
  | .fn f ts, u, h => by
    simp only [Dn, Go.Proofs.YtpgfhkbnngjegaaGreatDoor.nz] at h ⊢
    obtain ⟨vs, h1, h2⟩ := h
    exact ⟨vs, h1, DnL.nz K ts vs h2⟩
  | .ptr i off, u, h => by simp only [Go.Proofs.YtpgfhkbnngjegaaGreatDoor.nz]; exact Dn.keep K _ _ h
  | .row i, u, h => by simp only [Go.Proofs.YtpgfhkbnngjegaaGreatDoor.nz]; exact Dn.keep K _ _ h
  | .sl b els, u, h => by
    simp only [Dn, Go.Proofs.YtpgfhkbnngjegaaGreatDoor.nz] at h ⊢
    obtain ⟨A, c, css, sz, h1, h2, h3, h4, h5, h6, h7⟩ := h
    rw [nzLL_len]
    refine ⟨A, c, css, sz, h1, h2, h3, fun ha => by rw [h4 ha]; rfl, h5, DnLL.nz K els css h6, fun ad ha => ?_⟩
    obtain ⟨h8, h9⟩ := h7 ad ha
    refine ⟨fun hne => ?_, fun i y hy => ?_⟩
    · obtain ⟨h10, h11, h12⟩ := h8 (nzLL_nil hne)
      obtain ⟨h13, h14, h15⟩ := K.blk _ h10 h11
      exact ⟨h14, h15, fun hb => ⟨Nat.le_trans K.base (h12 hb).1, by unfold Unf; rw [h13]; exact (h12 hb).2⟩⟩
    · have hne : els ≠ [] := by
        rintro rfl
        simp only [DnLL] at h6
        subst h6
        simp at hy
      obtain ⟨h10, h11, h12⟩ := h8 hne
      exact cell_keep (by rw [addr_block]; exact (K.blk _ h10 h11).1) (h9 i y hy)
  | .eptr ts, u, h => by
    simp only [Dn, Go.Proofs.YtpgfhkbnngjegaaGreatDoor.nz] at h ⊢
    obtain ⟨ad, vs, h1, h2, h3, h4, h5⟩ := h
    obtain ⟨h13, h14, h15⟩ := K.blk _ h2 h3
    exact ⟨ad, vs, h1, h14, h15, DnL.nz K ts vs h4, fun i y hy => cell_keep (by rw [addr_block]; exact h13) (h5 i y hy)⟩
  | .osl e sz els, u, h => by
    simp only [Dn, Go.Proofs.YtpgfhkbnngjegaaGreatDoor.nz] at h ⊢
    obtain ⟨A, c, css, h1, h2, h3, h4⟩ := h
    rw [nzLL_len]
    exact ⟨A, c, css, h1, K.own _ _ _ _ _ h2, h3, DnLL.nz K els css h4⟩
  | .z i t, u, h => by simp only [Go.Proofs.YtpgfhkbnngjegaaGreatDoor.nz]; exact Dn.keep K _ _ h
  | .win i k sz, u, h => by simp only [Go.Proofs.YtpgfhkbnngjegaaGreatDoor.nz]; exact Dn.keep K _ _ h
theorem DnL.nz {C' : Cx} (K : Keeps C C') : ∀ (ts : List TV) (us : List Value), DnL C ts us → DnL C' (nzL ts) us
  | [], us, h => by simp only [DnL, nzL] at h ⊢; exact h
  | t :: ts, us, h => by
    simp only [DnL, nzL] at h ⊢
    obtain ⟨u, us', h1, h2, h3⟩ := h
    exact ⟨u, us', h1, Dn.nz K t u h2, DnL.nz K ts us' h3⟩
theorem DnLL.nz {C' : Cx} (K : Keeps C C') : ∀ (ts : List (List TV)) (us : List (List Value)), DnLL C ts us → DnLL C' (nzLL ts) us
  | [], us, h => by simp only [DnLL, nzLL] at h ⊢; exact h
  | t :: ts, us, h => by
    simp only [DnLL, nzLL] at h ⊢
    obtain ⟨u, us', h1, h2, h3⟩ := h
    exact ⟨u, us', h1, DnL.nz K t u h2, DnLL.nz K ts us' h3⟩
end
end
section
variable {P : Program} {B : Nat} {w0 : World} {gh : List Value} {Q : Exit → St → Prop} {σ : St} {ops : Array Oper} {o : Oper} {rest : List Oper}
end
end Go.Proofs.YtpgfhkbnngjegaaGreatDoor

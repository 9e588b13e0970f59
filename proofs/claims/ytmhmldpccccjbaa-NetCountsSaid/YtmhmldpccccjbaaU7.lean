/- A result's owned row as one that is only read, wherever it stands in the result. No condition. -/
import Derived.Test.YtmhmldpccccjbaaU4
namespace Go.Proofs.Ytmhmldpccccjbaa
open Go.RowKit
set_option linter.unusedVariables false
set_option linter.unusedSimpArgs false
mutual
/-- The row of a result is handed on. -/
def shr : TV → TV
  | .agg ts => .agg (shrL ts)
  | .tup ts => .tup (shrL ts)
  | .osl e sz els => .sl true els
  | .any => .any
  | .v x => .v x
  | .nil_ => .nil_
  | .fn f ts => .fn f ts
  | .ptr i off => .ptr i off
  | .row i => .row i
  | .sl b els => .sl b els
  | .eptr ts => .eptr ts
  | .z i t => .z i t
  | .win i k sz => .win i k sz
def shrL : List TV → List TV
  | [] => []
  | t :: ts => shr t :: shrL ts
end
mutual
def ShO : TV → Prop
  | .agg ts => ShOL ts
  | .tup ts => ShOL ts
  | .osl e sz els => FrLL els
  | .any => True
  | .v x => True
  | .nil_ => True
  | .fn f ts => FrL ts
  | .ptr i off => False
  | .row i => False
  | .sl b els => b = true ∧ FrLL els
  | .eptr ts => False
  | .z _ _ => False
  | .win _ _ _ => False
def ShOL : List TV → Prop
  | [] => True
  | t :: ts => ShO t ∧ ShOL ts
end
section
variable {base : Nat} {w' : World} {ov : Value}
theorem fr_shared (t : TV) (u : Value) (h : Fr t) (hd : Dn (rsCx base w' ov) t u) : Dn (rsCx base w' .nilFunc) t u := Dn.fr (C := rsCx base w' ov) (C' := rsCx base w' .nilFunc) rfl (Nat.le_refl _) (fun k hk _ _ => ⟨hk.1, fun h => by cases h⟩) t u h hd
mutual
theorem shr_dn (hov : ∀ g, blkOf ov = some g → base ≤ g ∧ g < w'.heap.size) : ∀ (t : TV) (u : Value), ShO t → Dn (rsCx base w' ov) t u → Dn (rsCx base w' .nilFunc) (shr t) u
  | .agg ts, u, h, hd => by
    simp only [ShO] at h
    simp only [Dn, shr] at hd ⊢
    obtain ⟨vs, h1, h2⟩ := hd
    exact ⟨vs, h1, shrL_dn hov ts vs h h2⟩
  | .tup ts, u, h, hd => by
    simp only [ShO] at h
    simp only [Dn, shr] at hd ⊢
    obtain ⟨vs, h1, h2⟩ := hd
    exact ⟨vs, h1, shrL_dn hov ts vs h h2⟩
  | .osl e sz els, u, h, hd => by
    simp only [ShO] at h
    simp only [Dn] at hd
    obtain ⟨A, c, css, rfl, ⟨h5, h6⟩, h7, h8⟩ := hd
    have h9 : DnLL (rsCx base w' .nilFunc) els css := DnLL.fr (C := rsCx base w' ov) (C' := rsCx base w' .nilFunc) rfl (Nat.le_refl _) (fun k hk _ _ => ⟨hk.1, fun h => by cases h⟩) _ _ h h8
    refine row_sl (base := base) h6 h7 h9 (fun ad ha => ⟨?_, fun h => by cases h⟩) (fun _ => Nat.le_refl _)
    refine (hov ad.block ?_).1
    rw [← h5, ha]
    rfl
  | .any, u, h, hd => by simp [Dn, shr]
  | .v x, u, h, hd => fr_shared (.v x) u (by simp [Fr]) hd
  | .nil_, u, h, hd => fr_shared (.nil_) u (by simp [Fr]) hd
  | .fn f ts, u, h, hd => fr_shared (.fn f ts) u (by simp only [Fr]; exact h) hd
  | .sl b els, u, h, hd => fr_shared (.sl b els) u (by simp only [Fr]; exact h) hd
  | .ptr i off, u, h, hd => False.elim h
  | .row i, u, h, hd => False.elim h
  | .eptr ts, u, h, hd => False.elim h
  | .z _ _, u, h, hd => False.elim h
  | .win _ _ _, u, h, hd => False.elim h
theorem shrL_dn (hov : ∀ g, blkOf ov = some g → base ≤ g ∧ g < w'.heap.size) : ∀ (ts : List TV) (us : List Value), ShOL ts → DnL (rsCx base w' ov) ts us → DnL (rsCx base w' .nilFunc) (shrL ts) us
  | [], us, h, hd => by simp only [DnL, shrL] at hd ⊢; exact hd
  | t :: ts, us, h, hd => by
    simp only [ShOL] at h
    simp only [DnL, shrL] at hd ⊢
    obtain ⟨u, us', rfl, h1, h2⟩ := hd
    exact ⟨u, us', rfl, shr_dn hov t u h.1 h1, shrL_dn hov ts us' h.2 h2⟩
end
end
theorem TMeets.shr {P : Program} {f : FuncId} {args : List TV} {r r' : TV} (hm : TMeets P f args r) (h : ShO r) (e : Go.Proofs.Ytmhmldpccccjbaa.shr r = r') : TMeets P f args r' := fun C vals hg hd =>
  (hm C vals hg hd).mono fun e' w' ⟨u, ov, h1, h2, h3, h4⟩ => ⟨u, .nilFunc, h1, h2, fun g hg => (by cases hg), e ▸ shr_dn h3 r u h h4⟩
end Go.Proofs.Ytmhmldpccccjbaa

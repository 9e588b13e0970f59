/- Drawn regions that read pinned slots. No condition. -/
import Derived.Test.YtmhmldpccccjbaaU3
namespace Go.Proofs.Ytmhmldpccccjbaa
open Go.RowKit
set_option linter.unusedVariables false
set_option linter.unusedSimpArgs false

section
variable {P : Program} {Q : Exit → Act → World → Prop} {ops : Array Oper} {d : Nat}
def sameAt (d : Nat) (a b : Act) : Prop := a.tmps.toList[d]? = b.tmps.toList[d]?
theorem sameAt_put {a : Act} {dst : Option Tmp} {v : Value} (h : dst ≠ some d) : sameAt d (a.put dst v) a := by
  unfold sameAt Act.put
  cases dst with
  | none => rfl
  | some k =>
    have : k ≠ d := fun e => h (by rw [e])
    simp [Array.getElem?_setIfInBounds, this]
theorem op_same {o : Oper} {a : Act} {w : World} {K : Act → World → Prop} (hd : o.dst ≠ some d) (h : o.wp P a w K Q) : o.wp P a w (fun a' w' => sameAt d a' a ∧ K a' w') Q := by
  unfold Oper.wp at h ⊢
  revert h
  generalize (execOp a.eval o).run P w = r
  intro h
  unfold Oper.upon at h ⊢
  split at h
  · exact ⟨sameAt_put hd, h⟩
  · exact ⟨sameAt_put hd, h⟩
  · exact ⟨sameAt_put hd, h⟩
  · exact h.mono fun e w' hh => by
      cases e with
      | returned v => exact ⟨sameAt_put hd, hh⟩
      | panicked c => exact hh
      | outgrown => exact hh
  · exact h.mono fun v w' hh => ⟨sameAt_put hd, hh⟩
  · exact h
  · exact h
/-- What is shown of the end of a region is shown along with a slot that the region does not write. -/
def keptQ (d : Nat) (a0 : Act) (Q : Exit → Act → World → Prop) : Exit → Act → World → Prop
  | .normal, a, w => sameAt d a a0 ∧ Q .normal a w
  | ex, a, w => Q ex a w
theorem op_kept {o : Oper} {a a0 : Act} {w : World} {K : Act → World → Prop} (h : o.wp P a w K Q) : o.wp P a w K (keptQ d a0 Q) := by
  unfold Oper.wp at h ⊢
  revert h
  generalize (execOp a.eval o).run P w = r
  intro h
  unfold Oper.upon at h ⊢
  split at h
  · exact h
  · exact h
  · exact h
  · exact h.mono fun e w' hh => by
      cases e with
      | returned v => exact hh
      | panicked c => exact hh
      | outgrown => exact hh
  · exact h
  · exact h
  · exact h
theorem wpAny_kept {md : Region.Mode} (hd : ∀ o ∈ ops.toList, o.dst ≠ some d) {a0 : Act} : ∀ (fuel : Nat) (listed : Array Bool) (a : Act) (w : World), sameAt d a a0 → wpAny P md ops Q fuel listed a w → wpAny P md ops (keptQ d a0 Q) fuel listed a w
  | 0, listed, a, w, hs, h => ⟨h.1, hs, h.2⟩
  | fuel + 1, listed, a, w, hs, h => by
    refine ⟨fun hr => ⟨hs, h.1 hr⟩, fun i hi => ?_⟩
    have h2 := h.2 i hi
    unfold wpOp at h2 ⊢
    split
    · rename_i ho
      rw [ho] at h2
      exact wpAny_kept hd fuel _ a w hs h2
    · rename_i o ho
      rw [ho] at h2
      simp only at h2
      have hdo := hd o (by have := Array.mem_of_getElem? ho; simpa using this)
      split
      · rename_i hw
        rw [if_pos hw] at h2
        rcases h2 with h2 | ⟨h2, x, y, h3⟩
        · exact .inl (Oper.wp_mono (fun a' w' hh => wpAny_kept hd fuel _ a' w' (hh.1.trans hs) hh.2) (op_kept (op_same hdo h2)))
        · exact .inr ⟨h2, x, y, h3⟩
      · rename_i hw
        rw [if_neg hw] at h2
        exact wpAny_kept hd fuel _ _ w ((sameAt_put hdo).trans hs) h2
theorem op_monoQ {Q2 : Exit → Act → World → Prop} (hq : ∀ ex a w, Q ex a w → Q2 ex a w) {o : Oper} {a : Act} {w : World} {K : Act → World → Prop} (h : o.wp P a w K Q) : o.wp P a w K Q2 := by
  unfold Oper.wp at h ⊢
  revert h
  generalize (execOp a.eval o).run P w = r
  intro h
  unfold Oper.upon at h ⊢
  split at h
  · exact h
  · exact h
  · exact h
  · exact h.mono fun e w' hh => by
      cases e with
      | returned v => exact hh
      | panicked c => exact hq _ _ _ hh
      | outgrown => obtain ⟨x, y, hh⟩ := hh; exact ⟨x, y, hq _ _ _ hh⟩
  · exact h
  · exact hq _ _ _ h
  · exact h
theorem wpAny_monoQ {md : Region.Mode} {Q2 : Exit → Act → World → Prop} (hq : ∀ ex a w, Q ex a w → Q2 ex a w) : ∀ (fuel : Nat) (listed : Array Bool) (a : Act) (w : World), wpAny P md ops Q fuel listed a w → wpAny P md ops Q2 fuel listed a w
  | 0, listed, a, w, h => ⟨h.1, hq _ _ _ h.2⟩
  | fuel + 1, listed, a, w, h => by
    refine ⟨fun hr => hq _ _ _ (h.1 hr), fun i hi => ?_⟩
    have h2 := h.2 i hi
    unfold wpOp at h2 ⊢
    split
    · rename_i ho
      rw [ho] at h2
      exact wpAny_monoQ hq fuel _ a w h2
    · rename_i o ho
      rw [ho] at h2
      simp only at h2
      split
      · rename_i hw
        rw [if_pos hw] at h2
        rcases h2 with h2 | ⟨h2, x, y, h3⟩
        · exact .inl (Oper.wp_mono (fun a' w' hh => wpAny_monoQ hq fuel _ a' w' hh) (op_monoQ hq h2))
        · exact .inr ⟨h2, x, y, hq _ _ _ h3⟩
      · rename_i hw
        rw [if_neg hw] at h2
        exact wpAny_monoQ hq fuel _ _ w h2
end
section
variable {P : Program} {B : Nat} {w0 : World} {T : Tab} {n : Nat} {e : Env} {h : List XLB} {gs : Frames}
def noDst (d : Nat) (o : Oper) : Bool := match o.dst with
  | some k => !Nat.beq k d
  | none => true
theorem noDst_ne {d : Nat} {o : Oper} (h : noDst d o = true) : o.dst ≠ some d := fun e => by
  unfold noDst at h
  rw [e] at h
  simp at h
/-- A pinned slot that a drawn region reads. -/
theorem RegG.unpin {l : List Oper} {k : KK} (d : Nat) {u : Value} {t : TV} {hp : Nl t} (hd : look e d = .pin u t hp) (hk : PinOk B w0 u t) (hn : Nat.blt d n = true) (hl : l.all (noDst d) = true)
    (hx : RegG P B w0 T n l ((d, .p t hp) :: e) h gs fun e2 h2 gs2 => forceE ((d, .pin u t hp) :: e2) fun e3 => k e3 h2 gs2) : RegG P B w0 T n l e h gs k := .ta fun O gh Q hq => by
  have hdn := Nat.blt_eq.mp hn
  intro ρ a w hr
  have hr' : RelS B w0 gh ρ (xst n ((d, .p t hp) :: e) h gs) a w := ⟨PinRes.one hd hk ρ _ w _ hr.rel hr.slots, hr.ghost, hr.rel, hr.defers⟩
  obtain ⟨u', hu, hu2⟩ := hr.slots.at_ d _ (toL_get? e hdn)
  rw [hd] at hu2
  simp only [XV.den, Dn] at hu2
  subst hu2
  have h1 := regG_ta (gh := gh) (Q := fun ex σ => match ex with
    | .normal => ∃ e2 h2 gs2, σ = xst n e2 h2 gs2 ∧ forceE ((d, .pin u' t hp) :: e2) fun e3 => k e3 h2 gs2
    | ex => False) O hx (fun e2 h2 gs2 hh => ⟨e2, h2, gs2, rfl, hh⟩)
  have h2 := wpAny_kept (d := d) (a0 := a) (fun o ho => noDst_ne (List.all_eq_true.1 hl o (by simpa using ho))) _ _ a w.drew rfl (h1 ρ a w hr')
  refine wpAny_monoQ ?_ _ _ _ _ h2
  intro ex a' w' hh
  cases ex with
  | normal =>
    obtain ⟨hs, σ, ρ', ⟨e2, h2', gs2, rfl, hf⟩, hr2⟩ := hh
    refine ⟨_, ρ', hq _ _ _ (forceE_ok (k := fun e3 => k e3 h2' gs2) hf), ?_, hr2.ghost, hr2.rel, hr2.defers⟩
    show DnL _ (toL n _) _
    rw [toL_set _ _ hdn]
    have h5 := hr2.slots.set (t := .v u') (u := u') d (by simp [Dn])
    have e2 : a'.tmps.toList.set d u' = a'.tmps.toList := by
      apply List.ext_getElem?
      intro i
      rw [List.getElem?_set]
      split
      · rename_i hi; subst hi; split
        · exact (hs.trans hu).symm
        · rename_i h2; rw [List.getElem?_eq_none (by omega)]
      · rfl
    rw [e2] at h5
    exact h5
  | _ => obtain ⟨σ, ρ', hf, _⟩ := hh; exact hf.elim
end
end Go.Proofs.Ytmhmldpccccjbaa

/- copy into a local row of one-cell elements. Condition: what the program's table says of types. -/
import Derived.Test.YtmhmldpccccjbaaT14
namespace Go.Proofs.Ytmhmldpccccjbaa
open Go.RowKit
set_option linter.unusedVariables false
set_option linter.unusedSimpArgs false

end Go.Proofs.Ytmhmldpccccjbaa

namespace Go.Proofs.Ytmhmldpccccjbaa
open Go.RowKit
set_option linter.unusedVariables false
set_option linter.unusedSimpArgs false

section
variable {P : Program} {B : Nat} {w0 : World} {gh : List Value} {σ : St}
theorem TL.copy {Q : Exit → St → Prop} {ops : Array Oper} {o : Oper} {rest : List Oper} {cl : Call} {s x : Operand} {t tx : TypeId} {i : Nat} {els ys : List (List TV)} {ti te : TI} (hg : o.guard = none) (ho : o.op = .call cl) (hcl : cl = { callee := .builtin .copy, args := #[s, x], argTypes := #[t, tx] })
    (T : ApTy P t ti te) (ht1 : te.n = 1) (hs : tev σ.s s = .row i) (hi : hf σ.h i = .row ti.el te.n els) (hx : Elems σ x ys) (hlen : ∀ c ∈ ys, c.length = te.n) (hone : ∀ c ∈ ys, c.all TV.one = true) (hle : ys.length ≤ els.length)
    (h : TL P B w0 gh ops rest ⟨match o.dst with | some d => σ.s.set d (.v (.int .i64 ys.length)) | none => σ.s, σ.h.set i (.row ti.el te.n (ys ++ els.drop ys.length)), σ.g⟩ Q) : TL P B w0 gh ops (o :: rest) σ Q := fun ρ a w hr => by
  have R := hr.rel
  have e1 := tev_dn hr.slots s
  rw [hs] at e1
  simp only [Dn] at e1
  obtain ⟨A, c, css, r1, r2, r3, r4⟩ := R.row i _ _ _ hi
  have hu : a.eval s = .slice A els.length c := e1.2.trans r1
  rw [r1] at r2
  obtain ⟨A2, c2, css2, s1, s2, s3, s4⟩ := elems_sees hr hx hlen T.hn
  obtain ⟨z, E⟩ := T.elem
  have hil : i < σ.h.length := hf_lt hi (by simp)
  have hhere : (hf σ.h i).here := by rw [hi]; trivial
  have hfl : css2.flatten ++ css.flatten.drop ys.length = (css2 ++ css.drop ys.length).flatten := by
    have e3 : ys.length = css2.length := s3.len.symm
    have e2 : css.flatten.drop ys.length = (css.drop ys.length).flatten := by
      have key : ∀ (k : Nat) (l : List (List Value)), (∀ x ∈ l, x.length = 1) → l.flatten.drop k = (l.drop k).flatten := by
        intro k
        induction k with
        | zero => intro l _; simp
        | succ k ih =>
          intro l hl
          cases l with
          | nil => simp
          | cons y l =>
            have hy := hl y (List.mem_cons_self ..)
            match y, hy with
            | [v], _ => simp [ih l fun x hx => hl x (List.mem_cons_of_mem _ hx)]
      exact key _ _ (by rw [← ht1]; exact r3)
    rw [e2, List.flatten_append]
  have hlen2 : (ys ++ els.drop ys.length).length = els.length := by simp; omega
  rw [ht1] at E r2 s2
  refine wl_copy E r2 s2 hle (elems_one R s3 hone) hg (by rw [ho, hcl]) hu s1 fun w' hown hbel hgr => ?_
  rw [hfl] at hown
  have hown1 : w'.ownsRow B ti.el te.n (ρ i) (ys ++ els.drop ys.length).length (css2 ++ css.drop ys.length).flatten := by rw [hlen2, r1, ht1]; exact hown
  have hsz : ∀ x ∈ css2 ++ css.drop ys.length, x.length = te.n := fun x hx => by
    rcases List.mem_append.1 hx with hx | hx
    · exact s4 x hx
    · exact r3 x (List.mem_of_mem_drop hx)
  have fin : ∀ {h' : Nat → LB} (hh : h' = hf (σ.h.set i (.row ti.el te.n (ys ++ els.drop ys.length)))), Keeps (cxOf B ρ (hf σ.h) w) (cxOf B ρ h' w') → Rel B w0 ρ h' w' → wpList P ops (liftQ B w0 gh Q) rest (a.put o.dst (goInt ys.length)) w' := fun hh KK R' => by
    subst hh
    refine h ρ _ _ ⟨?_, DnL.keep KK _ _ hr.ghost, R', by rw [put_defers]; exact hr.defers⟩
    exact put_dn (DnL.keep KK _ _ hr.slots) (by simp only [Dn]; rfl)
  have hh : updf (hf σ.h) i (.row ti.el te.n (ys ++ els.drop ys.length)) = hf (σ.h.set i (.row ti.el te.n (ys ++ els.drop ys.length))) := (hf_set hil _).symm
  cases A with
  | some ad =>
    have hblk : blkOf (ρ i) = some ad.block := by rw [r1]; rfl
    have hob : Value.ownBlock (.slice (some ad) els.length c) = some ad.block := rfl
    rw [hob] at hgr
    have hB : B ≤ ad.block := (r2.lt ad.block hob).1
    have KK : Keeps (cxOf B ρ (hf σ.h) w) (cxOf B ρ (updf (hf σ.h) i (.row ti.el te.n (ys ++ els.drop ys.length))) w') := .put hhere trivial hblk hgr
    refine fin hh KK (R.put hhere trivial hblk hB hgr (fun t cs e => by cases e) (fun e sz els' e' => ?_))
    injection e' with e2 e3 e4
    subst e2 e3 e4
    refine ⟨some ad, c, css2 ++ css.drop ys.length, by rw [hlen2]; exact r1, hown1, hsz, ?_⟩
    exact (DnLL.keep KK _ _ s3).append (DnLL.keep KK _ _ (r4.drop _))
  | none =>
    have hob : Value.ownBlock (.slice none els.length c) = none := rfl
    rw [hob] at hgr
    have hbw : Below w.heap.size w w' := ⟨hgr.os, hgr.tape, hgr.output, hgr.size, fun k hk => hgr.block k hk (by simp)⟩
    have hnil : els = [] := by
      rcases r2.2 with ⟨_, h0⟩ | ⟨g, cap, cur, hv, _⟩
      · exact List.eq_nil_of_length_eq_zero h0
      · cases hv
    have hy : ys = [] := by
      subst hnil
      exact List.eq_nil_of_length_eq_zero (by simpa using hle)
    have hsame : hf σ.h = hf (σ.h.set i (.row ti.el te.n (ys ++ els.drop ys.length))) := by
      rw [← hh]
      funext j
      unfold updf
      by_cases hj : j = i
      · subst hj; simp [hi, hnil, hy]
      · simp [hj]
    exact fin hsame (.grow hbw) (R.grow hbw)
end
end Go.Proofs.Ytmhmldpccccjbaa

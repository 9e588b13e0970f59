/- Numbers counted up in place, in bytes made behind a mark. No condition. -/
import Derived.Test.YtmhmldpccccjbaaU3
import Derived.Test.YtmhmldpccccjbaaU9
namespace Go.Proofs.Ytmhmldpccccjbaa
open Go.RowKit
set_option linter.unusedVariables false
set_option linter.unusedSimpArgs false

section
variable {P : Program} {Q : Exit → Act → World → Prop} {ops : Array Oper} {d : Nat}
def sameAt (d : Nat) (a b : Act) : Prop := a.tmps.toList[d]? = b.tmps.toList[d]?
/-- What is shown of the end of a region is shown along with a slot that the region does not write. -/
def keptQ (d : Nat) (a0 : Act) (Q : Exit → Act → World → Prop) : Exit → Act → World → Prop
  | .normal, a, w => sameAt d a a0 ∧ Q .normal a w
  | ex, a, w => Q ex a w
end
section
variable {P : Program} {B : Nat} {w0 : World} {T : Tab} {n : Nat} {e : Env} {h : List XLB} {gs : Frames}
def noDst (d : Nat) (o : Oper) : Bool := match o.dst with
  | some k => !Nat.beq k d
  | none => true
end
end Go.Proofs.Ytmhmldpccccjbaa

namespace Go.Proofs.Ytmhmldpccccjbaa
open Go.RowKit
set_option linter.unusedVariables false
set_option linter.unusedSimpArgs false

section
variable {P : Program} {B : Nat} {w0 : World} {gh : List Value} {Q Q' : Exit → Act → World → Prop} {ops : Array Oper}
theorem op_then {o : Oper} {a : Act} {w : World} {K next next' : Act → World → Prop} (hn : ∀ a w, next a w → next' a w) (h : o.wp P a w next (Exit.then K Q)) : o.wp P a w next' Q := by
  unfold Oper.wp at h ⊢
  revert h
  generalize (execOp a.eval o).run P w = r
  intro h
  unfold Oper.upon at h ⊢
  split at h
  · exact hn _ _ h
  · exact hn _ _ h
  · exact hn _ _ h
  · exact h.mono fun e w' hh => by
      cases e with
      | returned v => exact hn _ _ hh
      | panicked c => exact hh
      | outgrown => exact hh
  · exact h.mono fun v w' hh => hn _ _ hh
  · exact h
  · exact h
theorem wpList_app {l2 : List Oper} : ∀ {l1 : List Oper} {a : Act} {w : World}, wpList P ops (Exit.then (wpList P ops Q l2) Q) l1 a w → wpList P ops Q (l1 ++ l2) a w
  | [], a, w, h => h
  | o :: r, a, w, h => by
    show wpList P ops Q (o :: (r ++ l2)) a w
    unfold wpList at h ⊢
    split
    · rename_i hw
      rw [if_pos hw] at h
      rcases h with h | h
      · exact .inl (op_then (fun a w hh => wpList_app hh) h)
      · exact .inr h
    · rename_i hw
      rw [if_neg hw] at h
      exact wpList_app h
theorem wpList_mono {l : List Oper} : ∀ {a : Act} {w : World}, (∀ e a w, Q e a w → Q' e a w) → wpList P ops Q l a w → wpList P ops Q' l a w := by
  induction l with
  | nil => intro a w hq h; exact hq _ _ _ h
  | cons o r ih =>
    intro a w hq h
    unfold wpList at h ⊢
    split
    · rename_i hw
      rw [if_pos hw] at h
      rcases h with h | ⟨h, x, y, h2⟩
      · refine .inl ?_
        unfold Oper.wp at h ⊢
        revert h
        generalize (execOp a.eval o).run P w = r
        intro h
        unfold Oper.upon at h ⊢
        split at h
        · exact ih hq h
        · exact ih hq h
        · exact ih hq h
        · exact h.mono fun e w' hh => by
            cases e with
            | returned v => exact ih hq hh
            | panicked c => exact hq _ _ _ hh
            | outgrown => obtain ⟨x, y, hh⟩ := hh; exact ⟨x, y, hq _ _ _ hh⟩
        · exact h.mono fun v w' hh => ih hq hh
        · exact hq _ _ _ h
        · exact h
      · exact .inr ⟨h, x, y, hq _ _ _ h2⟩
    · rename_i hw
      rw [if_neg hw] at h
      exact ih hq h
end
section
variable {P : Program} {B : Nat} {w0 : World} {gh : List Value} {ops : Array Oper}
/-- Operations one behind the other, cut in two. -/
theorem TL.cat {σ : St} {Q : Exit → St → Prop} {l1 l2 : List Oper} (h : TL P B w0 gh ops l1 σ (thenT (fun σ => TL P B w0 gh ops l2 σ Q) Q)) : TL P B w0 gh ops (l1 ++ l2) σ Q := fun ρ a w hr =>
  wpList_app (wpList_mono (fun e a w hh => by
    have := lift_then hh
    cases e <;> first | exact this | (obtain ⟨σ', ρ', h1, h2⟩ := this; exact h1 ρ' _ _ h2)) (h ρ a w hr))
/-- A cell of bytes that were made behind the mark is written over. -/
theorem TL.over {Q : Exit → St → Prop} {σ : St} {o6 o7 : Oper} {t u : TypeId} {x y z : Operand} {s6 : Nat} {l : List Int} {j : Nat} {m : Int} {ti te tu : TI}
    (h6 : o6.guard = none ∧ o6.op = .indexAddr t x y ∧ o6.dst = some s6) (h7 : o7.guard = none ∧ o7.op = .store u (.tmp s6) z ∧ o7.dst = none) (ht : tiOf P t = some ti) (hk : ti.k = 3) (he : tiOf P ti.el = some te) (hte : te.n = 1) (hu : tiOf P u = some tu) (hun : tu.n = 1)
    (hx : tev σ.s x = .sl true (l.map by1)) (hy : tev σ.s y = .v (.int .i64 (j : Int))) (hj : j < l.length) (hz : ∀ v, tev (σ.s.set s6 v) z = .v (.int .u8 m)) (hs : s6 < σ.s.length)
    (h : ∀ ρ a w w' p, RelS B w0 gh ρ σ a w → Shp B w w' → liftQ B w0 gh Q .normal (a.put (some s6) p) w') : TL P B w0 gh ops [o6, o7] σ Q := fun ρ a w hr => by
  obtain ⟨hg6, ho6, hd6⟩ := h6
  obtain ⟨hg7, ho7, hd7⟩ := h7
  have h1 := tev_dn hr.slots x
  have h2 := tev_dn hr.slots y
  rw [hx] at h1
  rw [hy] at h2
  simp only [Dn] at h1 h2
  obtain ⟨A, cap, css, sz, r1, r2, r3, r4, r5, r6, r7⟩ := h1
  have hll : (l.map by1).length = l.length := by simp
  have hne : l.map by1 ≠ [] := by intro h0; rw [List.map_eq_nil_iff] at h0; rw [h0] at hj; simp at hj
  rcases A with _ | ad
  · exact absurd (r4 rfl) hne
  obtain ⟨r8, r9⟩ := r7 ad rfl
  obtain ⟨r10, r11, r12⟩ := r8 hne
  obtain ⟨r13, r14⟩ := r12 trivial
  have hfl := dnll_by1 r6
  have hcell : w.cell? (ad.add j) = some (.int .u8 l[j]) := r9 j _ (by rw [hfl, List.getElem?_map, List.getElem?_eq_getElem hj]; rfl)
  have hfr : w.frozen? (ad.add j) = false := Unf.frozen (by rw [addr_block]; exact r14)
  have e6 : (execOp a.eval o6).run P w = .ok (.value (.pointer (some (ad.add j)))) w := by
    have : (j : Int) < ((l.map by1).length : Int) := by omega
    have hj2 : j < (l.map by1).length := by omega
    simp [execOp, ho6, h2, r1, Instr.indexAt, asInt_run, run_underlying (ti_slice ht hk), ti_size he, hte, hj]
  refine wpList_plain hg6 fun K hK => ?_
  unfold Oper.wp
  rw [e6]
  refine hK _ _ ?_
  have hs6 := put_dn (dst := some s6) (t := .v (.pointer (some (ad.add j)))) (u := .pointer (some (ad.add j))) hr.slots (by simp [Dn])
  have h3 := tev_dn hs6 z
  have h4 := tev_dn hs6 (.tmp s6)
  simp only at h3 h4
  rw [hz] at h3
  rw [show tev (σ.s.set s6 (.v (.pointer (some (ad.add j))))) (.tmp s6) = .v (.pointer (some (ad.add j))) by simp [tev, hs]] at h4
  simp only [Dn] at h3 h4
  rw [hd6]
  refine wpList_plain hg7 fun K hK => ?_
  unfold Oper.wp
  have hz0 : (ad.add j).add 0 = ad.add j := by simp [Addr.add]
  have e7 : (execOp (a.put (some s6) (.pointer (some (ad.add j)))).eval o7).run P w = .ok .skip (w.setCell (ad.add j) (.int .u8 m)) := by
    have e8 : (storeVar u (ad.add j) (.int .u8 m)).run P w = .ok () (w.setCell (ad.add j) (.int .u8 m)) := by
      simp [storeVar, ti_size hu, hun, Value.cells, storeCells, hz0, run_store P w (ad.add j) (.int .u8 m) .plain rfl, hcell, hfr]
    simp [execOp, ho7, h4, h3, Instr.storeAt, Instr.sureAddr, e8]
  rw [e7]
  refine hK _ _ ?_
  rw [hd7]
  exact h ρ a w _ _ hr ((Shp.refl B w).set (by rw [addr_block]; exact r13) ⟨_, hcell⟩ m)
end
section
variable {P : Program} {B : Nat} {w0 : World} {T : Tab} {n : Nat} {e : Env} {h : List XLB} {gs : Frames} {K : XQ} {c : Code}
/-- The waiting frames, of which nothing is known any more but where the walk stops. -/
def anyM : Frames → Frames
  | (0, m) :: r => (0, m) :: anyG r
  | r => anyG r
theorem anyM_dn {C C' : Cx} {gs : Frames} {us : List Value} (h : DnL C (denG gs) us) : DnL C' (denG (anyM gs)) us := by
  unfold anyM
  split
  · rename_i m r
    have e1 : ∀ q : Frames, denG ((0, m) :: q) = denG q := fun q => by simp [denG, toL]
    rw [e1] at h ⊢
    exact anyG_dn h
  · exact anyG_dn h
/-- `x[i] = ..` where x's bytes were made behind the mark: all of that is unknown behind it, but one slot, known by its shape. -/
theorem XT.over (O : TabOk P T) {id : Nat} {a : Code} {ops : Array Oper} (mm : Nat) {o6 o7 : Oper} {t u : TypeId} {x y z : Operand} {s6 : Nat} {ti te tu : TI} {Y : Type} (d : Nat) (v : Y → XV) (r : Y → Prop)
    (hops : ops.toList.drop mm = [o6, o7]) (h6 : o6.guard = none ∧ o6.op = .indexAddr t x y ∧ o6.dst = some s6) (h7 : o7.guard = none ∧ o7.op = .store u (.tmp s6) z ∧ o7.dst = none) (ht : tiOf P t = some ti) (hk : ti.k = 3) (he : tiOf P ti.el = some te) (hte : te.n = 1) (hu : tiOf P u = some tu) (hun : tu.n = 1)
    (hs : Nat.blt s6 n = true) (hd : Nat.blt d n = true)
    (hx : X P B w0 T n a e h gs fun ex e h gs => match ex with
      | .normal => XL P B w0 T n ops.toList (ops.toList.take mm) e h gs fun e1 h1 gs1 => ∃ (l : List Int) (hp : Nl (.sl true (l.map by1))) (j : Nat) (hpj : Nl (.v (.int .i64 (j : Int)))) (m : Int), xev n e1 x = .p (.sl true (l.map by1)) hp ∧ xev n e1 y = .p (.v (.int .i64 (j : Int))) hpj ∧ j < l.length ∧
          (∀ v, tev ((toL n e1).set s6 v) z = .v (.int .u8 m)) ∧ (∀ (C C' : Cx) (u : Value), Shp C.B C.w C'.w → C'.B = C.B → (∀ k, C'.S k) → Dn C (look e1 d).den u → ∃ y, r y ∧ Dn C' (v y).den u) ∧
          ∀ y, r y → forceE ((d, v y) :: mapE spX e1) fun e2 => putK n e2 (some s6) .any fun e3 => K .normal e3 [] (anyM gs1)
      | ex => K ex e h gs) (hne : Nat.beq s6 d = false) : XT P B w0 n (.seq a (.region id ops false)) e h gs K := ⟨fun gh Q hq => by
  refine .seq ((X_ok O hx).ok gh _ fun ex e h gs h1 => ?_)
  cases ex <;> try exact hq _ _ _ _ h1
  refine .region ?_
  rw [← List.take_append_drop mm ops.toList, hops]
  refine .cat ?_
  refine XL_ok O ops gh _ h1 fun e1 h1 gs1 hh => ?_
  obtain ⟨l, hp, j, hpj, m, g1, g2, g3, g4, g5, g6⟩ := hh
  have hsn := Nat.blt_eq.mp hs
  have hdn := Nat.blt_eq.mp hd
  refine TL.over h6 h7 ht hk he hte hu hun (by have := xev_den (n := n) (e := e1) (x := x); rw [g1] at this; exact this.symm) (by have := xev_den (n := n) (e := e1) (x := y); rw [g2] at this; exact this.symm) g3 g4 (by show s6 < (toL n e1).length; rw [toL_len]; exact hsn) ?_
  intro ρ a w w' p hr hb
  obtain ⟨u, hu1, hu2⟩ := hr.slots.at_ d _ (toL_get? e1 hdn)
  obtain ⟨y, hy, hv⟩ := g5 (cxOf B ρ (Go.Proofs.Ytmhmldpccccjbaa.hf (h1.map XLB.den)) w) (cxOf B ρ (Go.Proofs.Ytmhmldpccccjbaa.hf []) w') u hb rfl (fun k => ⟨fun i hi => by simp [Go.Proofs.Ytmhmldpccccjbaa.hf, LB.here] at hi, fun i hp => by simp [Go.Proofs.Ytmhmldpccccjbaa.hf, LB.ps] at hp⟩) hu2
  obtain ⟨e', he', hk2⟩ := putK_ok (forceE_ok (k := fun e2 => putK n e2 (some s6) .any fun e3 => K .normal e3 [] (anyM gs1)) (g6 y hy))
  refine ⟨_, ρ, hq _ _ _ _ hk2, ?_, anyM_dn hr.ghost, Rel.none hr.rel.gl0 (hr.rel.below.trans hb.below) (Nat.le_trans hr.rel.size hb.below.size) (hr.rel.oth.trans hb.oth), by rw [put_defers]; exact hr.defers⟩
  show DnL _ (toL n e') _
  rw [he', toL_set _ _ hdn]
  refine put_dn (dst := some s6) ?_ (by simp [XV.den, Dn])
  have h1 := (sp_dn (C' := cxOf B ρ (Go.Proofs.Ytmhmldpccccjbaa.hf []) w') hr.slots).set d hv
  have e2 : a.tmps.toList.set d u = a.tmps.toList := by
    apply List.ext_getElem?
    intro i
    rw [List.getElem?_set]
    split
    · rename_i hi; subst hi; split
      · exact hu1.symm
      · rename_i h2; rw [List.getElem?_eq_none (by omega)]
    · rfl
  rw [e2] at h1
  exact h1⟩
end
end Go.Proofs.Ytmhmldpccccjbaa

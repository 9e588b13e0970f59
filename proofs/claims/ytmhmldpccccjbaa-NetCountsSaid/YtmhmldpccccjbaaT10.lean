/- The rules over trees in the form that a printed walk uses: the new state by an equation. Condition: those of the rules. -/
import Derived.Test.YtmhmldpccccjbaaT9
import Derived.IntWalk
namespace Go.Proofs.Ytmhmldpccccjbaa
open Go.RowKit
set_option linter.unusedVariables false
set_option linter.unusedSimpArgs false

theorem PlOk.nil {P : Program} : PlOk P [] [] := rfl
theorem PlOk.cons {P : Program} {off ft : Nat} {fs pl : List (Nat × Nat)} {tf : TI} (h : tiOf P ft = some tf) (h2 : PlOk P fs pl) : PlOk P ((off, ft) :: fs) ((off, tf.n) :: pl) := ⟨tf.n, pl, tf, rfl, h, rfl, h2⟩
section
variable {P : Program} {B : Nat} {w0 : World} {gh : List Value} {Q : Exit → St → Prop} {σ : St} {ops : Array Oper} {o : Oper} {rest : List Oper}
theorem TL.st {tv : TV} {new : Option LB} (hg : o.guard = none) (hs : TStep P B w0 σ.h σ.s o tv new) (h : ∀ σ', σ' = σ.step o.dst tv new → TL P B w0 gh ops rest σ' Q) : TL P B w0 gh ops (o :: rest) σ Q := .step hg hs (h _ rfl)
theorem TL.st_g {tv : TV} {new : Option LB} {j d : Nat} {og : Oper} {b : Bool} (hg : o.guard = some (j, b)) (ho : ops[j]? = some og) (hd : og.dst = some d) (hdl : d < σ.s.length) (hb : tev σ.s (.tmp d) = .v (.bool b)) (hs : TStep P B w0 σ.h σ.s o tv new)
    (h : ∀ σ', σ' = σ.step o.dst tv new → TL P B w0 gh ops rest σ' Q) : TL P B w0 gh ops (o :: rest) σ Q := .step_g hg ho hd hdl hb hs (h _ rfl)
theorem TL.sk_g {j d : Nat} {og : Oper} {x : Value} {b' : Bool} (hg : o.guard = some (j, b')) (ho : ops[j]? = some og) (hd : og.dst = some d) (hdl : d < σ.s.length) (hb : tev σ.s (.tmp d) = .v x) (hne : isB x b' = false)
    (h : ∀ σ', σ' = σ.step o.dst (.v undef) none → TL P B w0 gh ops rest σ' Q) : TL P B w0 gh ops (o :: rest) σ Q := .skip_g hg ho hd hdl hb hne (h _ rfl)
theorem TL.sto {t t0 : TypeId} {x y : Operand} {i off : Nat} {cs l : List TV} {ti : TI} (hg : o.guard = none) (ho : o.op = .store t x y) (hx : tev σ.s x = .ptr i off) (hi : hf σ.h i = .cells t0 cs) (ht : tiOf P t = some ti) (hy : cellsT (tev σ.s y) = some l)
    (hl : l.length = ti.n) (h1 : l.all TV.one = true) (hoff : off + l.length ≤ cs.length) (h : ∀ σ' : St, σ' = ⟨match o.dst with | some d => σ.s.set d .any | none => σ.s, σ.h.set i (.cells t0 (setsV cs off l)), σ.g⟩ → TL P B w0 gh ops rest σ' Q) : TL P B w0 gh ops (o :: rest) σ Q :=
  .store hg ho hx hi ht hy hl h1 hoff (h _ rfl)
def jumpT (l : Nat) (J : St → Prop) (Q : Exit → St → Prop) : Exit → St → Prop
  | .goto l', σ => l' = l ∧ J σ
  | e, σ => Q e σ
/-- A scope that is left by one label, ahead. -/
theorem TW.scope_l {c rest : Code} (l : Nat) (hf : findLabel c l = some rest) (h : TW P B w0 gh c σ (jumpT l (fun σ => TW P B w0 gh rest σ (noGotoT Q)) Q)) : TW P B w0 gh (.scope c) σ Q := fun ρ a w hr =>
  wp_scope_jumps l (fun a w => ∃ σ ρ, TW P B w0 gh rest σ (noGotoT Q) ∧ RelS B w0 gh ρ σ a w) (fun _ _ => 0) hf
    (wp_mono (h ρ a w hr) fun e a w ⟨σ, ρ, h1, h2⟩ => by
      cases e <;> simp only [jumpT, Exit.jump] at h1 ⊢ <;> first | exact ⟨σ, ρ, h1, h2⟩ | exact ⟨h1.1, σ, ρ, h1.2, h2⟩)
    (fun a w ⟨σ, ρ, h1, h2⟩ => wp_mono (h1 ρ a w h2) fun e a w ⟨σ, ρ, h1, h2⟩ => by
      cases e <;> simp only [noGotoT, Exit.jump] at h1 ⊢ <;> first | exact ⟨σ, ρ, h1, h2⟩ | exact h1.elim)
theorem TW.eqs {c : Code} (h : ∀ σ', σ' = σ → TW P B w0 gh c σ' Q) : TW P B w0 gh c σ Q := h _ rfl
theorem TL.eqs {l : List Oper} (h : ∀ σ', σ' = σ → TL P B w0 gh ops l σ' Q) : TL P B w0 gh ops l σ Q := h _ rfl
theorem TPar.st {l : List Oper} {s : List TV} {h : List LB} {K : List TV → List LB → Prop} {tv : TV} {new : Option LB} (hg : o.guard = none) (hs : TStep P B w0 h s o tv new) (hr : ∀ s' h', s' = putO s o.dst tv → h' = addO h new → TPar P B w0 l rest s' h' K) : TPar P B w0 l (o :: rest) s h K :=
  .run hg hs (hr _ _ rfl rfl)
theorem TPar.st_g {l : List Oper} {og : Oper} {s : List TV} {h : List LB} {K : List TV → List LB → Prop} {tv : TV} {new : Option LB} {j d : Nat} {b : Bool} (hg : o.guard = some (j, b)) (ho : l[j]? = some og) (hd : og.dst = some d) (hdl : d < s.length) (hb : tev s (.tmp d) = .v (.bool b)) (hs : TStep P B w0 h s o tv new) (hr : ∀ s' h', s' = putO s o.dst tv → h' = addO h new → TPar P B w0 l rest s' h' K) : TPar P B w0 l (o :: rest) s h K :=
  .run_g hg ho hd hdl hb hs (hr _ _ rfl rfl)
theorem TPar.sk_g {l : List Oper} {og : Oper} {s : List TV} {h : List LB} {K : List TV → List LB → Prop} {j d : Nat} {x : Value} {b' : Bool} (hg : o.guard = some (j, b')) (ho : l[j]? = some og) (hd : og.dst = some d) (hdl : d < s.length) (hb : tev s (.tmp d) = .v x) (hne : isB x b' = false) (hr : ∀ s' h', s' = putO s o.dst (.v undef) → h' = addO h none → TPar P B w0 l rest s' h' K) : TPar P B w0 l (o :: rest) s h K :=
  .skip_g hg ho hd hdl hb hne (hr _ _ rfl rfl)
end
section
variable {h : List LB} {q : Option Nat} {x y : Value} {ts rs : List TV} {t r : TV} {b b' : Bool} {els els' : List (List TV)} {i : Nat} {e : TypeId} {sz : Nat}
theorem Out_v : Out h q (.v x) (.v y) ↔ x = y := by simp only [Out, TV.v.injEq]; exact eq_comm
theorem Out_agg : Out h q (.agg ts) (.agg rs) ↔ OutL h q ts rs := by
  simp only [Out, TV.agg.injEq]
  exact ⟨fun ⟨_, h1, h2⟩ => h1 ▸ h2, fun h1 => ⟨_, rfl, h1⟩⟩
theorem Out_tup : Out h q (.tup ts) (.tup rs) ↔ OutL h q ts rs := by
  simp only [Out, TV.tup.injEq]
  exact ⟨fun ⟨_, h1, h2⟩ => h1 ▸ h2, fun h1 => ⟨_, rfl, h1⟩⟩
theorem OutL_nil : OutL h q [] [] ↔ True := by simp [OutL]
theorem OutL_cons : OutL h q (t :: ts) (r :: rs) ↔ Out h q t r ∧ OutL h q ts rs := by
  simp only [OutL, List.cons.injEq]
  exact ⟨fun ⟨_, _, ⟨h1, h2⟩, h3, h4⟩ => h1 ▸ h2 ▸ ⟨h3, h4⟩, fun h1 => ⟨_, _, ⟨rfl, rfl⟩, h1.1, h1.2⟩⟩
theorem Out_sl : Out h q (.sl b els) (.sl b' els') ↔ b = true ∧ FrLL els ∧ b' = true ∧ els = els' := by
  simp only [Out, TV.sl.injEq]
  exact ⟨fun ⟨h1, h2, h3, h4⟩ => ⟨h1, h2, h3, h4.symm⟩, fun ⟨h1, h2, h3, h4⟩ => ⟨h1, h2, h3, h4.symm⟩⟩
theorem Out_row_osl : Out h q (.row i) (.osl e sz els) ↔ hf h i = .row e sz els ∧ FrLL els ∧ q = some i := by
  simp only [Out, TV.osl.injEq, reduceCtorEq, and_false, or_false]
  constructor
  · rintro ⟨e', sz', els', h1, h2, h3, rfl, rfl, rfl⟩
    exact ⟨h1, h2, h3⟩
  · rintro ⟨h1, h2, h3⟩
    exact ⟨_, _, _, h1, h2, h3, rfl, rfl, rfl⟩
theorem Out_nil_osl : Out h q .nil_ (.osl e sz els) ↔ q = none ∧ els = [] := by
  simp only [Out, reduceCtorEq, TV.osl.injEq, false_or]
  constructor
  · rintro ⟨h1, e', sz', rfl, rfl, rfl⟩
    exact ⟨h1, rfl⟩
  · rintro ⟨h1, rfl⟩
    exact ⟨h1, _, _, rfl, rfl, rfl⟩
theorem Out_nil_sl : Out h q .nil_ (.sl b els) ↔ b = true ∧ els = [] := by
  simp only [Out, reduceCtorEq, TV.sl.injEq, false_or, and_false, exists_false, or_false]
theorem Out_nil_nil : Out h q .nil_ .nil_ ↔ True := by simp [Out]
end
/-- A state with some slots and blocks told anew. -/
def setsL {α : Type} (s : List α) : List (Nat × α) → List α
  | [] => s
  | (i, t) :: l => setsL (s.set i t) l
section
variable {P : Program} {B : Nat} {w0 : World} {gh : List Value} {Q : Exit → St → Prop} {σ : St}
theorem SLe.back (n : Nat) {s : List TV} {h : List LB} {g : List TV} (hs : LeL (kpL (low n) σ.s) s) (hh : LeB ((σ.h.take n).map (LB.kp (low n))) h) (hg : LeL (kpL (low n) σ.g) g) : SLe B w0 gh σ ⟨s, h, g⟩ := (SLe.cut n).trans (.of hs hh hg)
end
/-- Contracts whose result is told by an equation. -/
theorem TMeets.eq {P : Program} {f : FuncId} {args args' : List TV} {r r' : TV} (h : TMeets P f args r) (ha : args = args') (hr : r = r') : TMeets P f args' r' := by subst ha hr; exact h
end Go.Proofs.Ytmhmldpccccjbaa

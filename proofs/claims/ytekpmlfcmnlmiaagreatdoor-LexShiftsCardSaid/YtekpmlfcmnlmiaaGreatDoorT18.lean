/- Code in the round of a range over a function: what is shown of a region elsewhere holds there. No condition. -/
import Derived.Test.YtekpmlfcmnlmiaaGreatDoorT16
import Derived.RangeFuncNested
import Derived.RangeFuncLeaves
import Derived.OrdersIn
import Derived.TacticsIn
namespace Go.Proofs.YtekpmlfcmnlmiaaGreatDoor
open Go.RowKit
set_option linter.unusedVariables false
set_option linter.unusedSimpArgs false

abbrev FR (l : Nat) : Fence := Fence.wide.inRound l
def noDefer (o : Oper) : Bool := match o.op with
  | .defer _ => false
  | _ => true
theorem noDefer_ne {o : Oper} (h : noDefer o = true) (c : Call) : o.op ≠ .defer c := fun e => by simp [noDefer, e] at h
section
variable {P : Program} {l n : Nat}
theorem calls_in {f : FuncId} {args : Array Value} {w : World} {R : Ending → World → Prop} (h : Calls P f args w R) : CallsIn (FR l) n P f args w R := (callsIn_wide (n := n)).2 h
theorem rows_in {row : String} {args : Array Value} {w : World} {R : Value → World → Prop} (h : Rows P row args w R) : RowsIn (FR l) n P row args w R := fun c cs _ =>
  let ⟨v, w', r, s⟩ := h c cs; ⟨v, w', r, stepsIn_wide.2 s⟩
theorem op_in {o : Oper} {a : Act} {w : World} {next next' : Act → World → Prop} {Q : Exit → Act → World → Prop} (hd : noDefer o = true) (hn : ∀ a w, next a w → next' a w) (h : o.wp P a w next Q) : o.wpIn (FR l) n P a w next' Q := by
  refine ⟨fun _ _ => trivial, ?_⟩
  rw [show (FR l).round = some l from rfl, Oper.semAt_some l a.eval o (noDefer_ne hd)]
  unfold Oper.wp at h
  revert h
  generalize (execOp a.eval o).run P w = r
  intro h
  unfold Oper.upon at h
  split at h
  · exact hn _ _ h
  · exact hn _ _ h
  · exact hn _ _ h
  · exact ⟨fun e => (by cases e), calls_in (h.mono fun e w' hh => by
      cases e with
      | returned v => exact hn _ _ hh
      | panicked c => exact hh
      | outgrown => exact hh)⟩
  · exact ⟨fun e => (by cases e), rows_in (h.mono fun v w' hh => hn _ _ hh)⟩
  · exact h
  · exact h.elim
theorem wpList_in {ops : Array Oper} {Q : Exit → Act → World → Prop} (hL : ¬ LetsOut Q) : ∀ (r : List Oper) (a : Act) (w : World), r.all noDefer = true → wpList P ops Q r a w → wpListIn (FR l) n P ops Q r a w
  | [], a, w, _, h => h
  | o :: r, a, w, hd, h => by
    simp only [List.all_cons, Bool.and_eq_true] at hd
    unfold wpList at h
    unfold wpListIn
    split
    · rename_i hw
      rw [if_pos hw] at h
      rcases h with h | h
      · exact op_in hd.1 (fun a w hh => wpList_in hL r a w hd.2 hh) h
      · exact (hL h.2).elim
    · rename_i hw
      rw [if_neg hw] at h
      exact ⟨fun _ _ => trivial, wpList_in hL r _ _ hd.2 h⟩
theorem wpOp_in {ops : Array Oper} {Q : Exit → Act → World → Prop} (hL : ¬ LetsOut Q) {i : Nat} {K K' : Act → World → Prop} {a : Act} {w : World} (hd : ∀ o ∈ ops.toList, noDefer o = true) (hK : ∀ a w, K a w → K' a w) (h : wpOp P ops Q i K a w) : wpOpIn (FR l) n P ops Q i K' a w := by
  unfold wpOp at h
  unfold wpOpIn
  split
  · rename_i ho
    rw [ho] at h
    exact hK _ _ h
  · rename_i o ho
    rw [ho] at h
    simp only at h
    have ho' := hd o (by have := Array.mem_of_getElem? ho; simpa using this)
    split
    · rename_i hw
      rw [if_pos hw] at h
      rcases h with h | h
      · exact op_in ho' hK h
      · exact (hL h.2).elim
    · rename_i hw
      rw [if_neg hw] at h
      exact ⟨fun _ _ => trivial, hK _ _ h⟩
theorem wpAny_in {ops : Array Oper} {md : Region.Mode} {Q : Exit → Act → World → Prop} (hL : ¬ LetsOut Q) (hd : ∀ o ∈ ops.toList, noDefer o = true) : ∀ (fuel : Nat) (listed : Array Bool) (a : Act) (w : World), wpAny P md ops Q fuel listed a w → wpAnyIn (FR l) n P md ops Q fuel listed a w
  | 0, listed, a, w, h => h
  | fuel + 1, listed, a, w, h => by
    unfold wpAny at h
    unfold wpAnyIn
    exact ⟨h.1, fun i hi => wpOp_in hL hd (fun a w hh => wpAny_in hL hd fuel _ a w hh) (h.2 i hi)⟩
end
/-- Code in a round of a range over a function. -/
def TQ (P : Program) (B : Nat) (w0 : World) (gh : List Value) (c : Code) (σ : St) (Q : Exit → St → Prop) : Prop := ∀ l n ρ a w, RelS B w0 gh ρ σ a w → c.wpIn (FR l) n P (liftQ B w0 gh Q) a w
section
variable {P : Program} {B : Nat} {w0 : World} {gh : List Value} {σ : St} {Q : Exit → St → Prop} {ops : Array Oper}
theorem noOut (h : ∀ σ, ¬ Q .outgrown σ) : ¬ LetsOut (liftQ B w0 gh Q) := fun ⟨_, _, σ, _, h1, _⟩ => h σ h1
theorem TA.ti {id : Nat} (hm : P.follows .mixedOrders = true) (hd : ops.toList.all noDefer = true) (hQ : ∀ σ, ¬ Q .outgrown σ) (h : TA P B w0 gh ops σ Q) : TQ P B w0 gh (.region id ops true) σ Q := fun l n ρ a w hr =>
  wpIn_region_any hm (wpAny_in (noOut hQ) (List.all_eq_true.1 hd) _ _ _ _ (h ρ a w hr))
theorem TL.ti {id : Nat} (hd : ops.toList.all noDefer = true) (hQ : ∀ σ, ¬ Q .outgrown σ) (h : TL P B w0 gh ops ops.toList σ Q) : TQ P B w0 gh (.region id ops false) σ Q := fun l n ρ a w hr =>
  wpIn_region_list (wpList_in (noOut hQ) _ _ _ hd (h ρ a w hr))
theorem TQ.mono {c : Code} {Q' : Exit → St → Prop} (h : TQ P B w0 gh c σ Q) (hq : ∀ e σ, Q e σ → Q' e σ) : TQ P B w0 gh c σ Q' := fun l n ρ a w hr => wpIn_mono (h l n ρ a w hr) fun e a w ⟨σ, ρ, h1, h2⟩ => ⟨σ, ρ, hq _ _ h1, h2⟩
theorem TQ.seq {x y : Code} (h : TQ P B w0 gh x σ (thenT (fun σ => TQ P B w0 gh y σ Q) Q)) : TQ P B w0 gh (.seq x y) σ Q := fun l n ρ a w hr =>
  wpIn_seq (wpIn_mono (h l n ρ a w hr) fun e a w hh => by
    have := lift_then hh
    cases e <;> first | exact this | (obtain ⟨σ', ρ', h1, h2⟩ := this; exact h1 l n ρ' _ _ h2))
theorem TQ.skip (h : Q .normal σ) : TQ P B w0 gh .skip σ Q := fun l n ρ a w hr => wpIn_skip ⟨σ, ρ, h, hr⟩
theorem TQ.exit {id : Nat} (h : Q (.exit id) σ) : TQ P B w0 gh (.exit id) σ Q := fun l n ρ a w hr => wpIn_exit ⟨σ, ρ, h, hr⟩
theorem TQ.ret (h : Q .ret σ) : TQ P B w0 gh .ret σ Q := fun l n ρ a w hr => wpIn_ret ⟨σ, ρ, h, hr⟩
theorem TQ.cond {c : Operand} {x y : Code} {b : Bool} (hc : tev σ.s c = .v (.bool b)) (ht : b = true → TQ P B w0 gh x σ Q) (hf : b = false → TQ P B w0 gh y σ Q) : TQ P B w0 gh (.cond c x y) σ Q := fun l n ρ a w hr => by
  have h1 := tev_dn hr.slots c
  rw [hc] at h1
  simp only [Dn] at h1
  exact wpIn_cond_split h1 (fun hb => ht hb l n ρ a w hr) (fun hb => hf hb l n ρ a w hr)
theorem TQ.block {id : Nat} {c : Code} (h : TQ P B w0 gh c σ (inBlockT id Q)) : TQ P B w0 gh (.block id c) σ Q := fun l n ρ a w hr =>
  wpIn_block (wpIn_mono (h l n ρ a w hr) fun e a w ⟨σ, ρ, h1, h2⟩ => by
    cases e <;> simp only [inBlockT, Exit.inBlock] at h1 ⊢ <;> first | exact ⟨σ, ρ, h1, h2⟩ | (split at h1 <;> (rename_i hh; simp only [hh, if_true, if_false] ; exact ⟨σ, ρ, h1, h2⟩)))
end
end Go.Proofs.YtekpmlfcmnlmiaaGreatDoor

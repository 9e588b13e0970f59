/- A region that draws its order and appends to a local row: the append waits for all ahead of it in the text; what stands behind it and ahead of the stores are addresses alone. Condition: the edges that the text says. -/
import Derived.Test.YtekpmlfcmnlmiaaGreatDoorT10
namespace Go.Proofs.YtekpmlfcmnlmiaaGreatDoor
open Go.RowKit
set_option linter.unusedVariables false
set_option linter.unusedSimpArgs false

/-- Operations that reckon out of slots alone, and do not speak of the row i. -/
def TPu (P : Program) (B : Nat) (w0 : World) (i : Nat) : List Oper → List TV → (List TV → Prop) → Prop
  | [], s, K => K s
  | o :: rest, s, K => ∃ tv, o.guard = none ∧ TStep P B w0 [] s o tv none ∧ (∀ x ∈ o.op.operands.toList, kp (bar i) (tev s x) = tev s x) ∧ kp (bar i) tv = tv ∧ TPu P B w0 i rest (putO s o.dst tv) K
theorem TPu.st {P : Program} {B : Nat} {w0 : World} {i : Nat} {o : Oper} {rest : List Oper} {s : List TV} {K : List TV → Prop} {tv : TV} (hg : o.guard = none) (hs : TStep P B w0 [] s o tv none) (hx : ∀ x ∈ o.op.operands.toList, kp (bar i) (tev s x) = tev s x) (hv : kp (bar i) tv = tv)
    (h : ∀ s', s' = putO s o.dst tv → TPu P B w0 i rest s' K) : TPu P B w0 i (o :: rest) s K := ⟨tv, hg, hs, hx, hv, h _ rfl⟩
theorem TStep.weak {P : Program} {B : Nat} {w0 : World} {h : List LB} {s : List TV} {o : Oper} {tv : TV} (H : TStep P B w0 [] s o tv none) : TStep P B w0 h s o tv none := by
  intro ρ h' w a _ _ R hx K Q hK
  exact H ρ h' w a (fun i hi => absurd hi (by simp)) (fun h => by cases h) R hx K Q fun u w' ρ' R' KK hb hd => hK u w' ρ' R' KK hb hd

/-- Each of the first n has one behind it, up to n, that waits for it. -/
def covB (l : List Oper) (n : Nat) : Bool := (List.range n).all fun i => (List.range (n + 1)).any fun j => decide (i < j) && match l[j]? with
  | some o => o.after.any fun e => decide (e.on = i) && Region.binds .any e
  | none => false
def ixA (n : Nat) : Nat → Nat := fun p => if p < n then p else p + 1
/-- What the slots and edges must say. -/
def appB (l : List Oper) (n k da : Nat) : Bool :=
  let m := l.take n ++ (l.drop (n + 1)).take k
  backB l.toArray && decide (n + 1 + k ≤ l.length) && parB l m (ixA n) && covB l n &&
  (m.all fun o => !(readsOf l o).contains da && !(o.dst == some da)) &&
  (match l[n]? with
    | some o => o.dst == some da && (tmpsOf o.op.operands.toList).all fun t => ((l.drop (n + 1)).take k).all fun p => !(p.dst == some t)
    | none => false) &&
  (decide (n + 1 + k = l.length) || (decide (n + 1 + k < l.length) && Region.sinkB .any l.toArray (n + 1 + k) && Region.chainB .any l.toArray (n + 1 + k) && Region.seqB .any l.toArray (l.length - (n + 1 + k)) (n + 1 + k) (headOf (n + 1 + k) l.length)))

section
variable {P : Program} {B : Nat} {w0 : World} {gh : List Value} {l : List Oper}
/-- The slots, those of pure operations that have not run untold. -/
def holes (m : List Oper) (n : Nat) (ix : Nat → Nat) (listed : Array Bool) (s : List TV) : List TV :=
  (List.range s.length).map fun t => if ∃ p, p < m.length ∧ (n ≤ p ∧ (m[p]?).bind (·.dst) = some t ∧ listed.getD (ix p) false = false) then .any else s.getD t .any
/-- What holds behind the append. -/
structure PB (B : Nat) (w0 : World) (gh : List Value) (m : List Oper) (n : Nat) (ix : Nat → Nat) (s : List TV) (h : List LB) (g : List TV) (listed : Array Bool) (a : Act) (w : World) : Prop where
  ex : ∃ ρ, Rel B w0 ρ (hf h) w ∧ DnL (cxOf B ρ (hf h) w) g gh ∧ a.tmps.size = s.length ∧ a.defers = [] ∧
    ∀ (t : Nat) (u : Value), a.tmps[t]? = some u → (∀ p o, n ≤ p → m[p]? = some o → o.dst = some t → listed.getD (ix p) false = true) → Dn (cxOf B ρ (hf h) w) (s.getD t .any) u

end
end Go.Proofs.YtekpmlfcmnlmiaaGreatDoor

/- How an argument that came in reads, in the words of the memory text. No condition. -/
import Derived.Test.YtekpmlfcmnlmiaaGreatDoorLaw
import Derived.WalkKit
import Derived.ProofKit
import Derived.OpenShut
import Derived.ChangeOld
import Derived.Deep.Slices
import Derived.Deep.Fields
namespace Go.Proofs.YtekpmlfcmnlmiaaGreatDoor
open Go.ChangeShapes Go.WideShapes Go.ChangeAt Go.RowKit
set_option linter.unusedVariables false

/-- A slice of integers that came in: its elements are l. -/
structure Row (w : World) (k : IntKind) (A : Option Addr) (n cap : Nat) (l : List Int) : Prop where
  sees : Sees w none 1 A n (l.map (Value.int k))
  nc : n ≤ cap
  small : cap ≤ maxLen
  wf : ∀ x ∈ l, (Lit.int k x).wf = true

/-- A slice of slices of integers that came in: its cells are vs. -/
structure RowsOf (w : World) (k : IntKind) (A : Option Addr) (n cap : Nat) (vs : List Value) : Prop where
  sees : Sees w none 1 A n vs
  nc : n ≤ cap
  small : cap ≤ maxLen
  each : ∀ u ∈ vs, ∃ A n c l, u = .slice A n c ∧ Row w k A n c l

/-- A slice of pairs of integers (a struct of two fields) that came in. -/
structure PairsOf (w : World) (k : IntKind) (A : Option Addr) (n cap : Nat) (ps : List (Int × Int)) : Prop where
  sees : Sees w none 2 A n (ps.flatMap fun p => [.int k p.1, .int k p.2])
  len : ps.length = n
  nc : n ≤ cap
  small : cap ≤ maxLen
  wf : ∀ p ∈ ps, (Lit.int k p.1).wf = true ∧ (Lit.int k p.2).wf = true

theorem flat2_get {k : IntKind} : ∀ (ps : List (Int × Int)) (i : Nat) (p : Int × Int), ps[i]? = some p →
    (ps.flatMap fun p => [Value.int k p.1, Value.int k p.2])[i * 2]? = some (.int k p.1) ∧ (ps.flatMap fun p => [Value.int k p.1, Value.int k p.2])[i * 2 + 1]? = some (.int k p.2)
  | [], i, p, h => by simp at h
  | q :: ps, 0, p, h => by
    simp at h
    subst h
    simp
  | q :: ps, i + 1, p, h => by
    have := flat2_get (k := k) ps i p (by simpa using h)
    rw [List.flatMap_cons, show (i + 1) * 2 = i * 2 + 2 by omega, show i * 2 + 2 + 1 = i * 2 + 1 + 2 by omega]
    simpa using this

theorem PairsOf.at_ {w w' : World} {k : IntKind} {A : Option Addr} {n cap : Nat} {ps : List (Int × Int)} (h : PairsOf w k A n cap ps) (hb : Below w.heap.size w w') {i : Nat} (hi : i < n) :
    ∃ ad p, A = some ad ∧ ps[i]? = some p ∧ w'.cell? (ad.add (i * 2)) = some (.int k p.1) ∧ w'.cell? ⟨(ad.add (i * 2)).block, (ad.add (i * 2)).off + 1, none⟩ = some (.int k p.2) := by
  have hs := h.sees.below hb
  obtain ⟨ad, rfl⟩ := hs.addr (by omega)
  have hl : i < ps.length := by have := h.len; omega
  obtain ⟨h1, h2⟩ := flat2_get (k := k) ps i _ (List.getElem?_eq_getElem hl)
  exact ⟨ad, _, rfl, List.getElem?_eq_getElem hl, (hs.2.2 ad rfl).2 _ _ h1, by have := (hs.2.2 ad rfl).2 _ _ h2; rwa [← addr_add] at this⟩

end Go.Proofs.YtekpmlfcmnlmiaaGreatDoor

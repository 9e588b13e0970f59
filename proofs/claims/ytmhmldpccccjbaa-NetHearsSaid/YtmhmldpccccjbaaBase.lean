/- Words that every walk of this seat uses: lists of integers as cells, what is equal, what a walk ends with. No condition. -/
import Derived.Test.YtmhmldpccccjbaaRows
import Derived.Test.YtmhmldpccccjbaaLaw
import Derived.WalkKit
import Derived.BigQuiet
import Derived.WalkLawsBesides
import Derived.Lib.Hide
import Derived.WalkSpells
import Derived.Deep.QuietTactic
import Derived.Deep.RegionHeld3
namespace Go.Proofs.Ytmhmldpccccjbaa
open Go.RowKit
set_option linter.unusedVariables false

/-- Numbers as cells. -/
def ib (k : IntKind) (l : List Int) : List Value := l.map (Value.int k)

theorem ib_length (k : IntKind) (l : List Int) : (ib k l).length = l.length := by simp [ib]
theorem ib_get {k : IntKind} {l : List Int} {i : Nat} {u : Value} (h : (ib k l)[i]? = some u) : ∃ c, l[i]? = some c ∧ u = .int k c := by
  simp only [ib, List.getElem?_map, Option.map_eq_some_iff] at h
  obtain ⟨c, hc, rfl⟩ := h
  exact ⟨c, hc, rfl⟩
theorem ib_one (k : IntKind) (l : List Int) : ∀ u ∈ ib k l, u.oneCell' = true := ints_oneCell k l
theorem ib_app (k : IntKind) (l m : List Int) : ib k (l ++ m) = ib k l ++ ib k m := by simp [ib]
theorem ib_take (k : IntKind) (l : List Int) (a : Nat) : (ib k l).take a = ib k (l.take a) := by simp [ib]
theorem ib_drop (k : IntKind) (l : List Int) (a : Nat) : (ib k l).drop a = ib k (l.drop a) := by simp [ib]
theorem ib_set (k : IntKind) (l : List Int) (j : Nat) (x : Int) : (ib k l).set j (.int k x) = ib k (l.set j x) := by simp [ib, List.map_set]
theorem ib_snoc (k : IntKind) (l : List Int) (x : Int) : ib k l ++ #[Value.int k x].toList = ib k (l ++ [x]) := by simp [ib]
theorem ib_rep (k : IntKind) (n : Nat) (x : Int) : List.replicate n (Value.int k x) = ib k (List.replicate n x) := by simp [ib]
theorem Sees.len {w : World} {e : Option TypeId} {A : Option Addr} {n : Nat} {k : IntKind} {l : List Int} (h : Sees w e 1 A n (ib k l)) : l.length = n := by
  have := h.1
  simpa [ib_length] using this
theorem Sees.cut {w : World} {e : Option TypeId} {A : Option Addr} {n cap a m : Nat} {k : IntKind} {l : List Int} (h : Sees w e 1 A n (ib k l)) (hc : n ≤ cap) (ha : a ≤ n) (hm : m ≤ n - a) :
    Sees w e 1 (if cap = a then A else A.map (·.add a)) m (ib k ((l.drop a).take m)) := by
  have := (h.drop ha hc).take hm
  simpa only [Nat.mul_one, ib_drop, ib_take] using this
theorem Sees.head {w : World} {e : Option TypeId} {A : Option Addr} {n m : Nat} {k : IntKind} {l : List Int} (h : Sees w e 1 A n (ib k l)) (hm : m ≤ n) : Sees w e 1 A m (ib k (l.take m)) := by
  have := h.take hm
  simpa only [Nat.mul_one, ib_take] using this
theorem take_snoc {α} {l : List α} {k : Nat} {c : α} (h : l[k]? = some c) : l.take (k + 1) = l.take k ++ [c] := by
  rw [List.take_add_one, h]; rfl
theorem take_all {α} {l : List α} {k : Nat} (h : l.length ≤ k) : l.take k = l := List.take_of_length_le h

theorem ret_int {k : IntKind} {a b : Int} (h : a = b) : Ending.returned (.int k a) = .returned (.int k b) := by rw [h]
theorem ret_bool {a b : Bool} (h : a = b) : Ending.returned (.bool a) = .returned (.bool b) := by rw [h]
theorem ret_slice {A : Option Addr} {n m c : Nat} (h : n = m) : Ending.returned (.slice A n c) = .returned (.slice A m c) := by rw [h]

/-- Are these the same? -/
def eqB (l m : List Int) : Bool := decide (l = m)
theorem eqB_true {l m : List Int} (h : l = m) : eqB l m = true := by simp [eqB, h]
theorem eqB_false {l m : List Int} (h : l ≠ m) : eqB l m = false := by simp [eqB, h]
theorem eqB_iff {l m : List Int} : eqB l m = true ↔ l = m := by simp [eqB]

theorem own_mono {w : World} {base base' : Nat} {e : TypeId} {size : Nat} {v : Value} {n : Nat} {xs : List Value} (h : w.ownsRow base e size v n xs) (hb : base' ≤ base) : w.ownsRow base' e size v n xs := by
  obtain ⟨h1, h2⟩ := h
  rcases h2 with h2 | ⟨g, cap, cur, hv, hg, r⟩
  · exact ⟨h1, .inl h2⟩
  · exact ⟨h1, .inr ⟨g, cap, cur, hv, by omega, r⟩⟩
theorem own_ne {w : World} {base g : Nat} {e t : TypeId} {size n c : Nat} {A : Option Addr} {xs : List Value} {cs : Array Value} (h : w.ownsRow base e size (.slice A n c) n xs) (hb : Blk w g t cs) (hne : e ≠ t) : ∀ ad, A = some ad → 0 < n → ad.block ≠ g :=
  hb.apart (Sees.of_own h) hne
theorem Sees.grown1 {w w' : World} {e : Option TypeId} {size n g : Nat} {A : Option Addr} {xs : List Value} (h : Sees w e size A n xs) (hg : w.grownBy w' (some g)) (hA : ∀ ad, A = some ad → 0 < n → ad.block ≠ g) : Sees w' e size A n xs :=
  h.grown hg fun ad h0 h1 e => hA ad h0 h1 (by injection e with e; exact e.symm)
theorem Sees.low {w w' : World} {B : Nat} {e : Option TypeId} {size n : Nat} {A : Option Addr} {xs : List Value} (h : Sees w e size A n xs) (hb : Below B w w') (hA : ∀ ad, A = some ad → 0 < n → ad.block < B) : Sees w' e size A n xs :=
  h.keep fun k hk hh => by obtain ⟨ad, h0, rfl, h1⟩ := hh; exact hb.block _ (hA ad h0 h1)
theorem own_apart {w : World} {base g : Nat} {e t : TypeId} {size n c : Nat} {A : Option Addr} {xs : List Value} {cs : Array Value} (h : w.ownsRow base e size (.slice A n c) n xs) (hb : Blk w g t cs) (hne : e ≠ t) : ∀ ad, A = some ad → ad.block ≠ g := by
  rintro ad rfl rfl
  rcases h.2 with ⟨hv, _⟩ | ⟨g', cap, cur, hv, _, hg', _⟩
  · cases hv
  · injection hv with hA
    injection hA with hA
    subst hA
    unfold Blk at hb
    rw [hb] at hg'
    injection hg' with hg'
    injection hg' with _ ht _
    exact hne ht.symm
theorem own_grown1 {w w' : World} {base g : Nat} {e : TypeId} {size n c : Nat} {A : Option Addr} {xs : List Value} (h : w.ownsRow base e size (.slice A n c) n xs) (hg : w.grownBy w' (some g)) (hA : ∀ ad, A = some ad → ad.block ≠ g) : w'.ownsRow base e size (.slice A n c) n xs := by
  rcases A with _ | ad
  · exact h.kept hg (.inl rfl)
  · exact h.kept hg (.inr (by simp only [Value.ownBlock]; intro e; injection e with e; exact hA ad rfl e))

theorem quietA {P : Program} {f : FuncId} {args : Array Value} {w : World} {n : Nat} {v : Value} (h : Calls P f args (w.drewN n) fun e w' => e = .returned v ∧ ∃ nq, w' = (w.drewN n).drewN nq) :
    Calls P f args (w.drewN n) fun e w' => e = .returned v ∧ ∃ nq, w' = w.drewN nq :=
  h.mono fun _ _ ⟨he, m, hm⟩ => ⟨he, n + m, by rw [hm, World.drewN_drewN]⟩
theorem quietB {P : Program} {f : FuncId} {args : Array Value} {w : World} {n : Nat} {v : Value} (h : Calls P f args (w.drewN n) fun e w' => e = .returned v ∧ w.drewN n = w') :
    Calls P f args (w.drewN n) fun e w' => e = .returned v ∧ ∃ nq, w' = w.drewN nq :=
  h.mono fun _ _ ⟨he, hm⟩ => ⟨he, n, hm.symm⟩
/-- The arms of quiet regions that stand at draws already. -/
theorem quietC {P : Program} {f : FuncId} {args : Array Value} {w : World} {a n : Nat} {v : Value} (h : Calls P f args (w.drewN (a + n)) fun e w' => e = .returned v ∧ ∃ nq, w' = (w.drewN (a + n)).drewN nq) :
    Calls P f args (w.drewN (a + n)) fun e w' => e = .returned v ∧ ∃ nq, w' = w.drewN (a + nq) :=
  h.mono fun _ _ ⟨he, m, hm⟩ => ⟨he, n + m, by rw [hm, World.drewN_drewN, Nat.add_assoc]⟩
theorem quietD {P : Program} {f : FuncId} {args : Array Value} {w : World} {a n : Nat} {v : Value} (h : Calls P f args (w.drewN (a + n)) fun e w' => e = .returned v ∧ w.drewN (a + n) = w') :
    Calls P f args (w.drewN (a + n)) fun e w' => e = .returned v ∧ ∃ nq, w' = w.drewN (a + nq) :=
  h.mono fun _ _ ⟨he, hm⟩ => ⟨he, n, hm.symm⟩
end Go.Proofs.Ytmhmldpccccjbaa

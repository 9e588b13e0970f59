/- Words that every walk of this seat uses: lists of integers as cells, what is equal, what a walk ends with. No condition. -/
import Derived.Test.YtmhmldpccccjbaaRows
import Derived.Test.YtmhmldpccccjbaaLaw
import Derived.WalkKit
import Derived.BigQuiet
import Derived.WalkLawsBesides
import Derived.Lib.Hide
import Derived.WalkSpells
import Derived.Deep.QuietTactic
import Derived.Deep.RegionHeld3
namespace Go.Proofs.Ytmhmldpccccjbaa
open Go.RowKit
set_option linter.unusedVariables false

/-- Numbers as cells. -/
def ib (k : IntKind) (l : List Int) : List Value := l.map (Value.int k)

theorem ib_length (k : IntKind) (l : List Int) : (ib k l).length = l.length := by simp [ib]
theorem ib_take (k : IntKind) (l : List Int) (a : Nat) : (ib k l).take a = ib k (l.take a) := by simp [ib]
theorem ib_drop (k : IntKind) (l : List Int) (a : Nat) : (ib k l).drop a = ib k (l.drop a) := by simp [ib]
theorem Sees.len {w : World} {e : Option TypeId} {A : Option Addr} {n : Nat} {k : IntKind} {l : List Int} (h : Sees w e 1 A n (ib k l)) : l.length = n := by
  have := h.1
  simpa [ib_length] using this
theorem Sees.cut {w : World} {e : Option TypeId} {A : Option Addr} {n cap a m : Nat} {k : IntKind} {l : List Int} (h : Sees w e 1 A n (ib k l)) (hc : n ≤ cap) (ha : a ≤ n) (hm : m ≤ n - a) :
    Sees w e 1 (if cap = a then A else A.map (·.add a)) m (ib k ((l.drop a).take m)) := by
  have := (h.drop ha hc).take hm
  simpa only [Nat.mul_one, ib_drop, ib_take] using this
theorem Sees.head {w : World} {e : Option TypeId} {A : Option Addr} {n m : Nat} {k : IntKind} {l : List Int} (h : Sees w e 1 A n (ib k l)) (hm : m ≤ n) : Sees w e 1 A m (ib k (l.take m)) := by
  have := h.take hm
  simpa only [Nat.mul_one, ib_take] using this
/-- Are these the same? -/
def eqB (l m : List Int) : Bool := decide (l = m)
theorem own_mono {w : World} {base base' : Nat} {e : TypeId} {size : Nat} {v : Value} {n : Nat} {xs : List Value} (h : w.ownsRow base e size v n xs) (hb : base' ≤ base) : w.ownsRow base' e size v n xs := by
  obtain ⟨h1, h2⟩ := h
  rcases h2 with h2 | ⟨g, cap, cur, hv, hg, r⟩
  · exact ⟨h1, .inl h2⟩
  · exact ⟨h1, .inr ⟨g, cap, cur, hv, by omega, r⟩⟩
theorem Sees.low {w w' : World} {B : Nat} {e : Option TypeId} {size n : Nat} {A : Option Addr} {xs : List Value} (h : Sees w e size A n xs) (hb : Below B w w') (hA : ∀ ad, A = some ad → 0 < n → ad.block < B) : Sees w' e size A n xs :=
  h.keep fun k hk hh => by obtain ⟨ad, h0, rfl, h1⟩ := hh; exact hb.block _ (hA ad h0 h1)
theorem own_grown1 {w w' : World} {base g : Nat} {e : TypeId} {size n c : Nat} {A : Option Addr} {xs : List Value} (h : w.ownsRow base e size (.slice A n c) n xs) (hg : w.grownBy w' (some g)) (hA : ∀ ad, A = some ad → ad.block ≠ g) : w'.ownsRow base e size (.slice A n c) n xs := by
  rcases A with _ | ad
  · exact h.kept hg (.inl rfl)
  · exact h.kept hg (.inr (by simp only [Value.ownBlock]; intro e; injection e with e; exact hA ad rfl e))

end Go.Proofs.Ytmhmldpccccjbaa
